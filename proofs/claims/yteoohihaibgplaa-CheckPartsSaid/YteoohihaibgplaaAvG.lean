/-
  Typed rows: slices and own rows that tell lists of plain data; loops of plain data.
-/
import Derived.Test.YteoohihaibgplaaAvY
namespace Go.AV
open Go.RowKit Go.RG Go.Lib

/-- plain data as cells -/
structure Enc (T : Type) where
  c : T → List AV
  sz : Nat
  pos : 0 < sz
  len : ∀ x, (c x).length = sz
  no : ∀ x, noLs (c x) = true
  one : ∀ x, (c x).all AV.one = true
def cl {T : Type} (E : Enc T) (l : List T) : List AV := l.flatMap E.c
def slA {T : Type} (E : Enc T) (l : List T) : AV := .sl false l.length (cl E l)
def rwB {T : Type} (e : Nat) (E : Enc T) (l : List T) : KB := ⟨e, E.sz, cl E l, true⟩
/-- an own row -/
def rwA (s c : Nat) {T : Type} (l : List T) : AV := .gs (.l s c) l.length

section
variable {T : Type} (E : Enc T)
theorem cl_len (l : List T) : (cl E l).length = l.length * E.sz := by
  induction l with
  | nil => simp [cl]
  | cons x l ih => simp only [cl, List.flatMap_cons, List.length_append, List.length_cons, E.len] at ih ⊢; rw [ih, Nat.add_mul]; omega
theorem cl_no (l : List T) : noLs (cl E l) = true := by
  induction l with
  | nil => rfl
  | cons x l ih => rw [show cl E (x :: l) = E.c x ++ cl E l from by simp [cl], noLs_append, E.no, ih]; rfl
theorem cl_app (l k : List T) : cl E (l ++ k) = cl E l ++ cl E k := by simp [cl]
theorem cl_at {l : List T} {m : Nat} {y : T} (h : l[m]? = some y) (o w : Nat) (hw : o + w ≤ E.sz) : ((cl E l).drop (m * E.sz + o)).take w = ((E.c y).drop o).take w := by
  induction l generalizing m with
  | nil => simp at h
  | cons x l ih =>
    have e : cl E (x :: l) = E.c x ++ cl E l := by simp [cl]
    rw [e]
    cases m with
    | zero =>
      simp at h; subst h
      rw [Nat.zero_mul, Nat.zero_add, List.drop_append_of_le_length (by rw [E.len]; omega), List.take_append_of_le_length (by simp [E.len]; omega)]
    | succ m =>
      have := ih (m := m) (by simpa using h)
      rw [← this]
      congr 1
      rw [show (m + 1) * E.sz + o = E.sz + (m * E.sz + o) by rw [Nat.add_mul]; omega]
      have h2 : E.sz = (E.c x).length := (E.len x).symm
      rw [h2, ← List.drop_drop, List.drop_left]
theorem cl_get {l : List T} {m : Nat} {y : T} (h : l[m]? = some y) (o : Nat) (ho : o < E.sz) : (cl E l)[m * E.sz + o]? = (E.c y)[o]? := by
  have := cl_at E h o 1 (by omega)
  have h1 : ∀ (k : List AV) (n : Nat), k[n]? = ((k.drop n).take 1)[0]? := by intro k n; simp [List.getElem?_take]
  rw [h1, this, ← h1]
theorem cl_set {l : List T} {m : Nat} {y y' : T} (h : l[m]? = some y) (o w : Nat) (hw : o + w ≤ E.sz) {vs : List AV} (hy : (E.c y).take o ++ vs ++ (E.c y).drop (o + w) = E.c y') :
    (cl E l).take (m * E.sz + o) ++ vs ++ (cl E l).drop (m * E.sz + o + w) = cl E (l.set m y') := by
  induction l generalizing m with
  | nil => simp at h
  | cons x l ih =>
    have e : cl E (x :: l) = E.c x ++ cl E l := by simp [cl]
    rw [e]
    cases m with
    | zero =>
      simp at h; subst h
      rw [List.set_cons_zero, show cl E (y' :: l) = E.c y' ++ cl E l by simp [cl], ← hy]
      rw [Nat.zero_mul, Nat.zero_add, List.take_append_of_le_length (by rw [E.len]; omega), List.drop_append_of_le_length (by rw [E.len]; omega)]
      simp
    | succ m =>
      rw [List.set_cons_succ, show cl E (x :: l.set m y') = E.c x ++ cl E (l.set m y') by simp [cl], ← ih (m := m) (by simpa using h)]
      have h2 : E.sz = (E.c x).length := (E.len x).symm
      rw [show (m + 1) * E.sz + o = (E.c x).length + (m * E.sz + o) by rw [← h2, Nat.add_mul]; omega, show (E.c x).length + (m * E.sz + o) + w = (E.c x).length + (m * E.sz + o + w) by omega]
      rw [List.take_length_add_append, List.drop_length_add_append]
      simp
theorem cl_sub (l : List T) (a b : Nat) : ((cl E l).drop (a * E.sz)).take (b * E.sz) = cl E ((l.drop a).take b) := by
  induction l generalizing a with
  | nil => simp [cl]
  | cons x l ih =>
    have e : cl E (x :: l) = E.c x ++ cl E l := by simp [cl]
    have h2 : E.sz = (E.c x).length := (E.len x).symm
    cases a with
    | zero =>
      simp only [Nat.zero_mul, List.drop_zero]
      clear ih
      have key : ∀ (k : List T) (b : Nat), (cl E k).take (b * E.sz) = cl E (k.take b) := by
        intro k
        induction k with
        | nil => intro b; simp [cl]
        | cons z k ihk =>
          intro b
          have h3 : E.sz = (E.c z).length := (E.len z).symm
          cases b with
          | zero => simp [cl]
          | succ b =>
            rw [List.take_succ_cons, show cl E (z :: k) = E.c z ++ cl E k by simp [cl], show cl E (z :: k.take b) = E.c z ++ cl E (k.take b) by simp [cl], ← ihk b, show (b + 1) * E.sz = (E.c z).length + b * E.sz by rw [← h3, Nat.add_mul]; omega, List.take_length_add_append]
      exact key _ b
    | succ a =>
      rw [e, List.drop_succ_cons, ← ih a, show (a + 1) * E.sz = (E.c x).length + a * E.sz by rw [← h2, Nat.add_mul]; omega, List.drop_length_add_append]
theorem cl_zeros {z : List AV} {y : T} (h : E.c y = z) (n : Nat) : zerosL z n = cl E (List.replicate n y) := by
  induction n with
  | zero => simp [zerosL, cl]
  | succ n ih => simp only [zerosL, cl, List.replicate_succ, List.flatten_cons, List.flatMap_cons, h] at ih ⊢; rw [ih]
end

section
variable {P : Program} {B : Base} {N : Nat} {ro : Option Nat} {L : List AO} {Q : KS → Prop} {ds : DS} {i : Nat} {o : AO} {T : Type} {d : Option Nat}

theorem rwB_ok (e : Nat) (E : Enc T) (l : List T) : bOk (rwB e E l) := ⟨by have := E.pos; show E.sz ≠ 0; omega, fun _ => cl_no E l⟩
theorem kld_typed (E : Enc T) {l : List T} {m of w : Nat} {y : T} {g : Bool} {v : AV} (hy : l[m]? = some y) (hv : kld g w (E.c y) of = some v) : kld g w (cl E l) (m * E.sz + of) = some v := by
  have hmlt := (List.getElem?_eq_some_iff.1 hy).1
  rw [← hv]
  cases g with
  | true =>
    simp only [kld] at hv ⊢
    split at hv
    · rename_i h1
      rw [E.len] at h1
      have hle : m * E.sz + of + w ≤ (cl E l).length := by
        rw [cl_len]
        have : (m + 1) * E.sz ≤ l.length * E.sz := Nat.mul_le_mul_right _ hmlt
        rw [Nat.add_mul] at this; omega
      have h1' : of + w ≤ (E.c y).length := by rw [E.len]; exact h1
      simp only [if_pos hle, if_pos h1', cl_at E hy of w h1]
    · cases hv
  | false =>
    simp only [kld] at hv ⊢
    have hlt := (List.getElem?_eq_some_iff.1 hv).1
    rw [E.len] at hlt
    exact cl_get E hy of hlt

/-- a load of a slice's element, or of a part of it -/
theorem E_lde (E : Enc T) {g : Bool} {w off m of : Nat} {x : AOpd} {l : List T} {y : T} {v : AV} (hk : DOk ds) (hx : ev (lkF ds.fr) x = .ep (cl E l) off) (hoff : off = m * E.sz + of) (hy : l[m]? = some y) (hv : kld g w (E.c y) of = some v) : Eff (.ld g w x) d ds (eff1 v) (ds.put d v) := by
  refine ⟨?_, eff1_app v d ds, hk.put⟩
  simp only [effA]
  rw [toD_fr, hx]
  have := kld_typed E hy hv
  rw [← hoff] at this
  show effLd g w (some (cl E l, off)) = _
  unfold effLd
  cases g with
  | true =>
    simp only [kld] at this
    split at this
    · rename_i hle; cases this; simp [hle]
    · cases this
  | false => simp only [kld] at this; simp [this, effP]
/-- a load of an own row's element, or of a part of it -/
theorem E_ldr (E : Enc T) {g : Bool} {w off m of s c e0 : Nat} {x : AOpd} {l : List T} {y : T} {v : AV} {b : Bool} (hk : DOk ds) (hx : ev (lkF ds.fr) x = .pt (.l s c) off) (hm : ds.kb s c = some ⟨e0, E.sz, cl E l, b⟩) (hoff : off = m * E.sz + of) (hy : l[m]? = some y) (hv : kld g w (E.c y) of = some v) : Eff (.ld g w x) d ds (eff1 v) (ds.put d v) := by
  refine ⟨?_, eff1_app v d ds, hk.put⟩
  simp only [effA]
  have ht : tgt (toD ds) (ev (toD ds).fr x) = some (cl E l, off) := by
    rw [toD_fr, hx]
    show (((ds.kb s c).map KB.blk).bind _) = _
    rw [hm]
    show (if E.sz = 0 then none else some (cl E l, off)) = _
    rw [if_neg (by have := E.pos; omega)]
  rw [ht]
  have := kld_typed E hy hv
  rw [← hoff] at this
  unfold effLd
  cases g with
  | true =>
    simp only [kld] at this
    split at this
    · rename_i hle; cases this; simp [hle]
    · cases this
  | false => simp only [kld] at this; simp [this, effP]
/-- a store into an own row's element, or into a part of it -/
theorem E_str (E : Enc T) {w off m of s c e0 : Nat} {x yv : AOpd} {l : List T} {y : T} (y' : T) {b : Bool} (hk : DOk ds) (hx : ev (lkF ds.fr) x = .pt (.l s c) off) (hm : ds.kb s c = some ⟨e0, E.sz, cl E l, b⟩) (hoff : off = m * E.sz + of) (hy : l[m]? = some y)
    (hvl : (Nat.beq (ev (lkF ds.fr) yv).cells.length w && (ev (lkF ds.fr) yv).cells.all AV.one && Nat.ble (of + w) E.sz) = true) (hy' : (E.c y).take of ++ (ev (lkF ds.fr) yv).cells ++ (E.c y).drop (of + w) = E.c y') :
    Eff (.sto w x yv) d ds ⟨.un, [((s, c), some ⟨e0, E.sz, cl E (l.set m y')⟩)], none, none⟩ ((ds.set s c (some (rwB e0 E (l.set m y')))).put d .un) := by
  simp only [Bool.and_eq_true] at hvl
  obtain ⟨⟨hv1, hv2⟩, hv3⟩ := hvl
  have hv1 := nbeq.1 hv1
  have hv3 := Nat.le_of_ble_eq_true hv3
  have hcc := kb_c hm
  have hmlt := (List.getElem?_eq_some_iff.1 hy).1
  have hle : off + w ≤ (cl E l).length := by
    rw [cl_len, hoff]
    have : (m + 1) * E.sz ≤ l.length * E.sz := Nat.mul_le_mul_right _ hmlt
    rw [Nat.add_mul] at this; omega
  have hset := cl_set E hy of w hv3 hy'
  rw [← hoff] at hset
  refine ⟨?_, set_app (b := rwB e0 E (l.set m y')) hcc, DOk.put (hk.set (hcc.imp id (·.1)) fun x hx => by cases hx; exact rwB_ok e0 E _)⟩
  simp only [effA]
  rw [toD_fr, hx]
  show (((ds.kb s c).map KB.blk).bind _) = _
  rw [hm]
  simp only [Option.map_some, Option.bind_some, KB.blk]
  rw [if_pos ⟨by have := E.pos; omega, hv1, hv2, hle, rfl⟩, hset]
/-- append to an own row -/
theorem E_app (E : Enc T) {e0 sz bytes s c m n : Nat} {x y : AOpd} {l l2 : List T} {b : Bool} {cs : List AV} (hk : DOk ds) (hx : ev (lkF ds.fr) x = .gs (.l s c) n) (hn : n = l.length) (hm : ds.kb s c = some ⟨e0, E.sz, cl E l, b⟩) (hsz : sz = E.sz) (hby : (Nat.ble bytes 100000 && !memO ds.nw (site d)) = true)
    (hsrc : srcA (toD ds) (ev (lkF ds.fr) y) = some (m, cs)) (hm2 : m = l2.length) (hcs : cs = cl E l2) (hl1 : l.length ≤ 1000000000) (hl2 : l2.length ≤ 400000000) :
    Eff (.app e0 sz bytes x y) d ds ⟨rwA (site d) 2 (l ++ l2), [((s, c), none), ((site d, 2), some ⟨e0, E.sz, cl E (l ++ l2)⟩)], some (site d), none⟩ (((ds.set s c none).set (site d) 2 (some (rwB e0 E (l ++ l2)))).put d (rwA (site d) 2 (l ++ l2))) := by
  subst hn; subst hsz; subst hm2; subst hcs
  simp only [Bool.and_eq_true, Bool.not_eq_true'] at hby
  have hcc := kb_c hm
  refine ⟨?_, newX_app (b := rwB e0 E (l ++ l2)) hby.2 hcc, DOk.put ((hk.set (hcc.imp id (·.1)) fun x hx => by cases hx).set (.inr rfl) fun x hx => by cases hx; exact rwB_ok e0 E _)⟩
  simp only [effA]
  rw [toD_fr, hsrc, Option.bind_some, if_pos ⟨E.pos, Nat.le_of_ble_eq_true hby.1, cl_len E l2, hl2⟩, hx]
  simp only [effApp]
  show (((ds.kb s c).map KB.blk).bind _) = _
  rw [hm]
  simp only [Option.map_some, Option.bind_some, KB.blk]
  rw [if_pos ⟨trivial, trivial, cl_len E l, hl1⟩, effNew_D hby.2, ← cl_app, show l.length + l2.length = (l ++ l2).length by simp]
  rfl
/-- append to nothing -/
theorem E_app0 (E : Enc T) {e0 sz bytes m n : Nat} {x y : AOpd} {l2 : List T} {xs cs : List AV} (hk : DOk ds) (hx : ev (lkF ds.fr) x = .sl true n xs) (hsz : sz = E.sz) (hby : (Nat.ble bytes 100000 && !memO ds.nw (site d)) = true)
    (hsrc : srcA (toD ds) (ev (lkF ds.fr) y) = some (m, cs)) (hm2 : m = l2.length) (hcs : cs = cl E l2) (hne : l2 ≠ []) (hl2 : l2.length ≤ 400000000) :
    Eff (.app e0 sz bytes x y) d ds ⟨rwA (site d) 2 l2, [((site d, 2), some ⟨e0, E.sz, cl E l2⟩)], some (site d), none⟩ ((ds.set (site d) 2 (some (rwB e0 E l2))).put d (rwA (site d) 2 l2)) := by
  subst hsz; subst hm2; subst hcs
  simp only [Bool.and_eq_true, Bool.not_eq_true'] at hby
  refine ⟨?_, new_app (b := rwB e0 E l2) hby.2, DOk.put (hk.set (.inr rfl) fun x hx => by cases hx; exact rwB_ok e0 E _)⟩
  simp only [effA]
  rw [toD_fr, hsrc, Option.bind_some, if_pos ⟨E.pos, Nat.le_of_ble_eq_true hby.1, cl_len E l2, hl2⟩, hx]
  simp only [effApp]
  rw [if_neg (fun q => hne (List.eq_nil_of_length_eq_zero q)), effNew_D hby.2]
  rfl
/-- append nothing to nothing -/
theorem E_app00 {e0 sz bytes m n : Nat} {x y : AOpd} {xs cs : List AV} (hk : DOk ds) (hx : ev (lkF ds.fr) x = .sl true n xs) (hby : (Nat.ble bytes 100000 && Nat.ble 1 sz) = true) (hsrc : srcA (toD ds) (ev (lkF ds.fr) y) = some (m, cs)) (hm2 : m = 0) (hcs : cs = []) :
    Eff (.app e0 sz bytes x y) d ds (eff1 (.sl true 0 [])) (ds.put d (.sl true 0 [])) := by
  subst hm2; subst hcs
  simp only [Bool.and_eq_true] at hby
  refine ⟨?_, eff1_app _ d ds, hk.put⟩
  simp only [effA]
  rw [toD_fr, hsrc, Option.bind_some, if_pos ⟨Nat.le_of_ble_eq_true hby.2, Nat.le_of_ble_eq_true hby.1, by simp, by omega⟩, hx]
  simp [effApp]
theorem E_app00s (E : Enc T) {e0 sz bytes n : Nat} {x y : AOpd} {l2 : List T} {xs : List AV} (hk : DOk ds) (hx : ev (lkF ds.fr) x = .sl true n xs) (hby : (Nat.ble bytes 100000 && Nat.ble 1 sz) = true) (hy : ev (lkF ds.fr) y = slA E l2) (he : l2 = []) :
    Eff (.app e0 sz bytes x y) d ds (eff1 (.sl true 0 [])) (ds.put d (.sl true 0 [])) := by
  subst he
  exact E_app00 hk hx hby (m := 0) (cs := []) (by rw [hy]; rfl) rfl rfl
theorem E_app00r (E : Enc T) {e0 sz bytes n s c e1 : Nat} {x y : AOpd} {l2 : List T} {xs : List AV} {b : Bool} (hk : DOk ds) (hx : ev (lkF ds.fr) x = .sl true n xs) (hby : (Nat.ble bytes 100000 && Nat.ble 1 sz) = true) (hy : ev (lkF ds.fr) y = rwA s c l2) (hm : ds.kb s c = some ⟨e1, E.sz, cl E l2, b⟩) (he : l2 = []) :
    Eff (.app e0 sz bytes x y) d ds (eff1 (.sl true 0 [])) (ds.put d (.sl true 0 [])) := by
  subst he
  refine E_app00 hk hx hby (m := 0) (cs := []) ?_ rfl rfl
  rw [hy]
  show ((toD ds).M (.l s c)).bind _ = _
  rw [show (toD ds).M (.l s c) = some ⟨e1, E.sz, cl E []⟩ by show (ds.kb s c).map KB.blk = _; rw [hm]; rfl]
  show (if E.sz = 0 then none else _) = _
  rw [if_neg (by have := E.pos; omega)]; rfl
/-- a part of a slice -/
theorem E_sll (E : Enc T) {sz n : Nat} {x : AOpd} {lo hi : Option AOpd} {z : Bool} {l : List T} {a b : Int} (hk : DOk ds) (hx : ev (lkF ds.fr) x = .sl z n (cl E l)) (hn : n = l.length) (hsz : sz = E.sz) (hlo : bnd (ev (lkF ds.fr)) 0 lo = some a) (hhi : bnd (ev (lkF ds.fr)) n hi = some b) (hc : 0 ≤ a ∧ a ≤ b ∧ b ≤ l.length) :
    Eff (.sll sz x lo hi) d ds (eff1 (.sl z ((l.drop a.toNat).take (b.toNat - a.toNat)).length (cl E ((l.drop a.toNat).take (b.toNat - a.toNat))))) (ds.put d (.sl z ((l.drop a.toNat).take (b.toNat - a.toNat)).length (cl E ((l.drop a.toNat).take (b.toNat - a.toNat))))) := by
  subst hn; subst hsz
  refine ⟨?_, eff1_app _ d ds, hk.put⟩
  simp only [effA]
  rw [toD_fr, hx]
  simp only [effSll, pval]
  rw [hx]
  simp only
  rw [hlo, hhi]
  simp only
  rw [if_pos hc, cl_sub]
  have : b.toNat - a.toNat = ((l.drop a.toNat).take (b.toNat - a.toNat)).length := by simp; omega
  rw [← this]
  rfl
/-- an own row is cut -/
theorem E_cut (E : Enc T) {sz n s c e0 : Nat} {x : AOpd} {lo hi : Option AOpd} {l : List T} {q : Bool} {b : Int} (hk : DOk ds) (hx : ev (lkF ds.fr) x = .gs (.l s c) n) (hn : n = l.length) (hm : ds.kb s c = some ⟨e0, E.sz, cl E l, q⟩) (hsz : sz = E.sz) (hlo : bnd (ev (lkF ds.fr)) 0 lo = some 0) (hhi : bnd (ev (lkF ds.fr)) n hi = some b) (hc : 0 ≤ b ∧ b ≤ l.length) :
    Eff (.sll sz x lo hi) d ds ⟨rwA s c (l.take b.toNat), [((s, c), some ⟨e0, E.sz, cl E (l.take b.toNat)⟩)], none, none⟩ ((ds.set s c (some (rwB e0 E (l.take b.toNat)))).put d (rwA s c (l.take b.toNat))) := by
  subst hn; subst hsz
  have hcc := kb_c hm
  refine ⟨?_, set_app (b := rwB e0 E (l.take b.toNat)) hcc, DOk.put (hk.set (hcc.imp id (·.1)) fun x hx => by cases hx; exact rwB_ok e0 E _)⟩
  simp only [effA]
  rw [toD_fr, hx]
  simp only [effSll]
  rw [hlo, hhi]
  simp only [effCut]
  show (((ds.kb s c).map KB.blk).bind _) = _
  rw [hm]
  simp only [Option.map_some, Option.bind_some, KB.blk]
  rw [if_pos ⟨trivial, E.pos, hc.1, hc.2, by rw [cl_len]; exact Nat.le_refl _⟩]
  have h1 : (cl E l).take (b.toNat * E.sz) = cl E (l.take b.toNat) := by
    have := cl_sub E l 0 b.toNat
    simpa using this
  have h2 : b.toNat = (l.take b.toNat).length := by simp; omega
  rw [h1]
  show some (REff.mk (.gs (.l s c) b.toNat) _ none none) = some (REff.mk (.gs (.l s c) (l.take b.toNat).length) _ none none)
  rw [← h2]

/-- a slot's value in other words -/
theorem put_same {ds : DS} {t : Nat} {u u' : AV} (hv : lkF ds.fr t = u) (hu : u = u') : toD (ds.put (some t) u') = toD ds := by
  subst hu
  rw [← putD_toD]
  unfold toD St.put
  simp only [St.mk.injEq, and_true]
  funext x
  unfold upd
  by_cases h : x = t
  · subst h; simp [hv]
  · simp [h]
theorem WD_val (t : Nat) (u u' : AV) (hv : lkF ds.fr t = u) (hu : u = u') (h : WD P B N ro L i Q (ds.put (some t) u')) : WD P B N ro L i Q ds := by
  intro ops pre suf he ht a G hR
  exact h ops pre suf he ht a G ⟨by rw [put_same hv hu]; exact hR.1, hR.2.put⟩
theorem DD_val {LD : List (AO × List Nat)} {QD : St → Prop} {acc : List Foot} (t : Nat) (u u' : AV) (hv : lkF ds.fr t = u) (hu : u = u') (h : DD P LD i acc QD (ds.put (some t) u')) : DD P LD i acc QD ds := by
  intro hk
  rw [← put_same hv hu]
  exact h hk.put

/-! ### bytes -/
def eU8 : Enc Int := ⟨fun n => [.it .u8 n], 1, by omega, fun _ => rfl, fun _ => rfl, fun _ => rfl⟩
def toB (n : Int) : UInt8 := UInt8.ofNat n.toNat
def ofB (b : UInt8) : Int := (b.toNat : Int)
theorem bytes_cl (l : List Int) : bytesA (cl eU8 l) = some (l.map toB) := by
  induction l with
  | nil => rfl
  | cons x l ih =>
    rw [show cl eU8 (x :: l) = .it .u8 x :: cl eU8 l by simp [cl, eU8]]
    simp only [bytesA, byteA, ih]
    rfl
theorem encB_cl (l : List UInt8) : encB l = cl eU8 (l.map ofB) := by
  induction l with
  | nil => rfl
  | cons x l ih =>
    rw [List.map_cons, show cl eU8 (ofB x :: l.map ofB) = .it .u8 (ofB x) :: cl eU8 (l.map ofB) by simp [cl, eU8], ← ih]
    rfl
/-- a text is appended to an own row of bytes -/
theorem E_apps {e0 s c n : Nat} {x y : AOpd} {l : List Int} {t : List UInt8} {b : Bool} (hk : DOk ds) (hx : ev (lkF ds.fr) x = .gs (.l s c) n) (hn : n = l.length) (hm : ds.kb s c = some ⟨e0, 1, cl eU8 l, b⟩) (hnw : memO ds.nw (site d) = false) (hy : ev (lkF ds.fr) y = .st t) (hl1 : l.length ≤ 1000000000) (hl2 : t.length ≤ 400000000) :
    Eff (.apps e0 x y) d ds ⟨rwA (site d) 2 (l ++ t.map ofB), [((s, c), none), ((site d, 2), some ⟨e0, 1, cl eU8 (l ++ t.map ofB)⟩)], some (site d), none⟩ (((ds.set s c none).set (site d) 2 (some (rwB e0 eU8 (l ++ t.map ofB)))).put d (rwA (site d) 2 (l ++ t.map ofB))) := by
  subst hn
  have hcc := kb_c hm
  refine ⟨?_, newX_app (b := rwB e0 eU8 (l ++ t.map ofB)) hnw hcc, DOk.put ((hk.set (hcc.imp id (·.1)) fun x hx => by cases hx).set (.inr rfl) fun x hx => by cases hx; exact rwB_ok e0 eU8 _)⟩
  simp only [effA]
  rw [toD_fr, hx, hy]
  simp only
  rw [if_pos hl2]
  simp only [effApp]
  show (((ds.kb s c).map KB.blk).bind _) = _
  rw [hm]
  simp only [Option.map_some, Option.bind_some, KB.blk]
  rw [if_pos ⟨trivial, trivial, by rw [cl_len]; simp [eU8], hl1⟩, effNew_D hnw, encB_cl, ← cl_app, show l.length + t.length = (l ++ t.map ofB).length by simp]
  rfl
/-- a text is appended to nothing -/
theorem E_apps0 {e0 n : Nat} {x y : AOpd} {xs : List AV} {t : List UInt8} (hk : DOk ds) (hx : ev (lkF ds.fr) x = .sl true n xs) (hnw : memO ds.nw (site d) = false) (hy : ev (lkF ds.fr) y = .st t) (hne : t ≠ []) (hl2 : t.length ≤ 400000000) :
    Eff (.apps e0 x y) d ds ⟨rwA (site d) 2 (t.map ofB), [((site d, 2), some ⟨e0, 1, cl eU8 (t.map ofB)⟩)], some (site d), none⟩ ((ds.set (site d) 2 (some (rwB e0 eU8 (t.map ofB)))).put d (rwA (site d) 2 (t.map ofB))) := by
  refine ⟨?_, new_app (b := rwB e0 eU8 (t.map ofB)) hnw, DOk.put (hk.set (.inr rfl) fun x hx => by cases hx; exact rwB_ok e0 eU8 _)⟩
  simp only [effA]
  rw [toD_fr, hx, hy]
  simp only
  rw [if_pos hl2]
  simp only [effApp]
  rw [if_neg (fun q => hne (List.eq_nil_of_length_eq_zero q)), effNew_D hnw, encB_cl, show t.length = (t.map ofB).length by simp]
  rfl
/-- a text of nothing is appended to nothing -/
theorem E_apps00 {e0 n : Nat} {x y : AOpd} {xs : List AV} {t : List UInt8} (hk : DOk ds) (hx : ev (lkF ds.fr) x = .sl true n xs) (hy : ev (lkF ds.fr) y = .st t) (hne : t = []) : Eff (.apps e0 x y) d ds (eff1 (.sl true 0 [])) (ds.put d (.sl true 0 [])) := by
  subst hne
  refine ⟨?_, eff1_app _ d ds, hk.put⟩
  simp only [effA]
  rw [toD_fr, hx, hy]
  simp [effApp]

/-- a new row of zero values -/
theorem WD_mks (E : Enc T) {e0 sz bytes : Nat} {z : List AV} {x y : AOpd} {k k' : IntKind} {q : Int} {v : T} (e : L[i]? = some o) (ho : o.op = .mks e0 sz bytes z x y) (hg : gok o.guard ds.fr = true) (hx : ev (lkF ds.fr) x = .it k q) (hy : ev (lkF ds.fr) y = .it k' q) (hsz : sz = E.sz) (hz : E.c v = z) (hnw : memO ds.nw (site o.dst) = false)
    (h0 : 0 ≤ q) (h1 : bytes * q.toNat ≤ 281474976710656) (h2 : q ≤ 1000000000) (h : WD P B N ro L (i + 1) Q ((ds.set (site o.dst) 2 (some (rwB e0 E (List.replicate q.toNat v)))).put o.dst (rwA (site o.dst) 2 (List.replicate q.toNat v)))) : WD P B N ro L i Q ds := by
  refine WD_aop (hs := fun _ => false) e hg fun hk => ?_
  subst hsz
  rw [ho]
  simp only [aop]
  rw [toD_fr, hx, hy]
  simp only
  refine ⟨trivial, h0, by rw [← hz, E.len], E.pos, h1, h2, ?_⟩
  have hkey : keyAt (fun _ => false) (toD ds) (site o.dst) = .l (site o.dst) 2 := by
    unfold keyAt; rw [cn_new hnw]; rfl
  rw [hkey, cl_zeros E hz]
  refine ⟨rfl, _, ?_, DOk.put (hk.set (.inr rfl) fun x hx => by cases hx; exact rwB_ok e0 E _), h⟩
  have := new_app (ds := ds) (b := rwB e0 E (List.replicate q.toNat v)) (v := rwA (site o.dst) 2 (List.replicate q.toNat v)) (d := o.dst) hnw
  rw [← this]
  unfold REff.app REff.mst St.new REff.cntF rwA
  simp only [Bool.false_eq_true, if_false, List.length_replicate, cn_new hnw]
  congr 1
/-- the text of an own row of bytes -/
theorem WD_b2s {s c e0 n : Nat} {x : AOpd} {l : List Int} {q : Bool} {cs : List AV} (e : L[i]? = some o) (ho : o.op = .b2s x) (hg : gok o.guard ds.fr = true) (hx : ev (lkF ds.fr) x = .gs (.l s c) n) (hm : ds.kb s c = some ⟨e0, 1, cs, q⟩) (hcs : cs = cl eU8 l) (hn : n = l.length) (h : WD P B N ro L (i + 1) Q (ds.put o.dst (.st (l.map toB)))) : WD P B N ro L i Q ds := by
  refine WD_aop (hs := fun _ => false) e hg fun hk => ?_
  subst hcs; subst hn
  rw [ho]
  simp only [aop]
  rw [toD_fr, hx]
  simp only
  rw [show (toD ds).M (.l s c) = some ⟨e0, 1, cl eU8 l⟩ by show (ds.kb s c).map KB.blk = _; rw [hm]; rfl]
  simp only [wpv_some]
  refine ⟨by omega, by rw [cl_len]; simp [eU8], ?_⟩
  rw [bytes_cl]
  simp only [wpv_some]
  exact ⟨_, putD_toD ds _ _, hk.put, h⟩
/-- the text of a slice of bytes, nil included -/
theorem WD_b2s' {n : Nat} {x : AOpd} {l : List Int} {cs : List AV} {z : Bool} (e : L[i]? = some o) (ho : o.op = .b2s x) (hg : gok o.guard ds.fr = true) (hx : ev (lkF ds.fr) x = .sl z n cs) (hcs : cs = cl eU8 l) (hn : n = l.length) (h : WD P B N ro L (i + 1) Q (ds.put o.dst (.st (l.map toB)))) : WD P B N ro L i Q ds := by
  refine WD_aop (hs := fun _ => false) e hg fun hk => ?_
  subst hcs; subst hn
  rw [ho]
  simp only [aop]
  rw [toD_fr, hx]
  simp only
  refine ⟨by rw [cl_len]; simp [eU8], ?_⟩
  rw [bytes_cl]
  simp only [wpv_some]
  exact ⟨_, putD_toD ds _ _, hk.put, h⟩
end

/-! ### the kinds of plain data -/
abbrev Str := List UInt8
def eB : Enc Bool := ⟨fun b => [.bl b], 1, by omega, fun _ => rfl, fun _ => rfl, fun _ => rfl⟩
def eI (k : IntKind) : Enc Int := ⟨fun n => [.it k n], 1, by omega, fun _ => rfl, fun _ => rfl, fun _ => rfl⟩
def eS : Enc Str := ⟨fun s => [.st s], 1, by omega, fun _ => rfl, fun _ => rfl, fun _ => rfl⟩
def eSl {T : Type} (E : Enc T) : Enc (List T) := ⟨fun l => [slA E l], 1, by omega, fun _ => rfl, fun _ => rfl, fun _ => rfl⟩
def bAt (s : Str) (i : Int) : Int := ((s[i.toNat]?.getD 0).toNat : Int)

/-! ### loops of plain data: the least of what a round asks -/
def Lp1 {α0 : Type} (F : (α0 → Prop) → α0 → Prop) (a0 : α0) : Prop := ∀ X : α0 → Prop, (∀ a0, F X a0 → X a0) → X a0
def Lp2 {α0 α1 : Type} (F : (α0 → α1 → Prop) → α0 → α1 → Prop) (a0 : α0) (a1 : α1) : Prop := ∀ X : α0 → α1 → Prop, (∀ a0 a1, F X a0 a1 → X a0 a1) → X a0 a1
def Lp3 {α0 α1 α2 : Type} (F : (α0 → α1 → α2 → Prop) → α0 → α1 → α2 → Prop) (a0 : α0) (a1 : α1) (a2 : α2) : Prop := ∀ X : α0 → α1 → α2 → Prop, (∀ a0 a1 a2, F X a0 a1 a2 → X a0 a1 a2) → X a0 a1 a2
def Lp4 {α0 α1 α2 α3 : Type} (F : (α0 → α1 → α2 → α3 → Prop) → α0 → α1 → α2 → α3 → Prop) (a0 : α0) (a1 : α1) (a2 : α2) (a3 : α3) : Prop := ∀ X : α0 → α1 → α2 → α3 → Prop, (∀ a0 a1 a2 a3, F X a0 a1 a2 a3 → X a0 a1 a2 a3) → X a0 a1 a2 a3
def Lp5 {α0 α1 α2 α3 α4 : Type} (F : (α0 → α1 → α2 → α3 → α4 → Prop) → α0 → α1 → α2 → α3 → α4 → Prop) (a0 : α0) (a1 : α1) (a2 : α2) (a3 : α3) (a4 : α4) : Prop := ∀ X : α0 → α1 → α2 → α3 → α4 → Prop, (∀ a0 a1 a2 a3 a4, F X a0 a1 a2 a3 a4 → X a0 a1 a2 a3 a4) → X a0 a1 a2 a3 a4
def Lp6 {α0 α1 α2 α3 α4 α5 : Type} (F : (α0 → α1 → α2 → α3 → α4 → α5 → Prop) → α0 → α1 → α2 → α3 → α4 → α5 → Prop) (a0 : α0) (a1 : α1) (a2 : α2) (a3 : α3) (a4 : α4) (a5 : α5) : Prop := ∀ X : α0 → α1 → α2 → α3 → α4 → α5 → Prop, (∀ a0 a1 a2 a3 a4 a5, F X a0 a1 a2 a3 a4 a5 → X a0 a1 a2 a3 a4 a5) → X a0 a1 a2 a3 a4 a5
def Lp7 {α0 α1 α2 α3 α4 α5 α6 : Type} (F : (α0 → α1 → α2 → α3 → α4 → α5 → α6 → Prop) → α0 → α1 → α2 → α3 → α4 → α5 → α6 → Prop) (a0 : α0) (a1 : α1) (a2 : α2) (a3 : α3) (a4 : α4) (a5 : α5) (a6 : α6) : Prop := ∀ X : α0 → α1 → α2 → α3 → α4 → α5 → α6 → Prop, (∀ a0 a1 a2 a3 a4 a5 a6, F X a0 a1 a2 a3 a4 a5 a6 → X a0 a1 a2 a3 a4 a5 a6) → X a0 a1 a2 a3 a4 a5 a6
def Lp8 {α0 α1 α2 α3 α4 α5 α6 α7 : Type} (F : (α0 → α1 → α2 → α3 → α4 → α5 → α6 → α7 → Prop) → α0 → α1 → α2 → α3 → α4 → α5 → α6 → α7 → Prop) (a0 : α0) (a1 : α1) (a2 : α2) (a3 : α3) (a4 : α4) (a5 : α5) (a6 : α6) (a7 : α7) : Prop := ∀ X : α0 → α1 → α2 → α3 → α4 → α5 → α6 → α7 → Prop, (∀ a0 a1 a2 a3 a4 a5 a6 a7, F X a0 a1 a2 a3 a4 a5 a6 a7 → X a0 a1 a2 a3 a4 a5 a6 a7) → X a0 a1 a2 a3 a4 a5 a6 a7
def Lp9 {α0 α1 α2 α3 α4 α5 α6 α7 α8 : Type} (F : (α0 → α1 → α2 → α3 → α4 → α5 → α6 → α7 → α8 → Prop) → α0 → α1 → α2 → α3 → α4 → α5 → α6 → α7 → α8 → Prop) (a0 : α0) (a1 : α1) (a2 : α2) (a3 : α3) (a4 : α4) (a5 : α5) (a6 : α6) (a7 : α7) (a8 : α8) : Prop := ∀ X : α0 → α1 → α2 → α3 → α4 → α5 → α6 → α7 → α8 → Prop, (∀ a0 a1 a2 a3 a4 a5 a6 a7 a8, F X a0 a1 a2 a3 a4 a5 a6 a7 a8 → X a0 a1 a2 a3 a4 a5 a6 a7 a8) → X a0 a1 a2 a3 a4 a5 a6 a7 a8
def Lp10 {α0 α1 α2 α3 α4 α5 α6 α7 α8 α9 : Type} (F : (α0 → α1 → α2 → α3 → α4 → α5 → α6 → α7 → α8 → α9 → Prop) → α0 → α1 → α2 → α3 → α4 → α5 → α6 → α7 → α8 → α9 → Prop) (a0 : α0) (a1 : α1) (a2 : α2) (a3 : α3) (a4 : α4) (a5 : α5) (a6 : α6) (a7 : α7) (a8 : α8) (a9 : α9) : Prop := ∀ X : α0 → α1 → α2 → α3 → α4 → α5 → α6 → α7 → α8 → α9 → Prop, (∀ a0 a1 a2 a3 a4 a5 a6 a7 a8 a9, F X a0 a1 a2 a3 a4 a5 a6 a7 a8 a9 → X a0 a1 a2 a3 a4 a5 a6 a7 a8 a9) → X a0 a1 a2 a3 a4 a5 a6 a7 a8 a9
def Lp11 {α0 α1 α2 α3 α4 α5 α6 α7 α8 α9 α10 : Type} (F : (α0 → α1 → α2 → α3 → α4 → α5 → α6 → α7 → α8 → α9 → α10 → Prop) → α0 → α1 → α2 → α3 → α4 → α5 → α6 → α7 → α8 → α9 → α10 → Prop) (a0 : α0) (a1 : α1) (a2 : α2) (a3 : α3) (a4 : α4) (a5 : α5) (a6 : α6) (a7 : α7) (a8 : α8) (a9 : α9) (a10 : α10) : Prop := ∀ X : α0 → α1 → α2 → α3 → α4 → α5 → α6 → α7 → α8 → α9 → α10 → Prop, (∀ a0 a1 a2 a3 a4 a5 a6 a7 a8 a9 a10, F X a0 a1 a2 a3 a4 a5 a6 a7 a8 a9 a10 → X a0 a1 a2 a3 a4 a5 a6 a7 a8 a9 a10) → X a0 a1 a2 a3 a4 a5 a6 a7 a8 a9 a10
def Lp12 {α0 α1 α2 α3 α4 α5 α6 α7 α8 α9 α10 α11 : Type} (F : (α0 → α1 → α2 → α3 → α4 → α5 → α6 → α7 → α8 → α9 → α10 → α11 → Prop) → α0 → α1 → α2 → α3 → α4 → α5 → α6 → α7 → α8 → α9 → α10 → α11 → Prop) (a0 : α0) (a1 : α1) (a2 : α2) (a3 : α3) (a4 : α4) (a5 : α5) (a6 : α6) (a7 : α7) (a8 : α8) (a9 : α9) (a10 : α10) (a11 : α11) : Prop := ∀ X : α0 → α1 → α2 → α3 → α4 → α5 → α6 → α7 → α8 → α9 → α10 → α11 → Prop, (∀ a0 a1 a2 a3 a4 a5 a6 a7 a8 a9 a10 a11, F X a0 a1 a2 a3 a4 a5 a6 a7 a8 a9 a10 a11 → X a0 a1 a2 a3 a4 a5 a6 a7 a8 a9 a10 a11) → X a0 a1 a2 a3 a4 a5 a6 a7 a8 a9 a10 a11
def Lp13 {α0 α1 α2 α3 α4 α5 α6 α7 α8 α9 α10 α11 α12 : Type} (F : (α0 → α1 → α2 → α3 → α4 → α5 → α6 → α7 → α8 → α9 → α10 → α11 → α12 → Prop) → α0 → α1 → α2 → α3 → α4 → α5 → α6 → α7 → α8 → α9 → α10 → α11 → α12 → Prop) (a0 : α0) (a1 : α1) (a2 : α2) (a3 : α3) (a4 : α4) (a5 : α5) (a6 : α6) (a7 : α7) (a8 : α8) (a9 : α9) (a10 : α10) (a11 : α11) (a12 : α12) : Prop := ∀ X : α0 → α1 → α2 → α3 → α4 → α5 → α6 → α7 → α8 → α9 → α10 → α11 → α12 → Prop, (∀ a0 a1 a2 a3 a4 a5 a6 a7 a8 a9 a10 a11 a12, F X a0 a1 a2 a3 a4 a5 a6 a7 a8 a9 a10 a11 a12 → X a0 a1 a2 a3 a4 a5 a6 a7 a8 a9 a10 a11 a12) → X a0 a1 a2 a3 a4 a5 a6 a7 a8 a9 a10 a11 a12
def Lp14 {α0 α1 α2 α3 α4 α5 α6 α7 α8 α9 α10 α11 α12 α13 : Type} (F : (α0 → α1 → α2 → α3 → α4 → α5 → α6 → α7 → α8 → α9 → α10 → α11 → α12 → α13 → Prop) → α0 → α1 → α2 → α3 → α4 → α5 → α6 → α7 → α8 → α9 → α10 → α11 → α12 → α13 → Prop) (a0 : α0) (a1 : α1) (a2 : α2) (a3 : α3) (a4 : α4) (a5 : α5) (a6 : α6) (a7 : α7) (a8 : α8) (a9 : α9) (a10 : α10) (a11 : α11) (a12 : α12) (a13 : α13) : Prop := ∀ X : α0 → α1 → α2 → α3 → α4 → α5 → α6 → α7 → α8 → α9 → α10 → α11 → α12 → α13 → Prop, (∀ a0 a1 a2 a3 a4 a5 a6 a7 a8 a9 a10 a11 a12 a13, F X a0 a1 a2 a3 a4 a5 a6 a7 a8 a9 a10 a11 a12 a13 → X a0 a1 a2 a3 a4 a5 a6 a7 a8 a9 a10 a11 a12 a13) → X a0 a1 a2 a3 a4 a5 a6 a7 a8 a9 a10 a11 a12 a13
def Lp15 {α0 α1 α2 α3 α4 α5 α6 α7 α8 α9 α10 α11 α12 α13 α14 : Type} (F : (α0 → α1 → α2 → α3 → α4 → α5 → α6 → α7 → α8 → α9 → α10 → α11 → α12 → α13 → α14 → Prop) → α0 → α1 → α2 → α3 → α4 → α5 → α6 → α7 → α8 → α9 → α10 → α11 → α12 → α13 → α14 → Prop) (a0 : α0) (a1 : α1) (a2 : α2) (a3 : α3) (a4 : α4) (a5 : α5) (a6 : α6) (a7 : α7) (a8 : α8) (a9 : α9) (a10 : α10) (a11 : α11) (a12 : α12) (a13 : α13) (a14 : α14) : Prop := ∀ X : α0 → α1 → α2 → α3 → α4 → α5 → α6 → α7 → α8 → α9 → α10 → α11 → α12 → α13 → α14 → Prop, (∀ a0 a1 a2 a3 a4 a5 a6 a7 a8 a9 a10 a11 a12 a13 a14, F X a0 a1 a2 a3 a4 a5 a6 a7 a8 a9 a10 a11 a12 a13 a14 → X a0 a1 a2 a3 a4 a5 a6 a7 a8 a9 a10 a11 a12 a13 a14) → X a0 a1 a2 a3 a4 a5 a6 a7 a8 a9 a10 a11 a12 a13 a14
def Lp16 {α0 α1 α2 α3 α4 α5 α6 α7 α8 α9 α10 α11 α12 α13 α14 α15 : Type} (F : (α0 → α1 → α2 → α3 → α4 → α5 → α6 → α7 → α8 → α9 → α10 → α11 → α12 → α13 → α14 → α15 → Prop) → α0 → α1 → α2 → α3 → α4 → α5 → α6 → α7 → α8 → α9 → α10 → α11 → α12 → α13 → α14 → α15 → Prop) (a0 : α0) (a1 : α1) (a2 : α2) (a3 : α3) (a4 : α4) (a5 : α5) (a6 : α6) (a7 : α7) (a8 : α8) (a9 : α9) (a10 : α10) (a11 : α11) (a12 : α12) (a13 : α13) (a14 : α14) (a15 : α15) : Prop := ∀ X : α0 → α1 → α2 → α3 → α4 → α5 → α6 → α7 → α8 → α9 → α10 → α11 → α12 → α13 → α14 → α15 → Prop, (∀ a0 a1 a2 a3 a4 a5 a6 a7 a8 a9 a10 a11 a12 a13 a14 a15, F X a0 a1 a2 a3 a4 a5 a6 a7 a8 a9 a10 a11 a12 a13 a14 a15 → X a0 a1 a2 a3 a4 a5 a6 a7 a8 a9 a10 a11 a12 a13 a14 a15) → X a0 a1 a2 a3 a4 a5 a6 a7 a8 a9 a10 a11 a12 a13 a14 a15
def Lp0 (F : Prop → Prop) : Prop := ∀ X : Prop, (F X → X) → X
/-- both ways of a bool -/
def cnd (b : Bool) (x y : Prop) : Prop := (b = true → x) ∧ (b = false → y)
theorem cnd_true (x y : Prop) : cnd true x y = x := by simp [cnd]
theorem cnd_false (x y : Prop) : cnd false x y = y := by simp [cnd]
theorem cnd_ite (b : Bool) (x y : Prop) : cnd b x y = if b = true then x else y := by cases b <;> simp [cnd]
theorem lt_of_at {T : Type} {l : List T} {q : Int} {y : T} (h0 : 0 ≤ q) (h : l[q.toNat]? = some y) : q < l.length := by
  have := (List.getElem?_eq_some_iff.1 h).1
  omega
end Go.AV
