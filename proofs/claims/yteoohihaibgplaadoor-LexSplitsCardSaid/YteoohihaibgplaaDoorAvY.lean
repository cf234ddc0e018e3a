/-
  Control over states as data, calls, contracts.
-/
import Derived.Test.YteoohihaibgplaaDoorAvX
namespace Go.AV
open Go.RowKit Go.RG Go.Lib

theorem VRs.weak {G : Gh} {us : List AV} {vs : List Value} (h : VRs G us vs) : VRs G (weaks us) vs := ⟨by rw [weaks_len]; exact h.1, fun j u x hu hx => by obtain ⟨w, e1, rfl⟩ := weaks_at us j u hu; exact (h.2 j w x e1 hx).weak⟩

theorem Contract.weakR {P : Program} {f : FuncId} {args : List AV} {H : Hp} {n : Nat} {Post : AV → Hp → Nat → Prop} (h : Contract P f args H n fun av H' n' => Post (weak av) H' n') : Contract P f args H n Post := fun G vs hg hM hV =>
  (h G vs hg hM hV).mono fun _ _ ⟨v, av, H', n', G', a1, a2, a3, a4, a5, a6⟩ => ⟨v, weak av, H', n', G', a1, a2, a3, a4, a5.weak, by rw [weak_noL]; exact a6⟩

/-! ### calls -/
/-- what is handed over: own rows are made ones for good -/
def pubLD : List AV → DS → Option (List AV × List (Nat × Nat) × DS)
  | [], ds => some ([], [], ds)
  | v :: r, ds => match v.noL with
    | true => match pubLD r ds with
      | some (vs, kl, d1) => some (v :: vs, kl, d1)
      | none => none
    | false => match v with
      | .gs (.l d c) n => match ds.kb d c with
        | some b => match Nat.beq b.cells.length (n * b.sz) && noLs b.cells with
          | true => match pubLD r (ds.set d c none) with
            | some (vs, kl, d1) => some (.sl false n b.cells :: vs, (d, c) :: kl, d1)
            | none => none
          | false => none
        | none => none
      | _ => none
theorem kill_toD {ds : DS} {d c : Nat} {b : KB} (h : ds.kb d c = some b) : (toD ds).kill (.l d c) = toD (ds.set d c none) := by
  have hc := kb_c h
  unfold St.kill toD
  simp only [St.mk.injEq]
  exact ⟨by rw [set_fr], by rw [set_M ds d c _ (hc.imp id (·.1))]; rfl, by rw [set_cn hc], by rw [set_nx]⟩
theorem pubLD_ok : ∀ (vs : List AV) (ds : DS) (vs' : List AV) (kl : List (Nat × Nat)) (d1 : DS), DOk ds → pubLD vs ds = some (vs', kl, d1) → pubL vs (toD ds) = (vs', toD d1) ∧ pkL vs (toD ds) = kl ∧ DOk d1 ∧ d1.H = ds.H ∧ d1.nx = ds.nx
  | [], ds, vs', kl, d1, hk, h => by simp only [pubLD, Option.some.injEq, Prod.mk.injEq] at h; obtain ⟨rfl, rfl, rfl⟩ := h; exact ⟨rfl, rfl, hk, rfl, rfl⟩
  | v :: r, ds, vs', kl, d1, hk, h => by
    simp only [pubLD] at h
    split at h
    · rename_i hn
      split at h
      · rename_i vs kl' d1' h1
        cases h
        obtain ⟨a1, a2, a3, a4⟩ := pubLD_ok r ds _ _ _ hk h1
        have e1 : pubV v (toD ds) = (v, toD ds) := by simp only [pubV, hn, if_true]
        have e2 : pkV v (toD ds) = [] := by simp only [pkV, hn, if_true]
        refine ⟨?_, ?_, a3, a4⟩
        · simp only [pubL, e1, a1]
        · simp only [pkL, e2, List.nil_append]; exact a2
      · cases h
    · rename_i hn
      split at h
      · rename_i d c n
        split at h
        · rename_i b hb
          split at h
          · rename_i hc
            simp only [Bool.and_eq_true] at hc
            split at h
            · rename_i vs kl' d1' h1
              cases h
              obtain ⟨a1, a2, a3, a4, a5⟩ := pubLD_ok r _ _ _ _ (hk.set ((kb_c hb).imp id (·.1)) fun x hx => by cases hx) h1
              have hm : (toD ds).M (.l d c) = some b.blk := by show (ds.kb d c).map KB.blk = _; rw [hb]; rfl
              have hcond : b.blk.cells.length = n * b.blk.sz ∧ b.blk.sz ≠ 0 ∧ noLs b.blk.cells = true := ⟨nbeq.1 hc.1, (hk d c b hb).1, hc.2⟩
              have e1 : pubV (.gs (.l d c) n) (toD ds) = (.sl false n b.cells, toD (ds.set d c none)) := by
                simp only [pubV, hn, Bool.false_eq_true, if_false, pub1, hm]
                rw [if_pos hcond, kill_toD hb]; rfl
              have e2 : pkV (.gs (.l d c) n) (toD ds) = [(d, c)] := by
                simp only [pkV, hn, Bool.false_eq_true, if_false, pk1, hm]
                rw [if_pos hcond]
              have e3 : (toD ds).kills [(d, c)] = toD (ds.set d c none) := by rw [← kill_toD hb]; rfl
              refine ⟨?_, ?_, a3, by rw [a4, set_H], by rw [a5, set_nx]⟩
              · simp only [pubL, e1, a1]
              · simp only [pkL, e2, e3, a2]; rfl
            · cases h
          · cases h
        · cases h
      · cases h

/-- who is called with what -/
def CalO (o : AO) (ds : DS) (f : FuncId) (vs : List AV) : Prop := (∃ args, o.op = .call f args ∧ args.map (ev (lkF ds.fr)) = vs) ∨ ∃ x args first cap, o.op = .calv x args ∧ ev (lkF ds.fr) x = .fn (.func f) first cap ∧ first ++ args.map (ev (lkF ds.fr)) ++ cap = vs

section
variable {P : Program} {B : Base} [GB P B] {N : Nat} {ro : Option Nat} {hs : Nat → Bool} {L : List AO} {LD : List (AO × List Nat)} {Q : KS → Prop} {QD : St → Prop} {ds : DS} {i : Nat} {acc : List Foot}

end

section
variable {P : Program} {B : Base} [GB P B] {N : Nat} {ro : Option Nat} {hs : Nat → Bool} {L : List AO} {Q : KS → Prop} {ks : KS} {i : Nat}

/-! ### control -/
def sqQ (Q : AEx → KS → Prop) (K : KS → Prop) : AEx → KS → Prop := fun e ks => match e with
  | .n => K ks
  | .x i => Q (.x i) ks
  | .r => Q .r ks
def bkQ (id : Nat) (Q : AEx → KS → Prop) : AEx → KS → Prop := fun e ks => match e with
  | .n => Q .n ks
  | .x i => match Nat.beq i id with
    | true => Q .n ks
    | false => Q (.x i) ks
  | .r => Q .r ks

theorem PostK.mono {Q Q' : AEx → KS → Prop} (h : ∀ e ks, Q e ks → Q' e ks) {e : Exit} {a : Act} {w : World} (hp : PostK B N Q e a w) : PostK B N Q' e a w := by
  obtain ⟨ks, G, h1, h2, h3⟩ := hp
  refine ⟨ks, G, h1, h2, ?_⟩
  cases e <;> first | exact h _ _ h3 | exact h3

theorem tr_ops {c : Code} (h : trC P N c = some (.ops L)) : ∃ id ops, c = .region id ops false ∧ trOps P N ops ops.toList = some L := by
  cases c
  case region id ops draw =>
    cases draw with
    | false => simp only [trC] at h; obtain ⟨l, hl, e⟩ := Option.map_eq_some_iff.1 h; cases e; exact ⟨id, ops, rfl, hl⟩
    | true => simp only [trC] at h; obtain ⟨l, hl, e⟩ := Option.map_eq_some_iff.1 h; cases e
  all_goals (exfalso; revert h; unfold trC; (try split) <;> (try split) <;> simp)
theorem tr_drw {c : Code} {l : List (AO × List Nat)} (h : trC P N c = some (.drw l)) : ∃ id ops, c = .region id ops true ∧ trD P N ops = some l := by
  cases c
  case region id ops draw =>
    cases draw with
    | false => simp only [trC] at h; obtain ⟨l, hl, e⟩ := Option.map_eq_some_iff.1 h; cases e
    | true => simp only [trC] at h; obtain ⟨l, hl, e⟩ := Option.map_eq_some_iff.1 h; cases e; exact ⟨id, ops, rfl, hl⟩
  all_goals (exfalso; revert h; unfold trC; (try split) <;> (try split) <;> simp)
theorem tr_skip {c : Code} (h : trC P N c = some .skip) : c = .skip := by
  cases c
  case skip => rfl
  case region id ops draw => cases draw <;> (exfalso; revert h; unfold trC; simp)
  all_goals (exfalso; revert h; unfold trC; (try split) <;> (try split) <;> simp)
theorem tr_seq {c : Code} {a b : ACode} (h : trC P N c = some (.seq a b)) : ∃ x y, c = .seq x y ∧ trC P N x = some a ∧ trC P N y = some b := by
  cases c
  case seq x y =>
    simp only [trC] at h
    split at h
    · rename_i h1 h2; cases h; exact ⟨x, y, rfl, h1, h2⟩
    · cases h
  case region id ops draw => cases draw <;> (exfalso; revert h; unfold trC; simp)
  all_goals (exfalso; revert h; unfold trC; (try split) <;> (try split) <;> simp)
theorem tr_cond {c : Code} {u : AOpd} {a b : ACode} (h : trC P N c = some (.cond u a b)) : ∃ o x y, c = .cond o x y ∧ trOpd P N o = some u ∧ trC P N x = some a ∧ trC P N y = some b := by
  cases c
  case cond o x y =>
    simp only [trC] at h
    split at h
    · rename_i h0 h1 h2; cases h; exact ⟨o, x, y, rfl, h0, h1, h2⟩
    · cases h
  case region id ops draw => cases draw <;> (exfalso; revert h; unfold trC; simp)
  all_goals (exfalso; revert h; unfold trC; (try split) <;> (try split) <;> simp)
theorem tr_block {c : Code} {id : Nat} {a : ACode} (h : trC P N c = some (.block id a)) : ∃ x, c = .block id x ∧ trC P N x = some a := by
  cases c
  case block id' x => simp only [trC] at h; obtain ⟨l, hl, e⟩ := Option.map_eq_some_iff.1 h; cases e; exact ⟨x, rfl, hl⟩
  case region id ops draw => cases draw <;> (exfalso; revert h; unfold trC; simp)
  all_goals (exfalso; revert h; unfold trC; (try split) <;> (try split) <;> simp)
theorem tr_loop {c : Code} {a : ACode} (h : trC P N c = some (.loop a)) : ∃ x, c = .loop x ∧ trC P N x = some a := by
  cases c
  case loop x => simp only [trC] at h; obtain ⟨l, hl, e⟩ := Option.map_eq_some_iff.1 h; cases e; exact ⟨x, rfl, hl⟩
  case region id ops draw => cases draw <;> (exfalso; revert h; unfold trC; simp)
  all_goals (exfalso; revert h; unfold trC; (try split) <;> (try split) <;> simp)
theorem tr_exit {c : Code} {id : Nat} (h : trC P N c = some (.exit id)) : c = .exit id := by
  cases c
  case exit id' => simp only [trC, Option.some.injEq, ACode.exit.injEq] at h; rw [h]
  case region id ops draw => cases draw <;> (exfalso; revert h; unfold trC; simp)
  all_goals (exfalso; revert h; unfold trC; (try split) <;> (try split) <;> simp)
theorem tr_ret {c : Code} (h : trC P N c = some .ret) : c = .ret := by
  cases c
  case ret => rfl
  case region id ops draw => cases draw <;> (exfalso; revert h; unfold trC; simp)
  all_goals (exfalso; revert h; unfold trC; (try split) <;> (try split) <;> simp)

theorem WK_ops {Q : AEx → KS → Prop} (h : WD P B N ro L 0 (Q .n) (ofK ks)) : WK P B N ro (.ops L) Q ks := by
  have _ := (inferInstance : GB P B)
  intro c ht a G hR
  obtain ⟨id, ops, rfl, hl⟩ := tr_ops ht
  have := h ops [] ops.toList rfl (by rw [List.drop_zero]; exact hl) a G ⟨by rw [ofK_toD]; exact hR.1, ofK_ok hR.2⟩
  have h2 : wpOpsIn (FR ro) 0 P ops (PostK B N (nQ (Q .n))) (List.range ops.size) a G.w := by rw [List.range_eq_range']; simpa using this
  exact wpIn_mono (wpIn_region h2) fun e a w hp => PostK.mono (fun e ks q => by cases e <;> first | exact q | exact q.elim) hp
theorem WK_seq {a b : ACode} {Q : AEx → KS → Prop} (h : WK P B N ro a (sqQ Q (WK P B N ro b Q)) ks) : WK P B N ro (.seq a b) Q ks := by
  have _ := (inferInstance : GB P B)
  intro c ht act G hR
  obtain ⟨x, y, rfl, h1, h2⟩ := tr_seq ht
  refine wpIn_seq (wpIn_mono (h x h1 act G hR) ?_)
  rintro e a' w' ⟨k', G', hR', rfl, hq⟩
  cases e with
  | normal => exact hq y h2 a' G' hR'
  | exit id => exact ⟨k', G', hR', rfl, hq⟩
  | ret => exact ⟨k', G', hR', rfl, hq⟩
  | goto l => exact hq.elim
  | panic ch => exact hq.elim
  | outgrown => exact hq.elim
theorem WK_skip {Q : AEx → KS → Prop} (h : Q .n ks) : WK P B N ro .skip Q ks := by
  have _ := (inferInstance : GB P B)
  intro c ht a G hR
  rw [tr_skip ht]
  exact wpIn_skip ⟨ks, G, hR, rfl, h⟩
theorem WK_exit {id : Nat} {Q : AEx → KS → Prop} (h : Q (.x id) ks) : WK P B N ro (.exit id) Q ks := by
  have _ := (inferInstance : GB P B)
  intro c ht a G hR
  rw [tr_exit ht]
  exact wpIn_exit ⟨ks, G, hR, rfl, h⟩
theorem WK_ret {Q : AEx → KS → Prop} (h : Q .r ks) : WK P B N ro .ret Q ks := by
  have _ := (inferInstance : GB P B)
  intro c ht a G hR
  rw [tr_ret ht]
  exact wpIn_ret ⟨ks, G, hR, rfl, h⟩
theorem WK_cond {u : AOpd} {t e : ACode} {b : Bool} {Q : AEx → KS → Prop} (hv : ev (lkF ks.fr) u = .bl b) (h1 : b = true → WK P B N ro t Q ks) (h2 : b = false → WK P B N ro e Q ks) : WK P B N ro (.cond u t e) Q ks := by
  intro c ht a G hR
  obtain ⟨o, x, y, rfl, g0, g1, g2⟩ := tr_cond ht
  exact wpIn_cond_split (trOpd_bool hR.1 g0 hv) (fun hb => h1 hb x g1 a G hR) (fun hb => h2 hb y g2 a G hR)
theorem WK_block {id : Nat} {a : ACode} {Q : AEx → KS → Prop} (h : WK P B N ro a (bkQ id Q) ks) : WK P B N ro (.block id a) Q ks := by
  have _ := (inferInstance : GB P B)
  intro c ht act G hR
  obtain ⟨x, rfl, h1⟩ := tr_block ht
  refine wpIn_block (wpIn_mono (h x h1 act G hR) ?_)
  rintro e a' w' ⟨k', G', hR', rfl, hq⟩
  cases e with
  | normal => exact ⟨k', G', hR', rfl, hq⟩
  | exit id' =>
    simp only [exK, bkQ] at hq
    show if id' = id then _ else _
    split at hq
    · rename_i e; rw [if_pos (nbeq.1 e)]; exact ⟨k', G', hR', rfl, hq⟩
    · rename_i e; rw [if_neg (fun q => by rw [nbeq.2 q] at e; cases e)]; exact ⟨k', G', hR', rfl, hq⟩
  | ret => exact ⟨k', G', hR', rfl, hq⟩
  | goto l => exact hq.elim
  | panic ch => exact hq.elim
  | outgrown => exact hq.elim

/-- a loop: the least of what its rounds lead to -/
theorem wp_loop_lfp {F : Fence} {nn : Nat} {c : Code} {Q : Exit → Act → World → Prop} {a : Act} {w : World} (h : ∀ X : Act → World → Prop, (∀ a w, c.wpIn F nn P (Exit.then X Q) a w → X a w) → X a w) : (Code.loop c).wpIn F nn P Q a w := by
  intro b k cs hro hb hr
  have key : ∃ e a' w', Q e a' w' ∧ ArrivesIn (Machine.fenced P F) P (lone (b.atR a (.code c :: .inLoop c :: k)) cs w) b k cs e a' w' := by
    refine h (fun a w => ∃ e a' w', Q e a' w' ∧ ArrivesIn (Machine.fenced P F) P (lone (b.atR a (.code c :: .inLoop c :: k)) cs w) b k cs e a' w') fun a w hw => ?_
    obtain ⟨e, a₁, w₁, hq, harr⟩ := hw b (.inLoop c :: k) cs hro hb hr
    cases e with
    | normal =>
      obtain ⟨e₂, a₂, w₂, hq₂, harr₂⟩ := hq
      exact ⟨e₂, a₂, w₂, hq₂, .of_steps (StepsIn.trans harr (.one (fenced_calm hb hr rfl) stepR_inLoop)) harr₂⟩
    | exit id => exact ⟨_, a₁, w₁, hq, .pass (x := .inLoop c) rfl (fun _ _ => .inl (by simp)) harr⟩
    | goto l => exact ⟨_, a₁, w₁, hq, .pass (x := .inLoop c) rfl (fun _ _ => .inl (by simp)) harr⟩
    | ret => exact ⟨_, a₁, w₁, hq, .pass (x := .inLoop c) rfl (fun _ _ => .inl (by simp)) harr⟩
    | panic ch => exact ⟨_, a₁, w₁, hq, .pass (x := .inLoop c) rfl (fun _ _ => .inl (by simp)) harr⟩
    | outgrown => exact ⟨_, a₁, w₁, hq, .pass (x := .inLoop c) rfl (fun _ _ => .inl (by simp)) harr⟩
  obtain ⟨e, a', w', hq, harr⟩ := key
  exact ⟨e, a', w', hq, .of_steps (.one (fenced_calm hb hr rfl) stepR_loop) harr⟩
theorem WK_loop {u : ACode} {Q : AEx → KS → Prop} (h : ∀ X : KS → Prop, (∀ ks, WK P B N ro u (sqQ Q X) ks → X ks) → X ks) : WK P B N ro (.loop u) Q ks := by
  have _ := (inferInstance : GB P B)
  intro c ht a G hR
  obtain ⟨x, rfl, h1⟩ := tr_loop ht
  refine wp_loop_lfp fun X' hX' => ?_
  refine h (fun ks => ∀ a G, RelK B N ks a G → X' a G.w) (fun ks hw a G hR => ?_) a G hR
  refine hX' a G.w (wpIn_mono (hw x h1 a G hR) ?_)
  rintro e a' w' ⟨k', G', hR', rfl, hq⟩
  cases e with
  | normal => exact hq a' G' hR'
  | exit id => exact ⟨k', G', hR', rfl, hq⟩
  | ret => exact ⟨k', G', hR', rfl, hq⟩
  | goto l => exact hq.elim
  | panic ch => exact hq.elim
  | outgrown => exact hq.elim
theorem WK_drw {l : List (AO × List Nat)} {Q : AEx → KS → Prop} (h : DD P l 0 [] (fun S => RE B N S (Q .n)) (ofK ks)) : WK P B N ro (.drw l) Q ks := by
  intro c ht a G hR
  obtain ⟨id, ops, rfl, hl⟩ := tr_drw ht
  have h' := h (ofK_ok hR.2)
  rw [List.drop_zero, ofK_toD] at h'
  refine runD_ok hl h' hR.1 fun S a G hQ hR => ?_
  obtain ⟨k1, G1, e1, e2, e3⟩ := hQ a G hR
  exact ⟨k1, G1, e2, e1, e3⟩
end

/-! ### a function -/
def entF : List AV → Nat → List (Nat × AV)
  | [], _ => []
  | u :: r, i => (i, u) :: entF r (i + 1)
def entK (args : List AV) (H : Hp) (n : Nat) : KS := ⟨entF args 0, [], H, n⟩
theorem lkF_ent : ∀ (args : List AV) (i t : Nat), lkF (entF args i) t = if i ≤ t then (args[t - i]?).getD .un else .un
  | [], i, t => by simp [entF, lkF]
  | u :: r, i, t => by
    simp only [entF]
    rw [lkF_cons, lkF_ent r (i + 1) t]
    by_cases h : i = t
    · subst h; simp
    · simp only [h, if_false]
      by_cases h2 : i ≤ t
      · have h3 : i + 1 ≤ t := by omega
        rw [if_pos h2, if_pos h3]
        have : t - i = (t - (i + 1)) + 1 := by omega
        rw [this, List.getElem?_cons_succ]
      · have h3 : ¬ i + 1 ≤ t := by omega
        rw [if_neg h2, if_neg h3]
def retK (l : List (Nat × Option Nat)) (Post : AV → Hp → Nat → Prop) : AEx → KS → Prop
  | .x _, _ => False
  | _, ks => wpv (resA (toS ks) l) fun u => u.noL = true ∧ Post (weak u) ks.H ks.nx

theorem contractK {P : Program} {f : FuncId} {F : AFn} (hF : trF P f = some F) {args : List AV} {H : Hp} {n : Nat} {Post : AV → Hp → Nat → Prop} (hN : args.length ≤ F.N) (hnl : noLs args = true) (hw : ∀ (B : Base) [GB P B], (LentB B) → WK P B F.N none F.body (retK F.res Post) (entK args H n)) : Contract P f args H n Post := by
  refine Contract.weakR ?_
  intro G vs hg hM hV
  haveI : GB P (gBase G n) := GB.of hg hM
  unfold trF at hF
  split at hF <;> first | (cases hF; done) | skip
  rename_i fn hfn
  split at hF <;> first | (cases hF; done) | skip
  rename_i b hb
  split at hF <;> first | (cases hF; done) | skip
  rename_i r c hr hc
  cases hF
  split at hb
  · cases hb
  · rename_i hname
    have hcall : (callFunc f vs).run P G.w = .ok (.enter f vs) G.w := by
      simp only [callFunc, Sem.run_bind, run_program, Result.andThen_ok, hfn]
      rw [if_neg hname]
      simp [hb]
    unfold CallW
    rw [hcall]
    have hvl : vs.size = args.length := by simpa using hV.1
    have hBl : ∀ d c, (gBase G n).κ (.l d c) = none := fun d c => hM.κnone (k := .l d c) rfl
    have hrel : Rel (gBase G n) fn.ntmps (entry args H n) { tmps := vs ++ Array.replicate (fn.ntmps - vs.size) undef, defers := [] } G := by
      refine { (show MRel (gBase G n) (entry args H n) G from hM.fr (entry args H n).fr) with defers := DfOk.nil _ _, tsize := by simp [hvl]; simp only at hN; omega, slot := ?_ }
      intro t v hv
      show VR G (argF args t) v
      unfold argF
      by_cases ht : t < vs.size
      · rw [Array.getElem?_append_left ht] at hv
        have hta : t < args.length := by omega
        rw [List.getElem?_eq_getElem hta]
        exact hV.2 t _ v (List.getElem?_eq_getElem hta) (by simpa using hv)
      · rw [Array.getElem?_append_right (by omega)] at hv
        rw [List.getElem?_eq_none (by omega)]
        have hv' : v = undef := by
          rw [Array.getElem?_replicate] at hv
          split at hv
          · exact (Option.some.inj hv).symm
          · cases hv
        rw [hv']
        exact .tup [] #[] rfl (fun j u x hu => by simp at hu)
    have hfr : ∀ t, RV (fun _ => none) (entry args H n) (fun _ => False) (lkF (entK args H n).fr t) ((entry args H n).fr t) := by
      intro t
      show RV _ _ _ (lkF (entF args 0) t) (argF args t)
      rw [lkF_ent]
      simp only [Nat.zero_le, if_true, Nat.sub_zero]
      unfold argF
      cases hq : args[t]? with
      | none => exact .un _
      | some u => exact .no u (noLs_at hnl t u hq)
    obtain ⟨G1, w1, hrel1⟩ := rek_ok (ks := entK args H n) (ρ := fun _ => none) (p := fun _ => False) hrel (LentB.none hBl) { fix := fun d k _ h => (by cases h), dom := fun d b h => (by cases h), at' := fun d k h => (by cases h), inj := fun d d' k h => (by cases h), disj := fun k d h => h.elim, pub := fun k h => h.elim, H := fun _ => rfl, nx := rfl, fr := hfr }
    refine (callsIn_wide (n := 0)).1 (callsIn_of_wp_marks hfn hb trivial ?_)
    rw [← w1]
    refine wpIn_mono (hw (gBase G n) (LentB.none hBl) b hc _ G1 ⟨hrel1, fun d b h => by cases h⟩) ?_
    rintro e a' w' ⟨k', G', hR, rfl, hq⟩
    have fin : retK r Post .r k' → LeavesInM Fence.wide 0 P fn a'.tmps (fun e w' => ∃ v av H' n' G', e = .returned v ∧ Post (weak av) H' n' ∧ MRel (gBase G n) (hSt H' n') G' ∧ G'.w = w' ∧ VR G' av v ∧ av.noL = true) a'.defers .returning G'.w := by
      intro hq
      obtain ⟨u, hu, hno, hP⟩ := wpv_out hq
      obtain ⟨rs, G0, d1, d2, d3, d4, d5⟩ := hR.1.leave
      rw [d1]
      refine leaves_ok rs _ d2 d3 ?_
      obtain ⟨v, hrun, hv⟩ := resA_ok d5 hr hu
      obtain ⟨G2, q1, q2, q3, q4, q5⟩ := d5.toMRel.forget hBl
      rw [d4] at hrun
      exact ⟨v, hrun, v, _, _, _, G2, rfl, hP, q2, q1.trans d4, VR.noL (G := G0) (G' := G2) q3 q4 q5 q1 hv hno, hno⟩
    cases e with
    | normal => exact fin hq
    | ret => exact fin hq
    | exit id => exact hq.elim
    | goto l => exact hq.elim
    | panic ch => exact hq.elim
    | outgrown => exact hq.elim

/-- a function that only tells a value -/
theorem pureK {P : Program} {f : FuncId} {F : AFn} (hF : trF P f = some F) {args : List AV} {v : AV} (hN : args.length ≤ F.N) (hnl : noLs args = true) (hw : ∀ (B : Base) [GB P B] (H : Hp) (n : Nat), (LentB B) → WK P B F.N none F.body (retK F.res fun av H' n' => av = v ∧ H' = H ∧ n' = n) (entK args H n)) : Pure P f args v :=
  fun H n => contractK hF hN hnl fun B _ hB => hw B H n hB
/-! ### calls, as they are typed by a program -/
section
variable {P : Program} {B : Base} [GB P B] {N : Nat} {ro : Option Nat} {L : List AO} {LD : List (AO × List Nat)} {Q : KS → Prop} {QD : St → Prop} {ds : DS} {i : Nat} {acc : List Foot}
end
end Go.AV

