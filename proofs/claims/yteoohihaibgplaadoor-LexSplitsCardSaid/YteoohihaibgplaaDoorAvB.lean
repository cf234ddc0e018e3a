/-
  One operation, abstractly ('aop'), and that it is sound.
-/
import Derived.Test.YteoohihaibgplaaDoorAvC
namespace Go.AV
open Go.RowKit Go.RG Go.Lib

/-- the bytes that cells hold -/
def byteA : AV → Option UInt8
  | .it .u8 n => some (UInt8.ofNat n.toNat)
  | _ => none
def bytesA : List AV → Option (List UInt8)
  | [] => some []
  | u :: r => match byteA u, bytesA r with
    | some b, some bs => some (b :: bs)
    | _, _ => none
def encB (l : List UInt8) : List AV := l.map fun b => .it .u8 b.toNat

/-- a value that must be there -/
def wpv {α : Type} (o : Option α) (K : α → Prop) : Prop := match o with
  | some u => K u
  | none => False
theorem wpv_some {α : Type} (u : α) (K : α → Prop) : wpv (some u) K = K u := rfl
theorem wpv_out {α : Type} {o : Option α} {K : α → Prop} (h : wpv o K) : ∃ u, o = some u ∧ K u := by
  cases o with
  | none => exact h.elim
  | some u => exact ⟨u, rfl, h⟩

/-- the place of a new thing: a site that is no slot's is 0 -/
def site (d : Option Nat) : Nat := d.getD 0

def isH : Key → Bool
  | .h _ => true
  | .l _ _ => false

/-- append's target -/
def aapp (hs : Nat → Bool) (d e sz m : Nat) (ys : List AV) (S : St) (K : AV → St → Prop) : AV → Prop
  | .sl true _ _ => if m = 0 then K (.sl true 0 []) S else hOk (keyAt hs S d) ys = true ∧ K (.gs (keyAt hs S d) m) (S.new hs d ⟨e, sz, ys⟩)
  | .gs k n => wpv (S.M k) fun b => b.e = e ∧ b.sz = sz ∧ b.cells.length = n * sz ∧ n ≤ 1000000000 ∧ (isH k = true → hs d = true) ∧ hOk (keyAt hs (S.kill k) d) (b.cells ++ ys) = true ∧ K (.gs (keyAt hs (S.kill k) d) (n + m)) ((S.kill k).new hs d ⟨e, sz, b.cells ++ ys⟩)
  | _ => False

/-- a row of the frame's own, cut -/
def cutR (sz : Nat) (S : St) (k : Key) (n : Nat) (lo hi : Option Int) (K : AV → St → Prop) : Prop := match lo, hi with
  | some 0, some q => wpv (S.M k) fun b => b.sz = sz ∧ 0 < sz ∧ 0 ≤ q ∧ q ≤ n ∧ n * sz ≤ b.cells.length ∧ hOk k (b.cells.take (q.toNat * sz)) = true ∧ K (.gs k q.toNat) (S.setM k { b with cells := b.cells.take (q.toNat * sz) })
  | _, _ => False

/-- what an operation does; CA: calls -/
def aop (hs : Nat → Bool) (CA : Cal → List AV → St → (AV → St → Prop) → Prop) (u : AOp) (d : Option Nat) (S : St) (K : AV → St → Prop) : Prop :=
  match u with
  | .box e sz x => (ev S.fr x).cells.length = sz ∧ (ev S.fr x).cells.all AV.one = true ∧ 0 < sz ∧ hOk (keyAt hs S (site d)) (ev S.fr x).cells = true ∧ K (.pt (keyAt hs S (site d)) 0) (S.new hs (site d) ⟨e, sz, (ev S.fr x).cells⟩)
  | .bsl e sz len z parts => z.length = sz ∧ 0 < sz ∧ len * sz ≤ 16777216 ∧ wpv (fillA (zerosL z len) (parts.map fun p => (p.1, p.2.1, ev S.fr p.2.2))) fun cs => hOk (keyAt hs S (site d)) (cs.map weak) = true ∧ K (.gs (keyAt hs S (site d)) len) (S.new hs (site d) ⟨e, sz, cs.map weak⟩)
  | .mks e sz bytes z l c => match ev S.fr l, ev S.fr c with
    | .it _ n, .it _ m => n = m ∧ 0 ≤ n ∧ z.length = sz ∧ 0 < sz ∧ bytes * n.toNat ≤ 281474976710656 ∧ n ≤ 1000000000 ∧ hOk (keyAt hs S (site d)) (zerosL z n.toNat) = true ∧ K (.gs (keyAt hs S (site d)) n.toNat) (S.new hs (site d) ⟨e, sz, zerosL z n.toNat⟩)
    | _, _ => False
  | .ld g sz x => wpv (tgt S (ev S.fr x)) fun p => wpv (if g then (if p.2 + sz ≤ p.1.length then some (.agg ((p.1.drop p.2).take sz)) else none) else p.1[p.2]?) fun u => K u S
  | .sto sz x y => match ev S.fr x with
    | .pt k off => wpv (S.M k) fun b => b.sz ≠ 0 ∧ (ev S.fr y).cells.length = sz ∧ (ev S.fr y).cells.all AV.one = true ∧ off + sz ≤ b.cells.length ∧ hOk k (b.cells.take off ++ (ev S.fr y).cells ++ b.cells.drop (off + sz)) = true ∧
        K .un (S.setM k { b with cells := b.cells.take off ++ (ev S.fr y).cells ++ b.cells.drop (off + sz) })
    | _ => False
  | .app e sz bytes x y => 0 < sz ∧ bytes ≤ 100000 ∧ wpv (srcA S (ev S.fr y)) fun p => p.2.length = p.1 * sz ∧ p.1 ≤ 400000000 ∧ aapp hs (site d) e sz p.1 p.2 S K (ev S.fr x)
  | .apps e x y => match ev S.fr y with
    | .st l => l.length ≤ 400000000 ∧ aapp hs (site d) e 1 l.length (encB l) S K (ev S.fr x)
    | _ => False
  | .b2s x => match ev S.fr x with
    | .sl _ n xs => xs.length = n ∧ wpv (bytesA xs) fun l => K (.st l) S
    | .gs k n => wpv (S.M k) fun b => b.sz ≠ 0 ∧ b.cells.length = n ∧ wpv (bytesA b.cells) fun l => K (.st l) S
    | _ => False
  | .call f args => CA (.f f) (args.map (ev S.fr)) S K
  | .calv x args => match ev S.fr x with
    | .fn (.func f) first cap => CA (.f f) (first ++ args.map (ev S.fr) ++ cap) S K
    | .yld o => CA (.y o) (args.map (ev S.fr)) S K
    | _ => False
  | .s2b _ _ => False
  | .sll sz x lo hi => match ev S.fr x with
    | .gs k n => cutR sz S k n (bnd (ev S.fr) 0 lo) (bnd (ev S.fr) n hi) K
    | _ => wpv (pval (liveB S) (ev S.fr) (.sll sz x lo hi)) fun v => K v S
  | u => wpv (pval (liveB S) (ev S.fr) u) fun v => K v S

section
variable {P : Program} {B : Base} [GB P B] {N : Nat} {S : St} {a : Act} {G : Gh} {hs : Nat → Bool} {o : Oper} {K : AV → St → Prop} {next : Act → World → Prop} {Q : Exit → Act → World → Prop}

theorem of_y (h : Rel B N S a G) (hn : Nxt B N a o K next) {u : AOp} (hA : wpv (pval (liveB S) (ev S.fr) u) fun v => K v S) (hy : ∀ v, pval (liveB S) (ev S.fr) u = some v → Yields P a G o v) : o.wp P a G.w next Q := by
  have _ := (inferInstance : GB P B)
  obtain ⟨v, e, hK⟩ := wpv_out hA
  obtain ⟨x, hr, hv⟩ := hy v e
  exact wp_val hr (hn v x S G hK h hv)

theorem of_calls (h : Rel B N S a G) (hn : Nxt B N a o K next) {f : FuncId} {args : List AV} {vs : Array Value} (hx : (execOp a.eval o).run P G.w = (callFunc f vs).run P G.w) (hv : VRs G args vs.toList) (hc : CallsA P (.f f) args S K) : o.wp P a G.w next Q := by
  have hcw := calls_ok h hv hc
  unfold Oper.wp
  rw [hx]
  unfold CallW at hcw
  split at hcw
  · rename_i v w' e
    rw [e]
    obtain ⟨v', av, S', G', h1, h2, h3, h4, h5, _⟩ := hcw
    cases h1
    rw [← h4]
    exact hn av v S' G' h2 h3 h5
  · rename_i g as w' e
    rw [e]
    refine Calls.mono hcw ?_
    rintro e w'' ⟨v', av, S', G', h1, h2, h3, h4, h5, _⟩
    subst h1
    rw [← h4]
    exact hn av v' S' G' h2 h3 h5
  · exact hcw.elim

theorem bytesA_ok : ∀ {us : List AV} {l : List UInt8}, bytesA us = some l → ∃ zs : List Int, us = zs.map (AV.it .u8) ∧ l = zs.map fun n => UInt8.ofNat n.toNat := by
  intro us
  induction us with
  | nil => intro l h; simp only [bytesA, Option.some.injEq] at h; subst h; exact ⟨[], rfl, rfl⟩
  | cons u us ih =>
    intro l h
    simp only [bytesA] at h
    split at h
    · rename_i b bs h1 h2
      simp only [Option.some.injEq] at h; subst h
      obtain ⟨zs, e1, e2⟩ := ih h2
      unfold byteA at h1
      split at h1
      · rename_i n
        simp only [Option.some.injEq] at h1
        exact ⟨n :: zs, by rw [e1]; rfl, by rw [e2, ← h1]; rfl⟩
      · cases h1
    · cases h

theorem y_b2s (h : Rel B N S a G) {src dst e : TypeId} {x : Operand} {us : List AV} {l : List UInt8} {b off n cap : Nat} (ho : o.op = .convert src dst x) (hs' : P.underlying src = some (.slice e)) (he : P.underlying e = some (.int .u8)) (hd : P.underlying dst = some .string) (hx : a.eval x = .slice (some ⟨b, off, none⟩) n cap)
    (hat : At G us b off) (hl : us.length = n) (hb : bytesA us = some l) : Yields P a G o (.st l) := by
  have _ := (inferInstance : GB P B)
  obtain ⟨zs, e1, e2⟩ := bytesA_ok hb
  refine ⟨.string (strOfNums zs), ?_, .st _ _ (by rw [strOfNums_data, e2])⟩
  have := run_convert_bytes_arg (P := P) G.w src e hs' he b off n cap zs (by rw [← hl, e1]; simp) (fun i hi => by
    have hlt : i < zs.length := by rw [← hl, e1] at hi; simpa using hi
    obtain ⟨v, p, q, _⟩ := hat i (.it .u8 zs[i]) (by rw [e1]; simp [hlt])
    rw [p, q.it_inv]
    simp [List.getD, hlt]) dst hd
  simp only [execOp, ho, hx, Sem.run_bind, this, Result.andThen_ok, Sem.run_pure]

theorem encB_told (s : ByteArray) : Told G (encB s.data.toList) (strCells s) := by
  refine ⟨by simp [encB, strCells], ?_, ?_⟩
  · intro j u x hu hx
    simp only [encB, strCells, List.getElem?_map] at hu hx
    cases hq : s.data.toList[j]? with
    | none => rw [hq] at hu; cases hu
    | some b => rw [hq] at hu hx; simp only [Option.map_some, Option.some.injEq] at hu hx; subst hu; subst hx; exact .it _ _
  · intro x hx
    simp only [strCells, List.mem_map] at hx
    obtain ⟨b, _, rfl⟩ := hx
    rfl

theorem app_of {d e sz m : Nat} {ys : List AV} {us : AV} (hA : aapp hs d e sz m ys S K us) : App S hs d e sz m ys K us ∧ ∀ k n, us = .gs k n → n ≤ 1000000000 := by
  cases us <;> simp only [aapp] at hA <;> first | (exact hA.elim) | skip
  · rename_i z n xs
    cases z <;> simp only [aapp] at hA
    split at hA
    · rename_i h0; exact ⟨.nil0 n xs h0 hA, fun k n e => by cases e⟩
    · rename_i h0; exact ⟨.nil n xs (by omega) hA.1 hA.2, fun k n e => by cases e⟩
  · rename_i k n
    obtain ⟨b, hk, h1, h2, h3, h4, h5, h6, h7⟩ := wpv_out hA
    exact ⟨.own k n b hk h1 h2 h3 (fun ⟨o, ho⟩ => h5 (by rw [ho]; rfl)) h6 h7, fun k' n' e => by cases e; exact h4⟩

end
end Go.AV

