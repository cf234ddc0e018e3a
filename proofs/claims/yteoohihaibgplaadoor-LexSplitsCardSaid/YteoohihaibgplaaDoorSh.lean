/-
  Functions of the library, as plain data: the shelf's contracts, lifted.
-/
import Derived.Test.YteoohihaibgplaaDoorDnR
import Derived.Lib.LaidTab
import Derived.Lib.CountLaws
import Derived.Sort.Grow
import Derived.Lib.ItoaNum
import Derived.Lib.Join
import Derived.Lib.ReplaceLaws
namespace Go.AV
open Go.RowKit Go.RG Go.Lib
theorem below_gd (w : World) (k : Nat) (os : Array Obj) : Below w.heap.size w (Sort.grow (w.drewN k) os) := by
  refine ⟨rfl, rfl, rfl, ?_, fun i hi => ?_⟩
  · show w.heap.size ≤ (w.heap ++ os).size
    rw [Array.size_append]; omega
  · show (w.heap ++ os)[i]? = w.heap[i]?
    rw [Array.getElem?_append_left hi]
/-- a function of the library's whose contract is at hand -/
theorem pure_shelf {P : Program} {f : FuncId} {fn : Func} (hfn : P.funcs[f]? = some fn) (hb : (if fn.name == "runtime.NumGoroutine" then none else fn.body).isSome = true) {args : List AV} {v : AV} (hn : v.noL = true)
    (h : ∀ (G : Gh) (vs : List Value), GOK P G.w G.I → (∀ b, G.I b → b < G.w.heap.size) → VRs G args vs → Calls P f vs.toArray G.w fun e w' => ∃ x, e = .returned x ∧ (∀ G', VR G' v x) ∧ Below G.w.heap.size G.w w') : Pure P f args v := by
  intro H n G vs hg hM hV
  obtain ⟨b, hb⟩ := Option.isSome_iff_exists.1 hb
  split at hb
  · cases hb
  · rename_i hname
    have hcall : (callFunc f vs).run P G.w = .ok (.enter f vs) G.w := by
      simp only [callFunc, Sem.run_bind, run_program, Result.andThen_ok, hfn]
      rw [if_neg hname]
      simp [hb]
    unfold CallW
    rw [hcall]
    have h0 := h G vs.toList hg hM.lt hV
    rw [Array.toArray_toList] at h0
    refine Calls.mono h0 ?_
    rintro e w' ⟨x, rfl, hx, hbl⟩
    obtain ⟨G', g1, _, g3⟩ := hM.grow hbl.size hbl.block hbl.os hbl.tape hbl.output
    exact ⟨x, v, H, n, G', rfl, ⟨rfl, rfl, rfl⟩, g1, g3, hx G', hn⟩
theorem Pure.congr {P : Program} {f : FuncId} {a a' : List AV} {v v' : AV} (h : Pure P f a v) (ha : a = a') (hv : v = v') : Pure P f a' v' := by subst ha; subst hv; exact h
theorem GOK.tab {P : Program} {w : World} {I : Nat → Prop} (h : GOK P w I) (hg : (P.globalNamed "internal/strconv.uint64pow10").isSome = true) : TabIs P w "internal/strconv.uint64pow10" .u64 pow10Tab := by
  obtain ⟨g, e⟩ := Option.isSome_iff_exists.1 hg
  obtain ⟨_, t, fr, c⟩ := h.1 _ _ (by unfold gTabs; exact List.mem_cons_self) g e
  unfold TabIs World.var?
  rw [e]
  simp only [Option.bind_some, c]
  rfl
theorem GOK.maxLen {P : Program} {w : World} {I : Nat → Prop} (h : GOK P w I) {g : Nat} (hg : P.globalNamed "internal/bytealg.MaxLen" = some g) : ∃ m, w.cell? ⟨g, 0, .none⟩ = some (.int .i64 m) := by
  obtain ⟨_, m, t, fr, c⟩ := h.2.1 g hg
  exact ⟨m, by simp [World.cell?, c]⟩
theorem VR.stv {G : Gh} {l : List UInt8} {v : Value} (h : VR G (.st l) v) : ∃ s, v = .string s ∧ s.data.toList = l := by
  cases h with
  | st l s h => exact ⟨s, rfl, h⟩
theorem VR.itv {G : Gh} {k : IntKind} {n : Int} {v : Value} (h : VR G (.it k n) v) : v = .int k n := by
  cases h; rfl
theorem vs2 {G : Gh} {a b : AV} {vs : List Value} (h : VRs G [a, b] vs) : ∃ x y, vs = [x, y] ∧ VR G a x ∧ VR G b y := by
  match vs, h with
  | [x, y], h => exact ⟨x, y, rfl, h.head, h.tail.head⟩
  | [], h => have := h.1; simp at this
  | [_], h => have := h.1; simp at this
  | _ :: _ :: _ :: _, h => have := h.1; simp at this
theorem vs3 {G : Gh} {a b c : AV} {vs : List Value} (h : VRs G [a, b, c] vs) : ∃ x y z, vs = [x, y, z] ∧ VR G a x ∧ VR G b y ∧ VR G c z := by
  match vs, h with
  | [x, y, z], h => exact ⟨x, y, z, rfl, h.head, h.tail.head, h.tail.tail.head⟩
  | [], h => have := h.1; simp at this
  | [_], h => have := h.1; simp at this
  | [_, _], h => have := h.1; simp at this
  | _ :: _ :: _ :: _ :: _, h => have := h.1; simp at this
theorem sh_FormatInt {P : Program} {f : FuncId} {fn : Func} (hfn : P.funcs[f]? = some fn) (hb : (if fn.name == "runtime.NumGoroutine" then none else fn.body).isSome = true) (hg : (P.globalNamed "internal/strconv.uint64pow10").isSome = true)
    (hc : ∀ (n : Int), -9223372036854775808 ≤ n → n ≤ 9223372036854775807 → ∀ w : World, TabIs P w "internal/strconv.uint64pow10" .u64 pow10Tab → Calls P f #[.int .i64 n, .int .i64 10] w fun e w' => e = .returned (.string ⟨(itoa n).toArray⟩) ∧ ∃ k os, w' = Sort.grow (w.drewN k) os)
    {n : Int} (h0 : -9223372036854775808 ≤ n) (h1 : n ≤ 9223372036854775807) : Pure P f [.it .i64 n, .it .i64 10] (.st (itoa n)) := by
  refine pure_shelf hfn hb rfl fun G vs hG hI hV => ?_
  obtain ⟨x, y, rfl, hx, hy⟩ := vs2 hV
  rw [hx.itv, hy.itv]
  refine Calls.mono (hc n h0 h1 G.w (hG.tab hg)) ?_
  rintro e w' ⟨rfl, k, os, rfl⟩
  exact ⟨_, rfl, fun G' => .st _ _ (by simp), below_gd _ _ _⟩
theorem sh_ReplaceAll {P : Program} {f : FuncId} {fn : Func} {g : Nat} (hfn : P.funcs[f]? = some fn) (hb : (if fn.name == "runtime.NumGoroutine" then none else fn.body).isSome = true) (hg : P.globalNamed "internal/bytealg.MaxLen" = some g)
    (hc : ∀ (s old new : ByteArray) (m : Int) (w : World), s.size < 4294967281 → w.cell? ⟨g, 0, none⟩ = some (.int .i64 m) → 1 ≤ old.size → s.size + countB s old * new.size ≤ 140737488355328 →
      Calls P f #[.string s, .string old, .string new] w fun e w' => e = .returned (.string ⟨(replaceAll s.data.toList old.data.toList new.data.toList).toArray⟩) ∧ Below w.heap.size w w')
    {s old new : Str} (h0 : s.length ≤ 100000) (h1 : 1 ≤ old.length) (h2 : new.length ≤ 100000) : Pure P f [.st s, .st old, .st new] (.st (replaceAll s old new)) := by
  refine pure_shelf hfn hb rfl fun G vs hG hI hV => ?_
  obtain ⟨x, y, z, rfl, hx, hy, hz⟩ := vs3 hV
  obtain ⟨xs, rfl, rfl⟩ := hx.stv
  obtain ⟨ys, rfl, rfl⟩ := hy.stv
  obtain ⟨zs, rfl, rfl⟩ := hz.stv
  obtain ⟨m, hm⟩ := hG.maxLen hg
  simp only [Array.length_toList, ByteArray.size_data] at h0 h1 h2
  have hcnt : countB xs ys ≤ xs.size + 1 := by
    have := count_le xs.data.toList ys.data.toList
    simpa [countB] using this
  refine Calls.mono (hc xs ys zs m G.w (by omega) hm h1 ?_) ?_
  · have : countB xs ys * zs.size ≤ 100001 * 100000 := Nat.mul_le_mul (by omega) h2
    omega
  · rintro e w' ⟨rfl, hw⟩
    exact ⟨_, rfl, fun G' => .st _ _ (by simp), hw⟩
theorem cl_eS (l : List Str) : cl eS l = l.map AV.st := by
  induction l with
  | nil => rfl
  | cons x l ih => show [AV.st x] ++ cl eS l = _; rw [ih]; rfl
theorem sh_Join {P : Program} {f : FuncId} {fn : Func} (hfn : P.funcs[f]? = some fn) (hb : (if fn.name == "runtime.NumGoroutine" then none else fn.body).isSome = true)
    (hc0 : ∀ (a : Option Addr) (c : Nat) (sep : ByteArray) (w : World), Calls P f #[.slice a 0 c, .string sep] w fun e w' => e = .returned (.string ⟨#[]⟩) ∧ w' = w)
    (hc : ∀ (bk o c : Nat) (xs : List ByteArray) (sep : ByteArray) (w : World), (∀ (j : Nat) x, xs[j]? = some x → w.cell? ⟨bk, o + j, none⟩ = some (.string x)) → bk < w.heap.size → xs.length ≤ 140737488355328 → xs.length ≤ c →
      (join (xs.map (·.data.toList)) sep.data.toList).length ≤ 140737488355328 →
      Calls P f #[.slice (some ⟨bk, o, none⟩) xs.length c, .string sep] w fun e w' => e = .returned (.string ⟨(join (xs.map (·.data.toList)) sep.data.toList).toArray⟩) ∧ Below w.heap.size w w')
    {l : List Str} {sep : Str} (h1 : l.length ≤ 100000) (h2 : (join l sep).length ≤ 140737488355328) : Pure P f [slA eS l, .st sep] (.st (join l sep)) := by
  have hcl : slA eS l = .sl false l.length (l.map .st) := by unfold slA; rw [cl_eS]
  rw [hcl]
  refine pure_shelf hfn hb rfl fun G vs hG hI hV => ?_
  obtain ⟨x, y, rfl, hx, hy⟩ := vs2 hV
  obtain ⟨ys, rfl, rfl⟩ := hy.stv
  have none0 : ∀ (a : Option Addr) (c : Nat), l = [] → Calls P f #[.slice a 0 c, .string ys] G.w fun e w' => ∃ x, e = .returned x ∧ (∀ G', VR G' (.st (join l ys.data.toList)) x) ∧ Below G.w.heap.size G.w w' := by
    rintro a c rfl
    refine Calls.mono (hc0 a c ys G.w) ?_
    rintro e w' ⟨rfl, rfl⟩
    exact ⟨_, rfl, fun G' => .st _ _ rfl, Below.refl _ _⟩
  generalize hn : l.length = n at hx
  generalize hxs : l.map AV.st = xs at hx
  cases hx with
  | nsl z n xs hn' hx' =>
    subst hn'; exact none0 none 0 (List.eq_nil_of_length_eq_zero hn)
  | esl n xs hn' hx' a cap =>
    subst hn'; exact none0 (some a) cap (List.eq_nil_of_length_eq_zero hn)
  | sl n xs b off cap g hIb hcell h h1' hcap hm hq =>
    subst hn; subst hxs
    let L : List ByteArray := l.map fun s => ⟨s.toArray⟩
    have hL : L.map (·.data.toList) = l := by
      simp [L, List.map_map, Function.comp_def]
    have hLl : L.length = l.length := by simp [L]
    have key := hc b off cap L ys G.w (fun j x hx => by
      have hj : j < l.length := by rw [← hLl]; exact (List.getElem?_eq_some_iff.1 hx).1
      have hx2 : x = ⟨(l[j]).toArray⟩ := by
        have : L[j]? = some ⟨(l[j]).toArray⟩ := by simp [L, List.getElem?_map, List.getElem?_eq_getElem hj]
        rw [this] at hx; exact (Option.some.inj hx).symm
      have hu : (l.map AV.st)[j]? = some (.st l[j]) := by simp [List.getElem?_map, List.getElem?_eq_getElem hj]
      obtain ⟨s, e1, e2⟩ := (h j _ hu).stv
      rw [hcell j _ hu, e1, hx2]
      congr 2
      cases s with
      | mk d => simp only at e2; rw [← e2]) (hI b hIb) (by rw [hLl]; omega) (by rw [hLl]; exact hcap) (by rw [hL]; exact h2)
    rw [hLl, hL] at key
    refine Calls.mono key ?_
    rintro e w' ⟨rfl, hw⟩
    exact ⟨_, rfl, fun G' => .st _ _ (by simp), hw⟩
end Go.AV

