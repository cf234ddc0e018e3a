/- General texts and own ones, joined: what the program computes, told of abstract states, and the laws of plain data. No condition. -/
import Derived.Test.YteoohihaibgplaaGreatDoorMb
import Derived.Lib.LaidTab
import Derived.Lib.CountLaws
import Derived.Sort.Grow
import Derived.Lib.ItoaNum
import Derived.Lib.Join
import Derived.Lib.ReplaceLaws
import Derived.HandedShaped
import Derived.LaidMore
import Derived.Lay
import Derived.Stop.LaidErr
import Derived.Shelf.Vars
import Derived.Shelf.Strings.Builder1
import Derived.Shelf.Strings.Builder2
import Derived.Shelf.Strings.OnBuilder
import Derived.Shelf.Utf8.RuneCount
import Derived.Shelf.Strconv.Itoa0
import Derived.Shelf.Strconv.Itoa1
import Derived.Shelf.LaysM
import Derived.Shelf.Strconv.Itoa2
import Derived.Shelf.Strconv.Itoa3
import Derived.Shelf.Strconv.Itoa4
import Derived.Shelf.Strings.Search1
import Derived.Shelf.Strings.Search2
import Derived.Shelf.Strings.Search3
import Derived.Shelf.Strings.Count
import Derived.Shelf.Strings.Shaped
import Derived.Shelf.Strings.Split
import Derived.Shelf.Strings.Replace
import Derived.Shelf.Strings.SplitShaped
import Derived.Shelf.Unicode.Decode
import Derived.Shelf.Strings.RuneCount
import Derived.Shelf.Unicode.DecodeSlow
import Derived.Shelf.Unicode.DecodeAny
import Derived.Test.YteoohihaibgplaaGreatDoorProg
import Derived.Test.YteoohihaibgplaaGreatDoorMa
import Derived.Test.YteoohihaibgplaaGreatDoorRows
import Derived.KernelRfl
import Derived.Test.YteoohihaibgplaaGreatDoorMd
import Derived.Lib.ItoaLen
noncomputable section
namespace Go.AV
open Go.RowKit Go.RG Go.Lib
theorem yvf (w : World) (k : Nat) (os : Array Obj) : Below w.heap.size w (Sort.grow (w.drewN k) os) := by
 refine ⟨rfl, rfl, rfl, ?_, fun i hi => ?_⟩
 ·show w.heap.size ≤ (w.heap ++ os).size
  rw [Array.size_append]; omega
 ·show (w.heap ++ os)[i]? = w.heap[i]?
  rw [Array.getElem?_append_left hi]
theorem yjG {P : Program} {f : FuncId} {fn : Func} (hfn : P.funcs[f]? = some fn) (hb : (if fn.name == "runtime.NumGoroutine" then none else fn.body).isSome = true) {args : List AV} {v : AV} (hn : v.noL = true)
  (h : ∀ (G : Gh) (vs : List Value), GOK P G.w G.I → (∀ b, G.I b → b < G.w.heap.size) → VRs G args vs → Calls P f vs.toArray G.w fun e w' => ∃ x, e = .returned x ∧ (∀ G', VR G' v x) ∧ Below G.w.heap.size G.w w') : Pure P f args v := by
 intro H n G vs hg hM hV
 obtain ⟨b, hb⟩ := Option.isSome_iff_exists.1 hb
 split at hb
 ·cases hb
 ·rename_i hname
  have hcall : (callFunc f vs).run P G.w = .ok (.enter f vs) G.w := by
   simp only [callFunc, Sem.run_bind, run_program, Result.andThen_ok, hfn]
   rw [if_neg hname]
   simp [hb]
  unfold yhG
  rw [hcall]
  have h0 := h G vs.toList hg hM.lt hV
  rw [Array.toArray_toList] at h0
  refine Calls.mono h0 ?_
  rintro e w' ⟨x, rfl, hx, hbl⟩
  obtain ⟨G', g1, _, g3⟩ := hM.grow hbl.size hbl.block hbl.os hbl.tape hbl.output
  exact ⟨x, v, H, n, G', rfl, ⟨rfl, rfl, rfl⟩, g1, g3, hx G', hn⟩
theorem Pure.congr {P : Program} {f : FuncId} {a a' : List AV} {v v' : AV} (h : Pure P f a v) (ha : a = a') (hv : v = v') : Pure P f a' v' := by subst ha; subst hv; exact h
theorem GOK.tab {P : Program} {w : World} {I : Nat → Prop} (h : GOK P w I) (hg : (P.globalNamed "internal/strconv.uint64pow10").isSome = true) : TabIs P w "internal/strconv.uint64pow10" .u64 pow10Tab := by
 obtain ⟨g, e⟩ := Option.isSome_iff_exists.1 hg
 obtain ⟨_, t, fr, c⟩ := h.1 _ _ (by unfold ytO; exact List.mem_cons_self) g e
 unfold TabIs World.var?
 rw [e]
 simp only [Option.bind_some, c]
 rfl
theorem GOK.maxLen {P : Program} {w : World} {I : Nat → Prop} (h : GOK P w I) {g : Nat} (hg : P.globalNamed "internal/bytealg.MaxLen" = some g) : ∃ m, w.cell? ⟨g, 0, .none⟩ = some (.int .i64 m) := by
 obtain ⟨_, m, t, fr, c⟩ := h.2.1 g hg
 exact ⟨m, by simp [World.cell?, c]⟩
theorem VR.stv {G : Gh} {l : List UInt8} {v : Value} (h : VR G (.st l) v) : ∃ s, v = .string s ∧ s.data.toList = l := by
 cases h with
 | st l s h => exact ⟨s, rfl, h⟩
theorem VR.itv {G : Gh} {k : IntKind} {n : Int} {v : Value} (h : VR G (.it k n) v) : v = .int k n := by
 cases h; rfl
theorem vs2 {G : Gh} {a b : AV} {vs : List Value} (h : VRs G [a, b] vs) : ∃ x y, vs = [x, y] ∧ VR G a x ∧ VR G b y := by
 match vs, h with
 | [x, y], h => exact ⟨x, y, rfl, h.head, h.tail.head⟩
 | [], h => have := h.1; simp at this
 | [_], h => have := h.1; simp at this
 | _ :: _ :: _ :: _, h => have := h.1; simp at this
theorem vs3 {G : Gh} {a b c : AV} {vs : List Value} (h : VRs G [a, b, c] vs) : ∃ x y z, vs = [x, y, z] ∧ VR G a x ∧ VR G b y ∧ VR G c z := by
 match vs, h with
 | [x, y, z], h => exact ⟨x, y, z, rfl, h.head, h.tail.head, h.tail.tail.head⟩
 | [], h => have := h.1; simp at this
 | [_], h => have := h.1; simp at this
 | [_, _], h => have := h.1; simp at this
 | _ :: _ :: _ :: _ :: _, h => have := h.1; simp at this
theorem ypD {P : Program} {f : FuncId} {fn : Func} (hfn : P.funcs[f]? = some fn) (hb : (if fn.name == "runtime.NumGoroutine" then none else fn.body).isSome = true) (hg : (P.globalNamed "internal/strconv.uint64pow10").isSome = true)
  (hc : ∀ (n : Int), -9223372036854775808 ≤ n → n ≤ 9223372036854775807 → ∀ w : World, TabIs P w "internal/strconv.uint64pow10" .u64 pow10Tab → Calls P f #[.int .i64 n, .int .i64 10] w fun e w' => e = .returned (.string ⟨(itoa n).toArray⟩) ∧ ∃ k os, w' = Sort.grow (w.drewN k) os)
  {n : Int} (h0 : -9223372036854775808 ≤ n) (h1 : n ≤ 9223372036854775807) : Pure P f [.it .i64 n, .it .i64 10] (.st (itoa n)) := by
 refine yjG hfn hb rfl fun G vs hG hI hV => ?_
 obtain ⟨x, y, rfl, hx, hy⟩ := vs2 hV
 rw [hx.itv, hy.itv]
 refine Calls.mono (hc n h0 h1 G.w (hG.tab hg)) ?_
 rintro e w' ⟨rfl, k, os, rfl⟩
 exact ⟨_, rfl, fun G' => .st _ _ (by simp), yvf _ _ _⟩
theorem ynA {P : Program} {f : FuncId} {fn : Func} {g : Nat} (hfn : P.funcs[f]? = some fn) (hb : (if fn.name == "runtime.NumGoroutine" then none else fn.body).isSome = true) (hg : P.globalNamed "internal/bytealg.MaxLen" = some g)
  (hc : ∀ (s old new : ByteArray) (m : Int) (w : World), s.size < 4294967281 → w.cell? ⟨g, 0, none⟩ = some (.int .i64 m) → 1 ≤ old.size → s.size + countB s old * new.size ≤ 140737488355328 →
    Calls P f #[.string s, .string old, .string new] w fun e w' => e = .returned (.string ⟨(replaceAll s.data.toList old.data.toList new.data.toList).toArray⟩) ∧ Below w.heap.size w w')
  {s old new : Str} (h0 : s.length ≤ 100000) (h1 : 1 ≤ old.length) (h2 : new.length ≤ 100000) : Pure P f [.st s, .st old, .st new] (.st (replaceAll s old new)) := by
 refine yjG hfn hb rfl fun G vs hG hI hV => ?_
 obtain ⟨x, y, z, rfl, hx, hy, hz⟩ := vs3 hV
 obtain ⟨xs, rfl, rfl⟩ := hx.stv
 obtain ⟨ys, rfl, rfl⟩ := hy.stv
 obtain ⟨zs, rfl, rfl⟩ := hz.stv
 obtain ⟨m, hm⟩ := hG.maxLen hg
 simp only [Array.length_toList, ByteArray.size_data] at h0 h1 h2
 have hcnt : countB xs ys ≤ xs.size + 1 := by
  have := count_le xs.data.toList ys.data.toList
  simpa [countB] using this
 refine Calls.mono (hc xs ys zs m G.w (by omega) hm h1 ?_) ?_
 ·have : countB xs ys * zs.size ≤ 100001 * 100000 := Nat.mul_le_mul (by omega) h2
  omega
 ·rintro e w' ⟨rfl, hw⟩
  exact ⟨_, rfl, fun G' => .st _ _ (by simp), hw⟩
theorem yzV (l : List Str) : cl eS l = l.map AV.st := by
 induction l with
 | nil => rfl
 | cons x l ih => show [AV.st x] ++ cl eS l = _; rw [ih]; rfl
theorem ywz {P : Program} {f : FuncId} {fn : Func} (hfn : P.funcs[f]? = some fn) (hb : (if fn.name == "runtime.NumGoroutine" then none else fn.body).isSome = true)
  (hc0 : ∀ (a : Option Addr) (c : Nat) (sep : ByteArray) (w : World), Calls P f #[.slice a 0 c, .string sep] w fun e w' => e = .returned (.string ⟨#[]⟩) ∧ w' = w)
  (hc : ∀ (bk o c : Nat) (xs : List ByteArray) (sep : ByteArray) (w : World), (∀ (j : Nat) x, xs[j]? = some x → w.cell? ⟨bk, o + j, none⟩ = some (.string x)) → bk < w.heap.size → xs.length ≤ 140737488355328 → xs.length ≤ c →
    (join (xs.map (·.data.toList)) sep.data.toList).length ≤ 140737488355328 →
    Calls P f #[.slice (some ⟨bk, o, none⟩) xs.length c, .string sep] w fun e w' => e = .returned (.string ⟨(join (xs.map (·.data.toList)) sep.data.toList).toArray⟩) ∧ Below w.heap.size w w')
  {l : List Str} {sep : Str} (h1 : l.length ≤ 100000) (h2 : (join l sep).length ≤ 140737488355328) : Pure P f [slA eS l, .st sep] (.st (join l sep)) := by
 have hcl : slA eS l = .sl false l.length (l.map .st) := by unfold slA; rw [yzV]
 rw [hcl]
 refine yjG hfn hb rfl fun G vs hG hI hV => ?_
 obtain ⟨x, y, rfl, hx, hy⟩ := vs2 hV
 obtain ⟨ys, rfl, rfl⟩ := hy.stv
 have none0 : ∀ (a : Option Addr) (c : Nat), l = [] → Calls P f #[.slice a 0 c, .string ys] G.w fun e w' => ∃ x, e = .returned x ∧ (∀ G', VR G' (.st (join l ys.data.toList)) x) ∧ Below G.w.heap.size G.w w' := by
  rintro a c rfl
  refine Calls.mono (hc0 a c ys G.w) ?_
  rintro e w' ⟨rfl, rfl⟩
  exact ⟨_, rfl, fun G' => .st _ _ rfl, Below.refl _ _⟩
 generalize hn : l.length = n at hx
 generalize hxs : l.map AV.st = xs at hx
 cases hx with
 | nsl z n xs hn' hx' =>
   subst hn'; exact none0 none 0 (List.eq_nil_of_length_eq_zero hn)
 | esl n xs hn' hx' a cap =>
   subst hn'; exact none0 (some a) cap (List.eq_nil_of_length_eq_zero hn)
 | sl n xs b off cap g hIb hcell h h1' hcap hm hq =>
   subst hn; subst hxs
   let L : List ByteArray := l.map fun s => ⟨s.toArray⟩
   have hL : L.map (·.data.toList) = l := by
    simp [L, List.map_map, Function.comp_def]
   have hLl : L.length = l.length := by simp [L]
   have key := hc b off cap L ys G.w (fun j x hx => by
    have hj : j < l.length := by rw [← hLl]; exact (List.getElem?_eq_some_iff.1 hx).1
    have hx2 : x = ⟨(l[j]).toArray⟩ := by
     have : L[j]? = some ⟨(l[j]).toArray⟩ := by simp [L, List.getElem?_map, List.getElem?_eq_getElem hj]
     rw [this] at hx; exact (Option.some.inj hx).symm
    have hu : (l.map AV.st)[j]? = some (.st l[j]) := by simp [List.getElem?_map, List.getElem?_eq_getElem hj]
    obtain ⟨s, e1, e2⟩ := (h j _ hu).stv
    rw [hcell j _ hu, e1, hx2]
    congr 2
    cases s with
    | mk d => simp only at e2; rw [← e2]) (hI b hIb) (by rw [hLl]; omega) (by rw [hLl]; exact hcap) (by rw [hL]; exact h2)
   rw [hLl, hL] at key
   refine Calls.mono key ?_
   rintro e w' ⟨rfl, hw⟩
   exact ⟨_, rfl, fun G' => .st _ _ (by simp), hw⟩
end Go.AV
end
noncomputable section
namespace Go.AV
open Go.RowKit Go.RG Go.ChangeShapes Go.WideShapes Go.ChangeAt
theorem yeu {H : Type} {enc : TypeId × Value → H} {a : Assume} {C : Checked} {os : Os} {f : FuncId} {fn : Func} {s : ChangeSpec} {conds : List PathCond} {apart fresh handsOn again : Bool} {X : World → Array Value → Prop}
  (hX : ∀ (w w' : World) (args : Array Value), w.heap = w'.heap → X w args → X w' args)
  (own : ownKnob C.prog.godebug = none) (started : os.Started) (noInit : C.prog.inits.idxOf? f = none) (hfn : C.prog.funcs[f]? = some fn)
  (witness : ∃ (w : World) (tape : Tape) (i : Input), w.os = os ∧ (w.forCall tape i).Shaped C.prog ∧ i.vars = [] ∧ Input.okWide C.prog (w.forCall tape i) .any w.heap.size f i ∧
    ((s.pre enc C.prog fn conds apart (w.forCall tape i).memory i.args ∧ X (w.forCall tape i).memory i.args) ∧ sizedMet enc C.prog fn (OpenSpec.ofChange s) apart (w.forCall tape i).memory i.args) ∧ a.holds C.prog (lone (Frame.enter C.prog f i.args .normal) [] (w.forCall tape i)))
  (contract : ∀ (W : World) (base : Nat) (args : Array Value) (ds gs : List (DataW H)) (before : List MemPlace),
    (∀ (j : Nat) t v, fn.params[j]? = some t → args[j]? = some v → Value.okWide C.prog W .any base t v) →
    DataW.Whole enc C.prog fn.params.toList s.vars apart W args.toList ds gs before →
    X W args → W.ShapedOpen C.prog →
    Calls C.prog f args W fun e W' => ∃ v, e = .returned v ∧ s.post enc C.prog fn apart fresh handsOn again W args v W') :
  ReturnsInHanded a C os f .any (fun w args => (s.pre enc C.prog fn conds apart w args ∧ X w args) ∧ sizedMet enc C.prog fn (OpenSpec.ofChange s) apart w args) (s.post enc C.prog fn apart fresh handsOn again) := by
 refine returnsInHanded_of_calls own started noInit witness ?_
 intro w tape i _ hsh _ hok hpre _
 obtain ⟨_, _, _, fn', hfn', _, _, _, _, hval⟩ := hok
 have e : fn' = fn := Option.some.inj (hfn'.symm.trans hfn)
 subst e
 obtain ⟨⟨⟨ds, gs, before, hw, hc⟩, hx⟩, hz⟩ := hpre
 have hw' := DataW.Whole.of_heap (w' := w.forCall tape i) (by rfl) hw
 refine (contract (w.forCall tape i) w.heap.size i.args ds gs before hval hw' (hX _ _ _ (by rfl) hx) hsh).mono fun e W' ⟨v, he, hp⟩ => ?_
 subst he
 exact ChangeSpec.post_blind hp
theorem ywr {P : Program} {W : World} {name : String} {k : IntKind} {zs : List Int} {g : Nat} (h : Go.Lib.TabIs P W name k zs) (hg : P.globalNamed name = some g) :
  g < W.heap.size ∧ ∃ t fr, W.heap[g]? = some (.cells (zs.map fun z => Value.int k z).toArray t fr) := by
 unfold Go.Lib.TabIs World.var? at h
 rw [hg] at h
 simp only [Option.bind_some] at h
 split at h
 ·rename_i cs t fr e
  cases h
  exact ⟨(Array.getElem?_eq_some_iff.1 e).1, t, fr, e⟩
 ·cases h
theorem yxB {P : Program} {W : World} {g : Nat} {t : TypeId} {zero : Array Value} (h : W.ShapedOpen P) (hg : g < P.globals.size) (h0 : ((begin P (fun _ _ => 0) default).world.heap[g]?).bind Obj.row? = some (zero, t)) (hz : zero.size = 1)
  (hb : P.buildable t = true) (hc : P.cellTypes P.depth t = some [t]) (hu : P.underlying t = some (.int .i64)) : g < W.heap.size ∧ ∃ m t fr, W.heap[g]? = some (.cells #[.int .i64 m] t fr) := by
 obtain ⟨m, hm⟩ := Go.Proofs.cell_of_shapedOpen_int h hg h0 hz hb hc hu
 obtain ⟨cs, hh, hs, _⟩ := h.1 g zero t hg h0
 refine ⟨(Array.getElem?_eq_some_iff.1 hh).1, m, t, (0, 0), ?_⟩
 rw [hh]
 have hl : cs.size = 1 := hs.trans hz
 match cs, hl with
 | ⟨[v]⟩, _ =>
   simp [World.cell?, hh] at hm
   rw [hm]
def yjW (l : List Str) : DataW Unit := .agg (l.map fun s => .lit (.string s))
theorem ynq {enc : TypeId × Value → Unit} {P : Program} {w : World} {base : Nat} {sp : Nat → Bool} {held : Bool} {fuel : Nat} {t e : TypeId} {n : Nat} {cs : List Value} {l : List Str} {p : List MemPlace}
  (ht : P.underlying t = some (.array n e)) (he : P.underlying e = some .string) (hce : P.cellsOf e = 1) (hct : P.cellsOf t = n)
  (h : DataW.trod enc P w base sp held fuel t cs = some (yjW l, p)) : cs = l.map fun s => Value.string ⟨s.toArray⟩ := by
 cases fuel with
 | zero => simp [DataW.trod] at h
 | succ fuel =>
   simp only [DataW.trod, ht, hce, hct, Nat.mul_one] at h
   split at h
   ·rename_i hl
    obtain ⟨xs, hm, hx⟩ := Option.map_eq_some_iff.1 h
    have hxs : xs.map (·.1) = l.map fun s => (DataW.lit (.string s) : DataW Unit) := by
     have := congrArg Prod.fst hx
     simpa [yjW] using this
    have hxl : xs.length = n := by simpa using Go.Lib.mapM_length hm
    have hzl : l.length = n := by
     have := congrArg List.length hxs
     simp at this
     omega
    apply List.ext_getElem?
    intro i
    by_cases hi : i < n
    ·obtain ⟨b, hb, hf⟩ := Go.Lib.mapM_at hm i i (by simp [hi])
     obtain ⟨s, hc, rfl, _⟩ := DataW.trod_string he hf
     have h1 : cs[i]? = some (.string s) := by
      have := congrArg (·[0]?) hc
      simpa [List.getElem?_take, List.getElem?_drop] using this
     have h2 : (xs.map (·.1))[i]? = some (DataW.lit (.string s.data.toList) : DataW Unit) := by simp [hb]
     rw [hxs] at h2
     simp only [List.getElem?_map, Option.map_eq_some_iff, DataW.lit.injEq, Lit.string.injEq] at h2
     obtain ⟨z', hz', rfl⟩ := h2
     simp [h1, hz']
    ·rw [List.getElem?_eq_none (by omega), List.getElem?_eq_none (by simp; omega)]
   ·cases h
theorem ygF {P : Program} {W : World} {name : String} {l : List Str} {rest : List (String × DataW Unit)} {g : Nat} {t e : TypeId} {n : Nat}
  (hg : P.globalNamed name = some g) (hty : (P.globals[g]?).map (·.type) = some t) (ht : P.underlying t = some (.array n e)) (he : P.underlying e = some .string) (hce : P.cellsOf e = 1) (hct : P.cellsOf t = n)
  (h : laidMet P ((name, yjW l) :: rest) W) : g < W.heap.size ∧ ∃ t fr, W.heap[g]? = some (.cells (l.map fun s => Value.string ⟨s.toArray⟩).toArray t fr) := by
 obtain ⟨ps, ⟨g', t', cs, fuel, p, q, hg', ht', hvar, hd, _, _⟩, _⟩ := h
 obtain rfl := Option.some.inj (hg.symm.trans hg')
 obtain rfl := Option.some.inj (hty.symm.trans ht')
 have hc := ynq ht he hce hct hd
 have hc : cs = (l.map fun s => Value.string ⟨s.toArray⟩).toArray := by rw [← hc]
 subst hc
 unfold World.var? at hvar
 rw [hg] at hvar
 simp only [Option.bind_some] at hvar
 split at hvar
 ·rename_i cs t fr e
  cases hvar
  exact ⟨(Array.getElem?_eq_some_iff.1 e).1, t, fr, e⟩
 ·cases hvar
end Go.AV
end
noncomputable section
namespace Go.Proofs
open Go.Shelf
def Tryz.lays156_ren : Go.Shelf.Ren := ⟨fun | 156 => 39 | 165 => 51 | 166 => 52 | 169 => 53 | 240 => 64 | 241 => 65 | 276 => 76 | 277 => 77 | n => n, fun | 31 => 102 | 9 => 9 | 3 => 3 | 4 => 4 | 0 => 0 | 20 => 20 | 72 => 129 | 76 => 133 | 70 => 127 | 37 => 22 | 75 => 132 | 127 => 147 | 164 => 161 | 5 => 5 | 80 => 52 | n => n, fun | n => n⟩
theorem Tryz.lays156 : Go.Proofs.Lays.n156 Tryz.prog Tryz.lays156_ren := {
 mixed := by kernel_rfl
 f156 := Tryz.func39.trans (congrArg some (by kernel_rfl))
 f165 := Tryz.func51.trans (congrArg some (by kernel_rfl))
 f166 := Tryz.func52.trans (congrArg some (by kernel_rfl))
 f169 := Tryz.func53.trans (congrArg some (by kernel_rfl))
 f240 := Tryz.func64.trans (congrArg some (by kernel_rfl))
 f241 := Tryz.func65.trans (congrArg some (by kernel_rfl))
 f276 := Tryz.func76.trans (congrArg some (by kernel_rfl))
 f277 := Tryz.func77.trans (congrArg some (by kernel_rfl))
 t0 := Tryz.underlying0
 a0 := Tryz.isAgg0
 z0 := Tryz.sizeOf0
 v0 := Tryz.zeroValue0
 t3 := Tryz.underlying3
 a3 := Tryz.isAgg3
 z3 := Tryz.sizeOf3
 v3 := Tryz.zeroValue3
 t4 := Tryz.underlying4
 a4 := Tryz.isAgg4
 z4 := Tryz.sizeOf4
 v4 := Tryz.zeroValue4
 t9 := Tryz.underlying9
 a9 := Tryz.isAgg9
 z9 := Tryz.sizeOf9
 v9 := Tryz.zeroValue9
 t20 := Tryz.underlying20
 a20 := Tryz.isAgg20
 z20 := Tryz.sizeOf20
 v20 := Tryz.zeroValue20
 t31 := Tryz.underlying102
 a31 := Tryz.isAgg102
 z31 := Tryz.sizeOf102
 v31 := Tryz.zeroValue102
 t37 := Tryz.underlying22
 a37 := Tryz.isAgg22
 z37 := Tryz.sizeOf22
 v37 := Tryz.zeroValue22
 t70 := Tryz.underlying127
 a70 := Tryz.isAgg127
 z70 := Tryz.sizeOf127
 v70 := Tryz.zeroValue127
 t72 := Tryz.underlying129
 a72 := Tryz.isAgg129
 z72 := Tryz.sizeOf129
 v72 := Tryz.zeroValue129
 t75 := Tryz.underlying132
 a75 := Tryz.isAgg132
 z75 := Tryz.sizeOf132
 v75 := Tryz.zeroValue132
 t76 := Tryz.underlying133
 a76 := Tryz.isAgg133
 z76 := Tryz.sizeOf133
 v76 := Tryz.zeroValue133
 t127 := Tryz.underlying147
 a127 := Tryz.isAgg147
 z127 := Tryz.sizeOf147
 v127 := Tryz.zeroValue147
 t164 := Tryz.underlying161
 a164 := Tryz.isAgg161
 z164 := Tryz.sizeOf161
 v164 := Tryz.zeroValue161 }
theorem Tryz.Builder_Extra_156 : Builder.Extra Tryz.prog Tryz.lays156_ren := {
 sizeBuilder := by kernel_rfl
 liesBuilder := by kernel_rfl
 t5 := Tryz.underlying5
 a5 := Tryz.isAgg5
 z5 := Tryz.sizeOf5
 v5 := Tryz.zeroValue5
 infoByte := by kernel_rfl
 cellsByte := by kernel_rfl
 sizeByte := by kernel_rfl
 neB5 := by decide }
open Go.RowKit in
theorem Tryz.strings_Join_none (a : Option Addr) (c : Nat) (sep : ByteArray) (w : World) :
  Calls Tryz.prog 39 #[.slice a 0 c, .string sep] w fun e w' => e = .returned (.string ⟨#[]⟩) ∧ w' = w := Any.strings_Join_none Tryz.lays156 Tryz.Builder_Extra_156 a c sep w
open Go.RowKit in
theorem Tryz.strings_Join (bk o c : Nat) (xs : List ByteArray) (sep : ByteArray) (w : World) (hcells : ∀ (j : Nat) x, xs[j]? = some x → w.cell? ⟨bk, o + j, none⟩ = some (.string x)) (hbk : bk < w.heap.size) (hN : xs.length ≤ 140737488355328) (hcap : xs.length ≤ c) (hlen : (Lib.join (xs.map (·.data.toList)) sep.data.toList).length ≤ 140737488355328) :
  Calls Tryz.prog 39 #[.slice (some ⟨bk, o, none⟩) xs.length c, .string sep] w fun e w' => e = .returned (.string ⟨(Lib.join (xs.map (·.data.toList)) sep.data.toList).toArray⟩) ∧ Below w.heap.size w w' := Any.strings_Join Tryz.lays156 Tryz.Builder_Extra_156 bk o c xs sep w hcells hbk hN hcap hlen
def Tryz.laysM173_ren : Go.Shelf.Ren := ⟨fun | 173 => 28 | 246 => 47 | 283 => 58 | 284 => 59 | 285 => 60 | 286 => 61 | 129 => 72 | 317 => 71 | 318 => 73 | 319 => 74 | 320 => 75 | 337 => 86 | 338 => 87 | n => n, fun | 2 => 2 | 3 => 3 | 9 => 9 | 4 => 4 | 171 => 140 | 0 => 0 | 53 => 141 | 37 => 22 | 5 => 5 | 173 => 144 | 212 => 155 | 51 => 156 | 20 => 20 | 213 => 157 | 46 => 159 | 232 => 168 | 233 => 169 | n => n, fun | 17 => 3 | 18 => 5 | 19 => 6 | n => n⟩
theorem Tryz.laysM173 : Go.Proofs.LaysM.n173 Tryz.prog Tryz.laysM173_ren := {
 mixed := by kernel_rfl
 f129 := Tryz.func72.trans (congrArg some (by kernel_rfl))
 f173 := Tryz.func28.trans (congrArg some (by kernel_rfl))
 f246 := Tryz.func47.trans (congrArg some (by kernel_rfl))
 f283 := Tryz.func58.trans (congrArg some (by kernel_rfl))
 f284 := Tryz.func59.trans (congrArg some (by kernel_rfl))
 f285 := Tryz.func60.trans (congrArg some (by kernel_rfl))
 f286 := Tryz.func61.trans (congrArg some (by kernel_rfl))
 f317 := Tryz.func71.trans (congrArg some (by kernel_rfl))
 f318 := Tryz.func73.trans (congrArg some (by kernel_rfl))
 f319 := Tryz.func74.trans (congrArg some (by kernel_rfl))
 f320 := Tryz.func75.trans (congrArg some (by kernel_rfl))
 f337 := Tryz.func86.trans (congrArg some (by kernel_rfl))
 f338 := Tryz.func87.trans (congrArg some (by kernel_rfl))
 t0 := Tryz.underlying0
 a0 := Tryz.isAgg0
 z0 := Tryz.sizeOf0
 v0 := Tryz.zeroValue0
 t2 := Tryz.underlying2
 a2 := Tryz.isAgg2
 z2 := Tryz.sizeOf2
 v2 := Tryz.zeroValue2
 t3 := Tryz.underlying3
 a3 := Tryz.isAgg3
 z3 := Tryz.sizeOf3
 v3 := Tryz.zeroValue3
 t4 := Tryz.underlying4
 a4 := Tryz.isAgg4
 z4 := Tryz.sizeOf4
 v4 := Tryz.zeroValue4
 t5 := Tryz.underlying5
 a5 := Tryz.isAgg5
 z5 := Tryz.sizeOf5
 v5 := Tryz.zeroValue5
 t9 := Tryz.underlying9
 a9 := Tryz.isAgg9
 z9 := Tryz.sizeOf9
 v9 := Tryz.zeroValue9
 t20 := Tryz.underlying20
 a20 := Tryz.isAgg20
 z20 := Tryz.sizeOf20
 v20 := Tryz.zeroValue20
 t37 := Tryz.underlying22
 a37 := Tryz.isAgg22
 z37 := Tryz.sizeOf22
 v37 := Tryz.zeroValue22
 t46 := Tryz.underlying159
 a46 := Tryz.isAgg159
 z46 := Tryz.sizeOf159
 v46 := Tryz.zeroValue159
 t51 := Tryz.underlying156
 a51 := Tryz.isAgg156
 z51 := Tryz.sizeOf156
 v51 := Tryz.zeroValue156
 t53 := Tryz.underlying141
 a53 := Tryz.isAgg141
 z53 := Tryz.sizeOf141
 v53 := Tryz.zeroValue141
 t171 := Tryz.underlying140
 a171 := Tryz.isAgg140
 z171 := Tryz.sizeOf140
 v171 := Tryz.zeroValue140
 t173 := Tryz.underlying144
 a173 := Tryz.isAgg144
 z173 := Tryz.sizeOf144
 v173 := Tryz.zeroValue144
 t212 := Tryz.underlying155
 a212 := Tryz.isAgg155
 z212 := Tryz.sizeOf155
 v212 := Tryz.zeroValue155
 t213 := Tryz.underlying157
 a213 := Tryz.isAgg157
 z213 := Tryz.sizeOf157
 t232 := Tryz.underlying168
 a232 := Tryz.isAgg168
 z232 := Tryz.sizeOf168
 v232 := Tryz.zeroValue168
 t233 := Tryz.underlying169
 a233 := Tryz.isAgg169
 z233 := Tryz.sizeOf169
 v233 := Tryz.zeroValue169
 g17 := by kernel_rfl
 g18 := by kernel_rfl
 g19 := by kernel_rfl
 i0 := by kernel_rfl
 i2 := by kernel_rfl
 i3 := by kernel_rfl
 i4 := by kernel_rfl
 i5 := by kernel_rfl
 i9 := by kernel_rfl
 i20 := by kernel_rfl
 i37 := by kernel_rfl
 i46 := by kernel_rfl
 i51 := by kernel_rfl
 i53 := by kernel_rfl
 i171 := by kernel_rfl
 i173 := by kernel_rfl
 i212 := by kernel_rfl
 i232 := by kernel_rfl
 i233 := by kernel_rfl
 m17 := by kernel_rfl
 m18 := by kernel_rfl
 m19 := by kernel_rfl }
open Go.RowKit Go.Sort Go.Lib in
theorem Tryz.strconv_FormatInt_10 (n : Int) (h0 : -9223372036854775808 ≤ n) (h1 : n ≤ 9223372036854775807) (w : World) (htab : Lib.TabIs Tryz.prog w "internal/strconv.uint64pow10" .u64 Lib.pow10Tab) :
  Calls Tryz.prog 28 #[.int .i64 n, .int .i64 10] w fun e w' => e = .returned (.string ⟨(Lib.itoa n).toArray⟩) ∧ ∃ k os, w' = grow (w.drewN k) os := Any.strconv_FormatInt_10 Tryz.laysM173 n h0 h1 w htab
def Tryz.lays155_ren : Go.Shelf.Ren := ⟨fun | 155 => 85 | 154 => 90 | 138 => 94 | 165 => 51 | 143 => 95 | 166 => 52 | 197 => 96 | 169 => 53 | 195 => 98 | 218 => 99 | 240 => 64 | 241 => 65 | 219 => 100 | 260 => 101 | 276 => 76 | 277 => 77 | 217 => 102 | 225 => 103 | 224 => 104 | 267 => 105 | 266 => 106 | 314 => 107 | n => n, fun | 9 => 9 | 3 => 3 | 4 => 4 | 72 => 129 | 0 => 0 | 76 => 133 | 105 => 173 | 21 => 21 | 5 => 5 | 70 => 127 | 20 => 20 | 37 => 22 | 75 => 132 | 127 => 147 | 164 => 161 | 46 => 159 | 119 => 177 | 139 => 180 | 138 => 179 | 146 => 181 | 51 => 156 | 80 => 52 | n => n, fun | 1 => 4 | 3 => 7 | 4 => 8 | n => n⟩
theorem Tryz.lays155 : Go.Proofs.Lays.n155 Tryz.prog Tryz.lays155_ren := {
 mixed := by kernel_rfl
 f138 := Tryz.func94.trans (congrArg some (by kernel_rfl))
 f143 := Tryz.func95.trans (congrArg some (by kernel_rfl))
 f154 := Tryz.func90.trans (congrArg some (by kernel_rfl))
 f155 := Tryz.func85.trans (congrArg some (by kernel_rfl))
 f165 := Tryz.func51.trans (congrArg some (by kernel_rfl))
 f166 := Tryz.func52.trans (congrArg some (by kernel_rfl))
 f169 := Tryz.func53.trans (congrArg some (by kernel_rfl))
 f195 := Tryz.func98.trans (congrArg some (by kernel_rfl))
 f197 := Tryz.func96.trans (congrArg some (by kernel_rfl))
 f217 := Tryz.func102.trans (congrArg some (by kernel_rfl))
 f218 := Tryz.func99.trans (congrArg some (by kernel_rfl))
 f219 := Tryz.func100.trans (congrArg some (by kernel_rfl))
 f224 := Tryz.func104.trans (congrArg some (by kernel_rfl))
 f225 := Tryz.func103.trans (congrArg some (by kernel_rfl))
 f240 := Tryz.func64.trans (congrArg some (by kernel_rfl))
 f241 := Tryz.func65.trans (congrArg some (by kernel_rfl))
 f260 := Tryz.func101.trans (congrArg some (by kernel_rfl))
 f266 := Tryz.func106.trans (congrArg some (by kernel_rfl))
 f267 := Tryz.func105.trans (congrArg some (by kernel_rfl))
 f276 := Tryz.func76.trans (congrArg some (by kernel_rfl))
 f277 := Tryz.func77.trans (congrArg some (by kernel_rfl))
 f314 := Tryz.func107.trans (congrArg some (by kernel_rfl))
 t0 := Tryz.underlying0
 a0 := Tryz.isAgg0
 z0 := Tryz.sizeOf0
 v0 := Tryz.zeroValue0
 t3 := Tryz.underlying3
 a3 := Tryz.isAgg3
 z3 := Tryz.sizeOf3
 v3 := Tryz.zeroValue3
 t4 := Tryz.underlying4
 a4 := Tryz.isAgg4
 z4 := Tryz.sizeOf4
 v4 := Tryz.zeroValue4
 t5 := Tryz.underlying5
 a5 := Tryz.isAgg5
 z5 := Tryz.sizeOf5
 v5 := Tryz.zeroValue5
 t9 := Tryz.underlying9
 a9 := Tryz.isAgg9
 z9 := Tryz.sizeOf9
 v9 := Tryz.zeroValue9
 t20 := Tryz.underlying20
 a20 := Tryz.isAgg20
 z20 := Tryz.sizeOf20
 v20 := Tryz.zeroValue20
 t21 := Tryz.underlying21
 a21 := Tryz.isAgg21
 z21 := Tryz.sizeOf21
 v21 := Tryz.zeroValue21
 t37 := Tryz.underlying22
 a37 := Tryz.isAgg22
 z37 := Tryz.sizeOf22
 v37 := Tryz.zeroValue22
 t46 := Tryz.underlying159
 a46 := Tryz.isAgg159
 z46 := Tryz.sizeOf159
 v46 := Tryz.zeroValue159
 t51 := Tryz.underlying156
 a51 := Tryz.isAgg156
 z51 := Tryz.sizeOf156
 v51 := Tryz.zeroValue156
 t70 := Tryz.underlying127
 a70 := Tryz.isAgg127
 z70 := Tryz.sizeOf127
 v70 := Tryz.zeroValue127
 t72 := Tryz.underlying129
 a72 := Tryz.isAgg129
 z72 := Tryz.sizeOf129
 v72 := Tryz.zeroValue129
 t75 := Tryz.underlying132
 a75 := Tryz.isAgg132
 z75 := Tryz.sizeOf132
 v75 := Tryz.zeroValue132
 t76 := Tryz.underlying133
 a76 := Tryz.isAgg133
 z76 := Tryz.sizeOf133
 v76 := Tryz.zeroValue133
 t105 := Tryz.underlying173
 a105 := Tryz.isAgg173
 z105 := Tryz.sizeOf173
 v105 := Tryz.zeroValue173
 t119 := Tryz.underlying177
 a119 := Tryz.isAgg177
 z119 := Tryz.sizeOf177
 t127 := Tryz.underlying147
 a127 := Tryz.isAgg147
 z127 := Tryz.sizeOf147
 v127 := Tryz.zeroValue147
 t138 := Tryz.underlying179
 a138 := Tryz.isAgg179
 z138 := Tryz.sizeOf179
 v138 := Tryz.zeroValue179
 t139 := Tryz.underlying180
 a139 := Tryz.isAgg180
 z139 := Tryz.sizeOf180
 v139 := Tryz.zeroValue180
 t146 := Tryz.underlying181
 a146 := Tryz.isAgg181
 z146 := Tryz.sizeOf181
 v146 := Tryz.zeroValue181
 t164 := Tryz.underlying161
 a164 := Tryz.isAgg161
 z164 := Tryz.sizeOf161
 v164 := Tryz.zeroValue161
 g1 := by kernel_rfl
 g3 := by kernel_rfl
 g4 := by kernel_rfl }
theorem Tryz.Builder_Extra_155 : Builder.Extra Tryz.prog Tryz.lays155_ren := {
 sizeBuilder := by kernel_rfl
 liesBuilder := by kernel_rfl
 t5 := Tryz.underlying5
 a5 := Tryz.isAgg5
 z5 := Tryz.sizeOf5
 v5 := Tryz.zeroValue5
 infoByte := by kernel_rfl
 cellsByte := by kernel_rfl
 sizeByte := by kernel_rfl
 neB5 := by decide }
open Go.RowKit Go.Lib in
theorem Tryz.strings_ReplaceAll (s old new : ByteArray) (m : Int) (w : World) (hs : s.size < 4294967281) (hm : w.cell? ⟨4, 0, none⟩ = some (.int .i64 m)) (h1 : 1 ≤ old.size) (hlen : s.size + Lib.countB s old * new.size ≤ 140737488355328) :
  Calls Tryz.prog 85 #[.string s, .string old, .string new] w fun e w' =>
   e = .returned (.string ⟨(Lib.replaceAll s.data.toList old.data.toList new.data.toList).toArray⟩) ∧ Below w.heap.size w w' := Any.strings_ReplaceAll Tryz.lays155 Tryz.Builder_Extra_155 s old new m w hs hm h1 hlen
end Go.Proofs
end
noncomputable section
namespace Go.Proofs.YteoohihaibgplaaGreatDoor
open Go.AV
def c3 : AFn := cF Tryz.prog 3
theorem t3 : trF Tryz.prog 3 = some c3 := tF (by kernel_rfl)
def c4 : AFn := cF Tryz.prog 4
theorem t4 : trF Tryz.prog 4 = some c4 := tF (by kernel_rfl)
def c5 : AFn := cF Tryz.prog 5
theorem t5 : trF Tryz.prog 5 = some c5 := tF (by kernel_rfl)
def c6 : AFn := cF Tryz.prog 6
theorem t6 : trF Tryz.prog 6 = some c6 := tF (by kernel_rfl)
def c7 : AFn := cF Tryz.prog 7
theorem t7 : trF Tryz.prog 7 = some c7 := tF (by kernel_rfl)
def c8 : AFn := cF Tryz.prog 8
theorem t8 : trF Tryz.prog 8 = some c8 := tF (by kernel_rfl)
def c9 : AFn := cF Tryz.prog 9
theorem t9 : trF Tryz.prog 9 = some c9 := tF (by kernel_rfl)
def c10 : AFn := cF Tryz.prog 10
theorem t10 : trF Tryz.prog 10 = some c10 := tF (by kernel_rfl)
def c11 : AFn := cF Tryz.prog 11
theorem t11 : trF Tryz.prog 11 = some c11 := tF (by kernel_rfl)
def c12 : AFn := cF Tryz.prog 12
theorem t12 : trF Tryz.prog 12 = some c12 := tF (by kernel_rfl)
def c13 : AFn := cF Tryz.prog 13
theorem t13 : trF Tryz.prog 13 = some c13 := tF (by kernel_rfl)
def c14 : AFn := cF Tryz.prog 14
theorem t14 : trF Tryz.prog 14 = some c14 := tF (by kernel_rfl)
def c15 : AFn := cF Tryz.prog 15
theorem t15 : trF Tryz.prog 15 = some c15 := tF (by kernel_rfl)
def c16 : AFn := cF Tryz.prog 16
theorem t16 : trF Tryz.prog 16 = some c16 := tF (by kernel_rfl)
def c17 : AFn := cF Tryz.prog 17
theorem t17 : trF Tryz.prog 17 = some c17 := tF (by kernel_rfl)
def c18 : AFn := cF Tryz.prog 18
theorem t18 : trF Tryz.prog 18 = some c18 := tF (by kernel_rfl)
def c19 : AFn := cF Tryz.prog 19
theorem t19 : trF Tryz.prog 19 = some c19 := tF (by kernel_rfl)
def c20 : AFn := cF Tryz.prog 20
theorem t20 : trF Tryz.prog 20 = some c20 := tF (by kernel_rfl)
def c21 : AFn := cF Tryz.prog 21
theorem t21 : trF Tryz.prog 21 = some c21 := tF (by kernel_rfl)
def c22 : AFn := cF Tryz.prog 22
theorem t22 : trF Tryz.prog 22 = some c22 := tF (by kernel_rfl)
def c23 : AFn := cF Tryz.prog 23
theorem t23 : trF Tryz.prog 23 = some c23 := tF (by kernel_rfl)
def c24 : AFn := cF Tryz.prog 24
theorem t24 : trF Tryz.prog 24 = some c24 := tF (by kernel_rfl)
def c25 : AFn := cF Tryz.prog 25
theorem t25 : trF Tryz.prog 25 = some c25 := tF (by kernel_rfl)
def c26 : AFn := cF Tryz.prog 26
theorem t26 : trF Tryz.prog 26 = some c26 := tF (by kernel_rfl)
def c27 : AFn := cF Tryz.prog 27
theorem t27 : trF Tryz.prog 27 = some c27 := tF (by kernel_rfl)
def c29 : AFn := cF Tryz.prog 29
theorem t29 : trF Tryz.prog 29 = some c29 := tF (by kernel_rfl)
def c30 : AFn := cF Tryz.prog 30
theorem t30 : trF Tryz.prog 30 = some c30 := tF (by kernel_rfl)
def c31 : AFn := cF Tryz.prog 31
theorem t31 : trF Tryz.prog 31 = some c31 := tF (by kernel_rfl)
def c32 : AFn := cF Tryz.prog 32
theorem t32 : trF Tryz.prog 32 = some c32 := tF (by kernel_rfl)
def c33 : AFn := cF Tryz.prog 33
theorem t33 : trF Tryz.prog 33 = some c33 := tF (by kernel_rfl)
def c34 : AFn := cF Tryz.prog 34
theorem t34 : trF Tryz.prog 34 = some c34 := tF (by kernel_rfl)
def c35 : AFn := cF Tryz.prog 35
theorem t35 : trF Tryz.prog 35 = some c35 := tF (by kernel_rfl)
def c36 : AFn := cF Tryz.prog 36
theorem t36 : trF Tryz.prog 36 = some c36 := tF (by kernel_rfl)
def c37 : AFn := cF Tryz.prog 37
theorem t37 : trF Tryz.prog 37 = some c37 := tF (by kernel_rfl)
def c38 : AFn := cF Tryz.prog 38
theorem t38 : trF Tryz.prog 38 = some c38 := tF (by kernel_rfl)
def c40 : AFn := cF Tryz.prog 40
theorem t40 : trF Tryz.prog 40 = some c40 := tF (by kernel_rfl)
def c41 : AFn := cF Tryz.prog 41
theorem t41 : trF Tryz.prog 41 = some c41 := tF (by kernel_rfl)
def c42 : AFn := cF Tryz.prog 42
theorem t42 : trF Tryz.prog 42 = some c42 := tF (by kernel_rfl)
def c43 : AFn := cF Tryz.prog 43
theorem t43 : trF Tryz.prog 43 = some c43 := tF (by kernel_rfl)
def c44 : AFn := cF Tryz.prog 44
theorem t44 : trF Tryz.prog 44 = some c44 := tF (by kernel_rfl)
def c45 : AFn := cF Tryz.prog 45
theorem t45 : trF Tryz.prog 45 = some c45 := tF (by kernel_rfl)
def c46 : AFn := cF Tryz.prog 46
theorem t46 : trF Tryz.prog 46 = some c46 := tF (by kernel_rfl)
def c48 : AFn := cF Tryz.prog 48
theorem t48 : trF Tryz.prog 48 = some c48 := tF (by kernel_rfl)
def c49 : AFn := cF Tryz.prog 49
theorem t49 : trF Tryz.prog 49 = some c49 := tF (by kernel_rfl)
def c50 : AFn := cF Tryz.prog 50
theorem t50 : trF Tryz.prog 50 = some c50 := tF (by kernel_rfl)
def c54 : AFn := cF Tryz.prog 54
theorem t54 : trF Tryz.prog 54 = some c54 := tF (by kernel_rfl)
def c55 : AFn := cF Tryz.prog 55
theorem t55 : trF Tryz.prog 55 = some c55 := tF (by kernel_rfl)
def c56 : AFn := cF Tryz.prog 56
theorem t56 : trF Tryz.prog 56 = some c56 := tF (by kernel_rfl)
def c57 : AFn := cF Tryz.prog 57
theorem t57 : trF Tryz.prog 57 = some c57 := tF (by kernel_rfl)
def c62 : AFn := cF Tryz.prog 62
theorem t62 : trF Tryz.prog 62 = some c62 := tF (by kernel_rfl)
def c63 : AFn := cF Tryz.prog 63
theorem t63 : trF Tryz.prog 63 = some c63 := tF (by kernel_rfl)
def c66 : AFn := cF Tryz.prog 66
theorem t66 : trF Tryz.prog 66 = some c66 := tF (by kernel_rfl)
def c67 : AFn := cF Tryz.prog 67
theorem t67 : trF Tryz.prog 67 = some c67 := tF (by kernel_rfl)
def c68 : AFn := cF Tryz.prog 68
theorem t68 : trF Tryz.prog 68 = some c68 := tF (by kernel_rfl)
def c69 : AFn := cF Tryz.prog 69
theorem t69 : trF Tryz.prog 69 = some c69 := tF (by kernel_rfl)
def c70 : AFn := cF Tryz.prog 70
theorem t70 : trF Tryz.prog 70 = some c70 := tF (by kernel_rfl)
def c78 : AFn := cF Tryz.prog 78
theorem t78 : trF Tryz.prog 78 = some c78 := tF (by kernel_rfl)
def c79 : AFn := cF Tryz.prog 79
theorem t79 : trF Tryz.prog 79 = some c79 := tF (by kernel_rfl)
def c80 : AFn := cF Tryz.prog 80
theorem t80 : trF Tryz.prog 80 = some c80 := tF (by kernel_rfl)
def c81 : AFn := cF Tryz.prog 81
theorem t81 : trF Tryz.prog 81 = some c81 := tF (by kernel_rfl)
def c82 : AFn := cF Tryz.prog 82
theorem t82 : trF Tryz.prog 82 = some c82 := tF (by kernel_rfl)
def c83 : AFn := cF Tryz.prog 83
theorem t83 : trF Tryz.prog 83 = some c83 := tF (by kernel_rfl)
def c84 : AFn := cF Tryz.prog 84
theorem t84 : trF Tryz.prog 84 = some c84 := tF (by kernel_rfl)
def c88 : AFn := cF Tryz.prog 88
theorem t88 : trF Tryz.prog 88 = some c88 := tF (by kernel_rfl)
def c89 : AFn := cF Tryz.prog 89
theorem t89 : trF Tryz.prog 89 = some c89 := tF (by kernel_rfl)
def c91 : AFn := cF Tryz.prog 91
theorem t91 : trF Tryz.prog 91 = some c91 := tF (by kernel_rfl)
def c92 : AFn := cF Tryz.prog 92
theorem t92 : trF Tryz.prog 92 = some c92 := tF (by kernel_rfl)
def c93 : AFn := cF Tryz.prog 93
theorem t93 : trF Tryz.prog 93 = some c93 := tF (by kernel_rfl)
def c97 : AFn := cF Tryz.prog 97
theorem t97 : trF Tryz.prog 97 = some c97 := tF (by kernel_rfl)
end Go.Proofs.YteoohihaibgplaaGreatDoor
end
noncomputable section
namespace Go.Proofs.YteoohihaibgplaaGreatDoor
open Go.AV Go.RowKit
set_option maxRecDepth 100000
structure yac where
 Kind : Int
 Op : Int
 Value : Int
 Parts : Int
 N : Int
 Name : Str
 Table : Str
structure yaE where
 Kind : Int
 Numbers : (List Int)
 Exprs : (List (List yac))
 N : Int
structure yah where
 Name : Str
 Kind : Int
 Key : Bool
structure yad where
 Kind : Int
 N : Int
 S : Str
inductive yaa where
 | mk (Kind : Int) (Op : Int) (V : yad) (Table : Str) (Name : Str) (L : (List yaa))
def yaa.Kind : yaa → Int
 | .mk y _ _ _ _ _ => y
def yaa.Op : yaa → Int
 | .mk _ y _ _ _ _ => y
def yaa.V : yaa → yad
 | .mk _ _ y _ _ _ => y
def yaa.Table : yaa → Str
 | .mk _ _ _ y _ _ => y
def yaa.Name : yaa → Str
 | .mk _ _ _ _ y _ => y
def yaa.L : yaa → (List yaa)
 | .mk _ _ _ _ _ y => y
structure yaq where
 Name : Str
 E : yaa
structure yai where
 E : yaa
 As : Str
structure yaL where
 x0 : yaa
 x1 : yaa
structure yaf where
 Distinct : Bool
 Items : (List yai)
 From : Str
 Alias : Str
 Join : Bool
 Left : Bool
 Other : Str
 Named : Str
 On : yaL
 Where : (List yaa)
 Group : (List yaa)
 Having : (List yaa)
structure yaj where
 Name : Str
 Desc : Bool
structure yav where
 Cores : (List yaf)
 Order : (List yaj)
 Limit : (List Int)
structure yas where
 Kind : Int
 Name : Str
 Columns : (List yah)
 Rows : (List (List yaa))
 Sets : (List yaq)
 Where : (List yaa)
 Query : yav
 N : Int
structure yak where
 Name : Str
 Kind : Int
 Key : Bool
structure yae where
 Kind : Int
 N : Int
 S : Str
inductive yab where
 | mk (Kind : Int) (Op : Int) (V : yae) (Table : Str) (Name : Str) (L : (List yab))
def yab.Kind : yab → Int
 | .mk y _ _ _ _ _ => y
def yab.Op : yab → Int
 | .mk _ y _ _ _ _ => y
def yab.V : yab → yae
 | .mk _ _ y _ _ _ => y
def yab.Table : yab → Str
 | .mk _ _ _ y _ _ => y
def yab.Name : yab → Str
 | .mk _ _ _ _ y _ => y
def yab.L : yab → (List yab)
 | .mk _ _ _ _ _ y => y
structure yay where
 Name : Str
 E : yab
structure yax where
 E : yab
 As : Str
structure yaG where
 x0 : yab
 x1 : yab
structure yan where
 Distinct : Bool
 Items : (List yax)
 From : Str
 Alias : Str
 Join : Bool
 Left : Bool
 Other : Str
 Named : Str
 On : yaG
 Where : (List yab)
 Group : (List yab)
 Having : (List yab)
structure yal where
 Name : Str
 Desc : Bool
structure yaw where
 Cores : (List yan)
 Order : (List yal)
 Limit : (List Int)
structure yaO where
 Kind : Int
 Name : Str
 Columns : (List yak)
 Rows : (List (List yab))
 Sets : (List yay)
 Where : (List yab)
 Query : yaw
 N : Int
inductive TC where
 | c0
 | c2
 | c3
 | c4
 | c5
 | c9
 | c22
 | c23
 | c25
 | c27
 | c28
 | c29
 | c30
 | c31
 | c32
 | c33
 | c35
 | c37
 | c39
 | c40
 | c41
 | c42
 | c43
 | c44
 | c46
 | c48
 | c56
 | c58
 | c65
 | c66
 | c68
 | c72
 | c73
 | c74
 | c76
 | c79
 | c82
 | c85
 | c102
 | c103
 | c104
 | c106
 | c108
 | c113
 | c118
 | c120
 | c136
def KF : TC → Type
 | .c0 => Unit
 | .c2 => Int
 | .c3 => Int
 | .c4 => Bool
 | .c5 => Int
 | .c9 => Str
 | .c22 => (List Int)
 | .c23 => (List (List yac))
 | .c25 => yaE
 | .c27 => (List yah)
 | .c28 => (List (List yaa))
 | .c29 => (List yaq)
 | .c30 => (List yaa)
 | .c31 => (List yaf)
 | .c32 => (List yaj)
 | .c33 => (List Int)
 | .c35 => yav
 | .c37 => yas
 | .c39 => (List yak)
 | .c40 => (List (List yab))
 | .c41 => (List yay)
 | .c42 => (List yab)
 | .c43 => (List yan)
 | .c44 => (List yal)
 | .c46 => yaw
 | .c48 => yaO
 | .c56 => yae
 | .c58 => yab
 | .c65 => yah
 | .c66 => yad
 | .c68 => yaa
 | .c72 => yaq
 | .c73 => (List yai)
 | .c74 => yaL
 | .c76 => yaf
 | .c79 => yaj
 | .c82 => yak
 | .c85 => yay
 | .c102 => (List Str)
 | .c103 => (List yax)
 | .c104 => yaG
 | .c106 => yan
 | .c108 => yal
 | .c113 => (List yac)
 | .c118 => yai
 | .c120 => yax
 | .c136 => yac
def yzJ : List (Nat × TC) := [(2, .c2), (3, .c3), (4, .c4), (5, .c5), (9, .c9), (22, .c22), (23, .c23), (25, .c25), (27, .c27), (28, .c28), (29, .c29), (30, .c30), (31, .c31), (32, .c32), (33, .c33), (35, .c35), (37, .c37), (39, .c39), (40, .c40), (41, .c41), (42, .c42), (43, .c43), (44, .c44), (46, .c46), (48, .c48), (56, .c56), (58, .c58), (65, .c65), (66, .c66), (68, .c68), (72, .c72), (73, .c73), (74, .c74), (76, .c76), (79, .c79), (82, .c82), (85, .c85), (102, .c102), (103, .c103), (104, .c104), (106, .c106), (108, .c108), (113, .c113), (118, .c118), (120, .c120), (136, .c136)]
def code (t : Nat) : TC := lkC .c0 yzJ t
abbrev KK (t : Nat) : Type := KF (code t)
def ybu : Enc yac := ycZ ((yat (tbI .u8) (yat (tbI .u8) (yat (tbI .u8) (yat (tbI .u8) (yat (tbI .i64) (yat tbS tbS)))))) : Tb KK _).E (fun x : yac => (x.Kind, x.Op, x.Value, x.Parts, x.N, x.Name, x.Table))
def b136 : Tb KK yac := yd2 (yat (tbI .u8) (yat (tbI .u8) (yat (tbI .u8) (yat (tbI .u8) (yat (tbI .i64) (yat tbS tbS)))))) (fun x : yac => (x.Kind, x.Op, x.Value, x.Parts, x.N, x.Name, x.Table)) (fun y => (⟨y.1, y.2.1, y.2.2.1, y.2.2.2.1, y.2.2.2.2.1, y.2.2.2.2.2.1, y.2.2.2.2.2.2⟩ : yac)) ybu
def yeq : Enc yaE := ycZ ((yat (tbI .u8) (yat (tbL 5 (eI .u8) : Tb KK (List Int)) (yat (tbL 113 (eSl ybu) : Tb KK (List (List yac))) (tbI .i64)))) : Tb KK _).E (fun x : yaE => (x.Kind, x.Numbers, x.Exprs, x.N))
def b25 : Tb KK yaE := yd2 (yat (tbI .u8) (yat (tbL 5 (eI .u8) : Tb KK (List Int)) (yat (tbL 113 (eSl ybu) : Tb KK (List (List yac))) (tbI .i64)))) (fun x : yaE => (x.Kind, x.Numbers, x.Exprs, x.N)) (fun y => (⟨y.1, y.2.1, y.2.2.1, y.2.2.2⟩ : yaE)) yeq
def ycj : Enc yah := ycZ ((yat tbS (yat (tbI .i64) tbB)) : Tb KK _).E (fun x : yah => (x.Name, x.Kind, x.Key))
def b65 : Tb KK yah := yd2 (yat tbS (yat (tbI .i64) tbB)) (fun x : yah => (x.Name, x.Kind, x.Key)) (fun y => (⟨y.1, y.2.1, y.2.2⟩ : yah)) ycj
def ybL : Enc yad := ycZ ((yat (tbI .i64) (yat (tbI .i64) tbS)) : Tb KK _).E (fun x : yad => (x.Kind, x.N, x.S))
def b66 : Tb KK yad := yd2 (yat (tbI .i64) (yat (tbI .i64) tbS)) (fun x : yad => (x.Kind, x.N, x.S)) (fun y => (⟨y.1, y.2.1, y.2.2⟩ : yad)) ybL
mutual
def yaW : yaa → List AV
 | .mk v_Kind v_Op v_V v_Table v_Name v_L => ([.it .i64 v_Kind]) ++ ([.it .i64 v_Op]) ++ (ybL.c v_V) ++ ([.st v_Table]) ++ ([.st v_Name]) ++ ([.sl false v_L.length (yb9 v_L)])
def yb9 : List yaa → List AV
 | [] => []
 | x :: r => yaW x ++ yb9 r
end
theorem yge : ∀ l, yb9 l = l.flatMap yaW
 | [] => rfl
 | x :: r => by simp only [yb9, List.flatMap_cons, yge r]
mutual
theorem ykX : ∀ x, (yaW x).length = 8
 | .mk v_Kind v_Op v_V v_Table v_Name v_L => by first | (simp [yaW, ybL.len]; done) | (simp [yaW, ybL.len]; rfl)
end
mutual
theorem ylF : ∀ x, noLs (yaW x) = true
 | .mk v_Kind v_Op v_V v_Table v_Name v_L => by simp [yaW, yk1, noLs, AV.noL, slA, ybL.no]
end
mutual
theorem ykR : ∀ x, (yaW x).all AV.one = true
 | .mk v_Kind v_Op v_V v_Table v_Name v_L => by simp only [yaW, List.all_append, List.all_cons, List.all_nil, AV.one, slA, Bool.and_true, Bool.true_and, ybL.one]
end
def yaN : Enc yaa := ⟨yaW, 8, by omega, ykX, ylF, ykR⟩
def b68 : Tb KK yaa := yd2 (yat (tbI .i64) (yat (tbI .i64) (yat b66 (yat tbS (yat tbS (tbL 68 yaN : Tb KK (List yaa))))))) (fun x : yaa => (x.Kind, x.Op, x.V, x.Table, x.Name, x.L)) (fun y => (yaa.mk y.1 y.2.1 y.2.2.1 y.2.2.2.1 y.2.2.2.2.1 y.2.2.2.2.2)) yaN
def ydo : Enc yaq := ycZ ((yat tbS b68) : Tb KK _).E (fun x : yaq => (x.Name, x.E))
def b72 : Tb KK yaq := yd2 (yat tbS b68) (fun x : yaq => (x.Name, x.E)) (fun y => (⟨y.1, y.2⟩ : yaq)) ydo
def yc1 : Enc yai := ycZ ((yat b68 tbS) : Tb KK _).E (fun x : yai => (x.E, x.As))
def b118 : Tb KK yai := yd2 (yat b68 tbS) (fun x : yai => (x.E, x.As)) (fun y => (⟨y.1, y.2⟩ : yai)) yc1
def yjE : Enc yaL := ycZ ((yat b68 b68) : Tb KK _).E (fun x : yaL => (x.x0, x.x1))
def b74 : Tb KK yaL := yd2 (yat b68 b68) (fun x : yaL => (x.x0, x.x1)) (fun y => (⟨y.1, y.2⟩ : yaL)) yjE
def yc0 : Enc yaf := ycZ ((yat tbB (yat (tbL 118 yc1 : Tb KK (List yai)) (yat tbS (yat tbS (yat tbB (yat tbB (yat tbS (yat tbS (yat b74 (yat (tbL 68 yaN : Tb KK (List yaa)) (yat (tbL 68 yaN : Tb KK (List yaa)) (tbL 68 yaN : Tb KK (List yaa))))))))))))) : Tb KK _).E (fun x : yaf => (x.Distinct, x.Items, x.From, x.Alias, x.Join, x.Left, x.Other, x.Named, x.On, x.Where, x.Group, x.Having))
def b76 : Tb KK yaf := yd2 (yat tbB (yat (tbL 118 yc1 : Tb KK (List yai)) (yat tbS (yat tbS (yat tbB (yat tbB (yat tbS (yat tbS (yat b74 (yat (tbL 68 yaN : Tb KK (List yaa)) (yat (tbL 68 yaN : Tb KK (List yaa)) (tbL 68 yaN : Tb KK (List yaa))))))))))))) (fun x : yaf => (x.Distinct, x.Items, x.From, x.Alias, x.Join, x.Left, x.Other, x.Named, x.On, x.Where, x.Group, x.Having)) (fun y => (⟨y.1, y.2.1, y.2.2.1, y.2.2.2.1, y.2.2.2.2.1, y.2.2.2.2.2.1, y.2.2.2.2.2.2.1, y.2.2.2.2.2.2.2.1, y.2.2.2.2.2.2.2.2.1, y.2.2.2.2.2.2.2.2.2.1, y.2.2.2.2.2.2.2.2.2.2.1, y.2.2.2.2.2.2.2.2.2.2.2⟩ : yaf)) yc0
def ycC : Enc yaj := ycZ ((yat tbS tbB) : Tb KK _).E (fun x : yaj => (x.Name, x.Desc))
def b79 : Tb KK yaj := yd2 (yat tbS tbB) (fun x : yaj => (x.Name, x.Desc)) (fun y => (⟨y.1, y.2⟩ : yaj)) ycC
def yoA : Enc yav := ycZ ((yat (tbL 76 yc0 : Tb KK (List yaf)) (yat (tbL 79 ycC : Tb KK (List yaj)) (tbL 2 (eI .i64) : Tb KK (List Int)))) : Tb KK _).E (fun x : yav => (x.Cores, x.Order, x.Limit))
def b35 : Tb KK yav := yd2 (yat (tbL 76 yc0 : Tb KK (List yaf)) (yat (tbL 79 ycC : Tb KK (List yaj)) (tbL 2 (eI .i64) : Tb KK (List Int)))) (fun x : yav => (x.Cores, x.Order, x.Limit)) (fun y => (⟨y.1, y.2.1, y.2.2⟩ : yav)) yoA
def ypb : Enc yas := ycZ ((yat (tbI .i64) (yat tbS (yat (tbL 65 ycj : Tb KK (List yah)) (yat (tbL 30 (eSl yaN) : Tb KK (List (List yaa))) (yat (tbL 72 ydo : Tb KK (List yaq)) (yat (tbL 68 yaN : Tb KK (List yaa)) (yat b35 (tbI .i64)))))))) : Tb KK _).E (fun x : yas => (x.Kind, x.Name, x.Columns, x.Rows, x.Sets, x.Where, x.Query, x.N))
def b37 : Tb KK yas := yd2 (yat (tbI .i64) (yat tbS (yat (tbL 65 ycj : Tb KK (List yah)) (yat (tbL 30 (eSl yaN) : Tb KK (List (List yaa))) (yat (tbL 72 ydo : Tb KK (List yaq)) (yat (tbL 68 yaN : Tb KK (List yaa)) (yat b35 (tbI .i64)))))))) (fun x : yas => (x.Kind, x.Name, x.Columns, x.Rows, x.Sets, x.Where, x.Query, x.N)) (fun y => (⟨y.1, y.2.1, y.2.2.1, y.2.2.2.1, y.2.2.2.2.1, y.2.2.2.2.2.1, y.2.2.2.2.2.2.1, y.2.2.2.2.2.2.2⟩ : yas)) ypb
def ycB : Enc yak := ycZ ((yat tbS (yat (tbI .i64) tbB)) : Tb KK _).E (fun x : yak => (x.Name, x.Kind, x.Key))
def b82 : Tb KK yak := yd2 (yat tbS (yat (tbI .i64) tbB)) (fun x : yak => (x.Name, x.Kind, x.Key)) (fun y => (⟨y.1, y.2.1, y.2.2⟩ : yak)) ycB
def ybK : Enc yae := ycZ ((yat (tbI .i64) (yat (tbI .i64) tbS)) : Tb KK _).E (fun x : yae => (x.Kind, x.N, x.S))
def b56 : Tb KK yae := yd2 (yat (tbI .i64) (yat (tbI .i64) tbS)) (fun x : yae => (x.Kind, x.N, x.S)) (fun y => (⟨y.1, y.2.1, y.2.2⟩ : yae)) ybK
mutual
def ya5 : yab → List AV
 | .mk v_Kind v_Op v_V v_Table v_Name v_L => ([.it .i64 v_Kind]) ++ ([.it .i64 v_Op]) ++ (ybK.c v_V) ++ ([.st v_Table]) ++ ([.st v_Name]) ++ ([.sl false v_L.length (ycx v_L)])
def ycx : List yab → List AV
 | [] => []
 | x :: r => ya5 x ++ ycx r
end
theorem ygJ : ∀ l, ycx l = l.flatMap ya5
 | [] => rfl
 | x :: r => by simp only [ycx, List.flatMap_cons, ygJ r]
mutual
theorem ylR : ∀ x, (ya5 x).length = 8
 | .mk v_Kind v_Op v_V v_Table v_Name v_L => by first | (simp [ya5, ybK.len]; done) | (simp [ya5, ybK.len]; rfl)
end
mutual
theorem yme : ∀ x, noLs (ya5 x) = true
 | .mk v_Kind v_Op v_V v_Table v_Name v_L => by simp [ya5, yk1, noLs, AV.noL, slA, ybK.no]
end
mutual
theorem ylb : ∀ x, (ya5 x).all AV.one = true
 | .mk v_Kind v_Op v_V v_Table v_Name v_L => by simp only [ya5, List.all_append, List.all_cons, List.all_nil, AV.one, slA, Bool.and_true, Bool.true_and, ybK.one]
end
def yaQ : Enc yab := ⟨ya5, 8, by omega, ylR, yme, ylb⟩
def b58 : Tb KK yab := yd2 (yat (tbI .i64) (yat (tbI .i64) (yat b56 (yat tbS (yat tbS (tbL 58 yaQ : Tb KK (List yab))))))) (fun x : yab => (x.Kind, x.Op, x.V, x.Table, x.Name, x.L)) (fun y => (yab.mk y.1 y.2.1 y.2.2.1 y.2.2.2.1 y.2.2.2.2.1 y.2.2.2.2.2)) yaQ
def yd8 : Enc yay := ycZ ((yat tbS b58) : Tb KK _).E (fun x : yay => (x.Name, x.E))
def b85 : Tb KK yay := yd2 (yat tbS b58) (fun x : yay => (x.Name, x.E)) (fun y => (⟨y.1, y.2⟩ : yay)) yd8
def ydt : Enc yax := ycZ ((yat b58 tbS) : Tb KK _).E (fun x : yax => (x.E, x.As))
def b120 : Tb KK yax := yd2 (yat b58 tbS) (fun x : yax => (x.E, x.As)) (fun y => (⟨y.1, y.2⟩ : yax)) ydt
def ykQ : Enc yaG := ycZ ((yat b58 b58) : Tb KK _).E (fun x : yaG => (x.x0, x.x1))
def b104 : Tb KK yaG := yd2 (yat b58 b58) (fun x : yaG => (x.x0, x.x1)) (fun y => (⟨y.1, y.2⟩ : yaG)) ykQ
def ydq : Enc yan := ycZ ((yat tbB (yat (tbL 120 ydt : Tb KK (List yax)) (yat tbS (yat tbS (yat tbB (yat tbB (yat tbS (yat tbS (yat b104 (yat (tbL 58 yaQ : Tb KK (List yab)) (yat (tbL 58 yaQ : Tb KK (List yab)) (tbL 58 yaQ : Tb KK (List yab))))))))))))) : Tb KK _).E (fun x : yan => (x.Distinct, x.Items, x.From, x.Alias, x.Join, x.Left, x.Other, x.Named, x.On, x.Where, x.Group, x.Having))
def b106 : Tb KK yan := yd2 (yat tbB (yat (tbL 120 ydt : Tb KK (List yax)) (yat tbS (yat tbS (yat tbB (yat tbB (yat tbS (yat tbS (yat b104 (yat (tbL 58 yaQ : Tb KK (List yab)) (yat (tbL 58 yaQ : Tb KK (List yab)) (tbL 58 yaQ : Tb KK (List yab))))))))))))) (fun x : yan => (x.Distinct, x.Items, x.From, x.Alias, x.Join, x.Left, x.Other, x.Named, x.On, x.Where, x.Group, x.Having)) (fun y => (⟨y.1, y.2.1, y.2.2.1, y.2.2.2.1, y.2.2.2.2.1, y.2.2.2.2.2.1, y.2.2.2.2.2.2.1, y.2.2.2.2.2.2.2.1, y.2.2.2.2.2.2.2.2.1, y.2.2.2.2.2.2.2.2.2.1, y.2.2.2.2.2.2.2.2.2.2.1, y.2.2.2.2.2.2.2.2.2.2.2⟩ : yan)) ydq
def ycT : Enc yal := ycZ ((yat tbS tbB) : Tb KK _).E (fun x : yal => (x.Name, x.Desc))
def b108 : Tb KK yal := yd2 (yat tbS tbB) (fun x : yal => (x.Name, x.Desc)) (fun y => (⟨y.1, y.2⟩ : yal)) ycT
def ypU : Enc yaw := ycZ ((yat (tbL 106 ydq : Tb KK (List yan)) (yat (tbL 108 ycT : Tb KK (List yal)) (tbL 2 (eI .i64) : Tb KK (List Int)))) : Tb KK _).E (fun x : yaw => (x.Cores, x.Order, x.Limit))
def b46 : Tb KK yaw := yd2 (yat (tbL 106 ydq : Tb KK (List yan)) (yat (tbL 108 ycT : Tb KK (List yal)) (tbL 2 (eI .i64) : Tb KK (List Int)))) (fun x : yaw => (x.Cores, x.Order, x.Limit)) (fun y => (⟨y.1, y.2.1, y.2.2⟩ : yaw)) ypU
def yqK : Enc yaO := ycZ ((yat (tbI .i64) (yat tbS (yat (tbL 82 ycB : Tb KK (List yak)) (yat (tbL 42 (eSl yaQ) : Tb KK (List (List yab))) (yat (tbL 85 yd8 : Tb KK (List yay)) (yat (tbL 58 yaQ : Tb KK (List yab)) (yat b46 (tbI .i64)))))))) : Tb KK _).E (fun x : yaO => (x.Kind, x.Name, x.Columns, x.Rows, x.Sets, x.Where, x.Query, x.N))
def b48 : Tb KK yaO := yd2 (yat (tbI .i64) (yat tbS (yat (tbL 82 ycB : Tb KK (List yak)) (yat (tbL 42 (eSl yaQ) : Tb KK (List (List yab))) (yat (tbL 85 yd8 : Tb KK (List yay)) (yat (tbL 58 yaQ : Tb KK (List yab)) (yat b46 (tbI .i64)))))))) (fun x : yaO => (x.Kind, x.Name, x.Columns, x.Rows, x.Sets, x.Where, x.Query, x.N)) (fun y => (⟨y.1, y.2.1, y.2.2.1, y.2.2.2.1, y.2.2.2.2.1, y.2.2.2.2.2.1, y.2.2.2.2.2.2.1, y.2.2.2.2.2.2.2⟩ : yaO)) yqK
def TF : (c : TC) → Tb KK (KF c)
 | .c0 => tbU
 | .c2 => (tbI .i64)
 | .c3 => (tbI .i64)
 | .c4 => tbB
 | .c5 => (tbI .u8)
 | .c9 => tbS
 | .c22 => (tbL 5 (eI .u8) : Tb KK (List Int))
 | .c23 => (tbL 113 (eSl ybu) : Tb KK (List (List yac)))
 | .c25 => b25
 | .c27 => (tbL 65 ycj : Tb KK (List yah))
 | .c28 => (tbL 30 (eSl yaN) : Tb KK (List (List yaa)))
 | .c29 => (tbL 72 ydo : Tb KK (List yaq))
 | .c30 => (tbL 68 yaN : Tb KK (List yaa))
 | .c31 => (tbL 76 yc0 : Tb KK (List yaf))
 | .c32 => (tbL 79 ycC : Tb KK (List yaj))
 | .c33 => (tbL 2 (eI .i64) : Tb KK (List Int))
 | .c35 => b35
 | .c37 => b37
 | .c39 => (tbL 82 ycB : Tb KK (List yak))
 | .c40 => (tbL 42 (eSl yaQ) : Tb KK (List (List yab)))
 | .c41 => (tbL 85 yd8 : Tb KK (List yay))
 | .c42 => (tbL 58 yaQ : Tb KK (List yab))
 | .c43 => (tbL 106 ydq : Tb KK (List yan))
 | .c44 => (tbL 108 ycT : Tb KK (List yal))
 | .c46 => b46
 | .c48 => b48
 | .c56 => b56
 | .c58 => b58
 | .c65 => b65
 | .c66 => b66
 | .c68 => b68
 | .c72 => b72
 | .c73 => (tbL 118 yc1 : Tb KK (List yai))
 | .c74 => b74
 | .c76 => b76
 | .c79 => b79
 | .c82 => b82
 | .c85 => b85
 | .c102 => (tbL 9 eS : Tb KK (List Str))
 | .c103 => (tbL 120 ydt : Tb KK (List yax))
 | .c104 => b104
 | .c106 => b106
 | .c108 => b108
 | .c113 => (tbL 136 ybu : Tb KK (List yac))
 | .c118 => b118
 | .c120 => b120
 | .c136 => b136
def CC : Cx KK := @cxOf TC KF code TF
theorem ytk : TbOk Tryz.prog CC b136 := ybb (yam (ycn _) (yam (ycn _) (yam (ycn _) (yam (ycn _) (yam (ycn _) (yam yb3 yb3)))))) (fun y => rfl) (fun x => rfl)
theorem yf8 : ∀ x, dwks (ybu.c x) = ybu.c x := ytk.dw
theorem yy0 : TbOk Tryz.prog CC b25 := ybb (yam (ycn _) (yam (yaV _ rfl (fun _ => rfl)) (yam (yaV _ rfl (ymS yf8)) (ycn _)))) (fun y => rfl) (fun x => rfl)
theorem yvN : TbOk Tryz.prog CC b65 := ybb (yam yb3 (yam (ycn _) ygs)) (fun y => rfl) (fun x => rfl)
theorem ygy : ∀ x, dwks (ycj.c x) = ycj.c x := yvN.dw
theorem yux : TbOk Tryz.prog CC b66 := ybb (yam (ycn _) (yam (ycn _) yb3)) (fun y => rfl) (fun x => rfl)
theorem ymh : ∀ x, dwks (ybL.c x) = ybL.c x := yux.dw
mutual
theorem ygU : ∀ x, dwks (yaW x) = yaW x
 | .mk v_Kind v_Op v_V v_Table v_Name v_L => by simp only [yaW, ybX, dwks, dwk, slA, yf9 v_L, ymh]
theorem yf9 : ∀ l, dwks (yb9 l) = yb9 l
 | [] => rfl
 | x :: r => by simp only [yb9, ybX, ygU x, yf9 r]
end
theorem ybN : ∀ x, dwks (yaN.c x) = yaN.c x := ygU
theorem yoW : TbOk Tryz.prog CC b68 := ybb (yam (ycn _) (yam (ycn _) (yam yux (yam yb3 (yam yb3 (yaV _ rfl ybN)))))) (fun y => rfl) (fun x => by cases x; simp only [yaN, yaW, yge]; rfl)
theorem ywi : TbOk Tryz.prog CC b72 := ybb (yam yb3 yoW) (fun y => rfl) (fun x => rfl)
theorem yky : ∀ x, dwks (ydo.c x) = ydo.c x := ywi.dw
theorem ytj : TbOk Tryz.prog CC b118 := ybb (yam yoW yb3) (fun y => rfl) (fun x => rfl)
theorem yjk : ∀ x, dwks (yc1.c x) = yc1.c x := ytj.dw
theorem ywj : TbOk Tryz.prog CC b74 := ybb (yam yoW yoW) (fun y => rfl) (fun x => rfl)
theorem yvX : TbOk Tryz.prog CC b76 := ybb (yam ygs (yam (yaV _ rfl yjk) (yam yb3 (yam yb3 (yam ygs (yam ygs (yam yb3 (yam yb3 (yam ywj (yam (yaV _ rfl ybN) (yam (yaV _ rfl ybN) (yaV _ rfl ybN)))))))))))) (fun y => rfl) (fun x => rfl)
theorem yjj : ∀ x, dwks (yc0.c x) = yc0.c x := yvX.dw
theorem yv9 : TbOk Tryz.prog CC b79 := ybb (yam yb3 ygs) (fun y => rfl) (fun x => rfl)
theorem yhj : ∀ x, dwks (ycC.c x) = ycC.c x := yv9.dw
theorem ywh : TbOk Tryz.prog CC b35 := ybb (yam (yaV _ rfl yjj) (yam (yaV _ rfl yhj) (yaV _ rfl (fun _ => rfl)))) (fun y => rfl) (fun x => rfl)
theorem yya : TbOk Tryz.prog CC b37 := ybb (yam (ycn _) (yam yb3 (yam (yaV _ rfl ygy) (yam (yaV _ rfl (ymS ybN)) (yam (yaV _ rfl yky) (yam (yaV _ rfl ybN) (yam ywh (ycn _)))))))) (fun y => rfl) (fun x => rfl)
theorem ywd : TbOk Tryz.prog CC b82 := ybb (yam yb3 (yam (ycn _) ygs)) (fun y => rfl) (fun x => rfl)
theorem yhq : ∀ x, dwks (ycB.c x) = ycB.c x := ywd.dw
theorem ytC : TbOk Tryz.prog CC b56 := ybb (yam (ycn _) (yam (ycn _) yb3)) (fun y => rfl) (fun x => rfl)
theorem ymc : ∀ x, dwks (ybK.c x) = ybK.c x := ytC.dw
mutual
theorem yhr : ∀ x, dwks (ya5 x) = ya5 x
 | .mk v_Kind v_Op v_V v_Table v_Name v_L => by simp only [ya5, ybX, dwks, dwk, slA, ygT v_L, ymc]
theorem ygT : ∀ l, dwks (ycx l) = ycx l
 | [] => rfl
 | x :: r => by simp only [ycx, ybX, yhr x, ygT r]
end
theorem yb8 : ∀ x, dwks (yaQ.c x) = yaQ.c x := yhr
theorem ypT : TbOk Tryz.prog CC b58 := ybb (yam (ycn _) (yam (ycn _) (yam ytC (yam yb3 (yam yb3 (yaV _ rfl yb8)))))) (fun y => rfl) (fun x => by cases x; simp only [yaQ, ya5, ygJ]; rfl)
theorem yvC : TbOk Tryz.prog CC b85 := ybb (yam yb3 ypT) (fun y => rfl) (fun x => rfl)
theorem ylg : ∀ x, dwks (yd8.c x) = yd8.c x := yvC.dw
theorem ysS : TbOk Tryz.prog CC b120 := ybb (yam ypT yb3) (fun y => rfl) (fun x => rfl)
theorem ykt : ∀ x, dwks (ydt.c x) = ydt.c x := ysS.dw
theorem ytu : TbOk Tryz.prog CC b104 := ybb (yam ypT ypT) (fun y => rfl) (fun x => rfl)
theorem ytX : TbOk Tryz.prog CC b106 := ybb (yam ygs (yam (yaV _ rfl ykt) (yam yb3 (yam yb3 (yam ygs (yam ygs (yam yb3 (yam yb3 (yam ytu (yam (yaV _ rfl yb8) (yam (yaV _ rfl yb8) (yaV _ rfl yb8)))))))))))) (fun y => rfl) (fun x => rfl)
theorem ykF : ∀ x, dwks (ydq.c x) = ydq.c x := ytX.dw
theorem ys0 : TbOk Tryz.prog CC b108 := ybb (yam yb3 ygs) (fun y => rfl) (fun x => rfl)
theorem yi3 : ∀ x, dwks (ycT.c x) = ycT.c x := ys0.dw
theorem yvU : TbOk Tryz.prog CC b46 := ybb (yam (yaV _ rfl ykF) (yam (yaV _ rfl yi3) (yaV _ rfl (fun _ => rfl)))) (fun y => rfl) (fun x => rfl)
theorem yxX : TbOk Tryz.prog CC b48 := ybb (yam (ycn _) (yam yb3 (yam (yaV _ rfl yhq) (yam (yaV _ rfl (ymS yb8)) (yam (yaV _ rfl ylg) (yam (yaV _ rfl yb8) (yam yvU (ycn _)))))))) (fun y => rfl) (fun x => rfl)
theorem yaU : CxOk Tryz.prog CC := @ywo TC KF code _ TF fun c => match c with
 | .c0 => yx0
 | .c2 => (ycn _)
 | .c3 => (ycn _)
 | .c4 => ygs
 | .c5 => (ycn _)
 | .c9 => yb3
 | .c22 => (yaV _ rfl (fun _ => rfl))
 | .c23 => (yaV _ rfl (ymS yf8))
 | .c25 => yy0
 | .c27 => (yaV _ rfl ygy)
 | .c28 => (yaV _ rfl (ymS ybN))
 | .c29 => (yaV _ rfl yky)
 | .c30 => (yaV _ rfl ybN)
 | .c31 => (yaV _ rfl yjj)
 | .c32 => (yaV _ rfl yhj)
 | .c33 => (yaV _ rfl (fun _ => rfl))
 | .c35 => ywh
 | .c37 => yya
 | .c39 => (yaV _ rfl yhq)
 | .c40 => (yaV _ rfl (ymS yb8))
 | .c41 => (yaV _ rfl ylg)
 | .c42 => (yaV _ rfl yb8)
 | .c43 => (yaV _ rfl ykF)
 | .c44 => (yaV _ rfl yi3)
 | .c46 => yvU
 | .c48 => yxX
 | .c56 => ytC
 | .c58 => ypT
 | .c65 => yvN
 | .c66 => yux
 | .c68 => yoW
 | .c72 => ywi
 | .c73 => (yaV _ rfl yjk)
 | .c74 => ywj
 | .c76 => yvX
 | .c79 => yv9
 | .c82 => ywd
 | .c85 => yvC
 | .c102 => (yaV _ rfl (fun _ => rfl))
 | .c103 => (yaV _ rfl ykt)
 | .c104 => ytu
 | .c106 => ytX
 | .c108 => ys0
 | .c113 => (yaV _ rfl yf8)
 | .c118 => ytj
 | .c120 => ysS
 | .c136 => ytk
def yde (a0 : Int) (r0 : yae) : Prop :=
 (⟨(2 : Int), a0, ([] : Str)⟩ : yae) = r0
def yhm : Sp KK := ⟨11, [.v 2], [56], appW (K := KK) [56] [.v 2] yde⟩
def ymn : An KK := (.s .o (.s .o .o))
def ymb : Cf KK := ⟨CC, [], [], 5⟩
theorem ymH : SpOk Tryz.prog CC yhm := yaz (F := ymb) (ps := [.v 2]) (rs := [56]) (w := yde) yaU yaA yaB t11 (A := ymn) (by kernel_rfl) (by kernel_rfl) fun a0 r0 => show _ = _ by kernel_rfl
def yob (a0 : yab) (Xr : yab → Int → Prop) (r0 : Int) (X1 : Int → Int → Prop) (x1 x2 : Int) : Prop :=
 cnd (decide (x2 < (a0.L.length : Int))) ((0 ≤ x2) ∧ (x2 < (a0.L.length : Int)) ∧ ∃ y3 : yab, (a0.L[x2.toNat]? = some y3) ∧ ∃ z4, (Xr (yab.mk y3.Kind y3.Op (⟨y3.V.Kind, y3.V.N, y3.V.S⟩ : yae) y3.Table y3.Name y3.L) z4) ∧ X1 (if z4 > x1 then z4 else x1) (IntKind.i64.wrap (x2 + (1 : Int)))) ((IntKind.i64.wrap (x1 + (1 : Int))) = r0)
def ygP (Xr : yab → Int → Prop) (a0 : yab) (r0 : Int) : Prop :=
 (a0.L.length ≤ maxLen → ∀ X1 : Int → Int → Prop, (∀ x1 x2, yob a0 Xr r0 X1 x1 x2 → X1 x1 x2) → X1 (0 : Int) (0 : Int))
def ygI (a0 : yab) (r0 : Int) : Prop := ∀ Xr : yab → Int → Prop, (∀ (a0 : yab) (r0 : Int), ygP Xr a0 r0 → Xr a0 r0) → Xr a0 r0
def yit : Sp KK := ⟨68, [.v 58], [3], appW (K := KK) [3] [.v 58] ygI⟩
def ynw : An KK := (.s .o (.s .o (.s (.s .o (.b (.l ⟨[(3, .it .i64), (7, .kp 6), (8, .kp 7), (9, .it .i64)], [], []⟩ (fun _ => (.s .o (.s (.c .o .o) (.s (.b (.s .o .o)) .o))))))) (.s .o .o))))
def ynL (Xr : WTy KK [3] [.v 58]) : Cf KK := ⟨CC, [⟨68, [.v 58], [3], appW (K := KK) [3] [.v 58] Xr⟩], [], 20⟩
theorem ymm (Xr : yab → Int → Prop) (hX : ∀ (a0 : yab) (r0 : Int), Xr a0 r0 → Pure Tryz.prog 68 (ybj CC [.v 58] ([.d (.v 58 a0)] : List (AD KK))) (ybk (([.v 3 r0] : List (DV KK)).map (dvA CC)))) : ∀ (a0 : yab) (r0 : Int), ygP Xr a0 r0 → Pure Tryz.prog 68 (ybj CC [.v 58] ([.d (.v 58 a0)] : List (AD KK))) (ybk (([.v 3 r0] : List (DV KK)).map (dvA CC))) := by
 intro a0 r0 h
 refine ykB (F := ynL Xr) yaU (yap ?_ yaA) yaB t68 (A := ynw) (ps := [.v 58]) (rs := [3]) (env := [.d (.v 58 a0)]) (r := [.v 3 r0]) (X := ygP Xr a0 r0) (by kernel_rfl) (Nat.le_of_ble_eq_true (by kernel_rfl)) (by kernel_rfl) (fun G hG => by simp at hG) h ?_
 ·clear h r0
  intro env r hF h
  obtain ⟨a0, _, rfl, h1⟩ := ybv h
  obtain ⟨rfl, h2⟩ := ycS h1
  obtain ⟨r0, _, rfl, h3⟩ := yev h2
  obtain ⟨rfl, h4⟩ := yfa h3
  exact ⟨rfl, hX a0 r0 h4⟩
 ·kernel_rfl
theorem yni : SpOk Tryz.prog CC yit := by
 intro env r hF h
 obtain ⟨a0, _, rfl, h1⟩ := ybv h
 obtain ⟨rfl, h2⟩ := ycS h1
 obtain ⟨r0, _, rfl, h3⟩ := yev h2
 obtain ⟨rfl, h4⟩ := yfa h3
 exact ⟨rfl, h4 (fun a0 r0 =>  Pure Tryz.prog 68 (ybj CC [.v 58] ([.d (.v 58 a0)] : List (AD KK))) (ybk (([.v 3 r0] : List (DV KK)).map (dvA CC)))) (fun a0 r0 h => ymm _ (fun a0 r0 h => h) a0 r0 h)⟩
def yeH (a0 : yab) (r0 x1 : Bool) : Prop :=
 cnd x1 ((a0.L.length ≤ maxLen → ((a0.L.length : Int) == (0 : Int)) = r0)) (cnd (a0.Kind == (3 : Int)) ((a0.L.length ≤ maxLen → ((a0.L.length : Int) == (2 : Int)) = r0)) (cnd (a0.Kind == (8 : Int)) ((a0.L.length ≤ maxLen → cnd ((a0.L.length : Int) == (1 : Int)) (true = r0) (cnd (a0.Op == (1 : Int)) ((a0.L.length ≤ maxLen → ((a0.L.length : Int) == (0 : Int)) = r0)) (false = r0)))) (cnd (decide ((4 : Int) ≤ a0.Kind)) (cnd (decide (a0.Kind ≤ (7 : Int))) ((a0.L.length ≤ maxLen → ((a0.L.length : Int) == (1 : Int)) = r0)) (false = r0)) (false = r0))))
def ycF (a0 : yab) (r0 : Bool) : Prop :=
 ∀ J1 : Bool → Prop, (∀ x1, yeH a0 r0 x1 → J1 x1) → cnd (a0.Kind == (1 : Int)) (J1 (a0.Kind == (1 : Int))) (J1 (a0.Kind == (2 : Int)))
def yeE : Sp KK := ⟨79, [.v 58], [4], appW (K := KK) [4] [.v 58] ycF⟩
def yix : An KK := (.s .o (.s (.s .o (.b (.j ⟨[(1, .px 1 0), (4, .kp 10), (5, .bl)], [(1, 58, (kps 11 8))], []⟩ (.s .o (.c .o .o)) (fun _ => (.c (.s .o .o) (.s .o (.c (.s .o .o) (.s .o (.c (.s .o .o) .o))))))))) (.s .o .o)))
def yiQ : Cf KK := ⟨CC, [], [], 49⟩
theorem yiG : SpOk Tryz.prog CC yeE := yaz (F := yiQ) (ps := [.v 58]) (rs := [4]) (w := ycF) yaU yaA yaB t79 (A := yix) (by kernel_rfl) (by kernel_rfl) fun a0 r0 => show _ = _ by kernel_rfl
def ydr (r0 : Bool) (x1 x2 x3 x4 : Int) (x5 x6 x7 : Str) (x8 : List yab) (x9 x10 x11 x12 : Int) (x13 x14 x15 : Str) (x16 : List yab) : Prop :=
 cnd (x10 == x2) (cnd ((x11 == x3) && ((x12 == x4) && ((x13 == x5) && true))) (cnd (x14 == x6) ((x15 == x7) = r0) (false = r0)) (false = r0)) (false = r0)
def yjx (J1 : Int → Int → Int → Int → Str → Str → Str → (List yab) → Int → Int → Int → Int → Str → Str → Str → (List yab) → Prop) (a0 : yab) (x17 : Bool) : Prop :=
 cnd x17 (J1 a0.Kind a0.Op a0.V.Kind a0.V.N a0.V.S a0.Table a0.Name a0.L a0.Kind a0.Op (0 : Int) (0 : Int) ([] : Str) ([] : Str) ([] : Str) a0.L) (J1 a0.Kind a0.Op a0.V.Kind a0.V.N a0.V.S a0.Table a0.Name a0.L a0.Kind (0 : Int) (0 : Int) (0 : Int) ([] : Str) ([] : Str) ([] : Str) a0.L)
def ycN (a0 : yab) (r0 : Bool) : Prop :=
 ∀ J1 : Int → Int → Int → Int → Str → Str → Str → (List yab) → Int → Int → Int → Int → Str → Str → Str → (List yab) → Prop, (∀ x1 x2 x3 x4 x5 x6 x7 x8 x9 x10 x11 x12 x13 x14 x15 x16, ydr r0 x1 x2 x3 x4 x5 x6 x7 x8 x9 x10 x11 x12 x13 x14 x15 x16 → J1 x1 x2 x3 x4 x5 x6 x7 x8 x9 x10 x11 x12 x13 x14 x15 x16) → cnd (a0.Kind == (1 : Int)) (J1 a0.Kind a0.Op a0.V.Kind a0.V.N a0.V.S a0.Table a0.Name a0.L a0.Kind (0 : Int) a0.V.Kind a0.V.N a0.V.S ([] : Str) ([] : Str) a0.L) (cnd (a0.Kind == (2 : Int)) (J1 a0.Kind a0.Op a0.V.Kind a0.V.N a0.V.S a0.Table a0.Name a0.L a0.Kind (0 : Int) (0 : Int) (0 : Int) ([] : Str) a0.Table a0.Name a0.L) (∀ J2 : Bool → Prop, (∀ x17, yjx J1 a0 x17 → J2 x17) → cnd (a0.Kind == (3 : Int)) (J2 (a0.Kind == (3 : Int))) (J2 (a0.Kind == (8 : Int)))))
def yfk : Sp KK := ⟨80, [.v 58], [4], appW (K := KK) [4] [.v 58] ycN⟩
def yjO : An KK := (.s .o (.s .o (.j ⟨[(1, .px 1 0), (3, .px 3 0)], [(1, 58, [.it .i64, .it .i64, .it .i64, .it .i64, .st, .st, .st, .sl 58]), (3, 58, [.it .i64, .it .i64, .it .i64, .it .i64, .st, .st, .st, .sl 58])], []⟩ (.s .o (.b (.s .o (.c .o (.s .o (.c .o (.j ⟨[(1, .px 1 0), (3, .px 3 0), (24, .bl)], [(1, 58, (kps 33 8)), (3, 58, (kps 41 8))], []⟩ (.s .o (.c .o .o)) (fun _ => (.c .o .o))))))))) (fun _ => (.s .o .o)))))
def yj7 : Cf KK := ⟨CC, [], [], 56⟩
theorem ykb : SpOk Tryz.prog CC yfk := yaz (F := yj7) (ps := [.v 58]) (rs := [4]) (w := ycN) yaU yaA yaB t80 (A := yjO) (by kernel_rfl) (by kernel_rfl) fun a0 r0 => show _ = _ by kernel_rfl
def ybi (a0 : yae) (r0 : Bool) : Prop :=
 cnd (a0.Kind == (0 : Int)) (((a0.Kind == (0 : Int)) && ((a0.N == (0 : Int)) && ((a0.S == ([] : Str)) && true))) = r0) (cnd (a0.Kind == (1 : Int)) (cnd (a0.N == (0 : Int)) ((a0.S == ([] : Str)) = r0) (cnd (a0.N == (1 : Int)) ((a0.S == ([] : Str)) = r0) (false = r0))) (cnd (a0.Kind == (2 : Int)) ((a0.S == ([] : Str)) = r0) (cnd (a0.Kind == (3 : Int)) (cnd (a0.N == (0 : Int)) ((decide ((a0.S.length : Int) ≤ (64 : Int))) = r0) (false = r0)) (false = r0))))
def ycP : Sp KK := ⟨82, [.v 56], [4], appW (K := KK) [4] [.v 56] ybi⟩
def yhJ : An KK := (.s .o (.s (.s .o (.b (.s .o (.c (.s .o .o) (.s .o (.c (.s .o .o) (.s .o (.c (.s .o .o) (.s .o (.c (.s .o .o) .o)))))))))) (.s .o .o)))
def yhS : Cf KK := ⟨CC, [], [], 41⟩
theorem yep : SpOk Tryz.prog CC ycP := yaz (F := yhS) (ps := [.v 56]) (rs := [4]) (w := ybi) yaU yaA yaB t82 (A := yhJ) (by kernel_rfl) (by kernel_rfl) fun a0 r0 => show _ = _ by kernel_rfl
def ydm (a0 : Int) (r0 : Bool) : Prop :=
 cnd (decide ((97 : Int) ≤ a0)) ((decide (a0 ≤ (122 : Int))) = r0) (false = r0)
def ygN : Sp KK := ⟨91, [.v 5], [4], appW (K := KK) [4] [.v 5] ydm⟩
def ypy : An KK := (.s .o (.s .o .o))
def yp2 : Cf KK := ⟨CC, [], [], 9⟩
theorem ykD : SpOk Tryz.prog CC ygN := yaz (F := yp2) (ps := [.v 5]) (rs := [4]) (w := ydm) yaU yaA yaB t91 (A := ypy) (by kernel_rfl) (by kernel_rfl) fun a0 r0 => show _ = _ by kernel_rfl
def yem (a0 : Int) (r0 : Bool) : Prop :=
 cnd (decide ((48 : Int) ≤ a0)) ((decide (a0 ≤ (57 : Int))) = r0) (false = r0)
def yks : Sp KK := ⟨97, [.v 5], [4], appW (K := KK) [4] [.v 5] yem⟩
def ypC : An KK := (.s .o (.s .o .o))
def yoZ : Cf KK := ⟨CC, [], [], 9⟩
theorem yph : SpOk Tryz.prog CC yks := yaz (F := yoZ) (ps := [.v 5]) (rs := [4]) (w := yem) yaU yaA yaB t97 (A := ypC) (by kernel_rfl) (by kernel_rfl) fun a0 r0 => show _ = _ by kernel_rfl
def ye6 (a0 : Int) (r0 : Bool) : Prop :=
 ∃ z1, (ydm a0 z1) ∧ cnd z1 (true = r0) (∃ z2, (yem a0 z2) ∧ cnd z2 (true = r0) ((a0 == (95 : Int)) = r0))
def ylT : Sp KK := ⟨93, [.v 5], [4], appW (K := KK) [4] [.v 5] ye6⟩
def yrl : An KK := (.s .o (.s .o .o))
def yq4 : Cf KK := ⟨CC, [ygN, yks], [], 13⟩
theorem yqI : SpOk Tryz.prog CC ylT := yaz (F := yq4) (ps := [.v 5]) (rs := [4]) (w := ye6) yaU (yap ykD (yap yph yaA)) yaB t93 (A := yrl) (by kernel_rfl) (by kernel_rfl) fun a0 r0 => show _ = _ by kernel_rfl
def yqM (X1 : Int → Prop) (x1 : Int) (a0 r0 : Str) (x2 : Bool) : Prop :=
 cnd x2 (X1 (IntKind.i64.wrap (x1 + (1 : Int)))) ((0 ≤ (0 : Int) ∧ (0 : Int) ≤ x1 ∧ x1 ≤ (a0.length : Int)) ∧ ((a0.drop (0 : Int).toNat).take (x1.toNat - (0 : Int).toNat)) = r0)
def yqz (a0 r0 : Str) (g1 : Int → Bool → Prop) (X1 : Int → Prop) (x1 : Int) : Prop :=
 ∀ J2 : Bool → Prop, (∀ x2, yqM X1 x1 a0 r0 x2 → J2 x2) → cnd (decide (x1 < (a0.length : Int))) ((0 ≤ x1 ∧ x1 < (a0.length : Int)) ∧ ∃ z3, (g1 (bAt a0 x1) z3) ∧ J2 z3) (J2 false)
def yg0 (a0 : Str) (g1 : Int → Bool → Prop) (r0 : Str) : Prop :=
 ∀ X1 : Int → Prop, (∀ x1, yqz a0 r0 g1 X1 x1 → X1 x1) → X1 (0 : Int)
def ylW : Sp KK := ⟨92, [.v 9, .f [5] [4]], [9], appW (K := KK) [9] [.v 9, .f [5] [4]] yg0⟩
def yrf : An KK := (.s .o (.s .o (.s (.b (.l ⟨[(0, .kp 8), (1, .kp 9), (5, .it .i64)], [], []⟩ (fun _ => (.s (.j ⟨[(0, .kp 8), (1, .kp 9), (5, .kp 14), (16, .bl)], [], []⟩ .o (fun _ => (.c .o .o))) (.b .o))))) (.s .o .o))))
def yqX : Cf KK := ⟨CC, [], [], 22⟩
theorem yql : SpOk Tryz.prog CC ylW := yaz (F := yqX) (ps := [.v 9, .f [5] [4]]) (rs := [9]) (w := yg0) yaU yaA yaB t92 (A := yrf) (by kernel_rfl) (by kernel_rfl) fun a0 F1 r0 => show _ = _ by kernel_rfl
def yfl (a0 : Str) (r0 : Bool) : Prop :=
 cnd (!(a0 == ([] : Str))) (cnd (decide ((a0.length : Int) ≤ (16 : Int))) ((0 ≤ (0 : Int) ∧ (0 : Int) < (a0.length : Int)) ∧ ∃ z1, (ydm (bAt a0 (0 : Int)) z1) ∧ cnd z1 (∃ z2, (yg0 a0 ye6 z2) ∧ (z2 == a0) = r0) (false = r0)) (false = r0)) (false = r0)
def yly : Sp KK := ⟨88, [.v 9], [4], appW (K := KK) [4] [.v 9] yfl⟩
def yqB : An KK := (.s .o (.s .o .o))
def yqV : Cf KK := ⟨CC, [ygN, ylT, ylW], [], 21⟩
theorem yqi : SpOk Tryz.prog CC yly := yaz (F := yqV) (ps := [.v 9]) (rs := [4]) (w := yfl) yaU (yap ykD (yap yqI (yap yql yaA))) yaB t88 (A := yqB) (by kernel_rfl) (by kernel_rfl) fun a0 r0 => show _ = _ by kernel_rfl
def yb1 (a0 : yab) (r0 : Bool) : Prop :=
 cnd (a0.Kind == (1 : Int)) (∃ z1, (ybi (⟨a0.V.Kind, a0.V.N, a0.V.S⟩ : yae) z1) ∧ cnd z1 (cnd (!(a0.V.Kind == (2 : Int))) (true = r0) ((decide ((0 : Int) ≤ a0.V.N)) = r0)) (false = r0)) (cnd (a0.Kind == (2 : Int)) (∃ z2, (yfl a0.Name z2) ∧ cnd z2 (cnd (a0.Table == ([] : Str)) (true = r0) (∃ z3, (yfl a0.Table z3) ∧ z3 = r0)) (false = r0)) (cnd (a0.Kind == (3 : Int)) (cnd (decide ((1 : Int) ≤ a0.Op)) ((decide (a0.Op ≤ (14 : Int))) = r0) (false = r0)) (cnd (a0.Kind == (8 : Int)) (cnd (decide ((1 : Int) ≤ a0.Op)) ((decide (a0.Op ≤ (4 : Int))) = r0) (false = r0)) (true = r0))))
def yeD : Sp KK := ⟨81, [.v 58], [4], appW (K := KK) [4] [.v 58] yb1⟩
def yiI : An KK := (.s .o (.s (.s .o (.b (.s .o (.c (.s .o .o) (.s .o (.c (.s .o .o) (.s .o (.c (.s .o .o) (.s .o (.c (.s .o .o) .o)))))))))) (.s .o .o)))
def yje : Cf KK := ⟨CC, [ycP, yly], [], 57⟩
theorem yi1 : SpOk Tryz.prog CC yeD := yaz (F := yje) (ps := [.v 58]) (rs := [4]) (w := yb1) yaU (yap yep (yap yqi yaA)) yaB t81 (A := yiI) (by kernel_rfl) (by kernel_rfl) fun a0 r0 => show _ = _ by kernel_rfl
def ykm (r0 : Bool) (X2 : Int → Prop) (x2 : Int) (x4 : Bool) : Prop :=
 cnd x4 (false = r0) (X2 (IntKind.i64.wrap (x2 + (1 : Int))))
def yjw (a0 : yab) (r0 a1 : Bool) (Xr : yab → Bool → Bool → Prop) (X2 : Int → Prop) (x2 : Int) : Prop :=
 cnd (decide (x2 < (a0.L.length : Int))) ((0 ≤ x2) ∧ (x2 < (a0.L.length : Int)) ∧ ∃ y3 : yab, (a0.L[x2.toNat]? = some y3) ∧ ∀ J3 : Bool → Prop, (∀ x4, ykm r0 X2 x2 x4 → J3 x4) → cnd a1 (∃ z5, (Xr (yab.mk y3.Kind y3.Op (⟨y3.V.Kind, y3.V.N, y3.V.S⟩ : yae) y3.Table y3.Name y3.L) true z5) ∧ J3 (!z5)) (∃ z6, (Xr (yab.mk y3.Kind y3.Op (⟨y3.V.Kind, y3.V.N, y3.V.S⟩ : yae) y3.Table y3.Name y3.L) (a0.Kind == (8 : Int)) z6) ∧ J3 (!z6))) (true = r0)
def yjM (r0 : Bool) (a0 : yab) (a1 : Bool) (Xr : yab → Bool → Bool → Prop) (x1 : Bool) : Prop :=
 cnd x1 (false = r0) ((a0.L.length ≤ maxLen → ∀ X2 : Int → Prop, (∀ x2, yjw a0 r0 a1 Xr X2 x2 → X2 x2) → X2 (0 : Int)))
def ydT (Xr : yab → Bool → Bool → Prop) (a0 : yab) (a1 r0 : Bool) : Prop :=
 ∀ J1 : Bool → Prop, (∀ x1, yjM r0 a0 a1 Xr x1 → J1 x1) → ∃ z7, (ycF (yab.mk a0.Kind a0.Op (⟨a0.V.Kind, a0.V.N, a0.V.S⟩ : yae) a0.Table a0.Name a0.L) z7) ∧ cnd (!z7) (J1 true) (∃ z8, (ycN (yab.mk a0.Kind a0.Op (⟨a0.V.Kind, a0.V.N, a0.V.S⟩ : yae) a0.Table a0.Name a0.L) z8) ∧ cnd (!z8) (J1 true) (∃ z9, (yb1 (yab.mk a0.Kind a0.Op (⟨a0.V.Kind, a0.V.N, a0.V.S⟩ : yae) a0.Table a0.Name a0.L) z9) ∧ cnd (!z9) (J1 true) (cnd a1 (J1 (a0.Kind == (8 : Int))) (J1 false))))
def ydQ (a0 : yab) (a1 r0 : Bool) : Prop := ∀ Xr : yab → Bool → Bool → Prop, (∀ (a0 : yab) (a1 : Bool) (r0 : Bool), ydT Xr a0 a1 r0 → Xr a0 a1 r0) → Xr a0 a1 r0
def ye8 : Sp KK := ⟨69, [.v 58, .v 4], [4], appW (K := KK) [4] [.v 58, .v 4] ydQ⟩
def yj5 : An KK := (.s .o (.s (.j ⟨[(1, .kp 10), (2, .px 2 0), (27, .bl)], [(2, 58, (kps 11 8))], []⟩ .o (fun _ => (.c (.s .o .o) .o))) (.s (.s .o (.b (.l ⟨[(1, .kp 10), (2, .px 2 0), (29, .kp 18), (30, .kp 25), (31, .it .i64)], [(2, 58, (kps 11 8))], []⟩ (fun _ => (.s .o (.s (.c .o .o) (.s (.b (.s .o (.j ⟨[(1, .kp 10), (2, .px 2 0), (29, .kp 18), (30, .kp 25), (31, .kp 30), (43, .bl)], [(2, 58, (kps 11 8))], []⟩ .o (fun _ => (.c (.s .o .o) .o))))) .o))))))) (.s .o .o))))
def yjy (Xr : WTy KK [4] [.v 58, .v 4]) : Cf KK := ⟨CC, [⟨69, [.v 58, .v 4], [4], appW (K := KK) [4] [.v 58, .v 4] Xr⟩, yeE, yfk, yeD], [], 45⟩
theorem yiA (Xr : yab → Bool → Bool → Prop) (hX : ∀ (a0 : yab) (a1 : Bool) (r0 : Bool), Xr a0 a1 r0 → Pure Tryz.prog 69 (ybj CC [.v 58, .v 4] ([.d (.v 58 a0), .d (.v 4 a1)] : List (AD KK))) (ybk (([.v 4 r0] : List (DV KK)).map (dvA CC)))) : ∀ (a0 : yab) (a1 : Bool) (r0 : Bool), ydT Xr a0 a1 r0 → Pure Tryz.prog 69 (ybj CC [.v 58, .v 4] ([.d (.v 58 a0), .d (.v 4 a1)] : List (AD KK))) (ybk (([.v 4 r0] : List (DV KK)).map (dvA CC))) := by
 intro a0 a1 r0 h
 refine ykB (F := yjy Xr) yaU (yap ?_ (yap yiG (yap ykb (yap yi1 yaA)))) yaB t69 (A := yj5) (ps := [.v 58, .v 4]) (rs := [4]) (env := [.d (.v 58 a0), .d (.v 4 a1)]) (r := [.v 4 r0]) (X := ydT Xr a0 a1 r0) (by kernel_rfl) (Nat.le_of_ble_eq_true (by kernel_rfl)) (by kernel_rfl) (fun G hG => by simp at hG) h ?_
 ·clear h r0
  intro env r hF h
  obtain ⟨a0, _, rfl, h1⟩ := ybv h
  obtain ⟨a1, _, rfl, h2⟩ := ybv h1
  obtain ⟨rfl, h3⟩ := ycS h2
  obtain ⟨r0, _, rfl, h4⟩ := yev h3
  obtain ⟨rfl, h5⟩ := yfa h4
  exact ⟨rfl, hX a0 a1 r0 h5⟩
 ·kernel_rfl
theorem ykl : SpOk Tryz.prog CC ye8 := by
 intro env r hF h
 obtain ⟨a0, _, rfl, h1⟩ := ybv h
 obtain ⟨a1, _, rfl, h2⟩ := ybv h1
 obtain ⟨rfl, h3⟩ := ycS h2
 obtain ⟨r0, _, rfl, h4⟩ := yev h3
 obtain ⟨rfl, h5⟩ := yfa h4
 exact ⟨rfl, h5 (fun a0 a1 r0 =>  Pure Tryz.prog 69 (ybj CC [.v 58, .v 4] ([.d (.v 58 a0), .d (.v 4 a1)] : List (AD KK))) (ybk (([.v 4 r0] : List (DV KK)).map (dvA CC)))) (fun a0 a1 r0 h => yiA _ (fun a0 a1 r0 h => h) a0 a1 r0 h)⟩
def yf4 (a0 : yab) (r0 : Bool) : Prop :=
 ∃ z1, (ygI (yab.mk a0.Kind a0.Op (⟨a0.V.Kind, a0.V.N, a0.V.S⟩ : yae) a0.Table a0.Name a0.L) z1) ∧ cnd (decide (z1 ≤ (20 : Int))) (∃ z2, (ydQ (yab.mk a0.Kind a0.Op (⟨a0.V.Kind, a0.V.N, a0.V.S⟩ : yae) a0.Table a0.Name a0.L) false z2) ∧ z2 = r0) (false = r0)
def ykn : Sp KK := ⟨56, [.v 58], [4], appW (K := KK) [4] [.v 58] yf4⟩
def ypr : An KK := (.s .o (.s .o .o))
def yqe : Cf KK := ⟨CC, [yit, ye8], [], 10⟩
theorem ypV : SpOk Tryz.prog CC ykn := yaz (F := yqe) (ps := [.v 58]) (rs := [4]) (w := yf4) yaU (yap yni (yap ykl yaA)) yaB t56 (A := ypr) (by kernel_rfl) (by kernel_rfl) fun a0 r0 => show _ = _ by kernel_rfl
def ybO (a0 : yae) (r0 : Bool) : Prop :=
 (a0.Kind == (0 : Int)) = r0
def yea : Sp KK := ⟨83, [.v 56], [4], appW (K := KK) [4] [.v 56] ybO⟩
def yhQ : An KK := (.s .o (.s .o .o))
def yhE : Cf KK := ⟨CC, [], [], 6⟩
theorem yh2 : SpOk Tryz.prog CC yea := yaz (F := yhE) (ps := [.v 56]) (rs := [4]) (w := ybO) yaU yaA yaB t83 (A := yhQ) (by kernel_rfl) (by kernel_rfl) fun a0 r0 => show _ = _ by kernel_rfl
def ycJ (a0 : Bool) (r0 : yae) : Prop :=
 cnd a0 ((⟨(1 : Int), (1 : Int), ([] : Str)⟩ : yae) = r0) ((⟨(1 : Int), (0 : Int), ([] : Str)⟩ : yae) = r0)
def ygR : Sp KK := ⟨89, [.v 4], [56], appW (K := KK) [56] [.v 4] ycJ⟩
def ylE : An KK := (.s .o (.s (.s .o (.c (.s .o .o) .o)) (.s .o .o)))
def ylu : Cf KK := ⟨CC, [], [], 6⟩
theorem yla : SpOk Tryz.prog CC ygR := yaz (F := ylu) (ps := [.v 4]) (rs := [56]) (w := ycJ) yaU yaA yaB t89 (A := ylE) (by kernel_rfl) (by kernel_rfl) fun a0 r0 => show _ = _ by kernel_rfl
def ybP (a0 : yae) (r0 : Bool) : Prop :=
 ∃ z1, (ycJ true z1) ∧ ((a0.Kind == z1.Kind) && ((a0.N == z1.N) && ((a0.S == z1.S) && true))) = r0
def yed : Sp KK := ⟨84, [.v 56], [4], appW (K := KK) [4] [.v 56] ybP⟩
def yhI : An KK := (.s .o (.s .o .o))
def yh7 : Cf KK := ⟨CC, [ygR], [], 6⟩
theorem yhC : SpOk Tryz.prog CC yed := yaz (F := yh7) (ps := [.v 56]) (rs := [4]) (w := ybP) yaU (yap yla yaA) yaB t84 (A := yhI) (by kernel_rfl) (by kernel_rfl) fun a0 r0 => show _ = _ by kernel_rfl
def ya0 (a0 a1 : Int) (r0 : Str) : Prop := a1 = 10 ∧ -9223372036854775808 ≤ a0 ∧ a0 ≤ 9223372036854775807 ∧ r0 = Go.Lib.itoa a0
def ybY : Sp KK := ⟨28, [.v 2, .v 3], [9], appW (K := KK) [9] [.v 2, .v 3] ya0⟩
theorem yhB {a0 : Int} {a1 : Int} {r0 : Str} (h : ya0 a0 a1 r0) : AV.Pure Tryz.prog 28 [.it .i64 a0, .it .i64 a1] (.st r0) := by
 obtain ⟨rfl, q0, q1, rfl⟩ := h
 exact ypD Tryz.func28 (by kernel_rfl) (by kernel_rfl) Tryz.strconv_FormatInt_10 q0 q1
theorem ycH : SpOk Tryz.prog CC ybY := by
 intro env r hF h
 obtain ⟨a0, env0, rfl, h1⟩ := ybv h
 obtain ⟨a1, env1, rfl, h2⟩ := ybv h1
 obtain ⟨rfl, h3⟩ := ycS h2
 obtain ⟨r0, _, rfl, h4⟩ := yev h3
 obtain ⟨rfl, h5⟩ := yfa h4
 exact ⟨rfl, (yhB h5).congr (by kernel_rfl) (by kernel_rfl)⟩
def ybl (a0 a1 a2 r0 : Str) : Prop := a0.length ≤ 100000 ∧ 1 ≤ a1.length ∧ a2.length ≤ 100000 ∧ r0 = Go.Lib.replaceAll a0 a1 a2
def ydK : Sp KK := ⟨85, [.v 9, .v 9, .v 9], [9], appW (K := KK) [9] [.v 9, .v 9, .v 9] ybl⟩
theorem yhb {a0 : Str} {a1 : Str} {a2 : Str} {r0 : Str} (h : ybl a0 a1 a2 r0) : AV.Pure Tryz.prog 85 [.st a0, .st a1, .st a2] (.st r0) := by
 obtain ⟨q0, q1, q2, rfl⟩ := h
 exact ynA Tryz.func85 (by kernel_rfl) (by kernel_rfl) Tryz.strings_ReplaceAll q0 q1 q2
theorem ygB : SpOk Tryz.prog CC ydK := by
 intro env r hF h
 obtain ⟨a0, env0, rfl, h1⟩ := ybv h
 obtain ⟨a1, env1, rfl, h2⟩ := ybv h1
 obtain ⟨a2, env2, rfl, h3⟩ := ybv h2
 obtain ⟨rfl, h4⟩ := ycS h3
 obtain ⟨r0, _, rfl, h5⟩ := yev h4
 obtain ⟨rfl, h6⟩ := yfa h5
 exact ⟨rfl, (yhb h6).congr (by kernel_rfl) (by kernel_rfl)⟩
def yhz (r0 : Str) (a0 : yae) (x1 : Bool) : Prop :=
 cnd x1 (([78, 85, 76, 76] : Str) = r0) (∃ z2, (ybP a0 z2) ∧ cnd z2 (([84, 82, 85, 69] : Str) = r0) (cnd (a0.Kind == (1 : Int)) (([70, 65, 76, 83, 69] : Str) = r0) (cnd (a0.Kind == (2 : Int)) (∃ z3, (ya0 a0.N (10 : Int) z3) ∧ z3 = r0) (∃ z4, (ybl a0.S ([39] : Str) ([39, 39] : Str) z4) ∧ (([39] : Str).length + z4.length ≤ 9223372036854775807) ∧ ((([39] : Str) ++ z4).length + ([39] : Str).length ≤ 9223372036854775807) ∧ ((([39] : Str) ++ z4) ++ ([39] : Str)) = r0))))
def ybR (a0 : yae) (r0 : Str) : Prop :=
 ∀ J1 : Bool → Prop, (∀ x1, yhz r0 a0 x1 → J1 x1) → ∃ z5, (ybi a0 z5) ∧ cnd (!z5) (J1 true) (∃ z6, (ybO a0 z6) ∧ J1 z6)
def yef : Sp KK := ⟨70, [.v 56], [9], appW (K := KK) [9] [.v 56] ybR⟩
def yh3 : An KK := (.s .o (.s (.b (.j ⟨[(1, .px 1 0), (3, .bl)], [(1, 56, [.kp 4, .kp 5, .kp 6])], []⟩ .o (fun _ => (.c (.s .o .o) (.s .o (.c (.s .o .o) (.s .o (.c (.s .o .o) (.s .o (.c (.s .o .o) .o)))))))))) (.s .o .o)))
def yhV : Cf KK := ⟨CC, [ycP, yea, yed, ybY, ydK], [], 30⟩
theorem yic : SpOk Tryz.prog CC yef := yaz (F := yhV) (ps := [.v 56]) (rs := [9]) (w := ybR) yaU (yap yep (yap yh2 (yap yhC (yap ycH (yap ygB yaA))))) yaB t70 (A := yh3) (by kernel_rfl) (by kernel_rfl) fun a0 r0 => show _ = _ by kernel_rfl
def ydR (Xr : yab → Str → Prop) (a0 : yab) (r0 : Str) : Prop :=
 cnd (a0.Kind == (1 : Int)) (∃ z1, (ybR (⟨a0.V.Kind, a0.V.N, a0.V.S⟩ : yae) z1) ∧ z1 = r0) (cnd (a0.Kind == (2 : Int)) (cnd (!(a0.Table == ([] : Str))) ((a0.Table.length + ([46] : Str).length ≤ 9223372036854775807) ∧ ((a0.Table ++ ([46] : Str)).length + a0.Name.length ≤ 9223372036854775807) ∧ ((a0.Table ++ ([46] : Str)) ++ a0.Name) = r0) (a0.Name = r0)) (cnd (a0.Kind == (3 : Int)) ((0 ≤ (0 : Int)) ∧ ((0 : Int) < (a0.L.length : Int)) ∧ ∃ y2 : yab, (a0.L[(0 : Int).toNat]? = some y2) ∧ ∃ z3, (Xr (yab.mk y2.Kind y2.Op (⟨y2.V.Kind, y2.V.N, y2.V.S⟩ : yae) y2.Table y2.Name y2.L) z3) ∧ (([40] : Str).length + z3.length ≤ 9223372036854775807) ∧ ((([40] : Str) ++ z3).length + ([32] : Str).length ≤ 9223372036854775807) ∧ (0 ≤ a0.Op ∧ a0.Op < (15 : Nat)) ∧ ∃ y4 : Str, (([[], [61], [60, 62], [60], [60, 61], [62], [62, 61], [43], [45], [42], [47], [37], [124, 124], [65, 78, 68], [79, 82]] : List Str)[(0 : Nat) + a0.Op.toNat * 1]? = some y4) ∧ (((([40] : Str) ++ z3) ++ ([32] : Str)).length + y4.length ≤ 9223372036854775807) ∧ ((((([40] : Str) ++ z3) ++ ([32] : Str)) ++ y4).length + ([32] : Str).length ≤ 9223372036854775807) ∧ (0 ≤ (1 : Int)) ∧ ((1 : Int) < (a0.L.length : Int)) ∧ ∃ y5 : yab, (a0.L[(1 : Int).toNat]? = some y5) ∧ ∃ z6, (Xr (yab.mk y5.Kind y5.Op (⟨y5.V.Kind, y5.V.N, y5.V.S⟩ : yae) y5.Table y5.Name y5.L) z6) ∧ (((((([40] : Str) ++ z3) ++ ([32] : Str)) ++ y4) ++ ([32] : Str)).length + z6.length ≤ 9223372036854775807) ∧ ((((((([40] : Str) ++ z3) ++ ([32] : Str)) ++ y4) ++ ([32] : Str)) ++ z6).length + ([41] : Str).length ≤ 9223372036854775807) ∧ ((((((([40] : Str) ++ z3) ++ ([32] : Str)) ++ y4) ++ ([32] : Str)) ++ z6) ++ ([41] : Str)) = r0) (cnd (a0.Kind == (4 : Int)) ((0 ≤ (0 : Int)) ∧ ((0 : Int) < (a0.L.length : Int)) ∧ ∃ y7 : yab, (a0.L[(0 : Int).toNat]? = some y7) ∧ ∃ z8, (Xr (yab.mk y7.Kind y7.Op (⟨y7.V.Kind, y7.V.N, y7.V.S⟩ : yae) y7.Table y7.Name y7.L) z8) ∧ (([40, 78, 79, 84, 32] : Str).length + z8.length ≤ 9223372036854775807) ∧ ((([40, 78, 79, 84, 32] : Str) ++ z8).length + ([41] : Str).length ≤ 9223372036854775807) ∧ ((([40, 78, 79, 84, 32] : Str) ++ z8) ++ ([41] : Str)) = r0) (cnd (a0.Kind == (5 : Int)) ((0 ≤ (0 : Int)) ∧ ((0 : Int) < (a0.L.length : Int)) ∧ ∃ y9 : yab, (a0.L[(0 : Int).toNat]? = some y9) ∧ ∃ z10, (Xr (yab.mk y9.Kind y9.Op (⟨y9.V.Kind, y9.V.N, y9.V.S⟩ : yae) y9.Table y9.Name y9.L) z10) ∧ (([40, 45, 32] : Str).length + z10.length ≤ 9223372036854775807) ∧ ((([40, 45, 32] : Str) ++ z10).length + ([41] : Str).length ≤ 9223372036854775807) ∧ ((([40, 45, 32] : Str) ++ z10) ++ ([41] : Str)) = r0) (cnd (a0.Kind == (6 : Int)) ((0 ≤ (0 : Int)) ∧ ((0 : Int) < (a0.L.length : Int)) ∧ ∃ y11 : yab, (a0.L[(0 : Int).toNat]? = some y11) ∧ ∃ z12, (Xr (yab.mk y11.Kind y11.Op (⟨y11.V.Kind, y11.V.N, y11.V.S⟩ : yae) y11.Table y11.Name y11.L) z12) ∧ (([40] : Str).length + z12.length ≤ 9223372036854775807) ∧ ((([40] : Str) ++ z12).length + ([32, 73, 83, 32, 78, 85, 76, 76, 41] : Str).length ≤ 9223372036854775807) ∧ ((([40] : Str) ++ z12) ++ ([32, 73, 83, 32, 78, 85, 76, 76, 41] : Str)) = r0) (cnd (a0.Kind == (7 : Int)) ((0 ≤ (0 : Int)) ∧ ((0 : Int) < (a0.L.length : Int)) ∧ ∃ y13 : yab, (a0.L[(0 : Int).toNat]? = some y13) ∧ ∃ z14, (Xr (yab.mk y13.Kind y13.Op (⟨y13.V.Kind, y13.V.N, y13.V.S⟩ : yae) y13.Table y13.Name y13.L) z14) ∧ (([40] : Str).length + z14.length ≤ 9223372036854775807) ∧ ((([40] : Str) ++ z14).length + ([32, 73, 83, 32, 78, 79, 84, 32, 78, 85, 76, 76, 41] : Str).length ≤ 9223372036854775807) ∧ ((([40] : Str) ++ z14) ++ ([32, 73, 83, 32, 78, 79, 84, 32, 78, 85, 76, 76, 41] : Str)) = r0) ((a0.L.length ≤ maxLen → cnd ((a0.L.length : Int) == (0 : Int)) ((0 ≤ a0.Op ∧ a0.Op < (5 : Nat)) ∧ ∃ y15 : Str, (([[], [67, 79, 85, 78, 84], [83, 85, 77], [77, 73, 78], [77, 65, 88]] : List Str)[(0 : Nat) + a0.Op.toNat * 1]? = some y15) ∧ (y15.length + ([40, 42, 41] : Str).length ≤ 9223372036854775807) ∧ (y15 ++ ([40, 42, 41] : Str)) = r0) ((0 ≤ a0.Op ∧ a0.Op < (5 : Nat)) ∧ ∃ y16 : Str, (([[], [67, 79, 85, 78, 84], [83, 85, 77], [77, 73, 78], [77, 65, 88]] : List Str)[(0 : Nat) + a0.Op.toNat * 1]? = some y16) ∧ (y16.length + ([40] : Str).length ≤ 9223372036854775807) ∧ (0 ≤ (0 : Int)) ∧ ((0 : Int) < (a0.L.length : Int)) ∧ ∃ y17 : yab, (a0.L[(0 : Int).toNat]? = some y17) ∧ ∃ z18, (Xr (yab.mk y17.Kind y17.Op (⟨y17.V.Kind, y17.V.N, y17.V.S⟩ : yae) y17.Table y17.Name y17.L) z18) ∧ ((y16 ++ ([40] : Str)).length + z18.length ≤ 9223372036854775807) ∧ (((y16 ++ ([40] : Str)) ++ z18).length + ([41] : Str).length ≤ 9223372036854775807) ∧ (((y16 ++ ([40] : Str)) ++ z18) ++ ([41] : Str)) = r0)))))))))
def ydP (a0 : yab) (r0 : Str) : Prop := ∀ Xr : yab → Str → Prop, (∀ (a0 : yab) (r0 : Str), ydR Xr a0 r0 → Xr a0 r0) → Xr a0 r0
def ye7 : Sp KK := ⟨57, [.v 58], [9], appW (K := KK) [9] [.v 58] ydP⟩
def yjz : An KK := (.s .o (.s (.s .o (.b (.s .o (.c (.s .o .o) (.s .o (.c (.s (.s .o (.c (.s .o .o) .o)) (.s .o .o)) (.s .o (.c (.s .o .o) (.s .o (.c (.s .o .o) (.s .o (.c (.s .o .o) (.s .o (.c (.s .o .o) (.s .o (.c (.s .o .o) .o)))))))))))))))) (.s (.s .o (.c (.s .o .o) .o)) (.s .o .o))))
def yj0 (Xr : WTy KK [9] [.v 58]) : Cf KK := ⟨CC, [⟨57, [.v 58], [9], appW (K := KK) [9] [.v 58] Xr⟩, yef], [], 102⟩
theorem yi7 (Xr : yab → Str → Prop) (hX : ∀ (a0 : yab) (r0 : Str), Xr a0 r0 → Pure Tryz.prog 57 (ybj CC [.v 58] ([.d (.v 58 a0)] : List (AD KK))) (ybk (([.v 9 r0] : List (DV KK)).map (dvA CC)))) : ∀ (a0 : yab) (r0 : Str), ydR Xr a0 r0 → Pure Tryz.prog 57 (ybj CC [.v 58] ([.d (.v 58 a0)] : List (AD KK))) (ybk (([.v 9 r0] : List (DV KK)).map (dvA CC))) := by
 intro a0 r0 h
 refine ykB (F := yj0 Xr) yaU (yap ?_ (yap yic yaA)) yaB t57 (A := yjz) (ps := [.v 58]) (rs := [9]) (env := [.d (.v 58 a0)]) (r := [.v 9 r0]) (X := ydR Xr a0 r0) (by kernel_rfl) (Nat.le_of_ble_eq_true (by kernel_rfl)) (by kernel_rfl) (fun G hG => by simp at hG) h ?_
 ·clear h r0
  intro env r hF h
  obtain ⟨a0, _, rfl, h1⟩ := ybv h
  obtain ⟨rfl, h2⟩ := ycS h1
  obtain ⟨r0, _, rfl, h3⟩ := yev h2
  obtain ⟨rfl, h4⟩ := yfa h3
  exact ⟨rfl, hX a0 r0 h4⟩
 ·kernel_rfl
theorem yjB : SpOk Tryz.prog CC ye7 := by
 intro env r hF h
 obtain ⟨a0, _, rfl, h1⟩ := ybv h
 obtain ⟨rfl, h2⟩ := ycS h1
 obtain ⟨r0, _, rfl, h3⟩ := yev h2
 obtain ⟨rfl, h4⟩ := yfa h3
 exact ⟨rfl, h4 (fun a0 r0 =>  Pure Tryz.prog 57 (ybj CC [.v 58] ([.d (.v 58 a0)] : List (AD KK))) (ybk (([.v 9 r0] : List (DV KK)).map (dvA CC)))) (fun a0 r0 h => yi7 _ (fun a0 r0 h => h) a0 r0 h)⟩
def ya6 (a0 : yab) (r0 : Str) : Prop :=
 ∃ z1, (yf4 (yab.mk a0.Kind a0.Op (⟨a0.V.Kind, a0.V.N, a0.V.S⟩ : yae) a0.Table a0.Name a0.L) z1) ∧ cnd (!z1) (([] : Str) = r0) (∃ z2, (ydP (yab.mk a0.Kind a0.Op (⟨a0.V.Kind, a0.V.N, a0.V.S⟩ : yae) a0.Table a0.Name a0.L) z2) ∧ z2 = r0)
def ycR : Sp KK := ⟨44, [.v 58], [9], appW (K := KK) [9] [.v 58] ya6⟩
def yqf : An KK := (.s .o (.s (.s .o (.c (.s .o .o) .o)) (.s .o .o)))
def yoV : Cf KK := ⟨CC, [ykn, ye7], [], 8⟩
theorem ydJ : SpOk Tryz.prog CC ycR := yaz (F := yoV) (ps := [.v 58]) (rs := [9]) (w := ya6) yaU (yap ypV (yap yjB yaA)) yaB t44 (A := yqf) (by kernel_rfl) (by kernel_rfl) fun a0 r0 => show _ = _ by kernel_rfl
def ycX (a0 : Str) (a1 : List yab) (r0 : Str) : Prop :=
 (a1.length ≤ maxLen → cnd ((a1.length : Int) == (0 : Int)) (([] : Str) = r0) ((a0.length + ([32] : Str).length ≤ 9223372036854775807) ∧ (0 ≤ (0 : Int)) ∧ ((0 : Int) < (a1.length : Int)) ∧ ∃ y1 : yab, (a1[(0 : Int).toNat]? = some y1) ∧ ∃ z2, (ya6 (yab.mk y1.Kind y1.Op (⟨y1.V.Kind, y1.V.N, y1.V.S⟩ : yae) y1.Table y1.Name y1.L) z2) ∧ ((a0 ++ ([32] : Str)).length + z2.length ≤ 9223372036854775807) ∧ ((a0 ++ ([32] : Str)) ++ z2) = r0))
def yf5 : Sp KK := ⟨20, [.v 9, .v 42], [9], appW (K := KK) [9] [.v 9, .v 42] ycX⟩
def yoL : An KK := (.s .o (.s (.s .o (.c (.s .o .o) .o)) (.s .o .o)))
def ynp : Cf KK := ⟨CC, [ycR], [], 15⟩
theorem yik : SpOk Tryz.prog CC yf5 := yaz (F := ynp) (ps := [.v 9, .v 42]) (rs := [9]) (w := ycX) yaU (yap ydJ yaA) yaB t20 (A := yoL) (by kernel_rfl) (by kernel_rfl) fun a0 a1 r0 => show _ = _ by kernel_rfl
def ycy (a0 : Bool) (a1 r0 : Str) : Prop :=
 cnd a0 (a1 = r0) (([] : Str) = r0)
def ydH : Sp KK := ⟨45, [.v 4, .v 9], [9], appW (K := KK) [9] [.v 4, .v 9] ycy⟩
def ypx : An KK := (.s .o (.s (.s .o (.c (.s .o .o) .o)) (.s .o .o)))
def yoX : Cf KK := ⟨CC, [], [], 7⟩
theorem yeI : SpOk Tryz.prog CC ydH := yaz (F := yoX) (ps := [.v 4, .v 9]) (rs := [9]) (w := ycy) yaU yaA yaB t45 (A := ypx) (by kernel_rfl) (by kernel_rfl) fun a0 a1 r0 => show _ = _ by kernel_rfl
def yaX (a0 : List Str) (a1 r0 : Str) : Prop := a0.length ≤ 100000 ∧ (Go.Lib.join a0 a1).length ≤ 140737488355328 ∧ r0 = Go.Lib.join a0 a1
def ya8 : Sp KK := ⟨39, [.v 102, .v 9], [9], appW (K := KK) [9] [.v 102, .v 9] yaX⟩
theorem yl7 {a0 : (List Str)} {a1 : Str} {r0 : Str} (h : yaX a0 a1 r0) : AV.Pure Tryz.prog 39 [slA eS a0, .st a1] (.st r0) := by
 obtain ⟨q0, q1, rfl⟩ := h
 exact ywz Tryz.func39 (by kernel_rfl) Tryz.strings_Join_none Tryz.strings_Join q0 q1
theorem ybg : SpOk Tryz.prog CC ya8 := by
 intro env r hF h
 obtain ⟨a0, env0, rfl, h1⟩ := ybv h
 obtain ⟨a1, env1, rfl, h2⟩ := ybv h1
 obtain ⟨rfl, h3⟩ := ycS h2
 obtain ⟨r0, _, rfl, h4⟩ := yev h3
 obtain ⟨rfl, h5⟩ := yfa h4
 exact ⟨rfl, (yl7 h5).congr (by kernel_rfl) (by kernel_rfl)⟩
def yfY (a0 : List Str) (r0 : Str) (X1 : Int → (List Str) → Prop) (x1 : Int) (x2 : List Str) : Prop :=
 cnd (decide (x1 < (a0.length : Int))) ((0 ≤ x1) ∧ (x1 < (a0.length : Int)) ∧ ∃ y3 : Str, (a0[x1.toNat]? = some y3) ∧ cnd (!(y3 == ([] : Str))) ((x2.length ≤ 1000000000) ∧ X1 (IntKind.i64.wrap (x1 + (1 : Int))) (x2 ++ ([y3] : List Str))) (X1 (IntKind.i64.wrap (x1 + (1 : Int))) x2)) (∃ z4, (yaX x2 ([32] : Str) z4) ∧ z4 = r0)
def yaK (a0 : List Str) (r0 : Str) : Prop :=
 (a0.length ≤ maxLen → ∀ X1 : Int → (List Str) → Prop, (∀ x1 x2, yfY a0 r0 X1 x1 x2 → X1 x1 x2) → X1 (0 : Int) ([] : List Str))
def ycb : Sp KK := ⟨21, [.v 102], [9], appW (K := KK) [9] [.v 102] yaK⟩
def yoo : An KK := (.s .o (.s .o (.s (.s .o (.b (.l ⟨[(3, .row 17), (6, .kp 6), (7, .kp 7), (8, .it .i64)], [], [(17, 9)]⟩ (fun _ => (.s .o (.s (.c .o .o) (.s (.b (.s .o (.s .o (.c .o .o)))) .o))))))) (.s .o .o))))
def ynG : Cf KK := ⟨CC, [ya8], [], 21⟩
theorem ycD : SpOk Tryz.prog CC ycb := yaz (F := ynG) (ps := [.v 102]) (rs := [9]) (w := yaK) yaU (yap ybg yaA) yaB t21 (A := yoo) (by kernel_rfl) (by kernel_rfl) fun a0 r0 => show _ = _ by kernel_rfl
def yh9 (a0 : yak) (r0 x1 : Str) : Prop :=
 ∃ z2, (ycy a0.Key ([80, 82, 73, 77, 65, 82, 89, 32, 75, 69, 89] : Str) z2) ∧ ∃ z3, (yaK ([a0.Name, x1, z2] : List Str) z3) ∧ z3 = r0
def yh5 (a0 : yak) (J1 : Str → Prop) (x4 : Bool) : Prop :=
 cnd x4 ((0 ≤ a0.Kind ∧ a0.Kind < (4 : Nat)) ∧ ∃ y5 : Str, (([[], [66, 79, 79, 76], [73, 78, 84], [84, 69, 88, 84]] : List Str)[(0 : Nat) + a0.Kind.toNat * 1]? = some y5) ∧ J1 y5) (J1 ([] : Str))
def ybS (a0 : yak) (r0 : Str) : Prop :=
 ∀ J1 : Str → Prop, (∀ x1, yh9 a0 r0 x1 → J1 x1) → ∀ J2 : Bool → Prop, (∀ x4, yh5 a0 J1 x4 → J2 x4) → cnd (decide ((0 : Int) < a0.Kind)) (J2 (decide (a0.Kind < (4 : Int)))) (J2 false)
def yec : Sp KK := ⟨23, [.v 82], [9], appW (K := KK) [9] [.v 82] ybS⟩
def yib : An KK := (.s .o (.s .o (.j ⟨[(1, .px 1 0), (3, .st)], [(1, 82, [.kp 2, .kp 3, .kp 4])], []⟩ (.j ⟨[(1, .px 1 0), (3, .kp 6), (11, .bl)], [(1, 82, [.kp 2, .kp 3, .kp 4])], []⟩ .o (fun _ => (.c .o .o))) (fun _ => (.s .o .o)))))
def yhy : Cf KK := ⟨CC, [ydH, ycb], [], 24⟩
theorem yhA : SpOk Tryz.prog CC yec := yaz (F := yhy) (ps := [.v 82]) (rs := [9]) (w := ybS) yaU (yap yeI (yap ycD yaA)) yaB t23 (A := yib) (by kernel_rfl) (by kernel_rfl) fun a0 r0 => show _ = _ by kernel_rfl
def yhT (a0 : List yak) (g1 : yak → Str → Prop) (r0 : Str) (X1 : Int → (List Str) → Prop) (x1 : Int) (x2 : List Str) : Prop :=
 cnd (decide (x1 < (a0.length : Int))) ((0 ≤ x1) ∧ (x1 < (a0.length : Int)) ∧ ∃ y3 : yak, (a0[x1.toNat]? = some y3) ∧ ∃ z4, (g1 y3 z4) ∧ (x2.length ≤ 1000000000) ∧ X1 (IntKind.i64.wrap (x1 + (1 : Int))) (x2 ++ ([z4] : List Str))) (∃ z5, (yaX x2 ([44, 32] : Str) z5) ∧ z5 = r0)
def yc7 (a0 : List yak) (g1 : yak → Str → Prop) (r0 : Str) : Prop :=
 (a0.length ≤ maxLen → ∀ X1 : Int → (List Str) → Prop, (∀ x1 x2, yhT a0 g1 r0 X1 x1 x2 → X1 x1 x2) → X1 (0 : Int) ([] : List Str))
def yd9 : Sp KK := ⟨22, [.v 39, .f [82] [9]], [9], appW (K := KK) [9] [.v 39, .f [82] [9]] yc7⟩
def yhK : An KK := (.s .o (.s .o (.s (.s .o (.b (.l ⟨[(1, .kp 6), (5, .row 19), (8, .kp 8), (9, .kp 9), (10, .it .i64)], [], [(19, 9)]⟩ (fun _ => (.s .o (.s (.c .o .o) (.s (.b (.s .o .o)) .o))))))) (.s .o .o))))
def yhW : Cf KK := ⟨CC, [ya8], [], 23⟩
theorem yhx : SpOk Tryz.prog CC yd9 := yaz (F := yhW) (ps := [.v 39, .f [82] [9]]) (rs := [9]) (w := yc7) yaU (yap ybg yaA) yaB t22 (A := yhK) (by kernel_rfl) (by kernel_rfl) fun a0 F1 r0 => show _ = _ by kernel_rfl
def yhU (a0 : List yab) (g1 : yab → Str → Prop) (r0 : Str) (X1 : Int → (List Str) → Prop) (x1 : Int) (x2 : List Str) : Prop :=
 cnd (decide (x1 < (a0.length : Int))) ((0 ≤ x1) ∧ (x1 < (a0.length : Int)) ∧ ∃ y3 : yab, (a0[x1.toNat]? = some y3) ∧ ∃ z4, (g1 (yab.mk y3.Kind y3.Op (⟨y3.V.Kind, y3.V.N, y3.V.S⟩ : yae) y3.Table y3.Name y3.L) z4) ∧ (x2.length ≤ 1000000000) ∧ X1 (IntKind.i64.wrap (x1 + (1 : Int))) (x2 ++ ([z4] : List Str))) (∃ z5, (yaX x2 ([44, 32] : Str) z5) ∧ z5 = r0)
def ybJ (a0 : List yab) (g1 : yab → Str → Prop) (r0 : Str) : Prop :=
 (a0.length ≤ maxLen → ∀ X1 : Int → (List Str) → Prop, (∀ x1 x2, yhU a0 g1 r0 X1 x1 x2 → X1 x1 x2) → X1 (0 : Int) ([] : List Str))
def ycQ : Sp KK := ⟨46, [.v 42, .f [58] [9]], [9], appW (K := KK) [9] [.v 42, .f [58] [9]] ybJ⟩
def yhP : An KK := (.s .o (.s .o (.s (.s .o (.b (.l ⟨[(1, .kp 6), (5, .row 19), (8, .kp 8), (9, .kp 9), (10, .it .i64)], [], [(19, 9)]⟩ (fun _ => (.s .o (.s (.c .o .o) (.s (.b (.s .o .o)) .o))))))) (.s .o .o))))
def yhM : Cf KK := ⟨CC, [ya8], [], 23⟩
theorem yes : SpOk Tryz.prog CC ycQ := yaz (F := yhM) (ps := [.v 42, .f [58] [9]]) (rs := [9]) (w := ybJ) yaU (yap ybg yaA) yaB t46 (A := yhP) (by kernel_rfl) (by kernel_rfl) fun a0 F1 r0 => show _ = _ by kernel_rfl
def yfd (a0 : List yab) (r0 : Str) : Prop :=
 ∃ z1, (ybJ a0 ya6 z1) ∧ (([40] : Str).length + z1.length ≤ 9223372036854775807) ∧ ((([40] : Str) ++ z1).length + ([41] : Str).length ≤ 9223372036854775807) ∧ ((([40] : Str) ++ z1) ++ ([41] : Str)) = r0
def ylJ : Sp KK := ⟨25, [.v 42], [9], appW (K := KK) [9] [.v 42] yfd⟩
def yqE : An KK := (.s .o (.s .o .o))
def yqx : Cf KK := ⟨CC, [ycR, ycQ], [], 7⟩
theorem yqu : SpOk Tryz.prog CC ylJ := yaz (F := yqx) (ps := [.v 42]) (rs := [9]) (w := yfd) yaU (yap ydJ (yap yes yaA)) yaB t25 (A := yqE) (by kernel_rfl) (by kernel_rfl) fun a0 r0 => show _ = _ by kernel_rfl
def yjF (a0 : List (List yab)) (g1 : (List yab) → Str → Prop) (r0 : Str) (X1 : Int → (List Str) → Prop) (x1 : Int) (x2 : List Str) : Prop :=
 cnd (decide (x1 < (a0.length : Int))) ((0 ≤ x1) ∧ (x1 < (a0.length : Int)) ∧ ∃ y3 : (List yab), (a0[x1.toNat]? = some y3) ∧ ∃ z4, (g1 y3 z4) ∧ (x2.length ≤ 1000000000) ∧ X1 (IntKind.i64.wrap (x1 + (1 : Int))) (x2 ++ ([z4] : List Str))) (∃ z5, (yaX x2 ([44, 32] : Str) z5) ∧ z5 = r0)
def ydU (a0 : List (List yab)) (g1 : (List yab) → Str → Prop) (r0 : Str) : Prop :=
 (a0.length ≤ maxLen → ∀ X1 : Int → (List Str) → Prop, (∀ x1 x2, yjF a0 g1 r0 X1 x1 x2 → X1 x1 x2) → X1 (0 : Int) ([] : List Str))
def ye5 : Sp KK := ⟨24, [.v 40, .f [42] [9]], [9], appW (K := KK) [9] [.v 40, .f [42] [9]] ydU⟩
def yjr : An KK := (.s .o (.s .o (.s (.s .o (.b (.l ⟨[(1, .kp 6), (5, .row 19), (8, .kp 8), (9, .kp 9), (10, .it .i64)], [], [(19, 9)]⟩ (fun _ => (.s .o (.s (.c .o .o) (.s (.b (.s .o .o)) .o))))))) (.s .o .o))))
def yjH : Cf KK := ⟨CC, [ya8], [], 23⟩
theorem yjJ : SpOk Tryz.prog CC ye5 := yaz (F := yjH) (ps := [.v 40, .f [42] [9]]) (rs := [9]) (w := ydU) yaU (yap ybg yaA) yaB t24 (A := yjr) (by kernel_rfl) (by kernel_rfl) fun a0 F1 r0 => show _ = _ by kernel_rfl
def ycw (a0 : yay) (r0 : Str) : Prop :=
 (a0.Name.length + ([32, 61, 32] : Str).length ≤ 9223372036854775807) ∧ ∃ z1, (ya6 (yab.mk a0.E.Kind a0.E.Op (⟨a0.E.V.Kind, a0.E.V.N, a0.E.V.S⟩ : yae) a0.E.Table a0.E.Name a0.E.L) z1) ∧ ((a0.Name ++ ([32, 61, 32] : Str)).length + z1.length ≤ 9223372036854775807) ∧ ((a0.Name ++ ([32, 61, 32] : Str)) ++ z1) = r0
def ygd : Sp KK := ⟨27, [.v 85], [9], appW (K := KK) [9] [.v 85] ycw⟩
def ykM : An KK := (.s .o (.s .o .o))
def ykK : Cf KK := ⟨CC, [ycR], [], 10⟩
theorem ykW : SpOk Tryz.prog CC ygd := yaz (F := ykK) (ps := [.v 85]) (rs := [9]) (w := ycw) yaU (yap ydJ yaA) yaB t27 (A := ykM) (by kernel_rfl) (by kernel_rfl) fun a0 r0 => show _ = _ by kernel_rfl
def ykS (a0 : List yay) (g1 : yay → Str → Prop) (r0 : Str) (X1 : Int → (List Str) → Prop) (x1 : Int) (x2 : List Str) : Prop :=
 cnd (decide (x1 < (a0.length : Int))) ((0 ≤ x1) ∧ (x1 < (a0.length : Int)) ∧ ∃ y3 : yay, (a0[x1.toNat]? = some y3) ∧ ∃ z4, (g1 (⟨y3.Name, (yab.mk y3.E.Kind y3.E.Op (⟨y3.E.V.Kind, y3.E.V.N, y3.E.V.S⟩ : yae) y3.E.Table y3.E.Name y3.E.L)⟩ : yay) z4) ∧ (x2.length ≤ 1000000000) ∧ X1 (IntKind.i64.wrap (x1 + (1 : Int))) (x2 ++ ([z4] : List Str))) (∃ z5, (yaX x2 ([44, 32] : Str) z5) ∧ z5 = r0)
def yeb (a0 : List yay) (g1 : yay → Str → Prop) (r0 : Str) : Prop :=
 (a0.length ≤ maxLen → ∀ X1 : Int → (List Str) → Prop, (∀ x1 x2, ykS a0 g1 r0 X1 x1 x2 → X1 x1 x2) → X1 (0 : Int) ([] : List Str))
def ygg : Sp KK := ⟨26, [.v 41, .f [85] [9]], [9], appW (K := KK) [9] [.v 41, .f [85] [9]] yeb⟩
def ykT : An KK := (.s .o (.s .o (.s (.s .o (.b (.l ⟨[(1, .kp 6), (5, .row 19), (8, .kp 8), (9, .kp 9), (10, .it .i64)], [], [(19, 9)]⟩ (fun _ => (.s .o (.s (.c .o .o) (.s (.b (.s .o .o)) .o))))))) (.s .o .o))))
def ykL : Cf KK := ⟨CC, [ya8], [], 23⟩
theorem ykN : SpOk Tryz.prog CC ygg := yaz (F := ykL) (ps := [.v 41, .f [85] [9]]) (rs := [9]) (w := yeb) yaU (yap ybg yaA) yaB t26 (A := ykT) (by kernel_rfl) (by kernel_rfl) fun a0 F1 r0 => show _ = _ by kernel_rfl
def ych (a0 : yax) (r0 : Str) : Prop :=
 ∃ z1, (ya6 (yab.mk a0.E.Kind a0.E.Op (⟨a0.E.V.Kind, a0.E.V.N, a0.E.V.S⟩ : yae) a0.E.Table a0.E.Name a0.E.L) z1) ∧ ∃ z2, (ycy (!(a0.As == ([] : Str))) ([65, 83] : Str) z2) ∧ ∃ z3, (yaK ([z1, z2, a0.As] : List Str) z3) ∧ z3 = r0
def yfn : Sp KK := ⟨50, [.v 120], [9], appW (K := KK) [9] [.v 120] ych⟩
def ykd : An KK := (.s .o (.s .o .o))
def ykc : Cf KK := ⟨CC, [ycR, ydH, ycb], [], 14⟩
theorem ykh : SpOk Tryz.prog CC yfn := yaz (F := ykc) (ps := [.v 120]) (rs := [9]) (w := ych) yaU (yap ydJ (yap yeI (yap ycD yaA))) yaB t50 (A := ykd) (by kernel_rfl) (by kernel_rfl) fun a0 r0 => show _ = _ by kernel_rfl
def yj4 (a0 : List yax) (g1 : yax → Str → Prop) (r0 : Str) (X1 : Int → (List Str) → Prop) (x1 : Int) (x2 : List Str) : Prop :=
 cnd (decide (x1 < (a0.length : Int))) ((0 ≤ x1) ∧ (x1 < (a0.length : Int)) ∧ ∃ y3 : yax, (a0[x1.toNat]? = some y3) ∧ ∃ z4, (g1 (⟨(yab.mk y3.E.Kind y3.E.Op (⟨y3.E.V.Kind, y3.E.V.N, y3.E.V.S⟩ : yae) y3.E.Table y3.E.Name y3.E.L), y3.As⟩ : yax) z4) ∧ (x2.length ≤ 1000000000) ∧ X1 (IntKind.i64.wrap (x1 + (1 : Int))) (x2 ++ ([z4] : List Str))) (∃ z5, (yaX x2 ([44, 32] : Str) z5) ∧ z5 = r0)
def ydV (a0 : List yax) (g1 : yax → Str → Prop) (r0 : Str) : Prop :=
 (a0.length ≤ maxLen → ∀ X1 : Int → (List Str) → Prop, (∀ x1 x2, yj4 a0 g1 r0 X1 x1 x2 → X1 x1 x2) → X1 (0 : Int) ([] : List Str))
def yfm : Sp KK := ⟨49, [.v 103, .f [120] [9]], [9], appW (K := KK) [9] [.v 103, .f [120] [9]] ydV⟩
def yj6 : An KK := (.s .o (.s .o (.s (.s .o (.b (.l ⟨[(1, .kp 6), (5, .row 19), (8, .kp 8), (9, .kp 9), (10, .it .i64)], [], [(19, 9)]⟩ (fun _ => (.s .o (.s (.c .o .o) (.s (.b (.s .o .o)) .o))))))) (.s .o .o))))
def yki : Cf KK := ⟨CC, [ya8], [], 23⟩
theorem yjv : SpOk Tryz.prog CC yfm := yaz (F := yki) (ps := [.v 103, .f [120] [9]]) (rs := [9]) (w := ydV) yaU (yap ybg yaA) yaB t49 (A := yj6) (by kernel_rfl) (by kernel_rfl) fun a0 F1 r0 => show _ = _ by kernel_rfl
def yj8 (a0 : yan) (x1 x2 r0 x3 : Str) : Prop :=
 ∃ z4, (ycy a0.Distinct ([68, 73, 83, 84, 73, 78, 67, 84] : Str) z4) ∧ ∃ z5, (ycX ([87, 72, 69, 82, 69] : Str) a0.Where z5) ∧ ∃ z6, (ycX ([72, 65, 86, 73, 78, 71] : Str) a0.Having z6) ∧ ∃ z7, (yaK ([([83, 69, 76, 69, 67, 84] : Str), z4, x1, ([70, 82, 79, 77] : Str), a0.From, a0.Alias, x2, z5, x3, z6] : List Str) z7) ∧ z7 = r0
def yjY (a0 : yan) (x1 r0 x2 : Str) : Prop :=
 ∀ J3 : Str → Prop, (∀ x3, yj8 a0 x1 x2 r0 x3 → J3 x3) → (a0.Group.length ≤ maxLen → cnd (decide ((0 : Int) < (a0.Group.length : Int))) (∃ z8, (ybJ a0.Group ya6 z8) ∧ (([71, 82, 79, 85, 80, 32, 66, 89, 32] : Str).length + z8.length ≤ 9223372036854775807) ∧ J3 (([71, 82, 79, 85, 80, 32, 66, 89, 32] : Str) ++ z8)) (J3 ([] : Str)))
def yju (a0 : yan) (r0 x1 : Str) : Prop :=
 ∀ J2 : Str → Prop, (∀ x2, yjY a0 x1 r0 x2 → J2 x2) → cnd a0.Join (∃ z9, (ycy a0.Left ([76, 69, 70, 84] : Str) z9) ∧ ∃ z10, (ya6 (yab.mk a0.On.x0.Kind a0.On.x0.Op (⟨a0.On.x0.V.Kind, a0.On.x0.V.N, a0.On.x0.V.S⟩ : yae) a0.On.x0.Table a0.On.x0.Name a0.On.x0.L) z10) ∧ ∃ z11, (ya6 (yab.mk a0.On.x1.Kind a0.On.x1.Op (⟨a0.On.x1.V.Kind, a0.On.x1.V.N, a0.On.x1.V.S⟩ : yae) a0.On.x1.Table a0.On.x1.Name a0.On.x1.L) z11) ∧ ∃ z12, (yaK ([z9, ([74, 79, 73, 78] : Str), a0.Other, a0.Named, ([79, 78] : Str), z10, ([61] : Str), z11] : List Str) z12) ∧ J2 z12) (J2 ([] : Str))
def ycL (a0 : yan) (r0 : Str) : Prop :=
 ∀ J1 : Str → Prop, (∀ x1, yju a0 r0 x1 → J1 x1) → (a0.Items.length ≤ maxLen → cnd (decide ((0 : Int) < (a0.Items.length : Int))) (∃ z13, (ydV a0.Items ych z13) ∧ J1 z13) (J1 ([42] : Str)))
def ye3 : Sp KK := ⟨36, [.v 106], [9], appW (K := KK) [9] [.v 106] ycL⟩
def yke : An KK := (.s .o (.s .o (.j ⟨[(1, .px 1 0), (3, .st)], [(1, 106, (kps 1 27))], []⟩ (.s .o (.c .o .o)) (fun _ => (.s .o (.j ⟨[(1, .px 1 0), (3, .kp 28), (4, .st)], [(1, 106, (kps 1 27))], []⟩ (.s .o (.c .o .o)) (fun _ => (.s .o (.j ⟨[(1, .px 1 0), (3, .kp 28), (4, .kp 29), (5, .st)], [(1, 106, (kps 1 27))], []⟩ (.s .o (.c .o .o)) (fun _ => (.s .o .o)))))))))))
def ykk : Cf KK := ⟨CC, [yfn, yfm, ydH, ycR, ycb, ycQ, yf5], [], 58⟩
theorem yj9 : SpOk Tryz.prog CC ye3 := yaz (F := ykk) (ps := [.v 106]) (rs := [9]) (w := ycL) yaU (yap ykh (yap yjv (yap yeI (yap ydJ (yap ycD (yap yes (yap yik yaA))))))) yaB t36 (A := yke) (by kernel_rfl) (by kernel_rfl) fun a0 r0 => show _ = _ by kernel_rfl
def yb4 (a0 : yal) (r0 : Str) : Prop :=
 ∃ z1, (ycy a0.Desc ([68, 69, 83, 67] : Str) z1) ∧ ∃ z2, (yaK ([a0.Name, z1] : List Str) z2) ∧ z2 = r0
def yex : Sp KK := ⟨38, [.v 108], [9], appW (K := KK) [9] [.v 108] yb4⟩
def yiY : An KK := (.s .o (.s .o .o))
def yjc : Cf KK := ⟨CC, [ydH, ycb], [], 10⟩
theorem yiU : SpOk Tryz.prog CC yex := yaz (F := yjc) (ps := [.v 108]) (rs := [9]) (w := yb4) yaU (yap yeI (yap ycD yaA)) yaB t38 (A := yiY) (by kernel_rfl) (by kernel_rfl) fun a0 r0 => show _ = _ by kernel_rfl
def yja (a0 : List yal) (g1 : yal → Str → Prop) (r0 : Str) (X1 : Int → (List Str) → Prop) (x1 : Int) (x2 : List Str) : Prop :=
 cnd (decide (x1 < (a0.length : Int))) ((0 ≤ x1) ∧ (x1 < (a0.length : Int)) ∧ ∃ y3 : yal, (a0[x1.toNat]? = some y3) ∧ ∃ z4, (g1 y3 z4) ∧ (x2.length ≤ 1000000000) ∧ X1 (IntKind.i64.wrap (x1 + (1 : Int))) (x2 ++ ([z4] : List Str))) (∃ z5, (yaX x2 ([44, 32] : Str) z5) ∧ z5 = r0)
def ydn (a0 : List yal) (g1 : yal → Str → Prop) (r0 : Str) : Prop :=
 (a0.length ≤ maxLen → ∀ X1 : Int → (List Str) → Prop, (∀ x1 x2, yja a0 g1 r0 X1 x1 x2 → X1 x1 x2) → X1 (0 : Int) ([] : List Str))
def yeF : Sp KK := ⟨37, [.v 44, .f [108] [9]], [9], appW (K := KK) [9] [.v 44, .f [108] [9]] ydn⟩
def yiX : An KK := (.s .o (.s .o (.s (.s .o (.b (.l ⟨[(1, .kp 6), (5, .row 19), (8, .kp 8), (9, .kp 9), (10, .it .i64)], [], [(19, 9)]⟩ (fun _ => (.s .o (.s (.c .o .o) (.s (.b (.s .o .o)) .o))))))) (.s .o .o))))
def yjg : Cf KK := ⟨CC, [ya8], [], 23⟩
theorem yjl : SpOk Tryz.prog CC yeF := yaz (F := yjg) (ps := [.v 44, .f [108] [9]]) (rs := [9]) (w := ydn) yaU (yap ybg yaA) yaB t37 (A := yiX) (by kernel_rfl) (by kernel_rfl) fun a0 F1 r0 => show _ = _ by kernel_rfl
def yiB (x5 : List Str) (x6 r0 x7 : Str) : Prop :=
 ∃ z8, (yaX x5 ([32, 85, 78, 73, 79, 78, 32, 65, 76, 76, 32] : Str) z8) ∧ ∃ z9, (yaK ([z8, x6, x7] : List Str) z9) ∧ z9 = r0
def yiO (r0 : Str) (a0 : yaw) (x5 : List Str) (x6 : Str) : Prop :=
 ∀ J3 : Str → Prop, (∀ x7, yiB x5 x6 r0 x7 → J3 x7) → (a0.Limit.length ≤ maxLen → cnd (decide ((0 : Int) < (a0.Limit.length : Int))) ((0 ≤ (0 : Int)) ∧ ((0 : Int) < (a0.Limit.length : Int)) ∧ ∃ y10 : Int, (a0.Limit[(0 : Int).toNat]? = some y10) ∧ ∃ z11, (ya0 y10 (10 : Int) z11) ∧ (([76, 73, 77, 73, 84, 32] : Str).length + z11.length ≤ 9223372036854775807) ∧ J3 (([76, 73, 77, 73, 84, 32] : Str) ++ z11)) (J3 ([] : Str)))
def yeL (a0 : yaw) (r0 : Str) (X1 : Int → (List Str) → Prop) (x1 : Int) (x2 : List Str) : Prop :=
 cnd (decide (x1 < (a0.Cores.length : Int))) ((0 ≤ x1) ∧ (x1 < (a0.Cores.length : Int)) ∧ ∃ y3 : yan, (a0.Cores[x1.toNat]? = some y3) ∧ ∃ z4, (ycL (⟨y3.Distinct, y3.Items, y3.From, y3.Alias, y3.Join, y3.Left, y3.Other, y3.Named, (⟨(yab.mk y3.On.x0.Kind y3.On.x0.Op (⟨y3.On.x0.V.Kind, y3.On.x0.V.N, y3.On.x0.V.S⟩ : yae) y3.On.x0.Table y3.On.x0.Name y3.On.x0.L), (yab.mk y3.On.x1.Kind y3.On.x1.Op (⟨y3.On.x1.V.Kind, y3.On.x1.V.N, y3.On.x1.V.S⟩ : yae) y3.On.x1.Table y3.On.x1.Name y3.On.x1.L)⟩ : yaG), y3.Where, y3.Group, y3.Having⟩ : yan) z4) ∧ (x2.length ≤ 1000000000) ∧ X1 (IntKind.i64.wrap (x1 + (1 : Int))) (x2 ++ ([z4] : List Str))) (∀ J2 : (List Str) → Str → Prop, (∀ x5 x6, yiO r0 a0 x5 x6 → J2 x5 x6) → (a0.Order.length ≤ maxLen → cnd (decide ((0 : Int) < (a0.Order.length : Int))) (∃ z12, (ydn a0.Order yb4 z12) ∧ (([79, 82, 68, 69, 82, 32, 66, 89, 32] : Str).length + z12.length ≤ 9223372036854775807) ∧ J2 x2 (([79, 82, 68, 69, 82, 32, 66, 89, 32] : Str) ++ z12)) (J2 x2 ([] : Str))))
def yby (a0 : yaw) (r0 : Str) : Prop :=
 (a0.Cores.length ≤ maxLen → ∀ X1 : Int → (List Str) → Prop, (∀ x1 x2, yeL a0 r0 X1 x1 x2 → X1 x1 x2) → X1 (0 : Int) ([] : List Str))
def ydf : Sp KK := ⟨9, [.v 46], [9], appW (K := KK) [9] [.v 46] yby⟩
def yii : An KK := (.s .o (.s .o (.s (.s .o (.b (.l ⟨[(1, .px 1 0), (3, .row 19), (9, .kp 9), (10, .kp 10), (11, .it .i64)], [(1, 46, [.kp 12, .kp 13, .kp 14])], [(19, 9)]⟩ (fun _ => (.s .o (.s (.c .o .o) (.s (.b (.s .o .o)) .o))))))) (.s .o (.j ⟨[(1, .px 1 0), (3, .sl 9), (6, .st), (7, .kp 15)], [(1, 46, [.kp 12, .kp 13, .kp 14])], []⟩ (.s .o (.c .o .o)) (fun _ => (.j ⟨[(3, .kp 16), (6, .kp 17), (7, .st)], [], []⟩ (.s .o (.c .o .o)) (fun _ => (.s .o .o)))))))))
def yiu : Cf KK := ⟨CC, [ye3, yex, yeF, ybY, ya8, ycb], [], 45⟩
theorem yew : SpOk Tryz.prog CC ydf := yaz (F := yiu) (ps := [.v 46]) (rs := [9]) (w := yby) yaU (yap yj9 (yap yiU (yap yjl (yap ycH (yap ybg (yap ycD yaA)))))) yaB t9 (A := yii) (by kernel_rfl) (by kernel_rfl) fun a0 r0 => show _ = _ by kernel_rfl
def yds (a0 : yaO) (r0 : Str) : Prop :=
 ∃ z1, (ycX ([87, 72, 69, 82, 69] : Str) a0.Where z1) ∧ cnd (a0.Kind == (1 : Int)) (∃ z2, (yc7 a0.Columns ybS z2) ∧ (([40] : Str).length + z2.length ≤ 9223372036854775807) ∧ ((([40] : Str) ++ z2).length + ([41] : Str).length ≤ 9223372036854775807) ∧ ∃ z3, (yaK ([([67, 82, 69, 65, 84, 69, 32, 84, 65, 66, 76, 69] : Str), a0.Name, (([40] : Str) ++ z2) ++ ([41] : Str)] : List Str) z3) ∧ z3 = r0) (cnd (a0.Kind == (2 : Int)) (∃ z4, (yaK ([([68, 82, 79, 80, 32, 84, 65, 66, 76, 69] : Str), a0.Name] : List Str) z4) ∧ z4 = r0) (cnd (a0.Kind == (3 : Int)) (∃ z5, (ydU a0.Rows yfd z5) ∧ ∃ z6, (yaK ([([73, 78, 83, 69, 82, 84, 32, 73, 78, 84, 79] : Str), a0.Name, ([86, 65, 76, 85, 69, 83] : Str), z5] : List Str) z6) ∧ z6 = r0) (cnd (a0.Kind == (4 : Int)) (∃ z7, (yaK ([([68, 69, 76, 69, 84, 69, 32, 70, 82, 79, 77] : Str), a0.Name, z1] : List Str) z7) ∧ z7 = r0) (cnd (a0.Kind == (5 : Int)) (∃ z8, (yeb a0.Sets ycw z8) ∧ ∃ z9, (yaK ([([85, 80, 68, 65, 84, 69] : Str), a0.Name, ([83, 69, 84] : Str), z8, z1] : List Str) z9) ∧ z9 = r0) (cnd (a0.Kind == (6 : Int)) (∃ z10, (yby (⟨a0.Query.Cores, a0.Query.Order, a0.Query.Limit⟩ : yaw) z10) ∧ ∃ z11, (yaK ([([67, 82, 69, 65, 84, 69, 32, 86, 73, 69, 87] : Str), a0.Name, ([65, 83] : Str), z10] : List Str) z11) ∧ z11 = r0) (cnd (a0.Kind == (7 : Int)) (∃ z12, (yaK ([([68, 82, 79, 80, 32, 86, 73, 69, 87] : Str), a0.Name] : List Str) z12) ∧ z12 = r0) (cnd (a0.Kind == (8 : Int)) (∃ z13, (yby (⟨a0.Query.Cores, a0.Query.Order, a0.Query.Limit⟩ : yaw) z13) ∧ z13 = r0) (cnd (a0.Kind == (9 : Int)) (∃ z14, (yaK ([([82, 69, 65, 68] : Str), a0.Name] : List Str) z14) ∧ z14 = r0) (cnd (a0.Kind == (10 : Int)) (∃ z15, (ya0 a0.N (10 : Int) z15) ∧ ∃ z16, (yaK ([([80, 82, 79, 80, 65, 71, 65, 84, 69] : Str), z15] : List Str) z16) ∧ z16 = r0) (([] : Str) = r0))))))))))
def ygr : Sp KK := ⟨7, [.v 48], [9], appW (K := KK) [9] [.v 48] yds⟩
def ypo : An KK := (.s .o (.s .o (.s (.s .o (.b (.s .o (.c (.s .o .o) (.s .o (.c (.s .o .o) (.s .o (.c (.s .o .o) (.s .o (.c (.s .o .o) (.s .o (.c (.s .o .o) (.s .o (.c (.s .o .o) (.s .o (.c (.s .o .o) (.s .o (.c (.s .o .o) (.s .o (.c (.s .o .o) (.s .o (.c (.s .o .o) .o)))))))))))))))))))))) (.s .o .o))))
def ypL : Cf KK := ⟨CC, [yf5, yec, yd9, ycb, ylJ, ye5, ygd, ygg, ydf, ybY], [], 85⟩
theorem yku : SpOk Tryz.prog CC ygr := yaz (F := ypL) (ps := [.v 48]) (rs := [9]) (w := yds) yaU (yap yik (yap yhA (yap yhx (yap ycD (yap yqu (yap yjJ (yap ykW (yap ykN (yap yew (yap ycH yaA)))))))))) yaB t7 (A := ypo) (by kernel_rfl) (by kernel_rfl) fun a0 r0 => show _ = _ by kernel_rfl
def ydC (r0 : Bool) : Prop :=
 ∃ z1, (yde (1 : Int) z1) ∧ ∃ z2, (yds (⟨(4 : Int), ([116] : Str), ([] : List yak), ([] : List (List yab)), ([] : List yay), ([(yab.mk (3 : Int) (1 : Int) (⟨(0 : Int), (0 : Int), ([] : Str)⟩ : yae) ([] : Str) ([] : Str) ([(yab.mk (2 : Int) (0 : Int) (⟨(0 : Int), (0 : Int), ([] : Str)⟩ : yae) ([] : Str) ([97] : Str) ([] : List yab)), (yab.mk (1 : Int) (0 : Int) z1 ([] : Str) ([] : Str) ([] : List yab))] : List yab))] : List yab), (⟨([] : List yan), ([] : List yal), ([] : List Int)⟩ : yaw), (0 : Int)⟩ : yaO) z2) ∧ (z2 == ([68, 69, 76, 69, 84, 69, 32, 70, 82, 79, 77, 32, 116, 32, 87, 72, 69, 82, 69, 32, 40, 97, 32, 61, 32, 49, 41] : Str)) = r0
def ygz : Sp KK := ⟨4, [], [4], appW (K := KK) [4] [] ydC⟩
def yl0 : An KK := (.s .o (.s .o (.s .o .o)))
def ylB : Cf KK := ⟨CC, [yhm, ygr], [], 12⟩
theorem ylP : SpOk Tryz.prog CC ygz := yaz (F := ylB) (ps := []) (rs := [4]) (w := ydC) yaU (yap ymH (yap yku yaA)) yaB t4 (A := yl0) (by kernel_rfl) (by kernel_rfl) fun r0 => show _ = _ by kernel_rfl
def yag (a0 a1 : Int) (a2 : List Int) (a3 : List (List yac)) (a4 a5 a6 r0 r1 : Int) (r2 : List Int) (r3 : List (List yac)) (r4 r5 r6 : Int) : Prop :=
 (a2.length ≤ maxLen → cnd ((a2.length : Int) == (0 : Int)) ((0 : Int) = r0 ∧ a1 = r1 ∧ a2 = r2 ∧ a3 = r3 ∧ a4 = r4 ∧ a5 = r5 ∧ a6 = r6) (((a2.length : Int) ≠ 0) ∧ (0 ≤ (a5.tmod (a2.length : Int))) ∧ ((a5.tmod (a2.length : Int)) < (a2.length : Int)) ∧ ∃ y1 : Int, (a2[(a5.tmod (a2.length : Int)).toNat]? = some y1) ∧ (a0 ≠ 0) ∧ ((IntKind.i64.wrap y1).tmod a0) = r0 ∧ a1 = r1 ∧ a2 = r2 ∧ a3 = r3 ∧ a4 = r4 ∧ (IntKind.i64.wrap (a5 + (1 : Int))) = r5 ∧ a6 = r6))
def ybd : Sl KK := ⟨13, [], ⟨[(0, .px 2000000 0), (1, .it .i64)], [(2000000, 62, [.it .u8, .sl 5, .sl 113, .it .i64, .it .i64, .it .i64])], []⟩, ⟨[(4, .it .i64)], [(2000000, 62, [.it .u8, .sl 5, .sl 113, .it .i64, .it .i64, .it .i64])], []⟩, [], [(4, none)], true, fun _ _ _ => True⟩
def yaD : Sl KK := ⟨13, [], ⟨[(0, .px 2000000 0), (1, .it .i64)], [(2000000, 62, [.it .u8, .sl 5, .sl 113, .it .i64, .it .i64, .it .i64])], []⟩, ⟨[(4, .it .i64)], [(2000000, 62, [.it .u8, .sl 5, .sl 113, .it .i64, .it .i64, .it .i64])], []⟩, [], [(4, none)], true, apFs (K := KK) (ctT ybd.ti) (ctT ybd.te) [] yag⟩
def yeT : An KK := (.s .o (.s (.s .o (.c (.s .o .o) .o)) (.s .o (.s .o (.s .o .o)))))
def yeQ : Cf KK := ⟨CC, [], [], 42⟩
theorem yaY : SlOk Tryz.prog CC yaD := by
 intro fs env out hl hF hW
 obtain ⟨rfl, h0⟩ := ymR hW
 obtain ⟨a0, ea0, rfl, h1⟩ := ybc h0
 obtain ⟨a1, ea1, rfl, h2⟩ := ybc h1
 obtain ⟨a2, ea2, rfl, h3⟩ := ybc h2
 obtain ⟨a3, ea3, rfl, h4⟩ := ybc h3
 obtain ⟨a4, ea4, rfl, h5⟩ := ybc h4
 obtain ⟨a5, ea5, rfl, h6⟩ := ybc h5
 obtain ⟨a6, ea6, rfl, h7⟩ := ybc h6
 obtain ⟨rfl, h8⟩ := ymK h7
 obtain ⟨r0, er0, rfl, h9⟩ := yaI h8
 obtain ⟨r1, er1, rfl, h10⟩ := yaI h9
 obtain ⟨r2, er2, rfl, h11⟩ := yaI h10
 obtain ⟨r3, er3, rfl, h12⟩ := yaI h11
 obtain ⟨r4, er4, rfl, h13⟩ := yaI h12
 obtain ⟨r5, er5, rfl, h14⟩ := yaI h13
 obtain ⟨r6, er6, rfl, h15⟩ := yaI h14
 obtain ⟨rfl, h16⟩ := yjT h15
 show SlC Tryz.prog CC yaD [] [.i a0, .i a1, .l 5 a2, .l 113 a3, .i a4, .i a5, .i a6] [.i r0, .i r1, .l 5 r2, .l 113 r3, .i r4, .i r5, .i r6]
 rw [show SlC Tryz.prog CC yaD [] [.i a0, .i a1, .l 5 a2, .l 113 a3, .i a4, .i a5, .i a6] [.i r0, .i r1, .l 5 r2, .l 113 r3, .i r4, .i r5, .i r6] = SlC Tryz.prog CC ybd [] [.i a0, .i a1, .l 5 a2, .l 113 a3, .i a4, .i a5, .i a6] [.i r0, .i r1, .l 5 r2, .l 113 r3, .i r4, .i r5, .i r6] by kernel_rfl]
 exact ymN (F := yeQ) yaU yaA yaB t13 (A := yeT) (sp := ybd) rfl (by kernel_rfl) (by kernel_rfl) (Nat.le_of_ble_eq_true (by kernel_rfl)) (fs := []) (env := [.i a0, .i a1, .l 5 a2, .l 113 a3, .i a4, .i a5, .i a6]) (out := [.i r0, .i r1, .l 5 r2, .l 113 r3, .i r4, .i r5, .i r6]) (by kernel_rfl) hF (X := yag a0 a1 a2 a3 a4 a5 a6 r0 r1 r2 r3 r4 r5 r6) h16 (by kernel_rfl)
def yau (a0 : Int) (a1 : List Int) (a2 : List (List yac)) (a3 a4 a5 : Int) (r0 : Str) (r1 : Int) (r2 : List Int) (r3 : List (List yac)) (r4 r5 r6 : Int) : Prop :=
 ∃ z1 z2 z3 z4 z5 z6 z7, (yag (8 : Int) a0 a1 a2 a3 a4 a5 z1 z2 z3 z4 z5 z6 z7) ∧ (0 ≤ z1 ∧ z1 < (8 : Nat)) ∧ ((([([97] : Str), ([98] : Str), ([99] : Str), ([116] : Str), ([117] : Str), ([118] : Str), ([120, 49] : Str), ([108, 111, 110, 103, 95, 110, 97, 109, 101] : Str)] : List Str)[z1.toNat]?).getD []) = r0 ∧ z2 = r1 ∧ z3 = r2 ∧ z4 = r3 ∧ z5 = r4 ∧ z6 = r5 ∧ z7 = r6
def ybq : Sl KK := ⟨12, [], ⟨[(0, .px 2000000 0)], [(2000000, 62, [.it .u8, .sl 5, .sl 113, .it .i64, .it .i64, .it .i64])], []⟩, ⟨[(2, .st)], [(2000000, 62, [.it .u8, .sl 5, .sl 113, .it .i64, .it .i64, .it .i64])], []⟩, [], [(2, none)], true, fun _ _ _ => True⟩
def yaT : Sl KK := ⟨12, [], ⟨[(0, .px 2000000 0)], [(2000000, 62, [.it .u8, .sl 5, .sl 113, .it .i64, .it .i64, .it .i64])], []⟩, ⟨[(2, .st)], [(2000000, 62, [.it .u8, .sl 5, .sl 113, .it .i64, .it .i64, .it .i64])], []⟩, [], [(2, none)], true, apFs (K := KK) (ctT ybq.ti) (ctT ybq.te) [] yau⟩
def yfM : An KK := (.s .o (.s .o .o))
def yfT : Cf KK := ⟨CC, [], [yaD], 7⟩
theorem ycf : SlOk Tryz.prog CC yaT := by
 intro fs env out hl hF hW
 obtain ⟨rfl, h0⟩ := ymR hW
 obtain ⟨a0, ea0, rfl, h1⟩ := ybc h0
 obtain ⟨a1, ea1, rfl, h2⟩ := ybc h1
 obtain ⟨a2, ea2, rfl, h3⟩ := ybc h2
 obtain ⟨a3, ea3, rfl, h4⟩ := ybc h3
 obtain ⟨a4, ea4, rfl, h5⟩ := ybc h4
 obtain ⟨a5, ea5, rfl, h6⟩ := ybc h5
 obtain ⟨rfl, h7⟩ := ymK h6
 obtain ⟨r0, er0, rfl, h8⟩ := yaI h7
 obtain ⟨r1, er1, rfl, h9⟩ := yaI h8
 obtain ⟨r2, er2, rfl, h10⟩ := yaI h9
 obtain ⟨r3, er3, rfl, h11⟩ := yaI h10
 obtain ⟨r4, er4, rfl, h12⟩ := yaI h11
 obtain ⟨r5, er5, rfl, h13⟩ := yaI h12
 obtain ⟨r6, er6, rfl, h14⟩ := yaI h13
 obtain ⟨rfl, h15⟩ := yjT h14
 show SlC Tryz.prog CC yaT [] [.i a0, .l 5 a1, .l 113 a2, .i a3, .i a4, .i a5] [.s r0, .i r1, .l 5 r2, .l 113 r3, .i r4, .i r5, .i r6]
 rw [show SlC Tryz.prog CC yaT [] [.i a0, .l 5 a1, .l 113 a2, .i a3, .i a4, .i a5] [.s r0, .i r1, .l 5 r2, .l 113 r3, .i r4, .i r5, .i r6] = SlC Tryz.prog CC ybq [] [.i a0, .l 5 a1, .l 113 a2, .i a3, .i a4, .i a5] [.s r0, .i r1, .l 5 r2, .l 113 r3, .i r4, .i r5, .i r6] by kernel_rfl]
 exact ymN (F := yfT) yaU yaA (yen yaY yaB) t12 (A := yfM) (sp := ybq) rfl (by kernel_rfl) (by kernel_rfl) (Nat.le_of_ble_eq_true (by kernel_rfl)) (fs := []) (env := [.i a0, .l 5 a1, .l 113 a2, .i a3, .i a4, .i a5]) (out := [.s r0, .i r1, .l 5 r2, .l 113 r3, .i r4, .i r5, .i r6]) (by kernel_rfl) hF (X := yau a0 a1 a2 a3 a4 a5 r0 r1 r2 r3 r4 r5 r6) h15 (by kernel_rfl)
def ye1 (x12 : Int) (Xr : (List yac) → Int → Int → yaa → Int → Prop) (a0 : List yac) (a2 : Int) (y2 : yac) (x9 x3 x4 : Int) (x5 x10 x11 : Str) (r0 : yaa) (r1 : Int) (X6 : Int → Int → (List yaa) → Prop) (x13 x14 : Int) (x15 : List yaa) : Prop :=
 cnd (decide (x14 < x12)) (∃ z16 z17, (Xr a0 x13 (IntKind.i64.wrap (a2 + (1 : Int))) z16 z17) ∧ (x15.length ≤ 1000000000) ∧ X6 z17 (IntKind.i64.wrap (x14 + (1 : Int))) (x15 ++ ([(yaa.mk z16.Kind z16.Op (⟨z16.V.Kind, z16.V.N, z16.V.S⟩ : yad) z16.Table z16.Name z16.L)] : List yaa))) ((yaa.mk (IntKind.i64.wrap (y2.Kind.tmod (10 : Int))) x9 (⟨x3, x4, x5⟩ : yad) x10 x11 x15) = r0 ∧ x13 = r1)
def yeX (Xr : (List yac) → Int → Int → yaa → Int → Prop) (a0 : List yac) (a2 : Int) (y2 : yac) (x9 x3 x4 : Int) (x5 x10 x11 : Str) (r0 : yaa) (r1 a1 x12 : Int) : Prop :=
 ∀ X6 : Int → Int → (List yaa) → Prop, (∀ x13 x14 x15, ye1 x12 Xr a0 a2 y2 x9 x3 x4 x5 x10 x11 r0 r1 X6 x13 x14 x15 → X6 x13 x14 x15) → X6 (IntKind.i64.wrap (a1 + (1 : Int))) (0 : Int) ([] : List yaa)
def yeV (Xr : (List yac) → Int → Int → yaa → Int → Prop) (a0 : List yac) (a2 : Int) (y2 : yac) (x3 x4 : Int) (x5 : Str) (r0 : yaa) (r1 a1 x8 x9 : Int) (x10 x11 : Str) : Prop :=
 ∀ J5 : Int → Prop, (∀ x12, yeX Xr a0 a2 y2 x9 x3 x4 x5 x10 x11 r0 r1 a1 x12 → J5 x12) → cnd (decide ((240 : Int) ≤ y2.Kind)) (J5 (IntKind.i64.wrap (y2.Parts.tmod (4 : Int)))) (J5 x8)
def yeW (J4 : Int → Int → Str → Str → Prop) (x6 x7 : Str) (y2 : yac) (x19 : Bool) : Prop :=
 cnd x19 (J4 (0 : Int) (0 : Int) x6 x7) (J4 (IntKind.i64.wrap (y2.Parts.tmod (3 : Int))) (0 : Int) x6 x7)
def yeR (J4 : Int → Int → Str → Str → Prop) (x6 x7 : Str) (y2 : yac) (x18 : Bool) : Prop :=
 cnd x18 (J4 (1 : Int) (0 : Int) x6 x7) (cnd ((y2.Kind.tmod (10 : Int)) == (8 : Int)) (J4 (IntKind.i64.wrap (y2.Parts.tmod (2 : Int))) (IntKind.i64.wrap (y2.Op.tmod (6 : Int))) x6 x7) (∀ J8 : Bool → Prop, (∀ x19, yeW J4 x6 x7 y2 x19 → J8 x19) → cnd ((y2.Kind.tmod (10 : Int)) == (1 : Int)) (J8 ((y2.Kind.tmod (10 : Int)) == (1 : Int))) (J8 ((y2.Kind.tmod (10 : Int)) == (2 : Int)))))
def yeZ (Xr : (List yac) → Int → Int → yaa → Int → Prop) (a0 : List yac) (a2 : Int) (y2 : yac) (x3 x4 : Int) (x5 : Str) (r0 : yaa) (r1 a1 : Int) (x6 x7 : Str) : Prop :=
 ∀ J4 : Int → Int → Str → Str → Prop, (∀ x8 x9 x10 x11, yeV Xr a0 a2 y2 x3 x4 x5 r0 r1 a1 x8 x9 x10 x11 → J4 x8 x9 x10 x11) → cnd ((y2.Kind.tmod (10 : Int)) == (3 : Int)) (J4 (2 : Int) (IntKind.i64.wrap (y2.Op.tmod (16 : Int))) x6 x7) (∀ J7 : Bool → Prop, (∀ x18, yeR J4 x6 x7 y2 x18 → J7 x18) → cnd ((y2.Kind.tmod (10 : Int)) == (4 : Int)) (J7 ((y2.Kind.tmod (10 : Int)) == (4 : Int))) (cnd ((y2.Kind.tmod (10 : Int)) == (5 : Int)) (J7 ((y2.Kind.tmod (10 : Int)) == (5 : Int))) (cnd ((y2.Kind.tmod (10 : Int)) == (6 : Int)) (J7 ((y2.Kind.tmod (10 : Int)) == (6 : Int))) (J7 ((y2.Kind.tmod (10 : Int)) == (7 : Int))))))
def yeN (y2 : yac) (J3 : Str → Str → Prop) (x20 : Bool) : Prop :=
 cnd x20 ((0 ≤ (0 : Int) ∧ (0 : Int) ≤ (if (20 : Int) < (y2.Name.length : Int) then (20 : Int) else (y2.Name.length : Int)) ∧ (if (20 : Int) < (y2.Name.length : Int) then (20 : Int) else (y2.Name.length : Int)) ≤ (y2.Name.length : Int)) ∧ (0 ≤ (0 : Int) ∧ (0 : Int) ≤ (if (20 : Int) < (y2.Table.length : Int) then (20 : Int) else (y2.Table.length : Int)) ∧ (if (20 : Int) < (y2.Table.length : Int) then (20 : Int) else (y2.Table.length : Int)) ≤ (y2.Table.length : Int)) ∧ J3 ((y2.Table.drop (0 : Int).toNat).take ((if (20 : Int) < (y2.Table.length : Int) then (20 : Int) else (y2.Table.length : Int)).toNat - (0 : Int).toNat)) ((y2.Name.drop (0 : Int).toNat).take ((if (20 : Int) < (y2.Name.length : Int) then (20 : Int) else (y2.Name.length : Int)).toNat - (0 : Int).toNat))) (J3 ([] : Str) ([] : Str))
def yeO (Xr : (List yac) → Int → Int → yaa → Int → Prop) (a0 : List yac) (a2 : Int) (y2 : yac) (r0 : yaa) (r1 a1 x3 x4 : Int) (x5 : Str) : Prop :=
 ∀ J3 : Str → Str → Prop, (∀ x6 x7, yeZ Xr a0 a2 y2 x3 x4 x5 r0 r1 a1 x6 x7 → J3 x6 x7) → ∀ J9 : Bool → Prop, (∀ x20, yeN y2 J3 x20 → J9 x20) → cnd ((y2.Kind.tmod (10 : Int)) == (2 : Int)) (J9 true) (J9 (decide ((250 : Int) ≤ y2.Kind)))
def yee (y2 : yac) (J2 : Int → Int → Str → Prop) (x21 : Bool) : Prop :=
 cnd x21 (cnd ((IntKind.i64.wrap (y2.Value.tmod (5 : Int))) == (1 : Int)) (J2 (IntKind.i64.wrap (y2.Value.tmod (5 : Int))) (bits .and .i64 y2.N (1 : Int)) ([] : Str)) (cnd ((IntKind.i64.wrap (y2.Value.tmod (5 : Int))) == (2 : Int)) (J2 (IntKind.i64.wrap (y2.Value.tmod (5 : Int))) y2.N ([] : Str)) (cnd ((IntKind.i64.wrap (y2.Value.tmod (5 : Int))) == (3 : Int)) ((0 ≤ (0 : Int) ∧ (0 : Int) ≤ (if (70 : Int) < (y2.Name.length : Int) then (70 : Int) else (y2.Name.length : Int)) ∧ (if (70 : Int) < (y2.Name.length : Int) then (70 : Int) else (y2.Name.length : Int)) ≤ (y2.Name.length : Int)) ∧ J2 (IntKind.i64.wrap (y2.Value.tmod (5 : Int))) (0 : Int) ((y2.Name.drop (0 : Int).toNat).take ((if (70 : Int) < (y2.Name.length : Int) then (70 : Int) else (y2.Name.length : Int)).toNat - (0 : Int).toNat))) (J2 (IntKind.i64.wrap (y2.Value.tmod (5 : Int))) (0 : Int) ([] : Str))))) (J2 (0 : Int) (0 : Int) ([] : Str))
def yeP (r0 : yaa) (a1 r1 : Int) (a0 : List yac) (Xr : (List yac) → Int → Int → yaa → Int → Prop) (a2 : Int) (x1 : Bool) : Prop :=
 cnd x1 ((yaa.mk (1 : Int) (0 : Int) (⟨(0 : Int), (0 : Int), ([] : Str)⟩ : yad) ([] : Str) ([] : Str) ([] : List yaa)) = r0 ∧ (IntKind.i64.wrap (a1 + (1 : Int))) = r1) ((0 ≤ a1) ∧ (a1 < (a0.length : Int)) ∧ ∃ y2 : yac, (a0[a1.toNat]? = some y2) ∧ ∀ J2 : Int → Int → Str → Prop, (∀ x3 x4 x5, yeO Xr a0 a2 y2 r0 r1 a1 x3 x4 x5 → J2 x3 x4 x5) → ∀ J10 : Bool → Prop, (∀ x21, yee y2 J2 x21 → J10 x21) → cnd ((y2.Kind.tmod (10 : Int)) == (1 : Int)) (J10 true) (J10 (decide ((250 : Int) ≤ y2.Kind))))
def ycE (Xr : (List yac) → Int → Int → yaa → Int → Prop) (a0 : List yac) (a1 a2 : Int) (r0 : yaa) (r1 : Int) : Prop :=
 ∀ J1 : Bool → Prop, (∀ x1, yeP r0 a1 r1 a0 Xr a2 x1 → J1 x1) → (a0.length ≤ maxLen → cnd (decide ((a0.length : Int) ≤ a1)) (J1 true) (J1 (decide ((24 : Int) < a2))))
def yd4 (a0 : List yac) (a1 a2 : Int) (r0 : yaa) (r1 : Int) : Prop := ∀ Xr : (List yac) → Int → Int → yaa → Int → Prop, (∀ (a0 : (List yac)) (a1 : Int) (a2 : Int) (r0 : yaa) (r1 : Int), ycE Xr a0 a1 a2 r0 r1 → Xr a0 a1 a2 r0 r1) → Xr a0 a1 a2 r0 r1
def ydh (Xr : (List yac) → Int → Int → yaa → Int → Prop) (a0 : List yac) (a2 : Int) (r0 : yaa) (r1 x3 x4 : Int) (x5 : Str) (x9 : Int) (x10 x11 : Str) (x12 : Int) (y2 : yac) (X6 : Int → Int → (List yaa) → Prop) (x13 x14 : Int) (x15 : List yaa) : Prop :=
 cnd (decide (x14 < x12)) (∃ z16 z17, (Xr a0 x13 (IntKind.i64.wrap (a2 + (1 : Int))) z16 z17) ∧ (x15.length ≤ 1000000000) ∧ X6 z17 (IntKind.i64.wrap (x14 + (1 : Int))) (x15 ++ ([(yaa.mk z16.Kind z16.Op (⟨z16.V.Kind, z16.V.N, z16.V.S⟩ : yad) z16.Table z16.Name z16.L)] : List yaa))) ((yaa.mk (IntKind.i64.wrap (y2.Kind.tmod (10 : Int))) x9 (⟨x3, x4, x5⟩ : yad) x10 x11 x15) = r0 ∧ x13 = r1)
def yb5 (Xr : (List yac) → Int → Int → yaa → Int → Prop) (a0 : List yac) (a1 a2 : Int) (r0 : yaa) (r1 x3 x4 : Int) (x5 : Str) (x9 : Int) (x10 x11 : Str) (y2 : yac) (x12 : Int) : Prop :=
 ∀ X6 : Int → Int → (List yaa) → Prop, (∀ x13 x14 x15, ydh Xr a0 a2 r0 r1 x3 x4 x5 x9 x10 x11 x12 y2 X6 x13 x14 x15 → X6 x13 x14 x15) → X6 (IntKind.i64.wrap (a1 + (1 : Int))) (0 : Int) ([] : List yaa)
def yaM (Xr : (List yac) → Int → Int → yaa → Int → Prop) (a0 : List yac) (a1 a2 : Int) (r0 : yaa) (r1 x3 x4 : Int) (x5 : Str) (y2 : yac) (x8 x9 : Int) (x10 x11 : Str) : Prop :=
 cnd (decide ((240 : Int) ≤ y2.Kind)) (yb5 Xr a0 a1 a2 r0 r1 x3 x4 x5 x9 x10 x11 y2 (IntKind.i64.wrap (y2.Parts.tmod (4 : Int)))) (yb5 Xr a0 a1 a2 r0 r1 x3 x4 x5 x9 x10 x11 y2 x8)
def yb2 (Xr : (List yac) → Int → Int → yaa → Int → Prop) (a0 : List yac) (a1 a2 : Int) (r0 : yaa) (r1 x3 x4 : Int) (x5 x6 x7 : Str) (y2 : yac) (x19 : Bool) : Prop :=
 cnd x19 (yaM Xr a0 a1 a2 r0 r1 x3 x4 x5 y2 (0 : Int) (0 : Int) x6 x7) (yaM Xr a0 a1 a2 r0 r1 x3 x4 x5 y2 (IntKind.i64.wrap (y2.Parts.tmod (3 : Int))) (0 : Int) x6 x7)
def ybe (Xr : (List yac) → Int → Int → yaa → Int → Prop) (a0 : List yac) (a1 a2 : Int) (r0 : yaa) (r1 x3 x4 : Int) (x5 x6 x7 : Str) (y2 : yac) (x18 : Bool) : Prop :=
 cnd x18 (yaM Xr a0 a1 a2 r0 r1 x3 x4 x5 y2 (1 : Int) (0 : Int) x6 x7) (cnd ((y2.Kind.tmod (10 : Int)) == (8 : Int)) (yaM Xr a0 a1 a2 r0 r1 x3 x4 x5 y2 (IntKind.i64.wrap (y2.Parts.tmod (2 : Int))) (IntKind.i64.wrap (y2.Op.tmod (6 : Int))) x6 x7) (cnd ((y2.Kind.tmod (10 : Int)) == (1 : Int)) (yb2 Xr a0 a1 a2 r0 r1 x3 x4 x5 x6 x7 y2 ((y2.Kind.tmod (10 : Int)) == (1 : Int))) (yb2 Xr a0 a1 a2 r0 r1 x3 x4 x5 x6 x7 y2 ((y2.Kind.tmod (10 : Int)) == (2 : Int)))))
def ya9 (Xr : (List yac) → Int → Int → yaa → Int → Prop) (a0 : List yac) (a1 a2 : Int) (r0 : yaa) (r1 x3 x4 : Int) (x5 : Str) (y2 : yac) (x6 x7 : Str) : Prop :=
 cnd ((y2.Kind.tmod (10 : Int)) == (3 : Int)) (yaM Xr a0 a1 a2 r0 r1 x3 x4 x5 y2 (2 : Int) (IntKind.i64.wrap (y2.Op.tmod (16 : Int))) x6 x7) (cnd ((y2.Kind.tmod (10 : Int)) == (4 : Int)) (ybe Xr a0 a1 a2 r0 r1 x3 x4 x5 x6 x7 y2 ((y2.Kind.tmod (10 : Int)) == (4 : Int))) (cnd ((y2.Kind.tmod (10 : Int)) == (5 : Int)) (ybe Xr a0 a1 a2 r0 r1 x3 x4 x5 x6 x7 y2 ((y2.Kind.tmod (10 : Int)) == (5 : Int))) (cnd ((y2.Kind.tmod (10 : Int)) == (6 : Int)) (ybe Xr a0 a1 a2 r0 r1 x3 x4 x5 x6 x7 y2 ((y2.Kind.tmod (10 : Int)) == (6 : Int))) (ybe Xr a0 a1 a2 r0 r1 x3 x4 x5 x6 x7 y2 ((y2.Kind.tmod (10 : Int)) == (7 : Int))))))
def yb6 (Xr : (List yac) → Int → Int → yaa → Int → Prop) (a0 : List yac) (a1 a2 : Int) (r0 : yaa) (r1 x3 x4 : Int) (x5 : Str) (y2 : yac) (x20 : Bool) : Prop :=
 cnd x20 ((0 ≤ (0 : Int) ∧ (0 : Int) ≤ (if (20 : Int) < (y2.Name.length : Int) then (20 : Int) else (y2.Name.length : Int)) ∧ (if (20 : Int) < (y2.Name.length : Int) then (20 : Int) else (y2.Name.length : Int)) ≤ (y2.Name.length : Int)) ∧ (0 ≤ (0 : Int) ∧ (0 : Int) ≤ (if (20 : Int) < (y2.Table.length : Int) then (20 : Int) else (y2.Table.length : Int)) ∧ (if (20 : Int) < (y2.Table.length : Int) then (20 : Int) else (y2.Table.length : Int)) ≤ (y2.Table.length : Int)) ∧ ya9 Xr a0 a1 a2 r0 r1 x3 x4 x5 y2 ((y2.Table.drop (0 : Int).toNat).take ((if (20 : Int) < (y2.Table.length : Int) then (20 : Int) else (y2.Table.length : Int)).toNat - (0 : Int).toNat)) ((y2.Name.drop (0 : Int).toNat).take ((if (20 : Int) < (y2.Name.length : Int) then (20 : Int) else (y2.Name.length : Int)).toNat - (0 : Int).toNat))) (ya9 Xr a0 a1 a2 r0 r1 x3 x4 x5 y2 ([] : Str) ([] : Str))
def yaH (Xr : (List yac) → Int → Int → yaa → Int → Prop) (a0 : List yac) (a1 a2 : Int) (r0 : yaa) (r1 : Int) (y2 : yac) (x3 x4 : Int) (x5 : Str) : Prop :=
 cnd ((y2.Kind.tmod (10 : Int)) == (2 : Int)) (yb6 Xr a0 a1 a2 r0 r1 x3 x4 x5 y2 true) (yb6 Xr a0 a1 a2 r0 r1 x3 x4 x5 y2 (decide ((250 : Int) ≤ y2.Kind)))
def yaR (Xr : (List yac) → Int → Int → yaa → Int → Prop) (a0 : List yac) (a1 a2 : Int) (r0 : yaa) (r1 : Int) (y2 : yac) (x21 : Bool) : Prop :=
 cnd x21 (cnd ((IntKind.i64.wrap (y2.Value.tmod (5 : Int))) == (1 : Int)) (yaH Xr a0 a1 a2 r0 r1 y2 (IntKind.i64.wrap (y2.Value.tmod (5 : Int))) (bits .and .i64 y2.N (1 : Int)) ([] : Str)) (cnd ((IntKind.i64.wrap (y2.Value.tmod (5 : Int))) == (2 : Int)) (yaH Xr a0 a1 a2 r0 r1 y2 (IntKind.i64.wrap (y2.Value.tmod (5 : Int))) y2.N ([] : Str)) (cnd ((IntKind.i64.wrap (y2.Value.tmod (5 : Int))) == (3 : Int)) ((0 ≤ (0 : Int) ∧ (0 : Int) ≤ (if (70 : Int) < (y2.Name.length : Int) then (70 : Int) else (y2.Name.length : Int)) ∧ (if (70 : Int) < (y2.Name.length : Int) then (70 : Int) else (y2.Name.length : Int)) ≤ (y2.Name.length : Int)) ∧ yaH Xr a0 a1 a2 r0 r1 y2 (IntKind.i64.wrap (y2.Value.tmod (5 : Int))) (0 : Int) ((y2.Name.drop (0 : Int).toNat).take ((if (70 : Int) < (y2.Name.length : Int) then (70 : Int) else (y2.Name.length : Int)).toNat - (0 : Int).toNat))) (yaH Xr a0 a1 a2 r0 r1 y2 (IntKind.i64.wrap (y2.Value.tmod (5 : Int))) (0 : Int) ([] : Str))))) (yaH Xr a0 a1 a2 r0 r1 y2 (0 : Int) (0 : Int) ([] : Str))
def ybB (Xr : (List yac) → Int → Int → yaa → Int → Prop) (a0 : List yac) (a1 a2 : Int) (r0 : yaa) (r1 : Int) (x1 : Bool) : Prop :=
 cnd x1 ((yaa.mk (1 : Int) (0 : Int) (⟨(0 : Int), (0 : Int), ([] : Str)⟩ : yad) ([] : Str) ([] : Str) ([] : List yaa)) = r0 ∧ (IntKind.i64.wrap (a1 + (1 : Int))) = r1) ((0 ≤ a1) ∧ (a1 < (a0.length : Int)) ∧ ∃ y2 : yac, (a0[a1.toNat]? = some y2) ∧ cnd ((y2.Kind.tmod (10 : Int)) == (1 : Int)) (yaR Xr a0 a1 a2 r0 r1 y2 true) (yaR Xr a0 a1 a2 r0 r1 y2 (decide ((250 : Int) ≤ y2.Kind))))
def yhd (Xr : (List yac) → Int → Int → yaa → Int → Prop) (a0 : List yac) (a1 a2 : Int) (r0 : yaa) (r1 : Int) : Prop :=
 (a0.length ≤ maxLen → cnd (decide ((a0.length : Int) ≤ a1)) (ybB Xr a0 a1 a2 r0 r1 true) (ybB Xr a0 a1 a2 r0 r1 (decide ((24 : Int) < a2))))
theorem ykY (Xr : (List yac) → Int → Int → yaa → Int → Prop) (a0 : List yac) (a2 : Int) (r0 : yaa) (r1 x3 x4 : Int) (x5 : Str) (x9 : Int) (x10 x11 : Str) (x12 : Int) (y2 : yac) {X6 : Int → Int → (List yaa) → Prop} {x13 x14 : Int} {x15 : List yaa} (h : ydh Xr a0 a2 r0 r1 x3 x4 x5 x9 x10 x11 x12 y2 X6 x13 x14 x15) : ye1 x12 Xr a0 a2 y2 x9 x3 x4 x5 x10 x11 r0 r1 X6 x13 x14 x15 := by
 unfold ye1
 unfold ydh at h
 exact h
theorem ykH (Xr : (List yac) → Int → Int → yaa → Int → Prop) (a0 : List yac) (a1 a2 : Int) (r0 : yaa) (r1 x3 x4 : Int) (x5 : Str) (x9 : Int) (x10 x11 : Str) (y2 : yac) {x12 : Int} (h : yb5 Xr a0 a1 a2 r0 r1 x3 x4 x5 x9 x10 x11 y2 x12) : yeX Xr a0 a2 y2 x9 x3 x4 x5 x10 x11 r0 r1 a1 x12 := by
 unfold yeX
 unfold yb5 at h
 intro X6 k
 exact h X6 (fun x13 x14 x15 q => k x13 x14 x15 (ykY Xr a0 a2 r0 r1 x3 x4 x5 x9 x10 x11 x12 y2 q))
theorem ykV (Xr : (List yac) → Int → Int → yaa → Int → Prop) (a0 : List yac) (a1 a2 : Int) (r0 : yaa) (r1 x3 x4 : Int) (x5 : Str) (y2 : yac) {x8 x9 : Int} {x10 x11 : Str} (h : yaM Xr a0 a1 a2 r0 r1 x3 x4 x5 y2 x8 x9 x10 x11) : yeV Xr a0 a2 y2 x3 x4 x5 r0 r1 a1 x8 x9 x10 x11 := by
 unfold yeV
 unfold yaM at h
 intro J5 kJ5
 have hJ5 : ∀ x12, yb5 Xr a0 a1 a2 r0 r1 x3 x4 x5 x9 x10 x11 y2 x12 → J5 x12 := fun x12 q => kJ5 x12 (ykH Xr a0 a1 a2 r0 r1 x3 x4 x5 x9 x10 x11 y2 q)
 refine ya4 h (fun h => ?_) (fun h => ?_)
 ·exact hJ5 _ h
 ·exact hJ5 _ h
theorem ykZ (J4 : Int → Int → Str → Str → Prop) (Xr : (List yac) → Int → Int → yaa → Int → Prop) (a0 : List yac) (a1 a2 : Int) (r0 : yaa) (r1 x3 x4 : Int) (x5 x6 x7 : Str) (y2 : yac) (hJ4 : ∀ (x8 : Int) (x9 : Int) (x10 : Str) (x11 : Str), yaM Xr a0 a1 a2 r0 r1 x3 x4 x5 y2 x8 x9 x10 x11 → J4 x8 x9 x10 x11) {x19 : Bool} (h : yb2 Xr a0 a1 a2 r0 r1 x3 x4 x5 x6 x7 y2 x19) : yeW J4 x6 x7 y2 x19 := by
 unfold yeW
 unfold yb2 at h
 refine ya4 h (fun h => ?_) (fun h => ?_)
 ·exact hJ4 _ _ _ _ h
 ·exact hJ4 _ _ _ _ h
theorem ykG (J4 : Int → Int → Str → Str → Prop) (Xr : (List yac) → Int → Int → yaa → Int → Prop) (a0 : List yac) (a1 a2 : Int) (r0 : yaa) (r1 x3 x4 : Int) (x5 x6 x7 : Str) (y2 : yac) (hJ4 : ∀ (x8 : Int) (x9 : Int) (x10 : Str) (x11 : Str), yaM Xr a0 a1 a2 r0 r1 x3 x4 x5 y2 x8 x9 x10 x11 → J4 x8 x9 x10 x11) {x18 : Bool} (h : ybe Xr a0 a1 a2 r0 r1 x3 x4 x5 x6 x7 y2 x18) : yeR J4 x6 x7 y2 x18 := by
 unfold yeR
 unfold ybe at h
 refine ya4 h (fun h => ?_) (fun h => ?_)
 ·exact hJ4 _ _ _ _ h
 ·refine ya4 h (fun h => ?_) (fun h => ?_)
  ·exact hJ4 _ _ _ _ h
  ·intro J8 kJ8
   have hJ8 : ∀ x19, yb2 Xr a0 a1 a2 r0 r1 x3 x4 x5 x6 x7 y2 x19 → J8 x19 := fun x19 q => kJ8 x19 (ykZ J4 Xr a0 a1 a2 r0 r1 x3 x4 x5 x6 x7 y2 hJ4 q)
   refine ya4 h (fun h => ?_) (fun h => ?_)
   ·exact hJ8 _ h
   ·exact hJ8 _ h
theorem ykP (Xr : (List yac) → Int → Int → yaa → Int → Prop) (a0 : List yac) (a1 a2 : Int) (r0 : yaa) (r1 x3 x4 : Int) (x5 : Str) (y2 : yac) {x6 x7 : Str} (h : ya9 Xr a0 a1 a2 r0 r1 x3 x4 x5 y2 x6 x7) : yeZ Xr a0 a2 y2 x3 x4 x5 r0 r1 a1 x6 x7 := by
 unfold yeZ
 unfold ya9 at h
 intro J4 kJ4
 have hJ4 : ∀ x8 x9 x10 x11, yaM Xr a0 a1 a2 r0 r1 x3 x4 x5 y2 x8 x9 x10 x11 → J4 x8 x9 x10 x11 := fun x8 x9 x10 x11 q => kJ4 x8 x9 x10 x11 (ykV Xr a0 a1 a2 r0 r1 x3 x4 x5 y2 q)
 refine ya4 h (fun h => ?_) (fun h => ?_)
 ·exact hJ4 _ _ _ _ h
 ·intro J7 kJ7
  have hJ7 : ∀ x18, ybe Xr a0 a1 a2 r0 r1 x3 x4 x5 x6 x7 y2 x18 → J7 x18 := fun x18 q => kJ7 x18 (ykG J4 Xr a0 a1 a2 r0 r1 x3 x4 x5 x6 x7 y2 hJ4 q)
  refine ya4 h (fun h => ?_) (fun h => ?_)
  ·exact hJ7 _ h
  ·refine ya4 h (fun h => ?_) (fun h => ?_)
   ·exact hJ7 _ h
   ·refine ya4 h (fun h => ?_) (fun h => ?_)
    ·exact hJ7 _ h
    ·exact hJ7 _ h
theorem ykI (J3 : Str → Str → Prop) (Xr : (List yac) → Int → Int → yaa → Int → Prop) (a0 : List yac) (a1 a2 : Int) (r0 : yaa) (r1 x3 x4 : Int) (x5 : Str) (y2 : yac) (hJ3 : ∀ (x6 : Str) (x7 : Str), ya9 Xr a0 a1 a2 r0 r1 x3 x4 x5 y2 x6 x7 → J3 x6 x7) {x20 : Bool} (h : yb6 Xr a0 a1 a2 r0 r1 x3 x4 x5 y2 x20) : yeN y2 J3 x20 := by
 unfold yeN
 unfold yb6 at h
 refine ya4 h (fun h => ?_) (fun h => ?_)
 ·obtain ⟨h0, h⟩ := h
  refine ⟨h0, ?_⟩
  obtain ⟨h0, h⟩ := h
  refine ⟨h0, ?_⟩
  exact hJ3 _ _ h
 ·exact hJ3 _ _ h
theorem ykJ (Xr : (List yac) → Int → Int → yaa → Int → Prop) (a0 : List yac) (a1 a2 : Int) (r0 : yaa) (r1 : Int) (y2 : yac) {x3 x4 : Int} {x5 : Str} (h : yaH Xr a0 a1 a2 r0 r1 y2 x3 x4 x5) : yeO Xr a0 a2 y2 r0 r1 a1 x3 x4 x5 := by
 unfold yeO
 unfold yaH at h
 intro J3 kJ3
 have hJ3 : ∀ x6 x7, ya9 Xr a0 a1 a2 r0 r1 x3 x4 x5 y2 x6 x7 → J3 x6 x7 := fun x6 x7 q => kJ3 x6 x7 (ykP Xr a0 a1 a2 r0 r1 x3 x4 x5 y2 q)
 intro J9 kJ9
 have hJ9 : ∀ x20, yb6 Xr a0 a1 a2 r0 r1 x3 x4 x5 y2 x20 → J9 x20 := fun x20 q => kJ9 x20 (ykI J3 Xr a0 a1 a2 r0 r1 x3 x4 x5 y2 hJ3 q)
 refine ya4 h (fun h => ?_) (fun h => ?_)
 ·exact hJ9 _ h
 ·exact hJ9 _ h
theorem yj2 (J2 : Int → Int → Str → Prop) (Xr : (List yac) → Int → Int → yaa → Int → Prop) (a0 : List yac) (a1 a2 : Int) (r0 : yaa) (r1 : Int) (y2 : yac) (hJ2 : ∀ (x3 : Int) (x4 : Int) (x5 : Str), yaH Xr a0 a1 a2 r0 r1 y2 x3 x4 x5 → J2 x3 x4 x5) {x21 : Bool} (h : yaR Xr a0 a1 a2 r0 r1 y2 x21) : yee y2 J2 x21 := by
 unfold yee
 unfold yaR at h
 refine ya4 h (fun h => ?_) (fun h => ?_)
 ·refine ya4 h (fun h => ?_) (fun h => ?_)
  ·exact hJ2 _ _ _ h
  ·refine ya4 h (fun h => ?_) (fun h => ?_)
   ·exact hJ2 _ _ _ h
   ·refine ya4 h (fun h => ?_) (fun h => ?_)
    ·obtain ⟨h0, h⟩ := h
     refine ⟨h0, ?_⟩
     exact hJ2 _ _ _ h
    ·exact hJ2 _ _ _ h
 ·exact hJ2 _ _ _ h
theorem ykO (Xr : (List yac) → Int → Int → yaa → Int → Prop) (a0 : List yac) (a1 a2 : Int) (r0 : yaa) (r1 : Int) {x1 : Bool} (h : ybB Xr a0 a1 a2 r0 r1 x1) : yeP r0 a1 r1 a0 Xr a2 x1 := by
 unfold yeP
 unfold ybB at h
 refine ya4 h (fun h => ?_) (fun h => ?_)
 ·exact h
 ·obtain ⟨h0, h⟩ := h
  refine ⟨h0, ?_⟩
  obtain ⟨h0, h⟩ := h
  refine ⟨h0, ?_⟩
  obtain ⟨y2, h⟩ := h
  refine ⟨y2, ?_⟩
  obtain ⟨h0, h⟩ := h
  refine ⟨h0, ?_⟩
  intro J2 kJ2
  have hJ2 : ∀ x3 x4 x5, yaH Xr a0 a1 a2 r0 r1 y2 x3 x4 x5 → J2 x3 x4 x5 := fun x3 x4 x5 q => kJ2 x3 x4 x5 (ykJ Xr a0 a1 a2 r0 r1 y2 q)
  intro J10 kJ10
  have hJ10 : ∀ x21, yaR Xr a0 a1 a2 r0 r1 y2 x21 → J10 x21 := fun x21 q => kJ10 x21 (yj2 J2 Xr a0 a1 a2 r0 r1 y2 hJ2 q)
  refine ya4 h (fun h => ?_) (fun h => ?_)
  ·exact hJ10 _ h
  ·exact hJ10 _ h
theorem yhl (Xr : (List yac) → Int → Int → yaa → Int → Prop) (a0 : List yac) (a1 a2 : Int) (r0 : yaa) (r1 : Int) (h : yhd Xr a0 a1 a2 r0 r1) : ycE Xr a0 a1 a2 r0 r1 := by
 unfold ycE
 unfold yhd at h
 intro J1 kJ1
 have hJ1 : ∀ x1, ybB Xr a0 a1 a2 r0 r1 x1 → J1 x1 := fun x1 q => kJ1 x1 (ykO Xr a0 a1 a2 r0 r1 q)
 intro c
 replace h := h c
 refine ya4 h (fun h => ?_) (fun h => ?_)
 ·exact hJ1 _ h
 ·exact hJ1 _ h
def yhk : Sp KK := ⟨41, [.v 113, .v 3, .v 3], [68, 3], appW (K := KK) [68, 3] [.v 113, .v 3, .v 3] yd4⟩
def ymE : An KK := (.s .o (.s (.j ⟨[(0, .kp 12), (1, .kp 13), (2, .kp 14), (6, .px 6 0), (21, .bl)], [(6, 68, (kps 15 8))], []⟩ .o (fun _ => (.c (.s .o .o) .o))) (.s .o (.s .o (.s .o (.j ⟨[(0, .kp 12), (2, .kp 14), (6, .px 6 0), (8, .px 8 0), (9, .px 9 0), (10, .kp 23)], [(6, 68, (kps 15 8)), (8, 136, (kps 24 7)), (9, 68, [.kp 31, .kp 32, .it .i64, .it .i64, .st, .kp 36, .kp 37, .kp 38])], []⟩ (.j ⟨[(0, .kp 12), (2, .kp 14), (6, .px 6 0), (8, .px 8 0), (9, .px 9 0), (10, .kp 23), (44, .bl)], [(6, 68, (kps 15 8)), (8, 136, (kps 24 7)), (9, 68, [.kp 31, .kp 32, .kp 64, .kp 65, .kp 66, .kp 36, .kp 37, .kp 38])], []⟩ .o (fun _ => (.c (.s .o (.s .o (.b (.s .o (.c .o (.s .o (.c .o (.s .o (.c .o .o))))))))) .o))) (fun _ => (.j ⟨[(0, .kp 12), (2, .kp 14), (6, .px 6 0), (8, .px 8 0), (9, .px 9 0), (10, .kp 23)], [(6, 68, (kps 15 8)), (8, 136, (kps 24 7)), (9, 68, [.kp 31, .kp 32, .kp 42, .kp 43, .kp 44, .st, .st, .kp 38])], []⟩ (.j ⟨[(0, .kp 12), (2, .kp 14), (6, .px 6 0), (8, .px 8 0), (9, .px 9 0), (10, .kp 23), (86, .bl)], [(6, 68, (kps 15 8)), (8, 136, (kps 24 7)), (9, 68, [.kp 31, .kp 32, .kp 42, .kp 43, .kp 44, .kp 36, .kp 37, .kp 38])], []⟩ .o (fun _ => (.c .o .o))) (fun _ => (.s .o (.j ⟨[(0, .kp 12), (2, .kp 14), (6, .px 6 0), (8, .px 8 0), (9, .px 9 0), (10, .kp 23), (11, .it .i64)], [(6, 68, (kps 15 8)), (8, 136, (kps 24 7)), (9, 68, [.kp 31, .it .i64, .kp 42, .kp 43, .kp 44, .st, .st, .kp 38])], []⟩ (.s .o (.b (.s .o (.c .o (.j ⟨[(0, .kp 12), (2, .kp 14), (6, .px 6 0), (8, .px 8 0), (9, .px 9 0), (10, .kp 23), (11, .kp 60), (109, .kp 61), (117, .bl)], [(6, 68, (kps 15 8)), (8, 136, (kps 24 7)), (9, 68, [.kp 31, .kp 32, .kp 42, .kp 43, .kp 44, .kp 62, .kp 63, .kp 38])], []⟩ (.s .o (.c .o (.s .o (.c .o (.s .o (.c .o .o)))))) (fun _ => (.c .o (.s .o (.c (.s .o .o) (.j ⟨[(0, .kp 12), (2, .kp 14), (6, .px 6 0), (8, .px 8 0), (9, .px 9 0), (10, .kp 23), (11, .kp 60), (133, .bl)], [(6, 68, (kps 15 8)), (8, 136, (kps 24 7)), (9, 68, [.kp 31, .kp 32, .kp 42, .kp 43, .kp 44, .kp 62, .kp 63, .kp 38])], []⟩ (.s .o (.c .o .o)) (fun _ => (.c .o .o)))))))))))) (fun _ => (.j ⟨[(0, .kp 12), (2, .kp 14), (6, .px 6 0), (9, .px 9 0), (10, .kp 23), (11, .it .i64)], [(6, 68, (kps 15 8)), (9, 68, [.kp 31, .kp 53, .kp 42, .kp 43, .kp 44, .kp 54, .kp 55, .kp 38])], []⟩ (.s .o (.c .o .o)) (fun _ => (.s (.s .o (.b (.l ⟨[(0, .kp 12), (2, .kp 14), (6, .px 6 0), (9, .px 9 0), (10, .it .i64), (11, .kp 58), (12, .it .i64)], [(6, 68, (kps 15 8)), (9, 68, [.kp 31, .kp 53, .kp 42, .kp 43, .kp 44, .kp 54, .kp 55, .row 160])], [(160, 68)]⟩ (fun _ => (.s (.s .o (.c .o .o)) (.s (.b (.s .o (.s .o .o))) .o)))))) (.s .o .o))))))))))))))))
def ymv (Xr : WTy KK [68, 3] [.v 113, .v 3, .v 3]) : Cf KK := ⟨CC, [⟨41, [.v 113, .v 3, .v 3], [68, 3], appW (K := KK) [68, 3] [.v 113, .v 3, .v 3] Xr⟩], [], 164⟩
theorem yl1 (Xr : (List yac) → Int → Int → yaa → Int → Prop) (hX : ∀ (a0 : (List yac)) (a1 : Int) (a2 : Int) (r0 : yaa) (r1 : Int), Xr a0 a1 a2 r0 r1 → Pure Tryz.prog 41 (ybj CC [.v 113, .v 3, .v 3] ([.d (.v 113 a0), .d (.v 3 a1), .d (.v 3 a2)] : List (AD KK))) (ybk (([.v 68 r0, .v 3 r1] : List (DV KK)).map (dvA CC)))) : ∀ (a0 : (List yac)) (a1 : Int) (a2 : Int) (r0 : yaa) (r1 : Int), ycE Xr a0 a1 a2 r0 r1 → Pure Tryz.prog 41 (ybj CC [.v 113, .v 3, .v 3] ([.d (.v 113 a0), .d (.v 3 a1), .d (.v 3 a2)] : List (AD KK))) (ybk (([.v 68 r0, .v 3 r1] : List (DV KK)).map (dvA CC))) := by
 intro a0 a1 a2 r0 r1 h
 refine ykB (F := ymv Xr) yaU (yap ?_ yaA) yaB t41 (A := ymE) (ps := [.v 113, .v 3, .v 3]) (rs := [68, 3]) (env := [.d (.v 113 a0), .d (.v 3 a1), .d (.v 3 a2)]) (r := [.v 68 r0, .v 3 r1]) (X := ycE Xr a0 a1 a2 r0 r1) (by kernel_rfl) (Nat.le_of_ble_eq_true (by kernel_rfl)) (by kernel_rfl) (fun G hG => by simp at hG) h ?_
 ·clear h r0 r1
  intro env r hF h
  obtain ⟨a0, _, rfl, h1⟩ := ybv h
  obtain ⟨a1, _, rfl, h2⟩ := ybv h1
  obtain ⟨a2, _, rfl, h3⟩ := ybv h2
  obtain ⟨rfl, h4⟩ := ycS h3
  obtain ⟨r0, _, rfl, h5⟩ := yev h4
  obtain ⟨r1, _, rfl, h6⟩ := yev h5
  obtain ⟨rfl, h7⟩ := yfa h6
  exact ⟨rfl, hX a0 a1 a2 r0 r1 h7⟩
 ·kernel_rfl
theorem ymC : SpOk Tryz.prog CC yhk := by
 intro env r hF h
 obtain ⟨a0, _, rfl, h1⟩ := ybv h
 obtain ⟨a1, _, rfl, h2⟩ := ybv h1
 obtain ⟨a2, _, rfl, h3⟩ := ybv h2
 obtain ⟨rfl, h4⟩ := ycS h3
 obtain ⟨r0, _, rfl, h5⟩ := yev h4
 obtain ⟨r1, _, rfl, h6⟩ := yev h5
 obtain ⟨rfl, h7⟩ := yfa h6
 exact ⟨rfl, h7 (fun a0 a1 a2 r0 r1 =>  Pure Tryz.prog 41 (ybj CC [.v 113, .v 3, .v 3] ([.d (.v 113 a0), .d (.v 3 a1), .d (.v 3 a2)] : List (AD KK))) (ybk (([.v 68 r0, .v 3 r1] : List (DV KK)).map (dvA CC)))) (fun a0 a1 a2 r0 r1 h => yl1 _ (fun a0 a1 a2 r0 r1 h => h) a0 a1 a2 r0 r1 h)⟩
def yma (a0 : yaa) (Xr : yaa → Int → Prop) (r0 : Int) (X1 : Int → Int → Prop) (x1 x2 : Int) : Prop :=
 (a0.L.length ≤ maxLen → cnd (decide (x2 < (a0.L.length : Int))) ((0 ≤ x2) ∧ (x2 < (a0.L.length : Int)) ∧ ∃ y3 : yaa, (a0.L[x2.toNat]? = some y3) ∧ ∃ z4, (Xr (yaa.mk y3.Kind y3.Op (⟨y3.V.Kind, y3.V.N, y3.V.S⟩ : yad) y3.Table y3.Name y3.L) z4) ∧ cnd (decide (x1 ≤ z4)) (X1 (IntKind.i64.wrap (z4 + (1 : Int))) (IntKind.i64.wrap (x2 + (1 : Int)))) (X1 x1 (IntKind.i64.wrap (x2 + (1 : Int))))) (x1 = r0))
def yfN (Xr : yaa → Int → Prop) (a0 : yaa) (r0 : Int) : Prop :=
 ∀ X1 : Int → Int → Prop, (∀ x1 x2, yma a0 Xr r0 X1 x1 x2 → X1 x1 x2) → X1 (1 : Int) (0 : Int)
def yfu (a0 : yaa) (r0 : Int) : Prop := ∀ Xr : yaa → Int → Prop, (∀ (a0 : yaa) (r0 : Int), yfN Xr a0 r0 → Xr a0 r0) → Xr a0 r0
def yht : Sp KK := ⟨54, [.v 68], [3], appW (K := KK) [3] [.v 68] yfu⟩
def ymq : An KK := (.s .o (.s .o (.s (.s .o (.b (.l ⟨[(1, .px 1 0), (3, .it .i64), (4, .it .i64)], [(1, 68, (kps 13 8))], []⟩ (fun _ => (.s (.s .o (.c .o .o)) (.s (.b (.s .o (.s .o (.c .o .o)))) .o)))))) (.s .o .o))))
def ymf (Xr : WTy KK [3] [.v 68]) : Cf KK := ⟨CC, [⟨54, [.v 68], [3], appW (K := KK) [3] [.v 68] Xr⟩], [], 25⟩
theorem ylc (Xr : yaa → Int → Prop) (hX : ∀ (a0 : yaa) (r0 : Int), Xr a0 r0 → Pure Tryz.prog 54 (ybj CC [.v 68] ([.d (.v 68 a0)] : List (AD KK))) (ybk (([.v 3 r0] : List (DV KK)).map (dvA CC)))) : ∀ (a0 : yaa) (r0 : Int), yfN Xr a0 r0 → Pure Tryz.prog 54 (ybj CC [.v 68] ([.d (.v 68 a0)] : List (AD KK))) (ybk (([.v 3 r0] : List (DV KK)).map (dvA CC))) := by
 intro a0 r0 h
 refine ykB (F := ymf Xr) yaU (yap ?_ yaA) yaB t54 (A := ymq) (ps := [.v 68]) (rs := [3]) (env := [.d (.v 68 a0)]) (r := [.v 3 r0]) (X := yfN Xr a0 r0) (by kernel_rfl) (Nat.le_of_ble_eq_true (by kernel_rfl)) (by kernel_rfl) (fun G hG => by simp at hG) h ?_
 ·clear h r0
  intro env r hF h
  obtain ⟨a0, _, rfl, h1⟩ := ybv h
  obtain ⟨rfl, h2⟩ := ycS h1
  obtain ⟨r0, _, rfl, h3⟩ := yev h2
  obtain ⟨rfl, h4⟩ := yfa h3
  exact ⟨rfl, hX a0 r0 h4⟩
 ·kernel_rfl
theorem yl9 : SpOk Tryz.prog CC yht := by
 intro env r hF h
 obtain ⟨a0, _, rfl, h1⟩ := ybv h
 obtain ⟨rfl, h2⟩ := ycS h1
 obtain ⟨r0, _, rfl, h3⟩ := yev h2
 obtain ⟨rfl, h4⟩ := yfa h3
 exact ⟨rfl, h4 (fun a0 r0 =>  Pure Tryz.prog 54 (ybj CC [.v 68] ([.d (.v 68 a0)] : List (AD KK))) (ybk (([.v 3 r0] : List (DV KK)).map (dvA CC)))) (fun a0 r0 h => ylc _ (fun a0 r0 h => h) a0 r0 h)⟩
def ycU (a0 : yad) (r0 : Bool) : Prop :=
 cnd (a0.Kind == (0 : Int)) (cnd (a0.N == (0 : Int)) ((a0.S == ([] : Str)) = r0) (false = r0)) (cnd (a0.Kind == (1 : Int)) (cnd (a0.N == (0 : Int)) ((a0.S == ([] : Str)) = r0) (cnd (a0.N == (1 : Int)) ((a0.S == ([] : Str)) = r0) (false = r0))) (cnd (a0.Kind == (2 : Int)) ((a0.S == ([] : Str)) = r0) (cnd (a0.Kind == (3 : Int)) (cnd (a0.N == (0 : Int)) ((decide ((a0.S.length : Int) ≤ (64 : Int))) = r0) (false = r0)) (false = r0))))
def yfR : Sp KK := ⟨66, [.v 66], [4], appW (K := KK) [4] [.v 66] ycU⟩
def ynC : An KK := (.s .o (.s (.s .o (.c (.s .o .o) .o)) (.s (.s .o (.c (.s .o .o) .o)) (.s (.s .o (.c (.s .o .o) .o)) (.s .o .o)))))
def yoD : Cf KK := ⟨CC, [], [], 50⟩
theorem yjo : SpOk Tryz.prog CC yfR := yaz (F := yoD) (ps := [.v 66]) (rs := [4]) (w := ycU) yaU yaA yaB t66 (A := ynC) (by kernel_rfl) (by kernel_rfl) fun a0 r0 => show _ = _ by kernel_rfl
def yml (r0 : Int) (x4 : Bool) : Prop :=
 cnd x4 ((6 : Int) = r0) ((0 : Int) = r0)
def ymG (r0 a0 : Int) (x3 : Bool) : Prop :=
 cnd x3 ((3 : Int) = r0) (cnd (a0 == (95 : Int)) ((4 : Int) = r0) (cnd (a0 == (39 : Int)) ((5 : Int) = r0) (∀ J4 : Bool → Prop, (∀ x4, yml r0 x4 → J4 x4) → cnd (a0 == (32 : Int)) (J4 true) (J4 (a0 == (10 : Int))))))
def ymI (r0 a0 : Int) (x2 : Bool) : Prop :=
 cnd x2 ((2 : Int) = r0) (∀ J3 : Bool → Prop, (∀ x3, ymG r0 a0 x3 → J3 x3) → cnd (decide ((48 : Int) ≤ a0)) (J3 (decide (a0 ≤ (57 : Int)))) (J3 false))
def ymw (r0 a0 : Int) (x1 : Bool) : Prop :=
 cnd x1 ((1 : Int) = r0) (∀ J2 : Bool → Prop, (∀ x2, ymI r0 a0 x2 → J2 x2) → cnd (decide ((65 : Int) ≤ a0)) (J2 (decide (a0 ≤ (90 : Int)))) (J2 false))
def ycd (a0 r0 : Int) : Prop :=
 ∀ J1 : Bool → Prop, (∀ x1, ymw r0 a0 x1 → J1 x1) → cnd (decide ((97 : Int) ≤ a0)) (J1 (decide (a0 ≤ (122 : Int)))) (J1 false)
def yhn : Sp KK := ⟨78, [.v 5], [3], appW (K := KK) [3] [.v 5] ycd⟩
def ymo : An KK := (.s .o (.s (.b (.j ⟨[(0, .kp 2), (3, .bl)], [], []⟩ .o (fun _ => (.c (.s .o .o) (.j ⟨[(0, .kp 2), (10, .bl)], [], []⟩ .o (fun _ => (.c (.s .o .o) (.j ⟨[(0, .kp 2), (17, .bl)], [], []⟩ .o (fun _ => (.c (.s .o .o) (.s .o (.c (.s .o .o) (.s .o (.c (.s .o .o) (.j ⟨[(30, .bl)], [], []⟩ .o (fun _ => (.c (.s .o .o) .o))))))))))))))))) (.s .o .o)))
def yl4 : Cf KK := ⟨CC, [], [], 37⟩
theorem ymz : SpOk Tryz.prog CC yhn := yaz (F := yl4) (ps := [.v 5]) (rs := [3]) (w := ycd) yaU yaA yaB t78 (A := ymo) (by kernel_rfl) (by kernel_rfl) fun a0 r0 => show _ = _ by kernel_rfl
def yfw (r0 : Bool) (X2 : Int → Prop) (x2 : Int) (x4 : Bool) : Prop :=
 cnd x4 (false = r0) (X2 (IntKind.i64.wrap (x2 + (1 : Int))))
def yf0 (a0 : Str) (r0 : Bool) (X2 : Int → Prop) (x2 : Int) : Prop :=
 cnd (decide (x2 < (a0.length : Int))) ((0 ≤ x2 ∧ x2 < (a0.length : Int)) ∧ ∃ z3, (ycd (bAt a0 x2) z3) ∧ ∀ J3 : Bool → Prop, (∀ x4, yfw r0 X2 x2 x4 → J3 x4) → cnd (!(z3 == (1 : Int))) (cnd (!(z3 == (3 : Int))) (J3 (!(z3 == (4 : Int)))) (J3 false)) (J3 false)) (true = r0)
def yfV (r0 : Bool) (a0 : Str) (x1 : Bool) : Prop :=
 cnd x1 (false = r0) (∀ X2 : Int → Prop, (∀ x2, yf0 a0 r0 X2 x2 → X2 x2) → X2 (0 : Int))
def ycp (a0 : Str) (r0 : Bool) : Prop :=
 ∀ J1 : Bool → Prop, (∀ x1, yfV r0 a0 x1 → J1 x1) → cnd (decide ((a0.length : Int) < (1 : Int))) (J1 true) (cnd (decide ((16 : Int) < (a0.length : Int))) (J1 true) ((0 ≤ (0 : Int) ∧ (0 : Int) < (a0.length : Int)) ∧ ∃ z5, (ycd (bAt a0 (0 : Int)) z5) ∧ J1 (!(z5 == (1 : Int)))))
def ybx (X2 : Int → Prop) (r0 : Bool) (x2 : Int) (x4 : Bool) : Prop :=
 cnd x4 (false = r0) (X2 (IntKind.i64.wrap (x2 + (1 : Int))))
def ydD (a0 : Str) (r0 : Bool) (X2 : Int → Prop) (x2 : Int) : Prop :=
 cnd (decide (x2 < (a0.length : Int))) ((0 ≤ x2 ∧ x2 < (a0.length : Int)) ∧ ∃ z3, (ycd (bAt a0 x2) z3) ∧ cnd (!(z3 == (1 : Int))) (cnd (!(z3 == (3 : Int))) (ybx X2 r0 x2 (!(z3 == (4 : Int)))) (ybx X2 r0 x2 false)) (ybx X2 r0 x2 false)) (true = r0)
def ybU (a0 : Str) (r0 x1 : Bool) : Prop :=
 cnd x1 (false = r0) (∀ X2 : Int → Prop, (∀ x2, ydD a0 r0 X2 x2 → X2 x2) → X2 (0 : Int))
def yfP (a0 : Str) (r0 : Bool) : Prop :=
 cnd (decide ((a0.length : Int) < (1 : Int))) (ybU a0 r0 true) (cnd (decide ((16 : Int) < (a0.length : Int))) (ybU a0 r0 true) ((0 ≤ (0 : Int) ∧ (0 : Int) < (a0.length : Int)) ∧ ∃ z5, (ycd (bAt a0 (0 : Int)) z5) ∧ ybU a0 r0 (!(z5 == (1 : Int)))))
theorem yls (X2 : Int → Prop) (r0 : Bool) (x2 : Int) {x4 : Bool} (h : ybx X2 r0 x2 x4) : yfw r0 X2 x2 x4 := by
 unfold yfw
 unfold ybx at h
 exact h
theorem ylU (a0 : Str) (r0 : Bool) {X2 : Int → Prop} {x2 : Int} (h : ydD a0 r0 X2 x2) : yf0 a0 r0 X2 x2 := by
 unfold yf0
 unfold ydD at h
 refine ya4 h (fun h => ?_) (fun h => ?_)
 ·obtain ⟨h0, h⟩ := h
  refine ⟨h0, ?_⟩
  obtain ⟨z3, h⟩ := h
  refine ⟨z3, ?_⟩
  obtain ⟨h0, h⟩ := h
  refine ⟨h0, ?_⟩
  intro J3 kJ3
  have hJ3 : ∀ x4, ybx X2 r0 x2 x4 → J3 x4 := fun x4 q => kJ3 x4 (yls X2 r0 x2 q)
  refine ya4 h (fun h => ?_) (fun h => ?_)
  ·refine ya4 h (fun h => ?_) (fun h => ?_)
   ·exact hJ3 _ h
   ·exact hJ3 _ h
  ·exact hJ3 _ h
 ·exact h
theorem ylY (a0 : Str) (r0 : Bool) {x1 : Bool} (h : ybU a0 r0 x1) : yfV r0 a0 x1 := by
 unfold yfV
 unfold ybU at h
 refine ya4 h (fun h => ?_) (fun h => ?_)
 ·exact h
 ·intro X2 k
  exact h X2 (fun x2 q => k x2 (ylU a0 r0 q))
theorem ypS (a0 : Str) (r0 : Bool) (h : yfP a0 r0) : ycp a0 r0 := by
 unfold ycp
 unfold yfP at h
 intro J1 kJ1
 have hJ1 : ∀ x1, ybU a0 r0 x1 → J1 x1 := fun x1 q => kJ1 x1 (ylY a0 r0 q)
 refine ya4 h (fun h => ?_) (fun h => ?_)
 ·exact hJ1 _ h
 ·refine ya4 h (fun h => ?_) (fun h => ?_)
  ·exact hJ1 _ h
  ·obtain ⟨h0, h⟩ := h
   refine ⟨h0, ?_⟩
   obtain ⟨z5, h⟩ := h
   refine ⟨z5, ?_⟩
   obtain ⟨h0, h⟩ := h
   refine ⟨h0, ?_⟩
   exact hJ1 _ h
def yjf : Sp KK := ⟨67, [.v 9], [4], appW (K := KK) [4] [.v 9] ycp⟩
def ynB : An KK := (.s .o (.s (.j ⟨[(0, .kp 2), (18, .bl)], [], []⟩ .o (fun _ => (.c (.s .o .o) .o))) (.s (.s .o (.b (.l ⟨[(0, .kp 2), (3, .it .i64)], [], []⟩ (fun _ => (.s (.s .o (.c .o .o)) (.s (.b (.s .o (.j ⟨[(0, .kp 2), (3, .kp 12), (38, .bl)], [], []⟩ .o (fun _ => (.c (.s .o .o) .o))))) .o)))))) (.s .o .o))))
def yon : Cf KK := ⟨CC, [yhn], [], 39⟩
theorem yoJ : SpOk Tryz.prog CC yjf := yaz (F := yon) (ps := [.v 9]) (rs := [4]) (w := ycp) yaU (yap ymz yaA) yaB t67 (A := ynB) (by kernel_rfl) (by kernel_rfl) fun a0 r0 => show _ = _ by kernel_rfl
def ypq (r0 : Bool) (X1 : Int → Prop) (x1 : Int) (x2 : Bool) : Prop :=
 cnd x2 (false = r0) (X1 (IntKind.i64.wrap (x1 + (1 : Int))))
def yp1 (r0 x6 : Bool) : Prop :=
 x6 = r0
def ypE (r0 x8 : Bool) : Prop :=
 x8 = r0
def yo1 (r0 x13 : Bool) : Prop :=
 x13 = r0
def yko (a0 : yaa) (r0 a1 x12 : Bool) : Prop :=
 cnd x12 ((a0.L.length ≤ maxLen → cnd ((a0.L.length : Int) == (1 : Int)) ((a0.Op == (0 : Int)) = r0) (false = r0))) (cnd (a0.Kind == (8 : Int)) (∀ J7 : Bool → Prop, (∀ x13, yo1 r0 x13 → J7 x13) → cnd (!a1) (cnd (decide ((1 : Int) ≤ a0.Op)) (cnd (decide (a0.Op ≤ (4 : Int))) ((a0.L.length ≤ maxLen → cnd ((a0.L.length : Int) == (1 : Int)) (J7 true) ((a0.L.length ≤ maxLen → cnd ((a0.L.length : Int) == (0 : Int)) (J7 (a0.Op == (1 : Int))) (J7 false))))) (J7 false)) (J7 false)) (J7 false)) (false = r0))
def ykE (r0 : Bool) (a0 : yaa) (a1 x11 : Bool) : Prop :=
 cnd x11 (false = r0) (cnd (a0.Kind == (3 : Int)) ((a0.L.length ≤ maxLen → cnd ((a0.L.length : Int) == (2 : Int)) (cnd (decide ((1 : Int) ≤ a0.Op)) ((decide (a0.Op ≤ (14 : Int))) = r0) (false = r0)) (false = r0))) (∀ J6 : Bool → Prop, (∀ x12, yko a0 r0 a1 x12 → J6 x12) → cnd (a0.Kind == (4 : Int)) (J6 (a0.Kind == (4 : Int))) (cnd (a0.Kind == (5 : Int)) (J6 (a0.Kind == (5 : Int))) (cnd (a0.Kind == (6 : Int)) (J6 (a0.Kind == (6 : Int))) (J6 (a0.Kind == (7 : Int)))))))
def ykz (a0 : yaa) (r0 a1 : Bool) (Xr : yaa → Bool → Bool → Prop) (X1 : Int → Prop) (x1 : Int) : Prop :=
 (a0.L.length ≤ maxLen → cnd (decide (x1 < (a0.L.length : Int))) (∀ J2 : Bool → Prop, (∀ x2, ypq r0 X1 x1 x2 → J2 x2) → (0 ≤ x1) ∧ (x1 < (a0.L.length : Int)) ∧ ∃ y3 : yaa, (a0.L[x1.toNat]? = some y3) ∧ cnd a1 (∃ z4, (Xr (yaa.mk y3.Kind y3.Op (⟨y3.V.Kind, y3.V.N, y3.V.S⟩ : yad) y3.Table y3.Name y3.L) true z4) ∧ J2 (!z4)) (∃ z5, (Xr (yaa.mk y3.Kind y3.Op (⟨y3.V.Kind, y3.V.N, y3.V.S⟩ : yad) y3.Table y3.Name y3.L) (a0.Kind == (8 : Int)) z5) ∧ J2 (!z5))) (cnd (a0.Kind == (1 : Int)) (∀ J3 : Bool → Prop, (∀ x6, yp1 r0 x6 → J3 x6) → (a0.L.length ≤ maxLen → cnd ((a0.L.length : Int) == (0 : Int)) (cnd (a0.Op == (0 : Int)) (cnd (a0.Table == ([] : Str)) (cnd (a0.Name == ([] : Str)) (∃ z7, (ycU (⟨a0.V.Kind, a0.V.N, a0.V.S⟩ : yad) z7) ∧ cnd z7 (cnd (!(a0.V.Kind == (2 : Int))) (J3 true) (J3 (decide ((0 : Int) ≤ a0.V.N)))) (J3 false)) (J3 false)) (J3 false)) (J3 false)) (J3 false))) (cnd (a0.Kind == (2 : Int)) (∀ J4 : Bool → Prop, (∀ x8, ypE r0 x8 → J4 x8) → (a0.L.length ≤ maxLen → cnd ((a0.L.length : Int) == (0 : Int)) (cnd (a0.Op == (0 : Int)) (cnd ((a0.V.Kind == (0 : Int)) && ((a0.V.N == (0 : Int)) && ((a0.V.S == ([] : Str)) && true))) (∃ z9, (ycp a0.Name z9) ∧ cnd z9 (cnd (a0.Table == ([] : Str)) (J4 true) (∃ z10, (ycp a0.Table z10) ∧ J4 z10)) (J4 false)) (J4 false)) (J4 false)) (J4 false))) (∀ J5 : Bool → Prop, (∀ x11, ykE r0 a0 a1 x11 → J5 x11) → cnd (!((a0.V.Kind == (0 : Int)) && ((a0.V.N == (0 : Int)) && ((a0.V.S == ([] : Str)) && true)))) (J5 true) (cnd (!(a0.Table == ([] : Str))) (J5 true) (J5 (!(a0.Name == ([] : Str)))))))))
def yh1 (Xr : yaa → Bool → Bool → Prop) (a0 : yaa) (a1 r0 : Bool) : Prop :=
 ∀ X1 : Int → Prop, (∀ x1, ykz a0 r0 a1 Xr X1 x1 → X1 x1) → X1 (0 : Int)
def yhL (a0 : yaa) (a1 r0 : Bool) : Prop := ∀ Xr : yaa → Bool → Bool → Prop, (∀ (a0 : yaa) (a1 : Bool) (r0 : Bool), yh1 Xr a0 a1 r0 → Xr a0 a1 r0) → Xr a0 a1 r0
def ykA : Sp KK := ⟨55, [.v 68, .v 4], [4], appW (K := KK) [4] [.v 68, .v 4] yhL⟩
def ypt : An KK := (.s .o (.s .o (.s (.s .o (.b (.l ⟨[(1, .kp 18), (2, .px 2 0), (5, .px 5 0), (6, .it .i64)], [(2, 68, (kps 20 8)), (5, 66, [.kp 28, .kp 29, .kp 30])], []⟩ (fun _ => (.s (.s .o (.c .o .o)) (.s (.b (.j ⟨[(1, .kp 18), (2, .px 2 0), (5, .px 5 0), (6, .kp 34), (27, .bl)], [(2, 68, (kps 20 8)), (5, 66, [.kp 28, .kp 29, .kp 30])], []⟩ .o (fun _ => (.c (.s .o .o) .o)))) .o)))))) (.s (.s .o (.b (.s .o (.c (.j ⟨[(4, .bl)], [], []⟩ .o (fun _ => .o)) (.s .o (.c (.j ⟨[(4, .bl)], [], []⟩ .o (fun _ => .o)) .o)))))) (.s (.j ⟨[(1, .kp 18), (2, .px 2 0), (113, .bl)], [(2, 68, (kps 20 8))], []⟩ .o (fun _ => (.c (.s .o .o) .o))) (.s (.s .o (.b (.s .o (.c (.s .o .o) (.j ⟨[(1, .kp 18), (2, .px 2 0), (115, .kp 20), (132, .bl)], [(2, 68, (kps 20 8))], []⟩ (.s .o (.c .o (.s .o (.c .o (.s .o (.c .o .o)))))) (fun _ => (.c (.s .o .o) (.s .o (.c (.j ⟨[(4, .bl)], [], []⟩ .o (fun _ => .o)) .o))))))))) (.s .o .o)))))))
def yoY (Xr : WTy KK [4] [.v 68, .v 4]) : Cf KK := ⟨CC, [⟨55, [.v 68, .v 4], [4], appW (K := KK) [4] [.v 68, .v 4] Xr⟩, yfR, yjf], [], 177⟩
theorem yof (Xr : yaa → Bool → Bool → Prop) (hX : ∀ (a0 : yaa) (a1 : Bool) (r0 : Bool), Xr a0 a1 r0 → Pure Tryz.prog 55 (ybj CC [.v 68, .v 4] ([.d (.v 68 a0), .d (.v 4 a1)] : List (AD KK))) (ybk (([.v 4 r0] : List (DV KK)).map (dvA CC)))) : ∀ (a0 : yaa) (a1 : Bool) (r0 : Bool), yh1 Xr a0 a1 r0 → Pure Tryz.prog 55 (ybj CC [.v 68, .v 4] ([.d (.v 68 a0), .d (.v 4 a1)] : List (AD KK))) (ybk (([.v 4 r0] : List (DV KK)).map (dvA CC))) := by
 intro a0 a1 r0 h
 refine ykB (F := yoY Xr) yaU (yap ?_ (yap yjo (yap yoJ yaA))) yaB t55 (A := ypt) (ps := [.v 68, .v 4]) (rs := [4]) (env := [.d (.v 68 a0), .d (.v 4 a1)]) (r := [.v 4 r0]) (X := yh1 Xr a0 a1 r0) (by kernel_rfl) (Nat.le_of_ble_eq_true (by kernel_rfl)) (by kernel_rfl) (fun G hG => by simp at hG) h ?_
 ·clear h r0
  intro env r hF h
  obtain ⟨a0, _, rfl, h1⟩ := ybv h
  obtain ⟨a1, _, rfl, h2⟩ := ybv h1
  obtain ⟨rfl, h3⟩ := ycS h2
  obtain ⟨r0, _, rfl, h4⟩ := yev h3
  obtain ⟨rfl, h5⟩ := yfa h4
  exact ⟨rfl, hX a0 a1 r0 h5⟩
 ·kernel_rfl
theorem yo9 : SpOk Tryz.prog CC ykA := by
 intro env r hF h
 obtain ⟨a0, _, rfl, h1⟩ := ybv h
 obtain ⟨a1, _, rfl, h2⟩ := ybv h1
 obtain ⟨rfl, h3⟩ := ycS h2
 obtain ⟨r0, _, rfl, h4⟩ := yev h3
 obtain ⟨rfl, h5⟩ := yfa h4
 exact ⟨rfl, h5 (fun a0 a1 r0 =>  Pure Tryz.prog 55 (ybj CC [.v 68, .v 4] ([.d (.v 68 a0), .d (.v 4 a1)] : List (AD KK))) (ybk (([.v 4 r0] : List (DV KK)).map (dvA CC)))) (fun a0 a1 r0 h => yof _ (fun a0 a1 r0 h => h) a0 a1 r0 h)⟩
def ydF (a0 : yaa) (r0 : Bool) : Prop :=
 ∃ z1, (yfu (yaa.mk a0.Kind a0.Op (⟨a0.V.Kind, a0.V.N, a0.V.S⟩ : yad) a0.Table a0.Name a0.L) z1) ∧ cnd (decide (z1 ≤ (20 : Int))) (∃ z2, (yhL (yaa.mk a0.Kind a0.Op (⟨a0.V.Kind, a0.V.N, a0.V.S⟩ : yad) a0.Table a0.Name a0.L) false z2) ∧ z2 = r0) (false = r0)
def yfI : Sp KK := ⟨42, [.v 68], [4], appW (K := KK) [4] [.v 68] ydF⟩
def ym6 : An KK := (.s .o (.s .o .o))
def yoR : Cf KK := ⟨CC, [yht, ykA], [], 10⟩
theorem yji : SpOk Tryz.prog CC yfI := yaz (F := yoR) (ps := [.v 68]) (rs := [4]) (w := ydF) yaU (yap yl9 (yap yo9 yaA)) yaB t42 (A := ym6) (by kernel_rfl) (by kernel_rfl) fun a0 r0 => show _ = _ by kernel_rfl
def yaJ (a0 : Int) (a1 : List Int) (a2 : List (List yac)) (a3 a4 a5 r0 : Int) (r1 : List Int) (r2 : List (List yac)) (r3 r4 r5 : Int) (r6 : yaa) : Prop :=
 (a2.length ≤ maxLen → cnd ((a2.length : Int) == (0 : Int)) (a0 = r0 ∧ a1 = r1 ∧ a2 = r2 ∧ a3 = r3 ∧ a4 = r4 ∧ a5 = r5 ∧ (yaa.mk (1 : Int) (0 : Int) (⟨(0 : Int), (0 : Int), ([] : Str)⟩ : yad) ([] : Str) ([] : Str) ([] : List yaa)) = r6) (((a2.length : Int) ≠ 0) ∧ (0 ≤ (a5.tmod (a2.length : Int))) ∧ ((a5.tmod (a2.length : Int)) < (a2.length : Int)) ∧ ∃ y1 : (List yac), (a2[(a5.tmod (a2.length : Int)).toNat]? = some y1) ∧ (y1.length ≤ maxLen → (0 ≤ (0 : Int) ∧ (0 : Int) ≤ (if (12 : Int) < (y1.length : Int) then (12 : Int) else (y1.length : Int)) ∧ (if (12 : Int) < (y1.length : Int) then (12 : Int) else (y1.length : Int)) ≤ (y1.length : Int)) ∧ ∃ z2 z3, (yd4 (ypZ y1 (0 : Int) (if (12 : Int) < (y1.length : Int) then (12 : Int) else (y1.length : Int))) (0 : Int) (0 : Int) z2 z3) ∧ ∃ z4, (ydF (yaa.mk z2.Kind z2.Op (⟨z2.V.Kind, z2.V.N, z2.V.S⟩ : yad) z2.Table z2.Name z2.L) z4) ∧ cnd (!z4) (a0 = r0 ∧ a1 = r1 ∧ a2 = r2 ∧ a3 = r3 ∧ a4 = r4 ∧ (IntKind.i64.wrap (a5 + (1 : Int))) = r5 ∧ (yaa.mk (2 : Int) (0 : Int) (⟨(0 : Int), (0 : Int), ([] : Str)⟩ : yad) ([] : Str) ([97] : Str) ([] : List yaa)) = r6) (a0 = r0 ∧ a1 = r1 ∧ a2 = r2 ∧ a3 = r3 ∧ a4 = r4 ∧ (IntKind.i64.wrap (a5 + (1 : Int))) = r5 ∧ (yaa.mk z2.Kind z2.Op (⟨z2.V.Kind, z2.V.N, z2.V.S⟩ : yad) z2.Table z2.Name z2.L) = r6))))
def ybn : Sl KK := ⟨14, [], ⟨[(0, .px 2000000 0)], [(2000000, 62, [.it .u8, .sl 5, .sl 113, .it .i64, .it .i64, .it .i64])], []⟩, ⟨[(2, .px 1000000 0)], [(2000000, 62, [.it .u8, .sl 5, .sl 113, .it .i64, .it .i64, .it .i64]), (1000000, 68, [.v 68])], []⟩, [], [(2, some 8)], true, fun _ _ _ => True⟩
def yaS : Sl KK := ⟨14, [], ⟨[(0, .px 2000000 0)], [(2000000, 62, [.it .u8, .sl 5, .sl 113, .it .i64, .it .i64, .it .i64])], []⟩, ⟨[(2, .px 1000000 0)], [(2000000, 62, [.it .u8, .sl 5, .sl 113, .it .i64, .it .i64, .it .i64]), (1000000, 68, [.v 68])], []⟩, [], [(2, some 8)], true, apFs (K := KK) (ctT ybn.ti) (ctT ybn.te) [] yaJ⟩
def yfq : An KK := (.s .o (.s (.s .o (.c (.s .o .o) .o)) (.s .o (.s .o (.s .o (.s (.s .o (.c (.s .o .o) .o)) (.s .o .o)))))))
def yfB : Cf KK := ⟨CC, [yhk, yfI], [], 53⟩
theorem ycc : SlOk Tryz.prog CC yaS := by
 intro fs env out hl hF hW
 obtain ⟨rfl, h0⟩ := ymR hW
 obtain ⟨a0, ea0, rfl, h1⟩ := ybc h0
 obtain ⟨a1, ea1, rfl, h2⟩ := ybc h1
 obtain ⟨a2, ea2, rfl, h3⟩ := ybc h2
 obtain ⟨a3, ea3, rfl, h4⟩ := ybc h3
 obtain ⟨a4, ea4, rfl, h5⟩ := ybc h4
 obtain ⟨a5, ea5, rfl, h6⟩ := ybc h5
 obtain ⟨rfl, h7⟩ := ymK h6
 obtain ⟨r0, er0, rfl, h8⟩ := yaI h7
 obtain ⟨r1, er1, rfl, h9⟩ := yaI h8
 obtain ⟨r2, er2, rfl, h10⟩ := yaI h9
 obtain ⟨r3, er3, rfl, h11⟩ := yaI h10
 obtain ⟨r4, er4, rfl, h12⟩ := yaI h11
 obtain ⟨r5, er5, rfl, h13⟩ := yaI h12
 obtain ⟨r6, er6, rfl, h14⟩ := yaI h13
 obtain ⟨rfl, h15⟩ := yjT h14
 show SlC Tryz.prog CC yaS [] [.i a0, .l 5 a1, .l 113 a2, .i a3, .i a4, .i a5] [.i r0, .l 5 r1, .l 113 r2, .i r3, .i r4, .i r5, .v 68 r6]
 rw [show SlC Tryz.prog CC yaS [] [.i a0, .l 5 a1, .l 113 a2, .i a3, .i a4, .i a5] [.i r0, .l 5 r1, .l 113 r2, .i r3, .i r4, .i r5, .v 68 r6] = SlC Tryz.prog CC ybn [] [.i a0, .l 5 a1, .l 113 a2, .i a3, .i a4, .i a5] [.i r0, .l 5 r1, .l 113 r2, .i r3, .i r4, .i r5, .v 68 r6] by kernel_rfl]
 exact ymN (F := yfB) yaU (yap ymC (yap yji yaA)) yaB t14 (A := yfq) (sp := ybn) rfl (by kernel_rfl) (by kernel_rfl) (Nat.le_of_ble_eq_true (by kernel_rfl)) (fs := []) (env := [.i a0, .l 5 a1, .l 113 a2, .i a3, .i a4, .i a5]) (out := [.i r0, .l 5 r1, .l 113 r2, .i r3, .i r4, .i r5, .v 68 r6]) (by kernel_rfl) hF (X := yaJ a0 a1 a2 a3 a4 a5 r0 r1 r2 r3 r4 r5 r6) h15 (by kernel_rfl)
def yaP (a0 : Int) (a1 : List Int) (a2 : List (List yac)) (a3 a4 a5 : Int) (r0 : List yaa) (r1 : Int) (r2 : List Int) (r3 : List (List yac)) (r4 r5 r6 : Int) : Prop :=
 ∃ z1 z2 z3 z4 z5 z6 z7, (yag (2 : Int) a0 a1 a2 a3 a4 a5 z1 z2 z3 z4 z5 z6 z7) ∧ cnd (z1 == (0 : Int)) (([] : List yaa) = r0 ∧ z2 = r1 ∧ z3 = r2 ∧ z4 = r3 ∧ z5 = r4 ∧ z6 = r5 ∧ z7 = r6) (∃ z8 z9 z10 z11 z12 z13 z14, (yaJ z2 z3 z4 z5 z6 z7 z8 z9 z10 z11 z12 z13 z14) ∧ ([(yaa.mk z14.Kind z14.Op (⟨z14.V.Kind, z14.V.N, z14.V.S⟩ : yad) z14.Table z14.Name z14.L)] : List yaa) = r0 ∧ z8 = r1 ∧ z9 = r2 ∧ z10 = r3 ∧ z11 = r4 ∧ z12 = r5 ∧ z13 = r6)
def ybh : Sl KK := ⟨15, [], ⟨[(0, .px 2000000 0)], [(2000000, 62, [.it .u8, .sl 5, .sl 113, .it .i64, .it .i64, .it .i64])], []⟩, ⟨[(2, .sl 68)], [(2000000, 62, [.it .u8, .sl 5, .sl 113, .it .i64, .it .i64, .it .i64])], []⟩, [], [(2, none)], true, fun _ _ _ => True⟩
def ya1 : Sl KK := ⟨15, [], ⟨[(0, .px 2000000 0)], [(2000000, 62, [.it .u8, .sl 5, .sl 113, .it .i64, .it .i64, .it .i64])], []⟩, ⟨[(2, .sl 68)], [(2000000, 62, [.it .u8, .sl 5, .sl 113, .it .i64, .it .i64, .it .i64])], []⟩, [], [(2, none)], true, apFs (K := KK) (ctT ybh.ti) (ctT ybh.te) [] yaP⟩
def yfo : An KK := (.s .o (.s (.s .o (.c (.s .o .o) .o)) (.s .o .o)))
def yfb : Cf KK := ⟨CC, [], [yaD, yaS], 9⟩
theorem ycW : SlOk Tryz.prog CC ya1 := by
 intro fs env out hl hF hW
 obtain ⟨rfl, h0⟩ := ymR hW
 obtain ⟨a0, ea0, rfl, h1⟩ := ybc h0
 obtain ⟨a1, ea1, rfl, h2⟩ := ybc h1
 obtain ⟨a2, ea2, rfl, h3⟩ := ybc h2
 obtain ⟨a3, ea3, rfl, h4⟩ := ybc h3
 obtain ⟨a4, ea4, rfl, h5⟩ := ybc h4
 obtain ⟨a5, ea5, rfl, h6⟩ := ybc h5
 obtain ⟨rfl, h7⟩ := ymK h6
 obtain ⟨r0, er0, rfl, h8⟩ := yaI h7
 obtain ⟨r1, er1, rfl, h9⟩ := yaI h8
 obtain ⟨r2, er2, rfl, h10⟩ := yaI h9
 obtain ⟨r3, er3, rfl, h11⟩ := yaI h10
 obtain ⟨r4, er4, rfl, h12⟩ := yaI h11
 obtain ⟨r5, er5, rfl, h13⟩ := yaI h12
 obtain ⟨r6, er6, rfl, h14⟩ := yaI h13
 obtain ⟨rfl, h15⟩ := yjT h14
 show SlC Tryz.prog CC ya1 [] [.i a0, .l 5 a1, .l 113 a2, .i a3, .i a4, .i a5] [.l 68 r0, .i r1, .l 5 r2, .l 113 r3, .i r4, .i r5, .i r6]
 rw [show SlC Tryz.prog CC ya1 [] [.i a0, .l 5 a1, .l 113 a2, .i a3, .i a4, .i a5] [.l 68 r0, .i r1, .l 5 r2, .l 113 r3, .i r4, .i r5, .i r6] = SlC Tryz.prog CC ybh [] [.i a0, .l 5 a1, .l 113 a2, .i a3, .i a4, .i a5] [.l 68 r0, .i r1, .l 5 r2, .l 113 r3, .i r4, .i r5, .i r6] by kernel_rfl]
 exact ymN (F := yfb) yaU yaA (yen yaY (yen ycc yaB)) t15 (A := yfo) (sp := ybh) rfl (by kernel_rfl) (by kernel_rfl) (Nat.le_of_ble_eq_true (by kernel_rfl)) (fs := []) (env := [.i a0, .l 5 a1, .l 113 a2, .i a3, .i a4, .i a5]) (out := [.l 68 r0, .i r1, .l 5 r2, .l 113 r3, .i r4, .i r5, .i r6]) (by kernel_rfl) hF (X := yaP a0 a1 a2 a3 a4 a5 r0 r1 r2 r3 r4 r5 r6) h15 (by kernel_rfl)
def ygl (r0 : Int) (r1 : List Int) (r2 : List (List yac)) (r3 r4 r5 : Int) (z1 : Str) (r6 : yaa) (x8 : Str) (x9 : Int) (x10 : List Int) (x11 : List (List yac)) (x12 x13 x14 : Int) : Prop :=
 x9 = r0 ∧ x10 = r1 ∧ x11 = r2 ∧ x12 = r3 ∧ x13 = r4 ∧ x14 = r5 ∧ (yaa.mk (2 : Int) (0 : Int) (⟨(0 : Int), (0 : Int), ([] : Str)⟩ : yad) x8 z1 ([] : List yaa)) = r6
def ya2 (a0 : Int) (a1 : List Int) (a2 : List (List yac)) (a3 a4 a5 r0 : Int) (r1 : List Int) (r2 : List (List yac)) (r3 r4 r5 : Int) (r6 : yaa) : Prop :=
 ∃ z1 z2 z3 z4 z5 z6 z7, (yau a0 a1 a2 a3 a4 a5 z1 z2 z3 z4 z5 z6 z7) ∧ ∀ J1 : Str → Int → (List Int) → (List (List yac)) → Int → Int → Int → Prop, (∀ x8 x9 x10 x11 x12 x13 x14, ygl r0 r1 r2 r3 r4 r5 z1 r6 x8 x9 x10 x11 x12 x13 x14 → J1 x8 x9 x10 x11 x12 x13 x14) → ∃ z15 z16 z17 z18 z19 z20 z21, (yag (2 : Int) z2 z3 z4 z5 z6 z7 z15 z16 z17 z18 z19 z20 z21) ∧ cnd (z15 == (1 : Int)) (∃ z22 z23 z24 z25 z26 z27 z28, (yau z16 z17 z18 z19 z20 z21 z22 z23 z24 z25 z26 z27 z28) ∧ J1 z22 z23 z24 z25 z26 z27 z28) (J1 ([] : Str) z16 z17 z18 z19 z20 z21)
def ybF : Sl KK := ⟨43, [], ⟨[(0, .px 2000000 0)], [(2000000, 62, [.it .u8, .sl 5, .sl 113, .it .i64, .it .i64, .it .i64])], []⟩, ⟨[(2, .px 1000000 0)], [(2000000, 62, [.it .u8, .sl 5, .sl 113, .it .i64, .it .i64, .it .i64]), (1000000, 68, [.v 68])], []⟩, [], [(2, some 8)], true, fun _ _ _ => True⟩
def ybH : Sl KK := ⟨43, [], ⟨[(0, .px 2000000 0)], [(2000000, 62, [.it .u8, .sl 5, .sl 113, .it .i64, .it .i64, .it .i64])], []⟩, ⟨[(2, .px 1000000 0)], [(2000000, 62, [.it .u8, .sl 5, .sl 113, .it .i64, .it .i64, .it .i64]), (1000000, 68, [.v 68])], []⟩, [], [(2, some 8)], true, apFs (K := KK) (ctT ybF.ti) (ctT ybF.te) [] ya2⟩
def ygi : An KK := (.s .o (.s .o (.j ⟨[(2, .px 2 0), (3, .px 3 0)], [(2, 68, (kps 1 8)), (3, 68, [.kp 9, .kp 10, .kp 11, .kp 12, .kp 13, .st, .kp 14, .kp 15]), (2000000, 62, [.it .u8, .sl 5, .sl 113, .it .i64, .it .i64, .it .i64])], []⟩ (.s .o (.c .o .o)) (fun _ => (.s .o .o)))))
def ygh : Cf KK := ⟨CC, [], [yaT, yaD], 14⟩
theorem ygj : SlOk Tryz.prog CC ybH := by
 intro fs env out hl hF hW
 obtain ⟨rfl, h0⟩ := ymR hW
 obtain ⟨a0, ea0, rfl, h1⟩ := ybc h0
 obtain ⟨a1, ea1, rfl, h2⟩ := ybc h1
 obtain ⟨a2, ea2, rfl, h3⟩ := ybc h2
 obtain ⟨a3, ea3, rfl, h4⟩ := ybc h3
 obtain ⟨a4, ea4, rfl, h5⟩ := ybc h4
 obtain ⟨a5, ea5, rfl, h6⟩ := ybc h5
 obtain ⟨rfl, h7⟩ := ymK h6
 obtain ⟨r0, er0, rfl, h8⟩ := yaI h7
 obtain ⟨r1, er1, rfl, h9⟩ := yaI h8
 obtain ⟨r2, er2, rfl, h10⟩ := yaI h9
 obtain ⟨r3, er3, rfl, h11⟩ := yaI h10
 obtain ⟨r4, er4, rfl, h12⟩ := yaI h11
 obtain ⟨r5, er5, rfl, h13⟩ := yaI h12
 obtain ⟨r6, er6, rfl, h14⟩ := yaI h13
 obtain ⟨rfl, h15⟩ := yjT h14
 show SlC Tryz.prog CC ybH [] [.i a0, .l 5 a1, .l 113 a2, .i a3, .i a4, .i a5] [.i r0, .l 5 r1, .l 113 r2, .i r3, .i r4, .i r5, .v 68 r6]
 rw [show SlC Tryz.prog CC ybH [] [.i a0, .l 5 a1, .l 113 a2, .i a3, .i a4, .i a5] [.i r0, .l 5 r1, .l 113 r2, .i r3, .i r4, .i r5, .v 68 r6] = SlC Tryz.prog CC ybF [] [.i a0, .l 5 a1, .l 113 a2, .i a3, .i a4, .i a5] [.i r0, .l 5 r1, .l 113 r2, .i r3, .i r4, .i r5, .v 68 r6] by kernel_rfl]
 exact ymN (F := ygh) yaU yaA (yen ycf (yen yaY yaB)) t43 (A := ygi) (sp := ybF) rfl (by kernel_rfl) (by kernel_rfl) (Nat.le_of_ble_eq_true (by kernel_rfl)) (fs := []) (env := [.i a0, .l 5 a1, .l 113 a2, .i a3, .i a4, .i a5]) (out := [.i r0, .l 5 r1, .l 113 r2, .i r3, .i r4, .i r5, .v 68 r6]) (by kernel_rfl) hF (X := ya2 a0 a1 a2 a3 a4 a5 r0 r1 r2 r3 r4 r5 r6) h15 (by kernel_rfl)
end Go.Proofs.YteoohihaibgplaaGreatDoor
end
noncomputable section
namespace Go.Proofs.YteoohihaibgplaaGreatDoor
open Go.AV Go.RowKit
set_option maxRecDepth 100000
def yft (X1 : Int → Int → (List Int) → (List (List yac)) → Int → Int → Int → (List yai) → Prop) (x22 : Int) (z36 : yaa) (x37 : Int) (x38 : List Int) (x39 : List (List yac)) (x40 x41 x42 : Int) (x43 : Str) (x44 : List yai) : Prop :=
 (x44.length ≤ 1000000000) ∧ X1 (IntKind.i64.wrap (x22 - (1 : Int))) x37 x38 x39 x40 x41 x42 (x44 ++ ([(⟨(yaa.mk z36.Kind z36.Op (⟨z36.V.Kind, z36.V.N, z36.V.S⟩ : yad) z36.Table z36.Name z36.L), x43⟩ : yai)] : List yai))
def yfW (r0 : Int) (r1 : List Int) (r2 : List (List yac)) (r3 r4 r5 z1 : Int) (z8 x73 : Str) (x74 x75 : Bool) (x76 x77 : Str) (x78 x79 x80 x81 : Int) (x82 x83 x84 : Str) (x85 : List yaa) (x86 x87 x88 x89 : Int) (x90 x91 x92 : Str) (x93 z95 : List yaa) (r6 : yaf) (x125 : List yaa) (x126 : Int) (x127 : List Int) (x128 : List (List yac)) (x129 x130 x131 : Int) (x132 : List yai) (x133 : List yaa) : Prop :=
 x126 = r0 ∧ x127 = r1 ∧ x128 = r2 ∧ x129 = r3 ∧ x130 = r4 ∧ x131 = r5 ∧ (⟨z1 == (0 : Int), x132, z8, x73, x74, x75, x76, x77, (⟨(yaa.mk x78 x79 (⟨x80, x81, x82⟩ : yad) x83 x84 x85), (yaa.mk x86 x87 (⟨x88, x89, x90⟩ : yad) x91 x92 x93)⟩ : yaL), z95, x133, x125⟩ : yaf) = r6
def ycg (r0 : Int) (r1 : List Int) (r2 : List (List yac)) (r3 r4 r5 z1 : Int) (z8 x73 : Str) (x74 x75 : Bool) (x76 x77 : Str) (x78 x79 x80 x81 : Int) (x82 x83 x84 : Str) (x85 : List yaa) (x86 x87 x88 x89 : Int) (x90 x91 x92 : Str) (x93 z95 : List yaa) (r6 : yaf) (X5 : Int → Int → (List Int) → (List (List yac)) → Int → Int → Int → (List yai) → (List yaa) → Prop) (x109 x110 : Int) (x111 : List Int) (x112 : List (List yac)) (x113 x114 x115 : Int) (x116 : List yai) (x117 : List yaa) : Prop :=
 cnd (decide ((0 : Int) < x109)) (∃ z118 z119 z120 z121 z122 z123 z124, (ya2 x110 x111 x112 x113 x114 x115 z118 z119 z120 z121 z122 z123 z124) ∧ (x117.length ≤ 1000000000) ∧ X5 (IntKind.i64.wrap (x109 - (1 : Int))) z118 z119 z120 z121 z122 z123 x116 (x117 ++ ([(yaa.mk z124.Kind z124.Op (⟨z124.V.Kind, z124.V.N, z124.V.S⟩ : yad) z124.Table z124.Name z124.L)] : List yaa))) (∀ J6 : (List yaa) → Int → (List Int) → (List (List yac)) → Int → Int → Int → (List yai) → (List yaa) → Prop, (∀ x125 x126 x127 x128 x129 x130 x131 x132 x133, yfW r0 r1 r2 r3 r4 r5 z1 z8 x73 x74 x75 x76 x77 x78 x79 x80 x81 x82 x83 x84 x85 x86 x87 x88 x89 x90 x91 x92 x93 z95 r6 x125 x126 x127 x128 x129 x130 x131 x132 x133 → J6 x125 x126 x127 x128 x129 x130 x131 x132 x133) → cnd (decide ((0 : Int) < (x117.length : Int))) (∃ z134 z135 z136 z137 z138 z139 z140, (yaP x110 x111 x112 x113 x114 x115 z134 z135 z136 z137 z138 z139 z140) ∧ J6 z134 z135 z136 z137 z138 z139 z140 x116 x117) (J6 ([] : List yaa) x110 x111 x112 x113 x114 x115 x116 x117))
def yca (r0 : Int) (r1 : List Int) (r2 : List (List yac)) (r3 r4 r5 z1 : Int) (z8 : Str) (r6 : yaf) (x67 : Int) (x68 : List Int) (x69 : List (List yac)) (x70 x71 x72 : Int) (x73 : Str) (x74 x75 : Bool) (x76 x77 : Str) (x78 x79 x80 x81 : Int) (x82 x83 x84 : Str) (x85 : List yaa) (x86 x87 x88 x89 : Int) (x90 x91 x92 : Str) (x93 : List yaa) (x94 : List yai) : Prop :=
 ∃ z95 z96 z97 z98 z99 z100 z101, (yaP x67 x68 x69 x70 x71 x72 z95 z96 z97 z98 z99 z100 z101) ∧ ∃ z102 z103 z104 z105 z106 z107 z108, (yag (3 : Int) z96 z97 z98 z99 z100 z101 z102 z103 z104 z105 z106 z107 z108) ∧ ∀ X5 : Int → Int → (List Int) → (List (List yac)) → Int → Int → Int → (List yai) → (List yaa) → Prop, (∀ x109 x110 x111 x112 x113 x114 x115 x116 x117, ycg r0 r1 r2 r3 r4 r5 z1 z8 x73 x74 x75 x76 x77 x78 x79 x80 x81 x82 x83 x84 x85 x86 x87 x88 x89 x90 x91 x92 x93 z95 r6 X5 x109 x110 x111 x112 x113 x114 x115 x116 x117 → X5 x109 x110 x111 x112 x113 x114 x115 x116 x117) → X5 z102 z103 z104 z105 z106 z107 z108 x94 ([] : List yaa)
def ydg (J4 : Int → (List Int) → (List (List yac)) → Int → Int → Int → Str → Bool → Bool → Str → Str → Int → Int → Int → Int → Str → Str → Str → (List yaa) → Int → Int → Int → Int → Str → Str → Str → (List yaa) → (List yai) → Prop) (x65 : Str) (z148 : Int) (z155 : Str) (x162 : Int) (x163 : List Int) (x164 : List (List yac)) (x165 x166 x167 : Int) (x168 : Str) (x169 : List yai) : Prop :=
 ∃ z170 z171 z172 z173 z174 z175 z176, (ya2 x162 x163 x164 x165 x166 x167 z170 z171 z172 z173 z174 z175 z176) ∧ ∃ z177 z178 z179 z180 z181 z182 z183, (ya2 z170 z171 z172 z173 z174 z175 z177 z178 z179 z180 z181 z182 z183) ∧ J4 z177 z178 z179 z180 z181 z182 x65 true (z148 == (0 : Int)) z155 x168 z176.Kind z176.Op z176.V.Kind z176.V.N z176.V.S z176.Table z176.Name z176.L z183.Kind z183.Op z183.V.Kind z183.V.N z183.V.S z183.Table z183.Name z183.L x169
def ydc (r0 : Int) (r1 : List Int) (r2 : List (List yac)) (r3 r4 r5 z1 : Int) (z8 : Str) (r6 : yaf) (x59 : Int) (x60 : List Int) (x61 : List (List yac)) (x62 x63 x64 : Int) (x65 : Str) (x66 : List yai) : Prop :=
 ∀ J4 : Int → (List Int) → (List (List yac)) → Int → Int → Int → Str → Bool → Bool → Str → Str → Int → Int → Int → Int → Str → Str → Str → (List yaa) → Int → Int → Int → Int → Str → Str → Str → (List yaa) → (List yai) → Prop, (∀ x67 x68 x69 x70 x71 x72 x73 x74 x75 x76 x77 x78 x79 x80 x81 x82 x83 x84 x85 x86 x87 x88 x89 x90 x91 x92 x93 x94, yca r0 r1 r2 r3 r4 r5 z1 z8 r6 x67 x68 x69 x70 x71 x72 x73 x74 x75 x76 x77 x78 x79 x80 x81 x82 x83 x84 x85 x86 x87 x88 x89 x90 x91 x92 x93 x94 → J4 x67 x68 x69 x70 x71 x72 x73 x74 x75 x76 x77 x78 x79 x80 x81 x82 x83 x84 x85 x86 x87 x88 x89 x90 x91 x92 x93 x94) → ∃ z141 z142 z143 z144 z145 z146 z147, (yag (3 : Int) x59 x60 x61 x62 x63 x64 z141 z142 z143 z144 z145 z146 z147) ∧ cnd (z141 == (0 : Int)) (∃ z148 z149 z150 z151 z152 z153 z154, (yag (2 : Int) z142 z143 z144 z145 z146 z147 z148 z149 z150 z151 z152 z153 z154) ∧ ∃ z155 z156 z157 z158 z159 z160 z161, (yau z149 z150 z151 z152 z153 z154 z155 z156 z157 z158 z159 z160 z161) ∧ ∀ J7 : Int → (List Int) → (List (List yac)) → Int → Int → Int → Str → (List yai) → Prop, (∀ x162 x163 x164 x165 x166 x167 x168 x169, ydg J4 x65 z148 z155 x162 x163 x164 x165 x166 x167 x168 x169 → J7 x162 x163 x164 x165 x166 x167 x168 x169) → ∃ z184 z185 z186 z187 z188 z189 z190, (yag (2 : Int) z156 z157 z158 z159 z160 z161 z184 z185 z186 z187 z188 z189 z190) ∧ cnd (z184 == (0 : Int)) (∃ z191 z192 z193 z194 z195 z196 z197, (yau z185 z186 z187 z188 z189 z190 z191 z192 z193 z194 z195 z196 z197) ∧ J7 z192 z193 z194 z195 z196 z197 z191 x66) (J7 z185 z186 z187 z188 z189 z190 ([] : Str) x66)) (J4 z142 z143 z144 z145 z146 z147 x65 false false ([] : Str) ([] : Str) (0 : Int) (0 : Int) (0 : Int) (0 : Int) ([] : Str) ([] : Str) ([] : Str) ([] : List yaa) (0 : Int) (0 : Int) (0 : Int) (0 : Int) ([] : Str) ([] : Str) ([] : Str) ([] : List yaa) x66)
def ybo (r0 : Int) (r1 : List Int) (r2 : List (List yac)) (r3 r4 r5 z1 : Int) (z8 : Str) (r6 : yaf) (X1 : Int → Int → (List Int) → (List (List yac)) → Int → Int → Int → (List yai) → Prop) (x22 x23 : Int) (x24 : List Int) (x25 : List (List yac)) (x26 x27 x28 : Int) (x29 : List yai) : Prop :=
 cnd (decide ((0 : Int) < x22)) (∃ z30 z31 z32 z33 z34 z35 z36, (yaJ x23 x24 x25 x26 x27 x28 z30 z31 z32 z33 z34 z35 z36) ∧ ∀ J2 : Int → (List Int) → (List (List yac)) → Int → Int → Int → Str → (List yai) → Prop, (∀ x37 x38 x39 x40 x41 x42 x43 x44, yft X1 x22 z36 x37 x38 x39 x40 x41 x42 x43 x44 → J2 x37 x38 x39 x40 x41 x42 x43 x44) → ∃ z45 z46 z47 z48 z49 z50 z51, (yag (2 : Int) z30 z31 z32 z33 z34 z35 z45 z46 z47 z48 z49 z50 z51) ∧ cnd (z45 == (0 : Int)) (∃ z52 z53 z54 z55 z56 z57 z58, (yau z46 z47 z48 z49 z50 z51 z52 z53 z54 z55 z56 z57 z58) ∧ J2 z53 z54 z55 z56 z57 z58 z52 x29) (J2 z46 z47 z48 z49 z50 z51 ([] : Str) x29)) (∀ J3 : Int → (List Int) → (List (List yac)) → Int → Int → Int → Str → (List yai) → Prop, (∀ x59 x60 x61 x62 x63 x64 x65 x66, ydc r0 r1 r2 r3 r4 r5 z1 z8 r6 x59 x60 x61 x62 x63 x64 x65 x66 → J3 x59 x60 x61 x62 x63 x64 x65 x66) → ∃ z198 z199 z200 z201 z202 z203 z204, (yag (2 : Int) x23 x24 x25 x26 x27 x28 z198 z199 z200 z201 z202 z203 z204) ∧ cnd (z198 == (0 : Int)) (∃ z205 z206 z207 z208 z209 z210 z211, (yau z199 z200 z201 z202 z203 z204 z205 z206 z207 z208 z209 z210 z211) ∧ J3 z206 z207 z208 z209 z210 z211 z205 x29) (J3 z199 z200 z201 z202 z203 z204 ([] : Str) x29))
def ybD (a0 : Int) (a1 : List Int) (a2 : List (List yac)) (a3 a4 a5 r0 : Int) (r1 : List Int) (r2 : List (List yac)) (r3 r4 r5 : Int) (r6 : yaf) : Prop :=
 ∃ z1 z2 z3 z4 z5 z6 z7, (yag (3 : Int) a0 a1 a2 a3 a4 a5 z1 z2 z3 z4 z5 z6 z7) ∧ ∃ z8 z9 z10 z11 z12 z13 z14, (yau z2 z3 z4 z5 z6 z7 z8 z9 z10 z11 z12 z13 z14) ∧ ∃ z15 z16 z17 z18 z19 z20 z21, (yag (4 : Int) z9 z10 z11 z12 z13 z14 z15 z16 z17 z18 z19 z20 z21) ∧ ∀ X1 : Int → Int → (List Int) → (List (List yac)) → Int → Int → Int → (List yai) → Prop, (∀ x22 x23 x24 x25 x26 x27 x28 x29, ybo r0 r1 r2 r3 r4 r5 z1 z8 r6 X1 x22 x23 x24 x25 x26 x27 x28 x29 → X1 x22 x23 x24 x25 x26 x27 x28 x29) → X1 z15 z16 z17 z18 z19 z20 z21 ([] : List yai)
def ybm : Sl KK := ⟨16, [], ⟨[(0, .px 2000000 0)], [(2000000, 62, [.it .u8, .sl 5, .sl 113, .it .i64, .it .i64, .it .i64])], []⟩, ⟨[(2, .px 1000000 0)], [(2000000, 62, [.it .u8, .sl 5, .sl 113, .it .i64, .it .i64, .it .i64]), (1000000, 76, [.v 76])], []⟩, [], [(2, some 27)], true, fun _ _ _ => True⟩
def ybt : Sl KK := ⟨16, [], ⟨[(0, .px 2000000 0)], [(2000000, 62, [.it .u8, .sl 5, .sl 113, .it .i64, .it .i64, .it .i64])], []⟩, ⟨[(2, .px 1000000 0)], [(2000000, 62, [.it .u8, .sl 5, .sl 113, .it .i64, .it .i64, .it .i64]), (1000000, 76, [.v 76])], []⟩, [], [(2, some 27)], true, apFs (K := KK) (ctT ybm.ti) (ctT ybm.te) [] ybD⟩
def yf7 : An KK := (.s .o (.s .o (.s (.s .o (.b (.l ⟨[(0, .px 2000000 0), (2, .px 2 0), (3, .px 3 0), (4, .it .i64)], [(2000000, 62, [.it .u8, .sl 5, .sl 113, .it .i64, .it .i64, .it .i64]), (2, 76, (kps 121 27)), (3, 76, [.kp 148, .row 32, .kp 150, .kp 151, .kp 152, .kp 153, .kp 154, .kp 155, .kp 156, .kp 157, .kp 158, .kp 159, .kp 160, .kp 161, .kp 162, .kp 163, .kp 164, .kp 165, .kp 166, .kp 167, .kp 168, .kp 169, .kp 170, .kp 171, .kp 172, .kp 173, .kp 174])], [(32, 118)]⟩ (fun _ => (.s (.s .o (.c .o .o)) (.s (.b (.s .o (.j ⟨[(0, .px 2000000 0), (2, .px 2 0), (3, .px 3 0), (4, .kp 218), (5, .px 5 0)], [(2000000, 62, [.it .u8, .sl 5, .sl 113, .it .i64, .it .i64, .it .i64]), (2, 76, (kps 121 27)), (3, 76, [.kp 148, .row 32, .kp 150, .kp 151, .kp 152, .kp 153, .kp 154, .kp 155, .kp 156, .kp 157, .kp 158, .kp 159, .kp 160, .kp 161, .kp 162, .kp 163, .kp 164, .kp 165, .kp 166, .kp 167, .kp 168, .kp 169, .kp 170, .kp 171, .kp 172, .kp 173, .kp 174]), (5, 118, [.kp 219, .kp 220, .kp 221, .kp 222, .kp 223, .kp 224, .kp 225, .kp 226, .st])], [(32, 118)]⟩ (.s .o (.c .o .o)) (fun _ => .o)))) .o)))))) (.j ⟨[(0, .px 2000000 0), (2, .px 2 0), (3, .px 3 0)], [(2000000, 62, [.it .u8, .sl 5, .sl 113, .it .i64, .it .i64, .it .i64]), (2, 76, (kps 121 27)), (3, 76, [.kp 148, .row 32, .kp 150, .st, .kp 152, .kp 153, .kp 154, .kp 155, .kp 156, .kp 157, .kp 158, .kp 159, .kp 160, .kp 161, .kp 162, .kp 163, .kp 164, .kp 165, .kp 166, .kp 167, .kp 168, .kp 169, .kp 170, .kp 171, .kp 172, .kp 173, .kp 174])], [(32, 118)]⟩ (.s .o (.c .o .o)) (fun _ => (.j ⟨[(0, .px 2000000 0), (2, .px 2 0), (3, .px 3 0)], [(2000000, 62, [.it .u8, .sl 5, .sl 113, .it .i64, .it .i64, .it .i64]), (2, 76, (kps 121 27)), (3, 76, [.kp 148, .row 32, .kp 150, .st, .bl, .bl, .st, .st, .it .i64, .it .i64, .it .i64, .it .i64, .st, .st, .st, .sl 68, .it .i64, .it .i64, .it .i64, .it .i64, .st, .st, .st, .sl 68, .kp 172, .kp 173, .kp 174])], [(32, 118)]⟩ (.s .o (.c (.s .o (.j ⟨[(0, .px 2000000 0), (2, .px 2 0), (3, .px 3 0)], [(2000000, 62, [.it .u8, .sl 5, .sl 113, .it .i64, .it .i64, .it .i64]), (2, 76, (kps 121 27)), (3, 76, [.kp 148, .row 32, .kp 150, .kp 293, .kp 294, .kp 295, .kp 296, .st, .kp 156, .kp 157, .kp 158, .kp 159, .kp 160, .kp 161, .kp 162, .kp 163, .kp 164, .kp 165, .kp 166, .kp 167, .kp 168, .kp 169, .kp 170, .kp 171, .kp 172, .kp 173, .kp 174])], [(32, 118)]⟩ (.s .o (.c .o .o)) (fun _ => .o))) .o)) (fun _ => (.s .o (.s (.s .o (.b (.l ⟨[(0, .px 2000000 0), (2, .px 2 0), (3, .px 3 0), (6, .it .i64)], [(2000000, 62, [.it .u8, .sl 5, .sl 113, .it .i64, .it .i64, .it .i64]), (2, 76, (kps 121 27)), (3, 76, [.kp 148, .row 32, .kp 150, .kp 271, .kp 272, .kp 273, .kp 274, .kp 275, .kp 276, .kp 277, .kp 278, .kp 279, .kp 280, .kp 281, .kp 282, .kp 283, .kp 284, .kp 285, .kp 286, .kp 287, .kp 288, .kp 289, .kp 290, .kp 291, .kp 292, .row 77, .kp 174])], [(32, 118), (77, 68)]⟩ (fun _ => (.s (.s .o (.c .o .o)) (.s (.b .o) .o)))))) (.j ⟨[(2, .px 2 0), (3, .px 3 0)], [(2, 76, (kps 121 27)), (3, 76, [.kp 148, .row 32, .kp 150, .kp 271, .kp 272, .kp 273, .kp 274, .kp 275, .kp 276, .kp 277, .kp 278, .kp 279, .kp 280, .kp 281, .kp 282, .kp 283, .kp 284, .kp 285, .kp 286, .kp 287, .kp 288, .kp 289, .kp 290, .kp 291, .kp 292, .row 77, .sl 68]), (2000000, 62, [.it .u8, .sl 5, .sl 113, .it .i64, .it .i64, .it .i64])], [(32, 118), (77, 68)]⟩ (.s .o (.c .o .o)) (fun _ => (.s .o .o))))))))))))
def yf3 : Cf KK := ⟨CC, [], [yaD, yaT, yaS, ybH, ya1], 87⟩
theorem yfy : SlOk Tryz.prog CC ybt := by
 intro fs env out hl hF hW
 obtain ⟨rfl, h0⟩ := ymR hW
 obtain ⟨a0, ea0, rfl, h1⟩ := ybc h0
 obtain ⟨a1, ea1, rfl, h2⟩ := ybc h1
 obtain ⟨a2, ea2, rfl, h3⟩ := ybc h2
 obtain ⟨a3, ea3, rfl, h4⟩ := ybc h3
 obtain ⟨a4, ea4, rfl, h5⟩ := ybc h4
 obtain ⟨a5, ea5, rfl, h6⟩ := ybc h5
 obtain ⟨rfl, h7⟩ := ymK h6
 obtain ⟨r0, er0, rfl, h8⟩ := yaI h7
 obtain ⟨r1, er1, rfl, h9⟩ := yaI h8
 obtain ⟨r2, er2, rfl, h10⟩ := yaI h9
 obtain ⟨r3, er3, rfl, h11⟩ := yaI h10
 obtain ⟨r4, er4, rfl, h12⟩ := yaI h11
 obtain ⟨r5, er5, rfl, h13⟩ := yaI h12
 obtain ⟨r6, er6, rfl, h14⟩ := yaI h13
 obtain ⟨rfl, h15⟩ := yjT h14
 show SlC Tryz.prog CC ybt [] [.i a0, .l 5 a1, .l 113 a2, .i a3, .i a4, .i a5] [.i r0, .l 5 r1, .l 113 r2, .i r3, .i r4, .i r5, .v 76 r6]
 rw [show SlC Tryz.prog CC ybt [] [.i a0, .l 5 a1, .l 113 a2, .i a3, .i a4, .i a5] [.i r0, .l 5 r1, .l 113 r2, .i r3, .i r4, .i r5, .v 76 r6] = SlC Tryz.prog CC ybm [] [.i a0, .l 5 a1, .l 113 a2, .i a3, .i a4, .i a5] [.i r0, .l 5 r1, .l 113 r2, .i r3, .i r4, .i r5, .v 76 r6] by kernel_rfl]
 exact ymN (F := yf3) yaU yaA (yen yaY (yen ycf (yen ycc (yen ygj (yen ycW yaB))))) t16 (A := yf7) (sp := ybm) rfl (by kernel_rfl) (by kernel_rfl) (Nat.le_of_ble_eq_true (by kernel_rfl)) (fs := []) (env := [.i a0, .l 5 a1, .l 113 a2, .i a3, .i a4, .i a5]) (out := [.i r0, .l 5 r1, .l 113 r2, .i r3, .i r4, .i r5, .v 76 r6]) (by kernel_rfl) hF (X := ybD a0 a1 a2 a3 a4 a5 r0 r1 r2 r3 r4 r5 r6) h15 (by kernel_rfl)
def yiR (a0 : yaE) (r0 : yas) (x8 : Str) (x9 : List yaa) (x10 : Int) (x11 : List yah) (x12 : List (List yaa)) (x13 : List yaq) (x14 : List yaf) (x15 : List yaj) (x16 : List Int) : Prop :=
 (⟨IntKind.i64.wrap ((1 : Int) + (IntKind.i64.wrap (a0.Kind.tmod (10 : Int)))), x8, x11, x12, x13, x9, (⟨x14, x15, x16⟩ : yav), x10⟩ : yas) = r0
def yfS (J2 : Str → (List yaa) → Int → (List yah) → (List (List yaa)) → (List yaq) → (List yaf) → (List yaj) → (List Int) → Prop) (x7 : Str) (X3 : Int → Int → (List Int) → (List (List yac)) → Int → Int → Int → (List yah) → Prop) (x24 x25 : Int) (x26 : List Int) (x27 : List (List yac)) (x28 x29 x30 : Int) (x31 : List yah) : Prop :=
 cnd (decide ((0 : Int) < x24)) (∃ z32 z33 z34 z35 z36 z37 z38, (yau x25 x26 x27 x28 x29 x30 z32 z33 z34 z35 z36 z37 z38) ∧ ∃ z39 z40 z41 z42 z43 z44 z45, (yag (3 : Int) z33 z34 z35 z36 z37 z38 z39 z40 z41 z42 z43 z44 z45) ∧ ∃ z46 z47 z48 z49 z50 z51 z52, (yag (3 : Int) z40 z41 z42 z43 z44 z45 z46 z47 z48 z49 z50 z51 z52) ∧ (x31.length ≤ 1000000000) ∧ X3 (IntKind.i64.wrap (x24 - (1 : Int))) z47 z48 z49 z50 z51 z52 (x31 ++ ([(⟨z32, IntKind.i64.wrap ((1 : Int) + z39), z46 == (0 : Int)⟩ : yah)] : List yah))) (J2 x7 ([] : List yaa) (0 : Int) x31 ([] : List (List yaa)) ([] : List yaq) ([] : List yaf) ([] : List yaj) ([] : List Int))
def yfp (X4 : Int → Int → (List Int) → (List (List yac)) → Int → Int → Int → (List (List yaa)) → Prop) (x60 : Int) (X5 : Int → Int → (List Int) → (List (List yac)) → Int → Int → Int → (List yaa) → (List (List yaa)) → Prop) (x75 x76 : Int) (x77 : List Int) (x78 : List (List yac)) (x79 x80 x81 : Int) (x82 : List yaa) (x83 : List (List yaa)) : Prop :=
 cnd (decide ((0 : Int) < x75)) (∃ z84 z85 z86 z87 z88 z89 z90, (yaJ x76 x77 x78 x79 x80 x81 z84 z85 z86 z87 z88 z89 z90) ∧ (x82.length ≤ 1000000000) ∧ X5 (IntKind.i64.wrap (x75 - (1 : Int))) z84 z85 z86 z87 z88 z89 (x82 ++ ([(yaa.mk z90.Kind z90.Op (⟨z90.V.Kind, z90.V.N, z90.V.S⟩ : yad) z90.Table z90.Name z90.L)] : List yaa)) x83) ((x83.length ≤ 1000000000) ∧ X4 (IntKind.i64.wrap (x60 - (1 : Int))) x76 x77 x78 x79 x80 x81 (x83 ++ ([x82] : List (List yaa))))
def yfr (J2 : Str → (List yaa) → Int → (List yah) → (List (List yaa)) → (List yaq) → (List yaf) → (List yaj) → (List Int) → Prop) (x7 : Str) (X4 : Int → Int → (List Int) → (List (List yac)) → Int → Int → Int → (List (List yaa)) → Prop) (x60 x61 : Int) (x62 : List Int) (x63 : List (List yac)) (x64 x65 x66 : Int) (x67 : List (List yaa)) : Prop :=
 cnd (decide ((0 : Int) < x60)) (∃ z68 z69 z70 z71 z72 z73 z74, (yag (3 : Int) x61 x62 x63 x64 x65 x66 z68 z69 z70 z71 z72 z73 z74) ∧ ∀ X5 : Int → Int → (List Int) → (List (List yac)) → Int → Int → Int → (List yaa) → (List (List yaa)) → Prop, (∀ x75 x76 x77 x78 x79 x80 x81 x82 x83, yfp X4 x60 X5 x75 x76 x77 x78 x79 x80 x81 x82 x83 → X5 x75 x76 x77 x78 x79 x80 x81 x82 x83) → X5 (IntKind.i64.wrap ((1 : Int) + z68)) z69 z70 z71 z72 z73 z74 ([] : List yaa) x67) (J2 x7 ([] : List yaa) (0 : Int) ([] : List yah) x67 ([] : List yaq) ([] : List yaf) ([] : List yaj) ([] : List Int))
def yfz (J2 : Str → (List yaa) → Int → (List yah) → (List (List yaa)) → (List yaq) → (List yaf) → (List yaj) → (List Int) → Prop) (x7 : Str) (X6 : Int → Int → (List Int) → (List (List yac)) → Int → Int → Int → (List yaq) → Prop) (x105 x106 : Int) (x107 : List Int) (x108 : List (List yac)) (x109 x110 x111 : Int) (x112 : List yaq) : Prop :=
 cnd (decide ((0 : Int) < x105)) (∃ z113 z114 z115 z116 z117 z118 z119, (yau x106 x107 x108 x109 x110 x111 z113 z114 z115 z116 z117 z118 z119) ∧ ∃ z120 z121 z122 z123 z124 z125 z126, (yaJ z114 z115 z116 z117 z118 z119 z120 z121 z122 z123 z124 z125 z126) ∧ (x112.length ≤ 1000000000) ∧ X6 (IntKind.i64.wrap (x105 - (1 : Int))) z120 z121 z122 z123 z124 z125 (x112 ++ ([(⟨z113, (yaa.mk z126.Kind z126.Op (⟨z126.V.Kind, z126.V.N, z126.V.S⟩ : yad) z126.Table z126.Name z126.L)⟩ : yaq)] : List yaq))) (∃ z127 z128 z129 z130 z131 z132 z133, (yaP x106 x107 x108 x109 x110 x111 z127 z128 z129 z130 z131 z132 z133) ∧ J2 x7 z127 (0 : Int) ([] : List yah) ([] : List (List yaa)) x112 ([] : List yaf) ([] : List yaj) ([] : List Int))
def yfv (J2 : Str → (List yaa) → Int → (List yah) → (List (List yaa)) → (List yaq) → (List yaf) → (List yaj) → (List Int) → Prop) (x7 : Str) (a0 : yaE) (X9 : Int → Int → (List Int) → (List (List yac)) → Int → Int → Int → (List yaf) → (List yaj) → Prop) (x164 x165 : Int) (x166 : List Int) (x167 : List (List yac)) (x168 x169 x170 : Int) (x171 : List yaf) (x172 : List yaj) : Prop :=
 cnd (decide ((0 : Int) < x164)) (∃ z173 z174 z175 z176 z177 z178 z179, (yau x165 x166 x167 x168 x169 x170 z173 z174 z175 z176 z177 z178 z179) ∧ ∃ z180 z181 z182 z183 z184 z185 z186, (yag (2 : Int) z174 z175 z176 z177 z178 z179 z180 z181 z182 z183 z184 z185 z186) ∧ (x172.length ≤ 1000000000) ∧ X9 (IntKind.i64.wrap (x164 - (1 : Int))) z181 z182 z183 z184 z185 z186 x171 (x172 ++ ([(⟨z173, z180 == (0 : Int)⟩ : yaj)] : List yaj))) (∃ z187 z188 z189 z190 z191 z192 z193, (yag (2 : Int) x165 x166 x167 x168 x169 x170 z187 z188 z189 z190 z191 z192 z193) ∧ cnd (z187 == (0 : Int)) (J2 x7 ([] : List yaa) (0 : Int) ([] : List yah) ([] : List (List yaa)) ([] : List yaq) x171 x172 ([bits .and .i64 a0.N (1023 : Int)] : List Int)) (J2 x7 ([] : List yaa) (0 : Int) ([] : List yah) ([] : List (List yaa)) ([] : List yaq) x171 x172 ([] : List Int)))
def yfD (x1 : Int) (J2 : Str → (List yaa) → Int → (List yah) → (List (List yaa)) → (List yaq) → (List yaf) → (List yaj) → (List Int) → Prop) (x7 : Str) (a0 : yaE) (X8 : Int → Int → (List Int) → (List (List yac)) → Int → Int → Int → (List yaf) → Prop) (x142 x143 : Int) (x144 : List Int) (x145 : List (List yac)) (x146 x147 x148 : Int) (x149 : List yaf) : Prop :=
 cnd (decide ((0 : Int) < x142)) (∃ z150 z151 z152 z153 z154 z155 z156, (ybD x143 x144 x145 x146 x147 x148 z150 z151 z152 z153 z154 z155 z156) ∧ (x149.length ≤ 1000000000) ∧ X8 (IntKind.i64.wrap (x142 - (1 : Int))) z150 z151 z152 z153 z154 z155 (x149 ++ ([(⟨z156.Distinct, z156.Items, z156.From, z156.Alias, z156.Join, z156.Left, z156.Other, z156.Named, (⟨(yaa.mk z156.On.x0.Kind z156.On.x0.Op (⟨z156.On.x0.V.Kind, z156.On.x0.V.N, z156.On.x0.V.S⟩ : yad) z156.On.x0.Table z156.On.x0.Name z156.On.x0.L), (yaa.mk z156.On.x1.Kind z156.On.x1.Op (⟨z156.On.x1.V.Kind, z156.On.x1.V.N, z156.On.x1.V.S⟩ : yad) z156.On.x1.Table z156.On.x1.Name z156.On.x1.L)⟩ : yaL), z156.Where, z156.Group, z156.Having⟩ : yaf)] : List yaf))) (∃ z157 z158 z159 z160 z161 z162 z163, (yag (3 : Int) x143 x144 x145 x146 x147 x148 z157 z158 z159 z160 z161 z162 z163) ∧ ∀ X9 : Int → Int → (List Int) → (List (List yac)) → Int → Int → Int → (List yaf) → (List yaj) → Prop, (∀ x164 x165 x166 x167 x168 x169 x170 x171 x172, yfv J2 x7 a0 X9 x164 x165 x166 x167 x168 x169 x170 x171 x172 → X9 x164 x165 x166 x167 x168 x169 x170 x171 x172) → X9 z157 z158 z159 z160 z161 z162 z163 x149 ([] : List yaj))
def yol (x1 : Int) (x2 : List Int) (x3 : List (List yac)) (x4 x5 x6 : Int) (J2 : Str → (List yaa) → Int → (List yah) → (List (List yaa)) → (List yaq) → (List yaf) → (List yaj) → (List Int) → Prop) (x7 : Str) (a0 : yaE) (x134 : Bool) : Prop :=
 cnd x134 (∃ z135 z136 z137 z138 z139 z140 z141, (yag (2 : Int) x1 x2 x3 x4 x5 x6 z135 z136 z137 z138 z139 z140 z141) ∧ ∀ X8 : Int → Int → (List Int) → (List (List yac)) → Int → Int → Int → (List yaf) → Prop, (∀ x142 x143 x144 x145 x146 x147 x148 x149, yfD x1 J2 x7 a0 X8 x142 x143 x144 x145 x146 x147 x148 x149 → X8 x142 x143 x144 x145 x146 x147 x148 x149) → X8 (IntKind.i64.wrap ((1 : Int) + z135)) z136 z137 z138 z139 z140 z141 ([] : List yaf)) (cnd ((IntKind.i64.wrap ((1 : Int) + (IntKind.i64.wrap (a0.Kind.tmod (10 : Int))))) == (10 : Int)) (J2 x7 ([] : List yaa) (bits .and .i64 a0.N (65535 : Int)) ([] : List yah) ([] : List (List yaa)) ([] : List yaq) ([] : List yaf) ([] : List yaj) ([] : List Int)) (J2 x7 ([] : List yaa) (0 : Int) ([] : List yah) ([] : List (List yaa)) ([] : List yaq) ([] : List yaf) ([] : List yaj) ([] : List Int)))
def yfE (a0 : yaE) (r0 : yas) (x1 : Int) (x2 : List Int) (x3 : List (List yac)) (x4 x5 x6 : Int) (x7 : Str) : Prop :=
 ∀ J2 : Str → (List yaa) → Int → (List yah) → (List (List yaa)) → (List yaq) → (List yaf) → (List yaj) → (List Int) → Prop, (∀ x8 x9 x10 x11 x12 x13 x14 x15 x16, yiR a0 r0 x8 x9 x10 x11 x12 x13 x14 x15 x16 → J2 x8 x9 x10 x11 x12 x13 x14 x15 x16) → cnd ((IntKind.i64.wrap ((1 : Int) + (IntKind.i64.wrap (a0.Kind.tmod (10 : Int))))) == (1 : Int)) (∃ z17 z18 z19 z20 z21 z22 z23, (yag (4 : Int) x1 x2 x3 x4 x5 x6 z17 z18 z19 z20 z21 z22 z23) ∧ ∀ X3 : Int → Int → (List Int) → (List (List yac)) → Int → Int → Int → (List yah) → Prop, (∀ x24 x25 x26 x27 x28 x29 x30 x31, yfS J2 x7 X3 x24 x25 x26 x27 x28 x29 x30 x31 → X3 x24 x25 x26 x27 x28 x29 x30 x31) → X3 (IntKind.i64.wrap ((1 : Int) + z17)) z18 z19 z20 z21 z22 z23 ([] : List yah)) (cnd ((IntKind.i64.wrap ((1 : Int) + (IntKind.i64.wrap (a0.Kind.tmod (10 : Int))))) == (3 : Int)) (∃ z53 z54 z55 z56 z57 z58 z59, (yag (3 : Int) x1 x2 x3 x4 x5 x6 z53 z54 z55 z56 z57 z58 z59) ∧ ∀ X4 : Int → Int → (List Int) → (List (List yac)) → Int → Int → Int → (List (List yaa)) → Prop, (∀ x60 x61 x62 x63 x64 x65 x66 x67, yfr J2 x7 X4 x60 x61 x62 x63 x64 x65 x66 x67 → X4 x60 x61 x62 x63 x64 x65 x66 x67) → X4 (IntKind.i64.wrap ((1 : Int) + z53)) z54 z55 z56 z57 z58 z59 ([] : List (List yaa))) (cnd ((IntKind.i64.wrap ((1 : Int) + (IntKind.i64.wrap (a0.Kind.tmod (10 : Int))))) == (4 : Int)) (∃ z91 z92 z93 z94 z95 z96 z97, (yaP x1 x2 x3 x4 x5 x6 z91 z92 z93 z94 z95 z96 z97) ∧ J2 x7 z91 (0 : Int) ([] : List yah) ([] : List (List yaa)) ([] : List yaq) ([] : List yaf) ([] : List yaj) ([] : List Int)) (cnd ((IntKind.i64.wrap ((1 : Int) + (IntKind.i64.wrap (a0.Kind.tmod (10 : Int))))) == (5 : Int)) (∃ z98 z99 z100 z101 z102 z103 z104, (yag (3 : Int) x1 x2 x3 x4 x5 x6 z98 z99 z100 z101 z102 z103 z104) ∧ ∀ X6 : Int → Int → (List Int) → (List (List yac)) → Int → Int → Int → (List yaq) → Prop, (∀ x105 x106 x107 x108 x109 x110 x111 x112, yfz J2 x7 X6 x105 x106 x107 x108 x109 x110 x111 x112 → X6 x105 x106 x107 x108 x109 x110 x111 x112) → X6 (IntKind.i64.wrap ((1 : Int) + z98)) z99 z100 z101 z102 z103 z104 ([] : List yaq)) (∀ J7 : Bool → Prop, (∀ x134, yol x1 x2 x3 x4 x5 x6 J2 x7 a0 x134 → J7 x134) → cnd ((IntKind.i64.wrap ((1 : Int) + (IntKind.i64.wrap (a0.Kind.tmod (10 : Int))))) == (6 : Int)) (J7 ((IntKind.i64.wrap ((1 : Int) + (IntKind.i64.wrap (a0.Kind.tmod (10 : Int))))) == (6 : Int))) (J7 ((IntKind.i64.wrap ((1 : Int) + (IntKind.i64.wrap (a0.Kind.tmod (10 : Int))))) == (8 : Int)))))))
def ymg (a0 : yaE) (J1 : Int → (List Int) → (List (List yac)) → Int → Int → Int → Str → Prop) (x194 : Bool) : Prop :=
 cnd x194 (∃ z195 z196 z197 z198 z199 z200 z201, (yau a0.Kind a0.Numbers a0.Exprs a0.N (0 : Int) (0 : Int) z195 z196 z197 z198 z199 z200 z201) ∧ J1 z196 z197 z198 z199 z200 z201 z195) (J1 a0.Kind a0.Numbers a0.Exprs a0.N (0 : Int) (0 : Int) ([] : Str))
def yez (a0 : yaE) (r0 : yas) : Prop :=
 ∀ J1 : Int → (List Int) → (List (List yac)) → Int → Int → Int → Str → Prop, (∀ x1 x2 x3 x4 x5 x6 x7, yfE a0 r0 x1 x2 x3 x4 x5 x6 x7 → J1 x1 x2 x3 x4 x5 x6 x7) → ∀ J10 : Bool → Prop, (∀ x194, ymg a0 J1 x194 → J10 x194) → cnd (!((IntKind.i64.wrap ((1 : Int) + (IntKind.i64.wrap (a0.Kind.tmod (10 : Int))))) == (8 : Int))) (J10 (!((IntKind.i64.wrap ((1 : Int) + (IntKind.i64.wrap (a0.Kind.tmod (10 : Int))))) == (10 : Int)))) (J10 false)
def yiZ : Sp KK := ⟨5, [.v 25], [37], appW (K := KK) [37] [.v 25] yez⟩
def ynX : An KK := (.s .o (.s .o (.s .o (.j ⟨[(1, .px 1 0), (2, .px 2 0), (3, .px 14 0), (4, .px 4 0)], [(1, 25, [.kp 1, .kp 2, .kp 3, .kp 4]), (2, 37, (kps 5 10)), (14, 62, [.it .u8, .sl 5, .sl 113, .it .i64, .it .i64, .it .i64]), (4, 37, [.kp 21, .st, .kp 23, .kp 24, .kp 25, .kp 26, .kp 27, .kp 28, .kp 29, .kp 30])], []⟩ (.j ⟨[(1, .px 1 0), (2, .px 2 0), (3, .px 14 0), (4, .px 4 0), (28, .bl)], [(1, 25, [.kp 1, .kp 2, .kp 3, .kp 4]), (2, 37, (kps 5 10)), (14, 62, (kps 551 6)), (4, 37, [.kp 21, .kp 557, .kp 23, .kp 24, .kp 25, .kp 26, .kp 27, .kp 28, .kp 29, .kp 30])], []⟩ .o (fun _ => (.c .o .o))) (fun _ => (.j ⟨[(2, .px 2 0), (4, .px 4 0)], [(2, 37, (kps 5 10)), (4, 37, [.kp 21, .st, .row 55, .row 82, .row 106, .sl 68, .row 127, .row 146, .row 155, .it .i64])], [(55, 65), (82, 30), (106, 72), (127, 76), (146, 79), (155, 2)]⟩ (.s .o (.b (.s .o (.c (.s .o (.b (.l ⟨[(2, .px 2 0), (3, .px 14 0), (4, .px 4 0), (5, .it .i64)], [(2, 37, (kps 5 10)), (14, 62, [.it .u8, .sl 5, .sl 113, .it .i64, .it .i64, .it .i64]), (4, 37, [.kp 21, .kp 387, .row 55, .kp 24, .kp 25, .kp 26, .kp 27, .kp 28, .kp 29, .kp 30])], [(55, 65)]⟩ (fun _ => (.s (.s .o (.c .o .o)) (.s (.b .o) .o)))))) (.s .o (.c (.s .o (.b (.l ⟨[(2, .px 2 0), (3, .px 14 0), (4, .px 4 0), (6, .it .i64)], [(2, 37, (kps 5 10)), (14, 62, [.it .u8, .sl 5, .sl 113, .it .i64, .it .i64, .it .i64]), (4, 37, [.kp 21, .kp 395, .kp 23, .row 82, .kp 25, .kp 26, .kp 27, .kp 28, .kp 29, .kp 30])], [(82, 30)]⟩ (fun _ => (.s (.s .o (.c .o .o)) (.s (.b (.s .o (.s (.s .o (.b (.l ⟨[(2, .px 2 0), (3, .px 14 0), (4, .px 4 0), (6, .kp 491), (7, .row 77), (8, .it .i64)], [(2, 37, (kps 5 10)), (14, 62, [.it .u8, .sl 5, .sl 113, .it .i64, .it .i64, .it .i64]), (4, 37, [.kp 21, .kp 395, .kp 23, .row 82, .kp 25, .kp 26, .kp 27, .kp 28, .kp 29, .kp 30])], [(77, 68), (82, 30)]⟩ (fun _ => (.s (.s .o (.c .o .o)) (.s (.b .o) .o)))))) .o))) .o)))))) (.s .o (.c .o (.s .o (.c (.s (.s .o (.b (.l ⟨[(2, .px 2 0), (3, .px 14 0), (4, .px 4 0), (9, .it .i64)], [(2, 37, (kps 5 10)), (14, 62, [.it .u8, .sl 5, .sl 113, .it .i64, .it .i64, .it .i64]), (4, 37, [.kp 21, .kp 515, .kp 23, .kp 24, .row 106, .kp 26, .kp 27, .kp 28, .kp 29, .kp 30])], [(106, 72)]⟩ (fun _ => (.s (.s .o (.c .o .o)) (.s (.b .o) .o)))))) .o) (.j ⟨[(1, .px 1 0), (2, .px 2 0), (3, .px 14 0), (4, .px 4 0), (33, .kp 21), (111, .bl)], [(1, 25, [.kp 1, .kp 2, .kp 3, .kp 4]), (2, 37, (kps 5 10)), (14, 62, (kps 516 6)), (4, 37, [.kp 21, .kp 522, .kp 23, .kp 24, .kp 25, .kp 26, .kp 27, .kp 28, .kp 29, .kp 30])], []⟩ (.s .o (.c .o .o)) (fun _ => (.c (.s (.s .o (.b (.l ⟨[(1, .px 1 0), (2, .px 2 0), (3, .px 14 0), (4, .px 4 0), (10, .it .i64)], [(1, 25, [.kp 1, .kp 2, .kp 3, .kp 4]), (2, 37, (kps 5 10)), (14, 62, [.it .u8, .sl 5, .sl 113, .it .i64, .it .i64, .it .i64]), (4, 37, [.kp 21, .kp 522, .kp 23, .kp 24, .kp 25, .kp 26, .row 127, .kp 28, .kp 29, .kp 30])], [(127, 76)]⟩ (fun _ => (.s (.s .o (.c .o .o)) (.s (.b .o) .o)))))) (.s (.s .o (.b (.l ⟨[(1, .px 1 0), (2, .px 2 0), (3, .px 14 0), (4, .px 4 0), (11, .it .i64)], [(1, 25, [.kp 1, .kp 2, .kp 3, .kp 4]), (2, 37, (kps 5 10)), (14, 62, [.it .u8, .sl 5, .sl 113, .it .i64, .it .i64, .it .i64]), (4, 37, [.kp 21, .kp 522, .kp 23, .kp 24, .kp 25, .kp 26, .row 127, .row 146, .kp 29, .kp 30])], [(127, 76), (146, 79)]⟩ (fun _ => (.s (.s .o (.c .o .o)) (.s (.b .o) .o)))))) (.s .o (.c .o .o)))) (.s .o (.c .o .o))))))))))))))) (fun _ => (.s .o .o))))))))
def yn7 : Cf KK := ⟨CC, [], [yaT, yaD, yaS, ya1, ybt], 165⟩
theorem ym8 : SpOk Tryz.prog CC yiZ := yaz (F := yn7) (ps := [.v 25]) (rs := [37]) (w := yez) yaU yaA (yen ycf (yen yaY (yen ycc (yen ycW (yen yfy yaB))))) t5 (A := ynX) (by kernel_rfl) (by kernel_rfl) fun a0 r0 => show _ = _ by kernel_rfl
def ynQ (a0 : yaa) (Xr : yaa → yab → Prop) (r0 : yab) (X1 : Int → (List yab) → Prop) (x1 : Int) (x2 : List yab) : Prop :=
 (a0.L.length ≤ maxLen → cnd (decide (x1 < (a0.L.length : Int))) ((0 ≤ x1) ∧ (x1 < (a0.L.length : Int)) ∧ ∃ y3 : yaa, (a0.L[x1.toNat]? = some y3) ∧ ∃ z4, (Xr (yaa.mk y3.Kind y3.Op (⟨y3.V.Kind, y3.V.N, y3.V.S⟩ : yad) y3.Table y3.Name y3.L) z4) ∧ (x2.length ≤ 1000000000) ∧ X1 (IntKind.i64.wrap (x1 + (1 : Int))) (x2 ++ ([(yab.mk z4.Kind z4.Op (⟨z4.V.Kind, z4.V.N, z4.V.S⟩ : yae) z4.Table z4.Name z4.L)] : List yab))) ((yab.mk a0.Kind a0.Op (⟨a0.V.Kind, a0.V.N, a0.V.S⟩ : yae) a0.Table a0.Name x2) = r0))
def ygK (Xr : yaa → yab → Prop) (a0 : yaa) (r0 : yab) : Prop :=
 ∀ X1 : Int → (List yab) → Prop, (∀ x1 x2, ynQ a0 Xr r0 X1 x1 x2 → X1 x1 x2) → X1 (0 : Int) ([] : List yab)
def yct (a0 : yaa) (r0 : yab) : Prop := ∀ Xr : yaa → yab → Prop, (∀ (a0 : yaa) (r0 : yab), ygK Xr a0 r0 → Xr a0 r0) → Xr a0 r0
def yd6 : Sp KK := ⟨19, [.v 68], [58], appW (K := KK) [58] [.v 68] yct⟩
def ynV : An KK := (.s .o (.s .o (.s (.s .o (.b (.l ⟨[(1, .px 1 0), (2, .px 2 0), (3, .px 3 0), (4, .it .i64)], [(1, 68, (kps 27 8)), (2, 58, (kps 35 8)), (3, 58, [.kp 43, .kp 44, .kp 45, .kp 46, .kp 47, .kp 48, .kp 49, .row 32])], [(32, 58)]⟩ (fun _ => (.s (.s .o (.c .o .o)) (.s (.b .o) .o)))))) (.s .o .o))))
def yog (Xr : WTy KK [58] [.v 68]) : Cf KK := ⟨CC, [⟨19, [.v 68], [58], appW (K := KK) [58] [.v 68] Xr⟩], [], 35⟩
theorem yl8 (Xr : yaa → yab → Prop) (hX : ∀ (a0 : yaa) (r0 : yab), Xr a0 r0 → Pure Tryz.prog 19 (ybj CC [.v 68] ([.d (.v 68 a0)] : List (AD KK))) (ybk (([.v 58 r0] : List (DV KK)).map (dvA CC)))) : ∀ (a0 : yaa) (r0 : yab), ygK Xr a0 r0 → Pure Tryz.prog 19 (ybj CC [.v 68] ([.d (.v 68 a0)] : List (AD KK))) (ybk (([.v 58 r0] : List (DV KK)).map (dvA CC))) := by
 intro a0 r0 h
 refine ykB (F := yog Xr) yaU (yap ?_ yaA) yaB t19 (A := ynV) (ps := [.v 68]) (rs := [58]) (env := [.d (.v 68 a0)]) (r := [.v 58 r0]) (X := ygK Xr a0 r0) (by kernel_rfl) (Nat.le_of_ble_eq_true (by kernel_rfl)) (by kernel_rfl) (fun G hG => by simp at hG) h ?_
 ·clear h r0
  intro env r hF h
  obtain ⟨a0, _, rfl, h1⟩ := ybv h
  obtain ⟨rfl, h2⟩ := ycS h1
  obtain ⟨r0, _, rfl, h3⟩ := yev h2
  obtain ⟨rfl, h4⟩ := yfa h3
  exact ⟨rfl, hX a0 r0 h4⟩
 ·kernel_rfl
theorem yfs : SpOk Tryz.prog CC yd6 := by
 intro env r hF h
 obtain ⟨a0, _, rfl, h1⟩ := ybv h
 obtain ⟨rfl, h2⟩ := ycS h1
 obtain ⟨r0, _, rfl, h3⟩ := yev h2
 obtain ⟨rfl, h4⟩ := yfa h3
 exact ⟨rfl, h4 (fun a0 r0 =>  Pure Tryz.prog 19 (ybj CC [.v 68] ([.d (.v 68 a0)] : List (AD KK))) (ybk (([.v 58 r0] : List (DV KK)).map (dvA CC)))) (fun a0 r0 h => yl8 _ (fun a0 r0 h => h) a0 r0 h)⟩
def yoT (a0 : List yaa) (r0 : List yab) (X1 : Int → (List yab) → Prop) (x1 : Int) (x2 : List yab) : Prop :=
 (a0.length ≤ maxLen → cnd (decide (x1 < (a0.length : Int))) ((0 ≤ x1) ∧ (x1 < (a0.length : Int)) ∧ ∃ y3 : yaa, (a0[x1.toNat]? = some y3) ∧ ∃ z4, (yct (yaa.mk y3.Kind y3.Op (⟨y3.V.Kind, y3.V.N, y3.V.S⟩ : yad) y3.Table y3.Name y3.L) z4) ∧ (x2.length ≤ 1000000000) ∧ X1 (IntKind.i64.wrap (x1 + (1 : Int))) (x2 ++ ([(yab.mk z4.Kind z4.Op (⟨z4.V.Kind, z4.V.N, z4.V.S⟩ : yae) z4.Table z4.Name z4.L)] : List yab))) (x2 = r0))
def yb7 (a0 : List yaa) (r0 : List yab) : Prop :=
 ∀ X1 : Int → (List yab) → Prop, (∀ x1 x2, yoT a0 r0 X1 x1 x2 → X1 x1 x2) → X1 (0 : Int) ([] : List yab)
def yf6 : Sp KK := ⟨17, [.v 30], [42], appW (K := KK) [42] [.v 30] yb7⟩
def yot : An KK := (.s .o (.s .o (.s (.s .o (.b (.l ⟨[(0, .kp 4), (3, .row 18), (4, .it .i64)], [], [(18, 58)]⟩ (fun _ => (.s (.s .o (.c .o .o)) (.s (.b .o) .o)))))) (.s .o .o))))
def yoy : Cf KK := ⟨CC, [yd6], [], 20⟩
theorem yim : SpOk Tryz.prog CC yf6 := yaz (F := yoy) (ps := [.v 30]) (rs := [42]) (w := yb7) yaU (yap yfs yaA) yaB t17 (A := yot) (by kernel_rfl) (by kernel_rfl) fun a0 r0 => show _ = _ by kernel_rfl
def ymA (y9 : yaf) (X2 : Int → (List yan) → (List yal) → (List Int) → Prop) (x5 x15 x16 x17 x18 : Int) (x19 x20 x21 : Str) (x22 : List yab) (x23 x24 x25 x26 : Int) (x27 x28 x29 : Str) (x30 z12 z13 z14 : List yab) (X4 : Int → (List yan) → (List yal) → (List Int) → (List yax) → Prop) (x34 : Int) (x35 : List yan) (x36 : List yal) (x37 : List Int) (x38 : List yax) : Prop :=
 (y9.Items.length ≤ maxLen → cnd (decide (x34 < (y9.Items.length : Int))) ((0 ≤ x34) ∧ (x34 < (y9.Items.length : Int)) ∧ ∃ y39 : yai, (y9.Items[x34.toNat]? = some y39) ∧ ∃ z40, (yct (yaa.mk y39.E.Kind y39.E.Op (⟨y39.E.V.Kind, y39.E.V.N, y39.E.V.S⟩ : yad) y39.E.Table y39.E.Name y39.E.L) z40) ∧ (0 ≤ x34) ∧ (x34 < (y9.Items.length : Int)) ∧ ∃ y41 : yai, (y9.Items[x34.toNat]? = some y41) ∧ (x38.length ≤ 1000000000) ∧ X4 (IntKind.i64.wrap (x34 + (1 : Int))) x35 x36 x37 (x38 ++ ([(⟨(yab.mk z40.Kind z40.Op (⟨z40.V.Kind, z40.V.N, z40.V.S⟩ : yae) z40.Table z40.Name z40.L), y41.As⟩ : yax)] : List yax))) ((x35.length ≤ 1000000000) ∧ X2 (IntKind.i64.wrap (x5 + (1 : Int))) (x35 ++ ([(⟨y9.Distinct, x38, y9.From, y9.Alias, y9.Join, y9.Left, y9.Other, y9.Named, (⟨(yab.mk x15 x16 (⟨x17, x18, x19⟩ : yae) x20 x21 x22), (yab.mk x23 x24 (⟨x25, x26, x27⟩ : yae) x28 x29 x30)⟩ : yaG), z12, z13, z14⟩ : yan)] : List yan)) x36 x37))
def yho (y9 : yaf) (X2 : Int → (List yan) → (List yal) → (List Int) → Prop) (x5 : Int) (z12 z13 z14 : List yab) (x15 x16 x17 x18 : Int) (x19 x20 x21 : Str) (x22 : List yab) (x23 x24 x25 x26 : Int) (x27 x28 x29 : Str) (x30 : List yab) (x31 : List yan) (x32 : List yal) (x33 : List Int) : Prop :=
 ∀ X4 : Int → (List yan) → (List yal) → (List Int) → (List yax) → Prop, (∀ x34 x35 x36 x37 x38, ymA y9 X2 x5 x15 x16 x17 x18 x19 x20 x21 x22 x23 x24 x25 x26 x27 x28 x29 x30 z12 z13 z14 X4 x34 x35 x36 x37 x38 → X4 x34 x35 x36 x37 x38) → X4 (0 : Int) x31 x32 x33 ([] : List yax)
def yhe (a0 : yav) (x1 : Int) (r0 : yaw) (X2 : Int → (List yan) → (List yal) → (List Int) → Prop) (x5 : Int) (x6 : List yan) (x7 : List yal) (x8 : List Int) : Prop :=
 (a0.Cores.length ≤ maxLen → cnd (decide (x5 < (a0.Cores.length : Int))) ((0 ≤ x5) ∧ (x5 < (a0.Cores.length : Int)) ∧ ∃ y9 : yaf, (a0.Cores[x5.toNat]? = some y9) ∧ ∃ z10, (yct (yaa.mk y9.On.x0.Kind y9.On.x0.Op (⟨y9.On.x0.V.Kind, y9.On.x0.V.N, y9.On.x0.V.S⟩ : yad) y9.On.x0.Table y9.On.x0.Name y9.On.x0.L) z10) ∧ ∃ z11, (yct (yaa.mk y9.On.x1.Kind y9.On.x1.Op (⟨y9.On.x1.V.Kind, y9.On.x1.V.N, y9.On.x1.V.S⟩ : yad) y9.On.x1.Table y9.On.x1.Name y9.On.x1.L) z11) ∧ ∃ z12, (yb7 y9.Where z12) ∧ ∃ z13, (yb7 y9.Group z13) ∧ ∃ z14, (yb7 y9.Having z14) ∧ ∀ J3 : Int → Int → Int → Int → Str → Str → Str → (List yab) → Int → Int → Int → Int → Str → Str → Str → (List yab) → (List yan) → (List yal) → (List Int) → Prop, (∀ x15 x16 x17 x18 x19 x20 x21 x22 x23 x24 x25 x26 x27 x28 x29 x30 x31 x32 x33, yho y9 X2 x5 z12 z13 z14 x15 x16 x17 x18 x19 x20 x21 x22 x23 x24 x25 x26 x27 x28 x29 x30 x31 x32 x33 → J3 x15 x16 x17 x18 x19 x20 x21 x22 x23 x24 x25 x26 x27 x28 x29 x30 x31 x32 x33) → cnd (!y9.Join) (J3 (0 : Int) (0 : Int) (0 : Int) (0 : Int) ([] : Str) ([] : Str) ([] : Str) ([] : List yab) (0 : Int) (0 : Int) (0 : Int) (0 : Int) ([] : Str) ([] : Str) ([] : Str) ([] : List yab) x6 x7 x8) (J3 z10.Kind z10.Op z10.V.Kind z10.V.N z10.V.S z10.Table z10.Name z10.L z11.Kind z11.Op z11.V.Kind z11.V.N z11.V.S z11.Table z11.Name z11.L x6 x7 x8)) ((⟨x6, x7, x8⟩ : yaw) = r0))
def ymk (a0 : yav) (r0 : yaw) (X1 : Int → (List yal) → (List Int) → Prop) (x1 : Int) (x2 : List yal) (x3 : List Int) : Prop :=
 (a0.Order.length ≤ maxLen → cnd (decide (x1 < (a0.Order.length : Int))) ((0 ≤ x1) ∧ (x1 < (a0.Order.length : Int)) ∧ ∃ y4 : yaj, (a0.Order[x1.toNat]? = some y4) ∧ (x2.length ≤ 1000000000) ∧ X1 (IntKind.i64.wrap (x1 + (1 : Int))) (x2 ++ ([(⟨y4.Name, y4.Desc⟩ : yal)] : List yal)) x3) (∀ X2 : Int → (List yan) → (List yal) → (List Int) → Prop, (∀ x5 x6 x7 x8, yhe a0 x1 r0 X2 x5 x6 x7 x8 → X2 x5 x6 x7 x8) → X2 (0 : Int) ([] : List yan) x2 x3))
def yd3 (a0 : yav) (r0 : yaw) : Prop :=
 (a0.Limit.length ≤ 400000000) ∧ ∀ X1 : Int → (List yal) → (List Int) → Prop, (∀ x1 x2 x3, ymk a0 r0 X1 x1 x2 x3 → X1 x1 x2 x3) → X1 (0 : Int) ([] : List yal) (([] : List Int) ++ a0.Limit)
def yhv : Sp KK := ⟨18, [.v 35], [46], appW (K := KK) [46] [.v 35] yd3⟩
def ymj : An KK := (.s .o (.s .o (.s (.s .o (.b (.l ⟨[(1, .px 1 0), (2, .px 2 0), (3, .px 3 0), (4, .it .i64)], [(1, 35, [.kp 11, .kp 12, .kp 13]), (2, 46, [.kp 14, .kp 15, .kp 16]), (3, 46, [.kp 17, .row 29, .row 12])], [(29, 108), (12, 2)]⟩ (fun _ => (.s (.s .o (.c .o .o)) (.s (.b .o) .o)))))) (.s (.s .o (.b (.l ⟨[(1, .px 1 0), (2, .px 2 0), (3, .px 3 0), (5, .it .i64)], [(1, 35, [.kp 11, .kp 12, .kp 13]), (2, 46, [.kp 14, .kp 15, .kp 16]), (3, 46, [.row 111, .row 29, .row 12])], [(111, 106), (29, 108), (12, 2)]⟩ (fun _ => (.s (.s .o (.c .o .o)) (.s (.b (.s .o (.s .o (.j ⟨[(1, .px 1 0), (2, .px 2 0), (3, .px 3 0), (5, .kp 820), (6, .px 6 0), (7, .px 7 0)], [(1, 35, [.kp 11, .kp 12, .kp 13]), (2, 46, [.kp 14, .kp 15, .kp 16]), (3, 46, [.row 111, .row 29, .row 12]), (6, 76, (kps 821 27)), (7, 106, [.kp 848, .kp 849, .kp 850, .kp 851, .kp 852, .kp 853, .kp 854, .kp 855, .it .i64, .it .i64, .it .i64, .it .i64, .st, .st, .st, .sl 58, .it .i64, .it .i64, .it .i64, .it .i64, .st, .st, .st, .sl 58, .kp 856, .kp 857, .kp 858])], [(111, 106), (29, 108), (12, 2)]⟩ (.s .o (.c .o .o)) (fun _ => (.s (.s .o (.b (.l ⟨[(1, .px 1 0), (2, .px 2 0), (3, .px 3 0), (5, .kp 820), (6, .px 6 0), (7, .px 7 0), (8, .it .i64)], [(1, 35, [.kp 11, .kp 12, .kp 13]), (2, 46, [.kp 14, .kp 15, .kp 16]), (3, 46, [.row 111, .row 29, .row 12]), (6, 76, (kps 821 27)), (7, 106, [.kp 848, .row 105, .kp 850, .kp 851, .kp 852, .kp 853, .kp 854, .kp 855, .kp 877, .kp 878, .kp 879, .kp 880, .kp 881, .kp 882, .kp 883, .kp 884, .kp 885, .kp 886, .kp 887, .kp 888, .kp 889, .kp 890, .kp 891, .kp 892, .kp 856, .kp 857, .kp 858])], [(111, 106), (29, 108), (12, 2), (105, 120)]⟩ (fun _ => (.s (.s .o (.c .o .o)) (.s (.b .o) .o)))))) .o)))))) .o)))))) (.s .o .o)))))
def ymx : Cf KK := ⟨CC, [yd6, yf6], [], 114⟩
theorem yms : SpOk Tryz.prog CC yhv := yaz (F := ymx) (ps := [.v 35]) (rs := [46]) (w := yd3) yaU (yap yfs (yap yim yaA)) yaB t18 (A := ymj) (by kernel_rfl) (by kernel_rfl) fun a0 r0 => show _ = _ by kernel_rfl
def yiL (a0 : yas) (z1 : List yab) (z2 : yaw) (r0 : yaO) (X3 : Int → (List yak) → (List (List yab)) → (List yay) → Prop) (x11 : Int) (x12 : List yak) (x13 : List (List yab)) (x14 : List yay) : Prop :=
 (a0.Sets.length ≤ maxLen → cnd (decide (x11 < (a0.Sets.length : Int))) ((0 ≤ x11) ∧ (x11 < (a0.Sets.length : Int)) ∧ ∃ y15 : yaq, (a0.Sets[x11.toNat]? = some y15) ∧ (0 ≤ x11) ∧ (x11 < (a0.Sets.length : Int)) ∧ ∃ y16 : yaq, (a0.Sets[x11.toNat]? = some y16) ∧ ∃ z17, (yct (yaa.mk y16.E.Kind y16.E.Op (⟨y16.E.V.Kind, y16.E.V.N, y16.E.V.S⟩ : yad) y16.E.Table y16.E.Name y16.E.L) z17) ∧ (x14.length ≤ 1000000000) ∧ X3 (IntKind.i64.wrap (x11 + (1 : Int))) x12 x13 (x14 ++ ([(⟨y15.Name, (yab.mk z17.Kind z17.Op (⟨z17.V.Kind, z17.V.N, z17.V.S⟩ : yae) z17.Table z17.Name z17.L)⟩ : yay)] : List yay))) ((⟨a0.Kind, a0.Name, x12, x13, x14, z1, z2, a0.N⟩ : yaO) = r0))
def yiw (a0 : yas) (z1 : List yab) (z2 : yaw) (r0 : yaO) (X2 : Int → (List yak) → (List (List yab)) → Prop) (x6 : Int) (x7 : List yak) (x8 : List (List yab)) : Prop :=
 (a0.Rows.length ≤ maxLen → cnd (decide (x6 < (a0.Rows.length : Int))) ((0 ≤ x6) ∧ (x6 < (a0.Rows.length : Int)) ∧ ∃ y9 : (List yaa), (a0.Rows[x6.toNat]? = some y9) ∧ ∃ z10, (yb7 y9 z10) ∧ (x8.length ≤ 1000000000) ∧ X2 (IntKind.i64.wrap (x6 + (1 : Int))) x7 (x8 ++ ([z10] : List (List yab)))) (∀ X3 : Int → (List yak) → (List (List yab)) → (List yay) → Prop, (∀ x11 x12 x13 x14, yiL a0 z1 z2 r0 X3 x11 x12 x13 x14 → X3 x11 x12 x13 x14) → X3 (0 : Int) x7 x8 ([] : List yay)))
def yoh (a0 : yas) (z1 : List yab) (z2 : yaw) (r0 : yaO) (X1 : Int → (List yak) → Prop) (x3 : Int) (x4 : List yak) : Prop :=
 (a0.Columns.length ≤ maxLen → cnd (decide (x3 < (a0.Columns.length : Int))) ((0 ≤ x3) ∧ (x3 < (a0.Columns.length : Int)) ∧ ∃ y5 : yah, (a0.Columns[x3.toNat]? = some y5) ∧ (x4.length ≤ 1000000000) ∧ X1 (IntKind.i64.wrap (x3 + (1 : Int))) (x4 ++ ([(⟨y5.Name, y5.Kind, y5.Key⟩ : yak)] : List yak))) (∀ X2 : Int → (List yak) → (List (List yab)) → Prop, (∀ x6 x7 x8, yiw a0 z1 z2 r0 X2 x6 x7 x8 → X2 x6 x7 x8) → X2 (0 : Int) x4 ([] : List (List yab))))
def yeC (a0 : yas) (r0 : yaO) : Prop :=
 ∃ z1, (yb7 a0.Where z1) ∧ ∃ z2, (yd3 (⟨a0.Query.Cores, a0.Query.Order, a0.Query.Limit⟩ : yav) z2) ∧ ∀ X1 : Int → (List yak) → Prop, (∀ x3 x4, yoh a0 z1 z2 r0 X1 x3 x4 → X1 x3 x4) → X1 (0 : Int) ([] : List yak)
def yiK : Sp KK := ⟨6, [.v 37], [48], appW (K := KK) [48] [.v 37] yeC⟩
def yoi : An KK := (.s .o (.s .o (.s (.s .o (.b (.l ⟨[(1, .px 1 0), (2, .px 2 0), (3, .px 3 0), (4, .it .i64)], [(1, 37, (kps 33 10)), (2, 48, (kps 43 10)), (3, 48, [.kp 53, .kp 54, .row 35, .kp 56, .kp 57, .kp 58, .kp 59, .kp 60, .kp 61, .kp 62])], [(35, 82)]⟩ (fun _ => (.s (.s .o (.c .o .o)) (.s (.b .o) .o)))))) (.s (.s .o (.b (.l ⟨[(1, .px 1 0), (2, .px 2 0), (3, .px 3 0), (5, .it .i64)], [(1, 37, (kps 33 10)), (2, 48, (kps 43 10)), (3, 48, [.kp 53, .kp 54, .row 35, .row 53, .kp 57, .kp 58, .kp 59, .kp 60, .kp 61, .kp 62])], [(35, 82), (53, 42)]⟩ (fun _ => (.s (.s .o (.c .o .o)) (.s (.b .o) .o)))))) (.s (.s .o (.b (.l ⟨[(1, .px 1 0), (2, .px 2 0), (3, .px 3 0), (6, .it .i64)], [(1, 37, (kps 33 10)), (2, 48, (kps 43 10)), (3, 48, [.kp 53, .kp 54, .row 35, .row 53, .row 79, .kp 58, .kp 59, .kp 60, .kp 61, .kp 62])], [(35, 82), (53, 42), (79, 85)]⟩ (fun _ => (.s (.s .o (.c .o .o)) (.s (.b .o) .o)))))) (.s .o .o))))))
def ynk : Cf KK := ⟨CC, [yf6, yhv, yd6], [], 82⟩
theorem ynz : SpOk Tryz.prog CC yiK := yaz (F := ynk) (ps := [.v 37]) (rs := [48]) (w := yeC) yaU (yap yim (yap yms (yap yfs yaA))) yaB t6 (A := yoi) (by kernel_rfl) (by kernel_rfl) fun a0 r0 => show _ = _ by kernel_rfl
def yny (a0 a2 r0 a1 : Str) (x1 : Bool) : Prop :=
 cnd x1 ((a0.length + a2.length ≤ 9223372036854775807) ∧ (a0 ++ a2) = r0) ((a0.length + a1.length ≤ 9223372036854775807) ∧ ((a0 ++ a1).length + a2.length ≤ 9223372036854775807) ∧ ((a0 ++ a1) ++ a2) = r0)
def yar (a0 a1 a2 r0 : Str) : Prop :=
 ∀ J1 : Bool → Prop, (∀ x1, yny a0 a2 r0 a1 x1 → J1 x1) → cnd (a0 == ([] : Str)) (J1 true) (J1 (a2 == ([] : Str)))
def yd7 : Sp KK := ⟨29, [.v 9, .v 9, .v 9], [9], appW (K := KK) [9] [.v 9, .v 9, .v 9] yar⟩
def yn4 : An KK := (.s .o (.s (.j ⟨[(0, .kp 4), (1, .kp 5), (2, .kp 6), (12, .bl)], [], []⟩ .o (fun _ => (.c (.s .o .o) .o))) (.s .o .o)))
def ynN : Cf KK := ⟨CC, [], [], 21⟩
theorem yf1 : SpOk Tryz.prog CC yd7 := yaz (F := ynN) (ps := [.v 9, .v 9, .v 9]) (rs := [9]) (w := yar) yaU yaA yaB t29 (A := yn4) (by kernel_rfl) (by kernel_rfl) fun a0 a1 a2 r0 => show _ = _ by kernel_rfl
def ydL (a0 : Int) (r0 : Str) : Prop :=
 cnd (a0 == (1 : Int)) (([66, 79, 79, 76] : Str) = r0) (cnd (a0 == (2 : Int)) (([73, 78, 84] : Str) = r0) (cnd (a0 == (3 : Int)) (([84, 69, 88, 84] : Str) = r0) (([] : Str) = r0)))
def yiS : Sp KK := ⟨30, [.v 3], [9], appW (K := KK) [9] [.v 3] ydL⟩
def ynu : An KK := (.s .o (.s (.s .o (.b (.s .o (.c (.s .o .o) (.s .o (.c (.s .o .o) (.s .o (.c (.s .o .o) .o)))))))) (.s .o .o)))
def yn1 : Cf KK := ⟨CC, [], [], 10⟩
theorem ynh : SpOk Tryz.prog CC yiS := yaz (F := yn1) (ps := [.v 3]) (rs := [9]) (w := ydL) yaU yaA yaB t30 (A := ynu) (by kernel_rfl) (by kernel_rfl) fun a0 r0 => show _ = _ by kernel_rfl
def ygx (x3 : Str) (x2 : Int) (x1 r0 : Str) (X2 : Int → Str → Prop) (x4 : Int) : Prop :=
 ((([IntKind.u8.wrap (IntKind.i64.wrap ((48 : Int) + x4))] : List Int).map toB).length + x3.length ≤ 9223372036854775807) ∧ cnd ((IntKind.i64.wrap (x2.tdiv (10 : Int))) == (0 : Int)) ((x1.length + ((([IntKind.u8.wrap (IntKind.i64.wrap ((48 : Int) + x4))] : List Int).map toB) ++ x3).length ≤ 9223372036854775807) ∧ (x1 ++ ((([IntKind.u8.wrap (IntKind.i64.wrap ((48 : Int) + x4))] : List Int).map toB) ++ x3)) = r0) (X2 (IntKind.i64.wrap (x2.tdiv (10 : Int))) ((([IntKind.u8.wrap (IntKind.i64.wrap ((48 : Int) + x4))] : List Int).map toB) ++ x3))
def ylQ (x1 r0 : Str) (X2 : Int → Str → Prop) (x2 : Int) (x3 : Str) : Prop :=
 ∀ J3 : Int → Prop, (∀ x4, ygx x3 x2 x1 r0 X2 x4 → J3 x4) → cnd (decide ((x2.tmod (10 : Int)) < (0 : Int))) (J3 (IntKind.i64.wrap (0 - (x2.tmod (10 : Int))))) (J3 (x2.tmod (10 : Int)))
def ygH (r0 : Str) (a0 : Int) (x1 : Str) : Prop :=
 ∀ X2 : Int → Str → Prop, (∀ x2 x3, ylQ x1 r0 X2 x2 x3 → X2 x2 x3) → X2 a0 ([] : Str)
def yck (a0 : Int) (r0 : Str) : Prop :=
 ∀ J1 : Str → Prop, (∀ x1, ygH r0 a0 x1 → J1 x1) → cnd (decide (a0 < (0 : Int))) (J1 ([45] : Str)) (J1 ([] : Str))
def yc3 : Sp KK := ⟨35, [.v 2], [9], appW (K := KK) [9] [.v 2] yck⟩
def ylN : An KK := (.s .o (.s .o (.j ⟨[(0, .kp 1), (3, .st), (4, .kp 2)], [], []⟩ (.s .o (.c .o .o)) (fun _ => (.b (.l ⟨[(0, .it .i64), (3, .kp 3), (4, .st)], [], []⟩ (fun _ => (.b (.s .o (.j ⟨[(0, .kp 6), (3, .kp 3), (4, .kp 7), (5, .it .i64)], [], []⟩ (.s .o (.c .o .o)) (fun _ => (.s .o (.s .o (.s .o (.c (.s .o .o) .o)))))))))))))))
def ylw : Cf KK := ⟨CC, [], [], 28⟩
theorem yej : SpOk Tryz.prog CC yc3 := yaz (F := ylw) (ps := [.v 2]) (rs := [9]) (w := yck) yaU yaA yaB t35 (A := ylN) (by kernel_rfl) (by kernel_rfl) fun a0 r0 => show _ = _ by kernel_rfl
def yir (a0 : yad) (r0 : Str) (X3 : Str → Int → Prop) (x4 : Str) (x5 : Int) : Prop :=
 cnd (decide (x5 < (a0.S.length : Int))) ((0 ≤ x5 ∧ x5 ≤ (IntKind.i64.wrap (x5 + (1 : Int))) ∧ (IntKind.i64.wrap (x5 + (1 : Int))) ≤ (a0.S.length : Int)) ∧ (x4.length + ((a0.S.drop x5.toNat).take ((IntKind.i64.wrap (x5 + (1 : Int))).toNat - x5.toNat)).length ≤ 9223372036854775807) ∧ (0 ≤ x5 ∧ x5 < (a0.S.length : Int)) ∧ cnd ((bAt a0.S x5) == (39 : Int)) (((x4 ++ ((a0.S.drop x5.toNat).take ((IntKind.i64.wrap (x5 + (1 : Int))).toNat - x5.toNat))).length + ([39] : Str).length ≤ 9223372036854775807) ∧ X3 ((x4 ++ ((a0.S.drop x5.toNat).take ((IntKind.i64.wrap (x5 + (1 : Int))).toNat - x5.toNat))) ++ ([39] : Str)) (IntKind.i64.wrap (x5 + (1 : Int)))) (X3 (x4 ++ ((a0.S.drop x5.toNat).take ((IntKind.i64.wrap (x5 + (1 : Int))).toNat - x5.toNat))) (IntKind.i64.wrap (x5 + (1 : Int))))) ((x4.length + ([39] : Str).length ≤ 9223372036854775807) ∧ (x4 ++ ([39] : Str)) = r0)
def yoN (r0 : Str) (a0 : yad) (x2 : Bool) : Prop :=
 cnd x2 (([84, 82, 85, 69] : Str) = r0) (cnd (a0.Kind == (1 : Int)) (([70, 65, 76, 83, 69] : Str) = r0) (cnd (a0.Kind == (2 : Int)) (∃ z3, (yck a0.N z3) ∧ z3 = r0) (∀ X3 : Str → Int → Prop, (∀ x4 x5, yir a0 r0 X3 x4 x5 → X3 x4 x5) → X3 ([39] : Str) (0 : Int))))
def yno (r0 : Str) (a0 : yad) (x1 : Bool) : Prop :=
 cnd x1 (([78, 85, 76, 76] : Str) = r0) (∀ J2 : Bool → Prop, (∀ x2, yoN r0 a0 x2 → J2 x2) → cnd (a0.Kind == (1 : Int)) (J2 (a0.N == (1 : Int))) (J2 false))
def yeG (a0 : yad) (r0 : Str) : Prop :=
 ∀ J1 : Bool → Prop, (∀ x1, yno r0 a0 x1 → J1 x1) → ∃ z6, (ycU a0 z6) ∧ cnd (!z6) (J1 true) (J1 (a0.Kind == (0 : Int)))
def yjd : Sp KK := ⟨62, [.v 66], [9], appW (K := KK) [9] [.v 66] yeG⟩
def yoG : An KK := (.s .o (.s (.j ⟨[(1, .px 1 0), (12, .bl)], [(1, 66, [.kp 4, .kp 5, .kp 6])], []⟩ .o (fun _ => (.c (.s .o .o) .o))) (.s (.j ⟨[(1, .px 1 0), (20, .bl)], [(1, 66, [.kp 4, .kp 5, .kp 6])], []⟩ .o (fun _ => (.c (.s .o .o) .o))) (.s (.s .o (.c (.s .o .o) .o)) (.s (.s .o (.c (.s .o .o) .o)) (.s .o (.s (.s .o (.b (.l ⟨[(1, .px 1 0), (3, .st), (4, .it .i64)], [(1, 66, [.kp 4, .kp 5, .kp 6])], []⟩ (fun _ => (.s (.s .o (.c .o .o)) (.s (.b (.s .o (.s .o (.c .o .o)))) .o)))))) (.s .o .o))))))))
def ynW : Cf KK := ⟨CC, [yfR, yc3], [], 54⟩
theorem ynb : SpOk Tryz.prog CC yjd := yaz (F := ynW) (ps := [.v 66]) (rs := [9]) (w := yeG) yaU (yap yjo (yap yej yaA)) yaB t62 (A := yoG) (by kernel_rfl) (by kernel_rfl) fun a0 r0 => show _ = _ by kernel_rfl
def ydO (a0 : Int) (r0 : Str) : Prop :=
 (0 ≤ a0) ∧ (a0 < (([([] : Str), ([61] : Str), ([60, 62] : Str), ([60] : Str), ([60, 61] : Str), ([62] : Str), ([62, 61] : Str), ([43] : Str), ([45] : Str), ([42] : Str), ([47] : Str), ([37] : Str), ([124, 124] : Str), ([65, 78, 68] : Str), ([79, 82] : Str)] : List Str).length : Int)) ∧ ∃ y1 : Str, (([([] : Str), ([61] : Str), ([60, 62] : Str), ([60] : Str), ([60, 61] : Str), ([62] : Str), ([62, 61] : Str), ([43] : Str), ([45] : Str), ([42] : Str), ([47] : Str), ([37] : Str), ([124, 124] : Str), ([65, 78, 68] : Str), ([79, 82] : Str)] : List Str)[a0.toNat]? = some y1) ∧ y1 = r0
def yfg : Sp KK := ⟨63, [.v 3], [9], appW (K := KK) [9] [.v 3] ydO⟩
def ykf : An KK := (.s .o (.s .o (.s .o .o)))
def yjK : Cf KK := ⟨CC, [], [], 9⟩
theorem yjI : SpOk Tryz.prog CC yfg := yaz (F := yjK) (ps := [.v 3]) (rs := [9]) (w := ydO) yaU yaA yaB t63 (A := ykf) (by kernel_rfl) (by kernel_rfl) fun a0 r0 => show _ = _ by kernel_rfl
def ygE (Xr : yaa → Str → Prop) (a0 : yaa) (r0 : Str) : Prop :=
 cnd (a0.Kind == (1 : Int)) (∃ z1, (yeG (⟨a0.V.Kind, a0.V.N, a0.V.S⟩ : yad) z1) ∧ z1 = r0) (cnd (a0.Kind == (2 : Int)) (cnd (a0.Table == ([] : Str)) (a0.Name = r0) ((a0.Table.length + ([46] : Str).length ≤ 9223372036854775807) ∧ ((a0.Table ++ ([46] : Str)).length + a0.Name.length ≤ 9223372036854775807) ∧ ((a0.Table ++ ([46] : Str)) ++ a0.Name) = r0)) (cnd (a0.Kind == (3 : Int)) ((0 ≤ (0 : Int)) ∧ ((0 : Int) < (a0.L.length : Int)) ∧ ∃ y2 : yaa, (a0.L[(0 : Int).toNat]? = some y2) ∧ ∃ z3, (Xr (yaa.mk y2.Kind y2.Op (⟨y2.V.Kind, y2.V.N, y2.V.S⟩ : yad) y2.Table y2.Name y2.L) z3) ∧ (([40] : Str).length + z3.length ≤ 9223372036854775807) ∧ ((([40] : Str) ++ z3).length + ([32] : Str).length ≤ 9223372036854775807) ∧ ∃ z4, (ydO a0.Op z4) ∧ (((([40] : Str) ++ z3) ++ ([32] : Str)).length + z4.length ≤ 9223372036854775807) ∧ ((((([40] : Str) ++ z3) ++ ([32] : Str)) ++ z4).length + ([32] : Str).length ≤ 9223372036854775807) ∧ (0 ≤ (1 : Int)) ∧ ((1 : Int) < (a0.L.length : Int)) ∧ ∃ y5 : yaa, (a0.L[(1 : Int).toNat]? = some y5) ∧ ∃ z6, (Xr (yaa.mk y5.Kind y5.Op (⟨y5.V.Kind, y5.V.N, y5.V.S⟩ : yad) y5.Table y5.Name y5.L) z6) ∧ (((((([40] : Str) ++ z3) ++ ([32] : Str)) ++ z4) ++ ([32] : Str)).length + z6.length ≤ 9223372036854775807) ∧ ((((((([40] : Str) ++ z3) ++ ([32] : Str)) ++ z4) ++ ([32] : Str)) ++ z6).length + ([41] : Str).length ≤ 9223372036854775807) ∧ ((((((([40] : Str) ++ z3) ++ ([32] : Str)) ++ z4) ++ ([32] : Str)) ++ z6) ++ ([41] : Str)) = r0) (cnd (a0.Kind == (4 : Int)) ((0 ≤ (0 : Int)) ∧ ((0 : Int) < (a0.L.length : Int)) ∧ ∃ y7 : yaa, (a0.L[(0 : Int).toNat]? = some y7) ∧ ∃ z8, (Xr (yaa.mk y7.Kind y7.Op (⟨y7.V.Kind, y7.V.N, y7.V.S⟩ : yad) y7.Table y7.Name y7.L) z8) ∧ (([40, 78, 79, 84, 32] : Str).length + z8.length ≤ 9223372036854775807) ∧ ((([40, 78, 79, 84, 32] : Str) ++ z8).length + ([41] : Str).length ≤ 9223372036854775807) ∧ ((([40, 78, 79, 84, 32] : Str) ++ z8) ++ ([41] : Str)) = r0) (cnd (a0.Kind == (5 : Int)) ((0 ≤ (0 : Int)) ∧ ((0 : Int) < (a0.L.length : Int)) ∧ ∃ y9 : yaa, (a0.L[(0 : Int).toNat]? = some y9) ∧ ∃ z10, (Xr (yaa.mk y9.Kind y9.Op (⟨y9.V.Kind, y9.V.N, y9.V.S⟩ : yad) y9.Table y9.Name y9.L) z10) ∧ (([40, 45, 32] : Str).length + z10.length ≤ 9223372036854775807) ∧ ((([40, 45, 32] : Str) ++ z10).length + ([41] : Str).length ≤ 9223372036854775807) ∧ ((([40, 45, 32] : Str) ++ z10) ++ ([41] : Str)) = r0) (cnd (a0.Kind == (6 : Int)) ((0 ≤ (0 : Int)) ∧ ((0 : Int) < (a0.L.length : Int)) ∧ ∃ y11 : yaa, (a0.L[(0 : Int).toNat]? = some y11) ∧ ∃ z12, (Xr (yaa.mk y11.Kind y11.Op (⟨y11.V.Kind, y11.V.N, y11.V.S⟩ : yad) y11.Table y11.Name y11.L) z12) ∧ (([40] : Str).length + z12.length ≤ 9223372036854775807) ∧ ((([40] : Str) ++ z12).length + ([32, 73, 83, 32, 78, 85, 76, 76, 41] : Str).length ≤ 9223372036854775807) ∧ ((([40] : Str) ++ z12) ++ ([32, 73, 83, 32, 78, 85, 76, 76, 41] : Str)) = r0) (cnd (a0.Kind == (7 : Int)) ((0 ≤ (0 : Int)) ∧ ((0 : Int) < (a0.L.length : Int)) ∧ ∃ y13 : yaa, (a0.L[(0 : Int).toNat]? = some y13) ∧ ∃ z14, (Xr (yaa.mk y13.Kind y13.Op (⟨y13.V.Kind, y13.V.N, y13.V.S⟩ : yad) y13.Table y13.Name y13.L) z14) ∧ (([40] : Str).length + z14.length ≤ 9223372036854775807) ∧ ((([40] : Str) ++ z14).length + ([32, 73, 83, 32, 78, 79, 84, 32, 78, 85, 76, 76, 41] : Str).length ≤ 9223372036854775807) ∧ ((([40] : Str) ++ z14) ++ ([32, 73, 83, 32, 78, 79, 84, 32, 78, 85, 76, 76, 41] : Str)) = r0) ((a0.L.length ≤ maxLen → cnd ((a0.L.length : Int) == (0 : Int)) ((0 ≤ a0.Op) ∧ (a0.Op < (([([] : Str), ([67, 79, 85, 78, 84] : Str), ([83, 85, 77] : Str), ([77, 73, 78] : Str), ([77, 65, 88] : Str)] : List Str).length : Int)) ∧ ∃ y15 : Str, (([([] : Str), ([67, 79, 85, 78, 84] : Str), ([83, 85, 77] : Str), ([77, 73, 78] : Str), ([77, 65, 88] : Str)] : List Str)[a0.Op.toNat]? = some y15) ∧ (y15.length + ([40, 42, 41] : Str).length ≤ 9223372036854775807) ∧ (y15 ++ ([40, 42, 41] : Str)) = r0) ((0 ≤ a0.Op) ∧ (a0.Op < (([([] : Str), ([67, 79, 85, 78, 84] : Str), ([83, 85, 77] : Str), ([77, 73, 78] : Str), ([77, 65, 88] : Str)] : List Str).length : Int)) ∧ ∃ y16 : Str, (([([] : Str), ([67, 79, 85, 78, 84] : Str), ([83, 85, 77] : Str), ([77, 73, 78] : Str), ([77, 65, 88] : Str)] : List Str)[a0.Op.toNat]? = some y16) ∧ (y16.length + ([40] : Str).length ≤ 9223372036854775807) ∧ (0 ≤ (0 : Int)) ∧ ((0 : Int) < (a0.L.length : Int)) ∧ ∃ y17 : yaa, (a0.L[(0 : Int).toNat]? = some y17) ∧ ∃ z18, (Xr (yaa.mk y17.Kind y17.Op (⟨y17.V.Kind, y17.V.N, y17.V.S⟩ : yad) y17.Table y17.Name y17.L) z18) ∧ ((y16 ++ ([40] : Str)).length + z18.length ≤ 9223372036854775807) ∧ (((y16 ++ ([40] : Str)) ++ z18).length + ([41] : Str).length ≤ 9223372036854775807) ∧ (((y16 ++ ([40] : Str)) ++ z18) ++ ([41] : Str)) = r0)))))))))
def ygq (a0 : yaa) (r0 : Str) : Prop := ∀ Xr : yaa → Str → Prop, (∀ (a0 : yaa) (r0 : Str), ygE Xr a0 r0 → Xr a0 r0) → Xr a0 r0
def yin : Sp KK := ⟨48, [.v 68], [9], appW (K := KK) [9] [.v 68] ygq⟩
def yov : An KK := (.s .o (.s (.s .o (.b (.s .o (.c (.s .o .o) (.s .o (.c (.s (.s .o (.c (.s .o .o) .o)) (.s .o .o)) (.s .o (.c (.s .o .o) (.s .o (.c (.s .o .o) (.s .o (.c (.s .o .o) (.s .o (.c (.s .o .o) (.s .o (.c (.s .o .o) .o)))))))))))))))) (.s .o (.s (.s .o (.c (.s .o .o) .o)) (.s .o .o)))))
def ynE (Xr : WTy KK [9] [.v 68]) : Cf KK := ⟨CC, [⟨48, [.v 68], [9], appW (K := KK) [9] [.v 68] Xr⟩, yjd, yfg], [], 105⟩
theorem ymD (Xr : yaa → Str → Prop) (hX : ∀ (a0 : yaa) (r0 : Str), Xr a0 r0 → Pure Tryz.prog 48 (ybj CC [.v 68] ([.d (.v 68 a0)] : List (AD KK))) (ybk (([.v 9 r0] : List (DV KK)).map (dvA CC)))) : ∀ (a0 : yaa) (r0 : Str), ygE Xr a0 r0 → Pure Tryz.prog 48 (ybj CC [.v 68] ([.d (.v 68 a0)] : List (AD KK))) (ybk (([.v 9 r0] : List (DV KK)).map (dvA CC))) := by
 intro a0 r0 h
 refine ykB (F := ynE Xr) yaU (yap ?_ (yap ynb (yap yjI yaA))) yaB t48 (A := yov) (ps := [.v 68]) (rs := [9]) (env := [.d (.v 68 a0)]) (r := [.v 9 r0]) (X := ygE Xr a0 r0) (by kernel_rfl) (Nat.le_of_ble_eq_true (by kernel_rfl)) (by kernel_rfl) (fun G hG => by simp at hG) h ?_
 ·clear h r0
  intro env r hF h
  obtain ⟨a0, _, rfl, h1⟩ := ybv h
  obtain ⟨rfl, h2⟩ := ycS h1
  obtain ⟨r0, _, rfl, h3⟩ := yev h2
  obtain ⟨rfl, h4⟩ := yfa h3
  exact ⟨rfl, hX a0 r0 h4⟩
 ·kernel_rfl
theorem yoO : SpOk Tryz.prog CC yin := by
 intro env r hF h
 obtain ⟨a0, _, rfl, h1⟩ := ybv h
 obtain ⟨rfl, h2⟩ := ycS h1
 obtain ⟨r0, _, rfl, h3⟩ := yev h2
 obtain ⟨rfl, h4⟩ := yfa h3
 exact ⟨rfl, h4 (fun a0 r0 =>  Pure Tryz.prog 48 (ybj CC [.v 68] ([.d (.v 68 a0)] : List (AD KK))) (ybk (([.v 9 r0] : List (DV KK)).map (dvA CC)))) (fun a0 r0 h => ymD _ (fun a0 r0 h => h) a0 r0 h)⟩
def ybM (a0 : yaa) (r0 : Str) : Prop :=
 ∃ z1, (ydF (yaa.mk a0.Kind a0.Op (⟨a0.V.Kind, a0.V.N, a0.V.S⟩ : yad) a0.Table a0.Name a0.L) z1) ∧ cnd (!z1) (([] : Str) = r0) (∃ z2, (ygq (yaa.mk a0.Kind a0.Op (⟨a0.V.Kind, a0.V.N, a0.V.S⟩ : yad) a0.Table a0.Name a0.L) z2) ∧ z2 = r0)
def yda : Sp KK := ⟨33, [.v 68], [9], appW (K := KK) [9] [.v 68] ybM⟩
def yn9 : An KK := (.s .o (.s (.s .o (.c (.s .o .o) .o)) (.s .o .o)))
def yoz : Cf KK := ⟨CC, [yfI, yin], [], 8⟩
theorem yd5 : SpOk Tryz.prog CC yda := yaz (F := yoz) (ps := [.v 68]) (rs := [9]) (w := ybM) yaU (yap yji (yap yoO yaA)) yaB t33 (A := yn9) (by kernel_rfl) (by kernel_rfl) fun a0 r0 => show _ = _ by kernel_rfl
def yl5 (x2 : Int) (a0 : List yaa) (X1 : Str → Int → Prop) (x3 : Str) : Prop :=
 (0 ≤ x2) ∧ (x2 < (a0.length : Int)) ∧ ∃ y4 : yaa, (a0[x2.toNat]? = some y4) ∧ ∃ z5, (ybM (yaa.mk y4.Kind y4.Op (⟨y4.V.Kind, y4.V.N, y4.V.S⟩ : yad) y4.Table y4.Name y4.L) z5) ∧ (x3.length + z5.length ≤ 9223372036854775807) ∧ X1 (x3 ++ z5) (IntKind.i64.wrap (x2 + (1 : Int)))
def ymB (a0 : List yaa) (r0 : Str) (X1 : Str → Int → Prop) (x1 : Str) (x2 : Int) : Prop :=
 (a0.length ≤ maxLen → cnd (decide (x2 < (a0.length : Int))) (∀ J2 : Str → Prop, (∀ x3, yl5 x2 a0 X1 x3 → J2 x3) → cnd (decide ((0 : Int) < x2)) ((x1.length + ([44, 32] : Str).length ≤ 9223372036854775807) ∧ J2 (x1 ++ ([44, 32] : Str))) (J2 x1)) (x1 = r0))
def yc8 (a0 : List yaa) (r0 : Str) : Prop :=
 ∀ X1 : Str → Int → Prop, (∀ x1 x2, ymB a0 r0 X1 x1 x2 → X1 x1 x2) → X1 ([] : Str) (0 : Int)
def yeY : Sp KK := ⟨31, [.v 30], [9], appW (K := KK) [9] [.v 30] yc8⟩
def yl6 : An KK := (.s .o (.s .o (.s (.s .o (.b (.l ⟨[(0, .kp 8), (3, .st), (4, .it .i64)], [], []⟩ (fun _ => (.s (.s .o (.c .o .o)) (.s (.b (.j ⟨[(0, .kp 8), (3, .st), (4, .kp 14)], [], []⟩ (.s .o (.c .o .o)) (fun _ => .o))) .o)))))) (.s .o .o))))
def ymF : Cf KK := ⟨CC, [yda], [], 23⟩
theorem yhf : SpOk Tryz.prog CC yeY := yaz (F := ymF) (ps := [.v 30]) (rs := [9]) (w := yc8) yaU (yap yd5 yaA) yaB t31 (A := yl6) (by kernel_rfl) (by kernel_rfl) fun a0 r0 => show _ = _ by kernel_rfl
def ycz (a0 : Str) (a1 : List yaa) (r0 : Str) : Prop :=
 (a1.length ≤ maxLen → cnd ((a1.length : Int) == (0 : Int)) (([] : Str) = r0) ((a0.length + ([32] : Str).length ≤ 9223372036854775807) ∧ (0 ≤ (0 : Int)) ∧ ((0 : Int) < (a1.length : Int)) ∧ ∃ y1 : yaa, (a1[(0 : Int).toNat]? = some y1) ∧ ∃ z2, (ybM (yaa.mk y1.Kind y1.Op (⟨y1.V.Kind, y1.V.N, y1.V.S⟩ : yad) y1.Table y1.Name y1.L) z2) ∧ ((a0 ++ ([32] : Str)).length + z2.length ≤ 9223372036854775807) ∧ ((a0 ++ ([32] : Str)) ++ z2) = r0))
def yfx : Sp KK := ⟨32, [.v 9, .v 30], [9], appW (K := KK) [9] [.v 9, .v 30] ycz⟩
def yoM : An KK := (.s .o (.s (.s .o (.c (.s .o .o) .o)) (.s .o .o)))
def yoI : Cf KK := ⟨CC, [yda], [], 15⟩
theorem yiv : SpOk Tryz.prog CC yfx := yaz (F := yoI) (ps := [.v 9, .v 30]) (rs := [9]) (w := ycz) yaU (yap yd5 yaA) yaB t32 (A := yoM) (by kernel_rfl) (by kernel_rfl) fun a0 a1 r0 => show _ = _ by kernel_rfl
def yor (x4 : Str) (X2 : Str → Int → Prop) (x3 : Int) (x7 : Str) : Prop :=
 (x4.length + x7.length ≤ 9223372036854775807) ∧ X2 (x4 ++ x7) (IntKind.i64.wrap (x3 + (1 : Int)))
def ynJ (x3 : Int) (a0 : yaf) (X2 : Str → Int → Prop) (x4 : Str) : Prop :=
 (0 ≤ x3) ∧ (x3 < (a0.Items.length : Int)) ∧ ∃ y5 : yai, (a0.Items[x3.toNat]? = some y5) ∧ ∃ z6, (ybM (yaa.mk y5.E.Kind y5.E.Op (⟨y5.E.V.Kind, y5.E.V.N, y5.E.V.S⟩ : yad) y5.E.Table y5.E.Name y5.E.L) z6) ∧ ∀ J4 : Str → Prop, (∀ x7, yor x4 X2 x3 x7 → J4 x7) → (0 ≤ x3) ∧ (x3 < (a0.Items.length : Int)) ∧ ∃ y8 : yai, (a0.Items[x3.toNat]? = some y8) ∧ cnd (!(y8.As == ([] : Str))) (∃ z9, (yar z6 ([32] : Str) ([65, 83] : Str) z9) ∧ (0 ≤ x3) ∧ (x3 < (a0.Items.length : Int)) ∧ ∃ y10 : yai, (a0.Items[x3.toNat]? = some y10) ∧ ∃ z11, (yar z9 ([32] : Str) y10.As z11) ∧ J4 z11) (J4 z6)
def yoS (a0 : yaf) (r0 x20 : Str) : Prop :=
 ∃ z21, (ycz ([72, 65, 86, 73, 78, 71] : Str) a0.Having z21) ∧ ∃ z22, (yar x20 ([32] : Str) z21 z22) ∧ z22 = r0
def yne (a0 : yaf) (r0 x17 : Str) : Prop :=
 ∃ z18, (ycz ([87, 72, 69, 82, 69] : Str) a0.Where z18) ∧ ∃ z19, (yar x17 ([32] : Str) z18 z19) ∧ ∀ J7 : Str → Prop, (∀ x20, yoS a0 r0 x20 → J7 x20) → (a0.Group.length ≤ maxLen → cnd (decide ((0 : Int) < (a0.Group.length : Int))) (∃ z23, (yc8 a0.Group z23) ∧ (([32, 71, 82, 79, 85, 80, 32, 66, 89, 32] : Str).length + z23.length ≤ 9223372036854775807) ∧ (z19.length + (([32, 71, 82, 79, 85, 80, 32, 66, 89, 32] : Str) ++ z23).length ≤ 9223372036854775807) ∧ J7 (z19 ++ (([32, 71, 82, 79, 85, 80, 32, 66, 89, 32] : Str) ++ z23))) (J7 z19))
def yis (a0 : yaf) (x1 : Str) (J6 : Str → Prop) (x24 : Str) : Prop :=
 (x24.length + ([32, 74, 79, 73, 78] : Str).length ≤ 9223372036854775807) ∧ ∃ z25, (yar (x24 ++ ([32, 74, 79, 73, 78] : Str)) ([32] : Str) a0.Other z25) ∧ ∃ z26, (yar z25 ([32] : Str) a0.Named z26) ∧ (z26.length + ([32, 79, 78] : Str).length ≤ 9223372036854775807) ∧ ∃ z27, (ybM (yaa.mk a0.On.x0.Kind a0.On.x0.Op (⟨a0.On.x0.V.Kind, a0.On.x0.V.N, a0.On.x0.V.S⟩ : yad) a0.On.x0.Table a0.On.x0.Name a0.On.x0.L) z27) ∧ ∃ z28, (yar (z26 ++ ([32, 79, 78] : Str)) ([32] : Str) z27 z28) ∧ ∃ z29, (yar z28 ([32] : Str) ([61] : Str) z29) ∧ ∃ z30, (ybM (yaa.mk a0.On.x1.Kind a0.On.x1.Op (⟨a0.On.x1.V.Kind, a0.On.x1.V.N, a0.On.x1.V.S⟩ : yad) a0.On.x1.Table a0.On.x1.Name a0.On.x1.L) z30) ∧ ∃ z31, (yar z29 ([32] : Str) z30 z31) ∧ J6 z31
def yom (x1 : Str) (a0 : yaf) (r0 x12 : Str) : Prop :=
 ∃ z13, (yar x1 ([32] : Str) x12 z13) ∧ ∃ z14, (yar z13 ([32] : Str) ([70, 82, 79, 77] : Str) z14) ∧ ∃ z15, (yar z14 ([32] : Str) a0.From z15) ∧ ∃ z16, (yar z15 ([32] : Str) a0.Alias z16) ∧ ∀ J6 : Str → Prop, (∀ x17, yne a0 r0 x17 → J6 x17) → cnd a0.Join (∀ J8 : Str → Prop, (∀ x24, yis a0 x1 J6 x24 → J8 x24) → cnd a0.Left ((z16.length + ([32, 76, 69, 70, 84] : Str).length ≤ 9223372036854775807) ∧ J8 (z16 ++ ([32, 76, 69, 70, 84] : Str))) (J8 z16)) (J6 z16)
def yn2 (a0 : yaf) (x1 r0 : Str) (X2 : Str → Int → Prop) (x2 : Str) (x3 : Int) : Prop :=
 (a0.Items.length ≤ maxLen → cnd (decide (x3 < (a0.Items.length : Int))) (∀ J3 : Str → Prop, (∀ x4, ynJ x3 a0 X2 x4 → J3 x4) → cnd (decide ((0 : Int) < x3)) ((x2.length + ([44, 32] : Str).length ≤ 9223372036854775807) ∧ J3 (x2 ++ ([44, 32] : Str))) (J3 x2)) (∀ J5 : Str → Prop, (∀ x12, yom x1 a0 r0 x12 → J5 x12) → (a0.Items.length ≤ maxLen → cnd ((a0.Items.length : Int) == (0 : Int)) (J5 ([42] : Str)) (J5 x2))))
def yok (a0 : yaf) (r0 x1 : Str) : Prop :=
 ∀ X2 : Str → Int → Prop, (∀ x2 x3, yn2 a0 x1 r0 X2 x2 x3 → X2 x2 x3) → X2 ([] : Str) (0 : Int)
def yey (a0 : yaf) (r0 : Str) : Prop :=
 ∀ J1 : Str → Prop, (∀ x1, yok a0 r0 x1 → J1 x1) → cnd a0.Distinct ((([83, 69, 76, 69, 67, 84] : Str).length + ([32, 68, 73, 83, 84, 73, 78, 67, 84] : Str).length ≤ 9223372036854775807) ∧ J1 (([83, 69, 76, 69, 67, 84] : Str) ++ ([32, 68, 73, 83, 84, 73, 78, 67, 84] : Str))) (J1 ([83, 69, 76, 69, 67, 84] : Str))
def yjn : Sp KK := ⟨40, [.v 76], [9], appW (K := KK) [9] [.v 76] yey⟩
def ynU : An KK := (.s .o (.s .o (.j ⟨[(1, .px 1 0), (3, .st)], [(1, 76, (kps 1 27))], []⟩ (.s .o (.c .o .o)) (fun _ => (.s .o (.s (.s .o (.b (.l ⟨[(1, .px 1 0), (3, .kp 41), (4, .st), (5, .it .i64)], [(1, 76, (kps 1 27))], []⟩ (fun _ => (.s (.s .o (.c .o .o)) (.s (.b (.j ⟨[(1, .px 1 0), (3, .kp 41), (4, .st), (5, .kp 52)], [(1, 76, (kps 1 27))], []⟩ (.s .o (.c .o .o)) (fun _ => (.s .o (.j ⟨[(1, .px 1 0), (3, .kp 41), (4, .kp 53), (5, .kp 52), (6, .st)], [(1, 76, (kps 1 27))], []⟩ (.s .o (.c .o .o)) (fun _ => .o)))))) .o)))))) (.j ⟨[(1, .px 1 0), (3, .kp 41), (4, .st)], [(1, 76, (kps 1 27))], []⟩ (.s .o (.c .o .o)) (fun _ => (.s .o (.s .o (.j ⟨[(1, .px 1 0), (3, .st)], [(1, 76, (kps 1 27))], []⟩ (.s .o (.c (.j ⟨[(1, .px 1 0), (3, .st)], [(1, 76, (kps 1 27))], []⟩ (.s .o (.c .o .o)) (fun _ => (.s .o .o))) .o)) (fun _ => (.s .o (.j ⟨[(1, .px 1 0), (3, .st)], [(1, 76, (kps 1 27))], []⟩ (.s .o (.c .o .o)) (fun _ => (.s .o .o))))))))))))))))
def ynx : Cf KK := ⟨CC, [yda, yd7, yfx, yeY], [], 110⟩
theorem ynf : SpOk Tryz.prog CC yjn := yaz (F := ynx) (ps := [.v 76]) (rs := [9]) (w := yey) yaU (yap yd5 (yap yf1 (yap yiv (yap yhf yaA)))) yaB t40 (A := ynU) (by kernel_rfl) (by kernel_rfl) fun a0 r0 => show _ = _ by kernel_rfl
def yiH (x2 : Int) (a0 : yav) (x1 : Str) (X1 : Str → Int → Prop) (x3 : Str) : Prop :=
 (0 ≤ x2) ∧ (x2 < (a0.Cores.length : Int)) ∧ ∃ y4 : yaf, (a0.Cores[x2.toNat]? = some y4) ∧ ∃ z5, (yey (⟨y4.Distinct, y4.Items, y4.From, y4.Alias, y4.Join, y4.Left, y4.Other, y4.Named, (⟨(yaa.mk y4.On.x0.Kind y4.On.x0.Op (⟨y4.On.x0.V.Kind, y4.On.x0.V.N, y4.On.x0.V.S⟩ : yad) y4.On.x0.Table y4.On.x0.Name y4.On.x0.L), (yaa.mk y4.On.x1.Kind y4.On.x1.Op (⟨y4.On.x1.V.Kind, y4.On.x1.V.N, y4.On.x1.V.S⟩ : yad) y4.On.x1.Table y4.On.x1.Name y4.On.x1.L)⟩ : yaL), y4.Where, y4.Group, y4.Having⟩ : yaf) z5) ∧ (x3.length + z5.length ≤ 9223372036854775807) ∧ X1 (x3 ++ z5) (IntKind.i64.wrap (x2 + (1 : Int)))
def yeK (x7 : Int) (X3 : Str → Int → Prop) (x6 x9 : Str) : Prop :=
 cnd (x7 == (0 : Int)) ((([79, 82, 68, 69, 82, 32, 66, 89, 32] : Str).length + x9.length ≤ 9223372036854775807) ∧ X3 (([79, 82, 68, 69, 82, 32, 66, 89, 32] : Str) ++ x9) (IntKind.i64.wrap (x7 + (1 : Int)))) ((([44, 32] : Str).length + x9.length ≤ 9223372036854775807) ∧ (x6.length + (([44, 32] : Str) ++ x9).length ≤ 9223372036854775807) ∧ X3 (x6 ++ (([44, 32] : Str) ++ x9)) (IntKind.i64.wrap (x7 + (1 : Int))))
def yi9 (a0 : yav) (x1 r0 : Str) (X3 : Str → Int → Prop) (x6 : Str) (x7 : Int) : Prop :=
 (a0.Order.length ≤ maxLen → cnd (decide (x7 < (a0.Order.length : Int))) ((0 ≤ x7) ∧ (x7 < (a0.Order.length : Int)) ∧ ∃ y8 : yaj, (a0.Order[x7.toNat]? = some y8) ∧ ∀ J4 : Str → Prop, (∀ x9, yeK x7 X3 x6 x9 → J4 x9) → (0 ≤ x7) ∧ (x7 < (a0.Order.length : Int)) ∧ ∃ y10 : yaj, (a0.Order[x7.toNat]? = some y10) ∧ cnd y10.Desc (∃ z11, (yar y8.Name ([32] : Str) ([68, 69, 83, 67] : Str) z11) ∧ J4 z11) (J4 y8.Name)) (∃ z12, (yar x1 ([32] : Str) x6 z12) ∧ (a0.Limit.length ≤ maxLen → cnd (decide ((0 : Int) < (a0.Limit.length : Int))) ((0 ≤ (0 : Int)) ∧ ((0 : Int) < (a0.Limit.length : Int)) ∧ ∃ y13 : Int, (a0.Limit[(0 : Int).toNat]? = some y13) ∧ ∃ z14, (yck y13 z14) ∧ (([76, 73, 77, 73, 84, 32] : Str).length + z14.length ≤ 9223372036854775807) ∧ ∃ z15, (yar z12 ([32] : Str) (([76, 73, 77, 73, 84, 32] : Str) ++ z14) z15) ∧ z15 = r0) (z12 = r0))))
def yil (a0 : yav) (r0 : Str) (X1 : Str → Int → Prop) (x1 : Str) (x2 : Int) : Prop :=
 (a0.Cores.length ≤ maxLen → cnd (decide (x2 < (a0.Cores.length : Int))) (∀ J2 : Str → Prop, (∀ x3, yiH x2 a0 x1 X1 x3 → J2 x3) → cnd (decide ((0 : Int) < x2)) ((x1.length + ([32, 85, 78, 73, 79, 78, 32, 65, 76, 76, 32] : Str).length ≤ 9223372036854775807) ∧ J2 (x1 ++ ([32, 85, 78, 73, 79, 78, 32, 65, 76, 76, 32] : Str))) (J2 x1)) (∀ X3 : Str → Int → Prop, (∀ x6 x7, yi9 a0 x1 r0 X3 x6 x7 → X3 x6 x7) → X3 ([] : Str) (0 : Int)))
def ybz (a0 : yav) (r0 : Str) : Prop :=
 ∀ X1 : Str → Int → Prop, (∀ x1 x2, yil a0 r0 X1 x1 x2 → X1 x1 x2) → X1 ([] : Str) (0 : Int)
def ydi : Sp KK := ⟨10, [.v 35], [9], appW (K := KK) [9] [.v 35] ybz⟩
def yiE : An KK := (.s .o (.s .o (.s (.s .o (.b (.l ⟨[(1, .px 1 0), (3, .st), (4, .it .i64)], [(1, 35, [.kp 12, .kp 13, .kp 14])], []⟩ (fun _ => (.s (.s .o (.c .o .o)) (.s (.b (.j ⟨[(1, .px 1 0), (3, .st), (4, .kp 18)], [(1, 35, [.kp 12, .kp 13, .kp 14])], []⟩ (.s .o (.c .o .o)) (fun _ => .o))) .o)))))) (.s .o (.s (.s .o (.b (.l ⟨[(1, .px 1 0), (3, .kp 30), (5, .st), (6, .it .i64)], [(1, 35, [.kp 12, .kp 13, .kp 14])], []⟩ (fun _ => (.s (.s .o (.c .o .o)) (.s (.b (.s .o (.j ⟨[(1, .px 1 0), (3, .kp 30), (5, .kp 39), (6, .kp 40), (7, .st)], [(1, 35, [.kp 12, .kp 13, .kp 14])], []⟩ (.s .o (.c .o .o)) (fun _ => (.s .o (.c .o .o)))))) .o)))))) (.s .o (.s (.s .o (.c .o .o)) (.s .o .o))))))))
def yig : Cf KK := ⟨CC, [yjn, yd7, yc3], [], 72⟩
theorem yeM : SpOk Tryz.prog CC ydi := yaz (F := yig) (ps := [.v 35]) (rs := [9]) (w := ybz) yaU (yap ynf (yap yf1 (yap yej yaA))) yaB t10 (A := yiE) (by kernel_rfl) (by kernel_rfl) fun a0 r0 => show _ = _ by kernel_rfl
def yc6 (a0 r0 : Str) : Prop :=
 cnd (a0 == ([] : Str)) (([] : Str) = r0) ((([32] : Str).length + a0.length ≤ 9223372036854775807) ∧ (([32] : Str) ++ a0) = r0)
def yhi : Sp KK := ⟨34, [.v 9], [9], appW (K := KK) [9] [.v 9] yc6⟩
def ymp : An KK := (.s .o (.s (.s .o (.c (.s .o .o) .o)) (.s .o .o)))
def ymr : Cf KK := ⟨CC, [], [], 7⟩
theorem ymy : SpOk Tryz.prog CC yhi := yaz (F := ymr) (ps := [.v 9]) (rs := [9]) (w := yc6) yaU yaA yaB t34 (A := ymp) (by kernel_rfl) (by kernel_rfl) fun a0 r0 => show _ = _ by kernel_rfl
def yoQ (x5 : Str) (X1 : Str → Int → Prop) (x3 : Int) (x8 : Str) : Prop :=
 (x5.length + x8.length ≤ 9223372036854775807) ∧ X1 (x5 ++ x8) (IntKind.i64.wrap (x3 + (1 : Int)))
def ym9 (y4 : yah) (X1 : Str → Int → Prop) (x3 : Int) (x5 : Str) : Prop :=
 ∃ z6, (ydL y4.Kind z6) ∧ ∃ z7, (yar y4.Name ([32] : Str) z6 z7) ∧ ∀ J3 : Str → Prop, (∀ x8, yoQ x5 X1 x3 x8 → J3 x8) → cnd y4.Key (∃ z9, (yar z7 ([32] : Str) ([80, 82, 73, 77, 65, 82, 89, 32, 75, 69, 89] : Str) z9) ∧ J3 z9) (J3 z7)
def yij (a0 : yas) (r0 : Str) (X1 : Str → Int → Prop) (x2 : Str) (x3 : Int) : Prop :=
 (a0.Columns.length ≤ maxLen → cnd (decide (x3 < (a0.Columns.length : Int))) ((0 ≤ x3) ∧ (x3 < (a0.Columns.length : Int)) ∧ ∃ y4 : yah, (a0.Columns[x3.toNat]? = some y4) ∧ ∀ J2 : Str → Prop, (∀ x5, ym9 y4 X1 x3 x5 → J2 x5) → cnd (decide ((0 : Int) < x3)) ((x2.length + ([44, 32] : Str).length ≤ 9223372036854775807) ∧ J2 (x2 ++ ([44, 32] : Str))) (J2 x2)) ((x2.length + ([41] : Str).length ≤ 9223372036854775807) ∧ (x2 ++ ([41] : Str)) = r0))
def ynv (x13 : Int) (a0 : yas) (X4 : Str → Int → Prop) (x14 : Str) : Prop :=
 (0 ≤ x13) ∧ (x13 < (a0.Rows.length : Int)) ∧ ∃ y15 : (List yaa), (a0.Rows[x13.toNat]? = some y15) ∧ ∃ z16, (yc8 y15 z16) ∧ (([32, 40] : Str).length + z16.length ≤ 9223372036854775807) ∧ ((([32, 40] : Str) ++ z16).length + ([41] : Str).length ≤ 9223372036854775807) ∧ (x14.length + ((([32, 40] : Str) ++ z16) ++ ([41] : Str)).length ≤ 9223372036854775807) ∧ X4 (x14 ++ ((([32, 40] : Str) ++ z16) ++ ([41] : Str))) (IntKind.i64.wrap (x13 + (1 : Int)))
def yiy (a0 : yas) (r0 : Str) (X4 : Str → Int → Prop) (x12 : Str) (x13 : Int) : Prop :=
 (a0.Rows.length ≤ maxLen → cnd (decide (x13 < (a0.Rows.length : Int))) (∀ J5 : Str → Prop, (∀ x14, ynv x13 a0 X4 x14 → J5 x14) → cnd (decide ((0 : Int) < x13)) ((x12.length + ([44] : Str).length ≤ 9223372036854775807) ∧ J5 (x12 ++ ([44] : Str))) (J5 x12)) (x12 = r0))
def yoe (x22 : Int) (a0 : yas) (X6 : Str → Int → Prop) (x23 : Str) : Prop :=
 (0 ≤ x22) ∧ (x22 < (a0.Sets.length : Int)) ∧ ∃ y24 : yaq, (a0.Sets[x22.toNat]? = some y24) ∧ (y24.Name.length + ([32, 61, 32] : Str).length ≤ 9223372036854775807) ∧ (0 ≤ x22) ∧ (x22 < (a0.Sets.length : Int)) ∧ ∃ y25 : yaq, (a0.Sets[x22.toNat]? = some y25) ∧ ∃ z26, (ybM (yaa.mk y25.E.Kind y25.E.Op (⟨y25.E.V.Kind, y25.E.V.N, y25.E.V.S⟩ : yad) y25.E.Table y25.E.Name y25.E.L) z26) ∧ ((y24.Name ++ ([32, 61, 32] : Str)).length + z26.length ≤ 9223372036854775807) ∧ (x23.length + ((y24.Name ++ ([32, 61, 32] : Str)) ++ z26).length ≤ 9223372036854775807) ∧ X6 (x23 ++ ((y24.Name ++ ([32, 61, 32] : Str)) ++ z26)) (IntKind.i64.wrap (x22 + (1 : Int)))
def yiD (a0 : yas) (z20 r0 : Str) (X6 : Str → Int → Prop) (x21 : Str) (x22 : Int) : Prop :=
 (a0.Sets.length ≤ maxLen → cnd (decide (x22 < (a0.Sets.length : Int))) (∀ J7 : Str → Prop, (∀ x23, yoe x22 a0 X6 x23 → J7 x23) → cnd (decide ((0 : Int) < x22)) ((x21.length + ([44, 32] : Str).length ≤ 9223372036854775807) ∧ J7 (x21 ++ ([44, 32] : Str))) (J7 x21)) (∃ z27, (yar (z20 ++ ([32, 83, 69, 84] : Str)) ([32] : Str) x21 z27) ∧ ∃ z28, (ycz ([87, 72, 69, 82, 69] : Str) a0.Where z28) ∧ ∃ z29, (yar z27 ([32] : Str) z28 z29) ∧ z29 = r0))
def ydM (a0 : yas) (r0 : Str) : Prop :=
 cnd (a0.Kind == (1 : Int)) (∃ z1, (yar ([67, 82, 69, 65, 84, 69, 32, 84, 65, 66, 76, 69] : Str) ([32] : Str) a0.Name z1) ∧ (z1.length + ([32, 40] : Str).length ≤ 9223372036854775807) ∧ ∀ X1 : Str → Int → Prop, (∀ x2 x3, yij a0 r0 X1 x2 x3 → X1 x2 x3) → X1 (z1 ++ ([32, 40] : Str)) (0 : Int)) (cnd (a0.Kind == (2 : Int)) (∃ z10, (yar ([68, 82, 79, 80, 32, 84, 65, 66, 76, 69] : Str) ([32] : Str) a0.Name z10) ∧ z10 = r0) (cnd (a0.Kind == (3 : Int)) (∃ z11, (yar ([73, 78, 83, 69, 82, 84, 32, 73, 78, 84, 79] : Str) ([32] : Str) a0.Name z11) ∧ (z11.length + ([32, 86, 65, 76, 85, 69, 83] : Str).length ≤ 9223372036854775807) ∧ ∀ X4 : Str → Int → Prop, (∀ x12 x13, yiy a0 r0 X4 x12 x13 → X4 x12 x13) → X4 (z11 ++ ([32, 86, 65, 76, 85, 69, 83] : Str)) (0 : Int)) (cnd (a0.Kind == (4 : Int)) (∃ z17, (yar ([68, 69, 76, 69, 84, 69, 32, 70, 82, 79, 77] : Str) ([32] : Str) a0.Name z17) ∧ ∃ z18, (ycz ([87, 72, 69, 82, 69] : Str) a0.Where z18) ∧ ∃ z19, (yar z17 ([32] : Str) z18 z19) ∧ z19 = r0) (cnd (a0.Kind == (5 : Int)) (∃ z20, (yar ([85, 80, 68, 65, 84, 69] : Str) ([32] : Str) a0.Name z20) ∧ (z20.length + ([32, 83, 69, 84] : Str).length ≤ 9223372036854775807) ∧ ∀ X6 : Str → Int → Prop, (∀ x21 x22, yiD a0 z20 r0 X6 x21 x22 → X6 x21 x22) → X6 ([] : Str) (0 : Int)) (cnd (a0.Kind == (6 : Int)) (∃ z30, (yar ([67, 82, 69, 65, 84, 69, 32, 86, 73, 69, 87] : Str) ([32] : Str) a0.Name z30) ∧ ∃ z31, (yar z30 ([32] : Str) ([65, 83] : Str) z31) ∧ ∃ z32, (ybz (⟨a0.Query.Cores, a0.Query.Order, a0.Query.Limit⟩ : yav) z32) ∧ ∃ z33, (yc6 z32 z33) ∧ (z31.length + z33.length ≤ 9223372036854775807) ∧ (z31 ++ z33) = r0) (cnd (a0.Kind == (7 : Int)) (∃ z34, (yar ([68, 82, 79, 80, 32, 86, 73, 69, 87] : Str) ([32] : Str) a0.Name z34) ∧ z34 = r0) (cnd (a0.Kind == (8 : Int)) (∃ z35, (ybz (⟨a0.Query.Cores, a0.Query.Order, a0.Query.Limit⟩ : yav) z35) ∧ z35 = r0) (cnd (a0.Kind == (9 : Int)) (∃ z36, (yar ([82, 69, 65, 68] : Str) ([32] : Str) a0.Name z36) ∧ z36 = r0) (cnd (a0.Kind == (10 : Int)) (∃ z37, (yck a0.N z37) ∧ (([80, 82, 79, 80, 65, 71, 65, 84, 69, 32] : Str).length + z37.length ≤ 9223372036854775807) ∧ (([80, 82, 79, 80, 65, 71, 65, 84, 69, 32] : Str) ++ z37) = r0) (([] : Str) = r0))))))))))
def yiP : Sp KK := ⟨8, [.v 37], [9], appW (K := KK) [9] [.v 37] ydM⟩
def ynd : An KK := (.s .o (.s .o (.s (.s .o (.b (.s .o (.c (.s .o (.s (.s .o (.b (.l ⟨[(1, .px 1 0), (3, .st), (4, .it .i64)], [(1, 37, (kps 189 10))], []⟩ (fun _ => (.s (.s .o (.c .o .o)) (.s (.b (.s .o (.j ⟨[(1, .px 1 0), (3, .st), (4, .kp 222), (5, .px 5 0)], [(1, 37, (kps 189 10)), (5, 65, [.kp 223, .kp 224, .kp 225])], []⟩ (.s .o (.c .o .o)) (fun _ => (.s .o (.j ⟨[(1, .px 1 0), (3, .kp 226), (4, .kp 222), (6, .st)], [(1, 37, (kps 189 10))], []⟩ (.s .o (.c .o .o)) (fun _ => .o))))))) .o)))))) (.s .o .o))) (.s .o (.c (.s .o .o) (.s .o (.c (.s .o (.s (.s .o (.b (.l ⟨[(1, .px 1 0), (3, .st), (7, .it .i64)], [(1, 37, (kps 245 10))], []⟩ (fun _ => (.s (.s .o (.c .o .o)) (.s (.b (.j ⟨[(1, .px 1 0), (3, .st), (7, .kp 258)], [(1, 37, (kps 245 10))], []⟩ (.s .o (.c .o .o)) (fun _ => .o))) .o)))))) (.s .o .o))) (.s .o (.c (.s .o .o) (.s .o (.c (.s .o (.s .o (.s (.s .o (.b (.l ⟨[(1, .px 1 0), (3, .kp 276), (8, .st), (9, .it .i64)], [(1, 37, (kps 279 10))], []⟩ (fun _ => (.s (.s .o (.c .o .o)) (.s (.b (.j ⟨[(1, .px 1 0), (3, .kp 276), (8, .st), (9, .kp 292)], [(1, 37, (kps 279 10))], []⟩ (.s .o (.c .o .o)) (fun _ => .o))) .o)))))) (.s .o .o)))) (.s .o (.c (.s .o .o) (.s .o (.c (.s .o .o) (.s .o (.c (.s .o .o) (.s .o (.c (.s .o .o) (.s .o (.c (.s .o .o) .o)))))))))))))))))))))) (.s .o .o))))
def ynT : Cf KK := ⟨CC, [yd7, yiS, yeY, yfx, yda, ydi, yhi, yc3], [], 165⟩
theorem ynF : SpOk Tryz.prog CC yiP := yaz (F := ynT) (ps := [.v 37]) (rs := [9]) (w := ydM) yaU (yap yf1 (yap ynh (yap yhf (yap yiv (yap yd5 (yap yeM (yap ymy (yap yej yaA)))))))) yaB t8 (A := ynd) (by kernel_rfl) (by kernel_rfl) fun a0 r0 => show _ = _ by kernel_rfl
def ybA (a0 : yaE) (r0 : Bool) : Prop :=
 ∃ z1, (ydC z1) ∧ cnd (!z1) (false = r0) (∃ z2, (yez a0 z2) ∧ ∃ z3, (yeC (⟨z2.Kind, z2.Name, z2.Columns, z2.Rows, z2.Sets, z2.Where, (⟨z2.Query.Cores, z2.Query.Order, z2.Query.Limit⟩ : yav), z2.N⟩ : yas) z3) ∧ ∃ z4, (yds (⟨z3.Kind, z3.Name, z3.Columns, z3.Rows, z3.Sets, z3.Where, (⟨z3.Query.Cores, z3.Query.Order, z3.Query.Limit⟩ : yaw), z3.N⟩ : yaO) z4) ∧ ∃ z5, (ydM (⟨z2.Kind, z2.Name, z2.Columns, z2.Rows, z2.Sets, z2.Where, (⟨z2.Query.Cores, z2.Query.Order, z2.Query.Limit⟩ : yav), z2.N⟩ : yas) z5) ∧ cnd (z4 == z5) (∃ z6, (yby (⟨z3.Query.Cores, z3.Query.Order, z3.Query.Limit⟩ : yaw) z6) ∧ ∃ z7, (ybz (⟨z2.Query.Cores, z2.Query.Order, z2.Query.Limit⟩ : yav) z7) ∧ cnd (z6 == z7) (∃ z8, (yds (⟨z3.Kind, z3.Name, z3.Columns, z3.Rows, z3.Sets, z3.Where, (⟨z3.Query.Cores, z3.Query.Order, z3.Query.Limit⟩ : yaw), z3.N⟩ : yaO) z8) ∧ (!(z8 == ([] : Str))) = r0) (false = r0)) (false = r0))
def yco : Sp KK := ⟨3, [.v 25], [4], appW (K := KK) [4] [.v 25] ybA⟩
def yi4 : An KK := (.s .o (.s (.s .o (.c (.s .o .o) .o)) (.s .o (.s .o (.s .o .o)))))
def yi6 : Cf KK := ⟨CC, [ygz, yiZ, yiK, ygr, yiP, ydf, ydi], [], 30⟩
theorem yih : SpOk Tryz.prog CC yco := yaz (F := yi6) (ps := [.v 25]) (rs := [4]) (w := ybA) yaU (yap ylP (yap ym8 (yap ynz (yap yku (yap ynF (yap yew (yap yeM yaA))))))) yaB t3 (A := yi4) (by kernel_rfl) (by kernel_rfl) fun a0 r0 => show _ = _ by kernel_rfl
end Go.Proofs.YteoohihaibgplaaGreatDoor
end
noncomputable section
namespace Go.Proofs.YteoohihaibgplaaGreatDoor
open Go.AV Go.RowKit
abbrev V := yae
def Rg (n : Int) : Prop := -9223372036854775808 ≤ n ∧ n ≤ 9223372036854775807
def good (v : V) : Prop := (v.Kind = 0 ∧ v.N = 0 ∧ v.S = []) ∨ (v.Kind = 1 ∧ (v.N = 0 ∨ v.N = 1) ∧ v.S = []) ∨ (v.Kind = 2 ∧ Rg v.N ∧ v.S = []) ∨ (v.Kind = 3 ∧ v.N = 0 ∧ v.S.length ≤ 64)
def D0 : V := ⟨0, 0, []⟩
def bV (b : Bool) : V := ⟨1, if b then 1 else 0, []⟩
def eqV (a b : V) : Bool := (a.Kind == b.Kind) && ((a.N == b.N) && ((a.S == b.S) && true))
theorem ylM {a b : V} : eqV a b = true ↔ a = b := by
 cases a; cases b; simp [eqV]
theorem yz9 (v : V) : ybO v (v.Kind == 0) := by
 unfold ybO; grind [cnd]
theorem yxA (b : Bool) : ycJ b (bV b) := by
 unfold ycJ; cases b <;> simp [cnd, bV]
theorem yyq (n : Int) : yde n ⟨2, n, []⟩ := by unfold yde; rfl
theorem yAf (v : V) : ybP v (eqV v (bV true)) := ⟨_, yxA true, rfl⟩
theorem yqv {s : Str} {i : Nat} (h : i < s.length) : bAt s (i : Int) = (s[i].toNat : Int) := by
 unfold bAt
 rw [Int.toNat_natCast, List.getElem?_eq_getElem h]; rfl
theorem yz5 {a : V} (h : good a) : Rg a.N := by
 unfold good at h; unfold Rg at *
 rcases h with h | h | h | h <;> omega
theorem yys {a : V} (h : good a) : a.S.length ≤ 64 := by
 unfold good at h
 rcases h with h | h | h | h
 ·rw [h.2.2]; simp
 ·rw [h.2.2]; simp
 ·rw [h.2.2]; simp
 ·exact h.2.2
def yfG (v : V) : Bool := if v.Kind = 0 then eqV v D0 else if v.Kind = 1 then (v.N == 0 || v.N == 1) && v.S == [] else if v.Kind = 2 then v.S == [] else if v.Kind = 3 then v.N == 0 && decide ((v.S.length : Int) ≤ 64) else false
theorem yvH (v : V) : ybi v (yfG v) := by
 unfold ybi
 have e : ((v.Kind == 0) && ((v.N == 0) && ((v.S == ([] : Str)) && true))) = eqV v D0 := rfl
 rw [e]
 unfold yfG
 generalize eqV v D0 = z
 refine ⟨fun c => ?_, fun c => ⟨fun c1 => ?_, fun c1 => ⟨fun c2 => ?_, fun c2 => ⟨fun c3 => ?_, fun c3 => ?_⟩⟩⟩⟩ <;> simp only [beq_iff_eq, beq_eq_false_iff_ne, ne_eq] at * <;> grind [cnd]
def yer (v : V) : Str := if !yfG v || v.Kind == 0 then [78, 85, 76, 76] else if eqV v (bV true) then [84, 82, 85, 69] else if v.Kind = 1 then [70, 65, 76, 83, 69] else if v.Kind = 2 then Go.Lib.itoa v.N else [39] ++ Go.Lib.replaceAll v.S [39] [39, 39] ++ [39]
theorem yzS {v : V} (hr : Rg v.N) (hl : (Go.Lib.replaceAll v.S [39] [39, 39]).length ≤ 100000) (hs : v.S.length ≤ 1000) : ybR v (yer v) := by
 intro J1 hJ1
 have g := yvH v
 have n := yz9 v
 have t := yAf v
 unfold Rg at hr
 have f : ya0 v.N 10 (Go.Lib.itoa v.N) := ⟨rfl, hr.1, hr.2, rfl⟩
 have r : ybl v.S [39] [39, 39] (Go.Lib.replaceAll v.S [39] [39, 39]) := ⟨by omega, by simp, by simp, rfl⟩
 have tail : ∀ b : Bool, (b = true → (!yfG v || v.Kind == 0) = true) → (b = false → (!yfG v || v.Kind == 0) = false) → cnd b (([78, 85, 76, 76] : Str) = yer v) (∃ z2 : Bool, (ybP v z2) ∧ cnd z2 (([84, 82, 85, 69] : Str) = yer v) (cnd (v.Kind == (1 : Int)) (([70, 65, 76, 83, 69] : Str) = yer v) (cnd (v.Kind == (2 : Int)) (∃ z3 : Str, (ya0 v.N (10 : Int) z3) ∧ z3 = yer v) (∃ z4 : Str, (ybl v.S ([39] : Str) ([39, 39] : Str) z4) ∧ (([39] : Str).length + z4.length ≤ 9223372036854775807) ∧ ((([39] : Str) ++ z4).length + ([39] : Str).length ≤ 9223372036854775807) ∧ ((([39] : Str) ++ z4) ++ ([39] : Str)) = yer v)))) := by
  intro b h1 h2
  refine ⟨fun e => ?_, fun e => ⟨_, t, fun c => ?_, fun c => ⟨fun c1 => ?_, fun c1 => ⟨fun c2 => ⟨_, f, ?_⟩, fun c2 => ⟨_, r, ?_, ?_, ?_⟩⟩⟩⟩⟩
  ·unfold yer; rw [if_pos (h1 e)]
  ·unfold yer; rw [h2 e, if_neg (by simp), if_pos c]
  ·have c1 : v.Kind = 1 := by simpa using c1
   unfold yer; rw [h2 e, if_neg (by simp), c, if_neg (by simp), if_pos c1]
  ·have c1 : ¬ v.Kind = 1 := by simpa using c1
   have c2 : v.Kind = 2 := by simpa using c2
   unfold yer; rw [h2 e, if_neg (by simp), c, if_neg (by simp), if_neg c1, if_pos c2]
  ·simp; omega
  ·simp; omega
  ·have c1 : ¬ v.Kind = 1 := by simpa using c1
   have c2 : ¬ v.Kind = 2 := by simpa using c2
   unfold yer; rw [h2 e, if_neg (by simp), c, if_neg (by simp), if_neg c1, if_neg c2]
 refine ⟨_, g, fun c => ?_, fun c => ⟨_, n, ?_⟩⟩
 ·exact hJ1 _ (tail true (fun _ => by rw [c]; rfl) (fun q => (by cases q)))
 ·exact hJ1 _ (tail _ (fun q => by rw [q]; simp) (fun q => by rw [q, c]; rfl))
def dq (s : Str) : Str := s.flatMap fun c => if c = 39 then [39, 39] else [c]
theorem yrN (s : Str) : (dq s).length ≤ 2 * s.length := by
 induction s with
 | nil => simp [dq]
 | cons c s ih =>
   have : (dq (c :: s)).length = (if c = 39 then [39, 39] else [c]).length + (dq s).length := by simp [dq]
   rw [this]; split <;> simp <;> omega
theorem ys6 (a b : Str) : dq (a ++ b) = dq a ++ dq b := by simp [dq]
theorem yyS {s : Str} (h : ∀ c ∈ s, c ≠ 39) : dq s = s := by
 induction s with
 | nil => rfl
 | cons c s ih =>
   have e : dq (c :: s) = (if c = 39 then [39, 39] else [c]) ++ dq s := rfl
   rw [e, if_neg (h c (by simp)), ih fun d hd => h d (List.mem_cons_of_mem _ hd)]; rfl
theorem yxy (s : Str) (j : Nat) : Go.Lib.occAt s [39] j = true ↔ s[j]? = some 39 := by
 unfold Go.Lib.occAt
 by_cases h : j < s.length
 ·rw [List.drop_eq_getElem_cons h, List.getElem?_eq_getElem h]
  simp [List.isPrefixOf]
  exact eq_comm
 ·rw [List.drop_of_length_le (by omega), List.getElem?_eq_none (by omega)]; simp
theorem yyL : ∀ (n : Nat) (s : Str), s.length ≤ n → Go.Lib.replaceK [39] [39, 39] (Go.Lib.count s [39]) s = dq s := by
 intro n
 induction n with
 | zero =>
   intro s hs
   have : s = [] := List.eq_nil_of_length_eq_zero (by omega)
   subst this; rfl
 | succ n ih =>
   intro s hs
   rcases Go.Lib.index_spec s [39] with ⟨h1, h2⟩ | ⟨i, h1, h2, h3, h4⟩
   ·have hc : Go.Lib.count s [39] = 0 := by
     unfold Go.Lib.count Go.Lib.countFrom
     rw [h1]; rfl
    rw [hc]
    have : ∀ c ∈ s, c ≠ 39 := by
     intro c hm e
     subst e
     obtain ⟨j, hj⟩ := List.getElem?_of_mem hm
     have hlt : j < s.length := (List.getElem?_eq_some_iff.1 hj).1
     have := h2 j (by omega)
     rw [(yxy s j).2 hj] at this; cases this
    rw [yyS this]; rfl
   ·have hi := (yxy s i).1 h3
    have hlt : i < s.length := (List.getElem?_eq_some_iff.1 hi).1
    have hc : Go.Lib.count s [39] = Go.Lib.count (s.drop (i + 1)) [39] + 1 := by
     rw [Go.Lib.count_hit (by simp) h1, Nat.add_comm]; rfl
    rw [hc, Go.Lib.replaceK_hit _ _ _ _ i h1]
    show s.take i ++ [39, 39] ++ Go.Lib.replaceK [39] [39, 39] (Go.Lib.count (s.drop (i + 1)) [39]) (s.drop (i + 1)) = dq s
    rw [ih (s.drop (i + 1)) (by rw [List.length_drop]; omega)]
    have hs' : s = s.take i ++ ([39] ++ s.drop (i + 1)) := by
     have e1 : s[i] = 39 := by rw [List.getElem?_eq_getElem hlt] at hi; exact Option.some.inj hi
     have := List.drop_eq_getElem_cons hlt
     rw [e1] at this
     conv => lhs; rw [← List.take_append_drop i s, this]
     rfl
    have hd : dq s = dq (s.take i) ++ ([39, 39] ++ dq (s.drop (i + 1))) := by
     conv => lhs; rw [hs', ys6, ys6]
     rfl
    have ht : dq (s.take i) = s.take i := by
     refine yyS fun c hm e => ?_
     subst e
     obtain ⟨j, hj⟩ := List.getElem?_of_mem hm
     have hlt' : j < (s.take i).length := (List.getElem?_eq_some_iff.1 hj).1
     rw [List.length_take] at hlt'
     rw [List.getElem?_take, if_pos (by omega)] at hj
     have := h4 j (by omega)
     rw [(yxy s j).2 hj] at this; cases this
    rw [hd, ht, List.append_assoc]
theorem ysO (s : Str) : Go.Lib.replaceAll s [39] [39, 39] = dq s := by
 unfold Go.Lib.replaceAll Go.Lib.replace Go.Lib.replaceNum
 rw [if_neg (by decide), if_pos (.inl (by omega))]
 exact yyL _ _ (Nat.le_refl _)
theorem w1 {i : Nat} (h : i < 1000000000) : IntKind.i64.wrap ((i : Int) + 1) = ((i + 1 : Nat) : Int) := by rw [wrap64 (by omega) (by omega)]; omega
theorem gAt {α : Type} {l : List α} {i : Nat} (h : i < l.length) : l[((i : Nat) : Int).toNat]? = some l[i] := by rw [Int.toNat_natCast]; exact List.getElem?_eq_getElem h
theorem yst {v : V} (hr : Rg v.N) (h : yfG v = true) : good v := by
 unfold yfG at h
 unfold good
 split at h
 ·rename_i k
  have := ylM.1 h
  rw [this]; exact .inl ⟨rfl, rfl, rfl⟩
 ·split at h
  ·rename_i k
   simp at h; exact .inr (.inl ⟨k, h.1, h.2⟩)
  ·split at h
   ·rename_i k; simp at h; exact .inr (.inr (.inl ⟨k, hr, h⟩))
   ·split at h
    ·rename_i k; simp at h; exact .inr (.inr (.inr ⟨k, h.1, by omega⟩))
    ·cases h
end Go.Proofs.YteoohihaibgplaaGreatDoor
end
noncomputable section
namespace Go.Proofs.YteoohihaibgplaaGreatDoor
open Go.AV Go.RowKit
abbrev E6 := yaa
abbrev X := yab
theorem ybZ (x : E6) : yaa.mk x.Kind x.Op (⟨x.V.Kind, x.V.N, x.V.S⟩ : yad) x.Table x.Name x.L = x := by cases x; rfl
theorem ybw (x : X) : yab.mk x.Kind x.Op (⟨x.V.Kind, x.V.N, x.V.S⟩ : yae) x.Table x.Name x.L = x := by cases x; rfl
mutual
def dep : E6 → Nat
 | .mk _ _ _ _ _ L => 1 + deps L
def deps : List E6 → Nat
 | [] => 0
 | x :: r => max (dep x) (deps r)
end
theorem yoP (x : E6) : ∀ (l : List E6), deps (l ++ [x]) = max (deps l) (dep x)
 | [] => by simp [deps]
 | y :: l => by simp only [List.cons_append, deps, yoP x l]; omega
theorem ym3 (m : E6) : dep m = 1 + deps m.L := by cases m; simp [dep, yaa.L]
theorem yrB {x : E6} : ∀ {l : List E6}, x ∈ l → dep x ≤ deps l
 | y :: l, h => by
   simp only [deps]
   rcases List.mem_cons.1 h with rfl | h
   ·omega
   ·have := yrB h; omega
inductive WF : E6 → Prop
 | mk (m : E6) (h : m.L.length ≤ 3) (hn : Rg m.V.N) (hs : ∀ y ∈ m.L, WF y) : WF m
mutual
def told : E6 → X
 | .mk k o v t n L => .mk k o ⟨v.Kind, v.N, v.S⟩ t n (yuQ L)
def yuQ : List E6 → List X
 | [] => []
 | x :: r => told x :: yuQ r
end
theorem yo7 : ∀ l : List E6, yuQ l = l.map told
 | [] => rfl
 | x :: r => by simp [yuQ, yo7 r]
theorem ygS (m : E6) : told m = .mk m.Kind m.Op ⟨m.V.Kind, m.V.N, m.V.S⟩ m.Table m.Name (m.L.map told) := by
 cases m; simp only [told, yo7]; rfl
theorem yt6 {m : E6} (h : WF m) : yct m (told m) := by
 induction h with
 | mk m h hn hs ih =>
   intro Xr hXr
   apply hXr
   refine lp2 (fun (i : Int) out => 0 ≤ i ∧ i ≤ m.L.length ∧ out = (m.L.map told).take i.toNat) (fun (i : Int) _ => m.L.length - i.toNat) ?_ ⟨by omega, by omega, rfl⟩
   intro X1 i out ⟨h0, h1, h2⟩ hX hlen
   subst h2
   refine ⟨fun hlt => ?_, fun hge => ?_⟩
   ·have hlt : i < m.L.length := by simpa using hlt
    have hi : i.toNat < m.L.length := by omega
    have hi' : i.toNat < (m.L.map told).length := by simpa using hi
    refine ⟨h0, hlt, m.L[i.toNat], by simp [hi], told m.L[i.toNat], ?_, by simp; omega, ?_⟩
    ·rw [ybZ]; exact ih _ (List.getElem_mem hi) Xr hXr
    ·rw [wrap64 (by omega) (by omega), ybw]
     refine hX _ _ ⟨by omega, by omega, ?_⟩ (by omega)
     have e1 : (i + 1).toNat = i.toNat + 1 := by omega
     rw [e1, List.take_succ_eq_append_getElem hi', List.getElem_map]
   ·have hge : ¬ i < m.L.length := by simpa using hge
    have : (m.L.map told).take i.toNat = m.L.map told := List.take_of_length_le (by simp; omega)
    rw [this, ygS]
abbrev Pt := yac
def PtOk (p : Pt) : Prop := 0 ≤ p.Kind ∧ p.Kind ≤ 255 ∧ 0 ≤ p.Op ∧ p.Op ≤ 255 ∧ 0 ≤ p.Value ∧ p.Value ≤ 255 ∧ 0 ≤ p.Parts ∧ p.Parts ≤ 255 ∧ Rg p.N
theorem tm {a b : Int} (h : 0 ≤ a) : a.tmod b = a % b := Int.tmod_eq_emod_of_nonneg h
theorem bc10 (y : Pt) (hy : PtOk y) : ∃ x3 x4 x5, Rg x4 ∧ ∀ Xr l a d r0 r1, yaH Xr l a d r0 r1 y x3 x4 x5 → cnd (y.Kind.tmod 10 == 1) (yaR Xr l a d r0 r1 y true) (yaR Xr l a d r0 r1 y (decide (250 ≤ y.Kind))) := by
 have hn : Rg y.N := hy.2.2.2.2.2.2.2.2
 have h0 : Rg 0 := by unfold Rg; omega
 have h1 : Rg (bits .and .i64 y.N 1) := by rw [yu0]; unfold Rg; omega
 by_cases c : y.Kind.tmod 10 = 1 ∨ 250 ≤ y.Kind
 ·have go : ∀ x3 x4 x5, (∀ Xr l a d r0 r1, yaH Xr l a d r0 r1 y x3 x4 x5 → yaR Xr l a d r0 r1 y true) → Rg x4 → ∃ x3 x4 x5, Rg x4 ∧ ∀ Xr l a d r0 r1, yaH Xr l a d r0 r1 y x3 x4 x5 → cnd (y.Kind.tmod 10 == 1) (yaR Xr l a d r0 r1 y true) (yaR Xr l a d r0 r1 y (decide (250 ≤ y.Kind))) := by
   intro x3 x4 x5 h hr
   refine ⟨x3, x4, x5, hr, fun Xr l a d r0 r1 q => ?_⟩
   have := h Xr l a d r0 r1 q
   grind [cnd]
  by_cases k1 : IntKind.i64.wrap (y.Value.tmod 5) = 1
  ·refine go _ _ _ (fun Xr l a d r0 r1 q => ⟨fun _ => ⟨fun _ => q, fun e => absurd k1 (by simpa using e)⟩, fun e => (by cases e)⟩) h1
  by_cases k2 : IntKind.i64.wrap (y.Value.tmod 5) = 2
  ·refine go _ _ _ (fun Xr l a d r0 r1 q => ⟨fun _ => ⟨fun e => absurd (by simpa using e) k1, fun _ => ⟨fun _ => q, fun e => absurd k2 (by simpa using e)⟩⟩, fun e => (by cases e)⟩) hn
  by_cases k3 : IntKind.i64.wrap (y.Value.tmod 5) = 3
  ·refine go _ _ _ (fun Xr l a d r0 r1 q => ⟨fun _ => ⟨fun e => absurd (by simpa using e) k1, fun _ => ⟨fun e => absurd (by simpa using e) k2, fun _ => ⟨fun _ => ⟨?_, q⟩, fun e => absurd k3 (by simpa using e)⟩⟩⟩, fun e => (by cases e)⟩) h0
   split <;> omega
  ·refine go _ _ _ (fun Xr l a d r0 r1 q => ⟨fun _ => ⟨fun e => absurd (by simpa using e) k1, fun _ => ⟨fun e => absurd (by simpa using e) k2, fun _ => ⟨fun e => absurd (by simpa using e) k3, fun _ => q⟩⟩⟩, fun e => (by cases e)⟩) h0
 ·refine ⟨0, 0, [], h0, fun Xr l a d r0 r1 q => ⟨fun e => absurd (.inl (by simpa using e)) c, fun _ => ⟨fun e => absurd (.inr (by simpa using e)) c, fun _ => q⟩⟩⟩
theorem bc9 (y : Pt) : ∃ x6 x7, ∀ Xr l a d r0 r1 x3 x4 x5, ya9 Xr l a d r0 r1 x3 x4 x5 y x6 x7 → yaH Xr l a d r0 r1 y x3 x4 x5 := by
 by_cases c : y.Kind.tmod 10 = 2 ∨ 250 ≤ y.Kind
 ·refine ⟨((y.Table.drop (0 : Int).toNat).take ((if (20 : Int) < (y.Table.length : Int) then (20 : Int) else (y.Table.length : Int)).toNat - (0 : Int).toNat)), ((y.Name.drop (0 : Int).toNat).take ((if (20 : Int) < (y.Name.length : Int) then (20 : Int) else (y.Name.length : Int)).toNat - (0 : Int).toNat)), fun Xr l a d r0 r1 x3 x4 x5 q => ?_⟩
  have h : yb6 Xr l a d r0 r1 x3 x4 x5 y true := ⟨fun _ => ⟨by split <;> omega, by split <;> omega, q⟩, fun e => (by cases e)⟩
  simp only [yaH]
  grind [cnd]
 ·refine ⟨[], [], fun Xr l a d r0 r1 x3 x4 x5 q => ⟨fun e => absurd (.inl (by simpa using e)) c, fun _ => ⟨fun e => absurd (.inr (by simpa using e)) c, fun _ => q⟩⟩⟩
theorem bc3 (y : Pt) (hy : PtOk y) : ∃ x8 x9, 0 ≤ x8 ∧ x8 ≤ 3 ∧ ∀ Xr l a d r0 r1 x3 x4 x5 x6 x7, yaM Xr l a d r0 r1 x3 x4 x5 y x8 x9 x6 x7 → ya9 Xr l a d r0 r1 x3 x4 x5 y x6 x7 := by
 obtain ⟨y1, y2, y3, y4, y5, y6, y7, y8, _⟩ := hy
 have w2 : IntKind.i64.wrap (y.Parts.tmod 2) = y.Parts % 2 := by rw [tm y7, wrap64 (by omega) (by omega)]
 have w3 : IntKind.i64.wrap (y.Parts.tmod 3) = y.Parts % 3 := by rw [tm y7, wrap64 (by omega) (by omega)]
 simp only [ya9, ybe, yb2, w2, w3]
 generalize y.Kind.tmod 10 = k
 by_cases k3 : k = 3
 ·exact ⟨2, IntKind.i64.wrap (y.Op.tmod 16), by omega, by omega, fun Xr l a d r0 r1 x3 x4 x5 x6 x7 q => by grind [cnd]⟩
 by_cases k4 : k = 4 ∨ k = 5 ∨ k = 6 ∨ k = 7
 ·exact ⟨1, 0, by omega, by omega, fun Xr l a d r0 r1 x3 x4 x5 x6 x7 q => by grind [cnd]⟩
 by_cases k8 : k = 8
 ·exact ⟨y.Parts % 2, IntKind.i64.wrap (y.Op.tmod 6), by omega, by omega, fun Xr l a d r0 r1 x3 x4 x5 x6 x7 q => by grind [cnd]⟩
 by_cases k1 : k = 1 ∨ k = 2
 ·exact ⟨0, 0, by omega, by omega, fun Xr l a d r0 r1 x3 x4 x5 x6 x7 q => by grind [cnd]⟩
 ·exact ⟨y.Parts % 3, 0, by omega, by omega, fun Xr l a d r0 r1 x3 x4 x5 x6 x7 q => by grind [cnd]⟩
theorem bc4 (y : Pt) (hy : PtOk y) {x8 : Int} (h0 : 0 ≤ x8) (h3 : x8 ≤ 3) : ∃ x12, 0 ≤ x12 ∧ x12 ≤ 3 ∧ ∀ Xr l a d r0 r1 x3 x4 x5 x9 x10 x11, yb5 Xr l a d r0 r1 x3 x4 x5 x9 x10 x11 y x12 → yaM Xr l a d r0 r1 x3 x4 x5 y x8 x9 x10 x11 := by
 obtain ⟨y1, y2, y3, y4, y5, y6, y7, y8, _⟩ := hy
 have w4 : IntKind.i64.wrap (y.Parts.tmod 4) = y.Parts % 4 := by rw [tm y7, wrap64 (by omega) (by omega)]
 simp only [yaM, w4]
 by_cases k : 240 ≤ y.Kind
 ·exact ⟨y.Parts % 4, by omega, by omega, fun Xr l a d r0 r1 x3 x4 x5 x9 x10 x11 q => ⟨fun _ => q, fun e => absurd k (by simpa using e)⟩⟩
 ·exact ⟨x8, h0, h3, fun Xr l a d r0 r1 x3 x4 x5 x9 x10 x11 q => ⟨fun e => absurd (by simpa using e) k, fun _ => q⟩⟩
def BI (l : List Pt) (n : Nat) (d : Int) : Prop := ∀ a : Int, 0 ≤ a → a + 4 ^ (n + 1) ≤ 1152921504606846976 → ∃ e nx, yd4 l a d e nx ∧ WF e ∧ dep e ≤ n + 1 ∧ a ≤ nx ∧ nx ≤ a + 4 ^ (n + 1)
theorem yAk {l : List Pt} {n : Nat} {d : Int} (hd : IntKind.i64.wrap (d + 1) = d + 1) (ih : BI l n (d + 1)) {x3 x4 : Int} {x5 : Str} {x9 : Int} {x10 x11 : Str} {y : Pt} (h4 : Rg x4) {cnt : Int} (hc0 : 0 ≤ cnt) (hc : cnt ≤ 3) :
  ∀ (k : Nat) (i : Int) (nx : Int) (ps : List E6), 0 ≤ i → i + k = cnt → 0 ≤ nx → nx + k * 4 ^ (n + 1) ≤ 1152921504606846976 → ps.length = i.toNat → (∀ q ∈ ps, WF q ∧ dep q ≤ n + 1) →
  ∃ r0 r1, WF r0 ∧ dep r0 ≤ n + 2 ∧ nx ≤ r1 ∧ r1 ≤ nx + k * 4 ^ (n + 1) ∧ ∀ Xr : List Pt → Int → Int → E6 → Int → Prop, (∀ a0 a1 a2 r0 r1, ycE Xr a0 a1 a2 r0 r1 → Xr a0 a1 a2 r0 r1) → ∀ X6 : Int → Int → List E6 → Prop, (∀ x13 x14 x15, ydh Xr l d r0 r1 x3 x4 x5 x9 x10 x11 cnt y X6 x13 x14 x15 → X6 x13 x14 x15) → X6 nx i ps := by
 intro k
 induction k with
 | zero =>
   intro i nx ps h0 hi hn hb hl hw
   refine ⟨.mk (IntKind.i64.wrap (y.Kind.tmod 10)) x9 ⟨x3, x4, x5⟩ x10 x11 ps, nx, .mk _ ?_ h4 (fun q hq => (hw q hq).1), ?_, by omega, by omega, fun Xr hXr X6 hX => hX _ _ _ ⟨fun c => ?_, fun _ => ⟨rfl, rfl⟩⟩⟩
   ·show ps.length ≤ 3; omega
   ·rw [ym3]
    show 1 + deps ps ≤ n + 2
    have : deps ps ≤ n + 1 := by
     clear hl
     induction ps with
     | nil => simp [deps]
     | cons a ps ih2 =>
       simp only [deps]
       have := (hw a (by simp)).2
       have := ih2 (fun q hq => hw q (by simp [hq]))
       omega
    omega
   ·have : i < cnt := by simpa using c
    omega
 | succ k ihk =>
   intro i nx ps h0 hi hn hb hl hw
   have hp : (0 : Int) < 4 ^ (n + 1) := Int.pow_pos (by omega)
   have hexp : ((k + 1 : Nat) : Int) * 4 ^ (n + 1) = k * 4 ^ (n + 1) + 4 ^ (n + 1) := by push_cast; rw [Int.add_mul]; omega
   rw [hexp] at hb
   have hk0 : (0 : Int) ≤ k * 4 ^ (n + 1) := Int.mul_nonneg (by omega) (by omega)
   obtain ⟨e, nx', e1, e2, e3, e4, e5⟩ := ih nx hn (by omega)
   obtain ⟨r0, r1, q1, q2, q3, q4, q5⟩ := ihk (i + 1) nx' (ps ++ [e]) (by omega) (by push_cast at hi; omega) (by omega) (by omega) (by simp; omega) (fun q hq => by
    rcases List.mem_append.1 hq with hq | hq
    ·exact hw q hq
    ·simp at hq; subst hq; exact ⟨e2, e3⟩)
   refine ⟨r0, r1, q1, q2, by omega, by rw [hexp]; omega, fun Xr hXr X6 hX => hX _ _ _ ⟨fun _ => ⟨e, nx', ?_, by omega, ?_⟩, fun c => ?_⟩⟩
   ·rw [hd]; exact e1 Xr hXr
   ·rw [wrap64 (by push_cast at hi; omega) (by push_cast at hi; omega), ybZ]; exact q5 Xr hXr X6 hX
   ·have : ¬ i < cnt := by simpa using c
    push_cast at hi; omega
theorem yxN {l : List Pt} {a d : Int} (h0 : 0 ≤ a) (h1 : a ≤ 1152921504606846976) (h : l.length ≤ a ∨ 24 < d) : yd4 l a d (.mk 1 0 ⟨0, 0, []⟩ [] [] []) (a + 1) := by
 intro Xr hXr
 refine hXr _ _ _ _ _ (yhl _ _ _ _ _ _ fun _ => ?_)
 have hw : IntKind.i64.wrap (a + 1) = a + 1 := wrap64 (by omega) (by omega)
 have m : ybB Xr l a d (.mk 1 0 ⟨0, 0, []⟩ [] [] []) (a + 1) true := ⟨fun _ => ⟨rfl, hw⟩, fun e => (by cases e)⟩
 refine ⟨fun _ => m, fun c => ?_⟩
 have c : ¬ (l.length : Int) ≤ a := by simpa using c
 have : decide (24 < d) = true := by simp; omega
 rw [this]; exact m
theorem ym2 : WF (.mk 1 0 ⟨0, 0, []⟩ [] [] []) ∧ dep (.mk 1 0 ⟨0, 0, []⟩ [] [] []) ≤ 1 := ⟨.mk _ (by show 0 ≤ 3; omega) (by show Rg 0; unfold Rg; omega) (fun y hy => by cases hy), by rw [ym3]; show 1 + deps [] ≤ 1; simp [deps]⟩
theorem yzk {l : List Pt} (hl : ∀ p ∈ l, PtOk p) : ∀ (n : Nat) (d : Int), d + n = 25 → 0 ≤ d → BI l n d := by
 intro n
 induction n with
 | zero =>
   intro d hd h0 a ha hb
   have hb : a + 4 ≤ 1152921504606846976 := by simpa using hb
   exact ⟨_, _, yxN ha (by omega) (.inr (by omega)), ym2.1, ym2.2, by omega, by simp⟩
 | succ n ih =>
   intro d hd h0 a ha hb
   have hp : (0 : Int) < 4 ^ (n + 1) := Int.pow_pos (by omega)
   have hexp : (4 : Int) ^ (n + 1 + 1) = 4 * 4 ^ (n + 1) := by rw [Int.pow_succ]; omega
   rw [hexp] at hb
   by_cases hle : (l.length : Int) ≤ a
   ·exact ⟨_, _, yxN ha (by omega) (.inl hle), ym2.1, by have := ym2.2; omega, by omega, by rw [hexp]; omega⟩
   ·have hi : a.toNat < l.length := by omega
    have hy := hl _ (List.getElem_mem hi)
    obtain ⟨x3, x4, x5, hx4, f10⟩ := bc10 _ hy
    obtain ⟨x6, x7, f9⟩ := bc9 l[a.toNat]
    obtain ⟨x8, x9, h8, h8', f3⟩ := bc3 _ hy
    obtain ⟨x12, h12, h12', f4⟩ := bc4 _ hy h8 h8'
    have hd1 : IntKind.i64.wrap (d + 1) = d + 1 := wrap64 (by omega) (by omega)
    have hk : (x12.toNat : Int) ≤ 3 := by omega
    have hm : (x12.toNat : Int) * 4 ^ (n + 1) ≤ 3 * 4 ^ (n + 1) := Int.mul_le_mul_of_nonneg_right hk (by omega)
    obtain ⟨r0, r1, q1, q2, q3, q4, q5⟩ := yAk (x3 := x3) (x5 := x5) (x9 := x9) (x10 := x6) (x11 := x7) (y := l[a.toNat]) hd1 (ih (d + 1) (by push_cast at hd; omega) (by omega)) hx4 h12 h12' x12.toNat 0 (a + 1) [] (by omega) (by omega) (by omega) (by omega) rfl (fun q hq => by cases hq)
    refine ⟨r0, r1, fun Xr hXr => hXr _ _ _ _ _ (yhl _ _ _ _ _ _ fun _ => ?_), q1, by omega, by omega, by rw [hexp]; omega⟩
    have m : ybB Xr l a d r0 r1 false := by
     refine ⟨fun e => (by cases e), fun _ => ⟨ha, by omega, l[a.toNat], by simp [hi], f10 _ _ _ _ _ _ (f9 _ _ _ _ _ _ _ _ _ (f3 _ _ _ _ _ _ _ _ _ _ _ (f4 _ _ _ _ _ _ _ _ _ _ _ _ ?_)))⟩⟩
     intro X6 hX
     rw [wrap64 (by omega) (by omega)]
     exact q5 Xr hXr X6 hX
    refine ⟨fun c => absurd (by simpa using c) hle, fun _ => ?_⟩
    have : decide (24 < d) = false := by simp; push_cast at hd; omega
    rw [this]; exact m
end Go.Proofs.YteoohihaibgplaaGreatDoor
end
