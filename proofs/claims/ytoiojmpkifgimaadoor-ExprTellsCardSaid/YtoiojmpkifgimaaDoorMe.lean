/- General texts and own ones, joined: what the program computes, told of abstract states, and the laws of plain data. No condition. -/
import Derived.Test.YtoiojmpkifgimaaDoorMc
import Derived.Lib.LaidTab
import Derived.Lib.CountLaws
import Derived.Sort.Grow
import Derived.Lib.ItoaNum
import Derived.Lib.Join
import Derived.Lib.ReplaceLaws
import Derived.Test.YtoiojmpkifgimaaDoorMb
import Derived.HandedShaped
import Derived.LaidMore
import Derived.Lay
import Derived.Stop.LaidErr
import Derived.Shelf.Vars
import Derived.Shelf.Strings.Builder1
import Derived.Shelf.Strings.Builder2
import Derived.Shelf.Strings.BuilderF
import Derived.Shelf.Strings.BuilderK
import Derived.Shelf.Utf8.RuneCount
import Derived.Shelf.Strings.Builder2Cap
import Derived.Shelf.Strconv.Itoa0
import Derived.Shelf.Strconv.Itoa1
import Derived.Shelf.LaysM
import Derived.Shelf.Strconv.Itoa2
import Derived.Shelf.Strconv.Itoa3
import Derived.Shelf.Strconv.Itoa4
import Derived.Shelf.Strings.Search1
import Derived.Shelf.Strings.Search2
import Derived.Shelf.Strings.Search3
import Derived.Shelf.Strings.Count
import Derived.Shelf.Strings.Shaped
import Derived.Shelf.Strings.Split
import Derived.Shelf.Strings.Replace
import Derived.Shelf.Strings.SplitShaped
import Derived.Shelf.Unicode.Decode
import Derived.Shelf.Strings.RuneCount
import Derived.Shelf.Unicode.DecodeSlow
import Derived.Shelf.Unicode.DecodeAny
import Derived.Shelf.Strings.BuilderCap
import Derived.Test.YtoiojmpkifgimaaDoorProg
import Derived.Test.YtoiojmpkifgimaaDoorMa
import Derived.Test.YtoiojmpkifgimaaDoorRows
import Derived.KernelRfl
import Derived.Test.YtoiojmpkifgimaaDoorMd
import Derived.Lib.ItoaLen
noncomputable section
namespace Go.AV
open Go.RowKit Go.RG Go.Lib
theorem ypg (w : World) (k : Nat) (os : Array Obj) : Below w.heap.size w (Sort.grow (w.drewN k) os) := by
 refine ⟨rfl, rfl, rfl, ?_, fun i hi => ?_⟩
 ·show w.heap.size ≤ (w.heap ++ os).size
  rw [Array.size_append]; omega
 ·show (w.heap ++ os)[i]? = w.heap[i]?
  rw [Array.getElem?_append_left hi]
theorem yiZ {P : Program} {f : FuncId} {fn : Func} (hfn : P.funcs[f]? = some fn) (hb : (if fn.name == "runtime.NumGoroutine" then none else fn.body).isSome = true) {args : List AV} {v : AV} (hn : v.noL = true)
  (h : ∀ (G : Gh) (vs : List Value), GOK P G.w G.I -> (∀ b, G.I b -> b < G.w.heap.size) -> VRs G args vs -> Calls P f vs.toArray G.w fun e w' => ∃ x, e = .returned x /\ (∀ G', VR G' v x) /\ Below G.w.heap.size G.w w') : Pure P f args v := by
 intro H n G vs hg hM hV
 obtain ⟨b, hb⟩ := Option.isSome_iff_exists.1 hb
 split at hb
 ·cases hb
 ·rename_i hname
  have hcall : (callFunc f vs).run P G.w = .ok (.enter f vs) G.w := by
   simp only [callFunc, Sem.run_bind, run_program, Result.andThen_ok, hfn]
   rw [if_neg hname]
   simp [hb]
  unfold yeT
  rw [hcall]
  have h0 := h G vs.toList hg hM.lt hV
  rw [Array.toArray_toList] at h0
  refine Calls.mono h0 ?_
  rintro e w' ⟨x, rfl, hx, hbl⟩
  obtain ⟨G', g1, _, g3⟩ := hM.grow hbl.size hbl.block hbl.os hbl.tape hbl.output
  exact ⟨x, v, H, n, G', rfl, ⟨rfl, rfl, rfl⟩, g1, g3, hx G', hn⟩
theorem Pure.congr {P : Program} {f : FuncId} {a a' : List AV} {v v' : AV} (h : Pure P f a v) (ha : a = a') (hv : v = v') : Pure P f a' v' := by subst ha; subst hv; exact h
theorem GOK.tab {P : Program} {w : World} {I : Nat → Prop} (h : GOK P w I) (hg : (P.globalNamed "internal/strconv.uint64pow10").isSome = true) : TabIs P w "internal/strconv.uint64pow10" .u64 pow10Tab := by
 obtain ⟨g, e⟩ := Option.isSome_iff_exists.1 hg
 obtain ⟨_, t, fr, c⟩ := h.1 _ _ (by unfold ynb; exact List.mem_cons_self) g e
 unfold TabIs World.var?
 rw [e]
 simp only [Option.bind_some, c]
 rfl
theorem GOK.maxLen {P : Program} {w : World} {I : Nat → Prop} (h : GOK P w I) {g : Nat} (hg : P.globalNamed "internal/bytealg.MaxLen" = some g) : ∃ m, w.cell? ⟨g, 0, .none⟩ = some (.int .i64 m) := by
 obtain ⟨_, m, t, fr, c⟩ := h.2.1 g hg
 exact ⟨m, by simp [World.cell?, c]⟩
theorem VR.stv {G : Gh} {l : List UInt8} {v : Value} (h : VR G (.st l) v) : ∃ s, v = .string s ∧ s.data.toList = l := by
 cases h with
 | st l s h => exact ⟨s, rfl, h⟩
theorem VR.itv {G : Gh} {k : IntKind} {n : Int} {v : Value} (h : VR G (.it k n) v) : v = .int k n := by
 cases h; rfl
theorem vs2 {G : Gh} {a b : AV} {vs : List Value} (h : VRs G [a, b] vs) : ∃ x y, vs = [x, y] ∧ VR G a x ∧ VR G b y := by
 match vs, h with
 | [x, y], h => exact ⟨x, y, rfl, h.head, h.tail.head⟩
 | [], h => have := h.1; simp at this
 | [_], h => have := h.1; simp at this
 | _ :: _ :: _ :: _, h => have := h.1; simp at this
theorem vs3 {G : Gh} {a b c : AV} {vs : List Value} (h : VRs G [a, b, c] vs) : ∃ x y z, vs = [x, y, z] ∧ VR G a x ∧ VR G b y ∧ VR G c z := by
 match vs, h with
 | [x, y, z], h => exact ⟨x, y, z, rfl, h.head, h.tail.head, h.tail.tail.head⟩
 | [], h => have := h.1; simp at this
 | [_], h => have := h.1; simp at this
 | [_, _], h => have := h.1; simp at this
 | _ :: _ :: _ :: _ :: _, h => have := h.1; simp at this
theorem ykp {P : Program} {f : FuncId} {fn : Func} (hfn : P.funcs[f]? = some fn) (hb : (if fn.name == "runtime.NumGoroutine" then none else fn.body).isSome = true) (hg : (P.globalNamed "internal/strconv.uint64pow10").isSome = true)
  (hc : ∀ (n : Int), -9223372036854775808 <= n -> n <= 9223372036854775807 -> ∀ w : World, TabIs P w "internal/strconv.uint64pow10" .u64 pow10Tab -> Calls P f #[.int .i64 n, .int .i64 10] w fun e w' => e = .returned (.string ⟨(itoa n).toArray⟩) /\ ∃ k os, w' = Sort.grow (w.drewN k) os)
  {n : Int} (h0 : -9223372036854775808 <= n) (h1 : n <= 9223372036854775807) : Pure P f [.it .i64 n, .it .i64 10] (.st (itoa n)) := by
 refine yiZ hfn hb rfl fun G vs hG hI hV => ?_
 obtain ⟨x, y, rfl, hx, hy⟩ := vs2 hV
 rw [hx.itv, hy.itv]
 refine Calls.mono (hc n h0 h1 G.w (hG.tab hg)) ?_
 rintro e w' ⟨rfl, k, os, rfl⟩
 exact ⟨_, rfl, fun G' => .st _ _ (by simp), ypg _ _ _⟩
theorem yj7 {P : Program} {f : FuncId} {fn : Func} {g : Nat} (hfn : P.funcs[f]? = some fn) (hb : (if fn.name == "runtime.NumGoroutine" then none else fn.body).isSome = true) (hg : P.globalNamed "internal/bytealg.MaxLen" = some g)
  (hc : ∀ (s old new : ByteArray) (m : Int) (w : World), s.size < 4294967281 → w.cell? ⟨g, 0, none⟩ = some (.int .i64 m) → 1 ≤ old.size → s.size + countB s old * new.size ≤ 140737488355328 →
    Calls P f #[.string s, .string old, .string new] w fun e w' => e = .returned (.string ⟨(replaceAll s.data.toList old.data.toList new.data.toList).toArray⟩) /\ Below w.heap.size w w')
  {s old new : Str} (h0 : s.length <= 100000) (h1 : 1 <= old.length) (h2 : new.length <= 100000) : Pure P f [.st s, .st old, .st new] (.st (replaceAll s old new)) := by
 refine yiZ hfn hb rfl fun G vs hG hI hV => ?_
 obtain ⟨x, y, z, rfl, hx, hy, hz⟩ := vs3 hV
 obtain ⟨xs, rfl, rfl⟩ := hx.stv
 obtain ⟨ys, rfl, rfl⟩ := hy.stv
 obtain ⟨zs, rfl, rfl⟩ := hz.stv
 obtain ⟨m, hm⟩ := hG.maxLen hg
 simp only [Array.length_toList, ByteArray.size_data] at h0 h1 h2
 have hcnt : countB xs ys ≤ xs.size + 1 := by
  have := count_le xs.data.toList ys.data.toList
  simpa [countB] using this
 refine Calls.mono (hc xs ys zs m G.w (by omega) hm h1 ?_) ?_
 ·have : countB xs ys * zs.size ≤ 100001 * 100000 := Nat.mul_le_mul (by omega) h2
  omega
 ·rintro e w' ⟨rfl, hw⟩
  exact ⟨_, rfl, fun G' => .st _ _ (by simp), hw⟩
end Go.AV
end
noncomputable section
namespace Go.AV
open Go.RowKit Go.RG Go.ChangeShapes Go.WideShapes Go.ChangeAt
theorem yda {H : Type} {enc : TypeId × Value → H} {a : Assume} {C : Checked} {os : Os} {f : FuncId} {fn : Func} {s : ChangeSpec} {conds : List PathCond} {apart fresh handsOn again : Bool} {X : World → Array Value → Prop}
  (hX : ∀ (w w' : World) (args : Array Value), w.heap = w'.heap -> X w args -> X w' args)
  (own : ownKnob C.prog.godebug = none) (started : os.Started) (noInit : C.prog.inits.idxOf? f = none) (hfn : C.prog.funcs[f]? = some fn)
  (witness : ∃ (w : World) (tape : Tape) (i : Input), w.os = os ∧ (w.forCall tape i).Shaped C.prog ∧ i.vars = [] ∧ Input.okWide C.prog (w.forCall tape i) .any w.heap.size f i ∧
    ((s.pre enc C.prog fn conds apart (w.forCall tape i).memory i.args /\ X (w.forCall tape i).memory i.args) /\ sizedMet enc C.prog fn (OpenSpec.ofChange s) apart (w.forCall tape i).memory i.args) /\ a.holds C.prog (lone (Frame.enter C.prog f i.args .normal) [] (w.forCall tape i)))
  (contract : ∀ (W : World) (base : Nat) (args : Array Value) (ds gs : List (DataW H)) (before : List MemPlace),
    (∀ (j : Nat) t v, fn.params[j]? = some t -> args[j]? = some v -> Value.okWide C.prog W .any base t v) ->
    DataW.Whole enc C.prog fn.params.toList s.vars apart W args.toList ds gs before ->
    X W args -> W.ShapedOpen C.prog ->
    Calls C.prog f args W fun e W' => ∃ v, e = .returned v /\ s.post enc C.prog fn apart fresh handsOn again W args v W') :
  ReturnsInHanded a C os f .any (fun w args => (s.pre enc C.prog fn conds apart w args /\ X w args) /\ sizedMet enc C.prog fn (OpenSpec.ofChange s) apart w args) (s.post enc C.prog fn apart fresh handsOn again) := by
 refine returnsInHanded_of_calls own started noInit witness ?_
 intro w tape i _ hsh _ hok hpre _
 obtain ⟨_, _, _, fn', hfn', _, _, _, _, hval⟩ := hok
 have e : fn' = fn := Option.some.inj (hfn'.symm.trans hfn)
 subst e
 obtain ⟨⟨⟨ds, gs, before, hw, hc⟩, hx⟩, hz⟩ := hpre
 have hw' := DataW.Whole.of_heap (w' := w.forCall tape i) (by rfl) hw
 refine (contract (w.forCall tape i) w.heap.size i.args ds gs before hval hw' (hX _ _ _ (by rfl) hx) hsh).mono fun e W' ⟨v, he, hp⟩ => ?_
 subst he
 exact ChangeSpec.post_blind hp
theorem yqx {P : Program} {W : World} {name : String} {k : IntKind} {zs : List Int} {g : Nat} (h : Go.Lib.TabIs P W name k zs) (hg : P.globalNamed name = some g) :
  g < W.heap.size /\ ∃ t fr, W.heap[g]? = some (.cells (zs.map fun z => Value.int k z).toArray t fr) := by
 unfold Go.Lib.TabIs World.var? at h
 rw [hg] at h
 simp only [Option.bind_some] at h
 split at h
 ·rename_i cs t fr e
  cases h
  exact ⟨(Array.getElem?_eq_some_iff.1 e).1, t, fr, e⟩
 ·cases h
theorem yqL {P : Program} {W : World} {g : Nat} {t : TypeId} {zero : Array Value} (h : W.ShapedOpen P) (hg : g < P.globals.size) (h0 : ((begin P (fun _ _ => 0) default).world.heap[g]?).bind Obj.row? = some (zero, t)) (hz : zero.size = 1)
  (hb : P.buildable t = true) (hc : P.cellTypes P.depth t = some [t]) (hu : P.underlying t = some (.int .i64)) : g < W.heap.size /\ ∃ m t fr, W.heap[g]? = some (.cells #[.int .i64 m] t fr) := by
 obtain ⟨m, hm⟩ := Go.Proofs.cell_of_shapedOpen_int h hg h0 hz hb hc hu
 obtain ⟨cs, hh, hs, _⟩ := h.1 g zero t hg h0
 refine ⟨(Array.getElem?_eq_some_iff.1 hh).1, m, t, (0, 0), ?_⟩
 rw [hh]
 have hl : cs.size = 1 := hs.trans hz
 match cs, hl with
 | ⟨[v]⟩, _ =>
   simp [World.cell?, hh] at hm
   rw [hm]
def yh5 (l : List Str) : DataW Unit := .agg (l.map fun s => .lit (.string s))
theorem yj9 {enc : TypeId × Value → Unit} {P : Program} {w : World} {base : Nat} {sp : Nat → Bool} {held : Bool} {fuel : Nat} {t e : TypeId} {n : Nat} {cs : List Value} {l : List Str} {p : List MemPlace}
  (ht : P.underlying t = some (.array n e)) (he : P.underlying e = some .string) (hce : P.cellsOf e = 1) (hct : P.cellsOf t = n)
  (h : DataW.trod enc P w base sp held fuel t cs = some (yh5 l, p)) : cs = l.map fun s => Value.string ⟨s.toArray⟩ := by
 cases fuel with
 | zero => simp [DataW.trod] at h
 | succ fuel =>
   simp only [DataW.trod, ht, hce, hct, Nat.mul_one] at h
   split at h
   ·rename_i hl
    obtain ⟨xs, hm, hx⟩ := Option.map_eq_some_iff.1 h
    have hxs : xs.map (·.1) = l.map fun s => (DataW.lit (.string s) : DataW Unit) := by
     have := congrArg Prod.fst hx
     simpa [yh5] using this
    have hxl : xs.length = n := by simpa using Go.Lib.mapM_length hm
    have hzl : l.length = n := by
     have := congrArg List.length hxs
     simp at this
     omega
    apply List.ext_getElem?
    intro i
    by_cases hi : i < n
    ·obtain ⟨b, hb, hf⟩ := Go.Lib.mapM_at hm i i (by simp [hi])
     obtain ⟨s, hc, rfl, _⟩ := DataW.trod_string he hf
     have h1 : cs[i]? = some (.string s) := by
      have := congrArg (·[0]?) hc
      simpa [List.getElem?_take, List.getElem?_drop] using this
     have h2 : (xs.map (·.1))[i]? = some (DataW.lit (.string s.data.toList) : DataW Unit) := by simp [hb]
     rw [hxs] at h2
     simp only [List.getElem?_map, Option.map_eq_some_iff, DataW.lit.injEq, Lit.string.injEq] at h2
     obtain ⟨z', hz', rfl⟩ := h2
     simp [h1, hz']
    ·rw [List.getElem?_eq_none (by omega), List.getElem?_eq_none (by simp; omega)]
   ·cases h
theorem yg8 {P : Program} {W : World} {name : String} {l : List Str} {rest : List (String × DataW Unit)} {g : Nat} {t e : TypeId} {n : Nat}
  (hg : P.globalNamed name = some g) (hty : (P.globals[g]?).map (·.type) = some t) (ht : P.underlying t = some (.array n e)) (he : P.underlying e = some .string) (hce : P.cellsOf e = 1) (hct : P.cellsOf t = n)
  (h : laidMet P ((name, yh5 l) :: rest) W) : g < W.heap.size /\ ∃ t fr, W.heap[g]? = some (.cells (l.map fun s => Value.string ⟨s.toArray⟩).toArray t fr) := by
 obtain ⟨ps, ⟨g', t', cs, fuel, p, q, hg', ht', hvar, hd, _, _⟩, _⟩ := h
 obtain rfl := Option.some.inj (hg.symm.trans hg')
 obtain rfl := Option.some.inj (hty.symm.trans ht')
 have hc := yj9 ht he hce hct hd
 have hc : cs = (l.map fun s => Value.string ⟨s.toArray⟩).toArray := by rw [<- hc]
 subst hc
 unfold World.var? at hvar
 rw [hg] at hvar
 simp only [Option.bind_some] at hvar
 split at hvar
 ·rename_i cs t fr e
  cases hvar
  exact ⟨(Array.getElem?_eq_some_iff.1 e).1, t, fr, e⟩
 ·cases hvar
end Go.AV
end
noncomputable section
namespace Go.Proofs
open Go.Shelf
def Tryd.laysM173_ren : Go.Shelf.Ren := ⟨fun | 173 => 38 | 246 => 44 | 283 => 47 | 284 => 48 | 285 => 49 | 286 => 50 | 129 => 58 | 317 => 57 | 318 => 59 | 319 => 60 | 320 => 61 | 337 => 68 | 338 => 69 | n => n, fun | 2 => 2 | 3 => 3 | 9 => 9 | 4 => 4 | 171 => 72 | 0 => 0 | 53 => 73 | 37 => 65 | 5 => 5 | 173 => 76 | 212 => 91 | 51 => 92 | 20 => 20 | 213 => 93 | 46 => 95 | 232 => 108 | 233 => 109 | n => n, fun | 17 => 2 | 18 => 6 | 19 => 7 | n => n⟩
theorem Tryd.laysM173 : Go.Proofs.LaysM.n173 Tryd.prog Tryd.laysM173_ren := {
 mixed := by kernel_rfl
 f129 := Tryd.func58.trans (congrArg some (by kernel_rfl))
 f173 := Tryd.func38.trans (congrArg some (by kernel_rfl))
 f246 := Tryd.func44.trans (congrArg some (by kernel_rfl))
 f283 := Tryd.func47.trans (congrArg some (by kernel_rfl))
 f284 := Tryd.func48.trans (congrArg some (by kernel_rfl))
 f285 := Tryd.func49.trans (congrArg some (by kernel_rfl))
 f286 := Tryd.func50.trans (congrArg some (by kernel_rfl))
 f317 := Tryd.func57.trans (congrArg some (by kernel_rfl))
 f318 := Tryd.func59.trans (congrArg some (by kernel_rfl))
 f319 := Tryd.func60.trans (congrArg some (by kernel_rfl))
 f320 := Tryd.func61.trans (congrArg some (by kernel_rfl))
 f337 := Tryd.func68.trans (congrArg some (by kernel_rfl))
 f338 := Tryd.func69.trans (congrArg some (by kernel_rfl))
 t0 := Tryd.underlying0
 a0 := Tryd.isAgg0
 z0 := Tryd.sizeOf0
 v0 := Tryd.zeroValue0
 t2 := Tryd.underlying2
 a2 := Tryd.isAgg2
 z2 := Tryd.sizeOf2
 v2 := Tryd.zeroValue2
 t3 := Tryd.underlying3
 a3 := Tryd.isAgg3
 z3 := Tryd.sizeOf3
 v3 := Tryd.zeroValue3
 t4 := Tryd.underlying4
 a4 := Tryd.isAgg4
 z4 := Tryd.sizeOf4
 v4 := Tryd.zeroValue4
 t5 := Tryd.underlying5
 a5 := Tryd.isAgg5
 z5 := Tryd.sizeOf5
 v5 := Tryd.zeroValue5
 t9 := Tryd.underlying9
 a9 := Tryd.isAgg9
 z9 := Tryd.sizeOf9
 v9 := Tryd.zeroValue9
 t20 := Tryd.underlying20
 a20 := Tryd.isAgg20
 z20 := Tryd.sizeOf20
 v20 := Tryd.zeroValue20
 t37 := Tryd.underlying65
 a37 := Tryd.isAgg65
 z37 := Tryd.sizeOf65
 v37 := Tryd.zeroValue65
 t46 := Tryd.underlying95
 a46 := Tryd.isAgg95
 z46 := Tryd.sizeOf95
 v46 := Tryd.zeroValue95
 t51 := Tryd.underlying92
 a51 := Tryd.isAgg92
 z51 := Tryd.sizeOf92
 v51 := Tryd.zeroValue92
 t53 := Tryd.underlying73
 a53 := Tryd.isAgg73
 z53 := Tryd.sizeOf73
 v53 := Tryd.zeroValue73
 t171 := Tryd.underlying72
 a171 := Tryd.isAgg72
 z171 := Tryd.sizeOf72
 v171 := Tryd.zeroValue72
 t173 := Tryd.underlying76
 a173 := Tryd.isAgg76
 z173 := Tryd.sizeOf76
 v173 := Tryd.zeroValue76
 t212 := Tryd.underlying91
 a212 := Tryd.isAgg91
 z212 := Tryd.sizeOf91
 v212 := Tryd.zeroValue91
 t213 := Tryd.underlying93
 a213 := Tryd.isAgg93
 z213 := Tryd.sizeOf93
 t232 := Tryd.underlying108
 a232 := Tryd.isAgg108
 z232 := Tryd.sizeOf108
 v232 := Tryd.zeroValue108
 t233 := Tryd.underlying109
 a233 := Tryd.isAgg109
 z233 := Tryd.sizeOf109
 v233 := Tryd.zeroValue109
 g17 := by kernel_rfl
 g18 := by kernel_rfl
 g19 := by kernel_rfl
 i0 := by kernel_rfl
 i2 := by kernel_rfl
 i3 := by kernel_rfl
 i4 := by kernel_rfl
 i5 := by kernel_rfl
 i9 := by kernel_rfl
 i20 := by kernel_rfl
 i37 := by kernel_rfl
 i46 := by kernel_rfl
 i51 := by kernel_rfl
 i53 := by kernel_rfl
 i171 := by kernel_rfl
 i173 := by kernel_rfl
 i212 := by kernel_rfl
 i232 := by kernel_rfl
 i233 := by kernel_rfl
 m17 := by kernel_rfl
 m18 := by kernel_rfl
 m19 := by kernel_rfl }
open Go.RowKit Go.Sort Go.Lib in
theorem Tryd.strconv_FormatInt_10 (n : Int) (h0 : -9223372036854775808 ≤ n) (h1 : n ≤ 9223372036854775807) (w : World) (htab : Lib.TabIs Tryd.prog w "internal/strconv.uint64pow10" .u64 Lib.pow10Tab) :
  Calls Tryd.prog 38 #[.int .i64 n, .int .i64 10] w fun e w' => e = .returned (.string ⟨(Lib.itoa n).toArray⟩) /\ ∃ k os, w' = grow (w.drewN k) os := Any.strconv_FormatInt_10 Tryd.laysM173 n h0 h1 w htab
def Tryd.lays155_ren : Go.Shelf.Ren := ⟨fun | 155 => 39 | 154 => 45 | 138 => 51 | 165 => 52 | 143 => 53 | 166 => 54 | 197 => 55 | 169 => 56 | 195 => 62 | 218 => 63 | 240 => 64 | 241 => 65 | 219 => 66 | 260 => 67 | 276 => 70 | 277 => 71 | 217 => 72 | 225 => 73 | 224 => 74 | 267 => 75 | 266 => 76 | 314 => 77 | n => n, fun | 9 => 9 | 3 => 3 | 4 => 4 | 72 => 81 | 0 => 0 | 76 => 85 | 105 => 87 | 21 => 21 | 5 => 5 | 70 => 79 | 20 => 20 | 37 => 65 | 75 => 84 | 127 => 99 | 164 => 101 | 46 => 95 | 119 => 104 | 139 => 107 | 138 => 106 | 146 => 110 | 51 => 92 | 80 => 56 | n => n, fun | 1 => 3 | 3 => 4 | 4 => 5 | n => n⟩
theorem Tryd.lays155 : Go.Proofs.Lays.n155 Tryd.prog Tryd.lays155_ren := {
 mixed := by kernel_rfl
 f138 := Tryd.func51.trans (congrArg some (by kernel_rfl))
 f143 := Tryd.func53.trans (congrArg some (by kernel_rfl))
 f154 := Tryd.func45.trans (congrArg some (by kernel_rfl))
 f155 := Tryd.func39.trans (congrArg some (by kernel_rfl))
 f165 := Tryd.func52.trans (congrArg some (by kernel_rfl))
 f166 := Tryd.func54.trans (congrArg some (by kernel_rfl))
 f169 := Tryd.func56.trans (congrArg some (by kernel_rfl))
 f195 := Tryd.func62.trans (congrArg some (by kernel_rfl))
 f197 := Tryd.func55.trans (congrArg some (by kernel_rfl))
 f217 := Tryd.func72.trans (congrArg some (by kernel_rfl))
 f218 := Tryd.func63.trans (congrArg some (by kernel_rfl))
 f219 := Tryd.func66.trans (congrArg some (by kernel_rfl))
 f224 := Tryd.func74.trans (congrArg some (by kernel_rfl))
 f225 := Tryd.func73.trans (congrArg some (by kernel_rfl))
 f240 := Tryd.func64.trans (congrArg some (by kernel_rfl))
 f241 := Tryd.func65.trans (congrArg some (by kernel_rfl))
 f260 := Tryd.func67.trans (congrArg some (by kernel_rfl))
 f266 := Tryd.func76.trans (congrArg some (by kernel_rfl))
 f267 := Tryd.func75.trans (congrArg some (by kernel_rfl))
 f276 := Tryd.func70.trans (congrArg some (by kernel_rfl))
 f277 := Tryd.func71.trans (congrArg some (by kernel_rfl))
 f314 := Tryd.func77.trans (congrArg some (by kernel_rfl))
 t0 := Tryd.underlying0
 a0 := Tryd.isAgg0
 z0 := Tryd.sizeOf0
 v0 := Tryd.zeroValue0
 t3 := Tryd.underlying3
 a3 := Tryd.isAgg3
 z3 := Tryd.sizeOf3
 v3 := Tryd.zeroValue3
 t4 := Tryd.underlying4
 a4 := Tryd.isAgg4
 z4 := Tryd.sizeOf4
 v4 := Tryd.zeroValue4
 t5 := Tryd.underlying5
 a5 := Tryd.isAgg5
 z5 := Tryd.sizeOf5
 v5 := Tryd.zeroValue5
 t9 := Tryd.underlying9
 a9 := Tryd.isAgg9
 z9 := Tryd.sizeOf9
 v9 := Tryd.zeroValue9
 t20 := Tryd.underlying20
 a20 := Tryd.isAgg20
 z20 := Tryd.sizeOf20
 v20 := Tryd.zeroValue20
 t21 := Tryd.underlying21
 a21 := Tryd.isAgg21
 z21 := Tryd.sizeOf21
 v21 := Tryd.zeroValue21
 t37 := Tryd.underlying65
 a37 := Tryd.isAgg65
 z37 := Tryd.sizeOf65
 v37 := Tryd.zeroValue65
 t46 := Tryd.underlying95
 a46 := Tryd.isAgg95
 z46 := Tryd.sizeOf95
 v46 := Tryd.zeroValue95
 t51 := Tryd.underlying92
 a51 := Tryd.isAgg92
 z51 := Tryd.sizeOf92
 v51 := Tryd.zeroValue92
 t70 := Tryd.underlying79
 a70 := Tryd.isAgg79
 z70 := Tryd.sizeOf79
 v70 := Tryd.zeroValue79
 t72 := Tryd.underlying81
 a72 := Tryd.isAgg81
 z72 := Tryd.sizeOf81
 v72 := Tryd.zeroValue81
 t75 := Tryd.underlying84
 a75 := Tryd.isAgg84
 z75 := Tryd.sizeOf84
 v75 := Tryd.zeroValue84
 t76 := Tryd.underlying85
 a76 := Tryd.isAgg85
 z76 := Tryd.sizeOf85
 v76 := Tryd.zeroValue85
 t105 := Tryd.underlying87
 a105 := Tryd.isAgg87
 z105 := Tryd.sizeOf87
 v105 := Tryd.zeroValue87
 t119 := Tryd.underlying104
 a119 := Tryd.isAgg104
 z119 := Tryd.sizeOf104
 t127 := Tryd.underlying99
 a127 := Tryd.isAgg99
 z127 := Tryd.sizeOf99
 v127 := Tryd.zeroValue99
 t138 := Tryd.underlying106
 a138 := Tryd.isAgg106
 z138 := Tryd.sizeOf106
 v138 := Tryd.zeroValue106
 t139 := Tryd.underlying107
 a139 := Tryd.isAgg107
 z139 := Tryd.sizeOf107
 v139 := Tryd.zeroValue107
 t146 := Tryd.underlying110
 a146 := Tryd.isAgg110
 z146 := Tryd.sizeOf110
 v146 := Tryd.zeroValue110
 t164 := Tryd.underlying101
 a164 := Tryd.isAgg101
 z164 := Tryd.sizeOf101
 v164 := Tryd.zeroValue101
 g1 := by kernel_rfl
 g3 := by kernel_rfl
 g4 := by kernel_rfl }
theorem Tryd.Builder_Extra_155 : Builder.Extra Tryd.prog Tryd.lays155_ren := {
 sizeBuilder := by kernel_rfl
 liesBuilder := by kernel_rfl
 t5 := Tryd.underlying5
 a5 := Tryd.isAgg5
 z5 := Tryd.sizeOf5
 v5 := Tryd.zeroValue5
 infoByte := by kernel_rfl
 cellsByte := by kernel_rfl
 sizeByte := by kernel_rfl
 neB5 := by decide }
open Go.RowKit Go.Lib in
theorem Tryd.strings_ReplaceAll (s old new : ByteArray) (m : Int) (w : World) (hs : s.size < 4294967281) (hm : w.cell? ⟨3, 0, none⟩ = some (.int .i64 m)) (h1 : 1 ≤ old.size) (hlen : s.size + Lib.countB s old * new.size ≤ 140737488355328) :
  Calls Tryd.prog 39 #[.string s, .string old, .string new] w fun e w' =>
   e = .returned (.string ⟨(Lib.replaceAll s.data.toList old.data.toList new.data.toList).toArray⟩) /\ Below w.heap.size w w' := Any.strings_ReplaceAll Tryd.lays155 Tryd.Builder_Extra_155 s old new m w hs hm h1 hlen
end Go.Proofs
end
noncomputable section
namespace Go.Proofs.YtoiojmpkifgimaaDoor
open Go.AV
def cF (P : Program) (f : FuncId) : AFn := (trF P f).getD ⟨0, [], .skip⟩
theorem tF {P : Program} {f : FuncId} (h : (trF P f).isSome = true) : trF P f = some (cF P f) := by
 obtain ⟨c, e⟩ := Option.isSome_iff_exists.1 h
 unfold cF; rw [e]; rfl
def r3_0 : List AO := [⟨some 4, none, .box 4 1 (.c (.bl false))⟩]
def r3_1 : List AO := [⟨some 16, none, .call 4 []⟩,
 ⟨some 17, none, .un .not (.t 16)⟩]
def r3_2 : List AO := [⟨none, none, .sto 1 (.t 4) (.c (.bl false))⟩]
def r3_3 : List AO := [⟨some 19, none, .mv (.t 0)⟩,
 ⟨some 20, none, .mv (.t 0)⟩,
 ⟨some 21, none, .len (.t 20)⟩,
 ⟨some 22, none, .mnx false [(.t 21), (.c (.it .i64 40))]⟩,
 ⟨some 23, none, .sll 7 (.t 19) none (some (.t 22))⟩,
 ⟨some 24, none, .call 5 [(.t 23), (.c (.it .i64 0)), (.c (.it .i64 0))]⟩,
 ⟨some 18, none, .mv (.t 24)⟩,
 ⟨some 25, none, .ext (.t 18) 0⟩,
 ⟨some 26, none, .ext (.t 18) 1⟩,
 ⟨some 5, none, .box 28 8 (.c (.agg [(.it .i64 0), (.it .i64 0), (.it .i64 0), (.it .i64 0), (.st []), (.st []), (.st []), (.sl true 0 [])]))⟩,
 ⟨none, none, .sto 8 (.t 5) (.t 25)⟩,
 ⟨some 6, none, .mv (.t 26)⟩]
def r3_4 : List AO := [⟨some 28, none, .mv (.t 1)⟩,
 ⟨some 29, none, .mv (.t 1)⟩,
 ⟨some 30, none, .len (.t 29)⟩,
 ⟨some 31, none, .mnx false [(.t 30), (.c (.it .i64 40))]⟩,
 ⟨some 32, none, .sll 7 (.t 28) none (some (.t 31))⟩,
 ⟨some 33, none, .call 5 [(.t 32), (.c (.it .i64 0)), (.c (.it .i64 0))]⟩,
 ⟨some 27, none, .mv (.t 33)⟩,
 ⟨some 34, none, .ext (.t 27) 0⟩,
 ⟨some 35, none, .ext (.t 27) 1⟩,
 ⟨some 7, none, .box 28 8 (.c (.agg [(.it .i64 0), (.it .i64 0), (.it .i64 0), (.it .i64 0), (.st []), (.st []), (.st []), (.sl true 0 [])]))⟩,
 ⟨none, none, .sto 8 (.t 7) (.t 34)⟩,
 ⟨some 8, none, .mv (.t 35)⟩]
def r3_5 : List (AO × List Nat) := [(⟨some 36, none, .ld true 8 (.t 5)⟩, []),
 (⟨some 37, none, .call 6 [(.t 36)]⟩, []),
 (⟨some 38, none, .ld true 8 (.t 7)⟩, [1]),
 (⟨some 39, none, .call 6 [(.t 38)]⟩, []),
 (⟨some 9, none, .box 34 8 (.c (.agg [(.it .i64 0), (.it .i64 0), (.it .i64 0), (.it .i64 0), (.st []), (.st []), (.st []), (.sl true 0 [])]))⟩, [0, 1, 2, 3]),
 (⟨some 10, none, .box 34 8 (.c (.agg [(.it .i64 0), (.it .i64 0), (.it .i64 0), (.it .i64 0), (.st []), (.st []), (.st []), (.sl true 0 [])]))⟩, [0, 1, 2, 3, 4]),
 (⟨none, none, .sto 8 (.t 9) (.t 37)⟩, []),
 (⟨none, none, .sto 8 (.t 10) (.t 39)⟩, [])]
def r3_6 : List AO := [⟨some 11, none, .mv (.c (.st []))⟩]
def r3_7 : List AO := [⟨some 40, none, .ld true 8 (.t 5)⟩,
 ⟨some 41, none, .call 7 [(.t 40)]⟩]
def r3_8 : List AO := [⟨some 42, none, .ld true 8 (.t 5)⟩,
 ⟨some 43, none, .call 8 [(.t 42)]⟩,
 ⟨some 11, none, .mv (.t 43)⟩]
def r3_9 : List (AO × List Nat) := [(⟨some 44, none, .ld true 8 (.t 9)⟩, []),
 (⟨some 45, none, .call 9 [(.t 44)]⟩, []),
 (⟨some 46, none, .ld true 8 (.t 5)⟩, [1]),
 (⟨some 47, none, .call 7 [(.t 46)]⟩, []),
 (⟨some 48, none, .eq true 0 (.t 45) (.t 47)⟩, []),
 (⟨some 49, none, .mv (.t 48)⟩, []),
 (⟨some 50, some (49, false), .ld true 8 (.t 9)⟩, []),
 (⟨some 51, some (49, false), .call 10 [(.t 50)]⟩, []),
 (⟨some 52, some (49, false), .ld true 8 (.t 5)⟩, [7]),
 (⟨some 53, some (49, false), .call 11 [(.t 52)]⟩, []),
 (⟨some 54, some (49, false), .eq true 1 (.t 51) (.t 53)⟩, []),
 (⟨some 55, none, .pick (.t 49) (.c (.bl true)) (.t 54)⟩, []),
 (⟨some 56, none, .mv (.t 55)⟩, []),
 (⟨some 57, some (56, false), .ld true 8 (.t 9)⟩, []),
 (⟨some 58, some (56, false), .call 12 [(.t 57)]⟩, []),
 (⟨some 59, some (56, false), .mv (.t 11)⟩, [14]),
 (⟨some 60, some (56, false), .eq true 2 (.t 58) (.t 59)⟩, []),
 (⟨some 61, none, .pick (.t 56) (.c (.bl true)) (.t 60)⟩, []),
 (⟨some 62, none, .mv (.t 61)⟩, []),
 (⟨some 63, some (62, false), .ld true 8 (.t 9)⟩, []),
 (⟨some 64, some (62, false), .ld true 8 (.t 10)⟩, []),
 (⟨some 65, some (62, false), .call 13 [(.t 63), (.t 64)]⟩, []),
 (⟨some 66, some (62, false), .ld true 8 (.t 5)⟩, [21]),
 (⟨some 67, some (62, false), .ld true 8 (.t 7)⟩, [21]),
 (⟨some 68, some (62, false), .call 14 [(.t 66), (.t 67)]⟩, []),
 (⟨some 69, some (62, false), .eq true 0 (.t 65) (.t 68)⟩, []),
 (⟨some 70, none, .pick (.t 62) (.c (.bl true)) (.t 69)⟩, []),
 (⟨some 71, none, .mv (.t 70)⟩, []),
 (⟨some 72, some (71, false), .ld true 8 (.t 9)⟩, []),
 (⟨some 73, some (71, false), .ld true 8 (.t 5)⟩, []),
 (⟨some 74, some (71, false), .call 6 [(.t 73)]⟩, [28]),
 (⟨some 75, some (71, false), .call 13 [(.t 72), (.t 74)]⟩, []),
 (⟨some 76, some (71, false), .un .not (.t 75)⟩, []),
 (⟨some 77, none, .pick (.t 71) (.c (.bl true)) (.t 76)⟩, [])]
def ysj : List AO := [⟨none, none, .sto 1 (.t 4) (.c (.bl false))⟩]
def ysN : List AO := [⟨some 78, none, .ld true 8 (.t 5)⟩,
 ⟨some 79, none, .call 15 [(.t 78)]⟩,
 ⟨some 12, none, .box 26 1 (.c (.sl true 0 []))⟩,
 ⟨none, none, .sto 1 (.t 12) (.t 79)⟩]
def ytm : List AO := [⟨some 13, none, .box 3 1 (.c (.it .i64 0))⟩,
 ⟨none, none, .sto 1 (.t 13) (.c (.it .i64 0))⟩]
def yrE : List AO := [⟨some 80, none, .ld true 8 (.t 9)⟩,
 ⟨some 81, none, .call 16 [(.t 80)]⟩]
def yth : List AO := [⟨some 15, none, .box 3 1 (.c (.it .i64 0))⟩,
 ⟨none, none, .sto 1 (.t 15) (.c (.it .i64 0))⟩]
def yq6 : List AO := [⟨some 99, none, .ld true 8 (.t 9)⟩,
 ⟨some 100, none, .call 16 [(.t 99)]⟩]
def ysl : List AO := [⟨some 104, none, .ld false 1 (.t 13)⟩,
 ⟨some 105, none, .ld false 1 (.t 12)⟩,
 ⟨some 106, none, .len (.t 105)⟩,
 ⟨some 107, none, .eq false 1 (.t 104) (.t 106)⟩,
 ⟨some 108, none, .mv (.t 107)⟩,
 ⟨some 109, some (108, true), .ld false 1 (.t 15)⟩,
 ⟨some 110, some (108, true), .eq false 1 (.t 109) (.c (.it .i64 1))⟩,
 ⟨some 111, none, .pick (.t 108) (.t 110) (.c (.bl false))⟩,
 ⟨none, none, .sto 1 (.t 4) (.t 111)⟩]
set_option maxRecDepth 1000000 in
def c3 : AFn := ⟨112, [(4, some 0)],
 (.seq (.ops r3_0)
 (.seq (.seq (.ops r3_1)
 (.cond (.t 17) (.seq (.ops r3_2)
 .ret)
 .skip))
 (.seq (.ops r3_3)
 (.seq (.ops r3_4)
 (.seq (.drw r3_5)
 (.seq (.ops r3_6)
 (.seq (.seq (.ops r3_7)
 (.cond (.t 41) (.ops r3_8)
 .skip))
 (.seq (.seq (.drw r3_9)
 (.cond (.t 77) (.seq (.ops ysj)
 .ret)
 .skip))
 (.seq (.ops ysN)
 (.seq (.ops ytm)
 (.seq (.seq (.ops yrE)
 (.block 0 (.rng 112 (.t 81) (rngX Tryd.prog 3 0).1 (rngX Tryd.prog 3 0).2.1 (rngX Tryd.prog 3 0).2.2)))
 (.seq (.ops yth)
 (.seq (.seq (.ops yq6)
 (.block 2 (.rng 112 (.t 100) (rngX Tryd.prog 3 1).1 (rngX Tryd.prog 3 1).2.1 (rngX Tryd.prog 3 1).2.2)))
 (.seq (.ops ysl)
 .ret))))))))))))))⟩
set_option maxRecDepth 1000000 in
theorem t3 : trF Tryd.prog 3 = some c3 := by kernel_rfl
def yro : List AO := [⟨some 14, none, .box 34 8 (.c (.agg [(.it .i64 0), (.it .i64 0), (.it .i64 0), (.it .i64 0), (.st []), (.st []), (.st []), (.sl true 0 [])]))⟩,
 ⟨none, none, .sto 8 (.t 14) (.t 82)⟩]
def ysL : ybC := (.ops yro)
theorem ytR : trC Tryd.prog 112 (rngX Tryd.prog 3 0).2.1 = some ysL := by kernel_rfl
def yqR : List (AO × List Nat) := [(⟨some 83, none, .ld false 1 (.t 13)⟩, []),
 (⟨some 84, none, .ld false 1 (.t 12)⟩, []),
 (⟨some 85, none, .len (.t 84)⟩, []),
 (⟨some 86, none, .bin .geq (.t 83) (.t 85)⟩, []),
 (⟨some 87, none, .mv (.t 86)⟩, []),
 (⟨some 88, some (87, false), .ld true 8 (.t 14)⟩, []),
 (⟨some 89, some (87, false), .ld false 1 (.t 12)⟩, []),
 (⟨some 90, some (87, false), .ld false 1 (.t 13)⟩, []),
 (⟨some 91, some (87, false), .iad 8 (.t 89) (.t 90)⟩, []),
 (⟨some 92, some (87, false), .ld true 8 (.t 91)⟩, []),
 (⟨some 93, some (87, false), .call 6 [(.t 92)]⟩, [5]),
 (⟨some 94, some (87, false), .call 13 [(.t 88), (.t 93)]⟩, []),
 (⟨some 95, some (87, false), .un .not (.t 94)⟩, []),
 (⟨some 96, none, .pick (.t 87) (.c (.bl true)) (.t 95)⟩, [])]
def yq5 : List AO := [⟨none, none, .sto 1 (.t 4) (.c (.bl false))⟩]
def yrh : List AO := [⟨some 97, none, .ld false 1 (.t 13)⟩,
 ⟨some 98, none, .bin .add (.t 97) (.c (.it .i64 1))⟩,
 ⟨none, none, .sto 1 (.t 13) (.t 98)⟩]
def yrp : ybC := (.block 1 (.seq (.seq (.drw yqR)
 (.cond (.t 96) (.seq (.ops yq5)
 .ret)
 .skip))
 (.ops yrh)))
theorem ytP : trC Tryd.prog 112 (rngX Tryd.prog 3 0).2.2 = some yrp := by kernel_rfl
def ysQ : ybC := .skip
theorem ytV : trC Tryd.prog 112 (rngX Tryd.prog 3 1).2.1 = some ysQ := by kernel_rfl
def yqE : List AO := [⟨some 102, none, .ld false 1 (.t 15)⟩,
 ⟨some 103, none, .bin .add (.t 102) (.c (.it .i64 1))⟩,
 ⟨none, none, .sto 1 (.t 15) (.t 103)⟩]
def yrc : ybC := (.block 3 (.seq (.ops yqE)
 (.exit 2)))
theorem ytJ : trC Tryd.prog 112 (rngX Tryd.prog 3 1).2.2 = some yrc := by kernel_rfl
def c4 : AFn := cF Tryd.prog 4
theorem t4 : trF Tryd.prog 4 = some c4 := tF (by kernel_rfl)
def c5 : AFn := cF Tryd.prog 5
theorem t5 : trF Tryd.prog 5 = some c5 := tF (by kernel_rfl)
def c6 : AFn := cF Tryd.prog 6
theorem t6 : trF Tryd.prog 6 = some c6 := tF (by kernel_rfl)
def c7 : AFn := cF Tryd.prog 7
theorem t7 : trF Tryd.prog 7 = some c7 := tF (by kernel_rfl)
def c8 : AFn := cF Tryd.prog 8
theorem t8 : trF Tryd.prog 8 = some c8 := tF (by kernel_rfl)
def c9 : AFn := cF Tryd.prog 9
theorem t9 : trF Tryd.prog 9 = some c9 := tF (by kernel_rfl)
def c10 : AFn := cF Tryd.prog 10
theorem t10 : trF Tryd.prog 10 = some c10 := tF (by kernel_rfl)
def c11 : AFn := cF Tryd.prog 11
theorem t11 : trF Tryd.prog 11 = some c11 := tF (by kernel_rfl)
def c12 : AFn := cF Tryd.prog 12
theorem t12 : trF Tryd.prog 12 = some c12 := tF (by kernel_rfl)
def c13 : AFn := cF Tryd.prog 13
theorem t13 : trF Tryd.prog 13 = some c13 := tF (by kernel_rfl)
def c14 : AFn := cF Tryd.prog 14
theorem t14 : trF Tryd.prog 14 = some c14 := tF (by kernel_rfl)
def c15 : AFn := cF Tryd.prog 15
theorem t15 : trF Tryd.prog 15 = some c15 := tF (by kernel_rfl)
def ytZ : List AO := [⟨some 1, none, .box 34 8 (.t 0)⟩,
 ⟨some 2, none, .mv (.c .nfn)⟩]
def ytN : List AO := [⟨some 3, none, .mkf (.func 24) [] [(.t 1)]⟩,
 ⟨some 2, none, .mv (.t 3)⟩]
set_option maxRecDepth 1000000 in
def c16 : AFn := ⟨4, [(2, none)],
 (.seq (.ops ytZ)
 (.seq (.ops ytN)
 .ret))⟩
set_option maxRecDepth 1000000 in
theorem t16 : trF Tryd.prog 16 = some c16 := by kernel_rfl
def c17 : AFn := cF Tryd.prog 17
theorem t17 : trF Tryd.prog 17 = some c17 := tF (by kernel_rfl)
def c18 : AFn := cF Tryd.prog 18
theorem t18 : trF Tryd.prog 18 = some c18 := tF (by kernel_rfl)
def c19 : AFn := cF Tryd.prog 19
theorem t19 : trF Tryd.prog 19 = some c19 := tF (by kernel_rfl)
def c20 : AFn := cF Tryd.prog 20
theorem t20 : trF Tryd.prog 20 = some c20 := tF (by kernel_rfl)
def c21 : AFn := cF Tryd.prog 21
theorem t21 : trF Tryd.prog 21 = some c21 := tF (by kernel_rfl)
def c22 : AFn := cF Tryd.prog 22
theorem t22 : trF Tryd.prog 22 = some c22 := tF (by kernel_rfl)
def c23 : AFn := cF Tryd.prog 23
theorem t23 : trF Tryd.prog 23 = some c23 := tF (by kernel_rfl)
def ytM : List AO := [⟨some 3, none, .ld true 8 (.t 1)⟩,
 ⟨some 4, none, .mv (.t 0)⟩,
 ⟨some 5, none, .call 25 [(.t 3), (.t 4)]⟩]
set_option maxRecDepth 1000000 in
def c24 : AFn := ⟨6, [],
 (.ops ytM)⟩
set_option maxRecDepth 1000000 in
theorem t24 : trF Tryd.prog 24 = some c24 := by kernel_rfl
def yt1 : List AO := [⟨some 2, none, .box 34 8 (.t 0)⟩,
 ⟨some 4, none, .mv (.c (.bl false))⟩]
def yuc : List AO := [⟨some 7, none, .mv (.t 1)⟩,
 ⟨some 8, none, .ld true 8 (.t 2)⟩,
 ⟨some 9, none, .calv (.t 7) [(.t 8)]⟩,
 ⟨some 10, none, .un .not (.t 9)⟩]
def yuk : List AO := [⟨some 4, none, .mv (.c (.bl false))⟩]
def yt5 : List AO := [⟨some 11, none, .fad 7 (.t 2)⟩,
 ⟨some 12, none, .ld false 1 (.t 11)⟩,
 ⟨some 13, none, .len (.t 12)⟩,
 ⟨some 14, none, .mv (.c (.it .i64 0))⟩]
def yud : List AO := [⟨some 15, none, .bin .lss (.t 14) (.t 13)⟩]
def ytS : List AO := [⟨some 16, none, .iad 8 (.t 12) (.t 14)⟩,
 ⟨some 17, none, .ld true 8 (.t 16)⟩,
 ⟨some 6, none, .box 34 8 (.c (.agg [(.it .i64 0), (.it .i64 0), (.it .i64 0), (.it .i64 0), (.st []), (.st []), (.st []), (.sl true 0 [])]))⟩,
 ⟨none, none, .sto 8 (.t 6) (.t 17)⟩]
def ytX : List AO := [⟨some 18, none, .ld true 8 (.t 6)⟩,
 ⟨some 19, none, .mv (.t 1)⟩,
 ⟨some 20, none, .call 25 [(.t 18), (.t 19)]⟩,
 ⟨some 21, none, .un .not (.t 20)⟩]
def yuj : List AO := [⟨some 4, none, .mv (.c (.bl false))⟩]
def yup : List AO := [⟨some 22, none, .bin .add (.t 14) (.c (.it .i64 1))⟩,
 ⟨some 14, none, .mv (.t 22)⟩]
def yuh : List AO := [⟨some 4, none, .mv (.c (.bl true))⟩]
set_option maxRecDepth 1000000 in
def c25 : AFn := ⟨23, [(4, none)],
 (.seq (.ops yt1)
 (.seq (.seq (.ops yuc)
 (.cond (.t 10) (.seq (.ops yuk)
 .ret)
 .skip))
 (.seq (.seq (.ops yt5)
 (.block 0 (.loop (.seq (.ops yud)
 (.seq (.cond (.t 15) .skip
 (.exit 0))
 (.seq (.block 1 (.seq (.ops ytS)
 (.seq (.ops ytX)
 (.cond (.t 21) (.seq (.ops yuj)
 .ret)
 .skip))))
 (.ops yup)))))))
 (.seq (.ops yuh)
 .ret))))⟩
set_option maxRecDepth 1000000 in
theorem t25 : trF Tryd.prog 25 = some c25 := by kernel_rfl
def c26 : AFn := cF Tryd.prog 26
theorem t26 : trF Tryd.prog 26 = some c26 := tF (by kernel_rfl)
def c27 : AFn := cF Tryd.prog 27
theorem t27 : trF Tryd.prog 27 = some c27 := tF (by kernel_rfl)
def c28 : AFn := cF Tryd.prog 28
theorem t28 : trF Tryd.prog 28 = some c28 := tF (by kernel_rfl)
def c29 : AFn := cF Tryd.prog 29
theorem t29 : trF Tryd.prog 29 = some c29 := tF (by kernel_rfl)
def c30 : AFn := cF Tryd.prog 30
theorem t30 : trF Tryd.prog 30 = some c30 := tF (by kernel_rfl)
def c31 : AFn := cF Tryd.prog 31
theorem t31 : trF Tryd.prog 31 = some c31 := tF (by kernel_rfl)
def c32 : AFn := cF Tryd.prog 32
theorem t32 : trF Tryd.prog 32 = some c32 := tF (by kernel_rfl)
def c33 : AFn := cF Tryd.prog 33
theorem t33 : trF Tryd.prog 33 = some c33 := tF (by kernel_rfl)
def c34 : AFn := cF Tryd.prog 34
theorem t34 : trF Tryd.prog 34 = some c34 := tF (by kernel_rfl)
def c35 : AFn := cF Tryd.prog 35
theorem t35 : trF Tryd.prog 35 = some c35 := tF (by kernel_rfl)
def c36 : AFn := cF Tryd.prog 36
theorem t36 : trF Tryd.prog 36 = some c36 := tF (by kernel_rfl)
def c37 : AFn := cF Tryd.prog 37
theorem t37 : trF Tryd.prog 37 = some c37 := tF (by kernel_rfl)
def c40 : AFn := cF Tryd.prog 40
theorem t40 : trF Tryd.prog 40 = some c40 := tF (by kernel_rfl)
def c41 : AFn := cF Tryd.prog 41
theorem t41 : trF Tryd.prog 41 = some c41 := tF (by kernel_rfl)
def c42 : AFn := cF Tryd.prog 42
theorem t42 : trF Tryd.prog 42 = some c42 := tF (by kernel_rfl)
def c43 : AFn := cF Tryd.prog 43
theorem t43 : trF Tryd.prog 43 = some c43 := tF (by kernel_rfl)
def c46 : AFn := cF Tryd.prog 46
theorem t46 : trF Tryd.prog 46 = some c46 := tF (by kernel_rfl)
def c51 : AFn := cF Tryd.prog 51
theorem t51 : trF Tryd.prog 51 = some c51 := tF (by kernel_rfl)
def c53 : AFn := cF Tryd.prog 53
theorem t53 : trF Tryd.prog 53 = some c53 := tF (by kernel_rfl)
def c72 : AFn := cF Tryd.prog 72
theorem t72 : trF Tryd.prog 72 = some c72 := tF (by kernel_rfl)
end Go.Proofs.YtoiojmpkifgimaaDoor
end
noncomputable section
namespace Go.Proofs.YtoiojmpkifgimaaDoor
open Go.AV Go.RowKit
structure yae where
 Kind : Int
 N : Int
 S : Str
inductive yab where
 | mk (Kind : Int) (Op : Int) (V : yae) (Table : Str) (Name : Str) (L : (List yab))
def yab.Kind : yab → Int
 | .mk y _ _ _ _ _ => y
def yab.Op : yab → Int
 | .mk _ y _ _ _ _ => y
def yab.V : yab → yae
 | .mk _ _ y _ _ _ => y
def yab.Table : yab → Str
 | .mk _ _ _ y _ _ => y
def yab.Name : yab → Str
 | .mk _ _ _ _ y _ => y
def yab.L : yab → (List yab)
 | .mk _ _ _ _ _ y => y
structure yac where
 Kind : Int
 Op : Int
 Value : Int
 Parts : Int
 N : Int
 Name : Str
 Table : Str
structure yag where
 Kind : Int
 N : Int
 S : Str
inductive yaa where
 | mk (Kind : Int) (Op : Int) (V : yag) (Table : Str) (Name : Str) (L : (List yaa))
def yaa.Kind : yaa → Int
 | .mk y _ _ _ _ _ => y
def yaa.Op : yaa → Int
 | .mk _ y _ _ _ _ => y
def yaa.V : yaa → yag
 | .mk _ _ y _ _ _ => y
def yaa.Table : yaa → Str
 | .mk _ _ _ y _ _ => y
def yaa.Name : yaa → Str
 | .mk _ _ _ _ y _ => y
def yaa.L : yaa → (List yaa)
 | .mk _ _ _ _ _ y => y
inductive TC where
 | c0
 | c2
 | c3
 | c4
 | c5
 | c9
 | c22
 | c25
 | c26
 | c28
 | c31
 | c32
 | c34
 | c50
def KF : TC → Type
 | .c0 => Unit
 | .c2 => Int
 | .c3 => Int
 | .c4 => Bool
 | .c5 => Int
 | .c9 => Str
 | .c22 => (List yac)
 | .c25 => yag
 | .c26 => (List yaa)
 | .c28 => yaa
 | .c31 => yae
 | .c32 => (List yab)
 | .c34 => yab
 | .c50 => yac
def yt0 : List (Nat × TC) := [(2, .c2), (3, .c3), (4, .c4), (5, .c5), (9, .c9), (22, .c22), (25, .c25), (26, .c26), (28, .c28), (31, .c31), (32, .c32), (34, .c34), (50, .c50)]
def code (t : Nat) : TC := lkC .c0 yt0 t
abbrev KK (t : Nat) : Type := KF (code t)
def yaj : Enc yac := yon ((ybN (tbI .u8) (ybN (tbI .u8) (ybN (tbI .u8) (ybN (tbI .u8) (ybN (tbI .i64) (ybN tbS tbS)))))) : Tb KK _).E (fun x : yac => (x.Kind, x.Op, x.Value, x.Parts, x.N, x.Name, x.Table))
def b50 : Tb KK yac := ylY (ybN (tbI .u8) (ybN (tbI .u8) (ybN (tbI .u8) (ybN (tbI .u8) (ybN (tbI .i64) (ybN tbS tbS)))))) (fun x : yac => (x.Kind, x.Op, x.Value, x.Parts, x.N, x.Name, x.Table)) (fun y => (⟨y.1, y.2.1, y.2.2.1, y.2.2.2.1, y.2.2.2.2.1, y.2.2.2.2.2.1, y.2.2.2.2.2.2⟩ : yac)) yaj
def ybd : Enc yag := yon ((ybN (tbI .i64) (ybN (tbI .i64) tbS)) : Tb KK _).E (fun x : yag => (x.Kind, x.N, x.S))
def b25 : Tb KK yag := ylY (ybN (tbI .i64) (ybN (tbI .i64) tbS)) (fun x : yag => (x.Kind, x.N, x.S)) (fun y => (⟨y.1, y.2.1, y.2.2⟩ : yag)) ybd
mutual
def yaf : yaa → List AV
 | .mk v_Kind v_Op v_V v_Table v_Name v_L => ([.it .i64 v_Kind]) ++ ([.it .i64 v_Op]) ++ (ybd.c v_V) ++ ([.st v_Table]) ++ ([.st v_Name]) ++ ([.sl false v_L.length (ybt v_L)])
def ybt : List yaa → List AV
 | [] => []
 | x :: r => yaf x ++ ybt r
end
theorem yel : ∀ l, ybt l = l.flatMap yaf
 | [] => rfl
 | x :: r => by simp only [ybt, List.flatMap_cons, yel r]
mutual
theorem yaE : ∀ x, (yaf x).length = 8
 | .mk v_Kind v_Op v_V v_Table v_Name v_L => by first | (simp [yaf, ybd.len]; done) | (simp [yaf, ybd.len]; rfl)
end
mutual
theorem yaI : ∀ x, noLs (yaf x) = true
 | .mk v_Kind v_Op v_V v_Table v_Name v_L => by simp [yaf, yht, noLs, AV.noL, slA, ybd.no]
end
mutual
theorem ycK : ∀ x, (yaf x).all AV.one = true
 | .mk v_Kind v_Op v_V v_Table v_Name v_L => by simp only [yaf, List.all_append, List.all_cons, List.all_nil, AV.one, slA, Bool.and_true, Bool.true_and, ybd.one]
end
def yah : Enc yaa := ⟨yaf, 8, by omega, yaE, yaI, ycK⟩
def b28 : Tb KK yaa := ylY (ybN (tbI .i64) (ybN (tbI .i64) (ybN b25 (ybN tbS (ybN tbS (tbL 28 yah : Tb KK (List yaa))))))) (fun x : yaa => (x.Kind, x.Op, x.V, x.Table, x.Name, x.L)) (fun y => (yaa.mk y.1 y.2.1 y.2.2.1 y.2.2.2.1 y.2.2.2.2.1 y.2.2.2.2.2)) yah
def ybc : Enc yae := yon ((ybN (tbI .i64) (ybN (tbI .i64) tbS)) : Tb KK _).E (fun x : yae => (x.Kind, x.N, x.S))
def b31 : Tb KK yae := ylY (ybN (tbI .i64) (ybN (tbI .i64) tbS)) (fun x : yae => (x.Kind, x.N, x.S)) (fun y => (⟨y.1, y.2.1, y.2.2⟩ : yae)) ybc
mutual
def yad : yab → List AV
 | .mk v_Kind v_Op v_V v_Table v_Name v_L => ([.it .i64 v_Kind]) ++ ([.it .i64 v_Op]) ++ (ybc.c v_V) ++ ([.st v_Table]) ++ ([.st v_Name]) ++ ([.sl false v_L.length (yal v_L)])
def yal : List yab → List AV
 | [] => []
 | x :: r => yad x ++ yal r
end
theorem yeG : ∀ l, yal l = l.flatMap yad
 | [] => rfl
 | x :: r => by simp only [yal, List.flatMap_cons, yeG r]
mutual
theorem yaq : ∀ x, (yad x).length = 8
 | .mk v_Kind v_Op v_V v_Table v_Name v_L => by first | (simp [yad, ybc.len]; done) | (simp [yad, ybc.len]; rfl)
end
mutual
theorem yaF : ∀ x, noLs (yad x) = true
 | .mk v_Kind v_Op v_V v_Table v_Name v_L => by simp [yad, yht, noLs, AV.noL, slA, ybc.no]
end
mutual
theorem yaJ : ∀ x, (yad x).all AV.one = true
 | .mk v_Kind v_Op v_V v_Table v_Name v_L => by simp only [yad, List.all_append, List.all_cons, List.all_nil, AV.one, slA, Bool.and_true, Bool.true_and, ybc.one]
end
def yci : Enc yab := ⟨yad, 8, by omega, yaq, yaF, yaJ⟩
def b34 : Tb KK yab := ylY (ybN (tbI .i64) (ybN (tbI .i64) (ybN b31 (ybN tbS (ybN tbS (tbL 34 yci : Tb KK (List yab))))))) (fun x : yab => (x.Kind, x.Op, x.V, x.Table, x.Name, x.L)) (fun y => (yab.mk y.1 y.2.1 y.2.2.1 y.2.2.2.1 y.2.2.2.2.1 y.2.2.2.2.2)) yci
def TF : (c : TC) → Tb KK (KF c)
 | .c0 => tbU
 | .c2 => (tbI .i64)
 | .c3 => (tbI .i64)
 | .c4 => tbB
 | .c5 => (tbI .u8)
 | .c9 => tbS
 | .c22 => (tbL 50 yaj : Tb KK (List yac))
 | .c25 => b25
 | .c26 => (tbL 28 yah : Tb KK (List yaa))
 | .c28 => b28
 | .c31 => b31
 | .c32 => (tbL 34 yci : Tb KK (List yab))
 | .c34 => b34
 | .c50 => b50
def CC : Cx KK := @cxOf TC KF code TF
theorem yp2 : TbOk Tryd.prog CC b50 := yfO (yaZ (ycO _) (yaZ (ycO _) (yaZ (ycO _) (yaZ (ycO _) (yaZ (ycO _) (yaZ yf3 yf3)))))) (fun y => rfl) (fun x => rfl)
theorem ykf : ∀ x, dwks (yaj.c x) = yaj.c x := yp2.dw
theorem yoy : TbOk Tryd.prog CC b25 := yfO (yaZ (ycO _) (yaZ (ycO _) yf3)) (fun y => rfl) (fun x => rfl)
theorem yit : ∀ x, dwks (ybd.c x) = ybd.c x := yoy.dw
mutual
theorem yez : ∀ x, dwks (yaf x) = yaf x
 | .mk v_Kind v_Op v_V v_Table v_Name v_L => by simp only [yaf, ybi, dwks, dwk, slA, yem v_L, yit]
theorem yem : ∀ l, dwks (ybt l) = ybt l
 | [] => rfl
 | x :: r => by simp only [ybt, ybi, yez x, yem r]
end
theorem yfS : ∀ x, dwks (yah.c x) = yah.c x := yez
theorem yte : TbOk Tryd.prog CC b28 := yfO (yaZ (ycO _) (yaZ (ycO _) (yaZ yoy (yaZ yf3 (yaZ yf3 (ykw _ rfl yfS)))))) (fun y => rfl) (fun x => by cases x; simp only [yah, yaf, yel]; rfl)
theorem yo8 : TbOk Tryd.prog CC b31 := yfO (yaZ (ycO _) (yaZ (ycO _) yf3)) (fun y => rfl) (fun x => rfl)
theorem yin : ∀ x, dwks (ybc.c x) = ybc.c x := yo8.dw
mutual
theorem ye7 : ∀ x, dwks (yad x) = yad x
 | .mk v_Kind v_Op v_V v_Table v_Name v_L => by simp only [yad, ybi, dwks, dwk, slA, yeB v_L, yin]
theorem yeB : ∀ l, dwks (yal l) = yal l
 | [] => rfl
 | x :: r => by simp only [yal, ybi, ye7 x, yeB r]
end
theorem yg5 : ∀ x, dwks (yci.c x) = yci.c x := ye7
theorem ytt : TbOk Tryd.prog CC b34 := yfO (yaZ (ycO _) (yaZ (ycO _) (yaZ yo8 (yaZ yf3 (yaZ yf3 (ykw _ rfl yg5)))))) (fun y => rfl) (fun x => by cases x; simp only [yci, yad, yeG]; rfl)
theorem ybz : CxOk Tryd.prog CC := @yqP TC KF code _ TF fun c => match c with
 | .c0 => ytp
 | .c2 => (ycO _)
 | .c3 => (ycO _)
 | .c4 => yr2
 | .c5 => (ycO _)
 | .c9 => yf3
 | .c22 => (ykw _ rfl ykf)
 | .c25 => yoy
 | .c26 => (ykw _ rfl yfS)
 | .c28 => yte
 | .c31 => yo8
 | .c32 => (ykw _ rfl yg5)
 | .c34 => ytt
 | .c50 => yp2
def ybJ (a0 : Int) (r0 : yae) : Prop :=
 (⟨(2 : Int), a0, ([] : Str)⟩ : yae) = r0
def ye0 : Sp KK := ⟨17, [.v 2], [31], appW (K := KK) [31] [.v 2] ybJ⟩
def yii : An KK := (.s .o (.s .o .o))
def yio : Cf KK := ⟨CC, [], 5⟩
set_option maxRecDepth 100000 in
theorem yik : SpOk Tryd.prog CC ye0 := by
 intro env r hF h
 obtain ⟨a0, env0, rfl, h1⟩ := yam h
 obtain ⟨rfl, h2⟩ := yav h1
 obtain ⟨r0, rr0, rfl, h3⟩ := ya3 h2
 obtain ⟨rfl, h4⟩ := ya5 h3
 refine ⟨rfl, yaT (F := yio) ybz yaU t17 (A := yii) (ps := [.v 2]) (rs := [31]) (env := [.d (.v 2 a0)]) (r := [.v 31 r0]) (X := ybJ a0 r0) (by kernel_rfl) (Nat.le_of_ble_eq_true (by kernel_rfl)) rfl hF h4 ?_⟩
 kernel_rfl
def yeh (a0 : yab) (Xr : yab → Int → Prop) (r0 : Int) (X1 : Int → Int → Prop) (x1 : Int) (x2 : Int) : Prop :=
 cnd (decide (x2 < (a0.L.length : Int))) ((0 <= x2) /\ (x2 < (a0.L.length : Int)) /\ ∃ y3 : yab, (a0.L[x2.toNat]? = some y3) /\ ∃ z4 : Int, (Xr (yab.mk y3.Kind y3.Op (⟨y3.V.Kind, y3.V.N, y3.V.S⟩ : yae) y3.Table y3.Name y3.L) z4) /\ X1 (if z4 > x1 then z4 else x1) (IntKind.i64.wrap (x2 + (1 : Int)))) ((IntKind.i64.wrap (x1 + (1 : Int))) = r0)
def ycA (Xr : yab → Int → Prop) (a0 : yab) (r0 : Int) : Prop :=
 (a0.L.length <= maxLen -> ∀ X1 : Int -> Int -> Prop, (∀ (x1 : Int) (x2 : Int), yeh a0 Xr r0 X1 x1 x2 -> X1 x1 x2) -> X1 (0 : Int) (0 : Int))
def ybE (a0 : yab) (r0 : Int) : Prop := ∀ Xr : yab -> Int -> Prop, (∀ (a0 : yab) (r0 : Int), ycA Xr a0 r0 -> Xr a0 r0) -> Xr a0 r0
def yds (Xr : yab → Int → Prop) (a0 : yab) (r0 : Int) (X1 : Int → Int → Prop) (x1 : Int) (x2 : Int) : Prop :=
 cnd (decide (x2 < (a0.L.length : Int))) ((0 <= x2) /\ (x2 < (a0.L.length : Int)) /\ ∃ y3 : yab, (a0.L[x2.toNat]? = some y3) /\ ∃ z4 : Int, (Xr (yab.mk y3.Kind y3.Op (⟨y3.V.Kind, y3.V.N, y3.V.S⟩ : yae) y3.Table y3.Name y3.L) z4) /\ X1 (if z4 > x1 then z4 else x1) (IntKind.i64.wrap (x2 + (1 : Int)))) ((IntKind.i64.wrap (x1 + (1 : Int))) = r0)
def yf4 (Xr : yab → Int → Prop) (a0 : yab) (r0 : Int) : Prop :=
 (a0.L.length <= maxLen -> ∀ X1 : Int -> Int -> Prop, (∀ (x1 : Int) (x2 : Int), yds Xr a0 r0 X1 x1 x2 -> X1 x1 x2) -> X1 (0 : Int) (0 : Int))
theorem yh2 (Xr : yab → Int → Prop) (a0 : yab) (r0 : Int) {X1 : Int → Int → Prop} {x1 : Int} {x2 : Int} (h : yds Xr a0 r0 X1 x1 x2) : yeh a0 Xr r0 X1 x1 x2 := by
 unfold yeh
 unfold yds at h
 exact h
theorem yjr (Xr : yab → Int → Prop) (a0 : yab) (r0 : Int) (h : yf4 Xr a0 r0) : ycA Xr a0 r0 := by
 unfold ycA
 unfold yf4 at h
 intro c
 replace h := h c
 intro X1 k
 exact h X1 (fun x1 x2 q => k x1 x2 (yh2 Xr a0 r0 q))
def ybH : Sp KK := ⟨10, [.v 34], [3], appW (K := KK) [3] [.v 34] ybE⟩
def yi9 : An KK := (.s .o (.s .o (.s (.s .o (.b (.l ⟨[(3, .it .i64), (7, .kp 6), (8, .kp 7), (9, .it .i64)], [], []⟩ (fun _ => (.s .o (.s (.c .o .o) (.s (.b (.s .o .o)) .o))))))) (.s .o .o))))
def yjS (Xr : WTy KK [3] [.v 34]) : Cf KK := ⟨CC, [⟨10, [.v 34], [3], appW (K := KK) [3] [.v 34] Xr⟩], 20⟩
set_option maxRecDepth 100000 in
theorem yiJ (Xr : yab → Int → Prop) (hX : ∀ (a0 : yab) (r0 : Int), Xr a0 r0 → Pure Tryd.prog 10 (yax CC [.v 34] ([.d (.v 34 a0)] : List (AD KK))) (yaP (([.v 3 r0] : List (DV KK)).map (dvA CC)))) : ∀ (a0 : yab) (r0 : Int), ycA Xr a0 r0 → Pure Tryd.prog 10 (yax CC [.v 34] ([.d (.v 34 a0)] : List (AD KK))) (yaP (([.v 3 r0] : List (DV KK)).map (dvA CC))) := by
 intro a0 r0 h
 refine yaT (F := yjS Xr) ybz (yaw ?_ yaU) t10 (A := yi9) (ps := [.v 34]) (rs := [3]) (env := [.d (.v 34 a0)]) (r := [.v 3 r0]) (X := ycA Xr a0 r0) (by kernel_rfl) (Nat.le_of_ble_eq_true (by kernel_rfl)) rfl (fun G hG => by simp at hG) h ?_
 ·clear h r0
  intro env r hF h
  obtain ⟨a0, env0, rfl, h1⟩ := yam h
  obtain ⟨rfl, h2⟩ := yav h1
  obtain ⟨r0, rr0, rfl, h3⟩ := ya3 h2
  obtain ⟨rfl, h4⟩ := ya5 h3
  exact ⟨rfl, hX a0 r0 h4⟩
 ·kernel_rfl
set_option maxRecDepth 100000 in
theorem yee : SpOk Tryd.prog CC ybH := by
 intro env r hF h
 obtain ⟨a0, env0, rfl, h1⟩ := yam h
 obtain ⟨rfl, h2⟩ := yav h1
 obtain ⟨r0, rr0, rfl, h3⟩ := ya3 h2
 obtain ⟨rfl, h4⟩ := ya5 h3
 exact ⟨rfl, h4 (fun a0 r0 =>  Pure Tryd.prog 10 (yax CC [.v 34] ([.d (.v 34 a0)] : List (AD KK))) (yaP (([.v 3 r0] : List (DV KK)).map (dvA CC)))) (fun a0 r0 h => yiJ _ (fun a0 r0 h => h) a0 r0 h)⟩
def ycd (a0 : yab) (r0 : Bool) (x1 : Bool) : Prop :=
 cnd x1 ((a0.L.length <= maxLen -> ((a0.L.length : Int) == (0 : Int)) = r0)) (cnd (a0.Kind == (3 : Int)) ((a0.L.length <= maxLen -> ((a0.L.length : Int) == (2 : Int)) = r0)) (cnd (a0.Kind == (8 : Int)) ((a0.L.length <= maxLen -> cnd ((a0.L.length : Int) == (1 : Int)) (true = r0) (cnd (a0.Op == (1 : Int)) ((a0.L.length <= maxLen -> ((a0.L.length : Int) == (0 : Int)) = r0)) (false = r0)))) (cnd (decide ((4 : Int) <= a0.Kind)) (cnd (decide (a0.Kind <= (7 : Int))) ((a0.L.length <= maxLen -> ((a0.L.length : Int) == (1 : Int)) = r0)) (false = r0)) (false = r0))))
def yaR (a0 : yab) (r0 : Bool) : Prop :=
 ∀ J1 : Bool -> Prop, (∀ (x1 : Bool), ycd a0 r0 x1 -> J1 x1) -> cnd (a0.Kind == (1 : Int)) (J1 (a0.Kind == (1 : Int))) (J1 (a0.Kind == (2 : Int)))
def yaS (a0 : yab) (r0 : Bool) (x1 : Bool) : Prop :=
 cnd x1 ((a0.L.length <= maxLen -> ((a0.L.length : Int) == (0 : Int)) = r0)) (cnd (a0.Kind == (3 : Int)) ((a0.L.length <= maxLen -> ((a0.L.length : Int) == (2 : Int)) = r0)) (cnd (a0.Kind == (8 : Int)) ((a0.L.length <= maxLen -> cnd ((a0.L.length : Int) == (1 : Int)) (true = r0) (cnd (a0.Op == (1 : Int)) ((a0.L.length <= maxLen -> ((a0.L.length : Int) == (0 : Int)) = r0)) (false = r0)))) (cnd (decide ((4 : Int) <= a0.Kind)) (cnd (decide (a0.Kind <= (7 : Int))) ((a0.L.length <= maxLen -> ((a0.L.length : Int) == (1 : Int)) = r0)) (false = r0)) (false = r0))))
def ycc (a0 : yab) (r0 : Bool) : Prop :=
 cnd (a0.Kind == (1 : Int)) (yaS a0 r0 (a0.Kind == (1 : Int))) (yaS a0 r0 (a0.Kind == (2 : Int)))
theorem yeZ (a0 : yab) (r0 : Bool) {x1 : Bool} (h : yaS a0 r0 x1) : ycd a0 r0 x1 := by
 unfold ycd
 unfold yaS at h
 exact h
theorem ygm (a0 : yab) (r0 : Bool) (h : ycc a0 r0) : yaR a0 r0 := by
 unfold yaR
 unfold ycc at h
 intro J1 kJ1
 have hJ1 : ∀ (x1 : Bool), yaS a0 r0 x1 -> J1 x1 := fun x1 q => kJ1 x1 (yeZ a0 r0 q)
 refine yai h (fun h => ?_) (fun h => ?_)
 ·exact hJ1 _ h
 ·exact hJ1 _ h
def ydj : Sp KK := ⟨29, [.v 34], [4], appW (K := KK) [4] [.v 34] yaR⟩
def yfL : An KK := (.s .o (.s (.s .o (.b (.j ⟨[(1, .px 1 0), (4, .kp 10), (5, .bl)], [(1, 34, [.kp 11, .kp 12, .kp 13, .kp 14, .kp 15, .kp 16, .kp 17, .kp 18])], []⟩ (.s .o (.c .o .o)) (fun _ => (.c (.s .o .o) (.s .o (.c (.s .o .o) (.s .o (.c (.s .o .o) .o))))))))) (.s .o .o)))
def yfR : Cf KK := ⟨CC, [], 49⟩
set_option maxRecDepth 100000 in
theorem ygd : SpOk Tryd.prog CC ydj := by
 intro env r hF h
 obtain ⟨a0, env0, rfl, h1⟩ := yam h
 obtain ⟨rfl, h2⟩ := yav h1
 obtain ⟨r0, rr0, rfl, h3⟩ := ya3 h2
 obtain ⟨rfl, h4⟩ := ya5 h3
 refine ⟨rfl, yaT (F := yfR) ybz yaU t29 (A := yfL) (ps := [.v 34]) (rs := [4]) (env := [.d (.v 34 a0)]) (r := [.v 4 r0]) (X := yaR a0 r0) (by kernel_rfl) (Nat.le_of_ble_eq_true (by kernel_rfl)) rfl hF h4 ?_⟩
 kernel_rfl
def ycm (r0 : Bool) (x1 : Int) (x2 : Int) (x3 : Int) (x4 : Int) (x5 : Str) (x6 : Str) (x7 : Str) (x8 : (List yab)) (x9 : Int) (x10 : Int) (x11 : Int) (x12 : Int) (x13 : Str) (x14 : Str) (x15 : Str) (x16 : (List yab)) : Prop :=
 cnd (x10 == x2) (cnd ((x11 == x3) && ((x12 == x4) && ((x13 == x5) && true))) (cnd (x14 == x6) ((x15 == x7) = r0) (false = r0)) (false = r0)) (false = r0)
def ycl (J1 : Int → Int → Int → Int → Str → Str → Str → (List yab) → Int → Int → Int → Int → Str → Str → Str → (List yab) → Prop) (a0 : yab) (x17 : Bool) : Prop :=
 cnd x17 (J1 a0.Kind a0.Op a0.V.Kind a0.V.N a0.V.S a0.Table a0.Name a0.L a0.Kind a0.Op (0 : Int) (0 : Int) ([] : Str) ([] : Str) ([] : Str) a0.L) (J1 a0.Kind a0.Op a0.V.Kind a0.V.N a0.V.S a0.Table a0.Name a0.L a0.Kind (0 : Int) (0 : Int) (0 : Int) ([] : Str) ([] : Str) ([] : Str) a0.L)
def ya4 (a0 : yab) (r0 : Bool) : Prop :=
 ∀ J1 : Int -> Int -> Int -> Int -> Str -> Str -> Str -> (List yab) -> Int -> Int -> Int -> Int -> Str -> Str -> Str -> (List yab) -> Prop, (∀ (x1 : Int) (x2 : Int) (x3 : Int) (x4 : Int) (x5 : Str) (x6 : Str) (x7 : Str) (x8 : (List yab)) (x9 : Int) (x10 : Int) (x11 : Int) (x12 : Int) (x13 : Str) (x14 : Str) (x15 : Str) (x16 : (List yab)), ycm r0 x1 x2 x3 x4 x5 x6 x7 x8 x9 x10 x11 x12 x13 x14 x15 x16 -> J1 x1 x2 x3 x4 x5 x6 x7 x8 x9 x10 x11 x12 x13 x14 x15 x16) -> cnd (a0.Kind == (1 : Int)) (J1 a0.Kind a0.Op a0.V.Kind a0.V.N a0.V.S a0.Table a0.Name a0.L a0.Kind (0 : Int) a0.V.Kind a0.V.N a0.V.S ([] : Str) ([] : Str) a0.L) (cnd (a0.Kind == (2 : Int)) (J1 a0.Kind a0.Op a0.V.Kind a0.V.N a0.V.S a0.Table a0.Name a0.L a0.Kind (0 : Int) (0 : Int) (0 : Int) ([] : Str) a0.Table a0.Name a0.L) (∀ J2 : Bool -> Prop, (∀ (x17 : Bool), ycl J1 a0 x17 -> J2 x17) -> cnd (a0.Kind == (3 : Int)) (J2 (a0.Kind == (3 : Int))) (J2 (a0.Kind == (8 : Int)))))
def yas (r0 : Bool) (x1 : Int) (x2 : Int) (x3 : Int) (x4 : Int) (x5 : Str) (x6 : Str) (x7 : Str) (x8 : (List yab)) (x9 : Int) (x10 : Int) (x11 : Int) (x12 : Int) (x13 : Str) (x14 : Str) (x15 : Str) (x16 : (List yab)) : Prop :=
 cnd (x10 == x2) (cnd ((x11 == x3) && ((x12 == x4) && ((x13 == x5) && true))) (cnd (x14 == x6) ((x15 == x7) = r0) (false = r0)) (false = r0)) (false = r0)
def ya0 (a0 : yab) (r0 : Bool) (x17 : Bool) : Prop :=
 cnd x17 (yas r0 a0.Kind a0.Op a0.V.Kind a0.V.N a0.V.S a0.Table a0.Name a0.L a0.Kind a0.Op (0 : Int) (0 : Int) ([] : Str) ([] : Str) ([] : Str) a0.L) (yas r0 a0.Kind a0.Op a0.V.Kind a0.V.N a0.V.S a0.Table a0.Name a0.L a0.Kind (0 : Int) (0 : Int) (0 : Int) ([] : Str) ([] : Str) ([] : Str) a0.L)
def ycg (a0 : yab) (r0 : Bool) : Prop :=
 cnd (a0.Kind == (1 : Int)) (yas r0 a0.Kind a0.Op a0.V.Kind a0.V.N a0.V.S a0.Table a0.Name a0.L a0.Kind (0 : Int) a0.V.Kind a0.V.N a0.V.S ([] : Str) ([] : Str) a0.L) (cnd (a0.Kind == (2 : Int)) (yas r0 a0.Kind a0.Op a0.V.Kind a0.V.N a0.V.S a0.Table a0.Name a0.L a0.Kind (0 : Int) (0 : Int) (0 : Int) ([] : Str) a0.Table a0.Name a0.L) (cnd (a0.Kind == (3 : Int)) (ya0 a0 r0 (a0.Kind == (3 : Int))) (ya0 a0 r0 (a0.Kind == (8 : Int)))))
theorem yfu (r0 : Bool) {x1 : Int} {x2 : Int} {x3 : Int} {x4 : Int} {x5 : Str} {x6 : Str} {x7 : Str} {x8 : (List yab)} {x9 : Int} {x10 : Int} {x11 : Int} {x12 : Int} {x13 : Str} {x14 : Str} {x15 : Str} {x16 : (List yab)} (h : yas r0 x1 x2 x3 x4 x5 x6 x7 x8 x9 x10 x11 x12 x13 x14 x15 x16) : ycm r0 x1 x2 x3 x4 x5 x6 x7 x8 x9 x10 x11 x12 x13 x14 x15 x16 := by
 unfold ycm
 unfold yas at h
 exact h
theorem yfB (J1 : Int → Int → Int → Int → Str → Str → Str → (List yab) → Int → Int → Int → Int → Str → Str → Str → (List yab) → Prop) (a0 : yab) (r0 : Bool) (hJ1 : ∀ (x1 : Int) (x2 : Int) (x3 : Int) (x4 : Int) (x5 : Str) (x6 : Str) (x7 : Str) (x8 : (List yab)) (x9 : Int) (x10 : Int) (x11 : Int) (x12 : Int) (x13 : Str) (x14 : Str) (x15 : Str) (x16 : (List yab)), yas r0 x1 x2 x3 x4 x5 x6 x7 x8 x9 x10 x11 x12 x13 x14 x15 x16 → J1 x1 x2 x3 x4 x5 x6 x7 x8 x9 x10 x11 x12 x13 x14 x15 x16) {x17 : Bool} (h : ya0 a0 r0 x17) : ycl J1 a0 x17 := by
 unfold ycl
 unfold ya0 at h
 refine yai h (fun h => ?_) (fun h => ?_)
 ·exact hJ1 _ _ _ _ _ _ _ _ _ _ _ _ _ _ _ _ h
 ·exact hJ1 _ _ _ _ _ _ _ _ _ _ _ _ _ _ _ _ h
theorem yhn (a0 : yab) (r0 : Bool) (h : ycg a0 r0) : ya4 a0 r0 := by
 unfold ya4
 unfold ycg at h
 intro J1 kJ1
 have hJ1 : ∀ (x1 : Int) (x2 : Int) (x3 : Int) (x4 : Int) (x5 : Str) (x6 : Str) (x7 : Str) (x8 : (List yab)) (x9 : Int) (x10 : Int) (x11 : Int) (x12 : Int) (x13 : Str) (x14 : Str) (x15 : Str) (x16 : (List yab)), yas r0 x1 x2 x3 x4 x5 x6 x7 x8 x9 x10 x11 x12 x13 x14 x15 x16 -> J1 x1 x2 x3 x4 x5 x6 x7 x8 x9 x10 x11 x12 x13 x14 x15 x16 := fun x1 x2 x3 x4 x5 x6 x7 x8 x9 x10 x11 x12 x13 x14 x15 x16 q => kJ1 x1 x2 x3 x4 x5 x6 x7 x8 x9 x10 x11 x12 x13 x14 x15 x16 (yfu r0 q)
 refine yai h (fun h => ?_) (fun h => ?_)
 ·exact hJ1 _ _ _ _ _ _ _ _ _ _ _ _ _ _ _ _ h
 ·refine yai h (fun h => ?_) (fun h => ?_)
  ·exact hJ1 _ _ _ _ _ _ _ _ _ _ _ _ _ _ _ _ h
  ·intro J2 kJ2
   have hJ2 : ∀ (x17 : Bool), ya0 a0 r0 x17 -> J2 x17 := fun x17 q => kJ2 x17 (yfB J1 a0 r0 hJ1 q)
   refine yai h (fun h => ?_) (fun h => ?_)
   ·exact hJ2 _ h
   ·exact hJ2 _ h
def ydL : Sp KK := ⟨30, [.v 34], [4], appW (K := KK) [4] [.v 34] ya4⟩
def ygD : An KK := (.s .o (.s .o (.j ⟨[(1, .px 1 0), (3, .px 3 0)], [(1, 34, [.it .i64, .it .i64, .it .i64, .it .i64, .st, .st, .st, .sl 34]), (3, 34, [.it .i64, .it .i64, .it .i64, .it .i64, .st, .st, .st, .sl 34])], []⟩ (.s .o (.b (.s .o (.c .o (.s .o (.c .o (.j ⟨[(1, .px 1 0), (3, .px 3 0), (24, .bl)], [(1, 34, [.kp 33, .kp 34, .kp 35, .kp 36, .kp 37, .kp 38, .kp 39, .kp 40]), (3, 34, [.kp 41, .kp 42, .kp 43, .kp 44, .kp 45, .kp 46, .kp 47, .kp 48])], []⟩ (.s .o (.c .o .o)) (fun _ => (.c .o .o))))))))) (fun _ => (.s .o .o)))))
def ygS : Cf KK := ⟨CC, [], 56⟩
set_option maxRecDepth 100000 in
theorem ygI : SpOk Tryd.prog CC ydL := by
 intro env r hF h
 obtain ⟨a0, env0, rfl, h1⟩ := yam h
 obtain ⟨rfl, h2⟩ := yav h1
 obtain ⟨r0, rr0, rfl, h3⟩ := ya3 h2
 obtain ⟨rfl, h4⟩ := ya5 h3
 refine ⟨rfl, yaT (F := ygS) ybz yaU t30 (A := ygD) (ps := [.v 34]) (rs := [4]) (env := [.d (.v 34 a0)]) (r := [.v 4 r0]) (X := ya4 a0 r0) (by kernel_rfl) (Nat.le_of_ble_eq_true (by kernel_rfl)) rfl hF h4 ?_⟩
 kernel_rfl
def yaH (a0 : yae) (r0 : Bool) : Prop :=
 cnd (a0.Kind == (0 : Int)) (((a0.Kind == (0 : Int)) && ((a0.N == (0 : Int)) && ((a0.S == ([] : Str)) && true))) = r0) (cnd (a0.Kind == (1 : Int)) (cnd (a0.N == (0 : Int)) ((a0.S == ([] : Str)) = r0) (cnd (a0.N == (1 : Int)) ((a0.S == ([] : Str)) = r0) (false = r0))) (cnd (a0.Kind == (2 : Int)) ((a0.S == ([] : Str)) = r0) (cnd (a0.Kind == (3 : Int)) (cnd (a0.N == (0 : Int)) ((decide ((a0.S.length : Int) <= (64 : Int))) = r0) (false = r0)) (false = r0))))
def ybV : Sp KK := ⟨34, [.v 31], [4], appW (K := KK) [4] [.v 31] yaH⟩
def yfi : An KK := (.s .o (.s (.s .o (.b (.s .o (.c (.s .o .o) (.s .o (.c (.s .o .o) (.s .o (.c (.s .o .o) (.s .o (.c (.s .o .o) .o)))))))))) (.s .o .o)))
def yfr : Cf KK := ⟨CC, [], 41⟩
set_option maxRecDepth 100000 in
theorem yc8 : SpOk Tryd.prog CC ybV := by
 intro env r hF h
 obtain ⟨a0, env0, rfl, h1⟩ := yam h
 obtain ⟨rfl, h2⟩ := yav h1
 obtain ⟨r0, rr0, rfl, h3⟩ := ya3 h2
 obtain ⟨rfl, h4⟩ := ya5 h3
 refine ⟨rfl, yaT (F := yfr) ybz yaU t34 (A := yfi) (ps := [.v 31]) (rs := [4]) (env := [.d (.v 31 a0)]) (r := [.v 4 r0]) (X := yaH a0 r0) (by kernel_rfl) (Nat.le_of_ble_eq_true (by kernel_rfl)) rfl hF h4 ?_⟩
 kernel_rfl
def ych (a0 : Int) (r0 : Bool) : Prop :=
 cnd (decide ((97 : Int) <= a0)) ((decide (a0 <= (122 : Int))) = r0) (false = r0)
def yeI : Sp KK := ⟨40, [.v 5], [4], appW (K := KK) [4] [.v 5] ych⟩
def yk3 : An KK := (.s .o (.s .o .o))
def yk7 : Cf KK := ⟨CC, [], 9⟩
set_option maxRecDepth 100000 in
theorem ygU : SpOk Tryd.prog CC yeI := by
 intro env r hF h
 obtain ⟨a0, env0, rfl, h1⟩ := yam h
 obtain ⟨rfl, h2⟩ := yav h1
 obtain ⟨r0, rr0, rfl, h3⟩ := ya3 h2
 obtain ⟨rfl, h4⟩ := ya5 h3
 refine ⟨rfl, yaT (F := yk7) ybz yaU t40 (A := yk3) (ps := [.v 5]) (rs := [4]) (env := [.d (.v 5 a0)]) (r := [.v 4 r0]) (X := ych a0 r0) (by kernel_rfl) (Nat.le_of_ble_eq_true (by kernel_rfl)) rfl hF h4 ?_⟩
 kernel_rfl
def yc2 (a0 : Int) (r0 : Bool) : Prop :=
 cnd (decide ((48 : Int) <= a0)) ((decide (a0 <= (57 : Int))) = r0) (false = r0)
def yg6 : Sp KK := ⟨46, [.v 5], [4], appW (K := KK) [4] [.v 5] yc2⟩
def yk0 : An KK := (.s .o (.s .o .o))
def yk8 : Cf KK := ⟨CC, [], 9⟩
set_option maxRecDepth 100000 in
theorem ykq : SpOk Tryd.prog CC yg6 := by
 intro env r hF h
 obtain ⟨a0, env0, rfl, h1⟩ := yam h
 obtain ⟨rfl, h2⟩ := yav h1
 obtain ⟨r0, rr0, rfl, h3⟩ := ya3 h2
 obtain ⟨rfl, h4⟩ := ya5 h3
 refine ⟨rfl, yaT (F := yk8) ybz yaU t46 (A := yk0) (ps := [.v 5]) (rs := [4]) (env := [.d (.v 5 a0)]) (r := [.v 4 r0]) (X := yc2 a0 r0) (by kernel_rfl) (Nat.le_of_ble_eq_true (by kernel_rfl)) rfl hF h4 ?_⟩
 kernel_rfl
def ydR (a0 : Int) (r0 : Bool) : Prop :=
 ∃ z1 : Bool, (ych a0 z1) /\ cnd z1 (true = r0) (∃ z2 : Bool, (yc2 a0 z2) /\ cnd z2 (true = r0) ((a0 == (95 : Int)) = r0))
def yhN : Sp KK := ⟨42, [.v 5], [4], appW (K := KK) [4] [.v 5] ydR⟩
def yl5 : An KK := (.s .o (.s .o .o))
def ylQ : Cf KK := ⟨CC, [yeI, yg6], 13⟩
set_option maxRecDepth 100000 in
theorem ylp : SpOk Tryd.prog CC yhN := by
 intro env r hF h
 obtain ⟨a0, env0, rfl, h1⟩ := yam h
 obtain ⟨rfl, h2⟩ := yav h1
 obtain ⟨r0, rr0, rfl, h3⟩ := ya3 h2
 obtain ⟨rfl, h4⟩ := ya5 h3
 refine ⟨rfl, yaT (F := ylQ) ybz (yaw ygU (yaw ykq yaU)) t42 (A := yl5) (ps := [.v 5]) (rs := [4]) (env := [.d (.v 5 a0)]) (r := [.v 4 r0]) (X := ydR a0 r0) (by kernel_rfl) (Nat.le_of_ble_eq_true (by kernel_rfl)) rfl hF h4 ?_⟩
 kernel_rfl
def yfD (X1 : Int → Prop) (x1 : Int) (a0 : Str) (r0 : Str) (x2 : Bool) : Prop :=
 cnd x2 (X1 (IntKind.i64.wrap (x1 + (1 : Int)))) ((0 <= (0 : Int) /\ (0 : Int) <= x1 /\ x1 <= (a0.length : Int)) /\ ((a0.drop (0 : Int).toNat).take (x1.toNat - (0 : Int).toNat)) = r0)
def yft (a0 : Str) (r0 : Str) (g1 : Int → Bool → Prop) (X1 : Int → Prop) (x1 : Int) : Prop :=
 ∀ J2 : Bool -> Prop, (∀ (x2 : Bool), yfD X1 x1 a0 r0 x2 -> J2 x2) -> cnd (decide (x1 < (a0.length : Int))) ((0 <= x1 /\ x1 < (a0.length : Int)) /\ ∃ z3 : Bool, (g1 (bAt a0 x1) z3) /\ J2 z3) (J2 false)
def ycY (a0 : Str) (g1 : Int → Bool → Prop) (r0 : Str) : Prop :=
 ∀ X1 : Int -> Prop, (∀ (x1 : Int), yft a0 r0 g1 X1 x1 -> X1 x1) -> X1 (0 : Int)
def ybZ (X1 : Int → Prop) (a0 : Str) (r0 : Str) (x1 : Int) (x2 : Bool) : Prop :=
 cnd x2 (X1 (IntKind.i64.wrap (x1 + (1 : Int)))) ((0 <= (0 : Int) /\ (0 : Int) <= x1 /\ x1 <= (a0.length : Int)) /\ ((a0.drop (0 : Int).toNat).take (x1.toNat - (0 : Int).toNat)) = r0)
def ydn (a0 : Str) (g1 : Int → Bool → Prop) (r0 : Str) (X1 : Int → Prop) (x1 : Int) : Prop :=
 cnd (decide (x1 < (a0.length : Int))) ((0 <= x1 /\ x1 < (a0.length : Int)) /\ ∃ z3 : Bool, (g1 (bAt a0 x1) z3) /\ ybZ X1 a0 r0 x1 z3) (ybZ X1 a0 r0 x1 false)
def yhV (a0 : Str) (g1 : Int → Bool → Prop) (r0 : Str) : Prop :=
 ∀ X1 : Int -> Prop, (∀ (x1 : Int), ydn a0 g1 r0 X1 x1 -> X1 x1) -> X1 (0 : Int)
theorem yjR (X1 : Int → Prop) (a0 : Str) (r0 : Str) (x1 : Int) {x2 : Bool} (h : ybZ X1 a0 r0 x1 x2) : yfD X1 x1 a0 r0 x2 := by
 unfold yfD
 unfold ybZ at h
 exact h
theorem yka (a0 : Str) (g1 : Int → Bool → Prop) (r0 : Str) {X1 : Int → Prop} {x1 : Int} (h : ydn a0 g1 r0 X1 x1) : yft a0 r0 g1 X1 x1 := by
 unfold yft
 unfold ydn at h
 intro J2 kJ2
 have hJ2 : ∀ (x2 : Bool), ybZ X1 a0 r0 x1 x2 -> J2 x2 := fun x2 q => kJ2 x2 (yjR X1 a0 r0 x1 q)
 refine yai h (fun h => ?_) (fun h => ?_)
 ·obtain ⟨h0, h⟩ := h
  refine ⟨h0, ?_⟩
  obtain ⟨z3, h⟩ := h
  refine ⟨z3, ?_⟩
  obtain ⟨h0, h⟩ := h
  refine ⟨h0, ?_⟩
  exact hJ2 _ h
 ·exact hJ2 _ h
theorem ym8 (a0 : Str) (g1 : Int → Bool → Prop) (r0 : Str) (h : yhV a0 g1 r0) : ycY a0 g1 r0 := by
 unfold ycY
 unfold yhV at h
 intro X1 k
 exact h X1 (fun x1 q => k x1 (yka a0 g1 r0 q))
def yhG : Sp KK := ⟨41, [.v 9, .f [5] [4]], [9], appW (K := KK) [9] [.v 9, .f [5] [4]] ycY⟩
def ylu : An KK := (.s .o (.s .o (.s (.b (.l ⟨[(0, .kp 8), (1, .kp 9), (5, .it .i64)], [], []⟩ (fun _ => (.s (.j ⟨[(0, .kp 8), (1, .kp 9), (5, .kp 14), (16, .bl)], [], []⟩ .o (fun _ => (.c .o .o))) (.b .o))))) (.s .o .o))))
def yly : Cf KK := ⟨CC, [], 22⟩
set_option maxRecDepth 100000 in
theorem ylq : SpOk Tryd.prog CC yhG := by
 intro env r hF h
 obtain ⟨a0, env0, rfl, h1⟩ := yam h
 obtain ⟨F1, env1, rfl, h2⟩ := ypN h1
 obtain ⟨rfl, h3⟩ := yav h2
 obtain ⟨r0, rr0, rfl, h4⟩ := ya3 h3
 obtain ⟨rfl, h5⟩ := ya5 h4
 refine ⟨rfl, yaT (F := yly) ybz yaU t41 (A := ylu) (ps := [.v 9, .f [5] [4]]) (rs := [9]) (env := [.d (.v 9 a0), .f F1]) (r := [.v 9 r0]) (X := ycY a0 (curF [4] [5] F1.W) r0) (by kernel_rfl) (Nat.le_of_ble_eq_true (by kernel_rfl)) rfl hF h5 ?_⟩
 kernel_rfl
def ydK (a0 : Str) (r0 : Bool) : Prop :=
 cnd (!(a0 == ([] : Str))) (cnd (decide ((a0.length : Int) <= (16 : Int))) ((0 <= (0 : Int) /\ (0 : Int) < (a0.length : Int)) /\ ∃ z1 : Bool, (ych (bAt a0 (0 : Int)) z1) /\ cnd z1 (∃ z2 : Str, (ycY a0 ydR z2) /\ (z2 == a0) = r0) (false = r0)) (false = r0)) (false = r0)
def yh1 : Sp KK := ⟨35, [.v 9], [4], appW (K := KK) [4] [.v 9] ydK⟩
def ylH : An KK := (.s .o (.s .o .o))
def ylV : Cf KK := ⟨CC, [yeI, yhN, yhG], 21⟩
set_option maxRecDepth 100000 in
theorem ylw : SpOk Tryd.prog CC yh1 := by
 intro env r hF h
 obtain ⟨a0, env0, rfl, h1⟩ := yam h
 obtain ⟨rfl, h2⟩ := yav h1
 obtain ⟨r0, rr0, rfl, h3⟩ := ya3 h2
 obtain ⟨rfl, h4⟩ := ya5 h3
 refine ⟨rfl, yaT (F := ylV) ybz (yaw ygU (yaw ylp (yaw ylq yaU))) t35 (A := ylH) (ps := [.v 9]) (rs := [4]) (env := [.d (.v 9 a0)]) (r := [.v 4 r0]) (X := ydK a0 r0) (by kernel_rfl) (Nat.le_of_ble_eq_true (by kernel_rfl)) rfl hF h4 ?_⟩
 kernel_rfl
def ya7 (a0 : yab) (r0 : Bool) : Prop :=
 cnd (a0.Kind == (1 : Int)) (∃ z1 : Bool, (yaH (⟨a0.V.Kind, a0.V.N, a0.V.S⟩ : yae) z1) /\ cnd z1 (cnd (!(a0.V.Kind == (2 : Int))) (true = r0) ((decide ((0 : Int) <= a0.V.N)) = r0)) (false = r0)) (cnd (a0.Kind == (2 : Int)) (∃ z2 : Bool, (ydK a0.Name z2) /\ cnd z2 (cnd (a0.Table == ([] : Str)) (true = r0) (∃ z3 : Bool, (ydK a0.Table z3) /\ z3 = r0)) (false = r0)) (cnd (a0.Kind == (3 : Int)) (cnd (decide ((1 : Int) <= a0.Op)) ((decide (a0.Op <= (14 : Int))) = r0) (false = r0)) (cnd (a0.Kind == (8 : Int)) (cnd (decide ((1 : Int) <= a0.Op)) ((decide (a0.Op <= (4 : Int))) = r0) (false = r0)) (true = r0))))
def yde : Sp KK := ⟨31, [.v 34], [4], appW (K := KK) [4] [.v 34] ya7⟩
def yfY : An KK := (.s .o (.s (.s .o (.b (.s .o (.c (.s .o .o) (.s .o (.c (.s .o .o) (.s .o (.c (.s .o .o) (.s .o (.c (.s .o .o) .o)))))))))) (.s .o .o)))
def yge : Cf KK := ⟨CC, [ybV, yh1], 57⟩
set_option maxRecDepth 100000 in
theorem yga : SpOk Tryd.prog CC yde := by
 intro env r hF h
 obtain ⟨a0, env0, rfl, h1⟩ := yam h
 obtain ⟨rfl, h2⟩ := yav h1
 obtain ⟨r0, rr0, rfl, h3⟩ := ya3 h2
 obtain ⟨rfl, h4⟩ := ya5 h3
 refine ⟨rfl, yaT (F := yge) ybz (yaw yc8 (yaw ylw yaU)) t31 (A := yfY) (ps := [.v 34]) (rs := [4]) (env := [.d (.v 34 a0)]) (r := [.v 4 r0]) (X := ya7 a0 r0) (by kernel_rfl) (Nat.le_of_ble_eq_true (by kernel_rfl)) rfl hF h4 ?_⟩
 kernel_rfl
def ycj (r0 : Bool) (X2 : Int → Prop) (x2 : Int) (x4 : Bool) : Prop :=
 cnd x4 (false = r0) (X2 (IntKind.i64.wrap (x2 + (1 : Int))))
def yck (a0 : yab) (r0 : Bool) (a1 : Bool) (Xr : yab → Bool → Bool → Prop) (X2 : Int → Prop) (x2 : Int) : Prop :=
 cnd (decide (x2 < (a0.L.length : Int))) ((0 <= x2) /\ (x2 < (a0.L.length : Int)) /\ ∃ y3 : yab, (a0.L[x2.toNat]? = some y3) /\ ∀ J3 : Bool -> Prop, (∀ (x4 : Bool), ycj r0 X2 x2 x4 -> J3 x4) -> cnd a1 (∃ z5 : Bool, (Xr (yab.mk y3.Kind y3.Op (⟨y3.V.Kind, y3.V.N, y3.V.S⟩ : yae) y3.Table y3.Name y3.L) true z5) /\ J3 (!z5)) (∃ z6 : Bool, (Xr (yab.mk y3.Kind y3.Op (⟨y3.V.Kind, y3.V.N, y3.V.S⟩ : yae) y3.Table y3.Name y3.L) (a0.Kind == (8 : Int)) z6) /\ J3 (!z6))) (true = r0)
def ycf (r0 : Bool) (a0 : yab) (a1 : Bool) (Xr : yab → Bool → Bool → Prop) (x1 : Bool) : Prop :=
 cnd x1 (false = r0) ((a0.L.length <= maxLen -> ∀ X2 : Int -> Prop, (∀ (x2 : Int), yck a0 r0 a1 Xr X2 x2 -> X2 x2) -> X2 (0 : Int)))
def ybu (Xr : yab → Bool → Bool → Prop) (a0 : yab) (a1 : Bool) (r0 : Bool) : Prop :=
 ∀ J1 : Bool -> Prop, (∀ (x1 : Bool), ycf r0 a0 a1 Xr x1 -> J1 x1) -> ∃ z7 : Bool, (yaR (yab.mk a0.Kind a0.Op (⟨a0.V.Kind, a0.V.N, a0.V.S⟩ : yae) a0.Table a0.Name a0.L) z7) /\ cnd (!z7) (J1 true) (∃ z8 : Bool, (ya4 (yab.mk a0.Kind a0.Op (⟨a0.V.Kind, a0.V.N, a0.V.S⟩ : yae) a0.Table a0.Name a0.L) z8) /\ cnd (!z8) (J1 true) (∃ z9 : Bool, (ya7 (yab.mk a0.Kind a0.Op (⟨a0.V.Kind, a0.V.N, a0.V.S⟩ : yae) a0.Table a0.Name a0.L) z9) /\ cnd (!z9) (J1 true) (cnd a1 (J1 (a0.Kind == (8 : Int))) (J1 false))))
def ycH (a0 : yab) (a1 : Bool) (r0 : Bool) : Prop := ∀ Xr : yab -> Bool -> Bool -> Prop, (∀ (a0 : yab) (a1 : Bool) (r0 : Bool), ybu Xr a0 a1 r0 -> Xr a0 a1 r0) -> Xr a0 a1 r0
def yaY (X2 : Int → Prop) (r0 : Bool) (x2 : Int) (x4 : Bool) : Prop :=
 cnd x4 (false = r0) (X2 (IntKind.i64.wrap (x2 + (1 : Int))))
def yby (Xr : yab → Bool → Bool → Prop) (a0 : yab) (a1 : Bool) (r0 : Bool) (X2 : Int → Prop) (x2 : Int) : Prop :=
 cnd (decide (x2 < (a0.L.length : Int))) ((0 <= x2) /\ (x2 < (a0.L.length : Int)) /\ ∃ y3 : yab, (a0.L[x2.toNat]? = some y3) /\ cnd a1 (∃ z5 : Bool, (Xr (yab.mk y3.Kind y3.Op (⟨y3.V.Kind, y3.V.N, y3.V.S⟩ : yae) y3.Table y3.Name y3.L) true z5) /\ yaY X2 r0 x2 (!z5)) (∃ z6 : Bool, (Xr (yab.mk y3.Kind y3.Op (⟨y3.V.Kind, y3.V.N, y3.V.S⟩ : yae) y3.Table y3.Name y3.L) (a0.Kind == (8 : Int)) z6) /\ yaY X2 r0 x2 (!z6))) (true = r0)
def yat (Xr : yab → Bool → Bool → Prop) (a0 : yab) (a1 : Bool) (r0 : Bool) (x1 : Bool) : Prop :=
 cnd x1 (false = r0) ((a0.L.length <= maxLen -> ∀ X2 : Int -> Prop, (∀ (x2 : Int), yby Xr a0 a1 r0 X2 x2 -> X2 x2) -> X2 (0 : Int)))
def ydE (Xr : yab → Bool → Bool → Prop) (a0 : yab) (a1 : Bool) (r0 : Bool) : Prop :=
 ∃ z7 : Bool, (yaR (yab.mk a0.Kind a0.Op (⟨a0.V.Kind, a0.V.N, a0.V.S⟩ : yae) a0.Table a0.Name a0.L) z7) /\ cnd (!z7) (yat Xr a0 a1 r0 true) (∃ z8 : Bool, (ya4 (yab.mk a0.Kind a0.Op (⟨a0.V.Kind, a0.V.N, a0.V.S⟩ : yae) a0.Table a0.Name a0.L) z8) /\ cnd (!z8) (yat Xr a0 a1 r0 true) (∃ z9 : Bool, (ya7 (yab.mk a0.Kind a0.Op (⟨a0.V.Kind, a0.V.N, a0.V.S⟩ : yae) a0.Table a0.Name a0.L) z9) /\ cnd (!z9) (yat Xr a0 a1 r0 true) (cnd a1 (yat Xr a0 a1 r0 (a0.Kind == (8 : Int))) (yat Xr a0 a1 r0 false))))
theorem yfx (X2 : Int → Prop) (r0 : Bool) (x2 : Int) {x4 : Bool} (h : yaY X2 r0 x2 x4) : ycj r0 X2 x2 x4 := by
 unfold ycj
 unfold yaY at h
 exact h
theorem yfF (Xr : yab → Bool → Bool → Prop) (a0 : yab) (a1 : Bool) (r0 : Bool) {X2 : Int → Prop} {x2 : Int} (h : yby Xr a0 a1 r0 X2 x2) : yck a0 r0 a1 Xr X2 x2 := by
 unfold yck
 unfold yby at h
 refine yai h (fun h => ?_) (fun h => ?_)
 ·obtain ⟨h0, h⟩ := h
  refine ⟨h0, ?_⟩
  obtain ⟨h0, h⟩ := h
  refine ⟨h0, ?_⟩
  obtain ⟨y3, h⟩ := h
  refine ⟨y3, ?_⟩
  obtain ⟨h0, h⟩ := h
  refine ⟨h0, ?_⟩
  intro J3 kJ3
  have hJ3 : ∀ (x4 : Bool), yaY X2 r0 x2 x4 -> J3 x4 := fun x4 q => kJ3 x4 (yfx X2 r0 x2 q)
  refine yai h (fun h => ?_) (fun h => ?_)
  ·obtain ⟨z5, h⟩ := h
   refine ⟨z5, ?_⟩
   obtain ⟨h0, h⟩ := h
   refine ⟨h0, ?_⟩
   exact hJ3 _ h
  ·obtain ⟨z6, h⟩ := h
   refine ⟨z6, ?_⟩
   obtain ⟨h0, h⟩ := h
   refine ⟨h0, ?_⟩
   exact hJ3 _ h
 ·exact h
theorem yfj (Xr : yab → Bool → Bool → Prop) (a0 : yab) (a1 : Bool) (r0 : Bool) {x1 : Bool} (h : yat Xr a0 a1 r0 x1) : ycf r0 a0 a1 Xr x1 := by
 unfold ycf
 unfold yat at h
 refine yai h (fun h => ?_) (fun h => ?_)
 ·exact h
 ·intro c
  replace h := h c
  intro X2 k
  exact h X2 (fun x2 q => k x2 (yfF Xr a0 a1 r0 q))
theorem ygu (Xr : yab → Bool → Bool → Prop) (a0 : yab) (a1 : Bool) (r0 : Bool) (h : ydE Xr a0 a1 r0) : ybu Xr a0 a1 r0 := by
 unfold ybu
 unfold ydE at h
 intro J1 kJ1
 have hJ1 : ∀ (x1 : Bool), yat Xr a0 a1 r0 x1 -> J1 x1 := fun x1 q => kJ1 x1 (yfj Xr a0 a1 r0 q)
 obtain ⟨z7, h⟩ := h
 refine ⟨z7, ?_⟩
 obtain ⟨h0, h⟩ := h
 refine ⟨h0, ?_⟩
 refine yai h (fun h => ?_) (fun h => ?_)
 ·exact hJ1 _ h
 ·obtain ⟨z8, h⟩ := h
  refine ⟨z8, ?_⟩
  obtain ⟨h0, h⟩ := h
  refine ⟨h0, ?_⟩
  refine yai h (fun h => ?_) (fun h => ?_)
  ·exact hJ1 _ h
  ·obtain ⟨z9, h⟩ := h
   refine ⟨z9, ?_⟩
   obtain ⟨h0, h⟩ := h
   refine ⟨h0, ?_⟩
   refine yai h (fun h => ?_) (fun h => ?_)
   ·exact hJ1 _ h
   ·refine yai h (fun h => ?_) (fun h => ?_)
    ·exact hJ1 _ h
    ·exact hJ1 _ h
def ydS : Sp KK := ⟨21, [.v 34, .v 4], [4], appW (K := KK) [4] [.v 34, .v 4] ycH⟩
def ygO : An KK := (.s .o (.s (.j ⟨[(1, .kp 10), (2, .px 2 0), (27, .bl)], [(2, 34, [.kp 11, .kp 12, .kp 13, .kp 14, .kp 15, .kp 16, .kp 17, .kp 18])], []⟩ .o (fun _ => (.c (.s .o .o) .o))) (.s (.s .o (.b (.l ⟨[(1, .kp 10), (2, .px 2 0), (29, .kp 18), (30, .kp 25), (31, .it .i64)], [(2, 34, [.kp 11, .kp 12, .kp 13, .kp 14, .kp 15, .kp 16, .kp 17, .kp 18])], []⟩ (fun _ => (.s .o (.s (.c .o .o) (.s (.b (.s .o (.j ⟨[(1, .kp 10), (2, .px 2 0), (29, .kp 18), (30, .kp 25), (31, .kp 30), (43, .bl)], [(2, 34, [.kp 11, .kp 12, .kp 13, .kp 14, .kp 15, .kp 16, .kp 17, .kp 18])], []⟩ .o (fun _ => (.c (.s .o .o) .o))))) .o))))))) (.s .o .o))))
def ygN (Xr : WTy KK [4] [.v 34, .v 4]) : Cf KK := ⟨CC, [⟨21, [.v 34, .v 4], [4], appW (K := KK) [4] [.v 34, .v 4] Xr⟩, ydj, ydL, yde], 45⟩
set_option maxRecDepth 100000 in
theorem yf2 (Xr : yab → Bool → Bool → Prop) (hX : ∀ (a0 : yab) (a1 : Bool) (r0 : Bool), Xr a0 a1 r0 → Pure Tryd.prog 21 (yax CC [.v 34, .v 4] ([.d (.v 34 a0), .d (.v 4 a1)] : List (AD KK))) (yaP (([.v 4 r0] : List (DV KK)).map (dvA CC)))) : ∀ (a0 : yab) (a1 : Bool) (r0 : Bool), ybu Xr a0 a1 r0 → Pure Tryd.prog 21 (yax CC [.v 34, .v 4] ([.d (.v 34 a0), .d (.v 4 a1)] : List (AD KK))) (yaP (([.v 4 r0] : List (DV KK)).map (dvA CC))) := by
 intro a0 a1 r0 h
 refine yaT (F := ygN Xr) ybz (yaw ?_ (yaw ygd (yaw ygI (yaw yga yaU)))) t21 (A := ygO) (ps := [.v 34, .v 4]) (rs := [4]) (env := [.d (.v 34 a0), .d (.v 4 a1)]) (r := [.v 4 r0]) (X := ybu Xr a0 a1 r0) (by kernel_rfl) (Nat.le_of_ble_eq_true (by kernel_rfl)) rfl (fun G hG => by simp at hG) h ?_
 ·clear h r0
  intro env r hF h
  obtain ⟨a0, env0, rfl, h1⟩ := yam h
  obtain ⟨a1, env1, rfl, h2⟩ := yam h1
  obtain ⟨rfl, h3⟩ := yav h2
  obtain ⟨r0, rr0, rfl, h4⟩ := ya3 h3
  obtain ⟨rfl, h5⟩ := ya5 h4
  exact ⟨rfl, hX a0 a1 r0 h5⟩
 ·kernel_rfl
set_option maxRecDepth 100000 in
theorem ygn : SpOk Tryd.prog CC ydS := by
 intro env r hF h
 obtain ⟨a0, env0, rfl, h1⟩ := yam h
 obtain ⟨a1, env1, rfl, h2⟩ := yam h1
 obtain ⟨rfl, h3⟩ := yav h2
 obtain ⟨r0, rr0, rfl, h4⟩ := ya3 h3
 obtain ⟨rfl, h5⟩ := ya5 h4
 exact ⟨rfl, h5 (fun a0 a1 r0 =>  Pure Tryd.prog 21 (yax CC [.v 34, .v 4] ([.d (.v 34 a0), .d (.v 4 a1)] : List (AD KK))) (yaP (([.v 4 r0] : List (DV KK)).map (dvA CC)))) (fun a0 a1 r0 h => yf2 _ (fun a0 a1 r0 h => h) a0 a1 r0 h)⟩
def ybB (a0 : yab) (r0 : Bool) : Prop :=
 ∃ z1 : Int, (ybE (yab.mk a0.Kind a0.Op (⟨a0.V.Kind, a0.V.N, a0.V.S⟩ : yae) a0.Table a0.Name a0.L) z1) /\ cnd (decide (z1 <= (20 : Int))) (∃ z2 : Bool, (ycH (yab.mk a0.Kind a0.Op (⟨a0.V.Kind, a0.V.N, a0.V.S⟩ : yae) a0.Table a0.Name a0.L) false z2) /\ z2 = r0) (false = r0)
def yb4 : Sp KK := ⟨9, [.v 34], [4], appW (K := KK) [4] [.v 34] ybB⟩
def yk4 : An KK := (.s .o (.s .o .o))
def ykS : Cf KK := ⟨CC, [ybH, ydS], 10⟩
set_option maxRecDepth 100000 in
theorem yex : SpOk Tryd.prog CC yb4 := by
 intro env r hF h
 obtain ⟨a0, env0, rfl, h1⟩ := yam h
 obtain ⟨rfl, h2⟩ := yav h1
 obtain ⟨r0, rr0, rfl, h3⟩ := ya3 h2
 obtain ⟨rfl, h4⟩ := ya5 h3
 refine ⟨rfl, yaT (F := ykS) ybz (yaw yee (yaw ygn yaU)) t9 (A := yk4) (ps := [.v 34]) (rs := [4]) (env := [.d (.v 34 a0)]) (r := [.v 4 r0]) (X := ybB a0 r0) (by kernel_rfl) (Nat.le_of_ble_eq_true (by kernel_rfl)) rfl hF h4 ?_⟩
 kernel_rfl
def ya2 (a0 : yae) (r0 : Bool) : Prop :=
 (a0.Kind == (0 : Int)) = r0
def ycZ : Sp KK := ⟨36, [.v 31], [4], appW (K := KK) [4] [.v 31] ya2⟩
def yfG : An KK := (.s .o (.s .o .o))
def yfo : Cf KK := ⟨CC, [], 6⟩
set_option maxRecDepth 100000 in
theorem yfs : SpOk Tryd.prog CC ycZ := by
 intro env r hF h
 obtain ⟨a0, env0, rfl, h1⟩ := yam h
 obtain ⟨rfl, h2⟩ := yav h1
 obtain ⟨r0, rr0, rfl, h3⟩ := ya3 h2
 obtain ⟨rfl, h4⟩ := ya5 h3
 refine ⟨rfl, yaT (F := yfo) ybz yaU t36 (A := yfG) (ps := [.v 31]) (rs := [4]) (env := [.d (.v 31 a0)]) (r := [.v 4 r0]) (X := ya2 a0 r0) (by kernel_rfl) (Nat.le_of_ble_eq_true (by kernel_rfl)) rfl hF h4 ?_⟩
 kernel_rfl
def ybP (a0 : Bool) (r0 : yae) : Prop :=
 cnd a0 ((⟨(1 : Int), (1 : Int), ([] : Str)⟩ : yae) = r0) ((⟨(1 : Int), (0 : Int), ([] : Str)⟩ : yae) = r0)
def yeC : Sp KK := ⟨43, [.v 4], [31], appW (K := KK) [31] [.v 4] ybP⟩
def yie : An KK := (.s .o (.s (.s .o (.c (.s .o .o) .o)) (.s .o .o)))
def yh0 : Cf KK := ⟨CC, [], 6⟩
set_option maxRecDepth 100000 in
theorem yhI : SpOk Tryd.prog CC yeC := by
 intro env r hF h
 obtain ⟨a0, env0, rfl, h1⟩ := yam h
 obtain ⟨rfl, h2⟩ := yav h1
 obtain ⟨r0, rr0, rfl, h3⟩ := ya3 h2
 obtain ⟨rfl, h4⟩ := ya5 h3
 refine ⟨rfl, yaT (F := yh0) ybz yaU t43 (A := yie) (ps := [.v 4]) (rs := [31]) (env := [.d (.v 4 a0)]) (r := [.v 31 r0]) (X := ybP a0 r0) (by kernel_rfl) (Nat.le_of_ble_eq_true (by kernel_rfl)) rfl hF h4 ?_⟩
 kernel_rfl
def ya1 (a0 : yae) (r0 : Bool) : Prop :=
 ∃ z1 : yae, (ybP true z1) /\ ((a0.Kind == z1.Kind) && ((a0.N == z1.N) && ((a0.S == z1.S) && true))) = r0
def yc0 : Sp KK := ⟨37, [.v 31], [4], appW (K := KK) [4] [.v 31] ya1⟩
def yfy : An KK := (.s .o (.s .o .o))
def yfv : Cf KK := ⟨CC, [yeC], 6⟩
set_option maxRecDepth 100000 in
theorem yfp : SpOk Tryd.prog CC yc0 := by
 intro env r hF h
 obtain ⟨a0, env0, rfl, h1⟩ := yam h
 obtain ⟨rfl, h2⟩ := yav h1
 obtain ⟨r0, rr0, rfl, h3⟩ := ya3 h2
 obtain ⟨rfl, h4⟩ := ya5 h3
 refine ⟨rfl, yaT (F := yfv) ybz (yaw yhI yaU) t37 (A := yfy) (ps := [.v 31]) (rs := [4]) (env := [.d (.v 31 a0)]) (r := [.v 4 r0]) (X := ya1 a0 r0) (by kernel_rfl) (Nat.le_of_ble_eq_true (by kernel_rfl)) rfl hF h4 ?_⟩
 kernel_rfl
def yaQ (a0 : Int) (a1 : Int) (r0 : Str) : Prop := a1 = 10 /\ -9223372036854775808 <= a0 /\ a0 <= 9223372036854775807 /\ r0 = Go.Lib.itoa a0
def ycP : Sp KK := ⟨38, [.v 2, .v 3], [9], appW (K := KK) [9] [.v 2, .v 3] yaQ⟩
set_option maxRecDepth 100000 in
theorem yfl {a0 : Int} {a1 : Int} {r0 : Str} (h : yaQ a0 a1 r0) : AV.Pure Tryd.prog 38 [.it .i64 a0, .it .i64 a1] (.st r0) := by
 obtain ⟨rfl, q0, q1, rfl⟩ := h
 exact ykp Tryd.func38 (by kernel_rfl) (by kernel_rfl) Tryd.strconv_FormatInt_10 q0 q1
set_option maxRecDepth 100000 in
theorem yeW : SpOk Tryd.prog CC ycP := by
 intro env r hF h
 obtain ⟨a0, env0, rfl, h1⟩ := yam h
 obtain ⟨a1, env1, rfl, h2⟩ := yam h1
 obtain ⟨rfl, h3⟩ := yav h2
 obtain ⟨r0, rr0, rfl, h4⟩ := ya3 h3
 obtain ⟨rfl, h5⟩ := ya5 h4
 exact ⟨rfl, (yfl h5).congr (by kernel_rfl) (by kernel_rfl)⟩
def yaL (a0 : Str) (a1 : Str) (a2 : Str) (r0 : Str) : Prop := a0.length <= 100000 /\ 1 <= a1.length /\ a2.length <= 100000 /\ r0 = Go.Lib.replaceAll a0 a1 a2
def ycw : Sp KK := ⟨39, [.v 9, .v 9, .v 9], [9], appW (K := KK) [9] [.v 9, .v 9, .v 9] yaL⟩
set_option maxRecDepth 100000 in
theorem yeS {a0 : Str} {a1 : Str} {a2 : Str} {r0 : Str} (h : yaL a0 a1 a2 r0) : AV.Pure Tryd.prog 39 [.st a0, .st a1, .st a2] (.st r0) := by
 obtain ⟨q0, q1, q2, rfl⟩ := h
 exact yj7 Tryd.func39 (by kernel_rfl) (by kernel_rfl) Tryd.strings_ReplaceAll q0 q1 q2
set_option maxRecDepth 100000 in
theorem yeK : SpOk Tryd.prog CC ycw := by
 intro env r hF h
 obtain ⟨a0, env0, rfl, h1⟩ := yam h
 obtain ⟨a1, env1, rfl, h2⟩ := yam h1
 obtain ⟨a2, env2, rfl, h3⟩ := yam h2
 obtain ⟨rfl, h4⟩ := yav h3
 obtain ⟨r0, rr0, rfl, h5⟩ := ya3 h4
 obtain ⟨rfl, h6⟩ := ya5 h5
 exact ⟨rfl, (yeS h6).congr (by kernel_rfl) (by kernel_rfl)⟩
def ybY (r0 : Str) (a0 : yae) (x1 : Bool) : Prop :=
 cnd x1 (([78, 85, 76, 76] : Str) = r0) (∃ z2 : Bool, (ya1 a0 z2) /\ cnd z2 (([84, 82, 85, 69] : Str) = r0) (cnd (a0.Kind == (1 : Int)) (([70, 65, 76, 83, 69] : Str) = r0) (cnd (a0.Kind == (2 : Int)) (∃ z3 : Str, (yaQ a0.N (10 : Int) z3) /\ z3 = r0) (∃ z4 : Str, (yaL a0.S ([39] : Str) ([39, 39] : Str) z4) /\ (([39] : Str).length + z4.length <= 9223372036854775807) /\ ((([39] : Str) ++ z4).length + ([39] : Str).length <= 9223372036854775807) /\ ((([39] : Str) ++ z4) ++ ([39] : Str)) = r0))))
def yaG (a0 : yae) (r0 : Str) : Prop :=
 ∀ J1 : Bool -> Prop, (∀ (x1 : Bool), ybY r0 a0 x1 -> J1 x1) -> ∃ z5 : Bool, (yaH a0 z5) /\ cnd (!z5) (J1 true) (∃ z6 : Bool, (ya2 a0 z6) /\ J1 z6)
def yaM (a0 : yae) (r0 : Str) (x1 : Bool) : Prop :=
 cnd x1 (([78, 85, 76, 76] : Str) = r0) (∃ z2 : Bool, (ya1 a0 z2) /\ cnd z2 (([84, 82, 85, 69] : Str) = r0) (cnd (a0.Kind == (1 : Int)) (([70, 65, 76, 83, 69] : Str) = r0) (cnd (a0.Kind == (2 : Int)) (∃ z3 : Str, (yaQ a0.N (10 : Int) z3) /\ z3 = r0) (∃ z4 : Str, (yaL a0.S ([39] : Str) ([39, 39] : Str) z4) /\ (([39] : Str).length + z4.length <= 9223372036854775807) /\ ((([39] : Str) ++ z4).length + ([39] : Str).length <= 9223372036854775807) /\ ((([39] : Str) ++ z4) ++ ([39] : Str)) = r0))))
def ybX (a0 : yae) (r0 : Str) : Prop :=
 ∃ z5 : Bool, (yaH a0 z5) /\ cnd (!z5) (yaM a0 r0 true) (∃ z6 : Bool, (ya2 a0 z6) /\ yaM a0 r0 z6)
theorem yes (a0 : yae) (r0 : Str) {x1 : Bool} (h : yaM a0 r0 x1) : ybY r0 a0 x1 := by
 unfold ybY
 unfold yaM at h
 exact h
theorem yfK (a0 : yae) (r0 : Str) (h : ybX a0 r0) : yaG a0 r0 := by
 unfold yaG
 unfold ybX at h
 intro J1 kJ1
 have hJ1 : ∀ (x1 : Bool), yaM a0 r0 x1 -> J1 x1 := fun x1 q => kJ1 x1 (yes a0 r0 q)
 obtain ⟨z5, h⟩ := h
 refine ⟨z5, ?_⟩
 obtain ⟨h0, h⟩ := h
 refine ⟨h0, ?_⟩
 refine yai h (fun h => ?_) (fun h => ?_)
 ·exact hJ1 _ h
 ·obtain ⟨z6, h⟩ := h
  refine ⟨z6, ?_⟩
  obtain ⟨h0, h⟩ := h
  refine ⟨h0, ?_⟩
  exact hJ1 _ h
def yc6 : Sp KK := ⟨32, [.v 31], [9], appW (K := KK) [9] [.v 31] yaG⟩
def yfq : An KK := (.s .o (.s (.b (.j ⟨[(1, .px 1 0), (3, .bl)], [(1, 31, [.kp 4, .kp 5, .kp 6])], []⟩ .o (fun _ => (.c (.s .o .o) (.s .o (.c (.s .o .o) (.s .o (.c (.s .o .o) (.s .o (.c (.s .o .o) .o)))))))))) (.s .o .o)))
def yff : Cf KK := ⟨CC, [ybV, ycZ, yc0, ycP, ycw], 30⟩
set_option maxRecDepth 100000 in
theorem yfH : SpOk Tryd.prog CC yc6 := by
 intro env r hF h
 obtain ⟨a0, env0, rfl, h1⟩ := yam h
 obtain ⟨rfl, h2⟩ := yav h1
 obtain ⟨r0, rr0, rfl, h3⟩ := ya3 h2
 obtain ⟨rfl, h4⟩ := ya5 h3
 refine ⟨rfl, yaT (F := yff) ybz (yaw yc8 (yaw yfs (yaw yfp (yaw yeW (yaw yeK yaU))))) t32 (A := yfq) (ps := [.v 31]) (rs := [9]) (env := [.d (.v 31 a0)]) (r := [.v 9 r0]) (X := yaG a0 r0) (by kernel_rfl) (Nat.le_of_ble_eq_true (by kernel_rfl)) rfl hF h4 ?_⟩
 kernel_rfl
def ycM (Xr : yab → Str → Prop) (a0 : yab) (r0 : Str) : Prop :=
 cnd (a0.Kind == (1 : Int)) (∃ z1 : Str, (yaG (⟨a0.V.Kind, a0.V.N, a0.V.S⟩ : yae) z1) /\ z1 = r0) (cnd (a0.Kind == (2 : Int)) (cnd (!(a0.Table == ([] : Str))) ((a0.Table.length + ([46] : Str).length <= 9223372036854775807) /\ ((a0.Table ++ ([46] : Str)).length + a0.Name.length <= 9223372036854775807) /\ ((a0.Table ++ ([46] : Str)) ++ a0.Name) = r0) (a0.Name = r0)) (cnd (a0.Kind == (3 : Int)) ((0 <= (0 : Int)) /\ ((0 : Int) < (a0.L.length : Int)) /\ ∃ y2 : yab, (a0.L[(0 : Int).toNat]? = some y2) /\ ∃ z3 : Str, (Xr (yab.mk y2.Kind y2.Op (⟨y2.V.Kind, y2.V.N, y2.V.S⟩ : yae) y2.Table y2.Name y2.L) z3) /\ (([40] : Str).length + z3.length <= 9223372036854775807) /\ ((([40] : Str) ++ z3).length + ([32] : Str).length <= 9223372036854775807) /\ (0 <= a0.Op /\ a0.Op < (15 : Nat)) /\ ∃ y4 : Str, (([[], [61], [60, 62], [60], [60, 61], [62], [62, 61], [43], [45], [42], [47], [37], [124, 124], [65, 78, 68], [79, 82]] : List Str)[(0 : Nat) + a0.Op.toNat * 1]? = some y4) /\ (((([40] : Str) ++ z3) ++ ([32] : Str)).length + y4.length <= 9223372036854775807) /\ ((((([40] : Str) ++ z3) ++ ([32] : Str)) ++ y4).length + ([32] : Str).length <= 9223372036854775807) /\ (0 <= (1 : Int)) /\ ((1 : Int) < (a0.L.length : Int)) /\ ∃ y5 : yab, (a0.L[(1 : Int).toNat]? = some y5) /\ ∃ z6 : Str, (Xr (yab.mk y5.Kind y5.Op (⟨y5.V.Kind, y5.V.N, y5.V.S⟩ : yae) y5.Table y5.Name y5.L) z6) /\ (((((([40] : Str) ++ z3) ++ ([32] : Str)) ++ y4) ++ ([32] : Str)).length + z6.length <= 9223372036854775807) /\ ((((((([40] : Str) ++ z3) ++ ([32] : Str)) ++ y4) ++ ([32] : Str)) ++ z6).length + ([41] : Str).length <= 9223372036854775807) /\ ((((((([40] : Str) ++ z3) ++ ([32] : Str)) ++ y4) ++ ([32] : Str)) ++ z6) ++ ([41] : Str)) = r0) (cnd (a0.Kind == (4 : Int)) ((0 <= (0 : Int)) /\ ((0 : Int) < (a0.L.length : Int)) /\ ∃ y7 : yab, (a0.L[(0 : Int).toNat]? = some y7) /\ ∃ z8 : Str, (Xr (yab.mk y7.Kind y7.Op (⟨y7.V.Kind, y7.V.N, y7.V.S⟩ : yae) y7.Table y7.Name y7.L) z8) /\ (([40, 78, 79, 84, 32] : Str).length + z8.length <= 9223372036854775807) /\ ((([40, 78, 79, 84, 32] : Str) ++ z8).length + ([41] : Str).length <= 9223372036854775807) /\ ((([40, 78, 79, 84, 32] : Str) ++ z8) ++ ([41] : Str)) = r0) (cnd (a0.Kind == (5 : Int)) ((0 <= (0 : Int)) /\ ((0 : Int) < (a0.L.length : Int)) /\ ∃ y9 : yab, (a0.L[(0 : Int).toNat]? = some y9) /\ ∃ z10 : Str, (Xr (yab.mk y9.Kind y9.Op (⟨y9.V.Kind, y9.V.N, y9.V.S⟩ : yae) y9.Table y9.Name y9.L) z10) /\ (([40, 45, 32] : Str).length + z10.length <= 9223372036854775807) /\ ((([40, 45, 32] : Str) ++ z10).length + ([41] : Str).length <= 9223372036854775807) /\ ((([40, 45, 32] : Str) ++ z10) ++ ([41] : Str)) = r0) (cnd (a0.Kind == (6 : Int)) ((0 <= (0 : Int)) /\ ((0 : Int) < (a0.L.length : Int)) /\ ∃ y11 : yab, (a0.L[(0 : Int).toNat]? = some y11) /\ ∃ z12 : Str, (Xr (yab.mk y11.Kind y11.Op (⟨y11.V.Kind, y11.V.N, y11.V.S⟩ : yae) y11.Table y11.Name y11.L) z12) /\ (([40] : Str).length + z12.length <= 9223372036854775807) /\ ((([40] : Str) ++ z12).length + ([32, 73, 83, 32, 78, 85, 76, 76, 41] : Str).length <= 9223372036854775807) /\ ((([40] : Str) ++ z12) ++ ([32, 73, 83, 32, 78, 85, 76, 76, 41] : Str)) = r0) (cnd (a0.Kind == (7 : Int)) ((0 <= (0 : Int)) /\ ((0 : Int) < (a0.L.length : Int)) /\ ∃ y13 : yab, (a0.L[(0 : Int).toNat]? = some y13) /\ ∃ z14 : Str, (Xr (yab.mk y13.Kind y13.Op (⟨y13.V.Kind, y13.V.N, y13.V.S⟩ : yae) y13.Table y13.Name y13.L) z14) /\ (([40] : Str).length + z14.length <= 9223372036854775807) /\ ((([40] : Str) ++ z14).length + ([32, 73, 83, 32, 78, 79, 84, 32, 78, 85, 76, 76, 41] : Str).length <= 9223372036854775807) /\ ((([40] : Str) ++ z14) ++ ([32, 73, 83, 32, 78, 79, 84, 32, 78, 85, 76, 76, 41] : Str)) = r0) ((a0.L.length <= maxLen -> cnd ((a0.L.length : Int) == (0 : Int)) ((0 <= a0.Op /\ a0.Op < (5 : Nat)) /\ ∃ y15 : Str, (([[], [67, 79, 85, 78, 84], [83, 85, 77], [77, 73, 78], [77, 65, 88]] : List Str)[(0 : Nat) + a0.Op.toNat * 1]? = some y15) /\ (y15.length + ([40, 42, 41] : Str).length <= 9223372036854775807) /\ (y15 ++ ([40, 42, 41] : Str)) = r0) ((0 <= a0.Op /\ a0.Op < (5 : Nat)) /\ ∃ y16 : Str, (([[], [67, 79, 85, 78, 84], [83, 85, 77], [77, 73, 78], [77, 65, 88]] : List Str)[(0 : Nat) + a0.Op.toNat * 1]? = some y16) /\ (y16.length + ([40] : Str).length <= 9223372036854775807) /\ (0 <= (0 : Int)) /\ ((0 : Int) < (a0.L.length : Int)) /\ ∃ y17 : yab, (a0.L[(0 : Int).toNat]? = some y17) /\ ∃ z18 : Str, (Xr (yab.mk y17.Kind y17.Op (⟨y17.V.Kind, y17.V.N, y17.V.S⟩ : yae) y17.Table y17.Name y17.L) z18) /\ ((y16 ++ ([40] : Str)).length + z18.length <= 9223372036854775807) /\ (((y16 ++ ([40] : Str)) ++ z18).length + ([41] : Str).length <= 9223372036854775807) /\ (((y16 ++ ([40] : Str)) ++ z18) ++ ([41] : Str)) = r0)))))))))
def ycI (a0 : yab) (r0 : Str) : Prop := ∀ Xr : yab -> Str -> Prop, (∀ (a0 : yab) (r0 : Str), ycM Xr a0 r0 -> Xr a0 r0) -> Xr a0 r0
def ydP : Sp KK := ⟨22, [.v 34], [9], appW (K := KK) [9] [.v 34] ycI⟩
def ygM : An KK := (.s .o (.s (.s .o (.b (.s .o (.c (.s .o .o) (.s .o (.c (.s (.s .o (.c (.s .o .o) .o)) (.s .o .o)) (.s .o (.c (.s .o .o) (.s .o (.c (.s .o .o) (.s .o (.c (.s .o .o) (.s .o (.c (.s .o .o) (.s .o (.c (.s .o .o) .o)))))))))))))))) (.s (.s .o (.c (.s .o .o) .o)) (.s .o .o))))
def ygJ (Xr : WTy KK [9] [.v 34]) : Cf KK := ⟨CC, [⟨22, [.v 34], [9], appW (K := KK) [9] [.v 34] Xr⟩, yc6], 102⟩
set_option maxRecDepth 100000 in
theorem yfU (Xr : yab → Str → Prop) (hX : ∀ (a0 : yab) (r0 : Str), Xr a0 r0 → Pure Tryd.prog 22 (yax CC [.v 34] ([.d (.v 34 a0)] : List (AD KK))) (yaP (([.v 9 r0] : List (DV KK)).map (dvA CC)))) : ∀ (a0 : yab) (r0 : Str), ycM Xr a0 r0 → Pure Tryd.prog 22 (yax CC [.v 34] ([.d (.v 34 a0)] : List (AD KK))) (yaP (([.v 9 r0] : List (DV KK)).map (dvA CC))) := by
 intro a0 r0 h
 refine yaT (F := ygJ Xr) ybz (yaw ?_ (yaw yfH yaU)) t22 (A := ygM) (ps := [.v 34]) (rs := [9]) (env := [.d (.v 34 a0)]) (r := [.v 9 r0]) (X := ycM Xr a0 r0) (by kernel_rfl) (Nat.le_of_ble_eq_true (by kernel_rfl)) rfl (fun G hG => by simp at hG) h ?_
 ·clear h r0
  intro env r hF h
  obtain ⟨a0, env0, rfl, h1⟩ := yam h
  obtain ⟨rfl, h2⟩ := yav h1
  obtain ⟨r0, rr0, rfl, h3⟩ := ya3 h2
  obtain ⟨rfl, h4⟩ := ya5 h3
  exact ⟨rfl, hX a0 r0 h4⟩
 ·kernel_rfl
set_option maxRecDepth 100000 in
theorem ygw : SpOk Tryd.prog CC ydP := by
 intro env r hF h
 obtain ⟨a0, env0, rfl, h1⟩ := yam h
 obtain ⟨rfl, h2⟩ := yav h1
 obtain ⟨r0, rr0, rfl, h3⟩ := ya3 h2
 obtain ⟨rfl, h4⟩ := ya5 h3
 exact ⟨rfl, h4 (fun a0 r0 =>  Pure Tryd.prog 22 (yax CC [.v 34] ([.d (.v 34 a0)] : List (AD KK))) (yaP (([.v 9 r0] : List (DV KK)).map (dvA CC)))) (fun a0 r0 h => yfU _ (fun a0 r0 h => h) a0 r0 h)⟩
def ybq (a0 : yab) (r0 : Str) : Prop :=
 ∃ z1 : Bool, (ybB (yab.mk a0.Kind a0.Op (⟨a0.V.Kind, a0.V.N, a0.V.S⟩ : yae) a0.Table a0.Name a0.L) z1) /\ cnd (!z1) (([] : Str) = r0) (∃ z2 : Str, (ycI (yab.mk a0.Kind a0.Op (⟨a0.V.Kind, a0.V.N, a0.V.S⟩ : yae) a0.Table a0.Name a0.L) z2) /\ z2 = r0)
def ycu : Sp KK := ⟨12, [.v 34], [9], appW (K := KK) [9] [.v 34] ybq⟩
def ykB : An KK := (.s .o (.s (.s .o (.c (.s .o .o) .o)) (.s .o .o)))
def ykQ : Cf KK := ⟨CC, [yb4, ydP], 8⟩
set_option maxRecDepth 100000 in
theorem ygY : SpOk Tryd.prog CC ycu := by
 intro env r hF h
 obtain ⟨a0, env0, rfl, h1⟩ := yam h
 obtain ⟨rfl, h2⟩ := yav h1
 obtain ⟨r0, rr0, rfl, h3⟩ := ya3 h2
 obtain ⟨rfl, h4⟩ := ya5 h3
 refine ⟨rfl, yaT (F := ykQ) ybz (yaw yex (yaw ygw yaU)) t12 (A := ykB) (ps := [.v 34]) (rs := [9]) (env := [.d (.v 34 a0)]) (r := [.v 9 r0]) (X := ybq a0 r0) (by kernel_rfl) (Nat.le_of_ble_eq_true (by kernel_rfl)) rfl hF h4 ?_⟩
 kernel_rfl
def ybm (a0 : (List yab)) (a1 : (List yab)) (g2 : yab → yab → Bool → Prop) (r0 : Bool) (X1 : Int → Prop) (x1 : Int) : Prop :=
 cnd (decide (x1 < (a0.length : Int))) ((0 <= x1) /\ (x1 < (a0.length : Int)) /\ ∃ y2 : yab, (a0[x1.toNat]? = some y2) /\ (0 <= x1) /\ (x1 < (a1.length : Int)) /\ ∃ y3 : yab, (a1[x1.toNat]? = some y3) /\ ∃ z4 : Bool, (g2 (yab.mk y2.Kind y2.Op (⟨y2.V.Kind, y2.V.N, y2.V.S⟩ : yae) y2.Table y2.Name y2.L) (yab.mk y3.Kind y3.Op (⟨y3.V.Kind, y3.V.N, y3.V.S⟩ : yae) y3.Table y3.Name y3.L) z4) /\ cnd (!z4) (false = r0) (X1 (IntKind.i64.wrap (x1 + (1 : Int))))) (true = r0)
def yau (a0 : (List yab)) (a1 : (List yab)) (g2 : yab → yab → Bool → Prop) (r0 : Bool) : Prop :=
 (a0.length <= maxLen -> (a1.length <= maxLen -> cnd (!((a0.length : Int) == (a1.length : Int))) (false = r0) ((a0.length <= maxLen -> ∀ X1 : Int -> Prop, (∀ (x1 : Int), ybm a0 a1 g2 r0 X1 x1 -> X1 x1) -> X1 (0 : Int)))))
def yaW (a0 : (List yab)) (a1 : (List yab)) (g2 : yab → yab → Bool → Prop) (r0 : Bool) (X1 : Int → Prop) (x1 : Int) : Prop :=
 cnd (decide (x1 < (a0.length : Int))) ((0 <= x1) /\ (x1 < (a0.length : Int)) /\ ∃ y2 : yab, (a0[x1.toNat]? = some y2) /\ (0 <= x1) /\ (x1 < (a1.length : Int)) /\ ∃ y3 : yab, (a1[x1.toNat]? = some y3) /\ ∃ z4 : Bool, (g2 (yab.mk y2.Kind y2.Op (⟨y2.V.Kind, y2.V.N, y2.V.S⟩ : yae) y2.Table y2.Name y2.L) (yab.mk y3.Kind y3.Op (⟨y3.V.Kind, y3.V.N, y3.V.S⟩ : yae) y3.Table y3.Name y3.L) z4) /\ cnd (!z4) (false = r0) (X1 (IntKind.i64.wrap (x1 + (1 : Int))))) (true = r0)
def yb2 (a0 : (List yab)) (a1 : (List yab)) (g2 : yab → yab → Bool → Prop) (r0 : Bool) : Prop :=
 (a0.length <= maxLen -> (a1.length <= maxLen -> cnd (!((a0.length : Int) == (a1.length : Int))) (false = r0) ((a0.length <= maxLen -> ∀ X1 : Int -> Prop, (∀ (x1 : Int), yaW a0 a1 g2 r0 X1 x1 -> X1 x1) -> X1 (0 : Int)))))
theorem ydb (a0 : (List yab)) (a1 : (List yab)) (g2 : yab → yab → Bool → Prop) (r0 : Bool) {X1 : Int → Prop} {x1 : Int} (h : yaW a0 a1 g2 r0 X1 x1) : ybm a0 a1 g2 r0 X1 x1 := by
 unfold ybm
 unfold yaW at h
 exact h
theorem ydZ (a0 : (List yab)) (a1 : (List yab)) (g2 : yab → yab → Bool → Prop) (r0 : Bool) (h : yb2 a0 a1 g2 r0) : yau a0 a1 g2 r0 := by
 unfold yau
 unfold yb2 at h
 intro c
 replace h := h c
 intro c
 replace h := h c
 refine yai h (fun h => ?_) (fun h => ?_)
 ·exact h
 ·intro c
  replace h := h c
  intro X1 k
  exact h X1 (fun x1 q => k x1 (ydb a0 a1 g2 r0 q))
def yb3 : Sp KK := ⟨23, [.v 32, .v 32, .f [34, 34] [4]], [4], appW (K := KK) [4] [.v 32, .v 32, .f [34, 34] [4]] yau⟩
def ydG : An KK := (.s .o (.s (.s .o (.c (.s .o .o) .o)) (.s (.s .o (.b (.l ⟨[(1, .kp 6), (2, .kp 7), (15, .kp 8), (16, .kp 9), (17, .it .i64)], [], []⟩ (fun _ => (.s .o (.s (.c .o .o) (.s (.b (.s .o (.s .o (.s .o (.c (.s .o .o) .o))))) .o))))))) (.s .o .o))))
def ydN : Cf KK := ⟨CC, [], 32⟩
set_option maxRecDepth 100000 in
theorem ydO : SpOk Tryd.prog CC yb3 := by
 intro env r hF h
 obtain ⟨a0, env0, rfl, h1⟩ := yam h
 obtain ⟨a1, env1, rfl, h2⟩ := yam h1
 obtain ⟨F2, env2, rfl, h3⟩ := ypN h2
 obtain ⟨rfl, h4⟩ := yav h3
 obtain ⟨r0, rr0, rfl, h5⟩ := ya3 h4
 obtain ⟨rfl, h6⟩ := ya5 h5
 refine ⟨rfl, yaT (F := ydN) ybz yaU t23 (A := ydG) (ps := [.v 32, .v 32, .f [34, 34] [4]]) (rs := [4]) (env := [.d (.v 32 a0), .d (.v 32 a1), .f F2]) (r := [.v 4 r0]) (X := yau a0 a1 (curF [4] [34, 34] F2.W) r0) (by kernel_rfl) (Nat.le_of_ble_eq_true (by kernel_rfl)) rfl hF h6 ?_⟩
 kernel_rfl
def yew (r0 : Bool) (x1 : Bool) : Prop :=
 x1 = r0
def yc7 (Xr : yab → yab → Bool → Prop) (a0 : yab) (a1 : yab) (r0 : Bool) : Prop :=
 ∀ J1 : Bool -> Prop, (∀ (x1 : Bool), yew r0 x1 -> J1 x1) -> cnd (a0.Kind == a1.Kind) (cnd (a0.Op == a1.Op) (cnd ((a0.V.Kind == a1.V.Kind) && ((a0.V.N == a1.V.N) && ((a0.V.S == a1.V.S) && true))) (cnd (a0.Table == a1.Table) (cnd (a0.Name == a1.Name) (∃ z2 : Bool, (yau a0.L a1.L Xr z2) /\ J1 z2) (J1 false)) (J1 false)) (J1 false)) (J1 false)) (J1 false)
def ybs (a0 : yab) (a1 : yab) (r0 : Bool) : Prop := ∀ Xr : yab -> yab -> Bool -> Prop, (∀ (a0 : yab) (a1 : yab) (r0 : Bool), yc7 Xr a0 a1 r0 -> Xr a0 a1 r0) -> Xr a0 a1 r0
def yaV (r0 : Bool) (x1 : Bool) : Prop :=
 x1 = r0
def yeD (Xr : yab → yab → Bool → Prop) (a0 : yab) (a1 : yab) (r0 : Bool) : Prop :=
 cnd (a0.Kind == a1.Kind) (cnd (a0.Op == a1.Op) (cnd ((a0.V.Kind == a1.V.Kind) && ((a0.V.N == a1.V.N) && ((a0.V.S == a1.V.S) && true))) (cnd (a0.Table == a1.Table) (cnd (a0.Name == a1.Name) (∃ z2 : Bool, (yau a0.L a1.L Xr z2) /\ yaV r0 z2) (yaV r0 false)) (yaV r0 false)) (yaV r0 false)) (yaV r0 false)) (yaV r0 false)
theorem yim (r0 : Bool) {x1 : Bool} (h : yaV r0 x1) : yew r0 x1 := by
 unfold yew
 unfold yaV at h
 exact h
theorem ylh (Xr : yab → yab → Bool → Prop) (a0 : yab) (a1 : yab) (r0 : Bool) (h : yeD Xr a0 a1 r0) : yc7 Xr a0 a1 r0 := by
 unfold yc7
 unfold yeD at h
 intro J1 kJ1
 have hJ1 : ∀ (x1 : Bool), yaV r0 x1 -> J1 x1 := fun x1 q => kJ1 x1 (yim r0 q)
 refine yai h (fun h => ?_) (fun h => ?_)
 ·refine yai h (fun h => ?_) (fun h => ?_)
  ·refine yai h (fun h => ?_) (fun h => ?_)
   ·refine yai h (fun h => ?_) (fun h => ?_)
    ·refine yai h (fun h => ?_) (fun h => ?_)
     ·obtain ⟨z2, h⟩ := h
      refine ⟨z2, ?_⟩
      obtain ⟨h0, h⟩ := h
      refine ⟨h0, ?_⟩
      exact hJ1 _ h
     ·exact hJ1 _ h
    ·exact hJ1 _ h
   ·exact hJ1 _ h
  ·exact hJ1 _ h
 ·exact hJ1 _ h
def ycx : Sp KK := ⟨13, [.v 34, .v 34], [4], appW (K := KK) [4] [.v 34, .v 34] ybs⟩
def ykt : An KK := (.s .o (.j ⟨[(4, .bl)], [], []⟩ .o (fun _ => .o)))
def ykD (Xr : WTy KK [4] [.v 34, .v 34]) : Cf KK := ⟨CC, [⟨13, [.v 34, .v 34], [4], appW (K := KK) [4] [.v 34, .v 34] Xr⟩, yb3], 45⟩
set_option maxRecDepth 100000 in
theorem yjM (Xr : yab → yab → Bool → Prop) (hX : ∀ (a0 : yab) (a1 : yab) (r0 : Bool), Xr a0 a1 r0 → Pure Tryd.prog 13 (yax CC [.v 34, .v 34] ([.d (.v 34 a0), .d (.v 34 a1)] : List (AD KK))) (yaP (([.v 4 r0] : List (DV KK)).map (dvA CC)))) : ∀ (a0 : yab) (a1 : yab) (r0 : Bool), yc7 Xr a0 a1 r0 → Pure Tryd.prog 13 (yax CC [.v 34, .v 34] ([.d (.v 34 a0), .d (.v 34 a1)] : List (AD KK))) (yaP (([.v 4 r0] : List (DV KK)).map (dvA CC))) := by
 intro a0 a1 r0 h
 refine yaT (F := ykD Xr) ybz (yaw ?_ (yaw ydO yaU)) t13 (A := ykt) (ps := [.v 34, .v 34]) (rs := [4]) (env := [.d (.v 34 a0), .d (.v 34 a1)]) (r := [.v 4 r0]) (X := yc7 Xr a0 a1 r0) (by kernel_rfl) (Nat.le_of_ble_eq_true (by kernel_rfl)) rfl (fun G hG => by simp at hG) h ?_
 ·clear h r0
  intro env r hF h
  obtain ⟨a0, env0, rfl, h1⟩ := yam h
  obtain ⟨a1, env1, rfl, h2⟩ := yam h1
  obtain ⟨rfl, h3⟩ := yav h2
  obtain ⟨r0, rr0, rfl, h4⟩ := ya3 h3
  obtain ⟨rfl, h5⟩ := ya5 h4
  exact ⟨rfl, hX a0 a1 r0 h5⟩
 ·kernel_rfl
set_option maxRecDepth 100000 in
theorem yg2 : SpOk Tryd.prog CC ycx := by
 intro env r hF h
 obtain ⟨a0, env0, rfl, h1⟩ := yam h
 obtain ⟨a1, env1, rfl, h2⟩ := yam h1
 obtain ⟨rfl, h3⟩ := yav h2
 obtain ⟨r0, rr0, rfl, h4⟩ := ya3 h3
 obtain ⟨rfl, h5⟩ := ya5 h4
 exact ⟨rfl, h5 (fun a0 a1 r0 =>  Pure Tryd.prog 13 (yax CC [.v 34, .v 34] ([.d (.v 34 a0), .d (.v 34 a1)] : List (AD KK))) (yaP (([.v 4 r0] : List (DV KK)).map (dvA CC)))) (fun a0 a1 r0 h => yjM _ (fun a0 a1 r0 h => h) a0 a1 r0 h)⟩
def yc4 (r0 : Bool) (x2 : Bool) : Prop :=
 x2 = r0
def ybh (r0 : Bool) : Prop :=
 ∃ z1 : yae, (ybJ (1 : Int) z1) /\ ∀ J1 : Bool -> Prop, (∀ (x2 : Bool), yc4 r0 x2 -> J1 x2) -> ∃ z3 : Bool, (ybB (yab.mk (3 : Int) (7 : Int) (⟨(0 : Int), (0 : Int), ([] : Str)⟩ : yae) ([] : Str) ([] : Str) ([(yab.mk (1 : Int) (0 : Int) z1 ([] : Str) ([] : Str) ([] : List yab)), (yab.mk (2 : Int) (0 : Int) (⟨(0 : Int), (0 : Int), ([] : Str)⟩ : yae) ([97] : Str) ([98] : Str) ([] : List yab))] : List yab)) z3) /\ cnd z3 (∃ z4 : Str, (ybq (yab.mk (3 : Int) (7 : Int) (⟨(0 : Int), (0 : Int), ([] : Str)⟩ : yae) ([] : Str) ([] : Str) ([(yab.mk (1 : Int) (0 : Int) z1 ([] : Str) ([] : Str) ([] : List yab)), (yab.mk (2 : Int) (0 : Int) (⟨(0 : Int), (0 : Int), ([] : Str)⟩ : yae) ([97] : Str) ([98] : Str) ([] : List yab))] : List yab)) z4) /\ cnd (z4 == ([40, 49, 32, 43, 32, 97, 46, 98, 41] : Str)) (∃ z5 : Int, (ybE (yab.mk (3 : Int) (7 : Int) (⟨(0 : Int), (0 : Int), ([] : Str)⟩ : yae) ([] : Str) ([] : Str) ([(yab.mk (1 : Int) (0 : Int) z1 ([] : Str) ([] : Str) ([] : List yab)), (yab.mk (2 : Int) (0 : Int) (⟨(0 : Int), (0 : Int), ([] : Str)⟩ : yae) ([97] : Str) ([98] : Str) ([] : List yab))] : List yab)) z5) /\ cnd (z5 == (2 : Int)) (∃ z6 : Bool, (ybs (yab.mk (3 : Int) (7 : Int) (⟨(0 : Int), (0 : Int), ([] : Str)⟩ : yae) ([] : Str) ([] : Str) ([(yab.mk (1 : Int) (0 : Int) z1 ([] : Str) ([] : Str) ([] : List yab)), (yab.mk (2 : Int) (0 : Int) (⟨(0 : Int), (0 : Int), ([] : Str)⟩ : yae) ([97] : Str) ([98] : Str) ([] : List yab))] : List yab)) (yab.mk (3 : Int) (7 : Int) (⟨(0 : Int), (0 : Int), ([] : Str)⟩ : yae) ([] : Str) ([] : Str) ([(yab.mk (1 : Int) (0 : Int) z1 ([] : Str) ([] : Str) ([] : List yab)), (yab.mk (2 : Int) (0 : Int) (⟨(0 : Int), (0 : Int), ([] : Str)⟩ : yae) ([97] : Str) ([98] : Str) ([] : List yab))] : List yab)) z6) /\ cnd z6 ((0 <= (0 : Int)) /\ ((0 : Int) < (([(yab.mk (1 : Int) (0 : Int) z1 ([] : Str) ([] : Str) ([] : List yab)), (yab.mk (2 : Int) (0 : Int) (⟨(0 : Int), (0 : Int), ([] : Str)⟩ : yae) ([97] : Str) ([98] : Str) ([] : List yab))] : List yab).length : Int)) /\ ∃ y7 : yab, (([(yab.mk (1 : Int) (0 : Int) z1 ([] : Str) ([] : Str) ([] : List yab)), (yab.mk (2 : Int) (0 : Int) (⟨(0 : Int), (0 : Int), ([] : Str)⟩ : yae) ([97] : Str) ([98] : Str) ([] : List yab))] : List yab)[(0 : Int).toNat]? = some y7) /\ ∃ z8 : Bool, (ybs (yab.mk (3 : Int) (7 : Int) (⟨(0 : Int), (0 : Int), ([] : Str)⟩ : yae) ([] : Str) ([] : Str) ([(yab.mk (1 : Int) (0 : Int) z1 ([] : Str) ([] : Str) ([] : List yab)), (yab.mk (2 : Int) (0 : Int) (⟨(0 : Int), (0 : Int), ([] : Str)⟩ : yae) ([97] : Str) ([98] : Str) ([] : List yab))] : List yab)) (yab.mk y7.Kind y7.Op (⟨y7.V.Kind, y7.V.N, y7.V.S⟩ : yae) y7.Table y7.Name y7.L) z8) /\ J1 (!z8)) (J1 false)) (J1 false)) (J1 false)) (J1 false)
def yaO (r0 : Bool) (x2 : Bool) : Prop :=
 x2 = r0
def yeJ (r0 : Bool) : Prop :=
 ∃ z1 : yae, (ybJ (1 : Int) z1) /\ ∃ z3 : Bool, (ybB (yab.mk (3 : Int) (7 : Int) (⟨(0 : Int), (0 : Int), ([] : Str)⟩ : yae) ([] : Str) ([] : Str) ([(yab.mk (1 : Int) (0 : Int) z1 ([] : Str) ([] : Str) ([] : List yab)), (yab.mk (2 : Int) (0 : Int) (⟨(0 : Int), (0 : Int), ([] : Str)⟩ : yae) ([97] : Str) ([98] : Str) ([] : List yab))] : List yab)) z3) /\ cnd z3 (∃ z4 : Str, (ybq (yab.mk (3 : Int) (7 : Int) (⟨(0 : Int), (0 : Int), ([] : Str)⟩ : yae) ([] : Str) ([] : Str) ([(yab.mk (1 : Int) (0 : Int) z1 ([] : Str) ([] : Str) ([] : List yab)), (yab.mk (2 : Int) (0 : Int) (⟨(0 : Int), (0 : Int), ([] : Str)⟩ : yae) ([97] : Str) ([98] : Str) ([] : List yab))] : List yab)) z4) /\ cnd (z4 == ([40, 49, 32, 43, 32, 97, 46, 98, 41] : Str)) (∃ z5 : Int, (ybE (yab.mk (3 : Int) (7 : Int) (⟨(0 : Int), (0 : Int), ([] : Str)⟩ : yae) ([] : Str) ([] : Str) ([(yab.mk (1 : Int) (0 : Int) z1 ([] : Str) ([] : Str) ([] : List yab)), (yab.mk (2 : Int) (0 : Int) (⟨(0 : Int), (0 : Int), ([] : Str)⟩ : yae) ([97] : Str) ([98] : Str) ([] : List yab))] : List yab)) z5) /\ cnd (z5 == (2 : Int)) (∃ z6 : Bool, (ybs (yab.mk (3 : Int) (7 : Int) (⟨(0 : Int), (0 : Int), ([] : Str)⟩ : yae) ([] : Str) ([] : Str) ([(yab.mk (1 : Int) (0 : Int) z1 ([] : Str) ([] : Str) ([] : List yab)), (yab.mk (2 : Int) (0 : Int) (⟨(0 : Int), (0 : Int), ([] : Str)⟩ : yae) ([97] : Str) ([98] : Str) ([] : List yab))] : List yab)) (yab.mk (3 : Int) (7 : Int) (⟨(0 : Int), (0 : Int), ([] : Str)⟩ : yae) ([] : Str) ([] : Str) ([(yab.mk (1 : Int) (0 : Int) z1 ([] : Str) ([] : Str) ([] : List yab)), (yab.mk (2 : Int) (0 : Int) (⟨(0 : Int), (0 : Int), ([] : Str)⟩ : yae) ([97] : Str) ([98] : Str) ([] : List yab))] : List yab)) z6) /\ cnd z6 ((0 <= (0 : Int)) /\ ((0 : Int) < (([(yab.mk (1 : Int) (0 : Int) z1 ([] : Str) ([] : Str) ([] : List yab)), (yab.mk (2 : Int) (0 : Int) (⟨(0 : Int), (0 : Int), ([] : Str)⟩ : yae) ([97] : Str) ([98] : Str) ([] : List yab))] : List yab).length : Int)) /\ ∃ y7 : yab, (([(yab.mk (1 : Int) (0 : Int) z1 ([] : Str) ([] : Str) ([] : List yab)), (yab.mk (2 : Int) (0 : Int) (⟨(0 : Int), (0 : Int), ([] : Str)⟩ : yae) ([97] : Str) ([98] : Str) ([] : List yab))] : List yab)[(0 : Int).toNat]? = some y7) /\ ∃ z8 : Bool, (ybs (yab.mk (3 : Int) (7 : Int) (⟨(0 : Int), (0 : Int), ([] : Str)⟩ : yae) ([] : Str) ([] : Str) ([(yab.mk (1 : Int) (0 : Int) z1 ([] : Str) ([] : Str) ([] : List yab)), (yab.mk (2 : Int) (0 : Int) (⟨(0 : Int), (0 : Int), ([] : Str)⟩ : yae) ([97] : Str) ([98] : Str) ([] : List yab))] : List yab)) (yab.mk y7.Kind y7.Op (⟨y7.V.Kind, y7.V.N, y7.V.S⟩ : yae) y7.Table y7.Name y7.L) z8) /\ yaO r0 (!z8)) (yaO r0 false)) (yaO r0 false)) (yaO r0 false)) (yaO r0 false)
theorem ygA (r0 : Bool) {x2 : Bool} (h : yaO r0 x2) : yc4 r0 x2 := by
 unfold yc4
 unfold yaO at h
 exact h
theorem yiN (r0 : Bool) (h : yeJ r0) : ybh r0 := by
 unfold ybh
 unfold yeJ at h
 obtain ⟨z1, h⟩ := h
 refine ⟨z1, ?_⟩
 obtain ⟨h0, h⟩ := h
 refine ⟨h0, ?_⟩
 intro J1 kJ1
 have hJ1 : ∀ (x2 : Bool), yaO r0 x2 -> J1 x2 := fun x2 q => kJ1 x2 (ygA r0 q)
 obtain ⟨z3, h⟩ := h
 refine ⟨z3, ?_⟩
 obtain ⟨h0, h⟩ := h
 refine ⟨h0, ?_⟩
 refine yai h (fun h => ?_) (fun h => ?_)
 ·obtain ⟨z4, h⟩ := h
  refine ⟨z4, ?_⟩
  obtain ⟨h0, h⟩ := h
  refine ⟨h0, ?_⟩
  refine yai h (fun h => ?_) (fun h => ?_)
  ·obtain ⟨z5, h⟩ := h
   refine ⟨z5, ?_⟩
   obtain ⟨h0, h⟩ := h
   refine ⟨h0, ?_⟩
   refine yai h (fun h => ?_) (fun h => ?_)
   ·obtain ⟨z6, h⟩ := h
    refine ⟨z6, ?_⟩
    obtain ⟨h0, h⟩ := h
    refine ⟨h0, ?_⟩
    refine yai h (fun h => ?_) (fun h => ?_)
    ·obtain ⟨h0, h⟩ := h
     refine ⟨h0, ?_⟩
     obtain ⟨h0, h⟩ := h
     refine ⟨h0, ?_⟩
     obtain ⟨y7, h⟩ := h
     refine ⟨y7, ?_⟩
     obtain ⟨h0, h⟩ := h
     refine ⟨h0, ?_⟩
     obtain ⟨z8, h⟩ := h
     refine ⟨z8, ?_⟩
     obtain ⟨h0, h⟩ := h
     refine ⟨h0, ?_⟩
     exact hJ1 _ h
    ·exact hJ1 _ h
   ·exact hJ1 _ h
  ·exact hJ1 _ h
 ·exact hJ1 _ h
def yb5 : Sp KK := ⟨4, [], [4], appW (K := KK) [4] [] ybh⟩
def yib : An KK := (.s .o (.s .o (.j ⟨[(0, .bl)], [], []⟩ .o (fun _ => .o))))
def yhS : Cf KK := ⟨CC, [ye0, yb4, ycu, ybH, ycx], 33⟩
set_option maxRecDepth 100000 in
theorem yhQ : SpOk Tryd.prog CC yb5 := by
 intro env r hF h
 obtain ⟨rfl, h1⟩ := yav h
 obtain ⟨r0, rr0, rfl, h2⟩ := ya3 h1
 obtain ⟨rfl, h3⟩ := ya5 h2
 refine ⟨rfl, yaT (F := yhS) ybz (yaw yik (yaw yex (yaw ygY (yaw yee (yaw yg2 yaU))))) t4 (A := yib) (ps := []) (rs := [4]) (env := []) (r := [.v 4 r0]) (X := ybh  r0) (by kernel_rfl) (Nat.le_of_ble_eq_true (by kernel_rfl)) rfl hF h3 ?_⟩
 kernel_rfl
def ydq (x12 : Int) (Xr : (List yac) → Int → Int → yaa → Int → Prop) (a0 : (List yac)) (a2 : Int) (y2 : yac) (x9 : Int) (x3 : Int) (x4 : Int) (x5 : Str) (x10 : Str) (x11 : Str) (r0 : yaa) (r1 : Int) (X6 : Int → Int → (List yaa) → Prop) (x13 : Int) (x14 : Int) (x15 : (List yaa)) : Prop :=
 cnd (decide (x14 < x12)) (∃ z16 : yaa, ∃ z17 : Int, (Xr a0 x13 (IntKind.i64.wrap (a2 + (1 : Int))) z16 z17) /\ (x15.length <= 1000000000) /\ X6 z17 (IntKind.i64.wrap (x14 + (1 : Int))) (x15 ++ ([(yaa.mk z16.Kind z16.Op (⟨z16.V.Kind, z16.V.N, z16.V.S⟩ : yag) z16.Table z16.Name z16.L)] : List yaa))) ((yaa.mk (IntKind.i64.wrap (y2.Kind.tmod (10 : Int))) x9 (⟨x3, x4, x5⟩ : yag) x10 x11 x15) = r0 /\ x13 = r1)
def ydp (Xr : (List yac) → Int → Int → yaa → Int → Prop) (a0 : (List yac)) (a2 : Int) (y2 : yac) (x9 : Int) (x3 : Int) (x4 : Int) (x5 : Str) (x10 : Str) (x11 : Str) (r0 : yaa) (r1 : Int) (a1 : Int) (x12 : Int) : Prop :=
 ∀ X6 : Int -> Int -> (List yaa) -> Prop, (∀ (x13 : Int) (x14 : Int) (x15 : (List yaa)), ydq x12 Xr a0 a2 y2 x9 x3 x4 x5 x10 x11 r0 r1 X6 x13 x14 x15 -> X6 x13 x14 x15) -> X6 (IntKind.i64.wrap (a1 + (1 : Int))) (0 : Int) ([] : List yaa)
def ydw (Xr : (List yac) → Int → Int → yaa → Int → Prop) (a0 : (List yac)) (a2 : Int) (y2 : yac) (x3 : Int) (x4 : Int) (x5 : Str) (r0 : yaa) (r1 : Int) (a1 : Int) (x8 : Int) (x9 : Int) (x10 : Str) (x11 : Str) : Prop :=
 ∀ J5 : Int -> Prop, (∀ (x12 : Int), ydp Xr a0 a2 y2 x9 x3 x4 x5 x10 x11 r0 r1 a1 x12 -> J5 x12) -> cnd (decide ((240 : Int) <= y2.Kind)) (J5 (IntKind.i64.wrap (y2.Parts.tmod (4 : Int)))) (J5 x8)
def ydx (J4 : Int → Int → Str → Str → Prop) (x6 : Str) (x7 : Str) (y2 : yac) (x19 : Bool) : Prop :=
 cnd x19 (J4 (0 : Int) (0 : Int) x6 x7) (J4 (IntKind.i64.wrap (y2.Parts.tmod (3 : Int))) (0 : Int) x6 x7)
def ydo (J4 : Int → Int → Str → Str → Prop) (x6 : Str) (x7 : Str) (y2 : yac) (x18 : Bool) : Prop :=
 cnd x18 (J4 (1 : Int) (0 : Int) x6 x7) (cnd ((y2.Kind.tmod (10 : Int)) == (8 : Int)) (J4 (IntKind.i64.wrap (y2.Parts.tmod (2 : Int))) (IntKind.i64.wrap (y2.Op.tmod (6 : Int))) x6 x7) (∀ J8 : Bool -> Prop, (∀ (x19 : Bool), ydx J4 x6 x7 y2 x19 -> J8 x19) -> cnd ((y2.Kind.tmod (10 : Int)) == (1 : Int)) (J8 ((y2.Kind.tmod (10 : Int)) == (1 : Int))) (J8 ((y2.Kind.tmod (10 : Int)) == (2 : Int)))))
def ydr (Xr : (List yac) → Int → Int → yaa → Int → Prop) (a0 : (List yac)) (a2 : Int) (y2 : yac) (x3 : Int) (x4 : Int) (x5 : Str) (r0 : yaa) (r1 : Int) (a1 : Int) (x6 : Str) (x7 : Str) : Prop :=
 ∀ J4 : Int -> Int -> Str -> Str -> Prop, (∀ (x8 : Int) (x9 : Int) (x10 : Str) (x11 : Str), ydw Xr a0 a2 y2 x3 x4 x5 r0 r1 a1 x8 x9 x10 x11 -> J4 x8 x9 x10 x11) -> cnd ((y2.Kind.tmod (10 : Int)) == (3 : Int)) (J4 (2 : Int) (IntKind.i64.wrap (y2.Op.tmod (16 : Int))) x6 x7) (∀ J7 : Bool -> Prop, (∀ (x18 : Bool), ydo J4 x6 x7 y2 x18 -> J7 x18) -> cnd ((y2.Kind.tmod (10 : Int)) == (4 : Int)) (J7 ((y2.Kind.tmod (10 : Int)) == (4 : Int))) (cnd ((y2.Kind.tmod (10 : Int)) == (5 : Int)) (J7 ((y2.Kind.tmod (10 : Int)) == (5 : Int))) (cnd ((y2.Kind.tmod (10 : Int)) == (6 : Int)) (J7 ((y2.Kind.tmod (10 : Int)) == (6 : Int))) (J7 ((y2.Kind.tmod (10 : Int)) == (7 : Int))))))
def ydz (y2 : yac) (J3 : Str → Str → Prop) (x20 : Bool) : Prop :=
 cnd x20 ((0 <= (0 : Int) /\ (0 : Int) <= (if (20 : Int) < (y2.Name.length : Int) then (20 : Int) else (y2.Name.length : Int)) /\ (if (20 : Int) < (y2.Name.length : Int) then (20 : Int) else (y2.Name.length : Int)) <= (y2.Name.length : Int)) /\ (0 <= (0 : Int) /\ (0 : Int) <= (if (20 : Int) < (y2.Table.length : Int) then (20 : Int) else (y2.Table.length : Int)) /\ (if (20 : Int) < (y2.Table.length : Int) then (20 : Int) else (y2.Table.length : Int)) <= (y2.Table.length : Int)) /\ J3 ((y2.Table.drop (0 : Int).toNat).take ((if (20 : Int) < (y2.Table.length : Int) then (20 : Int) else (y2.Table.length : Int)).toNat - (0 : Int).toNat)) ((y2.Name.drop (0 : Int).toNat).take ((if (20 : Int) < (y2.Name.length : Int) then (20 : Int) else (y2.Name.length : Int)).toNat - (0 : Int).toNat))) (J3 ([] : Str) ([] : Str))
def ydy (Xr : (List yac) → Int → Int → yaa → Int → Prop) (a0 : (List yac)) (a2 : Int) (y2 : yac) (r0 : yaa) (r1 : Int) (a1 : Int) (x3 : Int) (x4 : Int) (x5 : Str) : Prop :=
 ∀ J3 : Str -> Str -> Prop, (∀ (x6 : Str) (x7 : Str), ydr Xr a0 a2 y2 x3 x4 x5 r0 r1 a1 x6 x7 -> J3 x6 x7) -> ∀ J9 : Bool -> Prop, (∀ (x20 : Bool), ydz y2 J3 x20 -> J9 x20) -> cnd ((y2.Kind.tmod (10 : Int)) == (2 : Int)) (J9 true) (J9 (decide ((250 : Int) <= y2.Kind)))
def yc1 (y2 : yac) (J2 : Int → Int → Str → Prop) (x21 : Bool) : Prop :=
 cnd x21 (cnd ((IntKind.i64.wrap (y2.Value.tmod (5 : Int))) == (1 : Int)) (J2 (IntKind.i64.wrap (y2.Value.tmod (5 : Int))) (bits .and .i64 y2.N (1 : Int)) ([] : Str)) (cnd ((IntKind.i64.wrap (y2.Value.tmod (5 : Int))) == (2 : Int)) (J2 (IntKind.i64.wrap (y2.Value.tmod (5 : Int))) y2.N ([] : Str)) (cnd ((IntKind.i64.wrap (y2.Value.tmod (5 : Int))) == (3 : Int)) ((0 <= (0 : Int) /\ (0 : Int) <= (if (70 : Int) < (y2.Name.length : Int) then (70 : Int) else (y2.Name.length : Int)) /\ (if (70 : Int) < (y2.Name.length : Int) then (70 : Int) else (y2.Name.length : Int)) <= (y2.Name.length : Int)) /\ J2 (IntKind.i64.wrap (y2.Value.tmod (5 : Int))) (0 : Int) ((y2.Name.drop (0 : Int).toNat).take ((if (70 : Int) < (y2.Name.length : Int) then (70 : Int) else (y2.Name.length : Int)).toNat - (0 : Int).toNat))) (J2 (IntKind.i64.wrap (y2.Value.tmod (5 : Int))) (0 : Int) ([] : Str))))) (J2 (0 : Int) (0 : Int) ([] : Str))
def ydu (r0 : yaa) (a1 : Int) (r1 : Int) (a0 : (List yac)) (Xr : (List yac) → Int → Int → yaa → Int → Prop) (a2 : Int) (x1 : Bool) : Prop :=
 cnd x1 ((yaa.mk (1 : Int) (0 : Int) (⟨(0 : Int), (0 : Int), ([] : Str)⟩ : yag) ([] : Str) ([] : Str) ([] : List yaa)) = r0 /\ (IntKind.i64.wrap (a1 + (1 : Int))) = r1) ((0 <= a1) /\ (a1 < (a0.length : Int)) /\ ∃ y2 : yac, (a0[a1.toNat]? = some y2) /\ ∀ J2 : Int -> Int -> Str -> Prop, (∀ (x3 : Int) (x4 : Int) (x5 : Str), ydy Xr a0 a2 y2 r0 r1 a1 x3 x4 x5 -> J2 x3 x4 x5) -> ∀ J10 : Bool -> Prop, (∀ (x21 : Bool), yc1 y2 J2 x21 -> J10 x21) -> cnd ((y2.Kind.tmod (10 : Int)) == (1 : Int)) (J10 true) (J10 (decide ((250 : Int) <= y2.Kind))))
def ybI (Xr : (List yac) → Int → Int → yaa → Int → Prop) (a0 : (List yac)) (a1 : Int) (a2 : Int) (r0 : yaa) (r1 : Int) : Prop :=
 ∀ J1 : Bool -> Prop, (∀ (x1 : Bool), ydu r0 a1 r1 a0 Xr a2 x1 -> J1 x1) -> (a0.length <= maxLen -> cnd (decide ((a0.length : Int) <= a1)) (J1 true) (J1 (decide ((24 : Int) < a2))))
def ycb (a0 : (List yac)) (a1 : Int) (a2 : Int) (r0 : yaa) (r1 : Int) : Prop := ∀ Xr : (List yac) -> Int -> Int -> yaa -> Int -> Prop, (∀ (a0 : (List yac)) (a1 : Int) (a2 : Int) (r0 : yaa) (r1 : Int), ybI Xr a0 a1 a2 r0 r1 -> Xr a0 a1 a2 r0 r1) -> Xr a0 a1 a2 r0 r1
def yb8 (Xr : (List yac) → Int → Int → yaa → Int → Prop) (a0 : (List yac)) (a2 : Int) (r0 : yaa) (r1 : Int) (x3 : Int) (x4 : Int) (x5 : Str) (x9 : Int) (x10 : Str) (x11 : Str) (x12 : Int) (y2 : yac) (X6 : Int → Int → (List yaa) → Prop) (x13 : Int) (x14 : Int) (x15 : (List yaa)) : Prop :=
 cnd (decide (x14 < x12)) (∃ z16 : yaa, ∃ z17 : Int, (Xr a0 x13 (IntKind.i64.wrap (a2 + (1 : Int))) z16 z17) /\ (x15.length <= 1000000000) /\ X6 z17 (IntKind.i64.wrap (x14 + (1 : Int))) (x15 ++ ([(yaa.mk z16.Kind z16.Op (⟨z16.V.Kind, z16.V.N, z16.V.S⟩ : yag) z16.Table z16.Name z16.L)] : List yaa))) ((yaa.mk (IntKind.i64.wrap (y2.Kind.tmod (10 : Int))) x9 (⟨x3, x4, x5⟩ : yag) x10 x11 x15) = r0 /\ x13 = r1)
def ybj (Xr : (List yac) → Int → Int → yaa → Int → Prop) (a0 : (List yac)) (a1 : Int) (a2 : Int) (r0 : yaa) (r1 : Int) (x3 : Int) (x4 : Int) (x5 : Str) (x9 : Int) (x10 : Str) (x11 : Str) (y2 : yac) (x12 : Int) : Prop :=
 ∀ X6 : Int -> Int -> (List yaa) -> Prop, (∀ (x13 : Int) (x14 : Int) (x15 : (List yaa)), yb8 Xr a0 a2 r0 r1 x3 x4 x5 x9 x10 x11 x12 y2 X6 x13 x14 x15 -> X6 x13 x14 x15) -> X6 (IntKind.i64.wrap (a1 + (1 : Int))) (0 : Int) ([] : List yaa)
def yar (Xr : (List yac) → Int → Int → yaa → Int → Prop) (a0 : (List yac)) (a1 : Int) (a2 : Int) (r0 : yaa) (r1 : Int) (x3 : Int) (x4 : Int) (x5 : Str) (y2 : yac) (x8 : Int) (x9 : Int) (x10 : Str) (x11 : Str) : Prop :=
 cnd (decide ((240 : Int) <= y2.Kind)) (ybj Xr a0 a1 a2 r0 r1 x3 x4 x5 x9 x10 x11 y2 (IntKind.i64.wrap (y2.Parts.tmod (4 : Int)))) (ybj Xr a0 a1 a2 r0 r1 x3 x4 x5 x9 x10 x11 y2 x8)
def ybn (Xr : (List yac) → Int → Int → yaa → Int → Prop) (a0 : (List yac)) (a1 : Int) (a2 : Int) (r0 : yaa) (r1 : Int) (x3 : Int) (x4 : Int) (x5 : Str) (x6 : Str) (x7 : Str) (y2 : yac) (x19 : Bool) : Prop :=
 cnd x19 (yar Xr a0 a1 a2 r0 r1 x3 x4 x5 y2 (0 : Int) (0 : Int) x6 x7) (yar Xr a0 a1 a2 r0 r1 x3 x4 x5 y2 (IntKind.i64.wrap (y2.Parts.tmod (3 : Int))) (0 : Int) x6 x7)
def yaX (Xr : (List yac) → Int → Int → yaa → Int → Prop) (a0 : (List yac)) (a1 : Int) (a2 : Int) (r0 : yaa) (r1 : Int) (x3 : Int) (x4 : Int) (x5 : Str) (x6 : Str) (x7 : Str) (y2 : yac) (x18 : Bool) : Prop :=
 cnd x18 (yar Xr a0 a1 a2 r0 r1 x3 x4 x5 y2 (1 : Int) (0 : Int) x6 x7) (cnd ((y2.Kind.tmod (10 : Int)) == (8 : Int)) (yar Xr a0 a1 a2 r0 r1 x3 x4 x5 y2 (IntKind.i64.wrap (y2.Parts.tmod (2 : Int))) (IntKind.i64.wrap (y2.Op.tmod (6 : Int))) x6 x7) (cnd ((y2.Kind.tmod (10 : Int)) == (1 : Int)) (ybn Xr a0 a1 a2 r0 r1 x3 x4 x5 x6 x7 y2 ((y2.Kind.tmod (10 : Int)) == (1 : Int))) (ybn Xr a0 a1 a2 r0 r1 x3 x4 x5 x6 x7 y2 ((y2.Kind.tmod (10 : Int)) == (2 : Int)))))
def yaK (Xr : (List yac) → Int → Int → yaa → Int → Prop) (a0 : (List yac)) (a1 : Int) (a2 : Int) (r0 : yaa) (r1 : Int) (x3 : Int) (x4 : Int) (x5 : Str) (y2 : yac) (x6 : Str) (x7 : Str) : Prop :=
 cnd ((y2.Kind.tmod (10 : Int)) == (3 : Int)) (yar Xr a0 a1 a2 r0 r1 x3 x4 x5 y2 (2 : Int) (IntKind.i64.wrap (y2.Op.tmod (16 : Int))) x6 x7) (cnd ((y2.Kind.tmod (10 : Int)) == (4 : Int)) (yaX Xr a0 a1 a2 r0 r1 x3 x4 x5 x6 x7 y2 ((y2.Kind.tmod (10 : Int)) == (4 : Int))) (cnd ((y2.Kind.tmod (10 : Int)) == (5 : Int)) (yaX Xr a0 a1 a2 r0 r1 x3 x4 x5 x6 x7 y2 ((y2.Kind.tmod (10 : Int)) == (5 : Int))) (cnd ((y2.Kind.tmod (10 : Int)) == (6 : Int)) (yaX Xr a0 a1 a2 r0 r1 x3 x4 x5 x6 x7 y2 ((y2.Kind.tmod (10 : Int)) == (6 : Int))) (yaX Xr a0 a1 a2 r0 r1 x3 x4 x5 x6 x7 y2 ((y2.Kind.tmod (10 : Int)) == (7 : Int))))))
def ybk (Xr : (List yac) → Int → Int → yaa → Int → Prop) (a0 : (List yac)) (a1 : Int) (a2 : Int) (r0 : yaa) (r1 : Int) (x3 : Int) (x4 : Int) (x5 : Str) (y2 : yac) (x20 : Bool) : Prop :=
 cnd x20 ((0 <= (0 : Int) /\ (0 : Int) <= (if (20 : Int) < (y2.Name.length : Int) then (20 : Int) else (y2.Name.length : Int)) /\ (if (20 : Int) < (y2.Name.length : Int) then (20 : Int) else (y2.Name.length : Int)) <= (y2.Name.length : Int)) /\ (0 <= (0 : Int) /\ (0 : Int) <= (if (20 : Int) < (y2.Table.length : Int) then (20 : Int) else (y2.Table.length : Int)) /\ (if (20 : Int) < (y2.Table.length : Int) then (20 : Int) else (y2.Table.length : Int)) <= (y2.Table.length : Int)) /\ yaK Xr a0 a1 a2 r0 r1 x3 x4 x5 y2 ((y2.Table.drop (0 : Int).toNat).take ((if (20 : Int) < (y2.Table.length : Int) then (20 : Int) else (y2.Table.length : Int)).toNat - (0 : Int).toNat)) ((y2.Name.drop (0 : Int).toNat).take ((if (20 : Int) < (y2.Name.length : Int) then (20 : Int) else (y2.Name.length : Int)).toNat - (0 : Int).toNat))) (yaK Xr a0 a1 a2 r0 r1 x3 x4 x5 y2 ([] : Str) ([] : Str))
def yap (Xr : (List yac) → Int → Int → yaa → Int → Prop) (a0 : (List yac)) (a1 : Int) (a2 : Int) (r0 : yaa) (r1 : Int) (y2 : yac) (x3 : Int) (x4 : Int) (x5 : Str) : Prop :=
 cnd ((y2.Kind.tmod (10 : Int)) == (2 : Int)) (ybk Xr a0 a1 a2 r0 r1 x3 x4 x5 y2 true) (ybk Xr a0 a1 a2 r0 r1 x3 x4 x5 y2 (decide ((250 : Int) <= y2.Kind)))
def yay (Xr : (List yac) → Int → Int → yaa → Int → Prop) (a0 : (List yac)) (a1 : Int) (a2 : Int) (r0 : yaa) (r1 : Int) (y2 : yac) (x21 : Bool) : Prop :=
 cnd x21 (cnd ((IntKind.i64.wrap (y2.Value.tmod (5 : Int))) == (1 : Int)) (yap Xr a0 a1 a2 r0 r1 y2 (IntKind.i64.wrap (y2.Value.tmod (5 : Int))) (bits .and .i64 y2.N (1 : Int)) ([] : Str)) (cnd ((IntKind.i64.wrap (y2.Value.tmod (5 : Int))) == (2 : Int)) (yap Xr a0 a1 a2 r0 r1 y2 (IntKind.i64.wrap (y2.Value.tmod (5 : Int))) y2.N ([] : Str)) (cnd ((IntKind.i64.wrap (y2.Value.tmod (5 : Int))) == (3 : Int)) ((0 <= (0 : Int) /\ (0 : Int) <= (if (70 : Int) < (y2.Name.length : Int) then (70 : Int) else (y2.Name.length : Int)) /\ (if (70 : Int) < (y2.Name.length : Int) then (70 : Int) else (y2.Name.length : Int)) <= (y2.Name.length : Int)) /\ yap Xr a0 a1 a2 r0 r1 y2 (IntKind.i64.wrap (y2.Value.tmod (5 : Int))) (0 : Int) ((y2.Name.drop (0 : Int).toNat).take ((if (70 : Int) < (y2.Name.length : Int) then (70 : Int) else (y2.Name.length : Int)).toNat - (0 : Int).toNat))) (yap Xr a0 a1 a2 r0 r1 y2 (IntKind.i64.wrap (y2.Value.tmod (5 : Int))) (0 : Int) ([] : Str))))) (yap Xr a0 a1 a2 r0 r1 y2 (0 : Int) (0 : Int) ([] : Str))
def ya9 (Xr : (List yac) → Int → Int → yaa → Int → Prop) (a0 : (List yac)) (a1 : Int) (a2 : Int) (r0 : yaa) (r1 : Int) (x1 : Bool) : Prop :=
 cnd x1 ((yaa.mk (1 : Int) (0 : Int) (⟨(0 : Int), (0 : Int), ([] : Str)⟩ : yag) ([] : Str) ([] : Str) ([] : List yaa)) = r0 /\ (IntKind.i64.wrap (a1 + (1 : Int))) = r1) ((0 <= a1) /\ (a1 < (a0.length : Int)) /\ ∃ y2 : yac, (a0[a1.toNat]? = some y2) /\ cnd ((y2.Kind.tmod (10 : Int)) == (1 : Int)) (yay Xr a0 a1 a2 r0 r1 y2 true) (yay Xr a0 a1 a2 r0 r1 y2 (decide ((250 : Int) <= y2.Kind))))
def ye5 (Xr : (List yac) → Int → Int → yaa → Int → Prop) (a0 : (List yac)) (a1 : Int) (a2 : Int) (r0 : yaa) (r1 : Int) : Prop :=
 (a0.length <= maxLen -> cnd (decide ((a0.length : Int) <= a1)) (ya9 Xr a0 a1 a2 r0 r1 true) (ya9 Xr a0 a1 a2 r0 r1 (decide ((24 : Int) < a2))))
theorem yhe (Xr : (List yac) → Int → Int → yaa → Int → Prop) (a0 : (List yac)) (a2 : Int) (r0 : yaa) (r1 : Int) (x3 : Int) (x4 : Int) (x5 : Str) (x9 : Int) (x10 : Str) (x11 : Str) (x12 : Int) (y2 : yac) {X6 : Int → Int → (List yaa) → Prop} {x13 : Int} {x14 : Int} {x15 : (List yaa)} (h : yb8 Xr a0 a2 r0 r1 x3 x4 x5 x9 x10 x11 x12 y2 X6 x13 x14 x15) : ydq x12 Xr a0 a2 y2 x9 x3 x4 x5 x10 x11 r0 r1 X6 x13 x14 x15 := by
 unfold ydq
 unfold yb8 at h
 exact h
theorem yhj (Xr : (List yac) → Int → Int → yaa → Int → Prop) (a0 : (List yac)) (a1 : Int) (a2 : Int) (r0 : yaa) (r1 : Int) (x3 : Int) (x4 : Int) (x5 : Str) (x9 : Int) (x10 : Str) (x11 : Str) (y2 : yac) {x12 : Int} (h : ybj Xr a0 a1 a2 r0 r1 x3 x4 x5 x9 x10 x11 y2 x12) : ydp Xr a0 a2 y2 x9 x3 x4 x5 x10 x11 r0 r1 a1 x12 := by
 unfold ydp
 unfold ybj at h
 intro X6 k
 exact h X6 (fun x13 x14 x15 q => k x13 x14 x15 (yhe Xr a0 a2 r0 r1 x3 x4 x5 x9 x10 x11 x12 y2 q))
theorem yhf (Xr : (List yac) → Int → Int → yaa → Int → Prop) (a0 : (List yac)) (a1 : Int) (a2 : Int) (r0 : yaa) (r1 : Int) (x3 : Int) (x4 : Int) (x5 : Str) (y2 : yac) {x8 : Int} {x9 : Int} {x10 : Str} {x11 : Str} (h : yar Xr a0 a1 a2 r0 r1 x3 x4 x5 y2 x8 x9 x10 x11) : ydw Xr a0 a2 y2 x3 x4 x5 r0 r1 a1 x8 x9 x10 x11 := by
 unfold ydw
 unfold yar at h
 intro J5 kJ5
 have hJ5 : ∀ (x12 : Int), ybj Xr a0 a1 a2 r0 r1 x3 x4 x5 x9 x10 x11 y2 x12 -> J5 x12 := fun x12 q => kJ5 x12 (yhj Xr a0 a1 a2 r0 r1 x3 x4 x5 x9 x10 x11 y2 q)
 refine yai h (fun h => ?_) (fun h => ?_)
 ·exact hJ5 _ h
 ·exact hJ5 _ h
theorem yhc (J4 : Int → Int → Str → Str → Prop) (Xr : (List yac) → Int → Int → yaa → Int → Prop) (a0 : (List yac)) (a1 : Int) (a2 : Int) (r0 : yaa) (r1 : Int) (x3 : Int) (x4 : Int) (x5 : Str) (x6 : Str) (x7 : Str) (y2 : yac) (hJ4 : ∀ (x8 : Int) (x9 : Int) (x10 : Str) (x11 : Str), yar Xr a0 a1 a2 r0 r1 x3 x4 x5 y2 x8 x9 x10 x11 → J4 x8 x9 x10 x11) {x19 : Bool} (h : ybn Xr a0 a1 a2 r0 r1 x3 x4 x5 x6 x7 y2 x19) : ydx J4 x6 x7 y2 x19 := by
 unfold ydx
 unfold ybn at h
 refine yai h (fun h => ?_) (fun h => ?_)
 ·exact hJ4 _ _ _ _ h
 ·exact hJ4 _ _ _ _ h
theorem yhk (J4 : Int → Int → Str → Str → Prop) (Xr : (List yac) → Int → Int → yaa → Int → Prop) (a0 : (List yac)) (a1 : Int) (a2 : Int) (r0 : yaa) (r1 : Int) (x3 : Int) (x4 : Int) (x5 : Str) (x6 : Str) (x7 : Str) (y2 : yac) (hJ4 : ∀ (x8 : Int) (x9 : Int) (x10 : Str) (x11 : Str), yar Xr a0 a1 a2 r0 r1 x3 x4 x5 y2 x8 x9 x10 x11 → J4 x8 x9 x10 x11) {x18 : Bool} (h : yaX Xr a0 a1 a2 r0 r1 x3 x4 x5 x6 x7 y2 x18) : ydo J4 x6 x7 y2 x18 := by
 unfold ydo
 unfold yaX at h
 refine yai h (fun h => ?_) (fun h => ?_)
 ·exact hJ4 _ _ _ _ h
 ·refine yai h (fun h => ?_) (fun h => ?_)
  ·exact hJ4 _ _ _ _ h
  ·intro J8 kJ8
   have hJ8 : ∀ (x19 : Bool), ybn Xr a0 a1 a2 r0 r1 x3 x4 x5 x6 x7 y2 x19 -> J8 x19 := fun x19 q => kJ8 x19 (yhc J4 Xr a0 a1 a2 r0 r1 x3 x4 x5 x6 x7 y2 hJ4 q)
   refine yai h (fun h => ?_) (fun h => ?_)
   ·exact hJ8 _ h
   ·exact hJ8 _ h
theorem yhm (Xr : (List yac) → Int → Int → yaa → Int → Prop) (a0 : (List yac)) (a1 : Int) (a2 : Int) (r0 : yaa) (r1 : Int) (x3 : Int) (x4 : Int) (x5 : Str) (y2 : yac) {x6 : Str} {x7 : Str} (h : yaK Xr a0 a1 a2 r0 r1 x3 x4 x5 y2 x6 x7) : ydr Xr a0 a2 y2 x3 x4 x5 r0 r1 a1 x6 x7 := by
 unfold ydr
 unfold yaK at h
 intro J4 kJ4
 have hJ4 : ∀ (x8 : Int) (x9 : Int) (x10 : Str) (x11 : Str), yar Xr a0 a1 a2 r0 r1 x3 x4 x5 y2 x8 x9 x10 x11 -> J4 x8 x9 x10 x11 := fun x8 x9 x10 x11 q => kJ4 x8 x9 x10 x11 (yhf Xr a0 a1 a2 r0 r1 x3 x4 x5 y2 q)
 refine yai h (fun h => ?_) (fun h => ?_)
 ·exact hJ4 _ _ _ _ h
 ·intro J7 kJ7
  have hJ7 : ∀ (x18 : Bool), yaX Xr a0 a1 a2 r0 r1 x3 x4 x5 x6 x7 y2 x18 -> J7 x18 := fun x18 q => kJ7 x18 (yhk J4 Xr a0 a1 a2 r0 r1 x3 x4 x5 x6 x7 y2 hJ4 q)
  refine yai h (fun h => ?_) (fun h => ?_)
  ·exact hJ7 _ h
  ·refine yai h (fun h => ?_) (fun h => ?_)
   ·exact hJ7 _ h
   ·refine yai h (fun h => ?_) (fun h => ?_)
    ·exact hJ7 _ h
    ·exact hJ7 _ h
theorem yhd (J3 : Str → Str → Prop) (Xr : (List yac) → Int → Int → yaa → Int → Prop) (a0 : (List yac)) (a1 : Int) (a2 : Int) (r0 : yaa) (r1 : Int) (x3 : Int) (x4 : Int) (x5 : Str) (y2 : yac) (hJ3 : ∀ (x6 : Str) (x7 : Str), yaK Xr a0 a1 a2 r0 r1 x3 x4 x5 y2 x6 x7 → J3 x6 x7) {x20 : Bool} (h : ybk Xr a0 a1 a2 r0 r1 x3 x4 x5 y2 x20) : ydz y2 J3 x20 := by
 unfold ydz
 unfold ybk at h
 refine yai h (fun h => ?_) (fun h => ?_)
 ·obtain ⟨h0, h⟩ := h
  refine ⟨h0, ?_⟩
  obtain ⟨h0, h⟩ := h
  refine ⟨h0, ?_⟩
  exact hJ3 _ _ h
 ·exact hJ3 _ _ h
theorem yho (Xr : (List yac) → Int → Int → yaa → Int → Prop) (a0 : (List yac)) (a1 : Int) (a2 : Int) (r0 : yaa) (r1 : Int) (y2 : yac) {x3 : Int} {x4 : Int} {x5 : Str} (h : yap Xr a0 a1 a2 r0 r1 y2 x3 x4 x5) : ydy Xr a0 a2 y2 r0 r1 a1 x3 x4 x5 := by
 unfold ydy
 unfold yap at h
 intro J3 kJ3
 have hJ3 : ∀ (x6 : Str) (x7 : Str), yaK Xr a0 a1 a2 r0 r1 x3 x4 x5 y2 x6 x7 -> J3 x6 x7 := fun x6 x7 q => kJ3 x6 x7 (yhm Xr a0 a1 a2 r0 r1 x3 x4 x5 y2 q)
 intro J9 kJ9
 have hJ9 : ∀ (x20 : Bool), ybk Xr a0 a1 a2 r0 r1 x3 x4 x5 y2 x20 -> J9 x20 := fun x20 q => kJ9 x20 (yhd J3 Xr a0 a1 a2 r0 r1 x3 x4 x5 y2 hJ3 q)
 refine yai h (fun h => ?_) (fun h => ?_)
 ·exact hJ9 _ h
 ·exact hJ9 _ h
theorem ygB (J2 : Int → Int → Str → Prop) (Xr : (List yac) → Int → Int → yaa → Int → Prop) (a0 : (List yac)) (a1 : Int) (a2 : Int) (r0 : yaa) (r1 : Int) (y2 : yac) (hJ2 : ∀ (x3 : Int) (x4 : Int) (x5 : Str), yap Xr a0 a1 a2 r0 r1 y2 x3 x4 x5 → J2 x3 x4 x5) {x21 : Bool} (h : yay Xr a0 a1 a2 r0 r1 y2 x21) : yc1 y2 J2 x21 := by
 unfold yc1
 unfold yay at h
 refine yai h (fun h => ?_) (fun h => ?_)
 ·refine yai h (fun h => ?_) (fun h => ?_)
  ·exact hJ2 _ _ _ h
  ·refine yai h (fun h => ?_) (fun h => ?_)
   ·exact hJ2 _ _ _ h
   ·refine yai h (fun h => ?_) (fun h => ?_)
    ·obtain ⟨h0, h⟩ := h
     refine ⟨h0, ?_⟩
     exact hJ2 _ _ _ h
    ·exact hJ2 _ _ _ h
 ·exact hJ2 _ _ _ h
theorem yhl (Xr : (List yac) → Int → Int → yaa → Int → Prop) (a0 : (List yac)) (a1 : Int) (a2 : Int) (r0 : yaa) (r1 : Int) {x1 : Bool} (h : ya9 Xr a0 a1 a2 r0 r1 x1) : ydu r0 a1 r1 a0 Xr a2 x1 := by
 unfold ydu
 unfold ya9 at h
 refine yai h (fun h => ?_) (fun h => ?_)
 ·exact h
 ·obtain ⟨h0, h⟩ := h
  refine ⟨h0, ?_⟩
  obtain ⟨h0, h⟩ := h
  refine ⟨h0, ?_⟩
  obtain ⟨y2, h⟩ := h
  refine ⟨y2, ?_⟩
  obtain ⟨h0, h⟩ := h
  refine ⟨h0, ?_⟩
  intro J2 kJ2
  have hJ2 : ∀ (x3 : Int) (x4 : Int) (x5 : Str), yap Xr a0 a1 a2 r0 r1 y2 x3 x4 x5 -> J2 x3 x4 x5 := fun x3 x4 x5 q => kJ2 x3 x4 x5 (yho Xr a0 a1 a2 r0 r1 y2 q)
  intro J10 kJ10
  have hJ10 : ∀ (x21 : Bool), yay Xr a0 a1 a2 r0 r1 y2 x21 -> J10 x21 := fun x21 q => kJ10 x21 (ygB J2 Xr a0 a1 a2 r0 r1 y2 hJ2 q)
  refine yai h (fun h => ?_) (fun h => ?_)
  ·exact hJ10 _ h
  ·exact hJ10 _ h
theorem ye9 (Xr : (List yac) → Int → Int → yaa → Int → Prop) (a0 : (List yac)) (a1 : Int) (a2 : Int) (r0 : yaa) (r1 : Int) (h : ye5 Xr a0 a1 a2 r0 r1) : ybI Xr a0 a1 a2 r0 r1 := by
 unfold ybI
 unfold ye5 at h
 intro J1 kJ1
 have hJ1 : ∀ (x1 : Bool), ya9 Xr a0 a1 a2 r0 r1 x1 -> J1 x1 := fun x1 q => kJ1 x1 (yhl Xr a0 a1 a2 r0 r1 q)
 intro c
 replace h := h c
 refine yai h (fun h => ?_) (fun h => ?_)
 ·exact hJ1 _ h
 ·exact hJ1 _ h
def ycn : Sp KK := ⟨5, [.v 22, .v 3, .v 3], [28, 3], appW (K := KK) [28, 3] [.v 22, .v 3, .v 3] ycb⟩
def yiB : An KK := (.s .o (.s (.j ⟨[(0, .kp 12), (1, .kp 13), (2, .kp 14), (6, .px 6 0), (21, .bl)], [(6, 28, [.kp 15, .kp 16, .kp 17, .kp 18, .kp 19, .kp 20, .kp 21, .kp 22])], []⟩ .o (fun _ => (.c (.s .o .o) .o))) (.s .o (.s .o (.s .o (.j ⟨[(0, .kp 12), (2, .kp 14), (6, .px 6 0), (8, .px 8 0), (9, .px 9 0), (10, .kp 23)], [(6, 28, [.kp 15, .kp 16, .kp 17, .kp 18, .kp 19, .kp 20, .kp 21, .kp 22]), (8, 50, [.kp 24, .kp 25, .kp 26, .kp 27, .kp 28, .kp 29, .kp 30]), (9, 28, [.kp 31, .kp 32, .it .i64, .it .i64, .st, .kp 36, .kp 37, .kp 38])], []⟩ (.j ⟨[(0, .kp 12), (2, .kp 14), (6, .px 6 0), (8, .px 8 0), (9, .px 9 0), (10, .kp 23), (44, .bl)], [(6, 28, [.kp 15, .kp 16, .kp 17, .kp 18, .kp 19, .kp 20, .kp 21, .kp 22]), (8, 50, [.kp 24, .kp 25, .kp 26, .kp 27, .kp 28, .kp 29, .kp 30]), (9, 28, [.kp 31, .kp 32, .kp 64, .kp 65, .kp 66, .kp 36, .kp 37, .kp 38])], []⟩ .o (fun _ => (.c (.s .o (.s .o (.b (.s .o (.c .o (.s .o (.c .o (.s .o (.c .o .o))))))))) .o))) (fun _ => (.j ⟨[(0, .kp 12), (2, .kp 14), (6, .px 6 0), (8, .px 8 0), (9, .px 9 0), (10, .kp 23)], [(6, 28, [.kp 15, .kp 16, .kp 17, .kp 18, .kp 19, .kp 20, .kp 21, .kp 22]), (8, 50, [.kp 24, .kp 25, .kp 26, .kp 27, .kp 28, .kp 29, .kp 30]), (9, 28, [.kp 31, .kp 32, .kp 42, .kp 43, .kp 44, .st, .st, .kp 38])], []⟩ (.j ⟨[(0, .kp 12), (2, .kp 14), (6, .px 6 0), (8, .px 8 0), (9, .px 9 0), (10, .kp 23), (86, .bl)], [(6, 28, [.kp 15, .kp 16, .kp 17, .kp 18, .kp 19, .kp 20, .kp 21, .kp 22]), (8, 50, [.kp 24, .kp 25, .kp 26, .kp 27, .kp 28, .kp 29, .kp 30]), (9, 28, [.kp 31, .kp 32, .kp 42, .kp 43, .kp 44, .kp 36, .kp 37, .kp 38])], []⟩ .o (fun _ => (.c .o .o))) (fun _ => (.s .o (.j ⟨[(0, .kp 12), (2, .kp 14), (6, .px 6 0), (8, .px 8 0), (9, .px 9 0), (10, .kp 23), (11, .it .i64)], [(6, 28, [.kp 15, .kp 16, .kp 17, .kp 18, .kp 19, .kp 20, .kp 21, .kp 22]), (8, 50, [.kp 24, .kp 25, .kp 26, .kp 27, .kp 28, .kp 29, .kp 30]), (9, 28, [.kp 31, .it .i64, .kp 42, .kp 43, .kp 44, .st, .st, .kp 38])], []⟩ (.s .o (.b (.s .o (.c .o (.j ⟨[(0, .kp 12), (2, .kp 14), (6, .px 6 0), (8, .px 8 0), (9, .px 9 0), (10, .kp 23), (11, .kp 60), (109, .kp 61), (117, .bl)], [(6, 28, [.kp 15, .kp 16, .kp 17, .kp 18, .kp 19, .kp 20, .kp 21, .kp 22]), (8, 50, [.kp 24, .kp 25, .kp 26, .kp 27, .kp 28, .kp 29, .kp 30]), (9, 28, [.kp 31, .kp 32, .kp 42, .kp 43, .kp 44, .kp 62, .kp 63, .kp 38])], []⟩ (.s .o (.c .o (.s .o (.c .o (.s .o (.c .o .o)))))) (fun _ => (.c .o (.s .o (.c (.s .o .o) (.j ⟨[(0, .kp 12), (2, .kp 14), (6, .px 6 0), (8, .px 8 0), (9, .px 9 0), (10, .kp 23), (11, .kp 60), (133, .bl)], [(6, 28, [.kp 15, .kp 16, .kp 17, .kp 18, .kp 19, .kp 20, .kp 21, .kp 22]), (8, 50, [.kp 24, .kp 25, .kp 26, .kp 27, .kp 28, .kp 29, .kp 30]), (9, 28, [.kp 31, .kp 32, .kp 42, .kp 43, .kp 44, .kp 62, .kp 63, .kp 38])], []⟩ (.s .o (.c .o .o)) (fun _ => (.c .o .o)))))))))))) (fun _ => (.j ⟨[(0, .kp 12), (2, .kp 14), (6, .px 6 0), (9, .px 9 0), (10, .kp 23), (11, .it .i64)], [(6, 28, [.kp 15, .kp 16, .kp 17, .kp 18, .kp 19, .kp 20, .kp 21, .kp 22]), (9, 28, [.kp 31, .kp 53, .kp 42, .kp 43, .kp 44, .kp 54, .kp 55, .kp 38])], []⟩ (.s .o (.c .o .o)) (fun _ => (.s (.s .o (.b (.l ⟨[(0, .kp 12), (2, .kp 14), (6, .px 6 0), (9, .px 9 0), (10, .it .i64), (11, .kp 58), (12, .it .i64)], [(6, 28, [.kp 15, .kp 16, .kp 17, .kp 18, .kp 19, .kp 20, .kp 21, .kp 22]), (9, 28, [.kp 31, .kp 53, .kp 42, .kp 43, .kp 44, .kp 54, .kp 55, .row 160])], [(160, 28)]⟩ (fun _ => (.s (.s .o (.c .o .o)) (.s (.b (.s .o (.s .o .o))) .o)))))) (.s .o .o))))))))))))))))
def yiI (Xr : WTy KK [28, 3] [.v 22, .v 3, .v 3]) : Cf KK := ⟨CC, [⟨5, [.v 22, .v 3, .v 3], [28, 3], appW (K := KK) [28, 3] [.v 22, .v 3, .v 3] Xr⟩], 164⟩
set_option maxRecDepth 100000 in
theorem yhU (Xr : (List yac) → Int → Int → yaa → Int → Prop) (hX : ∀ (a0 : (List yac)) (a1 : Int) (a2 : Int) (r0 : yaa) (r1 : Int), Xr a0 a1 a2 r0 r1 → Pure Tryd.prog 5 (yax CC [.v 22, .v 3, .v 3] ([.d (.v 22 a0), .d (.v 3 a1), .d (.v 3 a2)] : List (AD KK))) (yaP (([.v 28 r0, .v 3 r1] : List (DV KK)).map (dvA CC)))) : ∀ (a0 : (List yac)) (a1 : Int) (a2 : Int) (r0 : yaa) (r1 : Int), ybI Xr a0 a1 a2 r0 r1 → Pure Tryd.prog 5 (yax CC [.v 22, .v 3, .v 3] ([.d (.v 22 a0), .d (.v 3 a1), .d (.v 3 a2)] : List (AD KK))) (yaP (([.v 28 r0, .v 3 r1] : List (DV KK)).map (dvA CC))) := by
 intro a0 a1 a2 r0 r1 h
 refine yaT (F := yiI Xr) ybz (yaw ?_ yaU) t5 (A := yiB) (ps := [.v 22, .v 3, .v 3]) (rs := [28, 3]) (env := [.d (.v 22 a0), .d (.v 3 a1), .d (.v 3 a2)]) (r := [.v 28 r0, .v 3 r1]) (X := ybI Xr a0 a1 a2 r0 r1) (by kernel_rfl) (Nat.le_of_ble_eq_true (by kernel_rfl)) rfl (fun G hG => by simp at hG) h ?_
 ·clear h r0 r1
  intro env r hF h
  obtain ⟨a0, env0, rfl, h1⟩ := yam h
  obtain ⟨a1, env1, rfl, h2⟩ := yam h1
  obtain ⟨a2, env2, rfl, h3⟩ := yam h2
  obtain ⟨rfl, h4⟩ := yav h3
  obtain ⟨r0, rr0, rfl, h5⟩ := ya3 h4
  obtain ⟨r1, rr1, rfl, h6⟩ := ya3 h5
  obtain ⟨rfl, h7⟩ := ya5 h6
  exact ⟨rfl, hX a0 a1 a2 r0 r1 h7⟩
 ·kernel_rfl
set_option maxRecDepth 100000 in
theorem yiF : SpOk Tryd.prog CC ycn := by
 intro env r hF h
 obtain ⟨a0, env0, rfl, h1⟩ := yam h
 obtain ⟨a1, env1, rfl, h2⟩ := yam h1
 obtain ⟨a2, env2, rfl, h3⟩ := yam h2
 obtain ⟨rfl, h4⟩ := yav h3
 obtain ⟨r0, rr0, rfl, h5⟩ := ya3 h4
 obtain ⟨r1, rr1, rfl, h6⟩ := ya3 h5
 obtain ⟨rfl, h7⟩ := ya5 h6
 exact ⟨rfl, h7 (fun a0 a1 a2 r0 r1 =>  Pure Tryd.prog 5 (yax CC [.v 22, .v 3, .v 3] ([.d (.v 22 a0), .d (.v 3 a1), .d (.v 3 a2)] : List (AD KK))) (yaP (([.v 28 r0, .v 3 r1] : List (DV KK)).map (dvA CC)))) (fun a0 a1 a2 r0 r1 h => yhU _ (fun a0 a1 a2 r0 r1 h => h) a0 a1 a2 r0 r1 h)⟩
def ydU (a0 : yaa) (Xr : yaa → yab → Prop) (r0 : yab) (X1 : Int → (List yab) → Prop) (x1 : Int) (x2 : (List yab)) : Prop :=
 (a0.L.length <= maxLen -> cnd (decide (x1 < (a0.L.length : Int))) ((0 <= x1) /\ (x1 < (a0.L.length : Int)) /\ ∃ y3 : yaa, (a0.L[x1.toNat]? = some y3) /\ ∃ z4 : yab, (Xr (yaa.mk y3.Kind y3.Op (⟨y3.V.Kind, y3.V.N, y3.V.S⟩ : yag) y3.Table y3.Name y3.L) z4) /\ (x2.length <= 1000000000) /\ X1 (IntKind.i64.wrap (x1 + (1 : Int))) (x2 ++ ([(yab.mk z4.Kind z4.Op (⟨z4.V.Kind, z4.V.N, z4.V.S⟩ : yae) z4.Table z4.Name z4.L)] : List yab))) ((yab.mk a0.Kind a0.Op (⟨a0.V.Kind, a0.V.N, a0.V.S⟩ : yae) a0.Table a0.Name x2) = r0))
def ycE (Xr : yaa → yab → Prop) (a0 : yaa) (r0 : yab) : Prop :=
 ∀ X1 : Int -> (List yab) -> Prop, (∀ (x1 : Int) (x2 : (List yab)), ydU a0 Xr r0 X1 x1 x2 -> X1 x1 x2) -> X1 (0 : Int) ([] : List yab)
def ydm (a0 : yaa) (r0 : yab) : Prop := ∀ Xr : yaa -> yab -> Prop, (∀ (a0 : yaa) (r0 : yab), ycE Xr a0 r0 -> Xr a0 r0) -> Xr a0 r0
def ydA (Xr : yaa → yab → Prop) (a0 : yaa) (r0 : yab) (X1 : Int → (List yab) → Prop) (x1 : Int) (x2 : (List yab)) : Prop :=
 (a0.L.length <= maxLen -> cnd (decide (x1 < (a0.L.length : Int))) ((0 <= x1) /\ (x1 < (a0.L.length : Int)) /\ ∃ y3 : yaa, (a0.L[x1.toNat]? = some y3) /\ ∃ z4 : yab, (Xr (yaa.mk y3.Kind y3.Op (⟨y3.V.Kind, y3.V.N, y3.V.S⟩ : yag) y3.Table y3.Name y3.L) z4) /\ (x2.length <= 1000000000) /\ X1 (IntKind.i64.wrap (x1 + (1 : Int))) (x2 ++ ([(yab.mk z4.Kind z4.Op (⟨z4.V.Kind, z4.V.N, z4.V.S⟩ : yae) z4.Table z4.Name z4.L)] : List yab))) ((yab.mk a0.Kind a0.Op (⟨a0.V.Kind, a0.V.N, a0.V.S⟩ : yae) a0.Table a0.Name x2) = r0))
def yfI (Xr : yaa → yab → Prop) (a0 : yaa) (r0 : yab) : Prop :=
 ∀ X1 : Int -> (List yab) -> Prop, (∀ (x1 : Int) (x2 : (List yab)), ydA Xr a0 r0 X1 x1 x2 -> X1 x1 x2) -> X1 (0 : Int) ([] : List yab)
theorem yhT (Xr : yaa → yab → Prop) (a0 : yaa) (r0 : yab) {X1 : Int → (List yab) → Prop} {x1 : Int} {x2 : (List yab)} (h : ydA Xr a0 r0 X1 x1 x2) : ydU a0 Xr r0 X1 x1 x2 := by
 unfold ydU
 unfold ydA at h
 exact h
theorem yjb (Xr : yaa → yab → Prop) (a0 : yaa) (r0 : yab) (h : yfI Xr a0 r0) : ycE Xr a0 r0 := by
 unfold ycE
 unfold yfI at h
 intro X1 k
 exact h X1 (fun x1 x2 q => k x1 x2 (yhT Xr a0 r0 q))
def ycU : Sp KK := ⟨6, [.v 28], [34], appW (K := KK) [34] [.v 28] ydm⟩
def yjN : An KK := (.s .o (.s .o (.s (.s .o (.b (.l ⟨[(1, .px 1 0), (2, .px 2 0), (3, .px 3 0), (4, .it .i64)], [(1, 28, [.kp 27, .kp 28, .kp 29, .kp 30, .kp 31, .kp 32, .kp 33, .kp 34]), (2, 34, [.kp 35, .kp 36, .kp 37, .kp 38, .kp 39, .kp 40, .kp 41, .kp 42]), (3, 34, [.kp 43, .kp 44, .kp 45, .kp 46, .kp 47, .kp 48, .kp 49, .row 32])], [(32, 34)]⟩ (fun _ => (.s (.s .o (.c .o .o)) (.s (.b .o) .o)))))) (.s .o .o))))
def yjh (Xr : WTy KK [34] [.v 28]) : Cf KK := ⟨CC, [⟨6, [.v 28], [34], appW (K := KK) [34] [.v 28] Xr⟩], 35⟩
set_option maxRecDepth 100000 in
theorem yiA (Xr : yaa → yab → Prop) (hX : ∀ (a0 : yaa) (r0 : yab), Xr a0 r0 → Pure Tryd.prog 6 (yax CC [.v 28] ([.d (.v 28 a0)] : List (AD KK))) (yaP (([.v 34 r0] : List (DV KK)).map (dvA CC)))) : ∀ (a0 : yaa) (r0 : yab), ycE Xr a0 r0 → Pure Tryd.prog 6 (yax CC [.v 28] ([.d (.v 28 a0)] : List (AD KK))) (yaP (([.v 34 r0] : List (DV KK)).map (dvA CC))) := by
 intro a0 r0 h
 refine yaT (F := yjh Xr) ybz (yaw ?_ yaU) t6 (A := yjN) (ps := [.v 28]) (rs := [34]) (env := [.d (.v 28 a0)]) (r := [.v 34 r0]) (X := ycE Xr a0 r0) (by kernel_rfl) (Nat.le_of_ble_eq_true (by kernel_rfl)) rfl (fun G hG => by simp at hG) h ?_
 ·clear h r0
  intro env r hF h
  obtain ⟨a0, env0, rfl, h1⟩ := yam h
  obtain ⟨rfl, h2⟩ := yav h1
  obtain ⟨r0, rr0, rfl, h3⟩ := ya3 h2
  obtain ⟨rfl, h4⟩ := ya5 h3
  exact ⟨rfl, hX a0 r0 h4⟩
 ·kernel_rfl
set_option maxRecDepth 100000 in
theorem yjf : SpOk Tryd.prog CC ycU := by
 intro env r hF h
 obtain ⟨a0, env0, rfl, h1⟩ := yam h
 obtain ⟨rfl, h2⟩ := yav h1
 obtain ⟨r0, rr0, rfl, h3⟩ := ya3 h2
 obtain ⟨rfl, h4⟩ := ya5 h3
 exact ⟨rfl, h4 (fun a0 r0 =>  Pure Tryd.prog 6 (yax CC [.v 28] ([.d (.v 28 a0)] : List (AD KK))) (yaP (([.v 34 r0] : List (DV KK)).map (dvA CC)))) (fun a0 r0 h => yiA _ (fun a0 r0 h => h) a0 r0 h)⟩
def yis (a0 : yaa) (Xr : yaa → Int → Prop) (r0 : Int) (X1 : Int → Int → Prop) (x1 : Int) (x2 : Int) : Prop :=
 (a0.L.length <= maxLen -> cnd (decide (x2 < (a0.L.length : Int))) ((0 <= x2) /\ (x2 < (a0.L.length : Int)) /\ ∃ y3 : yaa, (a0.L[x2.toNat]? = some y3) /\ ∃ z4 : Int, (Xr (yaa.mk y3.Kind y3.Op (⟨y3.V.Kind, y3.V.N, y3.V.S⟩ : yag) y3.Table y3.Name y3.L) z4) /\ cnd (decide (x1 <= z4)) (X1 (IntKind.i64.wrap (z4 + (1 : Int))) (IntKind.i64.wrap (x2 + (1 : Int)))) (X1 x1 (IntKind.i64.wrap (x2 + (1 : Int))))) (x1 = r0))
def yd1 (Xr : yaa → Int → Prop) (a0 : yaa) (r0 : Int) : Prop :=
 ∀ X1 : Int -> Int -> Prop, (∀ (x1 : Int) (x2 : Int), yis a0 Xr r0 X1 x1 x2 -> X1 x1 x2) -> X1 (1 : Int) (0 : Int)
def yb7 (a0 : yaa) (r0 : Int) : Prop := ∀ Xr : yaa -> Int -> Prop, (∀ (a0 : yaa) (r0 : Int), yd1 Xr a0 r0 -> Xr a0 r0) -> Xr a0 r0
def ybQ : Sp KK := ⟨11, [.v 28], [3], appW (K := KK) [3] [.v 28] yb7⟩
def yiy : An KK := (.s .o (.s .o (.s (.s .o (.b (.l ⟨[(1, .px 1 0), (3, .it .i64), (4, .it .i64)], [(1, 28, [.kp 13, .kp 14, .kp 15, .kp 16, .kp 17, .kp 18, .kp 19, .kp 20])], []⟩ (fun _ => (.s (.s .o (.c .o .o)) (.s (.b (.s .o (.s .o (.c .o .o)))) .o)))))) (.s .o .o))))
def yiz (Xr : WTy KK [3] [.v 28]) : Cf KK := ⟨CC, [⟨11, [.v 28], [3], appW (K := KK) [3] [.v 28] Xr⟩], 25⟩
set_option maxRecDepth 100000 in
theorem yhK (Xr : yaa → Int → Prop) (hX : ∀ (a0 : yaa) (r0 : Int), Xr a0 r0 → Pure Tryd.prog 11 (yax CC [.v 28] ([.d (.v 28 a0)] : List (AD KK))) (yaP (([.v 3 r0] : List (DV KK)).map (dvA CC)))) : ∀ (a0 : yaa) (r0 : Int), yd1 Xr a0 r0 → Pure Tryd.prog 11 (yax CC [.v 28] ([.d (.v 28 a0)] : List (AD KK))) (yaP (([.v 3 r0] : List (DV KK)).map (dvA CC))) := by
 intro a0 r0 h
 refine yaT (F := yiz Xr) ybz (yaw ?_ yaU) t11 (A := yiy) (ps := [.v 28]) (rs := [3]) (env := [.d (.v 28 a0)]) (r := [.v 3 r0]) (X := yd1 Xr a0 r0) (by kernel_rfl) (Nat.le_of_ble_eq_true (by kernel_rfl)) rfl (fun G hG => by simp at hG) h ?_
 ·clear h r0
  intro env r hF h
  obtain ⟨a0, env0, rfl, h1⟩ := yam h
  obtain ⟨rfl, h2⟩ := yav h1
  obtain ⟨r0, rr0, rfl, h3⟩ := ya3 h2
  obtain ⟨rfl, h4⟩ := ya5 h3
  exact ⟨rfl, hX a0 r0 h4⟩
 ·kernel_rfl
set_option maxRecDepth 100000 in
theorem yfc : SpOk Tryd.prog CC ybQ := by
 intro env r hF h
 obtain ⟨a0, env0, rfl, h1⟩ := yam h
 obtain ⟨rfl, h2⟩ := yav h1
 obtain ⟨r0, rr0, rfl, h3⟩ := ya3 h2
 obtain ⟨rfl, h4⟩ := ya5 h3
 exact ⟨rfl, h4 (fun a0 r0 =>  Pure Tryd.prog 11 (yax CC [.v 28] ([.d (.v 28 a0)] : List (AD KK))) (yaP (([.v 3 r0] : List (DV KK)).map (dvA CC)))) (fun a0 r0 h => yhK _ (fun a0 r0 h => h) a0 r0 h)⟩
def yb1 (a0 : yag) (r0 : Bool) : Prop :=
 cnd (a0.Kind == (0 : Int)) (cnd (a0.N == (0 : Int)) ((a0.S == ([] : Str)) = r0) (false = r0)) (cnd (a0.Kind == (1 : Int)) (cnd (a0.N == (0 : Int)) ((a0.S == ([] : Str)) = r0) (cnd (a0.N == (1 : Int)) ((a0.S == ([] : Str)) = r0) (false = r0))) (cnd (a0.Kind == (2 : Int)) ((a0.S == ([] : Str)) = r0) (cnd (a0.Kind == (3 : Int)) (cnd (a0.N == (0 : Int)) ((decide ((a0.S.length : Int) <= (64 : Int))) = r0) (false = r0)) (false = r0))))
def yd0 : Sp KK := ⟨26, [.v 25], [4], appW (K := KK) [4] [.v 25] yb1⟩
def yjv : An KK := (.s .o (.s (.s .o (.c (.s .o .o) .o)) (.s (.s .o (.c (.s .o .o) .o)) (.s (.s .o (.c (.s .o .o) .o)) (.s .o .o)))))
def yjH : Cf KK := ⟨CC, [], 50⟩
set_option maxRecDepth 100000 in
theorem yf6 : SpOk Tryd.prog CC yd0 := by
 intro env r hF h
 obtain ⟨a0, env0, rfl, h1⟩ := yam h
 obtain ⟨rfl, h2⟩ := yav h1
 obtain ⟨r0, rr0, rfl, h3⟩ := ya3 h2
 obtain ⟨rfl, h4⟩ := ya5 h3
 refine ⟨rfl, yaT (F := yjH) ybz yaU t26 (A := yjv) (ps := [.v 25]) (rs := [4]) (env := [.d (.v 25 a0)]) (r := [.v 4 r0]) (X := yb1 a0 r0) (by kernel_rfl) (Nat.le_of_ble_eq_true (by kernel_rfl)) rfl hF h4 ?_⟩
 kernel_rfl
def yiE (r0 : Int) (x4 : Bool) : Prop :=
 cnd x4 ((6 : Int) = r0) ((0 : Int) = r0)
def yiL (r0 : Int) (a0 : Int) (x3 : Bool) : Prop :=
 cnd x3 ((3 : Int) = r0) (cnd (a0 == (95 : Int)) ((4 : Int) = r0) (cnd (a0 == (39 : Int)) ((5 : Int) = r0) (∀ J4 : Bool -> Prop, (∀ (x4 : Bool), yiE r0 x4 -> J4 x4) -> cnd (a0 == (32 : Int)) (J4 true) (J4 (a0 == (10 : Int))))))
def yij (r0 : Int) (a0 : Int) (x2 : Bool) : Prop :=
 cnd x2 ((2 : Int) = r0) (∀ J3 : Bool -> Prop, (∀ (x3 : Bool), yiL r0 a0 x3 -> J3 x3) -> cnd (decide ((48 : Int) <= a0)) (J3 (decide (a0 <= (57 : Int)))) (J3 false))
def yiM (r0 : Int) (a0 : Int) (x1 : Bool) : Prop :=
 cnd x1 ((1 : Int) = r0) (∀ J2 : Bool -> Prop, (∀ (x2 : Bool), yij r0 a0 x2 -> J2 x2) -> cnd (decide ((65 : Int) <= a0)) (J2 (decide (a0 <= (90 : Int)))) (J2 false))
def ybr (a0 : Int) (r0 : Int) : Prop :=
 ∀ J1 : Bool -> Prop, (∀ (x1 : Bool), yiM r0 a0 x1 -> J1 x1) -> cnd (decide ((97 : Int) <= a0)) (J1 (decide (a0 <= (122 : Int)))) (J1 false)
def ye4 : Sp KK := ⟨33, [.v 5], [3], appW (K := KK) [3] [.v 5] ybr⟩
def yiO : An KK := (.s .o (.s (.b (.j ⟨[(0, .kp 2), (3, .bl)], [], []⟩ .o (fun _ => (.c (.s .o .o) (.j ⟨[(0, .kp 2), (10, .bl)], [], []⟩ .o (fun _ => (.c (.s .o .o) (.j ⟨[(0, .kp 2), (17, .bl)], [], []⟩ .o (fun _ => (.c (.s .o .o) (.s .o (.c (.s .o .o) (.s .o (.c (.s .o .o) (.j ⟨[(30, .bl)], [], []⟩ .o (fun _ => (.c (.s .o .o) .o))))))))))))))))) (.s .o .o)))
def yiH : Cf KK := ⟨CC, [], 37⟩
set_option maxRecDepth 100000 in
theorem yiu : SpOk Tryd.prog CC ye4 := by
 intro env r hF h
 obtain ⟨a0, env0, rfl, h1⟩ := yam h
 obtain ⟨rfl, h2⟩ := yav h1
 obtain ⟨r0, rr0, rfl, h3⟩ := ya3 h2
 obtain ⟨rfl, h4⟩ := ya5 h3
 refine ⟨rfl, yaT (F := yiH) ybz yaU t33 (A := yiO) (ps := [.v 5]) (rs := [3]) (env := [.d (.v 5 a0)]) (r := [.v 3 r0]) (X := ybr a0 r0) (by kernel_rfl) (Nat.le_of_ble_eq_true (by kernel_rfl)) rfl hF h4 ?_⟩
 kernel_rfl
def yd8 (r0 : Bool) (X2 : Int → Prop) (x2 : Int) (x4 : Bool) : Prop :=
 cnd x4 (false = r0) (X2 (IntKind.i64.wrap (x2 + (1 : Int))))
def ydW (a0 : Str) (r0 : Bool) (X2 : Int → Prop) (x2 : Int) : Prop :=
 cnd (decide (x2 < (a0.length : Int))) ((0 <= x2 /\ x2 < (a0.length : Int)) /\ ∃ z3 : Int, (ybr (bAt a0 x2) z3) /\ ∀ J3 : Bool -> Prop, (∀ (x4 : Bool), yd8 r0 X2 x2 x4 -> J3 x4) -> cnd (!(z3 == (1 : Int))) (cnd (!(z3 == (3 : Int))) (J3 (!(z3 == (4 : Int)))) (J3 false)) (J3 false)) (true = r0)
def yed (r0 : Bool) (a0 : Str) (x1 : Bool) : Prop :=
 cnd x1 (false = r0) (∀ X2 : Int -> Prop, (∀ (x2 : Int), ydW a0 r0 X2 x2 -> X2 x2) -> X2 (0 : Int))
def ybF (a0 : Str) (r0 : Bool) : Prop :=
 ∀ J1 : Bool -> Prop, (∀ (x1 : Bool), yed r0 a0 x1 -> J1 x1) -> cnd (decide ((a0.length : Int) < (1 : Int))) (J1 true) (cnd (decide ((16 : Int) < (a0.length : Int))) (J1 true) ((0 <= (0 : Int) /\ (0 : Int) < (a0.length : Int)) /\ ∃ z5 : Int, (ybr (bAt a0 (0 : Int)) z5) /\ J1 (!(z5 == (1 : Int)))))
def ya6 (X2 : Int → Prop) (r0 : Bool) (x2 : Int) (x4 : Bool) : Prop :=
 cnd x4 (false = r0) (X2 (IntKind.i64.wrap (x2 + (1 : Int))))
def ycr (a0 : Str) (r0 : Bool) (X2 : Int → Prop) (x2 : Int) : Prop :=
 cnd (decide (x2 < (a0.length : Int))) ((0 <= x2 /\ x2 < (a0.length : Int)) /\ ∃ z3 : Int, (ybr (bAt a0 x2) z3) /\ cnd (!(z3 == (1 : Int))) (cnd (!(z3 == (3 : Int))) (ya6 X2 r0 x2 (!(z3 == (4 : Int)))) (ya6 X2 r0 x2 false)) (ya6 X2 r0 x2 false)) (true = r0)
def ybg (a0 : Str) (r0 : Bool) (x1 : Bool) : Prop :=
 cnd x1 (false = r0) (∀ X2 : Int -> Prop, (∀ (x2 : Int), ycr a0 r0 X2 x2 -> X2 x2) -> X2 (0 : Int))
def yea (a0 : Str) (r0 : Bool) : Prop :=
 cnd (decide ((a0.length : Int) < (1 : Int))) (ybg a0 r0 true) (cnd (decide ((16 : Int) < (a0.length : Int))) (ybg a0 r0 true) ((0 <= (0 : Int) /\ (0 : Int) < (a0.length : Int)) /\ ∃ z5 : Int, (ybr (bAt a0 (0 : Int)) z5) /\ ybg a0 r0 (!(z5 == (1 : Int)))))
theorem yia (X2 : Int → Prop) (r0 : Bool) (x2 : Int) {x4 : Bool} (h : ya6 X2 r0 x2 x4) : yd8 r0 X2 x2 x4 := by
 unfold yd8
 unfold ya6 at h
 exact h
theorem yid (a0 : Str) (r0 : Bool) {X2 : Int → Prop} {x2 : Int} (h : ycr a0 r0 X2 x2) : ydW a0 r0 X2 x2 := by
 unfold ydW
 unfold ycr at h
 refine yai h (fun h => ?_) (fun h => ?_)
 ·obtain ⟨h0, h⟩ := h
  refine ⟨h0, ?_⟩
  obtain ⟨z3, h⟩ := h
  refine ⟨z3, ?_⟩
  obtain ⟨h0, h⟩ := h
  refine ⟨h0, ?_⟩
  intro J3 kJ3
  have hJ3 : ∀ (x4 : Bool), ya6 X2 r0 x2 x4 -> J3 x4 := fun x4 q => kJ3 x4 (yia X2 r0 x2 q)
  refine yai h (fun h => ?_) (fun h => ?_)
  ·refine yai h (fun h => ?_) (fun h => ?_)
   ·exact hJ3 _ h
   ·exact hJ3 _ h
  ·exact hJ3 _ h
 ·exact h
theorem yhL (a0 : Str) (r0 : Bool) {x1 : Bool} (h : ybg a0 r0 x1) : yed r0 a0 x1 := by
 unfold yed
 unfold ybg at h
 refine yai h (fun h => ?_) (fun h => ?_)
 ·exact h
 ·intro X2 k
  exact h X2 (fun x2 q => k x2 (yid a0 r0 q))
theorem ykM (a0 : Str) (r0 : Bool) (h : yea a0 r0) : ybF a0 r0 := by
 unfold ybF
 unfold yea at h
 intro J1 kJ1
 have hJ1 : ∀ (x1 : Bool), ybg a0 r0 x1 -> J1 x1 := fun x1 q => kJ1 x1 (yhL a0 r0 q)
 refine yai h (fun h => ?_) (fun h => ?_)
 ·exact hJ1 _ h
 ·refine yai h (fun h => ?_) (fun h => ?_)
  ·exact hJ1 _ h
  ·obtain ⟨h0, h⟩ := h
   refine ⟨h0, ?_⟩
   obtain ⟨z5, h⟩ := h
   refine ⟨z5, ?_⟩
   obtain ⟨h0, h⟩ := h
   refine ⟨h0, ?_⟩
   exact hJ1 _ h
def yfX : Sp KK := ⟨27, [.v 9], [4], appW (K := KK) [4] [.v 9] ybF⟩
def yjD : An KK := (.s .o (.s (.j ⟨[(0, .kp 2), (18, .bl)], [], []⟩ .o (fun _ => (.c (.s .o .o) .o))) (.s (.s .o (.b (.l ⟨[(0, .kp 2), (3, .it .i64)], [], []⟩ (fun _ => (.s (.s .o (.c .o .o)) (.s (.b (.s .o (.j ⟨[(0, .kp 2), (3, .kp 12), (38, .bl)], [], []⟩ .o (fun _ => (.c (.s .o .o) .o))))) .o)))))) (.s .o .o))))
def yj8 : Cf KK := ⟨CC, [ye4], 39⟩
set_option maxRecDepth 100000 in
theorem yjC : SpOk Tryd.prog CC yfX := by
 intro env r hF h
 obtain ⟨a0, env0, rfl, h1⟩ := yam h
 obtain ⟨rfl, h2⟩ := yav h1
 obtain ⟨r0, rr0, rfl, h3⟩ := ya3 h2
 obtain ⟨rfl, h4⟩ := ya5 h3
 refine ⟨rfl, yaT (F := yj8) ybz (yaw yiu yaU) t27 (A := yjD) (ps := [.v 9]) (rs := [4]) (env := [.d (.v 9 a0)]) (r := [.v 4 r0]) (X := ybF a0 r0) (by kernel_rfl) (Nat.le_of_ble_eq_true (by kernel_rfl)) rfl hF h4 ?_⟩
 kernel_rfl
def yk6 (r0 : Bool) (X1 : Int → Prop) (x1 : Int) (x2 : Bool) : Prop :=
 cnd x2 (false = r0) (X1 (IntKind.i64.wrap (x1 + (1 : Int))))
def ykz (r0 : Bool) (x6 : Bool) : Prop :=
 x6 = r0
def ykN (r0 : Bool) (x8 : Bool) : Prop :=
 x8 = r0
def ykO (r0 : Bool) (x13 : Bool) : Prop :=
 x13 = r0
def yg7 (a0 : yaa) (r0 : Bool) (a1 : Bool) (x12 : Bool) : Prop :=
 cnd x12 ((a0.L.length <= maxLen -> cnd ((a0.L.length : Int) == (1 : Int)) ((a0.Op == (0 : Int)) = r0) (false = r0))) (cnd (a0.Kind == (8 : Int)) (∀ J7 : Bool -> Prop, (∀ (x13 : Bool), ykO r0 x13 -> J7 x13) -> cnd (!a1) (cnd (decide ((1 : Int) <= a0.Op)) (cnd (decide (a0.Op <= (4 : Int))) ((a0.L.length <= maxLen -> cnd ((a0.L.length : Int) == (1 : Int)) (J7 true) ((a0.L.length <= maxLen -> cnd ((a0.L.length : Int) == (0 : Int)) (J7 (a0.Op == (1 : Int))) (J7 false))))) (J7 false)) (J7 false)) (J7 false)) (false = r0))
def yg9 (r0 : Bool) (a0 : yaa) (a1 : Bool) (x11 : Bool) : Prop :=
 cnd x11 (false = r0) (cnd (a0.Kind == (3 : Int)) ((a0.L.length <= maxLen -> cnd ((a0.L.length : Int) == (2 : Int)) (cnd (decide ((1 : Int) <= a0.Op)) ((decide (a0.Op <= (14 : Int))) = r0) (false = r0)) (false = r0))) (∀ J6 : Bool -> Prop, (∀ (x12 : Bool), yg7 a0 r0 a1 x12 -> J6 x12) -> cnd (a0.Kind == (4 : Int)) (J6 (a0.Kind == (4 : Int))) (cnd (a0.Kind == (5 : Int)) (J6 (a0.Kind == (5 : Int))) (cnd (a0.Kind == (6 : Int)) (J6 (a0.Kind == (6 : Int))) (J6 (a0.Kind == (7 : Int)))))))
def ygZ (a0 : yaa) (r0 : Bool) (a1 : Bool) (Xr : yaa → Bool → Bool → Prop) (X1 : Int → Prop) (x1 : Int) : Prop :=
 (a0.L.length <= maxLen -> cnd (decide (x1 < (a0.L.length : Int))) (∀ J2 : Bool -> Prop, (∀ (x2 : Bool), yk6 r0 X1 x1 x2 -> J2 x2) -> (0 <= x1) /\ (x1 < (a0.L.length : Int)) /\ ∃ y3 : yaa, (a0.L[x1.toNat]? = some y3) /\ cnd a1 (∃ z4 : Bool, (Xr (yaa.mk y3.Kind y3.Op (⟨y3.V.Kind, y3.V.N, y3.V.S⟩ : yag) y3.Table y3.Name y3.L) true z4) /\ J2 (!z4)) (∃ z5 : Bool, (Xr (yaa.mk y3.Kind y3.Op (⟨y3.V.Kind, y3.V.N, y3.V.S⟩ : yag) y3.Table y3.Name y3.L) (a0.Kind == (8 : Int)) z5) /\ J2 (!z5))) (cnd (a0.Kind == (1 : Int)) (∀ J3 : Bool -> Prop, (∀ (x6 : Bool), ykz r0 x6 -> J3 x6) -> (a0.L.length <= maxLen -> cnd ((a0.L.length : Int) == (0 : Int)) (cnd (a0.Op == (0 : Int)) (cnd (a0.Table == ([] : Str)) (cnd (a0.Name == ([] : Str)) (∃ z7 : Bool, (yb1 (⟨a0.V.Kind, a0.V.N, a0.V.S⟩ : yag) z7) /\ cnd z7 (cnd (!(a0.V.Kind == (2 : Int))) (J3 true) (J3 (decide ((0 : Int) <= a0.V.N)))) (J3 false)) (J3 false)) (J3 false)) (J3 false)) (J3 false))) (cnd (a0.Kind == (2 : Int)) (∀ J4 : Bool -> Prop, (∀ (x8 : Bool), ykN r0 x8 -> J4 x8) -> (a0.L.length <= maxLen -> cnd ((a0.L.length : Int) == (0 : Int)) (cnd (a0.Op == (0 : Int)) (cnd ((a0.V.Kind == (0 : Int)) && ((a0.V.N == (0 : Int)) && ((a0.V.S == ([] : Str)) && true))) (∃ z9 : Bool, (ybF a0.Name z9) /\ cnd z9 (cnd (a0.Table == ([] : Str)) (J4 true) (∃ z10 : Bool, (ybF a0.Table z10) /\ J4 z10)) (J4 false)) (J4 false)) (J4 false)) (J4 false))) (∀ J5 : Bool -> Prop, (∀ (x11 : Bool), yg9 r0 a0 a1 x11 -> J5 x11) -> cnd (!((a0.V.Kind == (0 : Int)) && ((a0.V.N == (0 : Int)) && ((a0.V.S == ([] : Str)) && true)))) (J5 true) (cnd (!(a0.Table == ([] : Str))) (J5 true) (J5 (!(a0.Name == ([] : Str)))))))))
def yfw (Xr : yaa → Bool → Bool → Prop) (a0 : yaa) (a1 : Bool) (r0 : Bool) : Prop :=
 ∀ X1 : Int -> Prop, (∀ (x1 : Int), ygZ a0 r0 a1 Xr X1 x1 -> X1 x1) -> X1 (0 : Int)
def yfm (a0 : yaa) (a1 : Bool) (r0 : Bool) : Prop := ∀ Xr : yaa -> Bool -> Bool -> Prop, (∀ (a0 : yaa) (a1 : Bool) (r0 : Bool), yfw Xr a0 a1 r0 -> Xr a0 a1 r0) -> Xr a0 a1 r0
def ygV : Sp KK := ⟨18, [.v 28, .v 4], [4], appW (K := KK) [4] [.v 28, .v 4] yfm⟩
def yku : An KK := (.s .o (.s .o (.s (.s .o (.b (.l ⟨[(1, .kp 18), (2, .px 2 0), (5, .px 5 0), (6, .it .i64)], [(2, 28, [.kp 20, .kp 21, .kp 22, .kp 23, .kp 24, .kp 25, .kp 26, .kp 27]), (5, 25, [.kp 28, .kp 29, .kp 30])], []⟩ (fun _ => (.s (.s .o (.c .o .o)) (.s (.b (.j ⟨[(1, .kp 18), (2, .px 2 0), (5, .px 5 0), (6, .kp 34), (27, .bl)], [(2, 28, [.kp 20, .kp 21, .kp 22, .kp 23, .kp 24, .kp 25, .kp 26, .kp 27]), (5, 25, [.kp 28, .kp 29, .kp 30])], []⟩ .o (fun _ => (.c (.s .o .o) .o)))) .o)))))) (.s (.s .o (.b (.s .o (.c (.j ⟨[(4, .bl)], [], []⟩ .o (fun _ => .o)) (.s .o (.c (.j ⟨[(4, .bl)], [], []⟩ .o (fun _ => .o)) .o)))))) (.s (.j ⟨[(1, .kp 18), (2, .px 2 0), (113, .bl)], [(2, 28, [.kp 20, .kp 21, .kp 22, .kp 23, .kp 24, .kp 25, .kp 26, .kp 27])], []⟩ .o (fun _ => (.c (.s .o .o) .o))) (.s (.s .o (.b (.s .o (.c (.s .o .o) (.j ⟨[(1, .kp 18), (2, .px 2 0), (115, .kp 20), (132, .bl)], [(2, 28, [.kp 20, .kp 21, .kp 22, .kp 23, .kp 24, .kp 25, .kp 26, .kp 27])], []⟩ (.s .o (.c .o (.s .o (.c .o (.s .o (.c .o .o)))))) (fun _ => (.c (.s .o .o) (.s .o (.c (.j ⟨[(4, .bl)], [], []⟩ .o (fun _ => .o)) .o))))))))) (.s .o .o)))))))
def ykj (Xr : WTy KK [4] [.v 28, .v 4]) : Cf KK := ⟨CC, [⟨18, [.v 28, .v 4], [4], appW (K := KK) [4] [.v 28, .v 4] Xr⟩, yd0, yfX], 177⟩
set_option maxRecDepth 100000 in
theorem yjQ (Xr : yaa → Bool → Bool → Prop) (hX : ∀ (a0 : yaa) (a1 : Bool) (r0 : Bool), Xr a0 a1 r0 → Pure Tryd.prog 18 (yax CC [.v 28, .v 4] ([.d (.v 28 a0), .d (.v 4 a1)] : List (AD KK))) (yaP (([.v 4 r0] : List (DV KK)).map (dvA CC)))) : ∀ (a0 : yaa) (a1 : Bool) (r0 : Bool), yfw Xr a0 a1 r0 → Pure Tryd.prog 18 (yax CC [.v 28, .v 4] ([.d (.v 28 a0), .d (.v 4 a1)] : List (AD KK))) (yaP (([.v 4 r0] : List (DV KK)).map (dvA CC))) := by
 intro a0 a1 r0 h
 refine yaT (F := ykj Xr) ybz (yaw ?_ (yaw yf6 (yaw yjC yaU))) t18 (A := yku) (ps := [.v 28, .v 4]) (rs := [4]) (env := [.d (.v 28 a0), .d (.v 4 a1)]) (r := [.v 4 r0]) (X := yfw Xr a0 a1 r0) (by kernel_rfl) (Nat.le_of_ble_eq_true (by kernel_rfl)) rfl (fun G hG => by simp at hG) h ?_
 ·clear h r0
  intro env r hF h
  obtain ⟨a0, env0, rfl, h1⟩ := yam h
  obtain ⟨a1, env1, rfl, h2⟩ := yam h1
  obtain ⟨rfl, h3⟩ := yav h2
  obtain ⟨r0, rr0, rfl, h4⟩ := ya3 h3
  obtain ⟨rfl, h5⟩ := ya5 h4
  exact ⟨rfl, hX a0 a1 r0 h5⟩
 ·kernel_rfl
set_option maxRecDepth 100000 in
theorem ykA : SpOk Tryd.prog CC ygV := by
 intro env r hF h
 obtain ⟨a0, env0, rfl, h1⟩ := yam h
 obtain ⟨a1, env1, rfl, h2⟩ := yam h1
 obtain ⟨rfl, h3⟩ := yav h2
 obtain ⟨r0, rr0, rfl, h4⟩ := ya3 h3
 obtain ⟨rfl, h5⟩ := ya5 h4
 exact ⟨rfl, h5 (fun a0 a1 r0 =>  Pure Tryd.prog 18 (yax CC [.v 28, .v 4] ([.d (.v 28 a0), .d (.v 4 a1)] : List (AD KK))) (yaP (([.v 4 r0] : List (DV KK)).map (dvA CC)))) (fun a0 a1 r0 h => yjQ _ (fun a0 a1 r0 h => h) a0 a1 r0 h)⟩
def ycz (a0 : yaa) (r0 : Bool) : Prop :=
 ∃ z1 : Int, (yb7 (yaa.mk a0.Kind a0.Op (⟨a0.V.Kind, a0.V.N, a0.V.S⟩ : yag) a0.Table a0.Name a0.L) z1) /\ cnd (decide (z1 <= (20 : Int))) (∃ z2 : Bool, (yfm (yaa.mk a0.Kind a0.Op (⟨a0.V.Kind, a0.V.N, a0.V.S⟩ : yag) a0.Table a0.Name a0.L) false z2) /\ z2 = r0) (false = r0)
def ycR : Sp KK := ⟨7, [.v 28], [4], appW (K := KK) [4] [.v 28] ycz⟩
def yjI : An KK := (.s .o (.s .o .o))
def yj0 : Cf KK := ⟨CC, [ybQ, ygV], 10⟩
set_option maxRecDepth 100000 in
theorem yjB : SpOk Tryd.prog CC ycR := by
 intro env r hF h
 obtain ⟨a0, env0, rfl, h1⟩ := yam h
 obtain ⟨rfl, h2⟩ := yav h1
 obtain ⟨r0, rr0, rfl, h3⟩ := ya3 h2
 obtain ⟨rfl, h4⟩ := ya5 h3
 refine ⟨rfl, yaT (F := yj0) ybz (yaw yfc (yaw ykA yaU)) t7 (A := yjI) (ps := [.v 28]) (rs := [4]) (env := [.d (.v 28 a0)]) (r := [.v 4 r0]) (X := ycz a0 r0) (by kernel_rfl) (Nat.le_of_ble_eq_true (by kernel_rfl)) rfl hF h4 ?_⟩
 kernel_rfl
def yeq (x3 : Str) (x2 : Int) (x1 : Str) (r0 : Str) (X2 : Int → Str → Prop) (x4 : Int) : Prop :=
 ((([IntKind.u8.wrap (IntKind.i64.wrap ((48 : Int) + x4))] : List Int).map toB).length + x3.length <= 9223372036854775807) /\ cnd ((IntKind.i64.wrap (x2.tdiv (10 : Int))) == (0 : Int)) ((x1.length + ((([IntKind.u8.wrap (IntKind.i64.wrap ((48 : Int) + x4))] : List Int).map toB) ++ x3).length <= 9223372036854775807) /\ (x1 ++ ((([IntKind.u8.wrap (IntKind.i64.wrap ((48 : Int) + x4))] : List Int).map toB) ++ x3)) = r0) (X2 (IntKind.i64.wrap (x2.tdiv (10 : Int))) ((([IntKind.u8.wrap (IntKind.i64.wrap ((48 : Int) + x4))] : List Int).map toB) ++ x3))
def yhX (x1 : Str) (r0 : Str) (X2 : Int → Str → Prop) (x2 : Int) (x3 : Str) : Prop :=
 ∀ J3 : Int -> Prop, (∀ (x4 : Int), yeq x3 x2 x1 r0 X2 x4 -> J3 x4) -> cnd (decide ((x2.tmod (10 : Int)) < (0 : Int))) (J3 (IntKind.i64.wrap (0 - (x2.tmod (10 : Int))))) (J3 (x2.tmod (10 : Int)))
def yeu (r0 : Str) (a0 : Int) (x1 : Str) : Prop :=
 ∀ X2 : Int -> Str -> Prop, (∀ (x2 : Int) (x3 : Str), yhX x1 r0 X2 x2 x3 -> X2 x2 x3) -> X2 a0 ([] : Str)
def ycs (a0 : Int) (r0 : Str) : Prop :=
 ∀ J1 : Str -> Prop, (∀ (x1 : Str), yeu r0 a0 x1 -> J1 x1) -> cnd (decide (a0 < (0 : Int))) (J1 ([45] : Str)) (J1 ([] : Str))
def yep : Sp KK := ⟨28, [.v 2], [9], appW (K := KK) [9] [.v 2] ycs⟩
def yh9 : An KK := (.s .o (.s .o (.j ⟨[(0, .kp 1), (3, .st), (4, .kp 2)], [], []⟩ (.s .o (.c .o .o)) (fun _ => (.b (.l ⟨[(0, .it .i64), (3, .kp 3), (4, .st)], [], []⟩ (fun _ => (.b (.s .o (.j ⟨[(0, .kp 6), (3, .kp 3), (4, .kp 7), (5, .it .i64)], [], []⟩ (.s .o (.c .o .o)) (fun _ => (.s .o (.s .o (.s .o (.c (.s .o .o) .o)))))))))))))))
def yig : Cf KK := ⟨CC, [], 28⟩
set_option maxRecDepth 100000 in
theorem yhW : SpOk Tryd.prog CC yep := by
 intro env r hF h
 obtain ⟨a0, env0, rfl, h1⟩ := yam h
 obtain ⟨rfl, h2⟩ := yav h1
 obtain ⟨r0, rr0, rfl, h3⟩ := ya3 h2
 obtain ⟨rfl, h4⟩ := ya5 h3
 refine ⟨rfl, yaT (F := yig) ybz yaU t28 (A := yh9) (ps := [.v 2]) (rs := [9]) (env := [.d (.v 2 a0)]) (r := [.v 9 r0]) (X := ycs a0 r0) (by kernel_rfl) (Nat.le_of_ble_eq_true (by kernel_rfl)) rfl hF h4 ?_⟩
 kernel_rfl
def ygb (a0 : yag) (r0 : Str) (X3 : Str → Int → Prop) (x4 : Str) (x5 : Int) : Prop :=
 cnd (decide (x5 < (a0.S.length : Int))) ((0 <= x5 /\ x5 <= (IntKind.i64.wrap (x5 + (1 : Int))) /\ (IntKind.i64.wrap (x5 + (1 : Int))) <= (a0.S.length : Int)) /\ (x4.length + ((a0.S.drop x5.toNat).take ((IntKind.i64.wrap (x5 + (1 : Int))).toNat - x5.toNat)).length <= 9223372036854775807) /\ (0 <= x5 /\ x5 < (a0.S.length : Int)) /\ cnd ((bAt a0.S x5) == (39 : Int)) (((x4 ++ ((a0.S.drop x5.toNat).take ((IntKind.i64.wrap (x5 + (1 : Int))).toNat - x5.toNat))).length + ([39] : Str).length <= 9223372036854775807) /\ X3 ((x4 ++ ((a0.S.drop x5.toNat).take ((IntKind.i64.wrap (x5 + (1 : Int))).toNat - x5.toNat))) ++ ([39] : Str)) (IntKind.i64.wrap (x5 + (1 : Int)))) (X3 (x4 ++ ((a0.S.drop x5.toNat).take ((IntKind.i64.wrap (x5 + (1 : Int))).toNat - x5.toNat))) (IntKind.i64.wrap (x5 + (1 : Int))))) ((x4.length + ([39] : Str).length <= 9223372036854775807) /\ (x4 ++ ([39] : Str)) = r0)
def yjO (r0 : Str) (a0 : yag) (x2 : Bool) : Prop :=
 cnd x2 (([84, 82, 85, 69] : Str) = r0) (cnd (a0.Kind == (1 : Int)) (([70, 65, 76, 83, 69] : Str) = r0) (cnd (a0.Kind == (2 : Int)) (∃ z3 : Str, (ycs a0.N z3) /\ z3 = r0) (∀ X3 : Str -> Int -> Prop, (∀ (x4 : Str) (x5 : Int), ygb a0 r0 X3 x4 x5 -> X3 x4 x5) -> X3 ([39] : Str) (0 : Int))))
def yjG (r0 : Str) (a0 : yag) (x1 : Bool) : Prop :=
 cnd x1 (([78, 85, 76, 76] : Str) = r0) (∀ J2 : Bool -> Prop, (∀ (x2 : Bool), yjO r0 a0 x2 -> J2 x2) -> cnd (a0.Kind == (1 : Int)) (J2 (a0.N == (1 : Int))) (J2 false))
def ydd (a0 : yag) (r0 : Str) : Prop :=
 ∀ J1 : Bool -> Prop, (∀ (x1 : Bool), yjG r0 a0 x1 -> J1 x1) -> ∃ z6 : Bool, (yb1 a0 z6) /\ cnd (!z6) (J1 true) (J1 (a0.Kind == (0 : Int)))
def ygl : Sp KK := ⟨19, [.v 25], [9], appW (K := KK) [9] [.v 25] ydd⟩
def yjW : An KK := (.s .o (.s (.j ⟨[(1, .px 1 0), (12, .bl)], [(1, 25, [.kp 4, .kp 5, .kp 6])], []⟩ .o (fun _ => (.c (.s .o .o) .o))) (.s (.j ⟨[(1, .px 1 0), (20, .bl)], [(1, 25, [.kp 4, .kp 5, .kp 6])], []⟩ .o (fun _ => (.c (.s .o .o) .o))) (.s (.s .o (.c (.s .o .o) .o)) (.s (.s .o (.c (.s .o .o) .o)) (.s .o (.s (.s .o (.b (.l ⟨[(1, .px 1 0), (3, .st), (4, .it .i64)], [(1, 25, [.kp 4, .kp 5, .kp 6])], []⟩ (fun _ => (.s (.s .o (.c .o .o)) (.s (.b (.s .o (.s .o (.c .o .o)))) .o)))))) (.s .o .o))))))))
def yj6 : Cf KK := ⟨CC, [yd0, yep], 54⟩
set_option maxRecDepth 100000 in
theorem yjZ : SpOk Tryd.prog CC ygl := by
 intro env r hF h
 obtain ⟨a0, env0, rfl, h1⟩ := yam h
 obtain ⟨rfl, h2⟩ := yav h1
 obtain ⟨r0, rr0, rfl, h3⟩ := ya3 h2
 obtain ⟨rfl, h4⟩ := ya5 h3
 refine ⟨rfl, yaT (F := yj6) ybz (yaw yf6 (yaw yhW yaU)) t19 (A := yjW) (ps := [.v 25]) (rs := [9]) (env := [.d (.v 25 a0)]) (r := [.v 9 r0]) (X := ydd a0 r0) (by kernel_rfl) (Nat.le_of_ble_eq_true (by kernel_rfl)) rfl hF h4 ?_⟩
 kernel_rfl
def ycJ (a0 : Int) (r0 : Str) : Prop :=
 (0 <= a0) /\ (a0 < (([([] : Str), ([61] : Str), ([60, 62] : Str), ([60] : Str), ([60, 61] : Str), ([62] : Str), ([62, 61] : Str), ([43] : Str), ([45] : Str), ([42] : Str), ([47] : Str), ([37] : Str), ([124, 124] : Str), ([65, 78, 68] : Str), ([79, 82] : Str)] : List Str).length : Int)) /\ ∃ y1 : Str, (([([] : Str), ([61] : Str), ([60, 62] : Str), ([60] : Str), ([60, 61] : Str), ([62] : Str), ([62, 61] : Str), ([43] : Str), ([45] : Str), ([42] : Str), ([47] : Str), ([37] : Str), ([124, 124] : Str), ([65, 78, 68] : Str), ([79, 82] : Str)] : List Str)[a0.toNat]? = some y1) /\ y1 = r0
def ydI : Sp KK := ⟨20, [.v 3], [9], appW (K := KK) [9] [.v 3] ycJ⟩
def ygo : An KK := (.s .o (.s .o (.s .o .o)))
def ygx : Cf KK := ⟨CC, [], 9⟩
set_option maxRecDepth 100000 in
theorem ygC : SpOk Tryd.prog CC ydI := by
 intro env r hF h
 obtain ⟨a0, env0, rfl, h1⟩ := yam h
 obtain ⟨rfl, h2⟩ := yav h1
 obtain ⟨r0, rr0, rfl, h3⟩ := ya3 h2
 obtain ⟨rfl, h4⟩ := ya5 h3
 refine ⟨rfl, yaT (F := ygx) ybz yaU t20 (A := ygo) (ps := [.v 3]) (rs := [9]) (env := [.d (.v 3 a0)]) (r := [.v 9 r0]) (X := ycJ a0 r0) (by kernel_rfl) (Nat.le_of_ble_eq_true (by kernel_rfl)) rfl hF h4 ?_⟩
 kernel_rfl
def yeH (Xr : yaa → Str → Prop) (a0 : yaa) (r0 : Str) : Prop :=
 cnd (a0.Kind == (1 : Int)) (∃ z1 : Str, (ydd (⟨a0.V.Kind, a0.V.N, a0.V.S⟩ : yag) z1) /\ z1 = r0) (cnd (a0.Kind == (2 : Int)) (cnd (a0.Table == ([] : Str)) (a0.Name = r0) ((a0.Table.length + ([46] : Str).length <= 9223372036854775807) /\ ((a0.Table ++ ([46] : Str)).length + a0.Name.length <= 9223372036854775807) /\ ((a0.Table ++ ([46] : Str)) ++ a0.Name) = r0)) (cnd (a0.Kind == (3 : Int)) ((0 <= (0 : Int)) /\ ((0 : Int) < (a0.L.length : Int)) /\ ∃ y2 : yaa, (a0.L[(0 : Int).toNat]? = some y2) /\ ∃ z3 : Str, (Xr (yaa.mk y2.Kind y2.Op (⟨y2.V.Kind, y2.V.N, y2.V.S⟩ : yag) y2.Table y2.Name y2.L) z3) /\ (([40] : Str).length + z3.length <= 9223372036854775807) /\ ((([40] : Str) ++ z3).length + ([32] : Str).length <= 9223372036854775807) /\ ∃ z4 : Str, (ycJ a0.Op z4) /\ (((([40] : Str) ++ z3) ++ ([32] : Str)).length + z4.length <= 9223372036854775807) /\ ((((([40] : Str) ++ z3) ++ ([32] : Str)) ++ z4).length + ([32] : Str).length <= 9223372036854775807) /\ (0 <= (1 : Int)) /\ ((1 : Int) < (a0.L.length : Int)) /\ ∃ y5 : yaa, (a0.L[(1 : Int).toNat]? = some y5) /\ ∃ z6 : Str, (Xr (yaa.mk y5.Kind y5.Op (⟨y5.V.Kind, y5.V.N, y5.V.S⟩ : yag) y5.Table y5.Name y5.L) z6) /\ (((((([40] : Str) ++ z3) ++ ([32] : Str)) ++ z4) ++ ([32] : Str)).length + z6.length <= 9223372036854775807) /\ ((((((([40] : Str) ++ z3) ++ ([32] : Str)) ++ z4) ++ ([32] : Str)) ++ z6).length + ([41] : Str).length <= 9223372036854775807) /\ ((((((([40] : Str) ++ z3) ++ ([32] : Str)) ++ z4) ++ ([32] : Str)) ++ z6) ++ ([41] : Str)) = r0) (cnd (a0.Kind == (4 : Int)) ((0 <= (0 : Int)) /\ ((0 : Int) < (a0.L.length : Int)) /\ ∃ y7 : yaa, (a0.L[(0 : Int).toNat]? = some y7) /\ ∃ z8 : Str, (Xr (yaa.mk y7.Kind y7.Op (⟨y7.V.Kind, y7.V.N, y7.V.S⟩ : yag) y7.Table y7.Name y7.L) z8) /\ (([40, 78, 79, 84, 32] : Str).length + z8.length <= 9223372036854775807) /\ ((([40, 78, 79, 84, 32] : Str) ++ z8).length + ([41] : Str).length <= 9223372036854775807) /\ ((([40, 78, 79, 84, 32] : Str) ++ z8) ++ ([41] : Str)) = r0) (cnd (a0.Kind == (5 : Int)) ((0 <= (0 : Int)) /\ ((0 : Int) < (a0.L.length : Int)) /\ ∃ y9 : yaa, (a0.L[(0 : Int).toNat]? = some y9) /\ ∃ z10 : Str, (Xr (yaa.mk y9.Kind y9.Op (⟨y9.V.Kind, y9.V.N, y9.V.S⟩ : yag) y9.Table y9.Name y9.L) z10) /\ (([40, 45, 32] : Str).length + z10.length <= 9223372036854775807) /\ ((([40, 45, 32] : Str) ++ z10).length + ([41] : Str).length <= 9223372036854775807) /\ ((([40, 45, 32] : Str) ++ z10) ++ ([41] : Str)) = r0) (cnd (a0.Kind == (6 : Int)) ((0 <= (0 : Int)) /\ ((0 : Int) < (a0.L.length : Int)) /\ ∃ y11 : yaa, (a0.L[(0 : Int).toNat]? = some y11) /\ ∃ z12 : Str, (Xr (yaa.mk y11.Kind y11.Op (⟨y11.V.Kind, y11.V.N, y11.V.S⟩ : yag) y11.Table y11.Name y11.L) z12) /\ (([40] : Str).length + z12.length <= 9223372036854775807) /\ ((([40] : Str) ++ z12).length + ([32, 73, 83, 32, 78, 85, 76, 76, 41] : Str).length <= 9223372036854775807) /\ ((([40] : Str) ++ z12) ++ ([32, 73, 83, 32, 78, 85, 76, 76, 41] : Str)) = r0) (cnd (a0.Kind == (7 : Int)) ((0 <= (0 : Int)) /\ ((0 : Int) < (a0.L.length : Int)) /\ ∃ y13 : yaa, (a0.L[(0 : Int).toNat]? = some y13) /\ ∃ z14 : Str, (Xr (yaa.mk y13.Kind y13.Op (⟨y13.V.Kind, y13.V.N, y13.V.S⟩ : yag) y13.Table y13.Name y13.L) z14) /\ (([40] : Str).length + z14.length <= 9223372036854775807) /\ ((([40] : Str) ++ z14).length + ([32, 73, 83, 32, 78, 79, 84, 32, 78, 85, 76, 76, 41] : Str).length <= 9223372036854775807) /\ ((([40] : Str) ++ z14) ++ ([32, 73, 83, 32, 78, 79, 84, 32, 78, 85, 76, 76, 41] : Str)) = r0) ((a0.L.length <= maxLen -> cnd ((a0.L.length : Int) == (0 : Int)) ((0 <= a0.Op) /\ (a0.Op < (([([] : Str), ([67, 79, 85, 78, 84] : Str), ([83, 85, 77] : Str), ([77, 73, 78] : Str), ([77, 65, 88] : Str)] : List Str).length : Int)) /\ ∃ y15 : Str, (([([] : Str), ([67, 79, 85, 78, 84] : Str), ([83, 85, 77] : Str), ([77, 73, 78] : Str), ([77, 65, 88] : Str)] : List Str)[a0.Op.toNat]? = some y15) /\ (y15.length + ([40, 42, 41] : Str).length <= 9223372036854775807) /\ (y15 ++ ([40, 42, 41] : Str)) = r0) ((0 <= a0.Op) /\ (a0.Op < (([([] : Str), ([67, 79, 85, 78, 84] : Str), ([83, 85, 77] : Str), ([77, 73, 78] : Str), ([77, 65, 88] : Str)] : List Str).length : Int)) /\ ∃ y16 : Str, (([([] : Str), ([67, 79, 85, 78, 84] : Str), ([83, 85, 77] : Str), ([77, 73, 78] : Str), ([77, 65, 88] : Str)] : List Str)[a0.Op.toNat]? = some y16) /\ (y16.length + ([40] : Str).length <= 9223372036854775807) /\ (0 <= (0 : Int)) /\ ((0 : Int) < (a0.L.length : Int)) /\ ∃ y17 : yaa, (a0.L[(0 : Int).toNat]? = some y17) /\ ∃ z18 : Str, (Xr (yaa.mk y17.Kind y17.Op (⟨y17.V.Kind, y17.V.N, y17.V.S⟩ : yag) y17.Table y17.Name y17.L) z18) /\ ((y16 ++ ([40] : Str)).length + z18.length <= 9223372036854775807) /\ (((y16 ++ ([40] : Str)) ++ z18).length + ([41] : Str).length <= 9223372036854775807) /\ (((y16 ++ ([40] : Str)) ++ z18) ++ ([41] : Str)) = r0)))))))))
def ycv (a0 : yaa) (r0 : Str) : Prop := ∀ Xr : yaa -> Str -> Prop, (∀ (a0 : yaa) (r0 : Str), yeH Xr a0 r0 -> Xr a0 r0) -> Xr a0 r0
def ycV : Sp KK := ⟨8, [.v 28], [9], appW (K := KK) [9] [.v 28] ycv⟩
def yjl : An KK := (.s .o (.s (.s .o (.b (.s .o (.c (.s .o .o) (.s .o (.c (.s (.s .o (.c (.s .o .o) .o)) (.s .o .o)) (.s .o (.c (.s .o .o) (.s .o (.c (.s .o .o) (.s .o (.c (.s .o .o) (.s .o (.c (.s .o .o) (.s .o (.c (.s .o .o) .o)))))))))))))))) (.s .o (.s (.s .o (.c (.s .o .o) .o)) (.s .o .o)))))
def yjp (Xr : WTy KK [9] [.v 28]) : Cf KK := ⟨CC, [⟨8, [.v 28], [9], appW (K := KK) [9] [.v 28] Xr⟩, ygl, ydI], 105⟩
set_option maxRecDepth 100000 in
theorem yir (Xr : yaa → Str → Prop) (hX : ∀ (a0 : yaa) (r0 : Str), Xr a0 r0 → Pure Tryd.prog 8 (yax CC [.v 28] ([.d (.v 28 a0)] : List (AD KK))) (yaP (([.v 9 r0] : List (DV KK)).map (dvA CC)))) : ∀ (a0 : yaa) (r0 : Str), yeH Xr a0 r0 → Pure Tryd.prog 8 (yax CC [.v 28] ([.d (.v 28 a0)] : List (AD KK))) (yaP (([.v 9 r0] : List (DV KK)).map (dvA CC))) := by
 intro a0 r0 h
 refine yaT (F := yjp Xr) ybz (yaw ?_ (yaw yjZ (yaw ygC yaU))) t8 (A := yjl) (ps := [.v 28]) (rs := [9]) (env := [.d (.v 28 a0)]) (r := [.v 9 r0]) (X := yeH Xr a0 r0) (by kernel_rfl) (Nat.le_of_ble_eq_true (by kernel_rfl)) rfl (fun G hG => by simp at hG) h ?_
 ·clear h r0
  intro env r hF h
  obtain ⟨a0, env0, rfl, h1⟩ := yam h
  obtain ⟨rfl, h2⟩ := yav h1
  obtain ⟨r0, rr0, rfl, h3⟩ := ya3 h2
  obtain ⟨rfl, h4⟩ := ya5 h3
  exact ⟨rfl, hX a0 r0 h4⟩
 ·kernel_rfl
set_option maxRecDepth 100000 in
theorem yje : SpOk Tryd.prog CC ycV := by
 intro env r hF h
 obtain ⟨a0, env0, rfl, h1⟩ := yam h
 obtain ⟨rfl, h2⟩ := yav h1
 obtain ⟨r0, rr0, rfl, h3⟩ := ya3 h2
 obtain ⟨rfl, h4⟩ := ya5 h3
 exact ⟨rfl, h4 (fun a0 r0 =>  Pure Tryd.prog 8 (yax CC [.v 28] ([.d (.v 28 a0)] : List (AD KK))) (yaP (([.v 9 r0] : List (DV KK)).map (dvA CC)))) (fun a0 r0 h => yir _ (fun a0 r0 h => h) a0 r0 h)⟩
def yd4 (a0 : yaa) (a1 : yaa) (Xr : yaa → yaa → Bool → Prop) (r0 : Bool) (X2 : Int → Prop) (x2 : Int) : Prop :=
 (a0.L.length <= maxLen -> cnd (decide (x2 < (a0.L.length : Int))) ((0 <= x2) /\ (x2 < (a0.L.length : Int)) /\ ∃ y3 : yaa, (a0.L[x2.toNat]? = some y3) /\ (0 <= x2) /\ (x2 < (a1.L.length : Int)) /\ ∃ y4 : yaa, (a1.L[x2.toNat]? = some y4) /\ ∃ z5 : Bool, (Xr (yaa.mk y3.Kind y3.Op (⟨y3.V.Kind, y3.V.N, y3.V.S⟩ : yag) y3.Table y3.Name y3.L) (yaa.mk y4.Kind y4.Op (⟨y4.V.Kind, y4.V.N, y4.V.S⟩ : yag) y4.Table y4.Name y4.L) z5) /\ cnd (!z5) (false = r0) (X2 (IntKind.i64.wrap (x2 + (1 : Int))))) (true = r0))
def yd7 (r0 : Bool) (a0 : yaa) (a1 : yaa) (Xr : yaa → yaa → Bool → Prop) (x1 : Bool) : Prop :=
 cnd x1 (false = r0) (∀ X2 : Int -> Prop, (∀ (x2 : Int), yd4 a0 a1 Xr r0 X2 x2 -> X2 x2) -> X2 (0 : Int))
def ycG (Xr : yaa → yaa → Bool → Prop) (a0 : yaa) (a1 : yaa) (r0 : Bool) : Prop :=
 ∀ J1 : Bool -> Prop, (∀ (x1 : Bool), yd7 r0 a0 a1 Xr x1 -> J1 x1) -> cnd (!(a0.Kind == a1.Kind)) (J1 true) (cnd (!(a0.Op == a1.Op)) (J1 true) (cnd (!((a0.V.Kind == a1.V.Kind) && ((a0.V.N == a1.V.N) && ((a0.V.S == a1.V.S) && true)))) (J1 true) (cnd (!(a0.Table == a1.Table)) (J1 true) (cnd (!(a0.Name == a1.Name)) (J1 true) ((a0.L.length <= maxLen -> (a1.L.length <= maxLen -> J1 (!((a0.L.length : Int) == (a1.L.length : Int))))))))))
def ydg (a0 : yaa) (a1 : yaa) (r0 : Bool) : Prop := ∀ Xr : yaa -> yaa -> Bool -> Prop, (∀ (a0 : yaa) (a1 : yaa) (r0 : Bool), ycG Xr a0 a1 r0 -> Xr a0 a1 r0) -> Xr a0 a1 r0
def ydv (Xr : yaa → yaa → Bool → Prop) (a0 : yaa) (a1 : yaa) (r0 : Bool) (X2 : Int → Prop) (x2 : Int) : Prop :=
 (a0.L.length <= maxLen -> cnd (decide (x2 < (a0.L.length : Int))) ((0 <= x2) /\ (x2 < (a0.L.length : Int)) /\ ∃ y3 : yaa, (a0.L[x2.toNat]? = some y3) /\ (0 <= x2) /\ (x2 < (a1.L.length : Int)) /\ ∃ y4 : yaa, (a1.L[x2.toNat]? = some y4) /\ ∃ z5 : Bool, (Xr (yaa.mk y3.Kind y3.Op (⟨y3.V.Kind, y3.V.N, y3.V.S⟩ : yag) y3.Table y3.Name y3.L) (yaa.mk y4.Kind y4.Op (⟨y4.V.Kind, y4.V.N, y4.V.S⟩ : yag) y4.Table y4.Name y4.L) z5) /\ cnd (!z5) (false = r0) (X2 (IntKind.i64.wrap (x2 + (1 : Int))))) (true = r0))
def yaD (Xr : yaa → yaa → Bool → Prop) (a0 : yaa) (a1 : yaa) (r0 : Bool) (x1 : Bool) : Prop :=
 cnd x1 (false = r0) (∀ X2 : Int -> Prop, (∀ (x2 : Int), ydv Xr a0 a1 r0 X2 x2 -> X2 x2) -> X2 (0 : Int))
def yfZ (Xr : yaa → yaa → Bool → Prop) (a0 : yaa) (a1 : yaa) (r0 : Bool) : Prop :=
 cnd (!(a0.Kind == a1.Kind)) (yaD Xr a0 a1 r0 true) (cnd (!(a0.Op == a1.Op)) (yaD Xr a0 a1 r0 true) (cnd (!((a0.V.Kind == a1.V.Kind) && ((a0.V.N == a1.V.N) && ((a0.V.S == a1.V.S) && true)))) (yaD Xr a0 a1 r0 true) (cnd (!(a0.Table == a1.Table)) (yaD Xr a0 a1 r0 true) (cnd (!(a0.Name == a1.Name)) (yaD Xr a0 a1 r0 true) ((a0.L.length <= maxLen -> (a1.L.length <= maxLen -> yaD Xr a0 a1 r0 (!((a0.L.length : Int) == (a1.L.length : Int))))))))))
theorem yhE (Xr : yaa → yaa → Bool → Prop) (a0 : yaa) (a1 : yaa) (r0 : Bool) {X2 : Int → Prop} {x2 : Int} (h : ydv Xr a0 a1 r0 X2 x2) : yd4 a0 a1 Xr r0 X2 x2 := by
 unfold yd4
 unfold ydv at h
 exact h
theorem yh8 (Xr : yaa → yaa → Bool → Prop) (a0 : yaa) (a1 : yaa) (r0 : Bool) {x1 : Bool} (h : yaD Xr a0 a1 r0 x1) : yd7 r0 a0 a1 Xr x1 := by
 unfold yd7
 unfold yaD at h
 refine yai h (fun h => ?_) (fun h => ?_)
 ·exact h
 ·intro X2 k
  exact h X2 (fun x2 q => k x2 (yhE Xr a0 a1 r0 q))
theorem yjn (Xr : yaa → yaa → Bool → Prop) (a0 : yaa) (a1 : yaa) (r0 : Bool) (h : yfZ Xr a0 a1 r0) : ycG Xr a0 a1 r0 := by
 unfold ycG
 unfold yfZ at h
 intro J1 kJ1
 have hJ1 : ∀ (x1 : Bool), yaD Xr a0 a1 r0 x1 -> J1 x1 := fun x1 q => kJ1 x1 (yh8 Xr a0 a1 r0 q)
 refine yai h (fun h => ?_) (fun h => ?_)
 ·exact hJ1 _ h
 ·refine yai h (fun h => ?_) (fun h => ?_)
  ·exact hJ1 _ h
  ·refine yai h (fun h => ?_) (fun h => ?_)
   ·exact hJ1 _ h
   ·refine yai h (fun h => ?_) (fun h => ?_)
    ·exact hJ1 _ h
    ·refine yai h (fun h => ?_) (fun h => ?_)
     ·exact hJ1 _ h
     ·intro c
      replace h := h c
      intro c
      replace h := h c
      exact hJ1 _ h
def ycT : Sp KK := ⟨14, [.v 28, .v 28], [4], appW (K := KK) [4] [.v 28, .v 28] ydg⟩
def yj2 : An KK := (.s .o (.s (.j ⟨[(2, .px 2 0), (3, .px 3 0), (47, .bl)], [(2, 28, [.kp 17, .kp 18, .kp 19, .kp 20, .kp 21, .kp 22, .kp 23, .kp 24]), (3, 28, [.kp 25, .kp 26, .kp 27, .kp 28, .kp 29, .kp 30, .kp 31, .kp 32])], []⟩ .o (fun _ => (.c (.s .o .o) .o))) (.s (.s .o (.b (.l ⟨[(2, .px 2 0), (3, .px 3 0), (5, .it .i64)], [(2, 28, [.kp 17, .kp 18, .kp 19, .kp 20, .kp 21, .kp 22, .kp 23, .kp 24]), (3, 28, [.kp 25, .kp 26, .kp 27, .kp 28, .kp 29, .kp 30, .kp 31, .kp 32])], []⟩ (fun _ => (.s (.s .o (.c .o .o)) (.s (.b (.s .o (.c (.s .o .o) .o))) .o)))))) (.s .o .o))))
def yjV (Xr : WTy KK [4] [.v 28, .v 28]) : Cf KK := ⟨CC, [⟨14, [.v 28, .v 28], [4], appW (K := KK) [4] [.v 28, .v 28] Xr⟩], 67⟩
set_option maxRecDepth 100000 in
theorem yiC (Xr : yaa → yaa → Bool → Prop) (hX : ∀ (a0 : yaa) (a1 : yaa) (r0 : Bool), Xr a0 a1 r0 → Pure Tryd.prog 14 (yax CC [.v 28, .v 28] ([.d (.v 28 a0), .d (.v 28 a1)] : List (AD KK))) (yaP (([.v 4 r0] : List (DV KK)).map (dvA CC)))) : ∀ (a0 : yaa) (a1 : yaa) (r0 : Bool), ycG Xr a0 a1 r0 → Pure Tryd.prog 14 (yax CC [.v 28, .v 28] ([.d (.v 28 a0), .d (.v 28 a1)] : List (AD KK))) (yaP (([.v 4 r0] : List (DV KK)).map (dvA CC))) := by
 intro a0 a1 r0 h
 refine yaT (F := yjV Xr) ybz (yaw ?_ yaU) t14 (A := yj2) (ps := [.v 28, .v 28]) (rs := [4]) (env := [.d (.v 28 a0), .d (.v 28 a1)]) (r := [.v 4 r0]) (X := ycG Xr a0 a1 r0) (by kernel_rfl) (Nat.le_of_ble_eq_true (by kernel_rfl)) rfl (fun G hG => by simp at hG) h ?_
 ·clear h r0
  intro env r hF h
  obtain ⟨a0, env0, rfl, h1⟩ := yam h
  obtain ⟨a1, env1, rfl, h2⟩ := yam h1
  obtain ⟨rfl, h3⟩ := yav h2
  obtain ⟨r0, rr0, rfl, h4⟩ := ya3 h3
  obtain ⟨rfl, h5⟩ := ya5 h4
  exact ⟨rfl, hX a0 a1 r0 h5⟩
 ·kernel_rfl
set_option maxRecDepth 100000 in
theorem yjT : SpOk Tryd.prog CC ycT := by
 intro env r hF h
 obtain ⟨a0, env0, rfl, h1⟩ := yam h
 obtain ⟨a1, env1, rfl, h2⟩ := yam h1
 obtain ⟨rfl, h3⟩ := yav h2
 obtain ⟨r0, rr0, rfl, h4⟩ := ya3 h3
 obtain ⟨rfl, h5⟩ := ya5 h4
 exact ⟨rfl, h5 (fun a0 a1 r0 =>  Pure Tryd.prog 14 (yax CC [.v 28, .v 28] ([.d (.v 28 a0), .d (.v 28 a1)] : List (AD KK))) (yaP (([.v 4 r0] : List (DV KK)).map (dvA CC)))) (fun a0 a1 r0 h => yiC _ (fun a0 a1 r0 h => h) a0 a1 r0 h)⟩
def ydt (a0 : yaa) (Xr : yaa → (List yaa) → Prop) (r0 : (List yaa)) (X1 : Int → (List yaa) → Prop) (x1 : Int) (x2 : (List yaa)) : Prop :=
 (a0.L.length <= maxLen -> cnd (decide (x1 < (a0.L.length : Int))) ((0 <= x1) /\ (x1 < (a0.L.length : Int)) /\ ∃ y3 : yaa, (a0.L[x1.toNat]? = some y3) /\ ∃ z4 : (List yaa), (Xr (yaa.mk y3.Kind y3.Op (⟨y3.V.Kind, y3.V.N, y3.V.S⟩ : yag) y3.Table y3.Name y3.L) z4) /\ (x2.length <= 1000000000) /\ (z4.length <= 400000000) /\ X1 (IntKind.i64.wrap (x1 + (1 : Int))) (x2 ++ z4)) (x2 = r0))
def yb9 (Xr : yaa → (List yaa) → Prop) (a0 : yaa) (r0 : (List yaa)) : Prop :=
 ∀ X1 : Int -> (List yaa) -> Prop, (∀ (x1 : Int) (x2 : (List yaa)), ydt a0 Xr r0 X1 x1 x2 -> X1 x1 x2) -> X1 (0 : Int) ([(yaa.mk a0.Kind a0.Op (⟨a0.V.Kind, a0.V.N, a0.V.S⟩ : yag) a0.Table a0.Name a0.L)] : List yaa)
def ycQ (a0 : yaa) (r0 : (List yaa)) : Prop := ∀ Xr : yaa -> (List yaa) -> Prop, (∀ (a0 : yaa) (r0 : (List yaa)), yb9 Xr a0 r0 -> Xr a0 r0) -> Xr a0 r0
def yc5 (Xr : yaa → (List yaa) → Prop) (a0 : yaa) (r0 : (List yaa)) (X1 : Int → (List yaa) → Prop) (x1 : Int) (x2 : (List yaa)) : Prop :=
 (a0.L.length <= maxLen -> cnd (decide (x1 < (a0.L.length : Int))) ((0 <= x1) /\ (x1 < (a0.L.length : Int)) /\ ∃ y3 : yaa, (a0.L[x1.toNat]? = some y3) /\ ∃ z4 : (List yaa), (Xr (yaa.mk y3.Kind y3.Op (⟨y3.V.Kind, y3.V.N, y3.V.S⟩ : yag) y3.Table y3.Name y3.L) z4) /\ (x2.length <= 1000000000) /\ (z4.length <= 400000000) /\ X1 (IntKind.i64.wrap (x1 + (1 : Int))) (x2 ++ z4)) (x2 = r0))
def yfb (Xr : yaa → (List yaa) → Prop) (a0 : yaa) (r0 : (List yaa)) : Prop :=
 ∀ X1 : Int -> (List yaa) -> Prop, (∀ (x1 : Int) (x2 : (List yaa)), yc5 Xr a0 r0 X1 x1 x2 -> X1 x1 x2) -> X1 (0 : Int) ([(yaa.mk a0.Kind a0.Op (⟨a0.V.Kind, a0.V.N, a0.V.S⟩ : yag) a0.Table a0.Name a0.L)] : List yaa)
theorem yhg (Xr : yaa → (List yaa) → Prop) (a0 : yaa) (r0 : (List yaa)) {X1 : Int → (List yaa) → Prop} {x1 : Int} {x2 : (List yaa)} (h : yc5 Xr a0 r0 X1 x1 x2) : ydt a0 Xr r0 X1 x1 x2 := by
 unfold ydt
 unfold yc5 at h
 exact h
theorem yiK (Xr : yaa → (List yaa) → Prop) (a0 : yaa) (r0 : (List yaa)) (h : yfb Xr a0 r0) : yb9 Xr a0 r0 := by
 unfold yb9
 unfold yfb at h
 intro X1 k
 exact h X1 (fun x1 x2 q => k x1 x2 (yhg Xr a0 r0 q))
def ycp : Sp KK := ⟨15, [.v 28], [26], appW (K := KK) [26] [.v 28] ycQ⟩
def yiG : An KK := (.s .o (.s .o (.s (.s .o (.b (.l ⟨[(1, .px 1 0), (3, .row 6), (4, .it .i64)], [(1, 28, [.kp 11, .kp 12, .kp 13, .kp 14, .kp 15, .kp 16, .kp 17, .kp 18])], [(6, 28)]⟩ (fun _ => (.s (.s .o (.c .o .o)) (.s (.b .o) .o)))))) (.s .o .o))))
def yiD (Xr : WTy KK [26] [.v 28]) : Cf KK := ⟨CC, [⟨15, [.v 28], [26], appW (K := KK) [26] [.v 28] Xr⟩], 23⟩
set_option maxRecDepth 100000 in
theorem yih (Xr : yaa → (List yaa) → Prop) (hX : ∀ (a0 : yaa) (r0 : (List yaa)), Xr a0 r0 → Pure Tryd.prog 15 (yax CC [.v 28] ([.d (.v 28 a0)] : List (AD KK))) (yaP (([.v 26 r0] : List (DV KK)).map (dvA CC)))) : ∀ (a0 : yaa) (r0 : (List yaa)), yb9 Xr a0 r0 → Pure Tryd.prog 15 (yax CC [.v 28] ([.d (.v 28 a0)] : List (AD KK))) (yaP (([.v 26 r0] : List (DV KK)).map (dvA CC))) := by
 intro a0 r0 h
 refine yaT (F := yiD Xr) ybz (yaw ?_ yaU) t15 (A := yiG) (ps := [.v 28]) (rs := [26]) (env := [.d (.v 28 a0)]) (r := [.v 26 r0]) (X := yb9 Xr a0 r0) (by kernel_rfl) (Nat.le_of_ble_eq_true (by kernel_rfl)) rfl (fun G hG => by simp at hG) h ?_
 ·clear h r0
  intro env r hF h
  obtain ⟨a0, env0, rfl, h1⟩ := yam h
  obtain ⟨rfl, h2⟩ := yav h1
  obtain ⟨r0, rr0, rfl, h3⟩ := ya3 h2
  obtain ⟨rfl, h4⟩ := ya5 h3
  exact ⟨rfl, hX a0 r0 h4⟩
 ·kernel_rfl
set_option maxRecDepth 100000 in
theorem yiv : SpOk Tryd.prog CC ycp := by
 intro env r hF h
 obtain ⟨a0, env0, rfl, h1⟩ := yam h
 obtain ⟨rfl, h2⟩ := yav h1
 obtain ⟨r0, rr0, rfl, h3⟩ := ya3 h2
 obtain ⟨rfl, h4⟩ := ya5 h3
 exact ⟨rfl, h4 (fun a0 r0 =>  Pure Tryd.prog 15 (yax CC [.v 28] ([.d (.v 28 a0)] : List (AD KK))) (yaP (([.v 26 r0] : List (DV KK)).map (dvA CC)))) (fun a0 r0 h => yih _ (fun a0 r0 h => h) a0 r0 h)⟩
end Go.Proofs.YtoiojmpkifgimaaDoor
end
noncomputable section
namespace Go.Proofs.YtoiojmpkifgimaaDoor
open Go.AV Go.RowKit
abbrev V := yae
def Rg (n : Int) : Prop := -9223372036854775808 <= n /\ n <= 9223372036854775807
def good (v : V) : Prop := (v.Kind = 0 /\ v.N = 0 /\ v.S = []) ∨ (v.Kind = 1 /\ (v.N = 0 ∨ v.N = 1) /\ v.S = []) ∨ (v.Kind = 2 /\ Rg v.N /\ v.S = []) ∨ (v.Kind = 3 /\ v.N = 0 /\ v.S.length <= 64)
def D0 : V := ⟨0, 0, []⟩
def bV (b : Bool) : V := ⟨1, if b then 1 else 0, []⟩
def eqV (a b : V) : Bool := (a.Kind == b.Kind) && ((a.N == b.N) && ((a.S == b.S) && true))
theorem ygQ {a b : V} : eqV a b = true ↔ a = b := by
 cases a; cases b; simp [eqV]
theorem ytK (v : V) : ya2 v (v.Kind == 0) := by
 unfold ya2; grind [cnd]
theorem yqB (b : Bool) : ybP b (bV b) := by
 unfold ybP; cases b <;> simp [cnd, bV]
theorem yr9 (n : Int) : ybJ n ⟨2, n, []⟩ := by unfold ybJ; rfl
theorem ytw (v : V) : ya1 v (eqV v (bV true)) := ⟨_, yqB true, rfl⟩
theorem yl7 {s : Str} {i : Nat} (h : i < s.length) : bAt s (i : Int) = (s[i].toNat : Int) := by
 unfold bAt
 rw [Int.toNat_natCast, List.getElem?_eq_getElem h]; rfl
theorem ytE {a : V} (h : good a) : Rg a.N := by
 unfold good at h; unfold Rg at *
 rcases h with h | h | h | h <;> omega
theorem ysD {a : V} (h : good a) : a.S.length ≤ 64 := by
 unfold good at h
 rcases h with h | h | h | h
 ·rw [h.2.2]; simp
 ·rw [h.2.2]; simp
 ·rw [h.2.2]; simp
 ·exact h.2.2
def yd6 (v : V) : Bool := if v.Kind = 0 then eqV v D0 else if v.Kind = 1 then (v.N == 0 || v.N == 1) && v.S == [] else if v.Kind = 2 then v.S == [] else if v.Kind = 3 then v.N == 0 && decide ((v.S.length : Int) <= 64) else false
theorem ypM (v : V) : yaH v (yd6 v) := by
 unfold yaH
 have e : ((v.Kind == 0) && ((v.N == 0) && ((v.S == ([] : Str)) && true))) = eqV v D0 := rfl
 rw [e]
 unfold yd6
 generalize eqV v D0 = z
 refine ⟨fun c => ?_, fun c => ⟨fun c1 => ?_, fun c1 => ⟨fun c2 => ?_, fun c2 => ⟨fun c3 => ?_, fun c3 => ?_⟩⟩⟩⟩ <;> simp only [beq_iff_eq, beq_eq_false_iff_ne, ne_eq] at * <;> grind [cnd]
def ydc (v : V) : Str := if !yd6 v || v.Kind == 0 then [78, 85, 76, 76] else if eqV v (bV true) then [84, 82, 85, 69] else if v.Kind = 1 then [70, 65, 76, 83, 69] else if v.Kind = 2 then Go.Lib.itoa v.N else [39] ++ Go.Lib.replaceAll v.S [39] [39, 39] ++ [39]
theorem ytU {v : V} (hr : Rg v.N) (hl : (Go.Lib.replaceAll v.S [39] [39, 39]).length ≤ 100000) (hs : v.S.length ≤ 1000) : yaG v (ydc v) := by
 apply yfK
 simp only [ybX, yaM]
 have g := ypM v
 have n := ytK v
 have t := ytw v
 unfold Rg at hr
 have f : yaQ v.N 10 (Go.Lib.itoa v.N) := ⟨rfl, hr.1, hr.2, rfl⟩
 have r : yaL v.S [39] [39, 39] (Go.Lib.replaceAll v.S [39] [39, 39]) := ⟨by omega, by simp, by simp, rfl⟩
 have tail : ∀ b : Bool, (b = true → (!yd6 v || v.Kind == 0) = true) → (b = false → (!yd6 v || v.Kind == 0) = false) → cnd b (([78, 85, 76, 76] : Str) = ydc v) (∃ z2 : Bool, (ya1 v z2) ∧ cnd z2 (([84, 82, 85, 69] : Str) = ydc v) (cnd (v.Kind == (1 : Int)) (([70, 65, 76, 83, 69] : Str) = ydc v) (cnd (v.Kind == (2 : Int)) (∃ z3 : Str, (yaQ v.N (10 : Int) z3) ∧ z3 = ydc v) (∃ z4 : Str, (yaL v.S ([39] : Str) ([39, 39] : Str) z4) ∧ (([39] : Str).length + z4.length ≤ 9223372036854775807) ∧ ((([39] : Str) ++ z4).length + ([39] : Str).length ≤ 9223372036854775807) ∧ ((([39] : Str) ++ z4) ++ ([39] : Str)) = ydc v)))) := by
  intro b h1 h2
  refine ⟨fun e => ?_, fun e => ⟨_, t, fun c => ?_, fun c => ⟨fun c1 => ?_, fun c1 => ⟨fun c2 => ⟨_, f, ?_⟩, fun c2 => ⟨_, r, ?_, ?_, ?_⟩⟩⟩⟩⟩
  ·unfold ydc; rw [if_pos (h1 e)]
  ·unfold ydc; rw [h2 e, if_neg (by simp), if_pos c]
  ·have c1 : v.Kind = 1 := by simpa using c1
   unfold ydc; rw [h2 e, if_neg (by simp), c, if_neg (by simp), if_pos c1]
  ·have c1 : ¬ v.Kind = 1 := by simpa using c1
   have c2 : v.Kind = 2 := by simpa using c2
   unfold ydc; rw [h2 e, if_neg (by simp), c, if_neg (by simp), if_neg c1, if_pos c2]
  ·simp; omega
  ·simp; omega
  ·have c1 : ¬ v.Kind = 1 := by simpa using c1
   have c2 : ¬ v.Kind = 2 := by simpa using c2
   unfold ydc; rw [h2 e, if_neg (by simp), c, if_neg (by simp), if_neg c1, if_neg c2]
 refine ⟨_, g, fun c => ?_, fun c => ⟨_, n, ?_⟩⟩
 ·exact tail true (fun _ => by rw [c]; rfl) (fun q => (by cases q))
 ·exact tail _ (fun q => by rw [q]; simp) (fun q => by rw [q, c]; rfl)
def dq (s : Str) : Str := s.flatMap fun c => if c = 39 then [39, 39] else [c]
theorem ymZ (s : Str) : (dq s).length ≤ 2 * s.length := by
 induction s with
 | nil => simp [dq]
 | cons c s ih =>
   have : (dq (c :: s)).length = (if c = 39 then [39, 39] else [c]).length + (dq s).length := by simp [dq]
   rw [this]; split <;> simp <;> omega
theorem yoT (a b : Str) : dq (a ++ b) = dq a ++ dq b := by simp [dq]
theorem ytk {s : Str} (h : ∀ c ∈ s, c ≠ 39) : dq s = s := by
 induction s with
 | nil => rfl
 | cons c s ih =>
   have e : dq (c :: s) = (if c = 39 then [39, 39] else [c]) ++ dq s := rfl
   rw [e, if_neg (h c (by simp)), ih fun d hd => h d (List.mem_cons_of_mem _ hd)]; rfl
theorem yrH (s : Str) (j : Nat) : Go.Lib.occAt s [39] j = true ↔ s[j]? = some 39 := by
 unfold Go.Lib.occAt
 by_cases h : j < s.length
 ·rw [List.drop_eq_getElem_cons h, List.getElem?_eq_getElem h]
  simp [List.isPrefixOf]
  exact eq_comm
 ·rw [List.drop_of_length_le (by omega), List.getElem?_eq_none (by omega)]; simp
theorem ytq : ∀ (n : Nat) (s : Str), s.length ≤ n → Go.Lib.replaceK [39] [39, 39] (Go.Lib.count s [39]) s = dq s := by
 intro n
 induction n with
 | zero =>
   intro s hs
   have : s = [] := List.eq_nil_of_length_eq_zero (by omega)
   subst this; rfl
 | succ n ih =>
   intro s hs
   rcases Go.Lib.index_spec s [39] with ⟨h1, h2⟩ | ⟨i, h1, h2, h3, h4⟩
   ·have hc : Go.Lib.count s [39] = 0 := by
     unfold Go.Lib.count Go.Lib.countFrom
     rw [h1]; rfl
    rw [hc]
    have : ∀ c ∈ s, c ≠ 39 := by
     intro c hm e
     subst e
     obtain ⟨j, hj⟩ := List.getElem?_of_mem hm
     have hlt : j < s.length := (List.getElem?_eq_some_iff.1 hj).1
     have := h2 j (by omega)
     rw [(yrH s j).2 hj] at this; cases this
    rw [ytk this]; rfl
   ·have hi := (yrH s i).1 h3
    have hlt : i < s.length := (List.getElem?_eq_some_iff.1 hi).1
    have hc : Go.Lib.count s [39] = Go.Lib.count (s.drop (i + 1)) [39] + 1 := by
     rw [Go.Lib.count_hit (by simp) h1, Nat.add_comm]; rfl
    rw [hc, Go.Lib.replaceK_hit _ _ _ _ i h1]
    show s.take i ++ [39, 39] ++ Go.Lib.replaceK [39] [39, 39] (Go.Lib.count (s.drop (i + 1)) [39]) (s.drop (i + 1)) = dq s
    rw [ih (s.drop (i + 1)) (by rw [List.length_drop]; omega)]
    have hs' : s = s.take i ++ ([39] ++ s.drop (i + 1)) := by
     have e1 : s[i] = 39 := by rw [List.getElem?_eq_getElem hlt] at hi; exact Option.some.inj hi
     have := List.drop_eq_getElem_cons hlt
     rw [e1] at this
     conv => lhs; rw [<- List.take_append_drop i s, this]
     rfl
    have hd : dq s = dq (s.take i) ++ ([39, 39] ++ dq (s.drop (i + 1))) := by
     conv => lhs; rw [hs', yoT, yoT]
     rfl
    have ht : dq (s.take i) = s.take i := by
     refine ytk fun c hm e => ?_
     subst e
     obtain ⟨j, hj⟩ := List.getElem?_of_mem hm
     have hlt' : j < (s.take i).length := (List.getElem?_eq_some_iff.1 hj).1
     rw [List.length_take] at hlt'
     rw [List.getElem?_take, if_pos (by omega)] at hj
     have := h4 j (by omega)
     rw [(yrH s j).2 hj] at this; cases this
    rw [hd, ht, List.append_assoc]
theorem yo7 (s : Str) : Go.Lib.replaceAll s [39] [39, 39] = dq s := by
 unfold Go.Lib.replaceAll Go.Lib.replace Go.Lib.replaceNum
 rw [if_neg (by decide), if_pos (.inl (by omega))]
 exact ytq _ _ (Nat.le_refl _)
theorem w1 {i : Nat} (h : i < 1000000000) : IntKind.i64.wrap ((i : Int) + 1) = ((i + 1 : Nat) : Int) := by rw [wrap64 (by omega) (by omega)]; omega
theorem gAt {α : Type} {l : List α} {i : Nat} (h : i < l.length) : l[((i : Nat) : Int).toNat]? = some l[i] := by rw [Int.toNat_natCast]; exact List.getElem?_eq_getElem h
theorem yne {v : V} (hr : Rg v.N) (h : yd6 v = true) : good v := by
 unfold yd6 at h
 unfold good
 split at h
 ·rename_i k
  have := ygQ.1 h
  rw [this]; exact .inl ⟨rfl, rfl, rfl⟩
 ·split at h
  ·rename_i k
   simp at h; exact .inr (.inl ⟨k, h.1, h.2⟩)
  ·split at h
   ·rename_i k; simp at h; exact .inr (.inr (.inl ⟨k, hr, h⟩))
   ·split at h
    ·rename_i k; simp at h; exact .inr (.inr (.inr ⟨k, h.1, by omega⟩))
    ·cases h
end Go.Proofs.YtoiojmpkifgimaaDoor
end
noncomputable section
namespace Go.Proofs.YtoiojmpkifgimaaDoor
open Go.AV Go.RowKit
abbrev E6 := yaa
abbrev X := yab
theorem yeo (x : E6) : yaa.mk x.Kind x.Op (⟨x.V.Kind, x.V.N, x.V.S⟩ : yag) x.Table x.Name x.L = x := by cases x; rfl
theorem ybM (x : X) : yab.mk x.Kind x.Op (⟨x.V.Kind, x.V.N, x.V.S⟩ : yae) x.Table x.Name x.L = x := by cases x; rfl
mutual
def dep : E6 → Nat
 | .mk _ _ _ _ _ L => 1 + deps L
def deps : List E6 → Nat
 | [] => 0
 | x :: r => max (dep x) (deps r)
end
theorem yjj (x : E6) : ∀ (l : List E6), deps (l ++ [x]) = max (deps l) (dep x)
 | [] => by simp [deps]
 | y :: l => by simp only [List.cons_append, deps, yjj x l]; omega
theorem ykT (m : E6) : dep m = 1 + deps m.L := by cases m; simp [dep, yaa.L]
theorem ymD {x : E6} : ∀ {l : List E6}, x ∈ l → dep x ≤ deps l
 | y :: l, h => by
   simp only [deps]
   rcases List.mem_cons.1 h with rfl | h
   ·omega
   ·have := ymD h; omega
inductive WF : E6 → Prop
 | mk (m : E6) (h : m.L.length <= 3) (hn : Rg m.V.N) (hs : ∀ y ∈ m.L, WF y) : WF m
mutual
def told : E6 → X
 | .mk k o v t n L => .mk k o ⟨v.Kind, v.N, v.S⟩ t n (ylR L)
def ylR : List E6 → List X
 | [] => []
 | x :: r => told x :: ylR r
end
theorem ykI : ∀ l : List E6, ylR l = l.map told
 | [] => rfl
 | x :: r => by simp [ylR, ykI r]
theorem yef (m : E6) : told m = .mk m.Kind m.Op ⟨m.V.Kind, m.V.N, m.V.S⟩ m.Table m.Name (m.L.map told) := by
 cases m; simp only [told, ykI]; rfl
theorem ypb {m : E6} (h : WF m) : ydm m (told m) := by
 induction h with
 | mk m h hn hs ih =>
   intro Xr hXr
   apply hXr
   apply yjb
   refine lp2 (fun (i : Int) out => 0 <= i /\ i <= m.L.length /\ out = (m.L.map told).take i.toNat) (fun (i : Int) _ => m.L.length - i.toNat) ?_ ⟨by omega, by omega, rfl⟩
   intro X1 i out ⟨h0, h1, h2⟩ hX hlen
   subst h2
   refine ⟨fun hlt => ?_, fun hge => ?_⟩
   ·have hlt : i < m.L.length := by simpa using hlt
    have hi : i.toNat < m.L.length := by omega
    have hi' : i.toNat < (m.L.map told).length := by simpa using hi
    refine ⟨h0, hlt, m.L[i.toNat], by simp [hi], told m.L[i.toNat], ?_, by simp; omega, ?_⟩
    ·rw [yeo]; exact ih _ (List.getElem_mem hi) Xr hXr
    ·rw [wrap64 (by omega) (by omega), ybM]
     refine hX _ _ ⟨by omega, by omega, ?_⟩ (by omega)
     have e1 : (i + 1).toNat = i.toNat + 1 := by omega
     rw [e1, List.take_succ_eq_append_getElem hi', List.getElem_map]
   ·have hge : ¬ i < m.L.length := by simpa using hge
    have : (m.L.map told).take i.toNat = m.L.map told := List.take_of_length_le (by simp; omega)
    rw [this, yef]
abbrev Pt := yac
def PtOk (p : Pt) : Prop := 0 <= p.Kind /\ p.Kind <= 255 /\ 0 <= p.Op /\ p.Op <= 255 /\ 0 <= p.Value /\ p.Value <= 255 /\ 0 <= p.Parts /\ p.Parts <= 255 /\ Rg p.N
theorem tm {a b : Int} (h : 0 <= a) : a.tmod b = a % b := Int.tmod_eq_emod_of_nonneg h
theorem bc10 (y : Pt) (hy : PtOk y) : ∃ x3 x4 x5, Rg x4 ∧ ∀ Xr l a d r0 r1, yap Xr l a d r0 r1 y x3 x4 x5 → cnd (y.Kind.tmod 10 == 1) (yay Xr l a d r0 r1 y true) (yay Xr l a d r0 r1 y (decide (250 ≤ y.Kind))) := by
 have hn : Rg y.N := hy.2.2.2.2.2.2.2.2
 have h0 : Rg 0 := by unfold Rg; omega
 have h1 : Rg (bits .and .i64 y.N 1) := by rw [ypi]; unfold Rg; omega
 by_cases c : y.Kind.tmod 10 = 1 ∨ 250 <= y.Kind
 ·have go : ∀ x3 x4 x5, (∀ Xr l a d r0 r1, yap Xr l a d r0 r1 y x3 x4 x5 → yay Xr l a d r0 r1 y true) → Rg x4 → ∃ x3 x4 x5, Rg x4 ∧ ∀ Xr l a d r0 r1, yap Xr l a d r0 r1 y x3 x4 x5 → cnd (y.Kind.tmod 10 == 1) (yay Xr l a d r0 r1 y true) (yay Xr l a d r0 r1 y (decide (250 ≤ y.Kind))) := by
   intro x3 x4 x5 h hr
   refine ⟨x3, x4, x5, hr, fun Xr l a d r0 r1 q => ?_⟩
   have := h Xr l a d r0 r1 q
   grind [cnd]
  by_cases k1 : IntKind.i64.wrap (y.Value.tmod 5) = 1
  ·refine go _ _ _ (fun Xr l a d r0 r1 q => ⟨fun _ => ⟨fun _ => q, fun e => absurd k1 (by simpa using e)⟩, fun e => (by cases e)⟩) h1
  by_cases k2 : IntKind.i64.wrap (y.Value.tmod 5) = 2
  ·refine go _ _ _ (fun Xr l a d r0 r1 q => ⟨fun _ => ⟨fun e => absurd (by simpa using e) k1, fun _ => ⟨fun _ => q, fun e => absurd k2 (by simpa using e)⟩⟩, fun e => (by cases e)⟩) hn
  by_cases k3 : IntKind.i64.wrap (y.Value.tmod 5) = 3
  ·refine go _ _ _ (fun Xr l a d r0 r1 q => ⟨fun _ => ⟨fun e => absurd (by simpa using e) k1, fun _ => ⟨fun e => absurd (by simpa using e) k2, fun _ => ⟨fun _ => ⟨?_, q⟩, fun e => absurd k3 (by simpa using e)⟩⟩⟩, fun e => (by cases e)⟩) h0
   split <;> omega
  ·refine go _ _ _ (fun Xr l a d r0 r1 q => ⟨fun _ => ⟨fun e => absurd (by simpa using e) k1, fun _ => ⟨fun e => absurd (by simpa using e) k2, fun _ => ⟨fun e => absurd (by simpa using e) k3, fun _ => q⟩⟩⟩, fun e => (by cases e)⟩) h0
 ·refine ⟨0, 0, [], h0, fun Xr l a d r0 r1 q => ⟨fun e => absurd (.inl (by simpa using e)) c, fun _ => ⟨fun e => absurd (.inr (by simpa using e)) c, fun _ => q⟩⟩⟩
theorem bc9 (y : Pt) : ∃ x6 x7, ∀ Xr l a d r0 r1 x3 x4 x5, yaK Xr l a d r0 r1 x3 x4 x5 y x6 x7 → yap Xr l a d r0 r1 y x3 x4 x5 := by
 by_cases c : y.Kind.tmod 10 = 2 ∨ 250 <= y.Kind
 ·refine ⟨((y.Table.drop (0 : Int).toNat).take ((if (20 : Int) < (y.Table.length : Int) then (20 : Int) else (y.Table.length : Int)).toNat - (0 : Int).toNat)), ((y.Name.drop (0 : Int).toNat).take ((if (20 : Int) < (y.Name.length : Int) then (20 : Int) else (y.Name.length : Int)).toNat - (0 : Int).toNat)), fun Xr l a d r0 r1 x3 x4 x5 q => ?_⟩
  have h : ybk Xr l a d r0 r1 x3 x4 x5 y true := ⟨fun _ => ⟨by split <;> omega, by split <;> omega, q⟩, fun e => (by cases e)⟩
  simp only [yap]
  grind [cnd]
 ·refine ⟨[], [], fun Xr l a d r0 r1 x3 x4 x5 q => ⟨fun e => absurd (.inl (by simpa using e)) c, fun _ => ⟨fun e => absurd (.inr (by simpa using e)) c, fun _ => q⟩⟩⟩
theorem bc3 (y : Pt) (hy : PtOk y) : ∃ x8 x9, 0 ≤ x8 ∧ x8 ≤ 3 ∧ ∀ Xr l a d r0 r1 x3 x4 x5 x6 x7, yar Xr l a d r0 r1 x3 x4 x5 y x8 x9 x6 x7 → yaK Xr l a d r0 r1 x3 x4 x5 y x6 x7 := by
 obtain ⟨y1, y2, y3, y4, y5, y6, y7, y8, _⟩ := hy
 have w2 : IntKind.i64.wrap (y.Parts.tmod 2) = y.Parts % 2 := by rw [tm y7, wrap64 (by omega) (by omega)]
 have w3 : IntKind.i64.wrap (y.Parts.tmod 3) = y.Parts % 3 := by rw [tm y7, wrap64 (by omega) (by omega)]
 simp only [yaK, yaX, ybn, w2, w3]
 generalize y.Kind.tmod 10 = k
 by_cases k3 : k = 3
 ·exact ⟨2, IntKind.i64.wrap (y.Op.tmod 16), by omega, by omega, fun Xr l a d r0 r1 x3 x4 x5 x6 x7 q => by grind [cnd]⟩
 by_cases k4 : k = 4 ∨ k = 5 ∨ k = 6 ∨ k = 7
 ·exact ⟨1, 0, by omega, by omega, fun Xr l a d r0 r1 x3 x4 x5 x6 x7 q => by grind [cnd]⟩
 by_cases k8 : k = 8
 ·exact ⟨y.Parts % 2, IntKind.i64.wrap (y.Op.tmod 6), by omega, by omega, fun Xr l a d r0 r1 x3 x4 x5 x6 x7 q => by grind [cnd]⟩
 by_cases k1 : k = 1 ∨ k = 2
 ·exact ⟨0, 0, by omega, by omega, fun Xr l a d r0 r1 x3 x4 x5 x6 x7 q => by grind [cnd]⟩
 ·exact ⟨y.Parts % 3, 0, by omega, by omega, fun Xr l a d r0 r1 x3 x4 x5 x6 x7 q => by grind [cnd]⟩
theorem bc4 (y : Pt) (hy : PtOk y) {x8 : Int} (h0 : 0 ≤ x8) (h3 : x8 ≤ 3) : ∃ x12, 0 ≤ x12 ∧ x12 ≤ 3 ∧ ∀ Xr l a d r0 r1 x3 x4 x5 x9 x10 x11, ybj Xr l a d r0 r1 x3 x4 x5 x9 x10 x11 y x12 → yar Xr l a d r0 r1 x3 x4 x5 y x8 x9 x10 x11 := by
 obtain ⟨y1, y2, y3, y4, y5, y6, y7, y8, _⟩ := hy
 have w4 : IntKind.i64.wrap (y.Parts.tmod 4) = y.Parts % 4 := by rw [tm y7, wrap64 (by omega) (by omega)]
 simp only [yar, w4]
 by_cases k : 240 <= y.Kind
 ·exact ⟨y.Parts % 4, by omega, by omega, fun Xr l a d r0 r1 x3 x4 x5 x9 x10 x11 q => ⟨fun _ => q, fun e => absurd k (by simpa using e)⟩⟩
 ·exact ⟨x8, h0, h3, fun Xr l a d r0 r1 x3 x4 x5 x9 x10 x11 q => ⟨fun e => absurd (by simpa using e) k, fun _ => q⟩⟩
mutual
def pa : E6 → List E6
 | .mk k o v t n L => .mk k o v t n L :: pas L
def pas : List E6 → List E6
 | [] => []
 | x :: r => pa x ++ pas r
end
theorem ynB (x : E6) : ∀ l, (pas (l ++ [x])).length = (pas l).length + (pa x).length
 | [] => by simp [pas]
 | y :: l => by simp only [List.cons_append, pas, List.length_append, ynB x l]; omega
def BI (l : List Pt) (n : Nat) (d : Int) : Prop := ∀ a : Int, 0 <= a -> a + 4 ^ (n + 1) <= 1152921504606846976 -> ∃ e nx, ycb l a d e nx /\ WF e /\ dep e <= n + 1 /\ a <= nx /\ nx <= a + 4 ^ (n + 1) /\ ((pa e).length : Int) <= 1 + 3 * (min nx l.length - min a l.length)
theorem yt9 {l : List Pt} {n : Nat} {d : Int} (hd : IntKind.i64.wrap (d + 1) = d + 1) (ih : BI l n (d + 1)) {x3 x4 : Int} {x5 : Str} {x9 : Int} {x10 x11 : Str} {y : Pt} (h4 : Rg x4) {cnt : Int} (hc0 : 0 ≤ cnt) (hc : cnt ≤ 3) :
  ∀ (k : Nat) (i : Int) (nx : Int) (ps : List E6), 0 <= i -> i + k = cnt -> 0 <= nx -> nx + k * 4 ^ (n + 1) <= 1152921504606846976 -> ps.length = i.toNat -> (∀ q ∈ ps, WF q /\ dep q <= n + 1) ->
  ∃ r0 r1, WF r0 /\ dep r0 <= n + 2 /\ nx <= r1 /\ r1 <= nx + k * 4 ^ (n + 1) /\ ((pa r0).length : Int) <= 1 + (pas ps).length + k + 3 * (min r1 l.length - min nx l.length) /\ ∀ Xr : List Pt -> Int -> Int -> E6 -> Int -> Prop, (∀ a0 a1 a2 r0 r1, ybI Xr a0 a1 a2 r0 r1 -> Xr a0 a1 a2 r0 r1) -> ∀ X6 : Int -> Int -> List E6 -> Prop, (∀ x13 x14 x15, yb8 Xr l d r0 r1 x3 x4 x5 x9 x10 x11 cnt y X6 x13 x14 x15 -> X6 x13 x14 x15) -> X6 nx i ps := by
 intro k
 induction k with
 | zero =>
   intro i nx ps h0 hi hn hb hl hw
   refine ⟨.mk (IntKind.i64.wrap (y.Kind.tmod 10)) x9 ⟨x3, x4, x5⟩ x10 x11 ps, nx, .mk _ ?_ h4 (fun q hq => (hw q hq).1), ?_, by omega, by omega, by show (((pas ps).length + 1 : Nat) : Int) <= _; push_cast; omega, fun Xr hXr X6 hX => hX _ _ _ ⟨fun c => ?_, fun _ => ⟨rfl, rfl⟩⟩⟩
   ·show ps.length <= 3; omega
   ·rw [ykT]
    show 1 + deps ps <= n + 2
    have : deps ps ≤ n + 1 := by
     clear hl
     induction ps with
     | nil => simp [deps]
     | cons a ps ih2 =>
       simp only [deps]
       have := (hw a (by simp)).2
       have := ih2 (fun q hq => hw q (by simp [hq]))
       omega
    omega
   ·have : i < cnt := by simpa using c
    omega
 | succ k ihk =>
   intro i nx ps h0 hi hn hb hl hw
   have hp : (0 : Int) < 4 ^ (n + 1) := Int.pow_pos (by omega)
   have hexp : ((k + 1 : Nat) : Int) * 4 ^ (n + 1) = k * 4 ^ (n + 1) + 4 ^ (n + 1) := by push_cast; rw [Int.add_mul]; omega
   rw [hexp] at hb
   have hk0 : (0 : Int) <= k * 4 ^ (n + 1) := Int.mul_nonneg (by omega) (by omega)
   obtain ⟨e, nx', e1, e2, e3, e4, e5, e6⟩ := ih nx hn (by omega)
   obtain ⟨r0, r1, q1, q2, q3, q4, q6, q5⟩ := ihk (i + 1) nx' (ps ++ [e]) (by omega) (by push_cast at hi; omega) (by omega) (by omega) (by simp; omega) (fun q hq => by
    rcases List.mem_append.1 hq with hq | hq
    ·exact hw q hq
    ·simp at hq; subst hq; exact ⟨e2, e3⟩)
   refine ⟨r0, r1, q1, q2, by omega, by rw [hexp]; omega, by rw [ynB] at q6; push_cast at q6 ⊢; omega, fun Xr hXr X6 hX => hX _ _ _ ⟨fun _ => ⟨e, nx', ?_, by omega, ?_⟩, fun c => ?_⟩⟩
   ·rw [hd]; exact e1 Xr hXr
   ·rw [wrap64 (by push_cast at hi; omega) (by push_cast at hi; omega), yeo]; exact q5 Xr hXr X6 hX
   ·have : ¬ i < cnt := by simpa using c
    push_cast at hi; omega
theorem ytg {l : List Pt} {a d : Int} (h0 : 0 ≤ a) (h1 : a ≤ 1152921504606846976) (h : l.length ≤ a ∨ 24 < d) : ycb l a d (.mk 1 0 ⟨0, 0, []⟩ [] [] []) (a + 1) := by
 intro Xr hXr
 refine hXr _ _ _ _ _ (ye9 _ _ _ _ _ _ fun _ => ?_)
 have hw : IntKind.i64.wrap (a + 1) = a + 1 := wrap64 (by omega) (by omega)
 have m : ya9 Xr l a d (.mk 1 0 ⟨0, 0, []⟩ [] [] []) (a + 1) true := ⟨fun _ => ⟨rfl, hw⟩, fun e => (by cases e)⟩
 refine ⟨fun _ => m, fun c => ?_⟩
 have c : ¬ (l.length : Int) <= a := by simpa using c
 have : decide (24 < d) = true := by simp; omega
 rw [this]; exact m
theorem ymf : WF (.mk 1 0 ⟨0, 0, []⟩ [] [] []) /\ dep (.mk 1 0 ⟨0, 0, []⟩ [] [] []) <= 1 := ⟨.mk _ (by show 0 <= 3; omega) (by show Rg 0; unfold Rg; omega) (fun y hy => by cases hy), by rw [ykT]; show 1 + deps [] <= 1; simp [deps]⟩
theorem ypU {l : List Pt} (hl : ∀ p ∈ l, PtOk p) : ∀ (n : Nat) (d : Int), d + n = 25 → 0 ≤ d → BI l n d := by
 intro n
 induction n with
 | zero =>
   intro d hd h0 a ha hb
   have hb : a + 4 <= 1152921504606846976 := by simpa using hb
   exact ⟨_, _, ytg ha (by omega) (.inr (by omega)), ymf.1, ymf.2, by omega, by simp, by show (1 : Int) <= _; omega⟩
 | succ n ih =>
   intro d hd h0 a ha hb
   have hp : (0 : Int) < 4 ^ (n + 1) := Int.pow_pos (by omega)
   have hexp : (4 : Int) ^ (n + 1 + 1) = 4 * 4 ^ (n + 1) := by rw [Int.pow_succ]; omega
   rw [hexp] at hb
   by_cases hle : (l.length : Int) <= a
   ·exact ⟨_, _, ytg ha (by omega) (.inl hle), ymf.1, by have := ymf.2; omega, by omega, by rw [hexp]; omega, by show (1 : Int) <= _; omega⟩
   ·have hi : a.toNat < l.length := by omega
    have hy := hl _ (List.getElem_mem hi)
    obtain ⟨x3, x4, x5, hx4, f10⟩ := bc10 _ hy
    obtain ⟨x6, x7, f9⟩ := bc9 l[a.toNat]
    obtain ⟨x8, x9, h8, h8', f3⟩ := bc3 _ hy
    obtain ⟨x12, h12, h12', f4⟩ := bc4 _ hy h8 h8'
    have hd1 : IntKind.i64.wrap (d + 1) = d + 1 := wrap64 (by omega) (by omega)
    have hk : (x12.toNat : Int) <= 3 := by omega
    have hm : (x12.toNat : Int) * 4 ^ (n + 1) <= 3 * 4 ^ (n + 1) := Int.mul_le_mul_of_nonneg_right hk (by omega)
    obtain ⟨r0, r1, q1, q2, q3, q4, q6, q5⟩ := yt9 (x3 := x3) (x5 := x5) (x9 := x9) (x10 := x6) (x11 := x7) (y := l[a.toNat]) hd1 (ih (d + 1) (by push_cast at hd; omega) (by omega)) hx4 h12 h12' x12.toNat 0 (a + 1) [] (by omega) (by omega) (by omega) (by omega) rfl (fun q hq => by cases hq)
    refine ⟨r0, r1, fun Xr hXr => hXr _ _ _ _ _ (ye9 _ _ _ _ _ _ fun _ => ?_), q1, by omega, by omega, by rw [hexp]; omega, by simp only [pas, List.length_nil] at q6; push_cast at q6; omega⟩
    have m : ya9 Xr l a d r0 r1 false := by
     refine ⟨fun e => (by cases e), fun _ => ⟨ha, by omega, l[a.toNat], by simp [hi], f10 _ _ _ _ _ _ (f9 _ _ _ _ _ _ _ _ _ (f3 _ _ _ _ _ _ _ _ _ _ _ (f4 _ _ _ _ _ _ _ _ _ _ _ _ ?_)))⟩⟩
     intro X6 hX
     rw [wrap64 (by omega) (by omega)]
     exact q5 Xr hXr X6 hX
    refine ⟨fun c => absurd (by simpa using c) hle, fun _ => ?_⟩
    have : decide (24 < d) = false := by simp; push_cast at hd; omega
    rw [this]; exact m
end Go.Proofs.YtoiojmpkifgimaaDoor
end
noncomputable section
namespace Go.Proofs.YtoiojmpkifgimaaDoor
open Go.AV Go.RowKit
inductive WX : X → Prop
 | mk (e : X) (h : e.L.length <= 3) (hn : Rg e.V.N) (hs : ∀ y ∈ e.L, WX y) : WX e
mutual
def dX : X → Nat
 | .mk _ _ _ _ _ L => 1 + dXs L
def dXs : List X → Nat
 | [] => 0
 | x :: r => max (dX x) (dXs r)
end
theorem ynL (x : X) : ∀ (l : List X), dXs (l ++ [x]) = max (dXs l) (dX x)
 | [] => by simp [dXs]
 | y :: l => by simp only [List.cons_append, dXs, ynL x l]; omega
theorem ykP (m : X) : dX m = 1 + dXs m.L := by cases m; simp [dX, yab.L]
theorem yoP {x : X} : ∀ {l : List X}, x ∈ l → dX x ≤ dXs l
 | y :: l, h => by
   simp only [dXs]
   rcases List.mem_cons.1 h with rfl | h
   ·omega
   ·have := yoP h; omega
theorem ylT {e : X} (h : WX e) : dX e ≤ 1000 → ybE e (dX e) := by
 induction h with
 | mk e h hn hs ih =>
   intro hd Xr hXr
   apply hXr
   apply yjr
   intro _
   refine lp2 (fun (d i : Int) => ∃ k : Nat, i = k /\ k <= e.L.length /\ d = (dXs (e.L.take k) : Nat)) (fun _ (i : Int) => e.L.length - i.toNat) ?_ ⟨0, rfl, by omega, by simp [dXs]⟩
   rintro X0 d i ⟨k, rfl, h1, rfl⟩ hX
   rw [ykP] at hd
   refine ⟨fun c => ?_, fun c => ?_⟩
   ·have c : (k : Int) < e.L.length := of_decide_eq_true c
    have hk : k < e.L.length := by omega
    have hm : e.L[k] ∈ e.L := List.getElem_mem hk
    have hdm := yoP hm
    refine ⟨by omega, c, _, gAt hk, dX e.L[k], ?_, ?_⟩
    ·rw [ybM]; exact ih _ hm (by omega) Xr hXr
    ·rw [w1 (by omega)]
     refine hX _ _ ⟨k + 1, rfl, by omega, ?_⟩ (by omega)
     rw [List.take_succ_eq_append_getElem hk, ynL]
     split <;> omega
   ·have c : ¬ (k : Int) < e.L.length := of_decide_eq_false c
    rw [List.take_of_length_le (by omega), ykP, wrap64 (by omega) (by omega)]; omega
def isS (c : UInt8) : Bool := decide (97 <= c.toNat) && decide (c.toNat <= 122)
def isD (c : UInt8) : Bool := decide (48 <= c.toNat) && decide (c.toNat <= 57)
def isR (c : UInt8) : Bool := isS c || (isD c || c.toNat == 95)
theorem ypK (c : UInt8) : ych (c.toNat : Int) (isS c) := by
 unfold ych isS
 refine ⟨fun h => ?_, fun h => ?_⟩
 ·have h : (97 : Int) ≤ c.toNat := of_decide_eq_true h
  rw [decide_eq_true (show 97 <= c.toNat by omega), Bool.true_and, decide_eq_decide]; omega
 ·have h : ¬ (97 : Int) ≤ c.toNat := of_decide_eq_false h
  rw [decide_eq_false (show ¬ 97 <= c.toNat by omega)]; rfl
theorem yr8 (c : UInt8) : yc2 (c.toNat : Int) (isD c) := by
 unfold yc2 isD
 refine ⟨fun h => ?_, fun h => ?_⟩
 ·have h : (48 : Int) ≤ c.toNat := of_decide_eq_true h
  rw [decide_eq_true (show 48 <= c.toNat by omega), Bool.true_and, decide_eq_decide]; omega
 ·have h : ¬ (48 : Int) ≤ c.toNat := of_decide_eq_false h
  rw [decide_eq_false (show ¬ 48 <= c.toNat by omega)]; rfl
theorem ytz (c : UInt8) : ydR (c.toNat : Int) (isR c) := by
 refine ⟨_, ypK c, fun h => ?_, fun h => ⟨_, yr8 c, fun k => ?_, fun k => ?_⟩⟩
 ·simp [isR, h]
 ·simp [isR, k]
 ·unfold isR
  rw [h, k, Bool.eq_iff_iff]; simp; omega
theorem ytD (s : Str) (h : s.length ≤ 100000) : ycY s ydR (s.takeWhile isR) := by
 apply ym8
 refine lp1 (fun (x : Int) => ∃ k : Nat, x = k /\ k <= s.length /\ s.takeWhile isR = s.take k ++ (s.drop k).takeWhile isR) (fun (x : Int) => s.length - x.toNat) ?_ ⟨0, rfl, by omega, by simp⟩
 rintro X0 x ⟨k, rfl, h1, he⟩ hX
 have stop : (s.drop k).takeWhile isR = [] → ybZ X0 s (s.takeWhile isR) k false := by
  intro hw
  refine ⟨fun q => (by cases q), fun _ => ⟨⟨by omega, by omega, by omega⟩, ?_⟩⟩
  rw [he, hw, Int.toNat_natCast]; simp
 simp only [ydn]
 refine ⟨fun c => ?_, fun c => ?_⟩
 ·have c : (k : Int) < s.length := of_decide_eq_true c
  have hk : k < s.length := by omega
  refine ⟨⟨by omega, c⟩, isR s[k], by rw [yl7 hk]; exact ytz _, ?_⟩
  cases hr : isR s[k] with
  | true =>
    refine ⟨fun _ => ?_, fun q => (by cases q)⟩
    rw [w1 (by omega)]
    refine hX _ ⟨k + 1, rfl, by omega, ?_⟩ (by omega)
    rw [he, List.drop_eq_getElem_cons hk, List.takeWhile_cons, hr, List.take_succ_eq_append_getElem hk, List.append_assoc]
    rfl
  | false =>
    refine stop ?_
    rw [List.drop_eq_getElem_cons hk, List.takeWhile_cons, hr]; rfl
 ·have c : ¬ (k : Int) < s.length := of_decide_eq_false c
  refine stop ?_
  rw [List.drop_of_length_le (by omega)]; rfl
def sLex (s : Str) : Bool := match s with
 | [] => false
 | c :: r => decide ((c :: r).length <= 16) && (isS c && (c :: r).all isR)
theorem ysX {s : Str} : (s.takeWhile isR == s) = s.all isR := by
 induction s with
 | nil => rfl
 | cons c s ih =>
   rw [List.takeWhile_cons]
   cases h : isR c with
   | true => simp [h, <- ih]
   | false => simp [h]
theorem pLex (s : Str) : ydK s (sLex s) := by
 cases s with
 | nil => exact ⟨fun q => (by simp at q), fun _ => rfl⟩
 | cons c r =>
   refine ⟨fun _ => ⟨fun h => ⟨⟨by omega, by simp⟩, _, ypK c, fun k => ⟨_, ytD (c :: r) ?_, ?_⟩, fun k => ?_⟩, fun h => ?_⟩, fun q => (by simp at q)⟩
   ·have h : ((c :: r).length : Int) ≤ 16 := of_decide_eq_true h
    omega
   ·have h : ((c :: r).length : Int) ≤ 16 := of_decide_eq_true h
    rw [ysX]
    simp only [sLex, k, Bool.true_and]
    rw [decide_eq_true (show (c :: r).length <= 16 by omega), Bool.true_and]
   ·simp only [sLex, k, Bool.false_and, Bool.and_false]
   ·have h : ¬ ((c :: r).length : Int) ≤ 16 := of_decide_eq_false h
    simp only [sLex]
    rw [decide_eq_false (show ¬ (c :: r).length <= 16 by omega)]; rfl
def ygf (e : X) : Bool := if e.Kind = 1 ∨ e.Kind = 2 then e.L.length == 0 else if e.Kind = 3 then e.L.length == 2 else if e.Kind = 8 then e.L.length == 1 || (e.Op == 1 && e.L.length == 0) else decide (4 <= e.Kind) && (decide (e.Kind <= 7) && e.L.length == 1)
theorem ygE (n : Nat) (k : Nat) : (((n : Int) == (k : Int)) = (n == k)) := by
 rw [Bool.eq_iff_iff]; simp; omega
theorem ys4 (e : X) : yaR e (ygf e) := by
 apply ygm
 have n0 : ((e.L.length : Int) == 0) = (e.L.length == 0) := ygE e.L.length 0
 have n1 : ((e.L.length : Int) == 1) = (e.L.length == 1) := ygE e.L.length 1
 have n2 : ((e.L.length : Int) == 2) = (e.L.length == 2) := ygE e.L.length 2
 simp only [ycc, yaS, n0, n1, n2]
 unfold ygf
 clear n0 n1 n2
 generalize e.L.length = n
 grind [cnd]
def ygK (e : X) : Bool := if e.Kind = 1 then e.Op == 0 && (e.Table == [] && e.Name == []) else if e.Kind = 2 then e.Op == 0 && eqV e.V D0 else if e.Kind = 3 ∨ e.Kind = 8 then eqV e.V D0 && (e.Table == [] && e.Name == []) else
 e.Op == 0 && (eqV e.V D0 && (e.Table == [] && e.Name == []))
theorem J1b {x1 x2 x3 x4 : Int} {x5 x6 x7 : Str} {x8 : List X} {x9 x10 x11 x12 : Int} {x13 x14 x15 : Str} {x16 : List X} {r : Bool} (h : r = ((x10 == x2) && (((x11 == x3) && ((x12 == x4) && ((x13 == x5) && true))) && ((x14 == x6) && (x15 == x7))))) : yas r x1 x2 x3 x4 x5 x6 x7 x8 x9 x10 x11 x12 x13 x14 x15 x16 := by
 unfold yas
 subst h
 generalize (x10 == x2) = a
 generalize ((x11 == x3) && ((x12 == x4) && ((x13 == x5) && true))) = b
 generalize (x14 == x6) = c
 cases a <;> cases b <;> cases c <;> simp [cnd]
theorem c1 {a b : Int} : (a == b) = (b == a) := by rw [Bool.eq_iff_iff]; simp; exact eq_comm
theorem c2 {a b : Str} : (a == b) = (b == a) := by rw [Bool.eq_iff_iff]; simp; exact eq_comm
theorem yum (e : X) : ya4 e (ygK e) := by
 apply yhn
 simp only [ycg, ya0]
 have ev : ∀ v : V, ((0 : Int) == v.Kind && ((0 : Int) == v.N && (([] : Str) == v.S && true))) = eqV v D0 := fun v => by
  unfold eqV D0
  rw [c1 (a := 0), c1 (a := 0) (b := v.N), c2 (a := [])]
 have s0 : ∀ v : V, (v.Kind == v.Kind && (v.N == v.N && (v.S == v.S && true))) = true := fun v => by simp
 refine ⟨fun k => J1b ?_, fun k1 => ⟨fun k => J1b ?_, fun k2 => ⟨fun k => ⟨fun _ => J1b ?_, fun q => ?_⟩, fun k3 => ⟨fun k => J1b ?_, fun k => J1b ?_⟩⟩⟩⟩
 ·have k : e.Kind = 1 := by simpa using k
  rw [s0, ygK, if_pos k, c1 (a := 0), c2 (a := []) (b := e.Table), c2 (a := []) (b := e.Name)]; simp
 ·have k : e.Kind = 2 := by simpa using k
  rw [ev, ygK, if_neg (by omega), if_pos k, c1 (a := 0)]; simp
 ·have k : e.Kind = 3 := by simpa using k
  rw [ev, ygK, if_neg (by omega), if_neg (by omega), if_pos (.inl k), c2 (a := []) (b := e.Table), c2 (a := []) (b := e.Name)]; simp
 ·rw [k] at q; cases q
 ·have k : e.Kind = 8 := by simpa using k
  rw [ev, ygK, if_neg (by omega), if_neg (by omega), if_pos (.inr k), c2 (a := []) (b := e.Table), c2 (a := []) (b := e.Name)]; simp
 ·have k : ¬ e.Kind = 8 := by simpa using k
  have k1 : ¬ e.Kind = 1 := by simpa using k1
  have k2 : ¬ e.Kind = 2 := by simpa using k2
  have k3 : ¬ e.Kind = 3 := by simpa using k3
  rw [ev, ygK, if_neg k1, if_neg k2, if_neg (fun q => by rcases q with q | q; exact k3 q; exact k q), c1 (a := 0), c2 (a := []) (b := e.Table), c2 (a := []) (b := e.Name)]
def yfQ (e : X) : Bool := if e.Kind = 1 then yd6 e.V && (!(e.V.Kind == 2) || decide (0 <= e.V.N)) else if e.Kind = 2 then sLex e.Name && (e.Table == [] || sLex e.Table) else if e.Kind = 3 then decide (1 <= e.Op) && decide (e.Op <= 14) else if e.Kind = 8 then decide (1 <= e.Op) && decide (e.Op <= 4) else true
theorem yso (e : X) : ya7 e (yfQ e) := by
 unfold ya7 yfQ
 have g := ypM ⟨e.V.Kind, e.V.N, e.V.S⟩
 have l1 := pLex e.Name
 have l2 := pLex e.Table
 have gg : yd6 ⟨e.V.Kind, e.V.N, e.V.S⟩ = yd6 e.V := rfl
 rw [gg] at g
 generalize yd6 e.V = z1 at *
 generalize sLex e.Name = z2 at *
 generalize sLex e.Table = z3 at *
 refine ⟨fun k => ⟨_, g, fun a => ⟨fun b => ?_, fun b => ?_⟩, fun a => ?_⟩, fun k1 => ⟨fun k => ⟨_, l1, fun a => ⟨fun b => ?_, fun b => ⟨_, l2, ?_⟩⟩, fun a => ?_⟩, fun k2 => ⟨fun k => ⟨fun a => ?_, fun a => ?_⟩, fun k3 => ⟨fun k => ⟨fun a => ?_, fun a => ?_⟩, fun k8 => ?_⟩⟩⟩⟩ <;> simp only [beq_iff_eq, beq_eq_false_iff_ne, ne_eq] at * <;> simp_all <;> (intros; omega)
mutual
def gX : Bool → X → Bool
 | w, .mk k o v t n L => ygf (.mk k o v t n L) && (ygK (.mk k o v t n L) && (yfQ (.mk k o v t n L) && (!(w && k == 8) && gXs (w || k == 8) L)))
def gXs : Bool → List X → Bool
 | _, [] => true
 | w, x :: r => gX w x && gXs w r
end
theorem ylv (w : Bool) (e : X) : gX w e = (ygf e && (ygK e && (yfQ e && (!(w && e.Kind == 8) && gXs (w || e.Kind == 8) e.L)))) := by cases e; rfl
theorem yhB (w : Bool) : ∀ l : List X, gXs w l = l.all (gX w)
 | [] => rfl
 | x :: r => by simp only [gXs, List.all_cons, yhB w r]
theorem yr6 {e : X} (h : WX e) : ∀ w, ycH e w (gX w e) := by
 induction h with
 | mk e h hn hs ih =>
   intro w Xr hXr
   apply hXr
   apply ygu
   have no : gX w e = false -> yat Xr e w (gX w e) true := fun q => ⟨fun _ => q.symm, fun q => (by cases q)⟩
   refine ⟨ygf e, by rw [ybM]; exact ys4 e, fun a => no ?_, fun a => ⟨ygK e, by rw [ybM]; exact yum e, fun b => no ?_, fun b => ⟨yfQ e, by rw [ybM]; exact yso e, fun c => no ?_, fun c => ?_⟩⟩⟩
   ·have a : ygf e = false := by simpa using a
    rw [ylv, a]; rfl
   ·have b : ygK e = false := by simpa using b
    rw [ylv, b]; simp
   ·have c : yfQ e = false := by simpa using c
    rw [ylv, c]; simp
   ·have a : ygf e = true := by simpa using a
    have b : ygK e = true := by simpa using b
    have c : yfQ e = true := by simpa using c
    have ge : gX w e = (!(w && e.Kind == 8) && gXs (w || e.Kind == 8) e.L) := by rw [ylv, a, b, c]; simp
    have main : (w && e.Kind == 8) = false → yat Xr e w (gX w e) false := by
     intro hw
     have ge : gX w e = e.L.all (gX (w || e.Kind == 8)) := by rw [ge, hw, yhB]; rfl
     refine ⟨fun q => (by cases q), fun _ _ => ?_⟩
     refine lp1 (fun (x : Int) => ∃ k : Nat, x = k /\ k <= e.L.length /\ (e.L.take k).all (gX (w || e.Kind == 8)) = true) (fun (x : Int) => e.L.length - x.toNat) ?_ ⟨0, rfl, by omega, rfl⟩
     rintro X0 x ⟨k, rfl, h1, he⟩ hX
     simp only [yby]
     refine ⟨fun d => ?_, fun d => ?_⟩
     ·have d : (k : Int) < e.L.length := of_decide_eq_true d
      have hk : k < e.L.length := by omega
      have hm : e.L[k] ∈ e.L := List.getElem_mem hk
      have fin : ∀ z, z = gX (w || e.Kind == 8) e.L[k] → yaY X0 (gX w e) k (!z) := by
       intro z hz
       refine ⟨fun q => ?_, fun q => ?_⟩
       ·have q : z = false := by simpa using q
        rw [ge]
        symm
        rw [<- Bool.not_eq_true]
        intro hall
        have := List.all_eq_true.1 hall _ hm
        rw [<- hz, q] at this; cases this
       ·have q : z = true := by simpa using q
        rw [w1 (by omega)]
        refine hX _ ⟨k + 1, rfl, by omega, ?_⟩ (by omega)
        rw [List.take_succ_eq_append_getElem hk, List.all_append, he]
        simp [<- hz, q]
      refine ⟨by omega, d, _, gAt hk, fun q => ⟨gX true e.L[k], ?_, fin _ ?_⟩, fun q => ⟨gX (e.Kind == 8) e.L[k], ?_, fin _ ?_⟩⟩
      ·rw [ybM]; exact ih _ hm true Xr hXr
      ·rw [q]; rfl
      ·rw [ybM]; exact ih _ hm (e.Kind == 8) Xr hXr
      ·rw [q]; rfl
     ·have d : ¬ (k : Int) < e.L.length := of_decide_eq_false d
      rw [List.take_of_length_le (by omega)] at he
      rw [ge, he]
    refine ⟨fun q => ?_, fun q => main (by rw [q]; rfl)⟩
    cases k8 : (e.Kind == 8) with
    | true => exact no (by rw [ge, q, k8]; rfl)
    | false => exact main (by rw [q, k8]; rfl)
theorem ymK {e : X} (h : WX e) (hd : dX e ≤ 1000) : ybB e (decide (dX e ≤ 20) && gX false e) := by
 refine ⟨dX e, by rw [ybM]; exact ylT h hd, fun c => ⟨gX false e, by rw [ybM]; exact yr6 h false, ?_⟩, fun c => ?_⟩
 ·have c : (dX e : Int) ≤ 20 := of_decide_eq_true c
  rw [decide_eq_true (show dX e <= 20 by omega)]; rfl
 ·have c : ¬ (dX e : Int) ≤ 20 := of_decide_eq_false c
  rw [decide_eq_false (show ¬ dX e <= 20 by omega)]; rfl
end Go.Proofs.YtoiojmpkifgimaaDoor
end
noncomputable section
namespace Go.Proofs.YtoiojmpkifgimaaDoor
open Go.AV Go.RowKit
def ops : List Str := [[], [61], [60, 62], [60], [60, 61], [62], [62, 61], [43], [45], [42], [47], [37], [124, 124], [65, 78, 68], [79, 82]]
def ags : List Str := [[], [67, 79, 85, 78, 84], [83, 85, 77], [77, 73, 78], [77, 65, 88]]
inductive Sh : X → Str → Prop
 | lit (v : V) (hv : good v) (hn : v.Kind = 2 -> 0 <= v.N) : Sh (.mk 1 0 v [] [] []) (ydc v)
 | col1 (n : Str) (hn : sLex n = true) : Sh (.mk 2 0 D0 [] n []) n
 | col2 (t n : Str) (hn : sLex n = true) (ht : sLex t = true) : Sh (.mk 2 0 D0 t n []) (t ++ [46] ++ n)
 | bin (op : Int) (o : Str) (a b : X) (s t : Str) (h1 : 1 <= op) (h2 : op <= 14) (ho : ops[op.toNat]? = some o) (ha : Sh a s) (hb : Sh b t) : Sh (.mk 3 op D0 [] [] [a, b]) ([40] ++ s ++ [32] ++ o ++ [32] ++ t ++ [41])
 | no (a : X) (s : Str) (ha : Sh a s) : Sh (.mk 4 0 D0 [] [] [a]) ([40, 78, 79, 84, 32] ++ s ++ [41])
 | neg (a : X) (s : Str) (ha : Sh a s) : Sh (.mk 5 0 D0 [] [] [a]) ([40, 45, 32] ++ s ++ [41])
 | isn (a : X) (s : Str) (ha : Sh a s) : Sh (.mk 6 0 D0 [] [] [a]) ([40] ++ s ++ [32, 73, 83, 32, 78, 85, 76, 76, 41])
 | ntn (a : X) (s : Str) (ha : Sh a s) : Sh (.mk 7 0 D0 [] [] [a]) ([40] ++ s ++ [32, 73, 83, 32, 78, 79, 84, 32, 78, 85, 76, 76, 41])
 | cnt : Sh (.mk 8 1 D0 [] [] []) [67, 79, 85, 78, 84, 40, 42, 41]
 | agg (op : Int) (o : Str) (a : X) (s : Str) (h1 : 1 <= op) (h2 : op <= 4) (ho : ags[op.toNat]? = some o) (ha : Sh a s) : Sh (.mk 8 op D0 [] [] [a]) (o ++ [40] ++ s ++ [41])
theorem ym9 {v : V} (h : good v) : yd6 v = true := by
 unfold good at h
 obtain ⟨k, n, s⟩ := v
 simp only at h
 rcases h with ⟨rfl, rfl, rfl⟩ | ⟨rfl, h, rfl⟩ | ⟨rfl, h, rfl⟩ | ⟨rfl, rfl, h⟩
 ·rfl
 ·rcases h with rfl | rfl <;> rfl
 ·rfl
 ·simp [yd6]; omega
theorem yi4 : ydc D0 = [78, 85, 76, 76] := rfl
theorem yiS : ydc (bV true) = [84, 82, 85, 69] := rfl
theorem yhH : ydc (bV false) = [70, 65, 76, 83, 69] := rfl
theorem yif (n : Int) : ydc ⟨2, n, []⟩ = Go.Lib.itoa n := by
 unfold ydc
 have g : yd6 ⟨2, n, []⟩ = true := rfl
 have e : eqV ⟨2, n, []⟩ (bV true) = false := rfl
 rw [g, e]; rfl
theorem yi3 {s : Str} (h : s.length ≤ 64) : ydc ⟨3, 0, s⟩ = [39] ++ dq s ++ [39] := by
 unfold ydc
 have g : yd6 ⟨3, 0, s⟩ = true := by simp [yd6]; omega
 have e : eqV ⟨3, 0, s⟩ (bV true) = false := rfl
 rw [g, e]
 show [39] ++ Go.Lib.replaceAll s [39] [39, 39] ++ [39] = _
 rw [yo7]
theorem yiU {v : V} (h : good v) : v = D0 ∨ v = bV true ∨ v = bV false ∨ (∃ n, Rg n ∧ v = ⟨2, n, []⟩) ∨ ∃ s, s.length ≤ 64 ∧ v = ⟨3, 0, s⟩ := by
 unfold good at h
 obtain ⟨k, n, s⟩ := v
 simp only at h
 rcases h with ⟨rfl, rfl, rfl⟩ | ⟨rfl, h, rfl⟩ | ⟨rfl, h, rfl⟩ | ⟨rfl, rfl, h⟩
 ·exact .inl rfl
 ·rcases h with rfl | rfl
  ·exact .inr (.inr (.inl rfl))
  ·exact .inr (.inl rfl)
 ·exact .inr (.inr (.inr (.inl ⟨n, h, rfl⟩)))
 ·exact .inr (.inr (.inr (.inr ⟨s, h, rfl⟩)))
theorem ynJ {v : V} (h : good v) : (ydc v).length ≤ 130 := by
 rcases yiU h with rfl | rfl | rfl | ⟨n, hn, rfl⟩ | ⟨s, hs, rfl⟩
 ·rw [yi4]; simp
 ·rw [yiS]; simp
 ·rw [yhH]; simp
 ·rw [yif]; have := Go.Lib.itoa_length_le n hn.1 hn.2; omega
 ·rw [yi3 hs]; have := ymZ s; simp; omega
theorem ys9 {v : V} (h : good v) : yaG v (ydc v) := by
 refine ytU (ytE h) ?_ (by have := ysD h; omega)
 have := ysD h
 have := ymZ v.S
 rw [yo7]; omega
theorem ydX {s : Str} (h : sLex s = true) : s.length ≤ 16 := by
 cases s with
 | nil => cases h
 | cons c r =>
   simp only [sLex, Bool.and_eq_true, decide_eq_true_eq] at h
   exact h.1
theorem ylk {k : Nat} {o : Str} (h : ops[k]? = some o) : o.length ≤ 3 := by
 have hm := List.mem_of_getElem? h
 simp only [ops, List.mem_cons, List.not_mem_nil, or_false] at hm
 rcases hm with rfl | rfl | rfl | rfl | rfl | rfl | rfl | rfl | rfl | rfl | rfl | rfl | rfl | rfl | rfl <;> decide
theorem ylD {k : Nat} {o : Str} (h : ags[k]? = some o) : o.length ≤ 5 := by
 have hm := List.mem_of_getElem? h
 simp only [ags, List.mem_cons, List.not_mem_nil, or_false] at hm
 rcases hm with rfl | rfl | rfl | rfl | rfl <;> decide
theorem pw {n : Nat} : 0 < 2 ^ n := Nat.pow_pos (by omega)
theorem Sh.len {e : X} {s : Str} (h : Sh e s) : s.length + 20 ≤ 150 * 2 ^ dX e := by
 have up : ∀ (a : X) (k op : Int) (v : V) (t n : Str), dX (.mk k op v t n [a]) = dX a + 1 := fun a k op v t n => by
  rw [ykP]; show 1 + dXs [a] = _; simp [dXs]; omega
 have sm : ∀ (k op : Int) (v : V) (t n : Str), dX (.mk k op v t n []) = 1 := fun k op v t n => by
  rw [ykP]; show 1 + dXs [] = _; simp [dXs]
 induction h with
 | lit v hv hn => rw [sm]; have := ynJ hv; omega
 | col1 n hn => rw [sm]; have := ydX hn; omega
 | col2 t n hn ht => rw [sm]; have := ydX hn; have := ydX ht; simp; omega
 | bin op o a b s t h1 h2 ho ha hb i1 i2 =>
   have hd : dX (.mk 3 op D0 [] [] [a, b]) = max (dX a) (dX b) + 1 := by rw [ykP]; show 1 + dXs [a, b] = _; simp [dXs]; omega
   rw [hd, Nat.pow_succ]
   have := ylk ho
   have p1 : 2 ^ dX a <= 2 ^ (max (dX a) (dX b)) := Nat.pow_le_pow_right (by omega) (by omega)
   have p2 : 2 ^ dX b <= 2 ^ (max (dX a) (dX b)) := Nat.pow_le_pow_right (by omega) (by omega)
   simp; omega
 | no a s ha ih => rw [up, Nat.pow_succ]; simp; have := pw (n := dX a); omega
 | neg a s ha ih => rw [up, Nat.pow_succ]; simp; have := pw (n := dX a); omega
 | isn a s ha ih => rw [up, Nat.pow_succ]; simp; have := pw (n := dX a); omega
 | ntn a s ha ih => rw [up, Nat.pow_succ]; simp; have := pw (n := dX a); omega
 | cnt => rw [sm]; simp
 | agg op o a s h1 h2 ho ha ih => rw [up, Nat.pow_succ]; have := ylD ho; have := pw (n := dX a); simp; omega
theorem Sh.of {e : X} (h : WX e) : ∀ w, gX w e = true → ∃ s, Sh e s := by
 induction h with
 | mk e h hn hs ih =>
   intro w hg
   rw [ylv, yhB] at hg
   simp only [Bool.and_eq_true] at hg
   obtain ⟨h1, h2, h3, _, h5⟩ := hg
   have kids : ∀ y ∈ e.L, ∃ s, Sh y s := fun y hy => ih y hy _ (List.all_eq_true.1 h5 y hy)
   clear ih h5 hs
   obtain ⟨k, op, v, t, n, l⟩ := e
   replace h1 : (if k = 1 ∨ k = 2 then l.length == 0 else if k = 3 then l.length == 2 else if k = 8 then l.length == 1 || (op == 1 && l.length == 0) else decide (4 <= k) && (decide (k <= 7) && l.length == 1)) = true := h1
   replace h2 : (if k = 1 then op == 0 && (t == [] && n == []) else if k = 2 then op == 0 && eqV v D0 else if k = 3 ∨ k = 8 then eqV v D0 && (t == [] && n == []) else op == 0 && (eqV v D0 && (t == [] && n == []))) = true := h2
   replace h3 : (if k = 1 then yd6 v && (!(v.Kind == 2) || decide (0 <= v.N)) else if k = 2 then sLex n && (t == [] || sLex t) else if k = 3 then decide (1 <= op) && decide (op <= 14) else if k = 8 then decide (1 <= op) && decide (op <= 4) else true) = true := h3
   replace hn : Rg v.N := hn
   replace kids : ∀ y ∈ l, ∃ s, Sh y s := kids
   clear h
   by_cases k1 : k = 1
   ·subst k1
    rw [if_pos (.inl rfl)] at h1
    rw [if_pos rfl] at h2 h3
    simp only [beq_iff_eq, Bool.and_eq_true, Bool.or_eq_true, Bool.not_eq_true', beq_eq_false_iff_ne, ne_eq, decide_eq_true_eq] at h1 h2 h3
    obtain rfl := List.eq_nil_of_length_eq_zero h1
    obtain ⟨rfl, rfl, rfl⟩ := h2
    exact ⟨_, .lit v (yne hn h3.1) (fun q => by rcases h3.2 with x | x; exact absurd q x; exact x)⟩
   by_cases k2 : k = 2
   ·subst k2
    rw [if_pos (.inr rfl)] at h1
    rw [if_neg (by decide), if_pos rfl] at h2 h3
    simp only [beq_iff_eq, Bool.and_eq_true, Bool.or_eq_true] at h1 h2 h3
    obtain rfl := List.eq_nil_of_length_eq_zero h1
    obtain ⟨rfl, hv⟩ := h2
    obtain rfl := ygQ.1 hv
    rcases h3.2 with rfl | ht
    ·exact ⟨_, .col1 n h3.1⟩
    ·exact ⟨_, .col2 t n h3.1 ht⟩
   rw [if_neg (fun q => by rcases q with q | q; exact k1 q; exact k2 q)] at h1
   rw [if_neg k1, if_neg k2] at h2 h3
   by_cases k3 : k = 3
   ·subst k3
    rw [if_pos rfl] at h1 h3
    rw [if_pos (.inl rfl)] at h2
    simp only [beq_iff_eq, Bool.and_eq_true, decide_eq_true_eq] at h1 h2 h3
    obtain ⟨hv, rfl, rfl⟩ := h2
    obtain rfl := ygQ.1 hv
    match l, h1 with
    | [a, b], _ =>
      obtain ⟨s, hs⟩ := kids a (by simp)
      obtain ⟨t, ht⟩ := kids b (by simp)
      have hlt : op.toNat < ops.length := by show _ < 15; omega
      exact ⟨_, .bin op _ a b s t h3.1 h3.2 (List.getElem?_eq_getElem hlt) hs ht⟩
   rw [if_neg k3] at h1 h3
   by_cases k8 : k = 8
   ·subst k8
    rw [if_pos rfl] at h1 h3
    rw [if_pos (.inr rfl)] at h2
    simp only [beq_iff_eq, Bool.and_eq_true, Bool.or_eq_true, decide_eq_true_eq] at h1 h2 h3
    obtain ⟨hv, rfl, rfl⟩ := h2
    obtain rfl := ygQ.1 hv
    rcases h1 with h1 | ⟨rfl, h1⟩
    ·match l, h1 with
     | [a], _ =>
       obtain ⟨s, hs⟩ := kids a (by simp)
       have hlt : op.toNat < ags.length := by show _ < 5; omega
       exact ⟨_, .agg op _ a s h3.1 h3.2 (List.getElem?_eq_getElem hlt) hs⟩
    ·obtain rfl := List.eq_nil_of_length_eq_zero h1
     exact ⟨_, .cnt⟩
   rw [if_neg k8] at h1
   rw [if_neg (fun q => by rcases q with q | q; exact k3 q; exact k8 q)] at h2
   simp only [beq_iff_eq, Bool.and_eq_true, decide_eq_true_eq] at h1 h2
   obtain ⟨rfl, hv, rfl, rfl⟩ := h2
   obtain rfl := ygQ.1 hv
   obtain ⟨h4, h7, h1⟩ := h1
   match l, h1 with
   | [a], _ =>
     obtain ⟨s, hs⟩ := kids a (by simp)
     have : k = 4 ∨ k = 5 ∨ k = 6 ∨ k = 7 := by omega
     rcases this with rfl | rfl | rfl | rfl
     ·exact ⟨_, .no a s hs⟩
     ·exact ⟨_, .neg a s hs⟩
     ·exact ⟨_, .isn a s hs⟩
     ·exact ⟨_, .ntn a s hs⟩
end Go.Proofs.YtoiojmpkifgimaaDoor
end
noncomputable section
namespace Go.Proofs.YtoiojmpkifgimaaDoor
open Go.AV Go.RowKit
theorem cnT {p q : Prop} (h : p) : cnd true p q := ⟨fun _ => h, fun e => by cases e⟩
theorem cnF {p q : Prop} (h : q) : cnd false p q := ⟨fun e => (by cases e), fun _ => h⟩
theorem d1 (a : X) (k op : Int) (v : V) (t n : Str) : dX (.mk k op v t n [a]) = dX a + 1 := by
 rw [ykP]; show 1 + dXs [a] = _; simp [dXs]; omega
theorem d2 (a b : X) (k op : Int) (v : V) (t n : Str) : dX (.mk k op v t n [a, b]) = max (dX a) (dX b) + 1 := by
 rw [ykP]; show 1 + dXs [a, b] = _; simp [dXs]; omega
theorem Sh.short {e : X} {s : Str} (h : Sh e s) (hd : dX e ≤ 40) : s.length ≤ 164926744166400 := by
 have := h.len
 have : 2 ^ dX e <= 2 ^ 40 := Nat.pow_le_pow_right (by omega) hd
 omega
theorem ysu {e : X} {s : Str} (h : Sh e s) : dX e ≤ 40 → ycI e s := by
 induction h with
 | lit v hv hn =>
   intro _ Xr hXr
   exact hXr _ _ (cnT ⟨_, ys9 hv, rfl⟩)
 | col1 n hn =>
   intro _ Xr hXr
   exact hXr _ _ (cnF (cnT (cnF rfl)))
 | col2 t n hn ht =>
   intro _ Xr hXr
   have l1 := ydX hn
   have l2 := ydX ht
   refine hXr _ _ (cnF (cnT ⟨fun _ => ⟨?_, ?_, rfl⟩, fun q => ?_⟩))
   ·show t.length + 1 <= _; omega
   ·show (t ++ [46]).length + n.length <= _; rw [List.length_append]; show t.length + 1 + _ <= _; omega
   ·cases t with
    | nil => cases ht
    | cons c r => cases (show true = false from q)
 | bin op o a b s t h1 h2 ho ha hb i1 i2 =>
   intro hd Xr hXr
   rw [d2] at hd
   have la := ha.short (by omega)
   have lb := hb.short (by omega)
   have lo := ylk ho
   refine hXr _ _ (cnF (cnF (cnT ⟨by omega, by show (0 : Int) < 2; omega, a, rfl, s, by rw [ybM]; exact i1 (by omega) Xr hXr, ?_, ?_, ⟨by show 0 <= op; omega, by show op < 15; omega⟩, o, ?_, ?_, ?_, by omega, by show (1 : Int) < 2; omega, b, rfl, t, by rw [ybM]; exact i2 (by omega) Xr hXr, ?_, ?_, rfl⟩)))
   ·simp; omega
   ·simp; omega
   ·show ops[0 + op.toNat * 1]? = some o
    rw [Nat.zero_add, Nat.mul_one]; exact ho
   ·simp; omega
   ·simp; omega
   ·simp; omega
   ·simp; omega
 | no a s ha ih =>
   intro hd Xr hXr
   rw [d1] at hd
   have la := ha.short (by omega)
   refine hXr _ _ (cnF (cnF (cnF (cnT ⟨by omega, by show (0 : Int) < 1; omega, a, rfl, s, by rw [ybM]; exact ih (by omega) Xr hXr, ?_, ?_, rfl⟩)))) <;> simp <;> omega
 | neg a s ha ih =>
   intro hd Xr hXr
   rw [d1] at hd
   have la := ha.short (by omega)
   refine hXr _ _ (cnF (cnF (cnF (cnF (cnT ⟨by omega, by show (0 : Int) < 1; omega, a, rfl, s, by rw [ybM]; exact ih (by omega) Xr hXr, ?_, ?_, rfl⟩))))) <;> simp <;> omega
 | isn a s ha ih =>
   intro hd Xr hXr
   rw [d1] at hd
   have la := ha.short (by omega)
   refine hXr _ _ (cnF (cnF (cnF (cnF (cnF (cnT ⟨by omega, by show (0 : Int) < 1; omega, a, rfl, s, by rw [ybM]; exact ih (by omega) Xr hXr, ?_, ?_, rfl⟩)))))) <;> simp <;> omega
 | ntn a s ha ih =>
   intro hd Xr hXr
   rw [d1] at hd
   have la := ha.short (by omega)
   refine hXr _ _ (cnF (cnF (cnF (cnF (cnF (cnF (cnT ⟨by omega, by show (0 : Int) < 1; omega, a, rfl, s, by rw [ybM]; exact ih (by omega) Xr hXr, ?_, ?_, rfl⟩))))))) <;> simp <;> omega
 | cnt =>
   intro _ Xr hXr
   exact hXr _ _ (cnF (cnF (cnF (cnF (cnF (cnF (cnF (fun _ => cnT ⟨⟨by show (0 : Int) <= 1; omega, by show (1 : Int) < 5; omega⟩, [67, 79, 85, 78, 84], rfl, by simp, rfl⟩))))))))
 | agg op o a s h1 h2 ho ha ih =>
   intro hd Xr hXr
   rw [d1] at hd
   have la := ha.short (by omega)
   have lo := ylD ho
   refine hXr _ _ (cnF (cnF (cnF (cnF (cnF (cnF (cnF (fun _ => cnF ⟨⟨by show 0 <= op; omega, by show op < 5; omega⟩, o, ?_, ?_, by omega, by show (0 : Int) < 1; omega, a, rfl, s, by rw [ybM]; exact ih (by omega) Xr hXr, ?_, ?_, rfl⟩))))))))
   ·show ags[0 + op.toNat * 1]? = some o
    rw [Nat.zero_add, Nat.mul_one]; exact ho
   ·simp; omega
   ·simp; omega
   ·simp; omega
mutual
def eqX : X → X → Bool
 | .mk k op v t n l, .mk k' op' v' t' n' l' => k == k' && (op == op' && (eqV v v' && (t == t' && (n == n' && eqXs l l'))))
def eqXs : List X → List X → Bool
 | [], [] => true
 | x :: r, y :: q => eqX x y && eqXs r q
 | _, _ => false
end
mutual
theorem yjx : ∀ (a b : X), eqX a b = true ↔ a = b
 | .mk k op v t n l, .mk k' op' v' t' n' l' => by
   simp only [eqX, Bool.and_eq_true, beq_iff_eq, ygQ, yjP l l', yab.mk.injEq]
theorem yjP : ∀ (a b : List X), eqXs a b = true ↔ a = b
 | [], [] => by simp [eqXs]
 | x :: r, [] => by simp [eqXs]
 | [], y :: q => by simp [eqXs]
 | x :: r, y :: q => by simp only [eqXs, Bool.and_eq_true, yjx x y, yjP r q, List.cons.injEq]
end
theorem ypW (a b : X) : eqX a b = (a.Kind == b.Kind && (a.Op == b.Op && (eqV a.V b.V && (a.Table == b.Table && (a.Name == b.Name && eqXs a.L b.L))))) := by cases a; cases b; rfl
theorem ymU : ∀ {a b : List X}, eqXs a b = true -> a.length = b.length := fun h => by rw [(yjP _ _).1 h]
theorem ykU {a b : List X} (hl : a.length = b.length) {k : Nat} (h : k < a.length) (h' : k < b.length) : eqXs (a.drop k) (b.drop k) = (eqX a[k] b[k] && eqXs (a.drop (k + 1)) (b.drop (k + 1))) := by
 rw [List.drop_eq_getElem_cons h, List.drop_eq_getElem_cons h']; rfl
theorem yk1 {a : X} (ha : WX a) : ∀ {b : X}, WX b → ybs a b (eqX a b) := by
 induction ha with
 | mk a h hn hs ih =>
   intro b hb Xr hXr
   obtain ⟨_, h', hn', hs'⟩ := hb
   apply hXr
   apply ylh
   have lst : yau a.L b.L Xr (eqXs a.L b.L) := by
    apply ydZ
    intro _ _
    refine ⟨fun q => ?_, fun q _ => ?_⟩
    ·symm; rw [← Bool.not_eq_true]
     intro e
     have := ymU e
     rw [this] at q; simp at q
    ·have hl : a.L.length = b.L.length := by
      have : (a.L.length : Int) = b.L.length := by simpa using q
      omega
     refine lp1 (fun (x : Int) => ∃ k : Nat, x = k /\ k <= a.L.length /\ eqXs a.L b.L = eqXs (a.L.drop k) (b.L.drop k)) (fun (x : Int) => a.L.length - x.toNat) ?_ ⟨0, rfl, by omega, rfl⟩
     rintro X0 x ⟨k, rfl, h1, he⟩ hX
     simp only [yaW]
     refine ⟨fun d => ?_, fun d => ?_⟩
     ·have d : (k : Int) < a.L.length := of_decide_eq_true d
      have hk : k < a.L.length := by omega
      have hk' : k < b.L.length := by omega
      have es := ykU hl hk hk'
      refine ⟨by omega, d, _, gAt hk, by omega, by omega, _, gAt hk', eqX a.L[k] b.L[k], ?_, fun z => ?_, fun z => ?_⟩
      ·rw [ybM, ybM]; exact ih _ (List.getElem_mem hk) (hs' _ (List.getElem_mem hk')) Xr hXr
      ·have z : eqX a.L[k] b.L[k] = false := by simpa using z
       rw [he, es, z]; rfl
      ·have z : eqX a.L[k] b.L[k] = true := by simpa using z
       rw [w1 (by omega)]
       refine hX _ ⟨k + 1, rfl, by omega, ?_⟩ (by omega)
       rw [he, es, z]; rfl
     ·have d : ¬ (k : Int) < a.L.length := of_decide_eq_false d
      rw [he, List.drop_of_length_le (by omega), List.drop_of_length_le (by omega)]; rfl
   have ev : (a.V.Kind == b.V.Kind && (a.V.N == b.V.N && (a.V.S == b.V.S && true))) = eqV a.V b.V := rfl
   rw [ypW]
   unfold yeD
   rw [ev]
   simp only [yaV]
   refine ⟨fun c1 => ⟨fun c2 => ⟨fun c3 => ⟨fun c4 => ⟨fun c5 => ⟨_, lst, ?_⟩, fun c5 => ?_⟩, fun c4 => ?_⟩, fun c3 => ?_⟩, fun c2 => ?_⟩, fun c1 => ?_⟩
   ·rw [c1, c2, c3, c4, c5]; rfl
   ·rw [c5]; simp
   ·rw [c4]; simp
   ·rw [c3]; simp
   ·rw [c2]; simp
   ·rw [c1]; rfl
end Go.Proofs.YtoiojmpkifgimaaDoor
end
noncomputable section
namespace Go.Proofs.YtoiojmpkifgimaaDoor
open Go.AV Go.RowKit
theorem ymq : ∀ l : List E6, (∀ y ∈ l, dX (told y) = dep y) → dXs (l.map told) = deps l
 | [], _ => rfl
 | x :: r, h => by
   simp only [List.map_cons, dXs, deps]
   rw [h x (by simp), ymq r fun y hy => h y (by simp [hy])]
theorem yjm {m : E6} (h : WF m) : WX (told m) ∧ dX (told m) = dep m := by
 induction h with
 | mk m h hn hs ih =>
   rw [yef]
   refine ⟨.mk _ (by show (m.L.map told).length <= 3; rw [List.length_map]; exact h) hn fun y hy => ?_, ?_⟩
   ·have hy : y ∈ m.L.map told := hy
    obtain ⟨z, hz, rfl⟩ := List.mem_map.1 hy
    exact (ih z hz).1
   ·rw [ykP, ykT]
    show 1 + dXs (m.L.map told) = _
    rw [ymq _ fun y hy => (ih y hy).2]
theorem Sh.fn {e : X} {s : Str} (h : Sh e s) : ∀ {t : Str}, Sh e t → s = t := by
 induction h with
 | lit v hv hn => intro t k; cases k; rfl
 | col1 n hn => intro t k; cases k with
   | col1 _ _ => rfl
   | col2 _ _ _ ht => cases ht
 | col2 t0 n hn ht => intro t k; cases k with
   | col1 _ _ => cases ht
   | col2 _ _ _ _ => rfl
 | bin op o a b s t h1 h2 ho ha hb i1 i2 => intro t k; cases k with
   | bin _ o' _ _ s' t' _ _ ho' ha' hb' =>
     rw [ho] at ho'; cases ho'
     rw [i1 ha', i2 hb']
 | no a s ha ih => intro t k; cases k with
   | no _ s' ha' => rw [ih ha']
 | neg a s ha ih => intro t k; cases k with
   | neg _ s' ha' => rw [ih ha']
 | isn a s ha ih => intro t k; cases k with
   | isn _ s' ha' => rw [ih ha']
 | ntn a s ha ih => intro t k; cases k with
   | ntn _ s' ha' => rw [ih ha']
 | cnt => intro t k; cases k; rfl
 | agg op o a s h1 h2 ho ha ih => intro t k; cases k with
   | agg _ o' _ s' _ _ ho' ha' =>
     rw [ho] at ho'; cases ho'
     rw [ih ha']
theorem yqf {e : X} {s : Str} (h : WX e) (hd : dX e ≤ 20) (hg : gX false e = true) (hs : Sh e s) : ybq e s := by
 refine ⟨true, ?_, fun q => (by cases q), fun _ => ⟨s, ?_, rfl⟩⟩
 ·rw [ybM]
  have := ymK h (by omega)
  rw [hg, decide_eq_true hd] at this; exact this
 ·rw [ybM]; exact ysu hs (by omega)
def eA : X := .mk 1 0 ⟨2, 1, []⟩ [] [] []
def eB : X := .mk 2 0 D0 [97] [98] []
def e0 : X := .mk 3 7 D0 [] [] [eA, eB]
theorem wA : WX eA := .mk _ (by show 0 <= 3; omega) (by show Rg 1; unfold Rg; omega) (fun y hy => by cases hy)
theorem wB : WX eB := .mk _ (by show 0 <= 3; omega) (by show Rg 0; unfold Rg; omega) (fun y hy => by cases hy)
theorem w0 : WX e0 := .mk _ (by show 2 ≤ 3; omega) (by show Rg 0; unfold Rg; omega) (fun y hy => by
 have hy : y ∈ [eA, eB] := hy
 simp only [List.mem_cons, List.not_mem_nil, or_false] at hy
 rcases hy with rfl | rfl
 ·exact wA
 ·exact wB)
theorem d0 : dX e0 = 2 := rfl
theorem g0 : gX false e0 = true := by decide
theorem sh0 : Sh e0 [40, 49, 32, 43, 32, 97, 46, 98, 41] := by
 have a : Sh eA [49] := by
  have := Sh.lit ⟨2, 1, []⟩ (.inr (.inr (.inl ⟨rfl, by unfold Rg; simp, rfl⟩))) (fun _ => by simp)
  rw [yif] at this
  have e : Go.Lib.itoa 1 = [49] := by simp [Go.Lib.itoa, Go.Lib.decDigits]
  rw [e] at this; exact this
 have b : Sh eB [97, 46, 98] := Sh.col2 [97] [98] (by decide) (by decide)
 exact Sh.bin 7 [43] eA eB [49] [97, 46, 98] (by omega) (by omega) rfl a b
theorem yod : ybh true := by
 apply yiN
 have g := ymK w0 (by rw [d0]; omega)
 rw [g0, d0] at g
 have dd := ylT w0 (by rw [d0]; omega)
 rw [d0] at dd
 have s1 := yk1 w0 w0
 rw [(yjx e0 e0).2 rfl] at s1
 have s2 := yk1 w0 wA
 have sh := yqf w0 (by rw [d0]; omega) g0 sh0
 have hne : eqX e0 eA = false := rfl
 rw [hne] at s2
 refine ⟨_, yr9 1, true, g, fun _ => ⟨_, sh, fun _ => ⟨2, dd, fun _ => ⟨true, s1, fun _ => ⟨by omega, by show (0 : Int) < 2; omega, eA, rfl, false, s2, rfl⟩, fun q => (by cases q)⟩, fun q => (by cases q)⟩, fun q => (by simp at q)⟩, fun q => (by cases q)⟩
theorem ylf {l : List Pt} (h : ∀ p ∈ l, PtOk p) (a b : Int) : ∀ p ∈ yeF l a b, PtOk p := fun p hp => h p (List.mem_of_mem_drop (List.mem_of_mem_take hp))
end Go.Proofs.YtoiojmpkifgimaaDoor
end
noncomputable section
namespace Go.Proofs.YtoiojmpkifgimaaDoor
open Go.AV Go.RowKit
def ycN (c : Int) : Int := if 97 <= c /\ c <= 122 then 1 else if 65 <= c /\ c <= 90 then 2 else if 48 <= c /\ c <= 57 then 3 else if c = 95 then 4 else if c = 39 then 5 else if c = 32 ∨ c = 10 then 6 else 0
theorem yp3 (c : Int) : ybr c (ycN c) := by
 intro J1 h1
 have k1 : ∀ b, b = decide (97 ≤ c ∧ c ≤ 122) → J1 b := by
  intro b hb
  refine h1 _ ⟨fun t => by grind [ycN], fun t J2 h2 => ?_⟩
  have k2 : ∀ b, b = decide (65 ≤ c ∧ c ≤ 90) → J2 b := by
   intro b hb
   refine h2 _ ⟨fun t => by grind [ycN], fun t J3 h3 => ?_⟩
   have k3 : ∀ b, b = decide (48 ≤ c ∧ c ≤ 57) → J3 b := by
    intro b hb
    refine h3 _ ⟨fun t => by grind [ycN], fun t => ⟨fun t => by grind [ycN], fun t => ⟨fun t => by grind [ycN], fun t J4 h4 => ?_⟩⟩⟩
    have k4 : ∀ b, b = decide (c = 32 ∨ c = 10) → J4 b := by
     intro b hb
     refine h4 _ ⟨fun t => by grind [ycN], fun t => by grind [ycN]⟩
    refine ⟨fun t => k4 _ ?_, fun t => k4 _ ?_⟩ <;> grind
   refine ⟨fun t => k3 _ ?_, fun t => k3 _ ?_⟩ <;> grind
  refine ⟨fun t => k2 _ ?_, fun t => k2 _ ?_⟩ <;> grind
 refine ⟨fun t => k1 _ ?_, fun t => k1 _ ?_⟩ <;> grind
theorem hb0 {c : UInt8} {r : Str} : (0 : Int) <= 0 /\ (0 : Int) < ((c :: r).length : Int) := ⟨by omega, by simp⟩
theorem cls {c : UInt8} : (ycN (c.toNat : Int) = 1 ↔ isS c = true) ∧ ((ycN (c.toNat : Int) = 1 ∨ ycN (c.toNat : Int) = 3 ∨ ycN (c.toNat : Int) = 4) ↔ isR c = true) := by
 simp only [isR, isS, isD, Bool.or_eq_true, Bool.and_eq_true, decide_eq_true_eq, beq_iff_eq]
 unfold ycN
 constructor
 ·split <;> (try split) <;> (try split) <;> (try split) <;> (try split) <;> (try split) <;> omega
 ·split <;> (try split) <;> (try split) <;> (try split) <;> (try split) <;> (try split) <;> omega
theorem yo1 (s : Str) : ybF s (sLex s) := by
 apply ykM
 have no : sLex s = false -> ybg s (sLex s) true := fun q => cnT q.symm
 cases s with
 | nil => exact cnT (no rfl)
 | cons c r =>
   unfold yea
   rw [decide_eq_false (show ¬ ((c :: r).length : Int) < 1 by rw [List.length_cons]; omega)]
   refine cnF ⟨fun h => no ?_, fun h => ⟨hb0, _, yp3 _, ?_⟩⟩
   ·have h : (16 : Int) < (c :: r).length := of_decide_eq_true h
    simp only [sLex]
    rw [decide_eq_false (show ¬ (c :: r).length <= 16 by omega)]; rfl
   ·have h : ¬ (16 : Int) < (c :: r).length := of_decide_eq_false h
    have e0 : bAt (c :: r) 0 = (c.toNat : Int) := rfl
    rw [e0]
    have hs : sLex (c :: r) = (isS c && (c :: r).all isR) := by
     simp only [sLex]
     rw [decide_eq_true (show (c :: r).length <= 16 by omega)]; rfl
    cases hS : isS c with
    | false =>
      have : ¬ ycN (c.toNat : Int) = 1 := fun q => by rw [cls.1.1 q] at hS; cases hS
      have e : (!(ycN (c.toNat : Int) == 1)) = true := by simpa using this
      rw [e]
      exact no (by rw [hs, hS]; rfl)
    | true =>
      have := cls.1.2 hS
      rw [this]
      rw [hS] at hs
      refine cnF ?_
      refine lp1 (fun (x : Int) => ∃ k : Nat, x = k /\ k <= (c :: r).length /\ ((c :: r).take k).all isR = true) (fun (x : Int) => (c :: r).length - x.toNat) ?_ ⟨0, rfl, by omega, rfl⟩
      rintro X x ⟨k, rfl, hk, ha⟩ hX
      unfold ycr
      by_cases hlt : k < (c :: r).length
      ·rw [decide_eq_true (show (k : Int) < (c :: r).length by omega)]
       refine cnT ⟨⟨by omega, by omega⟩, _, yp3 _, ?_⟩
       rw [yl7 hlt]
       have hc := cls (c := (c :: r)[k])
       have stop : isR (c :: r)[k] = false → ya6 X (sLex (c :: r)) k true := fun q => cnT (by
        rw [hs]
        symm
        rw [Bool.true_and, <- Bool.not_eq_true]
        intro hall
        have := List.all_eq_true.1 hall _ (List.getElem_mem hlt)
        rw [q] at this; cases this)
       have go : isR (c :: r)[k] = true → ya6 X (sLex (c :: r)) k false := fun q => cnF (by
        rw [w1 (by omega)]
        refine hX _ ⟨k + 1, rfl, by omega, ?_⟩ (by omega)
        rw [List.take_succ_eq_append_getElem hlt, List.all_append, ha]; simp [q])
       generalize hz : ycN ((c :: r)[k].toNat : Int) = z at *
       refine ⟨fun a => ⟨fun b => ?_, fun b => go ?_⟩, fun a => go ?_⟩
       ·have a : ¬ z = 1 := by simpa using a
        have b : ¬ z = 3 := by simpa using b
        by_cases d : z = 4
        ·subst d; exact go (hc.2.1 (by omega))
        ·have e : (!(z == 4)) = true := by simpa using d
         rw [e]
         refine stop ?_
         rw [<- Bool.not_eq_true]
         intro q
         have := hc.2.2 q
         omega
       ·have b : z = 3 := by simpa using b
        exact hc.2.1 (by omega)
       ·have a : z = 1 := by simpa using a
        exact hc.2.1 (by omega)
      ·rw [decide_eq_false (show ¬ (k : Int) < (c :: r).length by omega)]
       rw [List.take_of_length_le (by omega)] at ha
       exact cnF (by rw [hs, ha]; rfl)
theorem yqh {m : E6} (h : WF m) : dep m ≤ 1000 → yb7 m (dep m) := by
 induction h with
 | mk m h hn hs ih =>
   intro hd
   intro Xr hXr
   apply hXr
   refine lp2 (fun (d i : Int) => 0 <= i /\ i <= m.L.length /\ d = 1 + (deps (m.L.take i.toNat) : Nat)) (fun _ (i : Int) => m.L.length - i.toNat) ?_ ⟨by omega, by omega, by simp [deps]⟩
   intro X d i ⟨h0, h1, h2⟩ hX hlen
   rw [ykT] at hd
   refine ⟨fun hlt => ?_, fun hge => ?_⟩
   ·have hlt : i < m.L.length := by simpa using hlt
    have hi : i.toNat < m.L.length := by omega
    have hm : m.L[i.toNat] ∈ m.L := List.getElem_mem hi
    have hdm := ymD hm
    have e1 : m.L.take (i + 1).toNat = m.L.take i.toNat ++ [m.L[i.toNat]] := by
     have : (i + 1).toNat = i.toNat + 1 := by omega
     rw [this, List.take_succ_eq_append_getElem hi]
    refine ⟨h0, hlt, m.L[i.toNat], by simp [hi], dep m.L[i.toNat], ?_, ?_⟩
    ·rw [yeo]
     exact ih _ hm (by omega) Xr hXr
    ·rw [wrap64 (n := i + 1) (by omega) (by omega), wrap64 (n := (dep m.L[i.toNat] : Int) + 1) (by omega) (by omega)]
     refine ⟨fun c => ?_, fun c => ?_⟩
     ·have c : d ≤ dep m.L[i.toNat] := by simpa using c
      exact hX _ _ ⟨by omega, by omega, by rw [e1, yjj]; omega⟩ (by omega)
     ·have c : ¬ d ≤ dep m.L[i.toNat] := by simpa using c
      exact hX _ _ ⟨by omega, by omega, by rw [e1, yjj]; omega⟩ (by omega)
   ·have hge : ¬ i < m.L.length := by simpa using hge
    have : m.L.take i.toNat = m.L := List.take_of_length_le (by omega)
    rw [this] at h2
    rw [h2, ykT]; omega
theorem pG6 (v : yag) : yb1 v (yd6 ⟨v.Kind, v.N, v.S⟩) := by
 unfold yb1
 grind [yd6, cnd, eqV, D0]
theorem yqS {m : E6} {w : Bool} (ha : ∀ y ∈ m.L, gX (w || m.Kind == 8) (told y) = true) (Xr : E6 → Bool → Bool → Prop) (X : Int → Prop) : ygZ m (gX w (told m)) w Xr X (m.L.length : Int) := by
 intro hl
 rw [decide_eq_false (by omega)]
 refine cnF ?_
 have hr : gX w (told m) = (ygf (told m) && (ygK (told m) && (yfQ (told m) && !(w && m.Kind == 8)))) := by
  rw [ylv, yhB]
  have : (told m).L.all (gX (w || (told m).Kind == 8)) = true := by
   rw [yef]
   show (m.L.map told).all (gX (w || m.Kind == 8)) = true
   rw [List.all_eq_true]
   intro y hy
   obtain ⟨z, hz, rfl⟩ := List.mem_map.1 hy
   exact ha z hz
  rw [this, Bool.and_true, yef]; rfl
 obtain ⟨r, er⟩ : ∃ r, r = gX w (told m) := ⟨_, rfl⟩
 rw [<- er] at hr ⊢
 rw [yef] at hr
 clear ha er
 obtain ⟨k, op, v, t, n, L⟩ := m
 simp only [ygf, ygK, yfQ, yaa.Kind, yaa.Op, yaa.V, yaa.Table, yaa.Name, yaa.L, yab.Kind, yab.Op, yab.V, yab.Table, yab.Name, yab.L, List.length_map] at hr hl ⊢
 have eV : ((v.Kind == (0 : Int)) && ((v.N == (0 : Int)) && ((v.S == ([] : Str)) && true))) = eqV ⟨v.Kind, v.N, v.S⟩ D0 := rfl
 rw [eV]
 generalize hv0 : eqV ⟨v.Kind, v.N, v.S⟩ D0 = v0 at *
 have e0 : ((L.length : Int) == 0) = (L.length == 0) := ygE _ 0
 have e1 : ((L.length : Int) == 1) = (L.length == 1) := ygE _ 1
 have e2 : ((L.length : Int) == 2) = (L.length == 2) := ygE _ 2
 rw [e0]
 clear eV hv0 hl
 by_cases k1 : k = 1
 ·subst k1
  refine cnT fun J3 hJ3 _ => ?_
  have fin : ∀ x, x = r -> J3 x := fun x hx => hJ3 x hx
  have hg := pG6 v
  refine ⟨fun c1 => ⟨fun c2 => ⟨fun c3 => ⟨fun c4 => ⟨_, hg, ⟨fun c5 => ⟨fun c6 => fin _ ?_, fun c6 => fin _ ?_⟩, fun c5 => fin _ ?_⟩⟩, fun c4 => fin _ ?_⟩, fun c3 => fin _ ?_⟩, fun c2 => fin _ ?_⟩, fun c1 => fin _ ?_⟩ <;> simp_all <;> rfl
 by_cases k2 : k = 2
 ·subst k2
  refine cnF (cnT fun J3 hJ3 _ => ?_)
  have fin : ∀ x, x = r -> J3 x := fun x hx => hJ3 x hx
  have hn := yo1 n
  have ht := yo1 t
  refine ⟨fun c1 => ⟨fun c2 => ⟨fun c3 => ⟨_, hn, ⟨fun c4 => ⟨fun c5 => fin _ ?_, fun c5 => ⟨_, ht, fin _ ?_⟩⟩, fun c4 => fin _ ?_⟩⟩, fun c3 => fin _ ?_⟩, fun c2 => fin _ ?_⟩, fun c1 => fin _ ?_⟩ <;> simp_all
 have b1 : (k == (1 : Int)) = false := by simpa using k1
 have b2 : (k == (2 : Int)) = false := by simpa using k2
 rw [b1, b2]
 refine cnF (cnF fun J5 hJ5 => ?_)
 have five : ∀ x, x = (!v0 || (!(t == []) || !(n == []))) → J5 x := by
  intro x hx
  apply hJ5
  unfold yg9
  simp only [yaa.Kind, yaa.Op, yaa.V, yaa.Table, yaa.Name, yaa.L]
  refine ⟨fun c => ?_, fun c => ?_⟩
  ·show false = r
   subst hx; grind
  ·have hx' : v0 = true ∧ t = [] ∧ n = [] := by
    subst hx
    simp only [Bool.or_eq_false_iff, Bool.not_eq_false', beq_iff_eq] at c
    exact c
   obtain ⟨rfl, rfl, rfl⟩ := hx'
   clear hx c
   refine ⟨fun c3 _ => ?_, fun c3 J6 hJ6 => ?_⟩
   ·have c3 : k = 3 := by simpa using c3
    subst c3
    refine ⟨fun c1 => ⟨fun c2 => ?_, fun c2 => ?_⟩, fun c1 => ?_⟩ <;> grind
   ·have c3 : k ≠ 3 := by simpa using c3
    have six : ∀ x, x = decide (k = 4 ∨ k = 5 ∨ k = 6 ∨ k = 7) → J6 x := by
     intro x hx
     apply hJ6
     unfold yg7
     simp only [yaa.Kind, yaa.Op, yaa.V, yaa.Table, yaa.Name, yaa.L]
     refine ⟨fun c => ?_, fun c => ⟨fun c8 J7 hJ7 => ?_, fun c8 => ?_⟩⟩
     ·intro _
      refine ⟨fun c1 => ?_, fun c1 => ?_⟩ <;> grind
     ·have c8 : k = 8 := by simpa using c8
      have fin : ∀ x, x = r -> J7 x := fun x hx => hJ7 x hx
      refine ⟨fun d1 => ⟨fun d2 => ⟨fun d3 _ => ⟨fun d4 => fin _ ?_, fun d4 _ => ⟨fun d5 => fin _ ?_, fun d5 => fin _ ?_⟩⟩, fun d3 => fin _ ?_⟩, fun d2 => fin _ ?_⟩, fun d1 => fin _ ?_⟩ <;> grind
     ·show false = r
      grind
    refine ⟨fun d4 => six _ ?_, fun d4 => ⟨fun d5 => six _ ?_, fun d5 => ⟨fun d6 => six _ ?_, fun d6 => six _ ?_⟩⟩⟩ <;> grind
 refine ⟨fun c1 => five _ ?_, fun c1 => ⟨fun c2 => five _ ?_, fun c2 => five _ ?_⟩⟩ <;> grind
theorem ytF {m : E6} (h : WF m) : ∀ w, yfm m w (gX w (told m)) := by
 induction h with
 | mk m h hn hs ih =>
   intro w Xr hXr
   refine hXr _ _ _ ?_
   refine lp1 (fun (x : Int) => ∃ k : Nat, x = k /\ k <= m.L.length /\ ∀ y ∈ m.L.take k, gX (w || m.Kind == 8) (told y) = true) (fun (x : Int) => m.L.length - x.toNat) ?_ ⟨0, rfl, by omega, by simp⟩
   rintro X x ⟨k, rfl, hk, ha⟩ hX
   by_cases hlt : k < m.L.length
   ·intro hlen
    rw [decide_eq_true (show (k : Int) < m.L.length by omega)]
    refine cnT fun J2 hJ2 => ⟨by omega, by omega, m.L[k], gAt hlt, ?_⟩
    have hm := List.getElem_mem hlt
    rw [yeo]
    have key : ∀ b, b = gX (w || m.Kind == 8) (told m.L[k]) → J2 (!b) := by
     intro b hb
     apply hJ2
     cases b with
     | true =>
       refine cnF ?_
       rw [w1 (by omega)]
       refine hX _ ⟨k + 1, rfl, by omega, fun y hy => ?_⟩ (by omega)
       rw [List.take_succ_eq_append_getElem hlt, List.mem_append] at hy
       rcases hy with hy | hy
       ·exact ha y hy
       ·rw [List.mem_singleton.1 hy]; exact hb.symm
     | false =>
       refine cnT ?_
       rw [ylv, yhB]
       have : (told m).L.all (gX (w || (told m).Kind == 8)) = false := by
        rw [yef]
        show (m.L.map told).all (gX (w || m.Kind == 8)) = false
        rw [<- Bool.not_eq_true, List.all_eq_true]
        intro hall
        have := hall _ (List.mem_map.2 ⟨_, hm, rfl⟩)
        rw [<- hb] at this; cases this
       rw [this]; simp
    cases w with
    | true => exact cnT ⟨_, ih _ hm true Xr hXr, key _ (by simp)⟩
    | false => exact cnF ⟨_, ih _ hm _ Xr hXr, key _ (by simp)⟩
   ·have : k = m.L.length := by omega
    subst this
    rw [List.take_length] at ha
    exact yqS ha Xr X
theorem ynO {m : E6} (h : WF m) (hd : dep m ≤ 1000) : ycz m (decide (dep m ≤ 20) && gX false (told m)) := by
 have h1 := yqh h hd
 by_cases h20 : dep m <= 20
 ·refine ⟨_, by rw [yeo]; exact h1, ?_⟩
  rw [decide_eq_true (show (dep m : Int) <= 20 by omega), decide_eq_true h20]
  exact cnT ⟨_, by rw [yeo]; exact ytF h false, rfl⟩
 ·refine ⟨_, by rw [yeo]; exact h1, ?_⟩
  rw [decide_eq_false (show ¬ (dep m : Int) <= 20 by omega), decide_eq_false h20]
  exact cnF rfl
theorem td10 (x : Int) : (0 ≤ x ∧ x.tdiv 10 = x / 10 ∧ x.tmod 10 = x % 10) ∨ (x < 0 ∧ x.tdiv 10 = -((-x) / 10) ∧ x.tmod 10 = -((-x) % 10)) := by
 by_cases h : 0 <= x
 ·exact .inl ⟨h, Int.tdiv_eq_ediv_of_nonneg h, Int.tmod_eq_emod_of_nonneg h⟩
 ·refine .inr ⟨by omega, ?_, ?_⟩
  ·rw [<- Int.tdiv_eq_ediv_of_nonneg (by omega), Int.neg_tdiv, Int.neg_neg]
  ·rw [<- Int.tmod_eq_emod_of_nonneg (by omega), Int.neg_tmod, Int.neg_neg]
theorem digC {d : Nat} (h : d < 10) : (([IntKind.u8.wrap (IntKind.i64.wrap ((48 : Int) + (d : Int)))] : List Int).map toB) = [UInt8.ofNat (48 + d)] := by
 rw [Go.AV.wrap64 (by omega) (by omega), ysS (by omega) (by omega)]
 simp only [List.map_cons, List.map_nil, toB]
 congr 2
theorem yqY {n : Int} (hr : Rg n) : ycs n (Go.Lib.itoa n) := by
 unfold Rg at hr
 have hlen := Go.Lib.itoa_length_le n hr.1 hr.2
 have main : ∀ sg : Str, Go.Lib.itoa n = sg ++ Go.Lib.decDigits n.natAbs → yeu (Go.Lib.itoa n) n sg := by
  intro sg hsg
  rw [hsg, List.length_append] at hlen
  refine lp2 (fun (x : Int) (s : Str) => -9223372036854775808 <= x /\ x <= 9223372036854775807 /\ Go.Lib.decDigits n.natAbs = Go.Lib.decDigits x.natAbs ++ s) (fun (x : Int) (_ : Str) => x.natAbs) ?_ ⟨hr.1, hr.2, by simp⟩
  rintro X x s ⟨h1, h2, h3⟩ hX J hJ
  have hs : s.length <= 21 := by rw [h3, List.length_append] at hlen; omega
  have ht := td10 x
  have key : ∀ d : Int, d = ((x.natAbs % 10 : Nat) : Int) → J d := by
   intro d hd
   subst hd
   apply hJ
   unfold yeq
   rw [digC (Nat.mod_lt _ (by omega))]
   refine ⟨by simp; omega, ?_⟩
   have hq : IntKind.i64.wrap (x.tdiv 10) = x.tdiv 10 := by
    apply Go.AV.wrap64 <;> omega
   rw [hq]
   by_cases h10 : x.natAbs < 10
   ·have : x.tdiv 10 = 0 := by omega
    rw [this]
    have e : Go.Lib.decDigits x.natAbs = [UInt8.ofNat (48 + x.natAbs % 10)] := by
     rw [Go.Lib.decDigits.eq_1, dif_pos h10, Nat.mod_eq_of_lt h10]
    refine cnT ⟨by simp; omega, ?_⟩
    rw [hsg, h3, e]
   ·have hne : ¬ x.tdiv 10 = 0 := by omega
    have : (x.tdiv 10 == 0) = false := by simpa using hne
    rw [this]
    refine cnF (hX _ _ ⟨by omega, by omega, ?_⟩ (by omega))
    rw [h3, Go.Lib.decDigits.eq_1 x.natAbs, dif_neg h10, List.append_assoc]
    have : (x.tdiv 10).natAbs = x.natAbs / 10 := by omega
    rw [this]
  by_cases hn : x.tmod 10 < 0
  ·rw [decide_eq_true hn]
   refine cnT (key _ ?_)
   rw [Go.AV.wrap64 (by omega) (by omega)]; omega
  ·rw [decide_eq_false hn]
   exact cnF (key _ (by omega))
 intro J1 hJ1
 by_cases h0 : n < 0
 ·rw [decide_eq_true h0]
  refine cnT (hJ1 _ (main _ ?_))
  unfold Go.Lib.itoa; rw [if_pos h0]; rfl
 ·rw [decide_eq_false h0]
  refine cnF (hJ1 _ (main _ ?_))
  unfold Go.Lib.itoa; rw [if_neg h0]
  have : n.natAbs = n.toNat := by omega
  rw [this]; rfl
theorem yrZ {v : yag} (h : good ⟨v.Kind, v.N, v.S⟩) : ydd v (ydc ⟨v.Kind, v.N, v.S⟩) := by
 intro J1 hJ1
 refine ⟨_, pG6 v, ?_⟩
 rw [ym9 h]
 refine cnF (hJ1 _ ?_)
 obtain ⟨k, n, s⟩ := v
 simp only at h ⊢
 rcases yiU h with e | e | e | ⟨x, hx, e⟩ | ⟨x, hx, e⟩
 ·cases e; exact cnT yi4
 ·cases e
  refine cnF fun J2 hJ2 => cnT (hJ2 _ (cnT ?_))
  exact yiS
 ·cases e
  refine cnF fun J2 hJ2 => cnT (hJ2 _ (cnF (cnT ?_)))
  exact yhH
 ·cases e
  refine cnF fun J2 hJ2 => cnF (hJ2 _ (cnF (cnF (cnT ⟨_, yqY hx, ?_⟩))))
  rw [yif]
 ·cases e
  refine cnF fun J2 hJ2 => cnF (hJ2 _ (cnF (cnF (cnF ?_))))
  rw [yi3 hx]
  refine lp2 (fun (o : Str) (i : Int) => ∃ k : Nat, i = k /\ k <= s.length /\ o = [39] ++ dq (s.take k)) (fun (_ : Str) (i : Int) => s.length - i.toNat) ?_ ⟨0, rfl, by omega, rfl⟩
  rintro X o i ⟨k, rfl, hk, rfl⟩ hX
  have hl := ymZ (s.take k)
  rw [List.length_take] at hl
  unfold ygb
  simp only
  by_cases hlt : k < s.length
  ·rw [decide_eq_true (show (k : Int) < s.length by omega), w1 (by omega)]
   have e1 : (s.drop ((k : Nat) : Int).toNat).take (((k + 1 : Nat) : Int).toNat - ((k : Nat) : Int).toNat) = [s[k]] := by
    rw [Int.toNat_natCast, Int.toNat_natCast, List.drop_eq_getElem_cons hlt]
    have : k + 1 - k = 1 := by omega
    rw [this]; rfl
   rw [e1, yl7 hlt]
   have e2 : dq (s.take (k + 1)) = dq (s.take k) ++ (if s[k] = 39 then [39, 39] else [s[k]]) := by
    rw [List.take_succ_eq_append_getElem hlt, yoT]; simp [dq]
   refine cnT ⟨⟨by omega, by omega, by omega⟩, by simp; omega, ⟨by omega, by omega⟩, ⟨fun c => ⟨by simp; omega, hX _ _ ⟨k + 1, rfl, by omega, ?_⟩ (by omega)⟩, fun c => hX _ _ ⟨k + 1, rfl, by omega, ?_⟩ (by omega)⟩⟩
   ·have c : s[k] = 39 := UInt8.toNat_inj.1 (by have : (s[k].toNat : Int) = 39 := by simpa using c
                                                show s[k].toNat = 39; omega)
    rw [e2, if_pos c, c]; simp
   ·have c : s[k] ≠ 39 := fun q => by rw [q] at c; cases c
    rw [e2, if_neg c]; simp
  ·rw [decide_eq_false (show ¬ (k : Int) < s.length by omega)]
   have : k = s.length := by omega
   subst this
   rw [List.take_length]
   refine cnF ⟨by simp; have := ymZ s; omega, rfl⟩
end Go.Proofs.YtoiojmpkifgimaaDoor
end
noncomputable section
namespace Go.Proofs.YtoiojmpkifgimaaDoor
open Go.AV Go.RowKit
theorem yco {m : E6} {k op : Int} {v : V} {t n : Str} {l : List X} (h : told m = .mk k op v t n l) : ∃ v' L', m = .mk k op v' t n L' ∧ (⟨v'.Kind, v'.N, v'.S⟩ : V) = v ∧ L'.map told = l := by
 rw [yef] at h
 obtain ⟨k', op', v', t', n', L'⟩ := m
 injection h with h1 h2 h3 h4 h5 h6
 refine ⟨v', L', ?_, h3, h6⟩
 show yaa.mk k' op' v' t' n' L' = _
 have h1 : k' = k := h1
 have h2 : op' = op := h2
 have h4 : t' = t := h4
 have h5 : n' = n := h5
 subst h1 h2 h4 h5; rfl
theorem map1 {l : List E6} {a : X} (h : l.map told = [a]) : ∃ b, l = [b] ∧ told b = a := by
 match l, h with
 | [b], h => exact ⟨b, rfl, by simpa using h⟩
theorem map2 {l : List E6} {a b : X} (h : l.map told = [a, b]) : ∃ c d, l = [c, d] ∧ told c = a ∧ told d = b := by
 match l, h with
 | [c, d], h => exact ⟨c, d, rfl, by simpa using h⟩
theorem yqo {e : X} {s : Str} (h : Sh e s) : ∀ m : E6, told m = e → dX e ≤ 40 → ycv m s := by
 induction h with
 | lit v hv hn =>
   intro m hm _ Xr hXr
   obtain ⟨v', L', rfl, rfl, _⟩ := yco hm
   exact hXr _ _ (cnT ⟨_, yrZ hv, rfl⟩)
 | col1 n hn =>
   intro m hm _ Xr hXr
   obtain ⟨v', L', rfl, _, _⟩ := yco hm
   exact hXr _ _ (cnF (cnT (cnT rfl)))
 | col2 t n hn ht =>
   intro m hm _ Xr hXr
   obtain ⟨v', L', rfl, _, _⟩ := yco hm
   have l1 := ydX hn
   have l2 := ydX ht
   refine hXr _ _ (cnF (cnT ⟨fun q => ?_, fun _ => ⟨?_, ?_, rfl⟩⟩))
   ·cases t with
    | nil => cases ht
    | cons c r => cases (show false = true from q)
   ·show t.length + 1 <= _; omega
   ·show (t ++ [46]).length + n.length <= _; rw [List.length_append]; show t.length + 1 + _ <= _; omega
 | bin op o a b s t h1 h2 ho ha hb i1 i2 =>
   intro m hm hd Xr hXr
   obtain ⟨v', L', rfl, _, hL⟩ := yco hm
   obtain ⟨c, d, rfl, hc, hd'⟩ := map2 hL
   rw [d2] at hd
   have la := ha.short (by omega)
   have lb := hb.short (by omega)
   have lo := ylk ho
   refine hXr _ _ (cnF (cnF (cnT ⟨by omega, by show (0 : Int) < 2; omega, c, rfl, s, by rw [yeo]; exact i1 c hc (by omega) Xr hXr, ?_, ?_, o, ⟨by show 0 <= op; omega, by show op < 15; omega, o, ho, rfl⟩, ?_, ?_, by omega, by show (1 : Int) < 2; omega, d, rfl, t, by rw [yeo]; exact i2 d hd' (by omega) Xr hXr, ?_, ?_, rfl⟩))) <;> simp <;> omega
 | no a s ha ih =>
   intro m hm hd Xr hXr
   obtain ⟨v', L', rfl, _, hL⟩ := yco hm
   obtain ⟨c, rfl, hc⟩ := map1 hL
   rw [d1] at hd
   have la := ha.short (by omega)
   refine hXr _ _ (cnF (cnF (cnF (cnT ⟨by omega, by show (0 : Int) < 1; omega, c, rfl, s, by rw [yeo]; exact ih c hc (by omega) Xr hXr, ?_, ?_, rfl⟩)))) <;> simp <;> omega
 | neg a s ha ih =>
   intro m hm hd Xr hXr
   obtain ⟨v', L', rfl, _, hL⟩ := yco hm
   obtain ⟨c, rfl, hc⟩ := map1 hL
   rw [d1] at hd
   have la := ha.short (by omega)
   refine hXr _ _ (cnF (cnF (cnF (cnF (cnT ⟨by omega, by show (0 : Int) < 1; omega, c, rfl, s, by rw [yeo]; exact ih c hc (by omega) Xr hXr, ?_, ?_, rfl⟩))))) <;> simp <;> omega
 | isn a s ha ih =>
   intro m hm hd Xr hXr
   obtain ⟨v', L', rfl, _, hL⟩ := yco hm
   obtain ⟨c, rfl, hc⟩ := map1 hL
   rw [d1] at hd
   have la := ha.short (by omega)
   refine hXr _ _ (cnF (cnF (cnF (cnF (cnF (cnT ⟨by omega, by show (0 : Int) < 1; omega, c, rfl, s, by rw [yeo]; exact ih c hc (by omega) Xr hXr, ?_, ?_, rfl⟩)))))) <;> simp <;> omega
 | ntn a s ha ih =>
   intro m hm hd Xr hXr
   obtain ⟨v', L', rfl, _, hL⟩ := yco hm
   obtain ⟨c, rfl, hc⟩ := map1 hL
   rw [d1] at hd
   have la := ha.short (by omega)
   refine hXr _ _ (cnF (cnF (cnF (cnF (cnF (cnF (cnT ⟨by omega, by show (0 : Int) < 1; omega, c, rfl, s, by rw [yeo]; exact ih c hc (by omega) Xr hXr, ?_, ?_, rfl⟩))))))) <;> simp <;> omega
 | cnt =>
   intro m hm _ Xr hXr
   obtain ⟨v', L', rfl, _, hL⟩ := yco hm
   have hL : L' = [] := by simpa using hL
   subst hL
   exact hXr _ _ (cnF (cnF (cnF (cnF (cnF (cnF (cnF (fun _ => cnT ⟨by show (0 : Int) <= 1; omega, by show (1 : Int) < 5; omega, [67, 79, 85, 78, 84], rfl, by simp, rfl⟩))))))))
 | agg op o a s h1 h2 ho ha ih =>
   intro m hm hd Xr hXr
   obtain ⟨v', L', rfl, _, hL⟩ := yco hm
   obtain ⟨c, rfl, hc⟩ := map1 hL
   rw [d1] at hd
   have la := ha.short (by omega)
   have lo := ylD ho
   refine hXr _ _ (cnF (cnF (cnF (cnF (cnF (cnF (cnF (fun _ => cnF ⟨by show 0 <= op; omega, by show op < 5; omega, o, ho, ?_, by omega, by show (0 : Int) < 1; omega, c, rfl, s, by rw [yeo]; exact ih c hc (by omega) Xr hXr, ?_, ?_, rfl⟩)))))))) <;> simp <;> omega
end Go.Proofs.YtoiojmpkifgimaaDoor
end
noncomputable section
namespace Go.Proofs.YtoiojmpkifgimaaDoor
open Go.AV Go.RowKit
theorem yr4 (m : E6) : pa m = m :: pas m.L := by cases m; rfl
theorem yn8 {y : E6} : ∀ {l : List E6}, y ∈ l → (pa y).length ≤ (pas l).length
 | x :: l, h => by
   simp only [pas, List.length_append]
   rcases List.mem_cons.1 h with rfl | h
   ·omega
   ·have := yn8 h; omega
theorem ymn (x : E6) : ∀ l, pas (l ++ [x]) = pas l ++ pa x
 | [] => by simp [pas]
 | y :: l => by simp only [List.cons_append, pas, ymn x l, List.append_assoc]
theorem ypc {m : E6} (h : WF m) : (pa m).length ≤ 1000 → ycQ m (pa m) := by
 induction h with
 | mk m h hn hs ih =>
   intro hd Xr hXr
   apply hXr
   apply yiK
   rw [yr4] at hd ⊢
   simp only [List.length_cons] at hd
   refine lp2 (fun (i : Int) out => 0 <= i /\ i <= m.L.length /\ out = m :: pas (m.L.take i.toNat) /\ (pas (m.L.take i.toNat)).length <= (pas m.L).length) (fun (i : Int) _ => m.L.length - i.toNat) ?_ ⟨by omega, by omega, by simp [pas, yeo], by simp [pas]⟩
   intro X1 i out ⟨h0, h1, h2, h4⟩ hX hlen
   refine ⟨fun hlt => ?_, fun hge => ?_⟩
   ·have hlt : i < m.L.length := by simpa using hlt
    have hi : i.toNat < m.L.length := by omega
    have hm : m.L[i.toNat] ∈ m.L := List.getElem_mem hi
    have hle := yn8 hm
    have e1 : m.L.take (i + 1).toNat = m.L.take i.toNat ++ [m.L[i.toNat]] := by
     have : (i + 1).toNat = i.toNat + 1 := by omega
     rw [this, List.take_succ_eq_append_getElem hi]
    have e2 : (pas (m.L.take (i + 1).toNat)).length ≤ (pas m.L).length := by
     have key : ∀ (l : List E6) (k : Nat), (pas (l.take k)).length ≤ (pas l).length := by
      intro l
      induction l with
      | nil => intro k; simp
      | cons x l ih => intro k; cases k with
        | zero => simp [pas]
        | succ k => simp only [List.take_succ_cons, pas, List.length_append]; have := ih k; omega
     exact key _ _
    refine ⟨h0, hlt, m.L[i.toNat], by simp [hi], pa m.L[i.toNat], ?_, ?_, by omega, ?_⟩
    ·rw [yeo]; exact ih _ hm (by omega) Xr hXr
    ·rw [h2]; simp only [List.length_cons]; omega
    ·rw [wrap64 (by omega) (by omega)]
     refine hX _ _ ⟨by omega, by omega, ?_, e2⟩ (by omega)
     rw [h2, e1, ymn]; rfl
   ·have hge : ¬ i < m.L.length := by simpa using hge
    have : m.L.take i.toNat = m.L := List.take_of_length_le (by omega)
    rw [h2, this]
mutual
def wl : X → List X
 | .mk k o v t n L => .mk k o v t n L :: wls L
def wls : List X → List X
 | [] => []
 | x :: r => wl x ++ wls r
end
mutual
theorem ykc : ∀ m : E6, wl (told m) = (pa m).map told
 | .mk k o v t n L => by
   have e : told (.mk k o v t n L) = .mk k o ⟨v.Kind, v.N, v.S⟩ t n (ylR L) := rfl
   rw [e]
   simp only [wl, pa, List.map_cons, e, yl9 L]
theorem yl9 : ∀ L : List E6, wls (ylR L) = (pas L).map told
 | [] => rfl
 | x :: r => by simp only [ylR, wls, pas, List.map_append, ykc x, yl9 r]
end
theorem ytH {m : E6} (h : WF m) : ∀ y ∈ pa m, WF y := by
 induction h with
 | mk m h hn hs ih =>
   intro y hy
   rw [yr4] at hy
   rcases List.mem_cons.1 hy with rfl | hy
   ·exact .mk _ h hn hs
   ·have key : ∀ l : List E6, (∀ z ∈ l, ∀ y ∈ pa z, WF y) → ∀ y ∈ pas l, WF y := by
     intro l
     induction l with
     | nil => intro _ y hy; cases hy
     | cons x l ih =>
       intro hl y hy
       simp only [pas, List.mem_append] at hy
       rcases hy with hy | hy
       ·exact hl x (by simp) y hy
       ·exact ih (fun z hz => hl z (by simp [hz])) y hy
    exact key m.L (fun z hz => ih z hz) y hy
def eqE (a b : E6) : Bool := eqX (told a) (told b)
theorem ysV (a b : E6) : eqE a b = (a.Kind == b.Kind && (a.Op == b.Op && (((a.V.Kind == b.V.Kind) && ((a.V.N == b.V.N) && ((a.V.S == b.V.S) && true))) && (a.Table == b.Table && (a.Name == b.Name && eqXs (a.L.map told) (b.L.map told)))))) := by
 unfold eqE
 rw [ypW, yef a, yef b]; rfl
theorem yqF {a : E6} (ha : WF a) : ∀ {b : E6}, ydg a b (eqE a b) := by
 induction ha with
 | mk a h hn hs ih =>
   intro b Xr hXr
   apply hXr
   apply yjn
   have main : a.L.length = b.L.length → ∀ r, r = eqXs (a.L.map told) (b.L.map told) → yaD Xr a b r false := by
    intro hl r hr
    subst hr
    refine ⟨fun c => (by cases c), fun _ => ?_⟩
    have hl' : (a.L.map told).length = (b.L.map told).length := by simpa using hl
    refine lp1 (fun (x : Int) => ∃ k : Nat, x = k /\ k <= a.L.length /\ eqXs (a.L.map told) (b.L.map told) = eqXs ((a.L.map told).drop k) ((b.L.map told).drop k)) (fun (x : Int) => a.L.length - x.toNat) ?_ ⟨0, rfl, by omega, rfl⟩
    rintro X0 x ⟨k, rfl, h1, he⟩ hX _
    refine ⟨fun d => ?_, fun d => ?_⟩
    ·have d : (k : Int) < a.L.length := of_decide_eq_true d
     have hk : k < a.L.length := by omega
     have hk' : k < b.L.length := by omega
     have es := ykU hl' (k := k) (by simpa using hk) (by simpa using hk')
     simp only [List.getElem_map] at es
     refine ⟨by omega, d, _, gAt hk, by omega, by omega, _, gAt hk', eqE a.L[k] b.L[k], ?_, fun z => ?_, fun z => ?_⟩
     ·rw [yeo, yeo]; exact ih _ (List.getElem_mem hk) Xr hXr
     ·have z : eqX (told a.L[k]) (told b.L[k]) = false := by simpa [eqE] using z
      rw [he, es, z]; rfl
     ·have z : eqX (told a.L[k]) (told b.L[k]) = true := by simpa [eqE] using z
      rw [w1 (by omega)]
      refine hX _ ⟨k + 1, rfl, by omega, ?_⟩ (by omega)
      rw [he, es, z]; rfl
    ·have d : ¬ (k : Int) < a.L.length := of_decide_eq_false d
     have d1 : (a.L.map told).length <= k := by rw [List.length_map]; omega
     have d2 : (b.L.map told).length <= k := by rw [List.length_map]; omega
     rw [he, List.drop_of_length_le d1, List.drop_of_length_le d2]; rfl
   have no : ∀ {r : Bool}, r = false -> yaD Xr a b r true := fun hr => ⟨fun _ => hr.symm, fun c => (by cases c)⟩
   rw [ysV]
   refine ⟨fun c1 => no ?_, fun c1 => ⟨fun c2 => no ?_, fun c2 => ⟨fun c3 => no ?_, fun c3 => ⟨fun c4 => no ?_, fun c4 => ⟨fun c5 => no ?_, fun c5 _ _ => ?_⟩⟩⟩⟩⟩
   ·simp only [Bool.not_eq_true'] at c1; rw [c1]; rfl
   ·simp only [Bool.not_eq_true'] at c2; rw [c2]; simp
   ·simp only [Bool.not_eq_true'] at c3; rw [c3]; simp
   ·simp only [Bool.not_eq_true'] at c4; rw [c4]; simp
   ·simp only [Bool.not_eq_true'] at c5; rw [c5]; simp
   ·simp only [Bool.not_eq_false'] at c1 c2 c3 c4 c5
    rw [c1, c2, c3, c4, c5]
    simp only [Bool.true_and]
    by_cases hl : a.L.length = b.L.length
    ·have : (!((a.L.length : Int) == (b.L.length : Int))) = false := by simp [hl]
     rw [this]; exact main hl _ rfl
    ·have : (!((a.L.length : Int) == (b.L.length : Int))) = true := by simp; omega
     rw [this]
     refine no ?_
     rw [<- Bool.not_eq_true]
     intro e
     have := ymU e
     simp at this; exact hl this
end Go.Proofs.YtoiojmpkifgimaaDoor
end
