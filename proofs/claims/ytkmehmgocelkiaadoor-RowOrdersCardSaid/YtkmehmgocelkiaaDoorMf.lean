/- General texts and own ones, joined: what the program computes, told of abstract states, and the laws of plain data. No condition. -/
import Derived.Test.YtkmehmgocelkiaaDoorMc
import Derived.Lib.LaidTab
import Derived.Lib.CountLaws
import Derived.Sort.Grow
import Derived.Lib.ItoaNum
import Derived.Lib.Join
import Derived.Lib.ReplaceLaws
import Derived.Test.YtkmehmgocelkiaaDoorMb
import Derived.HandedShaped
import Derived.LaidMore
import Derived.Lay
import Derived.Stop.LaidErr
import Derived.Shelf.Vars
import Derived.Shelf.Strings.Builder1
import Derived.Shelf.Strings.Builder2
import Derived.Shelf.Strings.OnBuilder
import Derived.Shelf.Small.Wraps
import Derived.Shelf.Strings.BuilderF
import Derived.Shelf.Strings.BuilderK
import Derived.Shelf.Utf8.RuneCount
import Derived.Shelf.Strings.Builder2Cap
import Derived.Shelf.Strconv.Itoa0
import Derived.Shelf.Strconv.Itoa1
import Derived.Shelf.LaysM
import Derived.Shelf.Strconv.Itoa2
import Derived.Shelf.Strconv.Itoa3
import Derived.Shelf.Strconv.Itoa4
import Derived.Shelf.Strings.Search1
import Derived.Shelf.Strings.Search2
import Derived.Shelf.Strings.Search3
import Derived.Shelf.Strings.Count
import Derived.Shelf.Strings.Shaped
import Derived.Shelf.Strings.Split
import Derived.Shelf.Strings.Replace
import Derived.Shelf.Strings.SplitShaped
import Derived.Shelf.Unicode.Decode
import Derived.Shelf.Strings.RuneCount
import Derived.Shelf.Bits.Mul64
import Derived.Shelf.Unicode.DecodeSlow
import Derived.Shelf.Unicode.DecodeAny
import Derived.Shelf.Strings.BuilderCap
import Derived.Ground.Names2Prog
import Derived.Shelf.Slices.SearchI
import Derived.Ground.SlgnProg
import Derived.Shelf.SlicesG.SearchI
import Derived.Ground.SlgcProg
import Derived.Shelf.SlicesG.Cmp
import Derived.Test.YtkmehmgocelkiaaDoorProg
import Derived.Test.YtkmehmgocelkiaaDoorMa
import Derived.Test.YtkmehmgocelkiaaDoorRows
import Derived.KernelRfl
import Derived.Test.YtkmehmgocelkiaaDoorMe
noncomputable section
namespace Go.AV
open Go.RowKit Go.RG Go.Lib
theorem yt2 (w : World) (k : Nat) (os : Array Obj) : Below w.heap.size w (Sort.grow (w.drewN k) os) := by
 refine ⟨rfl, rfl, rfl, ?_, fun i hi => ?_⟩
 ·show w.heap.size ≤ (w.heap ++ os).size
  rw [Array.size_append]; omega
 ·show (w.heap ++ os)[i]? = w.heap[i]?
  rw [Array.getElem?_append_left hi]
theorem yjv {P : Program} {f : FuncId} {fn : Func} (hfn : P.funcs[f]? = some fn) (hb : (if fn.name == "runtime.NumGoroutine" then none else fn.body).isSome = true) {args : List AV} {v : AV} (hn : v.noL = true)
  (h : ∀ (G : Gh) (vs : List Value), GOK P G.w G.I -> (∀ b, G.I b -> b < G.w.heap.size) -> VRs G args vs -> Calls P f vs.toArray G.w fun e w' => ∃ x, e = .returned x /\ (∀ G', VR G' v x) /\ Below G.w.heap.size G.w w') : Pure P f args v := by
 intro H n G vs hg hM hV
 obtain ⟨b, hb⟩ := Option.isSome_iff_exists.1 hb
 split at hb
 ·cases hb
 ·rename_i hname
  have hcall : (callFunc f vs).run P G.w = .ok (.enter f vs) G.w := by
   simp only [callFunc, Sem.run_bind, run_program, Result.andThen_ok, hfn]
   rw [if_neg hname]
   simp [hb]
  unfold yh4
  rw [hcall]
  have h0 := h G vs.toList hg hM.lt hV
  rw [Array.toArray_toList] at h0
  refine Calls.mono h0 ?_
  rintro e w' ⟨x, rfl, hx, hbl⟩
  obtain ⟨G', g1, _, g3⟩ := hM.grow hbl.size hbl.block hbl.os hbl.tape hbl.output
  exact ⟨x, v, H, n, G', rfl, ⟨rfl, rfl, rfl⟩, g1, g3, hx G', hn⟩
theorem Pure.congr {P : Program} {f : FuncId} {a a' : List AV} {v v' : AV} (h : Pure P f a v) (ha : a = a') (hv : v = v') : Pure P f a' v' := by subst ha; subst hv; exact h
theorem GOK.tab {P : Program} {w : World} {I : Nat → Prop} (h : GOK P w I) (hg : (P.globalNamed "internal/strconv.uint64pow10").isSome = true) : TabIs P w "internal/strconv.uint64pow10" .u64 pow10Tab := by
 obtain ⟨g, e⟩ := Option.isSome_iff_exists.1 hg
 obtain ⟨_, t, fr, c⟩ := h.1 _ _ (by unfold yr0; exact List.mem_cons_self) g e
 unfold TabIs World.var?
 rw [e]
 simp only [Option.bind_some, c]
 rfl
theorem GOK.maxLen {P : Program} {w : World} {I : Nat → Prop} (h : GOK P w I) {g : Nat} (hg : P.globalNamed "internal/bytealg.MaxLen" = some g) : ∃ m, w.cell? ⟨g, 0, .none⟩ = some (.int .i64 m) := by
 obtain ⟨_, m, t, fr, c⟩ := h.2.1 g hg
 exact ⟨m, by simp [World.cell?, c]⟩
theorem VR.stv {G : Gh} {l : List UInt8} {v : Value} (h : VR G (.st l) v) : ∃ s, v = .string s ∧ s.data.toList = l := by
 cases h with
 | st l s h => exact ⟨s, rfl, h⟩
theorem VR.itv {G : Gh} {k : IntKind} {n : Int} {v : Value} (h : VR G (.it k n) v) : v = .int k n := by
 cases h; rfl
theorem vs2 {G : Gh} {a b : AV} {vs : List Value} (h : VRs G [a, b] vs) : ∃ x y, vs = [x, y] ∧ VR G a x ∧ VR G b y := by
 match vs, h with
 | [x, y], h => exact ⟨x, y, rfl, h.head, h.tail.head⟩
 | [], h => have := h.1; simp at this
 | [_], h => have := h.1; simp at this
 | _ :: _ :: _ :: _, h => have := h.1; simp at this
theorem vs3 {G : Gh} {a b c : AV} {vs : List Value} (h : VRs G [a, b, c] vs) : ∃ x y z, vs = [x, y, z] ∧ VR G a x ∧ VR G b y ∧ VR G c z := by
 match vs, h with
 | [x, y, z], h => exact ⟨x, y, z, rfl, h.head, h.tail.head, h.tail.tail.head⟩
 | [], h => have := h.1; simp at this
 | [_], h => have := h.1; simp at this
 | [_, _], h => have := h.1; simp at this
 | _ :: _ :: _ :: _ :: _, h => have := h.1; simp at this
theorem ynp {P : Program} {f : FuncId} {fn : Func} (hfn : P.funcs[f]? = some fn) (hb : (if fn.name == "runtime.NumGoroutine" then none else fn.body).isSome = true) (hg : (P.globalNamed "internal/strconv.uint64pow10").isSome = true)
  (hc : ∀ (n : Int), -9223372036854775808 <= n -> n <= 9223372036854775807 -> ∀ w : World, TabIs P w "internal/strconv.uint64pow10" .u64 pow10Tab -> Calls P f #[.int .i64 n, .int .i64 10] w fun e w' => e = .returned (.string ⟨(itoa n).toArray⟩) /\ ∃ k os, w' = Sort.grow (w.drewN k) os)
  {n : Int} (h0 : -9223372036854775808 <= n) (h1 : n <= 9223372036854775807) : Pure P f [.it .i64 n, .it .i64 10] (.st (itoa n)) := by
 refine yjv hfn hb rfl fun G vs hG hI hV => ?_
 obtain ⟨x, y, rfl, hx, hy⟩ := vs2 hV
 rw [hx.itv, hy.itv]
 refine Calls.mono (hc n h0 h1 G.w (hG.tab hg)) ?_
 rintro e w' ⟨rfl, k, os, rfl⟩
 exact ⟨_, rfl, fun G' => .st _ _ (by simp), yt2 _ _ _⟩
theorem ymB {P : Program} {f : FuncId} {fn : Func} {g : Nat} (hfn : P.funcs[f]? = some fn) (hb : (if fn.name == "runtime.NumGoroutine" then none else fn.body).isSome = true) (hg : P.globalNamed "internal/bytealg.MaxLen" = some g)
  (hc : ∀ (s old new : ByteArray) (m : Int) (w : World), s.size < 4294967281 → w.cell? ⟨g, 0, none⟩ = some (.int .i64 m) → 1 ≤ old.size → s.size + countB s old * new.size ≤ 140737488355328 →
    Calls P f #[.string s, .string old, .string new] w fun e w' => e = .returned (.string ⟨(replaceAll s.data.toList old.data.toList new.data.toList).toArray⟩) /\ Below w.heap.size w w')
  {s old new : Str} (h0 : s.length <= 100000) (h1 : 1 <= old.length) (h2 : new.length <= 100000) : Pure P f [.st s, .st old, .st new] (.st (replaceAll s old new)) := by
 refine yjv hfn hb rfl fun G vs hG hI hV => ?_
 obtain ⟨x, y, z, rfl, hx, hy, hz⟩ := vs3 hV
 obtain ⟨xs, rfl, rfl⟩ := hx.stv
 obtain ⟨ys, rfl, rfl⟩ := hy.stv
 obtain ⟨zs, rfl, rfl⟩ := hz.stv
 obtain ⟨m, hm⟩ := hG.maxLen hg
 simp only [Array.length_toList, ByteArray.size_data] at h0 h1 h2
 have hcnt : countB xs ys ≤ xs.size + 1 := by
  have := count_le xs.data.toList ys.data.toList
  simpa [countB] using this
 refine Calls.mono (hc xs ys zs m G.w (by omega) hm h1 ?_) ?_
 ·have : countB xs ys * zs.size ≤ 100001 * 100000 := Nat.mul_le_mul (by omega) h2
  omega
 ·rintro e w' ⟨rfl, hw⟩
  exact ⟨_, rfl, fun G' => .st _ _ (by simp), hw⟩
theorem yy5 (l : List Str) : cl eS l = l.map AV.st := by
 induction l with
 | nil => rfl
 | cons x l ih => show [AV.st x] ++ cl eS l = _; rw [ih]; rfl
theorem yvv {P : Program} {f : FuncId} {fn : Func} (hfn : P.funcs[f]? = some fn) (hb : (if fn.name == "runtime.NumGoroutine" then none else fn.body).isSome = true)
  (hc0 : ∀ (a : Option Addr) (c : Nat) (sep : ByteArray) (w : World), Calls P f #[.slice a 0 c, .string sep] w fun e w' => e = .returned (.string ⟨#[]⟩) /\ w' = w)
  (hc : ∀ (bk o c : Nat) (xs : List ByteArray) (sep : ByteArray) (w : World), (∀ (j : Nat) x, xs[j]? = some x → w.cell? ⟨bk, o + j, none⟩ = some (.string x)) → bk < w.heap.size → xs.length ≤ 140737488355328 → xs.length ≤ c →
    (join (xs.map (·.data.toList)) sep.data.toList).length <= 140737488355328 ->
    Calls P f #[.slice (some ⟨bk, o, none⟩) xs.length c, .string sep] w fun e w' => e = .returned (.string ⟨(join (xs.map (·.data.toList)) sep.data.toList).toArray⟩) /\ Below w.heap.size w w')
  {l : List Str} {sep : Str} (h1 : l.length <= 100000) (h2 : (join l sep).length <= 140737488355328) : Pure P f [slA eS l, .st sep] (.st (join l sep)) := by
 have hcl : slA eS l = .sl false l.length (l.map .st) := by unfold slA; rw [yy5]
 rw [hcl]
 refine yjv hfn hb rfl fun G vs hG hI hV => ?_
 obtain ⟨x, y, rfl, hx, hy⟩ := vs2 hV
 obtain ⟨ys, rfl, rfl⟩ := hy.stv
 have none0 : ∀ (a : Option Addr) (c : Nat), l = [] → Calls P f #[.slice a 0 c, .string ys] G.w fun e w' => ∃ x, e = .returned x ∧ (∀ G', VR G' (.st (join l ys.data.toList)) x) ∧ Below G.w.heap.size G.w w' := by
  rintro a c rfl
  refine Calls.mono (hc0 a c ys G.w) ?_
  rintro e w' ⟨rfl, rfl⟩
  exact ⟨_, rfl, fun G' => .st _ _ rfl, Below.refl _ _⟩
 generalize hn : l.length = n at hx
 generalize hxs : l.map AV.st = xs at hx
 cases hx with
 | nsl z n xs hn' hx' =>
   subst hn'; exact none0 none 0 (List.eq_nil_of_length_eq_zero hn)
 | esl n xs hn' hx' a cap =>
   subst hn'; exact none0 (some a) cap (List.eq_nil_of_length_eq_zero hn)
 | sl n xs b off cap g hIb hcell h h1' hcap hm hq =>
   subst hn; subst hxs
   let L : List ByteArray := l.map fun s => ⟨s.toArray⟩
   have hL : L.map (·.data.toList) = l := by
    simp [L, List.map_map, Function.comp_def]
   have hLl : L.length = l.length := by simp [L]
   have key := hc b off cap L ys G.w (fun j x hx => by
    have hj : j < l.length := by rw [<- hLl]; exact (List.getElem?_eq_some_iff.1 hx).1
    have hx2 : x = ⟨(l[j]).toArray⟩ := by
     have : L[j]? = some ⟨(l[j]).toArray⟩ := by simp [L, List.getElem?_map, List.getElem?_eq_getElem hj]
     rw [this] at hx; exact (Option.some.inj hx).symm
    have hu : (l.map AV.st)[j]? = some (.st l[j]) := by simp [List.getElem?_map, List.getElem?_eq_getElem hj]
    obtain ⟨s, e1, e2⟩ := (h j _ hu).stv
    rw [hcell j _ hu, e1, hx2]
    congr 2
    cases s with
    | mk d => simp only at e2; rw [<- e2]) (hI b hIb) (by rw [hLl]; omega) (by rw [hLl]; exact hcap) (by rw [hL]; exact h2)
   rw [hLl, hL] at key
   refine Calls.mono key ?_
   rintro e w' ⟨rfl, hw⟩
   exact ⟨_, rfl, fun G' => .st _ _ (by simp), hw⟩
end Go.AV
end
noncomputable section
namespace Go.AV
open Go.RowKit Go.RG Go.ChangeShapes Go.WideShapes Go.ChangeAt
theorem ye8 {H : Type} {enc : TypeId × Value → H} {a : Assume} {C : Checked} {os : Os} {f : FuncId} {fn : Func} {s : ChangeSpec} {conds : List PathCond} {apart fresh handsOn again : Bool} {X : World → Array Value → Prop}
  (hX : ∀ (w w' : World) (args : Array Value), w.heap = w'.heap -> X w args -> X w' args)
  (own : ownKnob C.prog.godebug = none) (started : os.Started) (noInit : C.prog.inits.idxOf? f = none) (hfn : C.prog.funcs[f]? = some fn)
  (witness : ∃ (w : World) (tape : Tape) (i : Input), w.os = os ∧ (w.forCall tape i).Shaped C.prog ∧ i.vars = [] ∧ Input.okWide C.prog (w.forCall tape i) .any w.heap.size f i ∧
    ((s.pre enc C.prog fn conds apart (w.forCall tape i).memory i.args /\ X (w.forCall tape i).memory i.args) /\ sizedMet enc C.prog fn (OpenSpec.ofChange s) apart (w.forCall tape i).memory i.args) /\ a.holds C.prog (lone (Frame.enter C.prog f i.args .normal) [] (w.forCall tape i)))
  (contract : ∀ (W : World) (base : Nat) (args : Array Value) (ds gs : List (DataW H)) (before : List MemPlace),
    (∀ (j : Nat) t v, fn.params[j]? = some t -> args[j]? = some v -> Value.okWide C.prog W .any base t v) ->
    DataW.Whole enc C.prog fn.params.toList s.vars apart W args.toList ds gs before ->
    X W args -> W.ShapedOpen C.prog ->
    Calls C.prog f args W fun e W' => ∃ v, e = .returned v /\ s.post enc C.prog fn apart fresh handsOn again W args v W') :
  ReturnsInHanded a C os f .any (fun w args => (s.pre enc C.prog fn conds apart w args /\ X w args) /\ sizedMet enc C.prog fn (OpenSpec.ofChange s) apart w args) (s.post enc C.prog fn apart fresh handsOn again) := by
 refine returnsInHanded_of_calls own started noInit witness ?_
 intro w tape i _ hsh _ hok hpre _
 obtain ⟨_, _, _, fn', hfn', _, _, _, _, hval⟩ := hok
 have e : fn' = fn := Option.some.inj (hfn'.symm.trans hfn)
 subst e
 obtain ⟨⟨⟨ds, gs, before, hw, hc⟩, hx⟩, hz⟩ := hpre
 have hw' := DataW.Whole.of_heap (w' := w.forCall tape i) (by rfl) hw
 refine (contract (w.forCall tape i) w.heap.size i.args ds gs before hval hw' (hX _ _ _ (by rfl) hx) hsh).mono fun e W' ⟨v, he, hp⟩ => ?_
 subst he
 exact ChangeSpec.post_blind hp
theorem ywO {P : Program} {W : World} {name : String} {k : IntKind} {zs : List Int} {g : Nat} (h : Go.Lib.TabIs P W name k zs) (hg : P.globalNamed name = some g) :
  g < W.heap.size /\ ∃ t fr, W.heap[g]? = some (.cells (zs.map fun z => Value.int k z).toArray t fr) := by
 unfold Go.Lib.TabIs World.var? at h
 rw [hg] at h
 simp only [Option.bind_some] at h
 split at h
 ·rename_i cs t fr e
  cases h
  exact ⟨(Array.getElem?_eq_some_iff.1 e).1, t, fr, e⟩
 ·cases h
theorem ywR {P : Program} {W : World} {g : Nat} {t : TypeId} {zero : Array Value} (h : W.ShapedOpen P) (hg : g < P.globals.size) (h0 : ((begin P (fun _ _ => 0) default).world.heap[g]?).bind Obj.row? = some (zero, t)) (hz : zero.size = 1)
  (hb : P.buildable t = true) (hc : P.cellTypes P.depth t = some [t]) (hu : P.underlying t = some (.int .i64)) : g < W.heap.size /\ ∃ m t fr, W.heap[g]? = some (.cells #[.int .i64 m] t fr) := by
 obtain ⟨m, hm⟩ := Go.Proofs.cell_of_shapedOpen_int h hg h0 hz hb hc hu
 obtain ⟨cs, hh, hs, _⟩ := h.1 g zero t hg h0
 refine ⟨(Array.getElem?_eq_some_iff.1 hh).1, m, t, (0, 0), ?_⟩
 rw [hh]
 have hl : cs.size = 1 := hs.trans hz
 match cs, hl with
 | ⟨[v]⟩, _ =>
   simp [World.cell?, hh] at hm
   rw [hm]
end Go.AV
end
noncomputable section
namespace Go.Proofs
open Go.Shelf
def Tryd.lays156_ren : Go.Shelf.Ren := ⟨fun | 156 => 62 | 165 => 75 | 166 => 76 | 169 => 77 | 240 => 90 | 241 => 91 | 276 => 103 | 277 => 104 | n => n, fun | 31 => 64 | 9 => 9 | 3 => 3 | 4 => 4 | 0 => 0 | 20 => 20 | 72 => 117 | 76 => 121 | 70 => 115 | 37 => 96 | 75 => 120 | 127 => 137 | 164 => 148 | 5 => 5 | 80 => 46 | n => n, fun | n => n⟩
theorem Tryd.lays156 : Go.Proofs.Lays.n156 Tryd.prog Tryd.lays156_ren := {
 mixed := by kernel_rfl
 f156 := Tryd.func62.trans (congrArg some (by kernel_rfl))
 f165 := Tryd.func75.trans (congrArg some (by kernel_rfl))
 f166 := Tryd.func76.trans (congrArg some (by kernel_rfl))
 f169 := Tryd.func77.trans (congrArg some (by kernel_rfl))
 f240 := Tryd.func90.trans (congrArg some (by kernel_rfl))
 f241 := Tryd.func91.trans (congrArg some (by kernel_rfl))
 f276 := Tryd.func103.trans (congrArg some (by kernel_rfl))
 f277 := Tryd.func104.trans (congrArg some (by kernel_rfl))
 t0 := Tryd.underlying0
 a0 := Tryd.isAgg0
 z0 := Tryd.sizeOf0
 v0 := Tryd.zeroValue0
 t3 := Tryd.underlying3
 a3 := Tryd.isAgg3
 z3 := Tryd.sizeOf3
 v3 := Tryd.zeroValue3
 t4 := Tryd.underlying4
 a4 := Tryd.isAgg4
 z4 := Tryd.sizeOf4
 v4 := Tryd.zeroValue4
 t9 := Tryd.underlying9
 a9 := Tryd.isAgg9
 z9 := Tryd.sizeOf9
 v9 := Tryd.zeroValue9
 t20 := Tryd.underlying20
 a20 := Tryd.isAgg20
 z20 := Tryd.sizeOf20
 v20 := Tryd.zeroValue20
 t31 := Tryd.underlying64
 a31 := Tryd.isAgg64
 z31 := Tryd.sizeOf64
 v31 := Tryd.zeroValue64
 t37 := Tryd.underlying96
 a37 := Tryd.isAgg96
 z37 := Tryd.sizeOf96
 v37 := Tryd.zeroValue96
 t70 := Tryd.underlying115
 a70 := Tryd.isAgg115
 z70 := Tryd.sizeOf115
 v70 := Tryd.zeroValue115
 t72 := Tryd.underlying117
 a72 := Tryd.isAgg117
 z72 := Tryd.sizeOf117
 v72 := Tryd.zeroValue117
 t75 := Tryd.underlying120
 a75 := Tryd.isAgg120
 z75 := Tryd.sizeOf120
 v75 := Tryd.zeroValue120
 t76 := Tryd.underlying121
 a76 := Tryd.isAgg121
 z76 := Tryd.sizeOf121
 v76 := Tryd.zeroValue121
 t127 := Tryd.underlying137
 a127 := Tryd.isAgg137
 z127 := Tryd.sizeOf137
 v127 := Tryd.zeroValue137
 t164 := Tryd.underlying148
 a164 := Tryd.isAgg148
 z164 := Tryd.sizeOf148
 v164 := Tryd.zeroValue148 }
theorem Tryd.Builder_Extra_156 : Builder.Extra Tryd.prog Tryd.lays156_ren := {
 sizeBuilder := by kernel_rfl
 liesBuilder := by kernel_rfl
 t5 := Tryd.underlying5
 a5 := Tryd.isAgg5
 z5 := Tryd.sizeOf5
 v5 := Tryd.zeroValue5
 infoByte := by kernel_rfl
 cellsByte := by kernel_rfl
 sizeByte := by kernel_rfl
 neB5 := by decide }
open Go.RowKit in
theorem Tryd.strings_Join_none (a : Option Addr) (c : Nat) (sep : ByteArray) (w : World) :
  Calls Tryd.prog 62 #[.slice a 0 c, .string sep] w fun e w' => e = .returned (.string ⟨#[]⟩) /\ w' = w := Any.strings_Join_none Tryd.lays156 Tryd.Builder_Extra_156 a c sep w
open Go.RowKit in
theorem Tryd.strings_Join (bk o c : Nat) (xs : List ByteArray) (sep : ByteArray) (w : World) (hcells : ∀ (j : Nat) x, xs[j]? = some x → w.cell? ⟨bk, o + j, none⟩ = some (.string x)) (hbk : bk < w.heap.size) (hN : xs.length ≤ 140737488355328) (hcap : xs.length ≤ c) (hlen : (Lib.join (xs.map (·.data.toList)) sep.data.toList).length ≤ 140737488355328) :
  Calls Tryd.prog 62 #[.slice (some ⟨bk, o, none⟩) xs.length c, .string sep] w fun e w' => e = .returned (.string ⟨(Lib.join (xs.map (·.data.toList)) sep.data.toList).toArray⟩) /\ Below w.heap.size w w' := Any.strings_Join Tryd.lays156 Tryd.Builder_Extra_156 bk o c xs sep w hcells hbk hN hcap hlen
def Tryd.laysM173_ren : Go.Shelf.Ren := ⟨fun | 173 => 52 | 246 => 70 | 283 => 82 | 284 => 83 | 285 => 84 | 286 => 85 | 129 => 95 | 317 => 94 | 318 => 96 | 319 => 97 | 320 => 98 | 337 => 107 | 338 => 108 | n => n, fun | 2 => 2 | 3 => 3 | 9 => 9 | 4 => 4 | 171 => 129 | 0 => 0 | 53 => 100 | 37 => 96 | 5 => 5 | 173 => 132 | 212 => 142 | 51 => 143 | 20 => 20 | 213 => 144 | 46 => 140 | 232 => 158 | 233 => 159 | n => n, fun | 17 => 0 | 18 => 4 | 19 => 5 | n => n⟩
theorem Tryd.laysM173 : Go.Proofs.LaysM.n173 Tryd.prog Tryd.laysM173_ren := {
 mixed := by kernel_rfl
 f129 := Tryd.func95.trans (congrArg some (by kernel_rfl))
 f173 := Tryd.func52.trans (congrArg some (by kernel_rfl))
 f246 := Tryd.func70.trans (congrArg some (by kernel_rfl))
 f283 := Tryd.func82.trans (congrArg some (by kernel_rfl))
 f284 := Tryd.func83.trans (congrArg some (by kernel_rfl))
 f285 := Tryd.func84.trans (congrArg some (by kernel_rfl))
 f286 := Tryd.func85.trans (congrArg some (by kernel_rfl))
 f317 := Tryd.func94.trans (congrArg some (by kernel_rfl))
 f318 := Tryd.func96.trans (congrArg some (by kernel_rfl))
 f319 := Tryd.func97.trans (congrArg some (by kernel_rfl))
 f320 := Tryd.func98.trans (congrArg some (by kernel_rfl))
 f337 := Tryd.func107.trans (congrArg some (by kernel_rfl))
 f338 := Tryd.func108.trans (congrArg some (by kernel_rfl))
 t0 := Tryd.underlying0
 a0 := Tryd.isAgg0
 z0 := Tryd.sizeOf0
 v0 := Tryd.zeroValue0
 t2 := Tryd.underlying2
 a2 := Tryd.isAgg2
 z2 := Tryd.sizeOf2
 v2 := Tryd.zeroValue2
 t3 := Tryd.underlying3
 a3 := Tryd.isAgg3
 z3 := Tryd.sizeOf3
 v3 := Tryd.zeroValue3
 t4 := Tryd.underlying4
 a4 := Tryd.isAgg4
 z4 := Tryd.sizeOf4
 v4 := Tryd.zeroValue4
 t5 := Tryd.underlying5
 a5 := Tryd.isAgg5
 z5 := Tryd.sizeOf5
 v5 := Tryd.zeroValue5
 t9 := Tryd.underlying9
 a9 := Tryd.isAgg9
 z9 := Tryd.sizeOf9
 v9 := Tryd.zeroValue9
 t20 := Tryd.underlying20
 a20 := Tryd.isAgg20
 z20 := Tryd.sizeOf20
 v20 := Tryd.zeroValue20
 t37 := Tryd.underlying96
 a37 := Tryd.isAgg96
 z37 := Tryd.sizeOf96
 v37 := Tryd.zeroValue96
 t46 := Tryd.underlying140
 a46 := Tryd.isAgg140
 z46 := Tryd.sizeOf140
 v46 := Tryd.zeroValue140
 t51 := Tryd.underlying143
 a51 := Tryd.isAgg143
 z51 := Tryd.sizeOf143
 v51 := Tryd.zeroValue143
 t53 := Tryd.underlying100
 a53 := Tryd.isAgg100
 z53 := Tryd.sizeOf100
 v53 := Tryd.zeroValue100
 t171 := Tryd.underlying129
 a171 := Tryd.isAgg129
 z171 := Tryd.sizeOf129
 v171 := Tryd.zeroValue129
 t173 := Tryd.underlying132
 a173 := Tryd.isAgg132
 z173 := Tryd.sizeOf132
 v173 := Tryd.zeroValue132
 t212 := Tryd.underlying142
 a212 := Tryd.isAgg142
 z212 := Tryd.sizeOf142
 v212 := Tryd.zeroValue142
 t213 := Tryd.underlying144
 a213 := Tryd.isAgg144
 z213 := Tryd.sizeOf144
 t232 := Tryd.underlying158
 a232 := Tryd.isAgg158
 z232 := Tryd.sizeOf158
 v232 := Tryd.zeroValue158
 t233 := Tryd.underlying159
 a233 := Tryd.isAgg159
 z233 := Tryd.sizeOf159
 v233 := Tryd.zeroValue159
 g17 := by kernel_rfl
 g18 := by kernel_rfl
 g19 := by kernel_rfl
 i0 := by kernel_rfl
 i2 := by kernel_rfl
 i3 := by kernel_rfl
 i4 := by kernel_rfl
 i5 := by kernel_rfl
 i9 := by kernel_rfl
 i20 := by kernel_rfl
 i37 := by kernel_rfl
 i46 := by kernel_rfl
 i51 := by kernel_rfl
 i53 := by kernel_rfl
 i171 := by kernel_rfl
 i173 := by kernel_rfl
 i212 := by kernel_rfl
 i232 := by kernel_rfl
 i233 := by kernel_rfl
 m17 := by kernel_rfl
 m18 := by kernel_rfl
 m19 := by kernel_rfl }
open Go.RowKit Go.Sort Go.Lib in
theorem Tryd.strconv_FormatInt_10 (n : Int) (h0 : -9223372036854775808 ≤ n) (h1 : n ≤ 9223372036854775807) (w : World) (htab : Lib.TabIs Tryd.prog w "internal/strconv.uint64pow10" .u64 Lib.pow10Tab) :
  Calls Tryd.prog 52 #[.int .i64 n, .int .i64 10] w fun e w' => e = .returned (.string ⟨(Lib.itoa n).toArray⟩) /\ ∃ k os, w' = grow (w.drewN k) os := Any.strconv_FormatInt_10 Tryd.laysM173 n h0 h1 w htab
def Tryd.lays155_ren : Go.Shelf.Ren := ⟨fun | 155 => 53 | 154 => 71 | 138 => 86 | 165 => 75 | 143 => 87 | 166 => 76 | 197 => 88 | 169 => 77 | 195 => 99 | 218 => 100 | 240 => 90 | 241 => 91 | 219 => 101 | 260 => 102 | 276 => 103 | 277 => 104 | 217 => 109 | 225 => 110 | 224 => 111 | 267 => 112 | 266 => 114 | 314 => 115 | n => n, fun | 9 => 9 | 3 => 3 | 4 => 4 | 72 => 117 | 0 => 0 | 76 => 121 | 105 => 134 | 21 => 21 | 5 => 5 | 70 => 115 | 20 => 20 | 37 => 96 | 75 => 120 | 127 => 137 | 164 => 148 | 46 => 140 | 119 => 154 | 139 => 157 | 138 => 156 | 146 => 160 | 51 => 143 | 80 => 46 | n => n, fun | 1 => 1 | 3 => 2 | 4 => 3 | n => n⟩
theorem Tryd.lays155 : Go.Proofs.Lays.n155 Tryd.prog Tryd.lays155_ren := {
 mixed := by kernel_rfl
 f138 := Tryd.func86.trans (congrArg some (by kernel_rfl))
 f143 := Tryd.func87.trans (congrArg some (by kernel_rfl))
 f154 := Tryd.func71.trans (congrArg some (by kernel_rfl))
 f155 := Tryd.func53.trans (congrArg some (by kernel_rfl))
 f165 := Tryd.func75.trans (congrArg some (by kernel_rfl))
 f166 := Tryd.func76.trans (congrArg some (by kernel_rfl))
 f169 := Tryd.func77.trans (congrArg some (by kernel_rfl))
 f195 := Tryd.func99.trans (congrArg some (by kernel_rfl))
 f197 := Tryd.func88.trans (congrArg some (by kernel_rfl))
 f217 := Tryd.func109.trans (congrArg some (by kernel_rfl))
 f218 := Tryd.func100.trans (congrArg some (by kernel_rfl))
 f219 := Tryd.func101.trans (congrArg some (by kernel_rfl))
 f224 := Tryd.func111.trans (congrArg some (by kernel_rfl))
 f225 := Tryd.func110.trans (congrArg some (by kernel_rfl))
 f240 := Tryd.func90.trans (congrArg some (by kernel_rfl))
 f241 := Tryd.func91.trans (congrArg some (by kernel_rfl))
 f260 := Tryd.func102.trans (congrArg some (by kernel_rfl))
 f266 := Tryd.func114.trans (congrArg some (by kernel_rfl))
 f267 := Tryd.func112.trans (congrArg some (by kernel_rfl))
 f276 := Tryd.func103.trans (congrArg some (by kernel_rfl))
 f277 := Tryd.func104.trans (congrArg some (by kernel_rfl))
 f314 := Tryd.func115.trans (congrArg some (by kernel_rfl))
 t0 := Tryd.underlying0
 a0 := Tryd.isAgg0
 z0 := Tryd.sizeOf0
 v0 := Tryd.zeroValue0
 t3 := Tryd.underlying3
 a3 := Tryd.isAgg3
 z3 := Tryd.sizeOf3
 v3 := Tryd.zeroValue3
 t4 := Tryd.underlying4
 a4 := Tryd.isAgg4
 z4 := Tryd.sizeOf4
 v4 := Tryd.zeroValue4
 t5 := Tryd.underlying5
 a5 := Tryd.isAgg5
 z5 := Tryd.sizeOf5
 v5 := Tryd.zeroValue5
 t9 := Tryd.underlying9
 a9 := Tryd.isAgg9
 z9 := Tryd.sizeOf9
 v9 := Tryd.zeroValue9
 t20 := Tryd.underlying20
 a20 := Tryd.isAgg20
 z20 := Tryd.sizeOf20
 v20 := Tryd.zeroValue20
 t21 := Tryd.underlying21
 a21 := Tryd.isAgg21
 z21 := Tryd.sizeOf21
 v21 := Tryd.zeroValue21
 t37 := Tryd.underlying96
 a37 := Tryd.isAgg96
 z37 := Tryd.sizeOf96
 v37 := Tryd.zeroValue96
 t46 := Tryd.underlying140
 a46 := Tryd.isAgg140
 z46 := Tryd.sizeOf140
 v46 := Tryd.zeroValue140
 t51 := Tryd.underlying143
 a51 := Tryd.isAgg143
 z51 := Tryd.sizeOf143
 v51 := Tryd.zeroValue143
 t70 := Tryd.underlying115
 a70 := Tryd.isAgg115
 z70 := Tryd.sizeOf115
 v70 := Tryd.zeroValue115
 t72 := Tryd.underlying117
 a72 := Tryd.isAgg117
 z72 := Tryd.sizeOf117
 v72 := Tryd.zeroValue117
 t75 := Tryd.underlying120
 a75 := Tryd.isAgg120
 z75 := Tryd.sizeOf120
 v75 := Tryd.zeroValue120
 t76 := Tryd.underlying121
 a76 := Tryd.isAgg121
 z76 := Tryd.sizeOf121
 v76 := Tryd.zeroValue121
 t105 := Tryd.underlying134
 a105 := Tryd.isAgg134
 z105 := Tryd.sizeOf134
 v105 := Tryd.zeroValue134
 t119 := Tryd.underlying154
 a119 := Tryd.isAgg154
 z119 := Tryd.sizeOf154
 t127 := Tryd.underlying137
 a127 := Tryd.isAgg137
 z127 := Tryd.sizeOf137
 v127 := Tryd.zeroValue137
 t138 := Tryd.underlying156
 a138 := Tryd.isAgg156
 z138 := Tryd.sizeOf156
 v138 := Tryd.zeroValue156
 t139 := Tryd.underlying157
 a139 := Tryd.isAgg157
 z139 := Tryd.sizeOf157
 v139 := Tryd.zeroValue157
 t146 := Tryd.underlying160
 a146 := Tryd.isAgg160
 z146 := Tryd.sizeOf160
 v146 := Tryd.zeroValue160
 t164 := Tryd.underlying148
 a164 := Tryd.isAgg148
 z164 := Tryd.sizeOf148
 v164 := Tryd.zeroValue148
 g1 := by kernel_rfl
 g3 := by kernel_rfl
 g4 := by kernel_rfl }
theorem Tryd.Builder_Extra_155 : Builder.Extra Tryd.prog Tryd.lays155_ren := {
 sizeBuilder := by kernel_rfl
 liesBuilder := by kernel_rfl
 t5 := Tryd.underlying5
 a5 := Tryd.isAgg5
 z5 := Tryd.sizeOf5
 v5 := Tryd.zeroValue5
 infoByte := by kernel_rfl
 cellsByte := by kernel_rfl
 sizeByte := by kernel_rfl
 neB5 := by decide }
open Go.RowKit Go.Lib in
theorem Tryd.strings_ReplaceAll (s old new : ByteArray) (m : Int) (w : World) (hs : s.size < 4294967281) (hm : w.cell? ⟨1, 0, none⟩ = some (.int .i64 m)) (h1 : 1 ≤ old.size) (hlen : s.size + Lib.countB s old * new.size ≤ 140737488355328) :
  Calls Tryd.prog 53 #[.string s, .string old, .string new] w fun e w' =>
   e = .returned (.string ⟨(Lib.replaceAll s.data.toList old.data.toList new.data.toList).toArray⟩) /\ Below w.heap.size w w' := Any.strings_ReplaceAll Tryd.lays155 Tryd.Builder_Extra_155 s old new m w hs hm h1 hlen
end Go.Proofs
end
noncomputable section
namespace Go.Proofs.YtkmehmgocelkiaaDoor
open Go.AV
set_option maxRecDepth 1000000
def c9 : AFn := cF Tryd.prog 9
theorem t9 : trF Tryd.prog 9 = some c9 := tF (by kernel_rfl)
def c14 : AFn := cF Tryd.prog 14
theorem t14 : trF Tryd.prog 14 = some c14 := tF (by kernel_rfl)
def c15 : AFn := cF Tryd.prog 15
theorem t15 : trF Tryd.prog 15 = some c15 := tF (by kernel_rfl)
def c16 : AFn := cF Tryd.prog 16
theorem t16 : trF Tryd.prog 16 = some c16 := tF (by kernel_rfl)
def c18 : AFn := cF Tryd.prog 18
theorem t18 : trF Tryd.prog 18 = some c18 := tF (by kernel_rfl)
def c19 : AFn := cF Tryd.prog 19
theorem t19 : trF Tryd.prog 19 = some c19 := tF (by kernel_rfl)
def c20 : AFn := cF Tryd.prog 20
theorem t20 : trF Tryd.prog 20 = some c20 := tF (by kernel_rfl)
def c21 : AFn := cF Tryd.prog 21
theorem t21 : trF Tryd.prog 21 = some c21 := tF (by kernel_rfl)
def c22 : AFn := cF Tryd.prog 22
theorem t22 : trF Tryd.prog 22 = some c22 := tF (by kernel_rfl)
def c23 : AFn := cF Tryd.prog 23
theorem t23 : trF Tryd.prog 23 = some c23 := tF (by kernel_rfl)
def c26 : AFn := cF Tryd.prog 26
theorem t26 : trF Tryd.prog 26 = some c26 := tF (by kernel_rfl)
def c27 : AFn := cF Tryd.prog 27
theorem t27 : trF Tryd.prog 27 = some c27 := tF (by kernel_rfl)
def c28 : AFn := cF Tryd.prog 28
theorem t28 : trF Tryd.prog 28 = some c28 := tF (by kernel_rfl)
def c29 : AFn := cF Tryd.prog 29
theorem t29 : trF Tryd.prog 29 = some c29 := tF (by kernel_rfl)
def c30 : AFn := cF Tryd.prog 30
theorem t30 : trF Tryd.prog 30 = some c30 := tF (by kernel_rfl)
def c31 : AFn := cF Tryd.prog 31
theorem t31 : trF Tryd.prog 31 = some c31 := tF (by kernel_rfl)
def c33 : AFn := cF Tryd.prog 33
theorem t33 : trF Tryd.prog 33 = some c33 := tF (by kernel_rfl)
def c35 : AFn := cF Tryd.prog 35
theorem t35 : trF Tryd.prog 35 = some c35 := tF (by kernel_rfl)
def c36 : AFn := cF Tryd.prog 36
theorem t36 : trF Tryd.prog 36 = some c36 := tF (by kernel_rfl)
def c37 : AFn := cF Tryd.prog 37
theorem t37 : trF Tryd.prog 37 = some c37 := tF (by kernel_rfl)
def c38 : AFn := cF Tryd.prog 38
theorem t38 : trF Tryd.prog 38 = some c38 := tF (by kernel_rfl)
def c39 : AFn := cF Tryd.prog 39
theorem t39 : trF Tryd.prog 39 = some c39 := tF (by kernel_rfl)
def c42 : AFn := cF Tryd.prog 42
theorem t42 : trF Tryd.prog 42 = some c42 := tF (by kernel_rfl)
def c48 : AFn := cF Tryd.prog 48
theorem t48 : trF Tryd.prog 48 = some c48 := tF (by kernel_rfl)
def c49 : AFn := cF Tryd.prog 49
theorem t49 : trF Tryd.prog 49 = some c49 := tF (by kernel_rfl)
def c50 : AFn := cF Tryd.prog 50
theorem t50 : trF Tryd.prog 50 = some c50 := tF (by kernel_rfl)
def c51 : AFn := cF Tryd.prog 51
theorem t51 : trF Tryd.prog 51 = some c51 := tF (by kernel_rfl)
def c54 : AFn := cF Tryd.prog 54
theorem t54 : trF Tryd.prog 54 = some c54 := tF (by kernel_rfl)
def c55 : AFn := cF Tryd.prog 55
theorem t55 : trF Tryd.prog 55 = some c55 := tF (by kernel_rfl)
def c56 : AFn := cF Tryd.prog 56
theorem t56 : trF Tryd.prog 56 = some c56 := tF (by kernel_rfl)
def c57 : AFn := cF Tryd.prog 57
theorem t57 : trF Tryd.prog 57 = some c57 := tF (by kernel_rfl)
def c58 : AFn := cF Tryd.prog 58
theorem t58 : trF Tryd.prog 58 = some c58 := tF (by kernel_rfl)
def c59 : AFn := cF Tryd.prog 59
theorem t59 : trF Tryd.prog 59 = some c59 := tF (by kernel_rfl)
def c60 : AFn := cF Tryd.prog 60
theorem t60 : trF Tryd.prog 60 = some c60 := tF (by kernel_rfl)
def c61 : AFn := cF Tryd.prog 61
theorem t61 : trF Tryd.prog 61 = some c61 := tF (by kernel_rfl)
def c63 : AFn := cF Tryd.prog 63
theorem t63 : trF Tryd.prog 63 = some c63 := tF (by kernel_rfl)
def c64 : AFn := cF Tryd.prog 64
theorem t64 : trF Tryd.prog 64 = some c64 := tF (by kernel_rfl)
def c67 : AFn := cF Tryd.prog 67
theorem t67 : trF Tryd.prog 67 = some c67 := tF (by kernel_rfl)
def c68 : AFn := cF Tryd.prog 68
theorem t68 : trF Tryd.prog 68 = some c68 := tF (by kernel_rfl)
def c69 : AFn := cF Tryd.prog 69
theorem t69 : trF Tryd.prog 69 = some c69 := tF (by kernel_rfl)
def c72 : AFn := cF Tryd.prog 72
theorem t72 : trF Tryd.prog 72 = some c72 := tF (by kernel_rfl)
def c73 : AFn := cF Tryd.prog 73
theorem t73 : trF Tryd.prog 73 = some c73 := tF (by kernel_rfl)
def c74 : AFn := cF Tryd.prog 74
theorem t74 : trF Tryd.prog 74 = some c74 := tF (by kernel_rfl)
def c78 : AFn := cF Tryd.prog 78
theorem t78 : trF Tryd.prog 78 = some c78 := tF (by kernel_rfl)
def c79 : AFn := cF Tryd.prog 79
theorem t79 : trF Tryd.prog 79 = some c79 := tF (by kernel_rfl)
def c80 : AFn := cF Tryd.prog 80
theorem t80 : trF Tryd.prog 80 = some c80 := tF (by kernel_rfl)
def c89 : AFn := cF Tryd.prog 89
theorem t89 : trF Tryd.prog 89 = some c89 := tF (by kernel_rfl)
def c92 : AFn := cF Tryd.prog 92
theorem t92 : trF Tryd.prog 92 = some c92 := tF (by kernel_rfl)
def c93 : AFn := cF Tryd.prog 93
theorem t93 : trF Tryd.prog 93 = some c93 := tF (by kernel_rfl)
def c105 : AFn := cF Tryd.prog 105
theorem t105 : trF Tryd.prog 105 = some c105 := tF (by kernel_rfl)
def c106 : AFn := cF Tryd.prog 106
theorem t106 : trF Tryd.prog 106 = some c106 := tF (by kernel_rfl)
def c113 : AFn := cF Tryd.prog 113
theorem t113 : trF Tryd.prog 113 = some c113 := tF (by kernel_rfl)
def c116 : AFn := cF Tryd.prog 116
theorem t116 : trF Tryd.prog 116 = some c116 := tF (by kernel_rfl)
end Go.Proofs.YtkmehmgocelkiaaDoor
end
noncomputable section
namespace Go.Proofs.YtkmehmgocelkiaaDoor
open Go.AV Go.RowKit
set_option maxRecDepth 100000
structure yac where
 Kind : Int
 N : Int
 S : Str
structure yaa where
 Kind : Int
 N : Int
 S : Str
structure yab where
 Kind : Int
 N : Int
 S : Str
inductive TC where
 | c0
 | c2
 | c3
 | c4
 | c5
 | c9
 | c26
 | c27
 | c30
 | c50
 | c52
 | c54
 | c64
 | c69
 | c70
 | c71
 | c90
 | c96
 | c100
 | c107
def KF : TC → Type
 | .c0 => Unit
 | .c2 => Int
 | .c3 => Int
 | .c4 => Bool
 | .c5 => Int
 | .c9 => Str
 | .c26 => yaa
 | .c27 => yab
 | .c30 => Int
 | .c50 => (List yac)
 | .c52 => (List yaa)
 | .c54 => (List yab)
 | .c64 => (List Str)
 | .c69 => (List (List yac))
 | .c70 => (List (List yaa))
 | .c71 => (List (List yab))
 | .c90 => yac
 | .c96 => (List Int)
 | .c100 => Int
 | .c107 => (List Int)
def yyI : List (Nat × TC) := [(2, .c2), (3, .c3), (4, .c4), (5, .c5), (9, .c9), (26, .c26), (27, .c27), (30, .c30), (50, .c50), (52, .c52), (54, .c54), (64, .c64), (69, .c69), (70, .c70), (71, .c71), (90, .c90), (96, .c96), (100, .c100), (107, .c107)]
def code (t : Nat) : TC := lkC .c0 yyI t
abbrev KK (t : Nat) : Type := KF (code t)
def yct : Enc yaa := yrj ((yiK (tbI .i64) (yiK (tbI .i64) tbS)) : Tb KK _).E (fun x : yaa => (x.Kind, x.N, x.S))
def b26 : Tb KK yaa := yto (yiK (tbI .i64) (yiK (tbI .i64) tbS)) (fun x : yaa => (x.Kind, x.N, x.S)) (fun y => (⟨y.1, y.2.1, y.2.2⟩ : yaa)) yct
def ycx : Enc yab := yrj ((yiK (tbI .i64) (yiK (tbI .i64) tbS)) : Tb KK _).E (fun x : yab => (x.Kind, x.N, x.S))
def b27 : Tb KK yab := yto (yiK (tbI .i64) (yiK (tbI .i64) tbS)) (fun x : yab => (x.Kind, x.N, x.S)) (fun y => (⟨y.1, y.2.1, y.2.2⟩ : yab)) ycx
def yaV : Enc yac := yrj ((yiK (tbI .u8) (yiK (tbI .i64) tbS)) : Tb KK _).E (fun x : yac => (x.Kind, x.N, x.S))
def b90 : Tb KK yac := yto (yiK (tbI .u8) (yiK (tbI .i64) tbS)) (fun x : yac => (x.Kind, x.N, x.S)) (fun y => (⟨y.1, y.2.1, y.2.2⟩ : yac)) yaV
def TF : (c : TC) → Tb KK (KF c)
 | .c0 => tbU
 | .c2 => (tbI .i64)
 | .c3 => (tbI .i64)
 | .c4 => tbB
 | .c5 => (tbI .u8)
 | .c9 => tbS
 | .c26 => b26
 | .c27 => b27
 | .c30 => (tbI .i64)
 | .c50 => (tbL 90 yaV : Tb KK (List yac))
 | .c52 => (tbL 26 yct : Tb KK (List yaa))
 | .c54 => (tbL 27 ycx : Tb KK (List yab))
 | .c64 => (tbL 9 eS : Tb KK (List Str))
 | .c69 => (tbL 50 (eSl yaV) : Tb KK (List (List yac)))
 | .c70 => (tbL 52 (eSl yct) : Tb KK (List (List yaa)))
 | .c71 => (tbL 54 (eSl ycx) : Tb KK (List (List yab)))
 | .c90 => b90
 | .c96 => (tbL 5 (eI .u8) : Tb KK (List Int))
 | .c100 => (tbI .u64)
 | .c107 => (tbL 3 (eI .i64) : Tb KK (List Int))
def CC : Cx KK := @cxOf TC KF code TF
theorem yse : TbOk Tryd.prog CC b26 := ymz (yg4 (ygA _) (yg4 (ygA _) yp3)) (fun y => rfl) (fun x => rfl)
theorem yhA : ∀ x, dwks (yct.c x) = yct.c x := yse.dw
theorem yhI : ∀ x m, hlts m (yct.c x) = true := yse.hl
theorem yrA : TbOk Tryd.prog CC b27 := ymz (yg4 (ygA _) (yg4 (ygA _) yp3)) (fun y => rfl) (fun x => rfl)
theorem yhM : ∀ x, dwks (ycx.c x) = ycx.c x := yrA.dw
theorem yhF : ∀ x m, hlts m (ycx.c x) = true := yrA.hl
theorem ys2 : TbOk Tryd.prog CC b90 := ymz (yg4 (ygA _) (yg4 (ygA _) yp3)) (fun y => rfl) (fun x => rfl)
theorem yhL : ∀ x, dwks (yaV.c x) = yaV.c x := ys2.dw
theorem yhC : ∀ x m, hlts m (yaV.c x) = true := ys2.hl
theorem ybl : CxOk Tryd.prog CC := @yvd TC KF code _ TF fun c => match c with
 | .c0 => yyC
 | .c2 => (ygA _)
 | .c3 => (ygA _)
 | .c4 => yx6
 | .c5 => (ygA _)
 | .c9 => yp3
 | .c26 => yse
 | .c27 => yrA
 | .c30 => (ygA _)
 | .c50 => (yiM _ rfl yhL yhC)
 | .c52 => (yiM _ rfl yhA yhI)
 | .c54 => (yiM _ rfl yhM yhF)
 | .c64 => (yiM _ rfl (fun _ => rfl) (fun _ _ => rfl))
 | .c69 => (yiM _ rfl (ysK yhL) (ypW yhC))
 | .c70 => (yiM _ rfl (ysK yhA) (ypW yhI))
 | .c71 => (yiM _ rfl (ysK yhM) (ypW yhF))
 | .c90 => ys2
 | .c96 => (yiM _ rfl (fun _ => rfl) (fun _ _ => rfl))
 | .c100 => (ygA _)
 | .c107 => (yiM _ rfl (fun _ => rfl) (fun _ _ => rfl))
def ybL (a0 : Int) (r0 : yaa) : Prop :=
 (⟨(2 : Int), a0, ([] : Str)⟩ : yaa) = r0
def yhE : Sp KK := ⟨18, [.v 2], [26], appW (K := KK) [26] [.v 2] ybL⟩
def yls : An KK := (.s .o (.s .o .o))
def ylp : Cf KK := ⟨CC, [], [], 5, [], none, false⟩
theorem yly : SpOk Tryd.prog CC yhE := yan (F := ylp) (ps := [.v 2]) (rs := [26]) (w := ybL) ybl yau yas t18 (A := yls) (by kernel_rfl) (by kernel_rfl) (fun a0 r0 => show _ = _ by kernel_rfl)
def ygH (a1 a0 : Int) (r0 : List Int) (X1 : Int → (List Int) → Prop) (x1 : Int) (x2 : List Int) : Prop :=
 cnd (decide (x1 < ((List.replicate a1.toNat (0 : Int)).length : Int))) ((¬ (IntKind.i64.wrap ((8 : Int) * x1)) < 0) /\ (0 <= (IntKind.i64.wrap ((IntKind.i64.wrap (a1 - (1 : Int))) - x1))) /\ ((IntKind.i64.wrap ((IntKind.i64.wrap (a1 - (1 : Int))) - x1)) < (x2.length : Int)) /\ ∃ y3 : Int, (x2[(IntKind.i64.wrap ((IntKind.i64.wrap (a1 - (1 : Int))) - x1)).toNat]? = some y3) /\ X1 (IntKind.i64.wrap (x1 + (1 : Int))) (x2.set ((IntKind.i64.wrap ((IntKind.i64.wrap (a1 - (1 : Int))) - x1)).toNat) (IntKind.u8.wrap (a0.fdiv (2 ^ (min (IntKind.i64.wrap ((8 : Int) * x1)).toNat IntKind.u64.bits)))))) (x2 = r0)
def ycg (a0 a1 : Int) (r0 : List Int) : Prop :=
 (0 <= a1) /\ (1 * a1.toNat <= 281474976710656) /\ (a1 <= 1000000000) /\ ∀ X1 : Int -> (List Int) -> Prop, (∀ x1 x2, ygH a1 a0 r0 X1 x1 x2 -> X1 x1 x2) -> X1 (0 : Int) (List.replicate a1.toNat (0 : Int))
def yeA (a0 a1 : Int) (r0 : List Int) (X1 : Int → (List Int) → Prop) (x1 : Int) (x2 : List Int) : Prop :=
 cnd (decide (x1 < ((List.replicate a1.toNat (0 : Int)).length : Int))) ((¬ (IntKind.i64.wrap ((8 : Int) * x1)) < 0) /\ (0 <= (IntKind.i64.wrap ((IntKind.i64.wrap (a1 - (1 : Int))) - x1))) /\ ((IntKind.i64.wrap ((IntKind.i64.wrap (a1 - (1 : Int))) - x1)) < (x2.length : Int)) /\ ∃ y3 : Int, (x2[(IntKind.i64.wrap ((IntKind.i64.wrap (a1 - (1 : Int))) - x1)).toNat]? = some y3) /\ X1 (IntKind.i64.wrap (x1 + (1 : Int))) (x2.set ((IntKind.i64.wrap ((IntKind.i64.wrap (a1 - (1 : Int))) - x1)).toNat) (IntKind.u8.wrap (a0.fdiv (2 ^ (min (IntKind.i64.wrap ((8 : Int) * x1)).toNat IntKind.u64.bits)))))) (x2 = r0)
def yjN (a0 a1 : Int) (r0 : List Int) : Prop :=
 (0 <= a1) /\ (1 * a1.toNat <= 281474976710656) /\ (a1 <= 1000000000) /\ ∀ X1 : Int -> (List Int) -> Prop, (∀ x1 x2, yeA a0 a1 r0 X1 x1 x2 -> X1 x1 x2) -> X1 (0 : Int) (List.replicate a1.toNat (0 : Int))
theorem ylv (a0 a1 : Int) (r0 : List Int) {X1 : Int → (List Int) → Prop} {x1 : Int} {x2 : List Int} (h : yeA a0 a1 r0 X1 x1 x2) : ygH a1 a0 r0 X1 x1 x2 := by
 unfold ygH
 unfold yeA at h
 exact h
theorem yo2 (a0 a1 : Int) (r0 : List Int) (h : yjN a0 a1 r0) : ycg a0 a1 r0 := by
 unfold ycg
 unfold yjN at h
 obtain ⟨h0, h⟩ := h
 refine ⟨h0, ?_⟩
 obtain ⟨h0, h⟩ := h
 refine ⟨h0, ?_⟩
 obtain ⟨h0, h⟩ := h
 refine ⟨h0, ?_⟩
 intro X1 k
 exact h X1 (fun x1 x2 q => k x1 x2 (ylv a0 a1 r0 q))
def ygv : Sp KK := ⟨61, [.v 100, .v 3], [96], appW (K := KK) [96] [.v 100, .v 3] ycg⟩
def ynB : An KK := (.s .o (.s .o (.s (.s .o (.b (.l ⟨[(0, .kp 5), (1, .kp 6), (5, .row 8), (10, .kp 7), (11, .it .i64)], [], [(8, 5)]⟩ (fun _ => (.s .o (.s (.c .o .o) (.s (.b (.s .o .o)) .o))))))) (.s .o .o))))
def ynn : Cf KK := ⟨CC, [], [], 27, [], none, false⟩
theorem yjE : SpOk Tryd.prog CC ygv := yan (F := ynn) (ps := [.v 100, .v 3]) (rs := [96]) (w := ycg) ybl yau yas t61 (A := ynB) (by kernel_rfl) (by kernel_rfl) (fun a0 a1 r0 => show _ = _ by kernel_rfl)
def yg3 (a0 : Int) (r0 : Str) : Prop :=
 ∃ z1, (ycg (bits .xor .u64 (IntKind.u64.wrap a0) (9223372036854775808 : Int)) (8 : Int) z1) /\ (z1.map toB) = r0
def ykE : Sp KK := ⟨72, [.v 2], [9], appW (K := KK) [9] [.v 2] yg3⟩
def ypC : An KK := (.s .o (.s .o .o))
def yoT : Cf KK := ⟨CC, [ygv], [], 8, [], none, false⟩
theorem yps : SpOk Tryd.prog CC ykE := yan (F := yoT) (ps := [.v 2]) (rs := [9]) (w := yg3) ybl (yat yjE yau) yas t72 (A := ypC) (by kernel_rfl) (by kernel_rfl) (fun a0 r0 => show _ = _ by kernel_rfl)
def yeG (a0 : yaa) (r0 : Str) : Prop :=
 cnd (a0.Kind == (1 : Int)) (((([IntKind.u8.wrap a0.Kind] : List Int).map toB).length + (([IntKind.u8.wrap a0.N] : List Int).map toB).length <= 9223372036854775807) /\ ((([IntKind.u8.wrap a0.Kind] : List Int).map toB) ++ (([IntKind.u8.wrap a0.N] : List Int).map toB)) = r0) (cnd (a0.Kind == (2 : Int)) (∃ z1, (yg3 a0.N z1) /\ ((([IntKind.u8.wrap a0.Kind] : List Int).map toB).length + z1.length <= 9223372036854775807) /\ ((([IntKind.u8.wrap a0.Kind] : List Int).map toB) ++ z1) = r0) (cnd (a0.Kind == (3 : Int)) (((([IntKind.u8.wrap a0.Kind] : List Int).map toB).length + a0.S.length <= 9223372036854775807) /\ ((([IntKind.u8.wrap a0.Kind] : List Int).map toB) ++ a0.S) = r0) ((([IntKind.u8.wrap a0.Kind] : List Int).map toB) = r0)))
def ykY : Sp KK := ⟨55, [.v 26], [9], appW (K := KK) [9] [.v 26] yeG⟩
def ypk : An KK := (.s .o (.s .o (.s (.s .o (.b (.s .o (.c .o (.s .o (.c .o (.s .o (.c .o .o)))))))) (.s .o .o))))
def yoG : Cf KK := ⟨CC, [ykE], [], 34, [], none, false⟩
theorem yo9 : SpOk Tryd.prog CC ykY := yan (F := yoG) (ps := [.v 26]) (rs := [9]) (w := yeG) ybl (yat yps yau) yas t55 (A := ypk) (by kernel_rfl) (by kernel_rfl) (fun a0 r0 => show _ = _ by kernel_rfl)
def ygm (a0 : List Str) (r0 : Str) (X1 : Int → (List Int) → Prop) (x1 : Int) (x2 : List Int) : Prop :=
 cnd (decide (x1 < (a0.length : Int))) ((0 <= x1) /\ (x1 < (a0.length : Int)) /\ ∃ y3 : Str, (a0[x1.toNat]? = some y3) /\ ∃ z4, (ycg (IntKind.u64.wrap (y3.length : Int)) (4 : Int) z4) /\ (x2.length <= 1000000000) /\ (z4.length <= 400000000) /\ ((x2 ++ z4).length <= 1000000000) /\ (y3.length <= 400000000) /\ X1 (IntKind.i64.wrap (x1 + (1 : Int))) ((x2 ++ z4) ++ (y3.map ofB))) ((x2.map toB) = r0)
def yc2 (a0 : List Str) (r0 : Str) : Prop :=
 (a0.length <= maxLen -> ∀ X1 : Int -> (List Int) -> Prop, (∀ x1 x2, ygm a0 r0 X1 x1 x2 -> X1 x1 x2) -> X1 (0 : Int) ([] : List Int))
def yez (a0 : List Str) (r0 : Str) (X1 : Int → (List Int) → Prop) (x1 : Int) (x2 : List Int) : Prop :=
 cnd (decide (x1 < (a0.length : Int))) ((0 <= x1) /\ (x1 < (a0.length : Int)) /\ ∃ y3 : Str, (a0[x1.toNat]? = some y3) /\ ∃ z4, (ycg (IntKind.u64.wrap (y3.length : Int)) (4 : Int) z4) /\ (x2.length <= 1000000000) /\ (z4.length <= 400000000) /\ ((x2 ++ z4).length <= 1000000000) /\ (y3.length <= 400000000) /\ X1 (IntKind.i64.wrap (x1 + (1 : Int))) ((x2 ++ z4) ++ (y3.map ofB))) ((x2.map toB) = r0)
def yjO (a0 : List Str) (r0 : Str) : Prop :=
 (a0.length <= maxLen -> ∀ X1 : Int -> (List Int) -> Prop, (∀ x1 x2, yez a0 r0 X1 x1 x2 -> X1 x1 x2) -> X1 (0 : Int) ([] : List Int))
theorem ylL (a0 : List Str) (r0 : Str) {X1 : Int → (List Int) → Prop} {x1 : Int} {x2 : List Int} (h : yez a0 r0 X1 x1 x2) : ygm a0 r0 X1 x1 x2 := by
 unfold ygm
 unfold yez at h
 exact h
theorem ypF (a0 : List Str) (r0 : Str) (h : yjO a0 r0) : yc2 a0 r0 := by
 unfold yc2
 unfold yjO at h
 intro c
 replace h := h c
 intro X1 k
 exact h X1 (fun x1 x2 q => k x1 x2 (ylL a0 r0 q))
def yjJ : Sp KK := ⟨33, [.v 64], [9], appW (K := KK) [9] [.v 64] yc2⟩
def yoz : An KK := (.s .o (.s .o (.s (.s .o (.b (.l ⟨[(3, .row 20), (6, .kp 6), (7, .kp 7), (8, .it .i64)], [], [(20, 5)]⟩ (fun _ => (.s .o (.s (.c .o .o) (.s (.b (.s .o (.s .o .o))) .o))))))) (.s .o .o))))
def ynW : Cf KK := ⟨CC, [ygv], [], 24, [], none, false⟩
theorem ynP : SpOk Tryd.prog CC yjJ := yan (F := ynW) (ps := [.v 64]) (rs := [9]) (w := yc2) ybl (yat yjE yau) yas t33 (A := yoz) (by kernel_rfl) (by kernel_rfl) (fun a0 r0 => show _ = _ by kernel_rfl)
def yjg (a0 : List yaa) (r0 : Str) (X1 : Int → (List Str) → Prop) (x1 : Int) (x2 : List Str) : Prop :=
 cnd (decide (x1 < (a0.length : Int))) ((0 <= x1) /\ (x1 < (a0.length : Int)) /\ ∃ y3 : yaa, (a0[x1.toNat]? = some y3) /\ ∃ z4, (yeG y3 z4) /\ (x2.length <= 1000000000) /\ X1 (IntKind.i64.wrap (x1 + (1 : Int))) (x2 ++ ([z4] : List Str))) (∃ z5, (yc2 x2 z5) /\ z5 = r0)
def ydf (a0 : List yaa) (r0 : Str) : Prop :=
 (a0.length <= maxLen -> ∀ X1 : Int -> (List Str) -> Prop, (∀ x1 x2, yjg a0 r0 X1 x1 x2 -> X1 x1 x2) -> X1 (0 : Int) ([] : List Str))
def yfT (a0 : List yaa) (r0 : Str) (X1 : Int → (List Str) → Prop) (x1 : Int) (x2 : List Str) : Prop :=
 cnd (decide (x1 < (a0.length : Int))) ((0 <= x1) /\ (x1 < (a0.length : Int)) /\ ∃ y3 : yaa, (a0[x1.toNat]? = some y3) /\ ∃ z4, (yeG y3 z4) /\ (x2.length <= 1000000000) /\ X1 (IntKind.i64.wrap (x1 + (1 : Int))) (x2 ++ ([z4] : List Str))) (∃ z5, (yc2 x2 z5) /\ z5 = r0)
def ylM (a0 : List yaa) (r0 : Str) : Prop :=
 (a0.length <= maxLen -> ∀ X1 : Int -> (List Str) -> Prop, (∀ x1 x2, yfT a0 r0 X1 x1 x2 -> X1 x1 x2) -> X1 (0 : Int) ([] : List Str))
theorem ynV (a0 : List yaa) (r0 : Str) {X1 : Int → (List Str) → Prop} {x1 : Int} {x2 : List Str} (h : yfT a0 r0 X1 x1 x2) : yjg a0 r0 X1 x1 x2 := by
 unfold yjg
 unfold yfT at h
 exact h
theorem yr2 (a0 : List yaa) (r0 : Str) (h : ylM a0 r0) : ydf a0 r0 := by
 unfold ydf
 unfold ylM at h
 intro c
 replace h := h c
 intro X1 k
 exact h X1 (fun x1 x2 q => k x1 x2 (ynV a0 r0 q))
def yjq : Sp KK := ⟨28, [.v 52], [9], appW (K := KK) [9] [.v 52] ydf⟩
def yrd : An KK := (.s .o (.s .o (.s (.s .o (.b (.l ⟨[(3, .row 16), (6, .kp 6), (7, .kp 7), (8, .it .i64)], [], [(16, 9)]⟩ (fun _ => (.s .o (.s (.c .o .o) (.s (.b (.s .o .o)) .o))))))) (.s .o .o))))
def yqX : Cf KK := ⟨CC, [ykY, yjJ], [], 20, [], none, false⟩
theorem ylR : SpOk Tryd.prog CC yjq := yan (F := yqX) (ps := [.v 52]) (rs := [9]) (w := ydf) ybl (yat yo9 (yat ynP yau)) yas t28 (A := yrd) (by kernel_rfl) (by kernel_rfl) (fun a0 r0 => show _ = _ by kernel_rfl)
def yfj (a0 : Str) (r0 : Int) (X1 : Int → Int → Prop) (x1 x2 : Int) : Prop :=
 cnd (decide (x2 < (a0.length : Int))) ((0 <= x2 /\ x2 < (a0.length : Int)) /\ X1 (bits .or .u64 (IntKind.u64.wrap (x1 * 2 ^ (min (8 : Int).toNat IntKind.u64.bits))) (IntKind.u64.wrap (bAt a0 x2))) (IntKind.i64.wrap (x2 + (1 : Int)))) (x1 = r0)
def yb0 (a0 : Str) (r0 : Int) : Prop :=
 ∀ X1 : Int -> Int -> Prop, (∀ x1 x2, yfj a0 r0 X1 x1 x2 -> X1 x1 x2) -> X1 (0 : Int) (0 : Int)
def ydb (a0 : Str) (r0 : Int) (X1 : Int → Int → Prop) (x1 x2 : Int) : Prop :=
 cnd (decide (x2 < (a0.length : Int))) ((0 <= x2 /\ x2 < (a0.length : Int)) /\ X1 (bits .or .u64 (IntKind.u64.wrap (x1 * 2 ^ (min (8 : Int).toNat IntKind.u64.bits))) (IntKind.u64.wrap (bAt a0 x2))) (IntKind.i64.wrap (x2 + (1 : Int)))) (x1 = r0)
def yhB (a0 : Str) (r0 : Int) : Prop :=
 ∀ X1 : Int -> Int -> Prop, (∀ x1 x2, ydb a0 r0 X1 x1 x2 -> X1 x1 x2) -> X1 (0 : Int) (0 : Int)
theorem yjY (a0 : Str) (r0 : Int) {X1 : Int → Int → Prop} {x1 x2 : Int} (h : ydb a0 r0 X1 x1 x2) : yfj a0 r0 X1 x1 x2 := by
 unfold yfj
 unfold ydb at h
 exact h
theorem yni (a0 : Str) (r0 : Int) (h : yhB a0 r0) : yb0 a0 r0 := by
 unfold yb0
 unfold yhB at h
 intro X1 k
 exact h X1 (fun x1 x2 q => k x1 x2 (yjY a0 r0 q))
def yfm : Sp KK := ⟨89, [.v 9], [100], appW (K := KK) [100] [.v 9] yb0⟩
def ylx : An KK := (.s .o (.s .o (.s (.s .o (.b (.l ⟨[(0, .kp 5), (3, .it .u64), (6, .kp 7), (7, .it .i64)], [], []⟩ (fun _ => (.s .o (.s (.c .o .o) (.s (.b (.s .o .o)) .o))))))) (.s .o .o))))
def ylD : Cf KK := ⟨CC, [], [], 19, [], none, false⟩
theorem yhK : SpOk Tryd.prog CC yfm := yan (F := ylD) (ps := [.v 9]) (rs := [100]) (w := yb0) ybl yau yas t89 (A := ylx) (by kernel_rfl) (by kernel_rfl) (fun a0 r0 => show _ = _ by kernel_rfl)
def yer (a0 r0 r1 : Str) (r2 : Bool) : Prop :=
 cnd (decide ((a0.length : Int) < (4 : Int))) (([] : Str) = r0 /\ a0 = r1 /\ false = r2) ((0 <= (0 : Int) /\ (0 : Int) <= (4 : Int) /\ (4 : Int) <= (a0.length : Int)) /\ ∃ z1, (yb0 ((a0.drop (0 : Int).toNat).take ((4 : Int).toNat - (0 : Int).toNat)) z1) /\ cnd (decide ((IntKind.u64.wrap (IntKind.i64.wrap ((a0.length : Int) - (4 : Int)))) < z1)) (([] : Str) = r0 /\ a0 = r1 /\ false = r2) ((0 <= (4 : Int) /\ (4 : Int) <= (IntKind.i64.wrap ((4 : Int) + (IntKind.i64.wrap z1))) /\ (IntKind.i64.wrap ((4 : Int) + (IntKind.i64.wrap z1))) <= (a0.length : Int)) /\ (0 <= (IntKind.i64.wrap ((4 : Int) + (IntKind.i64.wrap z1))) /\ (IntKind.i64.wrap ((4 : Int) + (IntKind.i64.wrap z1))) <= (a0.length : Int) /\ (a0.length : Int) <= (a0.length : Int)) /\ ((a0.drop (4 : Int).toNat).take ((IntKind.i64.wrap ((4 : Int) + (IntKind.i64.wrap z1))).toNat - (4 : Int).toNat)) = r0 /\ ((a0.drop (IntKind.i64.wrap ((4 : Int) + (IntKind.i64.wrap z1))).toNat).take ((a0.length : Int).toNat - (IntKind.i64.wrap ((4 : Int) + (IntKind.i64.wrap z1))).toNat)) = r1 /\ true = r2))
def yiW : Sp KK := ⟨73, [.v 9], [9, 9, 4], appW (K := KK) [9, 9, 4] [.v 9] yer⟩
def ymw : An KK := (.s .o (.s (.s .o (.c (.s .o .o) .o)) (.s .o (.s (.s .o (.c (.s .o .o) .o)) (.s .o (.s .o .o))))))
def ym4 : Cf KK := ⟨CC, [yfm], [], 30, [], none, false⟩
theorem ymv : SpOk Tryd.prog CC yiW := yan (F := ym4) (ps := [.v 9]) (rs := [9, 9, 4]) (w := yer) ybl (yat yhK yau) yas t73 (A := ymw) (by kernel_rfl) (by kernel_rfl) (fun a0 r0 r1 r2 => show _ = _ by kernel_rfl)
def yfQ (r0 : List Str) (r1 : Int) (X1 : Str → (List Str) → Prop) (x1 : Str) (x2 : List Str) : Prop :=
 cnd (!(x1 == ([] : Str))) (∃ z3 z4 z5, (yer x1 z3 z4 z5) /\ cnd (!z5) (([] : List Str) = r0 /\ (2 : Int) = r1) ((x2.length <= 1000000000) /\ X1 z4 (x2 ++ ([z3] : List Str)))) (x2 = r0 /\ (0 : Int) = r1)
def ycb (a0 : Str) (r0 : List Str) (r1 : Int) : Prop :=
 ∀ X1 : Str -> (List Str) -> Prop, (∀ x1 x2, yfQ r0 r1 X1 x1 x2 -> X1 x1 x2) -> X1 a0 ([] : List Str)
def yfk (r0 : List Str) (r1 : Int) (X1 : Str → (List Str) → Prop) (x1 : Str) (x2 : List Str) : Prop :=
 cnd (!(x1 == ([] : Str))) (∃ z3 z4 z5, (yer x1 z3 z4 z5) /\ cnd (!z5) (([] : List Str) = r0 /\ (2 : Int) = r1) ((x2.length <= 1000000000) /\ X1 z4 (x2 ++ ([z3] : List Str)))) (x2 = r0 /\ (0 : Int) = r1)
def yir (a0 : Str) (r0 : List Str) (r1 : Int) : Prop :=
 ∀ X1 : Str -> (List Str) -> Prop, (∀ x1 x2, yfk r0 r1 X1 x1 x2 -> X1 x1 x2) -> X1 a0 ([] : List Str)
theorem ykO (r0 : List Str) (r1 : Int) {X1 : Str → (List Str) → Prop} {x1 : Str} {x2 : List Str} (h : yfk r0 r1 X1 x1 x2) : yfQ r0 r1 X1 x1 x2 := by
 unfold yfQ
 unfold yfk at h
 exact h
theorem yok (a0 : Str) (r0 : List Str) (r1 : Int) (h : yir a0 r0 r1) : ycb a0 r0 r1 := by
 unfold ycb
 unfold yir at h
 intro X1 k
 exact h X1 (fun x1 x2 q => k x1 x2 (ykO r0 r1 q))
def yi4 : Sp KK := ⟨56, [.v 9], [64, 30], appW (K := KK) [64, 30] [.v 9] ycb⟩
def ym0 : An KK := (.s .o (.s .o (.s (.b (.l ⟨[(0, .st), (4, .row 21)], [], [(21, 9)]⟩ (fun _ => (.s (.s .o (.c .o .o)) (.b (.s .o (.s (.s .o (.c (.s .o .o) .o)) .o))))))) (.s .o .o))))
def ymY : Cf KK := ⟨CC, [yiW], [], 24, [], none, false⟩
theorem yna : SpOk Tryd.prog CC yi4 := yan (F := ymY) (ps := [.v 9]) (rs := [64, 30]) (w := ycb) ybl (yat ymv yau) yas t56 (A := ym0) (by kernel_rfl) (by kernel_rfl) (fun a0 r0 r1 => show _ = _ by kernel_rfl)
def ydg (a0 : Str) (r0 : Int) (r1 : Bool) : Prop :=
 cnd (!((a0.length : Int) == (8 : Int))) ((0 : Int) = r0 /\ false = r1) (∃ z1, (yb0 a0 z1) /\ (IntKind.i64.wrap (bits .xor .u64 z1 (9223372036854775808 : Int))) = r0 /\ true = r1)
def yhD : Sp KK := ⟨74, [.v 9], [2, 4], appW (K := KK) [2, 4] [.v 9] ydg⟩
def ylH : An KK := (.s .o (.s (.s .o (.c (.s .o .o) .o)) (.s .o .o)))
def ylo : Cf KK := ⟨CC, [yfm], [], 11, [], none, false⟩
theorem ylF : SpOk Tryd.prog CC yhD := yan (F := ylo) (ps := [.v 9]) (rs := [2, 4]) (w := ydg) ybl (yat yhK yau) yas t74 (A := ylH) (by kernel_rfl) (by kernel_rfl) (fun a0 r0 r1 => show _ = _ by kernel_rfl)
def yaQ (a0 : yaa) (r0 : Bool) : Prop :=
 cnd (a0.Kind == (0 : Int)) (((a0.Kind == (0 : Int)) && ((a0.N == (0 : Int)) && ((a0.S == ([] : Str)) && true))) = r0) (cnd (a0.Kind == (1 : Int)) (cnd (a0.N == (0 : Int)) ((a0.S == ([] : Str)) = r0) (cnd (a0.N == (1 : Int)) ((a0.S == ([] : Str)) = r0) (false = r0))) (cnd (a0.Kind == (2 : Int)) ((a0.S == ([] : Str)) = r0) (cnd (a0.Kind == (3 : Int)) (cnd (a0.N == (0 : Int)) ((decide ((a0.S.length : Int) <= (64 : Int))) = r0) (false = r0)) (false = r0))))
def ycU : Sp KK := ⟨19, [.v 26], [4], appW (K := KK) [4] [.v 26] yaQ⟩
def yh0 : An KK := (.s .o (.s (.s .o (.b (.s .o (.c (.s .o .o) (.s .o (.c (.s .o .o) (.s .o (.c (.s .o .o) (.s .o (.c (.s .o .o) .o)))))))))) (.s .o .o)))
def yhR : Cf KK := ⟨CC, [], [], 41, [], none, false⟩
theorem yeK : SpOk Tryd.prog CC ycU := yan (F := yhR) (ps := [.v 26]) (rs := [4]) (w := yaQ) ybl yau yas t19 (A := yh0) (by kernel_rfl) (by kernel_rfl) (fun a0 r0 => show _ = _ by kernel_rfl)
def yid (a0 : Str) (r0 : yaa) (r1 : Bool) (x1 : Int) (x2 : Str) : Prop :=
 ∃ z3, (yaQ (⟨IntKind.i64.wrap (bAt a0 (0 : Int)), x1, x2⟩ : yaa) z3) /\ (⟨IntKind.i64.wrap (bAt a0 (0 : Int)), x1, x2⟩ : yaa) = r0 /\ z3 = r1
def ydS (a0 : Str) (r0 : yaa) (r1 : Bool) : Prop :=
 cnd (a0 == ([] : Str)) ((⟨(0 : Int), (0 : Int), ([] : Str)⟩ : yaa) = r0 /\ false = r1) ((0 <= (1 : Int) /\ (1 : Int) <= (a0.length : Int) /\ (a0.length : Int) <= (a0.length : Int)) /\ (0 <= (0 : Int) /\ (0 : Int) < (a0.length : Int)) /\ ∀ J1 : Int -> Str -> Prop, (∀ x1 x2, yid a0 r0 r1 x1 x2 -> J1 x1 x2) -> cnd ((IntKind.i64.wrap (bAt a0 (0 : Int))) == (0 : Int)) ((⟨IntKind.i64.wrap (bAt a0 (0 : Int)), (0 : Int), ([] : Str)⟩ : yaa) = r0 /\ (((a0.drop (1 : Int).toNat).take ((a0.length : Int).toNat - (1 : Int).toNat)) == ([] : Str)) = r1) (cnd ((IntKind.i64.wrap (bAt a0 (0 : Int))) == (1 : Int)) (cnd (!((((a0.drop (1 : Int).toNat).take ((a0.length : Int).toNat - (1 : Int).toNat)).length : Int) == (1 : Int))) ((⟨IntKind.i64.wrap (bAt a0 (0 : Int)), (0 : Int), ([] : Str)⟩ : yaa) = r0 /\ false = r1) ((0 <= (0 : Int) /\ (0 : Int) < (((a0.drop (1 : Int).toNat).take ((a0.length : Int).toNat - (1 : Int).toNat)).length : Int)) /\ J1 (IntKind.i64.wrap (bAt ((a0.drop (1 : Int).toNat).take ((a0.length : Int).toNat - (1 : Int).toNat)) (0 : Int))) ([] : Str))) (cnd ((IntKind.i64.wrap (bAt a0 (0 : Int))) == (2 : Int)) (∃ z4 z5, (ydg ((a0.drop (1 : Int).toNat).take ((a0.length : Int).toNat - (1 : Int).toNat)) z4 z5) /\ cnd (!z5) ((⟨IntKind.i64.wrap (bAt a0 (0 : Int)), (0 : Int), ([] : Str)⟩ : yaa) = r0 /\ false = r1) (J1 z4 ([] : Str))) (J1 (0 : Int) ((a0.drop (1 : Int).toNat).take ((a0.length : Int).toNat - (1 : Int).toNat))))))
def ycm (a0 : Str) (r0 : yaa) (r1 : Bool) (x1 : Int) (x2 : Str) : Prop :=
 ∃ z3, (yaQ (⟨IntKind.i64.wrap (bAt a0 (0 : Int)), x1, x2⟩ : yaa) z3) /\ (⟨IntKind.i64.wrap (bAt a0 (0 : Int)), x1, x2⟩ : yaa) = r0 /\ z3 = r1
def ykl (a0 : Str) (r0 : yaa) (r1 : Bool) : Prop :=
 cnd (a0 == ([] : Str)) ((⟨(0 : Int), (0 : Int), ([] : Str)⟩ : yaa) = r0 /\ false = r1) ((0 <= (1 : Int) /\ (1 : Int) <= (a0.length : Int) /\ (a0.length : Int) <= (a0.length : Int)) /\ (0 <= (0 : Int) /\ (0 : Int) < (a0.length : Int)) /\ cnd ((IntKind.i64.wrap (bAt a0 (0 : Int))) == (0 : Int)) ((⟨IntKind.i64.wrap (bAt a0 (0 : Int)), (0 : Int), ([] : Str)⟩ : yaa) = r0 /\ (((a0.drop (1 : Int).toNat).take ((a0.length : Int).toNat - (1 : Int).toNat)) == ([] : Str)) = r1) (cnd ((IntKind.i64.wrap (bAt a0 (0 : Int))) == (1 : Int)) (cnd (!((((a0.drop (1 : Int).toNat).take ((a0.length : Int).toNat - (1 : Int).toNat)).length : Int) == (1 : Int))) ((⟨IntKind.i64.wrap (bAt a0 (0 : Int)), (0 : Int), ([] : Str)⟩ : yaa) = r0 /\ false = r1) ((0 <= (0 : Int) /\ (0 : Int) < (((a0.drop (1 : Int).toNat).take ((a0.length : Int).toNat - (1 : Int).toNat)).length : Int)) /\ ycm a0 r0 r1 (IntKind.i64.wrap (bAt ((a0.drop (1 : Int).toNat).take ((a0.length : Int).toNat - (1 : Int).toNat)) (0 : Int))) ([] : Str))) (cnd ((IntKind.i64.wrap (bAt a0 (0 : Int))) == (2 : Int)) (∃ z4 z5, (ydg ((a0.drop (1 : Int).toNat).take ((a0.length : Int).toNat - (1 : Int).toNat)) z4 z5) /\ cnd (!z5) ((⟨IntKind.i64.wrap (bAt a0 (0 : Int)), (0 : Int), ([] : Str)⟩ : yaa) = r0 /\ false = r1) (ycm a0 r0 r1 z4 ([] : Str))) (ycm a0 r0 r1 (0 : Int) ((a0.drop (1 : Int).toNat).take ((a0.length : Int).toNat - (1 : Int).toNat))))))
theorem ymW (a0 : Str) (r0 : yaa) (r1 : Bool) {x1 : Int} {x2 : Str} (h : ycm a0 r0 r1 x1 x2) : yid a0 r0 r1 x1 x2 := by
 unfold yid
 unfold ycm at h
 exact h
theorem yqU (a0 : Str) (r0 : yaa) (r1 : Bool) (h : ykl a0 r0 r1) : ydS a0 r0 r1 := by
 unfold ydS
 unfold ykl at h
 refine yah h (fun h => ?_) (fun h => ?_)
 ·exact h
 ·obtain ⟨h0, h⟩ := h
  refine ⟨h0, ?_⟩
  obtain ⟨h0, h⟩ := h
  refine ⟨h0, ?_⟩
  intro J1 kJ1
  have hJ1 : ∀ x1 x2, ycm a0 r0 r1 x1 x2 -> J1 x1 x2 := fun x1 x2 q => kJ1 x1 x2 (ymW a0 r0 r1 q)
  refine yah h (fun h => ?_) (fun h => ?_)
  ·exact h
  ·refine yah h (fun h => ?_) (fun h => ?_)
   ·refine yah h (fun h => ?_) (fun h => ?_)
    ·exact h
    ·obtain ⟨h0, h⟩ := h
     refine ⟨h0, ?_⟩
     exact hJ1 _ _ h
   ·refine yah h (fun h => ?_) (fun h => ?_)
    ·obtain ⟨z4, h⟩ := h
     refine ⟨z4, ?_⟩
     obtain ⟨z5, h⟩ := h
     refine ⟨z5, ?_⟩
     obtain ⟨h0, h⟩ := h
     refine ⟨h0, ?_⟩
     refine yah h (fun h => ?_) (fun h => ?_)
     ·exact h
     ·exact hJ1 _ _ h
    ·exact hJ1 _ _ h
def ykB : Sp KK := ⟨57, [.v 9], [26, 4], appW (K := KK) [26, 4] [.v 9] ydS⟩
def yo6 : An KK := (.s .o (.s (.s .o (.c (.s .o .o) .o)) (.s .o (.s .o (.j ⟨[(2, .px 2 0), (5, .px 5 0)], [(2, 26, [.kp 1, .kp 2, .kp 3]), (5, 26, [.kp 4, .it .i64, .st])], []⟩ (.s .o (.b (.s .o (.c (.s .o .o) (.s .o (.c (.s (.s .o (.c (.s .o .o) .o)) .o) (.s .o (.c (.s .o (.s (.s .o (.c (.s .o .o) .o)) .o)) .o)))))))) (fun _ => (.s .o .o)))))))
def yoW : Cf KK := ⟨CC, [yhD, ycU], [], 51, [], none, false⟩
theorem yo3 : SpOk Tryd.prog CC ykB := yan (F := yoW) (ps := [.v 9]) (rs := [26, 4]) (w := ydS) ybl (yat ylF (yat yeK yau)) yas t57 (A := yo6) (by kernel_rfl) (by kernel_rfl) (fun a0 r0 r1 => show _ = _ by kernel_rfl)
def yjn (z1 : List Str) (r0 : List yaa) (r1 : Int) (X1 : Int → (List yaa) → Prop) (x3 : Int) (x4 : List yaa) : Prop :=
 cnd (decide (x3 < (z1.length : Int))) ((0 <= x3) /\ (x3 < (z1.length : Int)) /\ ∃ y5 : Str, (z1[x3.toNat]? = some y5) /\ ∃ z6 z7, (ydS y5 z6 z7) /\ cnd (!z7) (([] : List yaa) = r0 /\ (4 : Int) = r1) ((x4.length <= 1000000000) /\ X1 (IntKind.i64.wrap (x3 + (1 : Int))) (x4 ++ ([z6] : List yaa)))) (x4 = r0 /\ (0 : Int) = r1)
def yeX (a0 : Str) (r0 : List yaa) (r1 : Int) : Prop :=
 ∃ z1 z2, (ycb a0 z1 z2) /\ cnd (!(z2 == (0 : Int))) (([] : List yaa) = r0 /\ z2 = r1) ((z1.length <= maxLen -> ∀ X1 : Int -> (List yaa) -> Prop, (∀ x3 x4, yjn z1 r0 r1 X1 x3 x4 -> X1 x3 x4) -> X1 (0 : Int) ([] : List yaa)))
def yeV (r0 : List yaa) (r1 : Int) (z1 : List Str) (X1 : Int → (List yaa) → Prop) (x3 : Int) (x4 : List yaa) : Prop :=
 cnd (decide (x3 < (z1.length : Int))) ((0 <= x3) /\ (x3 < (z1.length : Int)) /\ ∃ y5 : Str, (z1[x3.toNat]? = some y5) /\ ∃ z6 z7, (ydS y5 z6 z7) /\ cnd (!z7) (([] : List yaa) = r0 /\ (4 : Int) = r1) ((x4.length <= 1000000000) /\ X1 (IntKind.i64.wrap (x3 + (1 : Int))) (x4 ++ ([z6] : List yaa)))) (x4 = r0 /\ (0 : Int) = r1)
def ylO (a0 : Str) (r0 : List yaa) (r1 : Int) : Prop :=
 ∃ z1 z2, (ycb a0 z1 z2) /\ cnd (!(z2 == (0 : Int))) (([] : List yaa) = r0 /\ z2 = r1) ((z1.length <= maxLen -> ∀ X1 : Int -> (List yaa) -> Prop, (∀ x3 x4, yeV r0 r1 z1 X1 x3 x4 -> X1 x3 x4) -> X1 (0 : Int) ([] : List yaa)))
theorem yox (r0 : List yaa) (r1 : Int) (z1 : List Str) {X1 : Int → (List yaa) → Prop} {x3 : Int} {x4 : List yaa} (h : yeV r0 r1 z1 X1 x3 x4) : yjn z1 r0 r1 X1 x3 x4 := by
 unfold yjn
 unfold yeV at h
 exact h
theorem yrL (a0 : Str) (r0 : List yaa) (r1 : Int) (h : ylO a0 r0 r1) : yeX a0 r0 r1 := by
 unfold yeX
 unfold ylO at h
 obtain ⟨z1, h⟩ := h
 refine ⟨z1, ?_⟩
 obtain ⟨z2, h⟩ := h
 refine ⟨z2, ?_⟩
 obtain ⟨h0, h⟩ := h
 refine ⟨h0, ?_⟩
 refine yah h (fun h => ?_) (fun h => ?_)
 ·exact h
 ·intro c
  replace h := h c
  intro X1 k
  exact h X1 (fun x3 x4 q => k x3 x4 (yox r0 r1 z1 q))
def yl2 : Sp KK := ⟨29, [.v 9], [52, 30], appW (K := KK) [52, 30] [.v 9] yeX⟩
def yqS : An KK := (.s .o (.s .o (.s (.s .o (.c (.s .o .o) .o)) (.s .o (.s (.s .o (.b (.l ⟨[(6, .row 35), (19, .kp 6), (20, .kp 7), (21, .it .i64)], [], [(35, 26)]⟩ (fun _ => (.s .o (.s (.c .o .o) (.s (.b (.s .o (.s .o (.s (.s .o (.c (.s .o .o) .o)) .o)))) .o))))))) (.s .o .o))))))
def yrf : Cf KK := ⟨CC, [yi4, ykB], [], 38, [], none, false⟩
theorem yqZ : SpOk Tryd.prog CC yl2 := yan (F := yrf) (ps := [.v 9]) (rs := [52, 30]) (w := yeX) ybl (yat yna (yat yo3 yau)) yas t29 (A := yqS) (by kernel_rfl) (by kernel_rfl) (fun a0 r0 r1 => show _ = _ by kernel_rfl)
def ybm (a0 : yaa) (r0 : Bool) : Prop :=
 (a0.Kind == (0 : Int)) = r0
def ye4 : Sp KK := ⟨42, [.v 26], [4], appW (K := KK) [4] [.v 26] ybm⟩
def yik : An KK := (.s .o (.s .o .o))
def yhY : Cf KK := ⟨CC, [], [], 6, [], none, false⟩
theorem yhX : SpOk Tryd.prog CC ye4 := yan (F := yhY) (ps := [.v 26]) (rs := [4]) (w := ybm) ybl yau yas t42 (A := yik) (by kernel_rfl) (by kernel_rfl) (fun a0 r0 => show _ = _ by kernel_rfl)
def ycE (a0 : Bool) (r0 : yaa) : Prop :=
 cnd a0 ((⟨(1 : Int), (1 : Int), ([] : Str)⟩ : yaa) = r0) ((⟨(1 : Int), (0 : Int), ([] : Str)⟩ : yaa) = r0)
def ygI : Sp KK := ⟨16, [.v 4], [26], appW (K := KK) [26] [.v 4] ycE⟩
def ykP : An KK := (.s .o (.s (.s .o (.c (.s .o .o) .o)) (.s .o .o)))
def yks : Cf KK := ⟨CC, [], [], 6, [], none, false⟩
theorem yki : SpOk Tryd.prog CC ygI := yan (F := yks) (ps := [.v 4]) (rs := [26]) (w := ycE) ybl yau yas t16 (A := ykP) (by kernel_rfl) (by kernel_rfl) (fun a0 r0 => show _ = _ by kernel_rfl)
def ybn (a0 : yaa) (r0 : Bool) : Prop :=
 ∃ z1, (ycE true z1) /\ ((a0.Kind == z1.Kind) && ((a0.N == z1.N) && ((a0.S == z1.S) && true))) = r0
def ye3 : Sp KK := ⟨23, [.v 26], [4], appW (K := KK) [4] [.v 26] ybn⟩
def yhU : An KK := (.s .o (.s .o .o))
def yh7 : Cf KK := ⟨CC, [ygI], [], 6, [], none, false⟩
theorem yhQ : SpOk Tryd.prog CC ye3 := yan (F := yh7) (ps := [.v 26]) (rs := [4]) (w := ybn) ybl (yat yki yau) yas t23 (A := yhU) (by kernel_rfl) (by kernel_rfl) (fun a0 r0 => show _ = _ by kernel_rfl)
def ybb (a0 a1 : Int) (r0 : Str) : Prop := a1 = 10 /\ -9223372036854775808 <= a0 /\ a0 <= 9223372036854775807 /\ r0 = Go.Lib.itoa a0
def yex : Sp KK := ⟨52, [.v 2, .v 3], [9], appW (K := KK) [9] [.v 2, .v 3] ybb⟩
theorem yh9 {a0 : Int} {a1 : Int} {r0 : Str} (h : ybb a0 a1 r0) : AV.Pure Tryd.prog 52 [.it .i64 a0, .it .i64 a1] (.st r0) := by
 obtain ⟨rfl, q0, q1, rfl⟩ := h
 exact ynp Tryd.func52 (by kernel_rfl) (by kernel_rfl) Tryd.strconv_FormatInt_10 q0 q1
theorem yhx : SpOk Tryd.prog CC yex := by
 intro env r hF h
 obtain ⟨a0, env0, rfl, h1⟩ := yjC h
 obtain ⟨a1, env1, rfl, h2⟩ := yjC h1
 obtain ⟨rfl, h3⟩ := ypR h2
 obtain ⟨r0, _, rfl, h4⟩ := yuc h3
 obtain ⟨rfl, h5⟩ := ytR h4
 exact ⟨rfl, (yh9 h5).congr (by kernel_rfl) (by kernel_rfl)⟩
def ya2 (a0 a1 a2 r0 : Str) : Prop := a0.length <= 100000 /\ 1 <= a1.length /\ a2.length <= 100000 /\ r0 = Go.Lib.replaceAll a0 a1 a2
def yeo : Sp KK := ⟨53, [.v 9, .v 9, .v 9], [9], appW (K := KK) [9] [.v 9, .v 9, .v 9] ya2⟩
theorem yhq {a0 : Str} {a1 : Str} {a2 : Str} {r0 : Str} (h : ya2 a0 a1 a2 r0) : AV.Pure Tryd.prog 53 [.st a0, .st a1, .st a2] (.st r0) := by
 obtain ⟨q0, q1, q2, rfl⟩ := h
 exact ymB Tryd.func53 (by kernel_rfl) (by kernel_rfl) Tryd.strings_ReplaceAll q0 q1 q2
theorem ygW : SpOk Tryd.prog CC yeo := by
 intro env r hF h
 obtain ⟨a0, env0, rfl, h1⟩ := yjC h
 obtain ⟨a1, env1, rfl, h2⟩ := yjC h1
 obtain ⟨a2, env2, rfl, h3⟩ := yjC h2
 obtain ⟨rfl, h4⟩ := ypR h3
 obtain ⟨r0, _, rfl, h5⟩ := yuc h4
 obtain ⟨rfl, h6⟩ := ytR h5
 exact ⟨rfl, (yhq h6).congr (by kernel_rfl) (by kernel_rfl)⟩
def yc1 (r0 : Str) (a0 : yaa) (x1 : Bool) : Prop :=
 cnd x1 (([78, 85, 76, 76] : Str) = r0) (∃ z2, (ybn a0 z2) /\ cnd z2 (([84, 82, 85, 69] : Str) = r0) (cnd (a0.Kind == (1 : Int)) (([70, 65, 76, 83, 69] : Str) = r0) (cnd (a0.Kind == (2 : Int)) (∃ z3, (ybb a0.N (10 : Int) z3) /\ z3 = r0) (∃ z4, (ya2 a0.S ([39] : Str) ([39, 39] : Str) z4) /\ (([39] : Str).length + z4.length <= 9223372036854775807) /\ ((([39] : Str) ++ z4).length + ([39] : Str).length <= 9223372036854775807) /\ ((([39] : Str) ++ z4) ++ ([39] : Str)) = r0))))
def yaS (a0 : yaa) (r0 : Str) : Prop :=
 ∀ J1 : Bool -> Prop, (∀ x1, yc1 r0 a0 x1 -> J1 x1) -> ∃ z5, (yaQ a0 z5) /\ cnd (!z5) (J1 true) (∃ z6, (ybm a0 z6) /\ J1 z6)
def ya3 (a0 : yaa) (r0 : Str) (x1 : Bool) : Prop :=
 cnd x1 (([78, 85, 76, 76] : Str) = r0) (∃ z2, (ybn a0 z2) /\ cnd z2 (([84, 82, 85, 69] : Str) = r0) (cnd (a0.Kind == (1 : Int)) (([70, 65, 76, 83, 69] : Str) = r0) (cnd (a0.Kind == (2 : Int)) (∃ z3, (ybb a0.N (10 : Int) z3) /\ z3 = r0) (∃ z4, (ya2 a0.S ([39] : Str) ([39, 39] : Str) z4) /\ (([39] : Str).length + z4.length <= 9223372036854775807) /\ ((([39] : Str) ++ z4).length + ([39] : Str).length <= 9223372036854775807) /\ ((([39] : Str) ++ z4) ++ ([39] : Str)) = r0))))
def ycW (a0 : yaa) (r0 : Str) : Prop :=
 ∃ z5, (yaQ a0 z5) /\ cnd (!z5) (ya3 a0 r0 true) (∃ z6, (ybm a0 z6) /\ ya3 a0 r0 z6)
theorem ygy (a0 : yaa) (r0 : Str) {x1 : Bool} (h : ya3 a0 r0 x1) : yc1 r0 a0 x1 := by
 unfold yc1
 unfold ya3 at h
 exact h
theorem yiJ (a0 : yaa) (r0 : Str) (h : ycW a0 r0) : yaS a0 r0 := by
 unfold yaS
 unfold ycW at h
 intro J1 kJ1
 have hJ1 : ∀ x1, ya3 a0 r0 x1 -> J1 x1 := fun x1 q => kJ1 x1 (ygy a0 r0 q)
 obtain ⟨z5, h⟩ := h
 refine ⟨z5, ?_⟩
 obtain ⟨h0, h⟩ := h
 refine ⟨h0, ?_⟩
 refine yah h (fun h => ?_) (fun h => ?_)
 ·exact hJ1 _ h
 ·obtain ⟨z6, h⟩ := h
  refine ⟨z6, ?_⟩
  obtain ⟨h0, h⟩ := h
  refine ⟨h0, ?_⟩
  exact hJ1 _ h
def yeY : Sp KK := ⟨21, [.v 26], [9], appW (K := KK) [9] [.v 26] yaS⟩
def yii : An KK := (.s .o (.s (.b (.j ⟨[(1, .px 1 0), (3, .bl)], [(1, 26, [.kp 4, .kp 5, .kp 6])], []⟩ .o (fun _ => (.c (.s .o .o) (.s .o (.c (.s .o .o) (.s .o (.c (.s .o .o) (.s .o (.c (.s .o .o) .o)))))))))) (.s .o .o)))
def yhS : Cf KK := ⟨CC, [ycU, ye4, ye3, yex, yeo], [], 30, [], none, false⟩
theorem yhP : SpOk Tryd.prog CC yeY := yan (F := yhS) (ps := [.v 26]) (rs := [9]) (w := yaS) ybl (yat yeK (yat yhX (yat yhQ (yat yhx (yat ygW yau))))) yas t21 (A := yii) (by kernel_rfl) (by kernel_rfl) (fun a0 r0 => show _ = _ by kernel_rfl)
def yd2 (a0 : List Str) (a1 r0 : Str) : Prop := a0.length <= 100000 /\ (Go.Lib.join a0 a1).length <= 140737488355328 /\ r0 = Go.Lib.join a0 a1
def ygs : Sp KK := ⟨62, [.v 64, .v 9], [9], appW (K := KK) [9] [.v 64, .v 9] yd2⟩
theorem ylu {a0 : (List Str)} {a1 : Str} {r0 : Str} (h : yd2 a0 a1 r0) : AV.Pure Tryd.prog 62 [slA eS a0, .st a1] (.st r0) := by
 obtain ⟨q0, q1, rfl⟩ := h
 exact yvv Tryd.func62 (by kernel_rfl) Tryd.strings_Join_none Tryd.strings_Join q0 q1
theorem yk2 : SpOk Tryd.prog CC ygs := by
 intro env r hF h
 obtain ⟨a0, env0, rfl, h1⟩ := yjC h
 obtain ⟨a1, env1, rfl, h2⟩ := yjC h1
 obtain ⟨rfl, h3⟩ := ypR h2
 obtain ⟨r0, _, rfl, h4⟩ := yuc h3
 obtain ⟨rfl, h5⟩ := ytR h4
 exact ⟨rfl, (ylu h5).congr (by kernel_rfl) (by kernel_rfl)⟩
def yh2 (a0 : List yaa) (r0 : Str) (X1 : Int → (List Str) → Prop) (x1 : Int) (x2 : List Str) : Prop :=
 cnd (decide (x1 < (a0.length : Int))) ((0 <= x1) /\ (x1 < (a0.length : Int)) /\ ∃ y3 : yaa, (a0[x1.toNat]? = some y3) /\ ∃ z4, (yaS y3 z4) /\ (x2.length <= 1000000000) /\ X1 (IntKind.i64.wrap (x1 + (1 : Int))) (x2 ++ ([z4] : List Str))) (∃ z5, (yd2 x2 ([44, 32] : Str) z5) /\ (([40] : Str).length + z5.length <= 9223372036854775807) /\ ((([40] : Str) ++ z5).length + ([41] : Str).length <= 9223372036854775807) /\ ((([40] : Str) ++ z5) ++ ([41] : Str)) = r0)
def yb4 (a0 : List yaa) (r0 : Str) : Prop :=
 (a0.length <= maxLen -> ∀ X1 : Int -> (List Str) -> Prop, (∀ x1 x2, yh2 a0 r0 X1 x1 x2 -> X1 x1 x2) -> X1 (0 : Int) ([] : List Str))
def ygq (a0 : List yaa) (r0 : Str) (X1 : Int → (List Str) → Prop) (x1 : Int) (x2 : List Str) : Prop :=
 cnd (decide (x1 < (a0.length : Int))) ((0 <= x1) /\ (x1 < (a0.length : Int)) /\ ∃ y3 : yaa, (a0[x1.toNat]? = some y3) /\ ∃ z4, (yaS y3 z4) /\ (x2.length <= 1000000000) /\ X1 (IntKind.i64.wrap (x1 + (1 : Int))) (x2 ++ ([z4] : List Str))) (∃ z5, (yd2 x2 ([44, 32] : Str) z5) /\ (([40] : Str).length + z5.length <= 9223372036854775807) /\ ((([40] : Str) ++ z5).length + ([41] : Str).length <= 9223372036854775807) /\ ((([40] : Str) ++ z5) ++ ([41] : Str)) = r0)
def yk6 (a0 : List yaa) (r0 : Str) : Prop :=
 (a0.length <= maxLen -> ∀ X1 : Int -> (List Str) -> Prop, (∀ x1 x2, ygq a0 r0 X1 x1 x2 -> X1 x1 x2) -> X1 (0 : Int) ([] : List Str))
theorem ymn (a0 : List yaa) (r0 : Str) {X1 : Int → (List Str) → Prop} {x1 : Int} {x2 : List Str} (h : ygq a0 r0 X1 x1 x2) : yh2 a0 r0 X1 x1 x2 := by
 unfold yh2
 unfold ygq at h
 exact h
theorem ylU (a0 : List yaa) (r0 : Str) (h : yk6 a0 r0) : yb4 a0 r0 := by
 unfold yb4
 unfold yk6 at h
 intro c
 replace h := h c
 intro X1 k
 exact h X1 (fun x1 x2 q => k x1 x2 (ymn a0 r0 q))
def yh5 : Sp KK := ⟨35, [.v 52], [9], appW (K := KK) [9] [.v 52] yb4⟩
def yoX : An KK := (.s .o (.s .o (.s (.s .o (.b (.l ⟨[(3, .row 16), (6, .kp 6), (7, .kp 7), (8, .it .i64)], [], [(16, 9)]⟩ (fun _ => (.s .o (.s (.c .o .o) (.s (.b (.s .o .o)) .o))))))) (.s .o .o))))
def ypA : Cf KK := ⟨CC, [yeY, ygs], [], 22, [], none, false⟩
theorem yky : SpOk Tryd.prog CC yh5 := yan (F := ypA) (ps := [.v 52]) (rs := [9]) (w := yb4) ybl (yat yhP (yat yk2 yau)) yas t35 (A := yoX) (by kernel_rfl) (by kernel_rfl) (fun a0 r0 => show _ = _ by kernel_rfl)
def yds (a0 : Int) (r0 : Bool) : Prop :=
 (!(a0 == a0)) = r0
def ygc : Sp KK := ⟨67, [.v 3], [4], appW (K := KK) [4] [.v 3] yds⟩
def yjT : An KK := (.s .o (.s .o .o))
def yjW : Cf KK := ⟨CC, [], [], 6, [], none, false⟩
theorem yjS : SpOk Tryd.prog CC ygc := yan (F := yjW) (ps := [.v 3]) (rs := [4]) (w := yds) ybl yau yas t67 (A := yjT) (by kernel_rfl) (by kernel_rfl) (fun a0 r0 => show _ = _ by kernel_rfl)
def ycw (a0 a1 r0 : Int) : Prop :=
 ∃ z1, (yds a0 z1) /\ ∃ z2, (yds a1 z2) /\ cnd z1 (cnd z2 ((0 : Int) = r0) ((-1 : Int) = r0)) (cnd z2 ((1 : Int) = r0) (cnd (decide (a0 < a1)) ((-1 : Int) = r0) (cnd (decide (a1 < a0)) ((1 : Int) = r0) ((0 : Int) = r0))))
def yfe : Sp KK := ⟨49, [.v 3, .v 3], [3], appW (K := KK) [3] [.v 3, .v 3] ycw⟩
def yi5 : An KK := (.s .o (.s .o (.s .o (.s (.s .o (.c (.s (.s .o (.c (.s .o .o) .o)) (.s .o .o)) .o)) (.s (.s .o (.c (.s .o .o) .o)) (.s (.s .o (.c (.s .o .o) .o)) (.s (.s .o (.c (.s .o .o) .o)) (.s .o .o))))))))
def yix : Cf KK := ⟨CC, [ygc], [], 20, [], none, false⟩
theorem yiN : SpOk Tryd.prog CC yfe := yan (F := yix) (ps := [.v 3, .v 3]) (rs := [3]) (w := ycw) ybl (yat yjS yau) yas t49 (A := yi5) (by kernel_rfl) (by kernel_rfl) (fun a0 a1 r0 => show _ = _ by kernel_rfl)
def ycu (a0 : Int) (r0 : Bool) : Prop :=
 (!(a0 == a0)) = r0
def yfa : Sp KK := ⟨68, [.v 2], [4], appW (K := KK) [4] [.v 2] ycu⟩
def yi7 : An KK := (.s .o (.s .o .o))
def yis : Cf KK := ⟨CC, [], [], 6, [], none, false⟩
theorem yiZ : SpOk Tryd.prog CC yfa := yan (F := yis) (ps := [.v 2]) (rs := [4]) (w := ycu) ybl yau yas t68 (A := yi7) (by kernel_rfl) (by kernel_rfl) (fun a0 r0 => show _ = _ by kernel_rfl)
def ybX (a0 a1 r0 : Int) : Prop :=
 ∃ z1, (ycu a0 z1) /\ ∃ z2, (ycu a1 z2) /\ cnd z1 (cnd z2 ((0 : Int) = r0) ((-1 : Int) = r0)) (cnd z2 ((1 : Int) = r0) (cnd (decide (a0 < a1)) ((-1 : Int) = r0) (cnd (decide (a1 < a0)) ((1 : Int) = r0) ((0 : Int) = r0))))
def yey : Sp KK := ⟨50, [.v 2, .v 2], [3], appW (K := KK) [3] [.v 2, .v 2] ybX⟩
def yhs : An KK := (.s .o (.s .o (.s .o (.s (.s .o (.c (.s (.s .o (.c (.s .o .o) .o)) (.s .o .o)) .o)) (.s (.s .o (.c (.s .o .o) .o)) (.s (.s .o (.c (.s .o .o) .o)) (.s (.s .o (.c (.s .o .o) .o)) (.s .o .o))))))))
def yhp : Cf KK := ⟨CC, [yfa], [], 20, [], none, false⟩
theorem yhw : SpOk Tryd.prog CC yey := yan (F := yhp) (ps := [.v 2, .v 2]) (rs := [3]) (w := ybX) ybl (yat yiZ yau) yas t50 (A := yhs) (by kernel_rfl) (by kernel_rfl) (fun a0 a1 r0 => show _ = _ by kernel_rfl)
def yb9 (a0 : Str) (r0 : Bool) : Prop :=
 (!(a0 == a0)) = r0
def yeW : Sp KK := ⟨69, [.v 9], [4], appW (K := KK) [4] [.v 9] yb9⟩
def yhT : An KK := (.s .o (.s .o .o))
def yhO : Cf KK := ⟨CC, [], [], 6, [], none, false⟩
theorem yih : SpOk Tryd.prog CC yeW := yan (F := yhO) (ps := [.v 9]) (rs := [4]) (w := yb9) ybl yau yas t69 (A := yhT) (by kernel_rfl) (by kernel_rfl) (fun a0 r0 => show _ = _ by kernel_rfl)
def ybS (a0 a1 : Str) (r0 : Int) : Prop :=
 ∃ z1, (yb9 a0 z1) /\ ∃ z2, (yb9 a1 z2) /\ cnd z1 (cnd z2 ((0 : Int) = r0) ((-1 : Int) = r0)) (cnd z2 ((1 : Int) = r0) (cnd (Op.bytesLess a0 a1) ((-1 : Int) = r0) (cnd (!(Op.bytesLess a0 a1 || a0 == a1)) ((1 : Int) = r0) ((0 : Int) = r0))))
def yep : Sp KK := ⟨51, [.v 9, .v 9], [3], appW (K := KK) [3] [.v 9, .v 9] ybS⟩
def ygX : An KK := (.s .o (.s .o (.s .o (.s (.s .o (.c (.s (.s .o (.c (.s .o .o) .o)) (.s .o .o)) .o)) (.s (.s .o (.c (.s .o .o) .o)) (.s (.s .o (.c (.s .o .o) .o)) (.s (.s .o (.c (.s .o .o) .o)) (.s .o .o))))))))
def ygY : Cf KK := ⟨CC, [yeW], [], 20, [], none, false⟩
theorem ygu : SpOk Tryd.prog CC yep := yan (F := ygY) (ps := [.v 9, .v 9]) (rs := [3]) (w := ybS) ybl (yat yih yau) yas t51 (A := ygX) (by kernel_rfl) (by kernel_rfl) (fun a0 a1 r0 => show _ = _ by kernel_rfl)
def yfR (a0 : List Int) (r0 : Int) (X1 : Int → Prop) (x1 : Int) : Prop :=
 cnd (decide (x1 < (a0.length : Int))) ((0 <= x1) /\ (x1 < (a0.length : Int)) /\ ∃ y2 : Int, (a0[x1.toNat]? = some y2) /\ cnd (!(y2 == (0 : Int))) (y2 = r0) (X1 (IntKind.i64.wrap (x1 + (1 : Int))))) ((0 : Int) = r0)
def yc3 (a0 : List Int) (r0 : Int) : Prop :=
 (a0.length <= maxLen -> ∀ X1 : Int -> Prop, (∀ x1, yfR a0 r0 X1 x1 -> X1 x1) -> X1 (0 : Int))
def yfg (a0 : List Int) (r0 : Int) (X1 : Int → Prop) (x1 : Int) : Prop :=
 cnd (decide (x1 < (a0.length : Int))) ((0 <= x1) /\ (x1 < (a0.length : Int)) /\ ∃ y2 : Int, (a0[x1.toNat]? = some y2) /\ cnd (!(y2 == (0 : Int))) (y2 = r0) (X1 (IntKind.i64.wrap (x1 + (1 : Int))))) ((0 : Int) = r0)
def yi1 (a0 : List Int) (r0 : Int) : Prop :=
 (a0.length <= maxLen -> ∀ X1 : Int -> Prop, (∀ x1, yfg a0 r0 X1 x1 -> X1 x1) -> X1 (0 : Int))
theorem ylc (a0 : List Int) (r0 : Int) {X1 : Int → Prop} {x1 : Int} (h : yfg a0 r0 X1 x1) : yfR a0 r0 X1 x1 := by
 unfold yfR
 unfold yfg at h
 exact h
theorem yoe (a0 : List Int) (r0 : Int) (h : yi1 a0 r0) : yc3 a0 r0 := by
 unfold yc3
 unfold yi1 at h
 intro c
 replace h := h c
 intro X1 k
 exact h X1 (fun x1 q => k x1 (ylc a0 r0 q))
def yiv : Sp KK := ⟨48, [.v 107], [3], appW (K := KK) [3] [.v 107] yc3⟩
def ymm : An KK := (.s .o (.s .o (.s (.s .o (.b (.l ⟨[(3, .kp 5), (6, .kp 6), (7, .kp 7), (8, .it .i64)], [], []⟩ (fun _ => (.s .o (.s (.c .o .o) (.s (.b (.s .o (.s .o (.c (.s .o .o) .o)))) .o))))))) (.s .o .o))))
def ymE : Cf KK := ⟨CC, [], [], 18, [], none, false⟩
theorem ymx : SpOk Tryd.prog CC yiv := yan (F := ymE) (ps := [.v 107]) (rs := [3]) (w := yc3) ybl yau yas t48 (A := ymm) (by kernel_rfl) (by kernel_rfl) (fun a0 r0 => show _ = _ by kernel_rfl)
def ydi (a0 a1 : yaa) (r0 : Int) : Prop :=
 ∃ z1, (ycw a0.Kind a1.Kind z1) /\ ∃ z2, (ybX a0.N a1.N z2) /\ ∃ z3, (ybS a0.S a1.S z3) /\ ∃ z4, (yc3 ([z1, z2, z3] : List Int) z4) /\ z4 = r0
def ygd : Sp KK := ⟨15, [.v 26, .v 26], [3], appW (K := KK) [3] [.v 26, .v 26] ydi⟩
def yjX : An KK := (.s .o (.s .o .o))
def yjZ : Cf KK := ⟨CC, [yfe, yey, yep, yiv], [], 22, [], none, false⟩
theorem yjU : SpOk Tryd.prog CC ygd := yan (F := yjZ) (ps := [.v 26, .v 26]) (rs := [3]) (w := ydi) ybl (yat yiN (yat yhw (yat ygu (yat ymx yau)))) yas t15 (A := yjX) (by kernel_rfl) (by kernel_rfl) (fun a0 a1 r0 => show _ = _ by kernel_rfl)
def ybA (a0 a1 : List yaa) (r0 : Int) (g2 : yaa → yaa → Int → Prop) (X1 : Int → Prop) (x1 : Int) : Prop :=
 cnd (decide (x1 < (a0.length : Int))) ((0 <= x1) /\ (x1 < (a0.length : Int)) /\ ∃ y2 : yaa, (a0[x1.toNat]? = some y2) /\ (a1.length <= maxLen -> cnd (decide ((a1.length : Int) <= x1)) ((1 : Int) = r0) ((0 <= x1) /\ (x1 < (a1.length : Int)) /\ ∃ y3 : yaa, (a1[x1.toNat]? = some y3) /\ ∃ z4, (g2 y2 y3 z4) /\ cnd (!(z4 == (0 : Int))) (z4 = r0) (X1 (IntKind.i64.wrap (x1 + (1 : Int))))))) ((a0.length <= maxLen -> (a1.length <= maxLen -> cnd (decide ((a0.length : Int) < (a1.length : Int))) ((-1 : Int) = r0) ((0 : Int) = r0))))
def yaG (a0 a1 : List yaa) (g2 : yaa → yaa → Int → Prop) (r0 : Int) : Prop :=
 (a0.length <= maxLen -> ∀ X1 : Int -> Prop, (∀ x1, ybA a0 a1 r0 g2 X1 x1 -> X1 x1) -> X1 (0 : Int))
def ya0 (a0 a1 : List yaa) (g2 : yaa → yaa → Int → Prop) (r0 : Int) (X1 : Int → Prop) (x1 : Int) : Prop :=
 cnd (decide (x1 < (a0.length : Int))) ((0 <= x1) /\ (x1 < (a0.length : Int)) /\ ∃ y2 : yaa, (a0[x1.toNat]? = some y2) /\ (a1.length <= maxLen -> cnd (decide ((a1.length : Int) <= x1)) ((1 : Int) = r0) ((0 <= x1) /\ (x1 < (a1.length : Int)) /\ ∃ y3 : yaa, (a1[x1.toNat]? = some y3) /\ ∃ z4, (g2 y2 y3 z4) /\ cnd (!(z4 == (0 : Int))) (z4 = r0) (X1 (IntKind.i64.wrap (x1 + (1 : Int))))))) ((a0.length <= maxLen -> (a1.length <= maxLen -> cnd (decide ((a0.length : Int) < (a1.length : Int))) ((-1 : Int) = r0) ((0 : Int) = r0))))
def yca (a0 a1 : List yaa) (g2 : yaa → yaa → Int → Prop) (r0 : Int) : Prop :=
 (a0.length <= maxLen -> ∀ X1 : Int -> Prop, (∀ x1, ya0 a0 a1 g2 r0 X1 x1 -> X1 x1) -> X1 (0 : Int))
theorem yeu (a0 a1 : List yaa) (g2 : yaa → yaa → Int → Prop) (r0 : Int) {X1 : Int → Prop} {x1 : Int} (h : ya0 a0 a1 g2 r0 X1 x1) : ybA a0 a1 r0 g2 X1 x1 := by
 unfold ybA
 unfold ya0 at h
 exact h
theorem ycy (a0 a1 : List yaa) (g2 : yaa → yaa → Int → Prop) (r0 : Int) (h : yca a0 a1 g2 r0) : yaG a0 a1 g2 r0 := by
 unfold yaG
 unfold yca at h
 intro c
 replace h := h c
 intro X1 k
 exact h X1 (fun x1 q => k x1 (yeu a0 a1 g2 r0 q))
def ycj : Sp KK := ⟨60, [.v 52, .v 52, .f [26, 26] [3]], [3], appW (K := KK) [3] [.v 52, .v 52, .f [26, 26] [3]] yaG⟩
def yeL : An KK := (.s .o (.s (.s .o (.b (.l ⟨[(0, .kp 7), (1, .kp 8), (2, .kp 9), (11, .kp 10), (12, .kp 11), (13, .it .i64)], [], []⟩ (fun _ => (.s .o (.s (.c .o .o) (.s (.b (.s .o (.s (.s .o (.c (.s .o .o) .o)) (.s .o (.s .o (.s .o (.c (.s .o .o) .o))))))) .o))))))) (.s (.s .o (.c (.s .o .o) .o)) (.s .o .o))))
def yeQ : Cf KK := ⟨CC, [], [], 39, [], none, false⟩
theorem yeT : SpOk Tryd.prog CC ycj := yan (F := yeQ) (ps := [.v 52, .v 52, .f [26, 26] [3]]) (rs := [3]) (w := yaG) ybl yau yas t60 (A := yeL) (by kernel_rfl) (by kernel_rfl) (fun a0 a1 F2 r0 => show _ = _ by kernel_rfl)
def yaW (a0 a1 : List yaa) (r0 : Int) : Prop :=
 ∃ z1, (yaG a0 a1 ydi z1) /\ z1 = r0
def ydW : Sp KK := ⟨31, [.v 52, .v 52], [3], appW (K := KK) [3] [.v 52, .v 52] yaW⟩
def ylB : An KK := (.s .o (.s .o .o))
def ylI : Cf KK := ⟨CC, [ygd, ycj], [], 8, [], none, false⟩
theorem yfn : SpOk Tryd.prog CC ydW := yan (F := ylI) (ps := [.v 52, .v 52]) (rs := [3]) (w := yaW) ybl (yat yjU (yat yeT yau)) yas t31 (A := ylB) (by kernel_rfl) (by kernel_rfl) (fun a0 a1 r0 => show _ = _ by kernel_rfl)
def yeN (r0 x5 : Bool) : Prop :=
 x5 = r0
def ybM (r0 : Bool) : Prop :=
 ∃ z1, (ybL (1 : Int) z1) /\ ∃ z2, (ydf ([z1, (⟨(0 : Int), (0 : Int), ([] : Str)⟩ : yaa)] : List yaa) z2) /\ ∃ z3 z4, (yeX z2 z3 z4) /\ ∀ J1 : Bool -> Prop, (∀ x5, yeN r0 x5 -> J1 x5) -> ∃ z6, (yb4 ([z1, (⟨(0 : Int), (0 : Int), ([] : Str)⟩ : yaa)] : List yaa) z6) /\ cnd (z6 == ([40, 49, 44, 32, 78, 85, 76, 76, 41] : Str)) (cnd (z4 == (0 : Int)) (cnd ((z3.length : Int) == (2 : Int)) ((0 <= (0 : Int)) /\ ((0 : Int) < (z3.length : Int)) /\ ∃ y7 : yaa, (z3[(0 : Int).toNat]? = some y7) /\ ∃ z8, (ybL (1 : Int) z8) /\ cnd ((y7.Kind == z8.Kind) && ((y7.N == z8.N) && ((y7.S == z8.S) && true))) (∃ z9, (yaW ([z1, (⟨(0 : Int), (0 : Int), ([] : Str)⟩ : yaa)] : List yaa) z3 z9) /\ J1 (z9 == (0 : Int))) (J1 false)) (J1 false)) (J1 false)) (J1 false)
def ya4 (r0 x5 : Bool) : Prop :=
 x5 = r0
def yg1 (r0 : Bool) : Prop :=
 ∃ z1, (ybL (1 : Int) z1) /\ ∃ z2, (ydf ([z1, (⟨(0 : Int), (0 : Int), ([] : Str)⟩ : yaa)] : List yaa) z2) /\ ∃ z3 z4, (yeX z2 z3 z4) /\ ∃ z6, (yb4 ([z1, (⟨(0 : Int), (0 : Int), ([] : Str)⟩ : yaa)] : List yaa) z6) /\ cnd (z6 == ([40, 49, 44, 32, 78, 85, 76, 76, 41] : Str)) (cnd (z4 == (0 : Int)) (cnd ((z3.length : Int) == (2 : Int)) ((0 <= (0 : Int)) /\ ((0 : Int) < (z3.length : Int)) /\ ∃ y7 : yaa, (z3[(0 : Int).toNat]? = some y7) /\ ∃ z8, (ybL (1 : Int) z8) /\ cnd ((y7.Kind == z8.Kind) && ((y7.N == z8.N) && ((y7.S == z8.S) && true))) (∃ z9, (yaW ([z1, (⟨(0 : Int), (0 : Int), ([] : Str)⟩ : yaa)] : List yaa) z3 z9) /\ ya4 r0 (z9 == (0 : Int))) (ya4 r0 false)) (ya4 r0 false)) (ya4 r0 false)) (ya4 r0 false)
theorem yjd (r0 : Bool) {x5 : Bool} (h : ya4 r0 x5) : yeN r0 x5 := by
 unfold yeN
 unfold ya4 at h
 exact h
theorem ylr (r0 : Bool) (h : yg1 r0) : ybM r0 := by
 unfold ybM
 unfold yg1 at h
 obtain ⟨z1, h⟩ := h
 refine ⟨z1, ?_⟩
 obtain ⟨h0, h⟩ := h
 refine ⟨h0, ?_⟩
 obtain ⟨z2, h⟩ := h
 refine ⟨z2, ?_⟩
 obtain ⟨h0, h⟩ := h
 refine ⟨h0, ?_⟩
 obtain ⟨z3, h⟩ := h
 refine ⟨z3, ?_⟩
 obtain ⟨z4, h⟩ := h
 refine ⟨z4, ?_⟩
 obtain ⟨h0, h⟩ := h
 refine ⟨h0, ?_⟩
 intro J1 kJ1
 have hJ1 : ∀ x5, ya4 r0 x5 -> J1 x5 := fun x5 q => kJ1 x5 (yjd r0 q)
 obtain ⟨z6, h⟩ := h
 refine ⟨z6, ?_⟩
 obtain ⟨h0, h⟩ := h
 refine ⟨h0, ?_⟩
 refine yah h (fun h => ?_) (fun h => ?_)
 ·refine yah h (fun h => ?_) (fun h => ?_)
  ·refine yah h (fun h => ?_) (fun h => ?_)
   ·obtain ⟨h0, h⟩ := h
    refine ⟨h0, ?_⟩
    obtain ⟨h0, h⟩ := h
    refine ⟨h0, ?_⟩
    obtain ⟨y7, h⟩ := h
    refine ⟨y7, ?_⟩
    obtain ⟨h0, h⟩ := h
    refine ⟨h0, ?_⟩
    obtain ⟨z8, h⟩ := h
    refine ⟨z8, ?_⟩
    obtain ⟨h0, h⟩ := h
    refine ⟨h0, ?_⟩
    refine yah h (fun h => ?_) (fun h => ?_)
    ·obtain ⟨z9, h⟩ := h
     refine ⟨z9, ?_⟩
     obtain ⟨h0, h⟩ := h
     refine ⟨h0, ?_⟩
     exact hJ1 _ h
    ·exact hJ1 _ h
   ·exact hJ1 _ h
  ·exact hJ1 _ h
 ·exact hJ1 _ h
def ygT : Sp KK := ⟨26, [], [4], appW (K := KK) [4] [] ybM⟩
def yk0 : An KK := (.s .o (.s .o (.s .o (.j ⟨[(0, .bl)], [], []⟩ .o (fun _ => .o)))))
def yli : Cf KK := ⟨CC, [yhE, yjq, yl2, yh5, ydW], [], 38, [], none, false⟩
theorem ykv : SpOk Tryd.prog CC ygT := yan (F := yli) (ps := []) (rs := [4]) (w := ybM) ybl (yat yly (yat ylR (yat yqZ (yat yky (yat yfn yau))))) yas t26 (A := yk0) (by kernel_rfl) (by kernel_rfl) (fun r0 => show _ = _ by kernel_rfl)
def yfO (X1 : Int → (List yaa) → (List yab) → Prop) (x1 : Int) (y7 : yac) (x8 : Int) (x9 : Str) (x10 : List yaa) (x11 : List yab) : Prop :=
 (x10.length <= 1000000000) /\ (x11.length <= 1000000000) /\ X1 (IntKind.i64.wrap (x1 + (1 : Int))) (x10 ++ ([(⟨IntKind.i64.wrap (y7.Kind.tmod (4 : Int)), x8, x9⟩ : yaa)] : List yaa)) (x11 ++ ([(⟨IntKind.i64.wrap (y7.Kind.tmod (4 : Int)), x8, x9⟩ : yab)] : List yab))
def yf2 (x1 : Int) (a0 : List yac) (X1 : Int → (List yaa) → (List yab) → Prop) (r0 : List yaa) (r1 : List yab) (x4 : Bool) (x5 : List yaa) (x6 : List yab) : Prop :=
 cnd x4 ((0 <= x1) /\ (x1 < (a0.length : Int)) /\ ∃ y7 : yac, (a0[x1.toNat]? = some y7) /\ ∀ J3 : Int -> Str -> (List yaa) -> (List yab) -> Prop, (∀ x8 x9 x10 x11, yfO X1 x1 y7 x8 x9 x10 x11 -> J3 x8 x9 x10 x11) -> cnd ((IntKind.i64.wrap (y7.Kind.tmod (4 : Int))) == (1 : Int)) ((0 <= x1) /\ (x1 < (a0.length : Int)) /\ ∃ y12 : yac, (a0[x1.toNat]? = some y12) /\ J3 (bits .and .i64 y12.N (1 : Int)) ([] : Str) x5 x6) (cnd ((IntKind.i64.wrap (y7.Kind.tmod (4 : Int))) == (2 : Int)) ((0 <= x1) /\ (x1 < (a0.length : Int)) /\ ∃ y13 : yac, (a0[x1.toNat]? = some y13) /\ J3 y13.N ([] : Str) x5 x6) (cnd ((IntKind.i64.wrap (y7.Kind.tmod (4 : Int))) == (3 : Int)) ((0 <= x1) /\ (x1 < (a0.length : Int)) /\ ∃ y14 : yac, (a0[x1.toNat]? = some y14) /\ (0 <= x1) /\ (x1 < (a0.length : Int)) /\ ∃ y15 : yac, (a0[x1.toNat]? = some y15) /\ (0 <= (0 : Int) /\ (0 : Int) <= (if (64 : Int) < (y15.S.length : Int) then (64 : Int) else (y15.S.length : Int)) /\ (if (64 : Int) < (y15.S.length : Int) then (64 : Int) else (y15.S.length : Int)) <= (y14.S.length : Int)) /\ J3 (0 : Int) ((y14.S.drop (0 : Int).toNat).take ((if (64 : Int) < (y15.S.length : Int) then (64 : Int) else (y15.S.length : Int)).toNat - (0 : Int).toNat)) x5 x6) (J3 (0 : Int) ([] : Str) x5 x6)))) (x5 = r0 /\ x6 = r1)
def yfK (a0 : List yac) (r0 : List yaa) (r1 : List yab) (X1 : Int → (List yaa) → (List yab) → Prop) (x1 : Int) (x2 : List yaa) (x3 : List yab) : Prop :=
 ∀ J2 : Bool -> (List yaa) -> (List yab) -> Prop, (∀ x4 x5 x6, yf2 x1 a0 X1 r0 r1 x4 x5 x6 -> J2 x4 x5 x6) -> (a0.length <= maxLen -> cnd (decide (x1 < (a0.length : Int))) (J2 (decide (x1 < (9 : Int))) x2 x3) (J2 false x2 x3))
def yck (a0 : List yac) (r0 : List yaa) (r1 : List yab) : Prop :=
 ∀ X1 : Int -> (List yaa) -> (List yab) -> Prop, (∀ x1 x2 x3, yfK a0 r0 r1 X1 x1 x2 x3 -> X1 x1 x2 x3) -> X1 (0 : Int) ([] : List yaa) ([] : List yab)
def ybx (X1 : Int → (List yaa) → (List yab) → Prop) (x1 : Int) (y7 : yac) (x8 : Int) (x9 : Str) (x10 : List yaa) (x11 : List yab) : Prop :=
 (x10.length <= 1000000000) /\ (x11.length <= 1000000000) /\ X1 (IntKind.i64.wrap (x1 + (1 : Int))) (x10 ++ ([(⟨IntKind.i64.wrap (y7.Kind.tmod (4 : Int)), x8, x9⟩ : yaa)] : List yaa)) (x11 ++ ([(⟨IntKind.i64.wrap (y7.Kind.tmod (4 : Int)), x8, x9⟩ : yab)] : List yab))
def ybQ (X1 : Int → (List yaa) → (List yab) → Prop) (a0 : List yac) (r0 : List yaa) (r1 : List yab) (x1 : Int) (x4 : Bool) (x5 : List yaa) (x6 : List yab) : Prop :=
 cnd x4 ((0 <= x1) /\ (x1 < (a0.length : Int)) /\ ∃ y7 : yac, (a0[x1.toNat]? = some y7) /\ cnd ((IntKind.i64.wrap (y7.Kind.tmod (4 : Int))) == (1 : Int)) ((0 <= x1) /\ (x1 < (a0.length : Int)) /\ ∃ y12 : yac, (a0[x1.toNat]? = some y12) /\ ybx X1 x1 y7 (bits .and .i64 y12.N (1 : Int)) ([] : Str) x5 x6) (cnd ((IntKind.i64.wrap (y7.Kind.tmod (4 : Int))) == (2 : Int)) ((0 <= x1) /\ (x1 < (a0.length : Int)) /\ ∃ y13 : yac, (a0[x1.toNat]? = some y13) /\ ybx X1 x1 y7 y13.N ([] : Str) x5 x6) (cnd ((IntKind.i64.wrap (y7.Kind.tmod (4 : Int))) == (3 : Int)) ((0 <= x1) /\ (x1 < (a0.length : Int)) /\ ∃ y14 : yac, (a0[x1.toNat]? = some y14) /\ (0 <= x1) /\ (x1 < (a0.length : Int)) /\ ∃ y15 : yac, (a0[x1.toNat]? = some y15) /\ (0 <= (0 : Int) /\ (0 : Int) <= (if (64 : Int) < (y15.S.length : Int) then (64 : Int) else (y15.S.length : Int)) /\ (if (64 : Int) < (y15.S.length : Int) then (64 : Int) else (y15.S.length : Int)) <= (y14.S.length : Int)) /\ ybx X1 x1 y7 (0 : Int) ((y14.S.drop (0 : Int).toNat).take ((if (64 : Int) < (y15.S.length : Int) then (64 : Int) else (y15.S.length : Int)).toNat - (0 : Int).toNat)) x5 x6) (ybx X1 x1 y7 (0 : Int) ([] : Str) x5 x6)))) (x5 = r0 /\ x6 = r1)
def ydY (a0 : List yac) (r0 : List yaa) (r1 : List yab) (X1 : Int → (List yaa) → (List yab) → Prop) (x1 : Int) (x2 : List yaa) (x3 : List yab) : Prop :=
 (a0.length <= maxLen -> cnd (decide (x1 < (a0.length : Int))) (ybQ X1 a0 r0 r1 x1 (decide (x1 < (9 : Int))) x2 x3) (ybQ X1 a0 r0 r1 x1 false x2 x3))
def yiV (a0 : List yac) (r0 : List yaa) (r1 : List yab) : Prop :=
 ∀ X1 : Int -> (List yaa) -> (List yab) -> Prop, (∀ x1 x2 x3, ydY a0 r0 r1 X1 x1 x2 x3 -> X1 x1 x2 x3) -> X1 (0 : Int) ([] : List yaa) ([] : List yab)
theorem yko (X1 : Int → (List yaa) → (List yab) → Prop) (x1 : Int) (y7 : yac) {x8 : Int} {x9 : Str} {x10 : List yaa} {x11 : List yab} (h : ybx X1 x1 y7 x8 x9 x10 x11) : yfO X1 x1 y7 x8 x9 x10 x11 := by
 unfold yfO
 unfold ybx at h
 exact h
theorem ylb (X1 : Int → (List yaa) → (List yab) → Prop) (a0 : List yac) (r0 : List yaa) (r1 : List yab) (x1 : Int) {x4 : Bool} {x5 : List yaa} {x6 : List yab} (h : ybQ X1 a0 r0 r1 x1 x4 x5 x6) : yf2 x1 a0 X1 r0 r1 x4 x5 x6 := by
 unfold yf2
 unfold ybQ at h
 refine yah h (fun h => ?_) (fun h => ?_)
 ·obtain ⟨h0, h⟩ := h
  refine ⟨h0, ?_⟩
  obtain ⟨h0, h⟩ := h
  refine ⟨h0, ?_⟩
  obtain ⟨y7, h⟩ := h
  refine ⟨y7, ?_⟩
  obtain ⟨h0, h⟩ := h
  refine ⟨h0, ?_⟩
  intro J3 kJ3
  have hJ3 : ∀ x8 x9 x10 x11, ybx X1 x1 y7 x8 x9 x10 x11 -> J3 x8 x9 x10 x11 := fun x8 x9 x10 x11 q => kJ3 x8 x9 x10 x11 (yko X1 x1 y7 q)
  refine yah h (fun h => ?_) (fun h => ?_)
  ·obtain ⟨h0, h⟩ := h
   refine ⟨h0, ?_⟩
   obtain ⟨h0, h⟩ := h
   refine ⟨h0, ?_⟩
   obtain ⟨y12, h⟩ := h
   refine ⟨y12, ?_⟩
   obtain ⟨h0, h⟩ := h
   refine ⟨h0, ?_⟩
   exact hJ3 _ _ _ _ h
  ·refine yah h (fun h => ?_) (fun h => ?_)
   ·obtain ⟨h0, h⟩ := h
    refine ⟨h0, ?_⟩
    obtain ⟨h0, h⟩ := h
    refine ⟨h0, ?_⟩
    obtain ⟨y13, h⟩ := h
    refine ⟨y13, ?_⟩
    obtain ⟨h0, h⟩ := h
    refine ⟨h0, ?_⟩
    exact hJ3 _ _ _ _ h
   ·refine yah h (fun h => ?_) (fun h => ?_)
    ·obtain ⟨h0, h⟩ := h
     refine ⟨h0, ?_⟩
     obtain ⟨h0, h⟩ := h
     refine ⟨h0, ?_⟩
     obtain ⟨y14, h⟩ := h
     refine ⟨y14, ?_⟩
     obtain ⟨h0, h⟩ := h
     refine ⟨h0, ?_⟩
     obtain ⟨h0, h⟩ := h
     refine ⟨h0, ?_⟩
     obtain ⟨h0, h⟩ := h
     refine ⟨h0, ?_⟩
     obtain ⟨y15, h⟩ := h
     refine ⟨y15, ?_⟩
     obtain ⟨h0, h⟩ := h
     refine ⟨h0, ?_⟩
     obtain ⟨h0, h⟩ := h
     refine ⟨h0, ?_⟩
     exact hJ3 _ _ _ _ h
    ·exact hJ3 _ _ _ _ h
 ·exact h
theorem ylg (a0 : List yac) (r0 : List yaa) (r1 : List yab) {X1 : Int → (List yaa) → (List yab) → Prop} {x1 : Int} {x2 : List yaa} {x3 : List yab} (h : ydY a0 r0 r1 X1 x1 x2 x3) : yfK a0 r0 r1 X1 x1 x2 x3 := by
 unfold yfK
 unfold ydY at h
 intro J2 kJ2
 have hJ2 : ∀ x4 x5 x6, ybQ X1 a0 r0 r1 x1 x4 x5 x6 -> J2 x4 x5 x6 := fun x4 x5 x6 q => kJ2 x4 x5 x6 (ylb X1 a0 r0 r1 x1 q)
 intro c
 replace h := h c
 refine yah h (fun h => ?_) (fun h => ?_)
 ·exact hJ2 _ _ _ h
 ·exact hJ2 _ _ _ h
theorem yoh (a0 : List yac) (r0 : List yaa) (r1 : List yab) (h : yiV a0 r0 r1) : yck a0 r0 r1 := by
 unfold yck
 unfold yiV at h
 intro X1 k
 exact h X1 (fun x1 x2 x3 q => k x1 x2 x3 (ylg a0 r0 r1 q))
def yip : Sp KK := ⟨27, [.v 50], [52, 54], appW (K := KK) [52, 54] [.v 50] yck⟩
def ynm : An KK := (.s .o (.s .o (.s .o (.s (.s .o (.b (.l ⟨[(0, .kp 15), (4, .row 64), (5, .row 68), (6, .it .i64)], [], [(64, 26), (68, 27)]⟩ (fun _ => (.s (.j ⟨[(0, .kp 15), (4, .row 64), (5, .row 68), (6, .kp 26), (15, .bl)], [], [(64, 26), (68, 27)]⟩ .o (fun _ => (.c .o .o))) (.s (.b (.s .o (.j ⟨[(0, .kp 15), (4, .row 64), (5, .row 68), (6, .kp 26), (7, .px 7 0)], [(7, 27, [.kp 28, .it .i64, .st])], [(64, 26), (68, 27)]⟩ (.s .o (.b (.s .o (.c .o (.s .o (.c .o (.s .o (.c .o .o)))))))) (fun _ => .o)))) .o)))))) (.s .o .o)))))
def ymp : Cf KK := ⟨CC, [], [], 71, [], none, false⟩
theorem ymq : SpOk Tryd.prog CC yip := yan (F := ymp) (ps := [.v 50]) (rs := [52, 54]) (w := yck) ybl yau yas t27 (A := ynm) (by kernel_rfl) (by kernel_rfl) (fun a0 r0 r1 => show _ = _ by kernel_rfl)
def ygt (r0 : Str) (X1 : Int → Str → Int → Prop) (x1 : Int) (x2 : Str) (x3 : Int) : Prop :=
 cnd (decide (x3 < (8 : Int))) (((([IntKind.u8.wrap (x1.tmod (256 : Int))] : List Int).map toB).length + x2.length <= 9223372036854775807) /\ X1 (IntKind.u64.wrap (x1.tdiv (256 : Int))) ((([IntKind.u8.wrap (x1.tmod (256 : Int))] : List Int).map toB) ++ x2) (IntKind.i64.wrap (x3 + (1 : Int)))) (x2 = r0)
def ycV (a0 : Int) (r0 : Str) : Prop :=
 ∀ X1 : Int -> Str -> Int -> Prop, (∀ x1 x2 x3, ygt r0 X1 x1 x2 x3 -> X1 x1 x2 x3) -> X1 (IntKind.u64.wrap ((IntKind.u64.wrap a0) + (9223372036854775808 : Int))) ([] : Str) (0 : Int)
def yeB (r0 : Str) (X1 : Int → Str → Int → Prop) (x1 : Int) (x2 : Str) (x3 : Int) : Prop :=
 cnd (decide (x3 < (8 : Int))) (((([IntKind.u8.wrap (x1.tmod (256 : Int))] : List Int).map toB).length + x2.length <= 9223372036854775807) /\ X1 (IntKind.u64.wrap (x1.tdiv (256 : Int))) ((([IntKind.u8.wrap (x1.tmod (256 : Int))] : List Int).map toB) ++ x2) (IntKind.i64.wrap (x3 + (1 : Int)))) (x2 = r0)
def ygp (a0 : Int) (r0 : Str) : Prop :=
 ∀ X1 : Int -> Str -> Int -> Prop, (∀ x1 x2 x3, yeB r0 X1 x1 x2 x3 -> X1 x1 x2 x3) -> X1 (IntKind.u64.wrap ((IntKind.u64.wrap a0) + (9223372036854775808 : Int))) ([] : Str) (0 : Int)
theorem ylt (r0 : Str) {X1 : Int → Str → Int → Prop} {x1 : Int} {x2 : Str} {x3 : Int} (h : yeB r0 X1 x1 x2 x3) : ygt r0 X1 x1 x2 x3 := by
 unfold ygt
 unfold yeB at h
 exact h
theorem ypB (a0 : Int) (r0 : Str) (h : ygp a0 r0) : ycV a0 r0 := by
 unfold ycV
 unfold ygp at h
 intro X1 k
 exact h X1 (fun x1 x2 x3 q => k x1 x2 x3 (ylt r0 q))
def yjH : Sp KK := ⟨58, [.v 2], [9], appW (K := KK) [9] [.v 2] ycV⟩
def ynu : An KK := (.s .o (.s .o (.s .o (.s (.s .o (.b (.l ⟨[(3, .it .u64), (4, .st), (5, .it .i64)], [], []⟩ (fun _ => (.s (.s .o (.c .o .o)) (.s (.b (.s .o .o)) .o)))))) (.s .o .o)))))
def yn8 : Cf KK := ⟨CC, [], [], 23, [], none, false⟩
theorem yof : SpOk Tryd.prog CC yjH := yan (F := yn8) (ps := [.v 2]) (rs := [9]) (w := ycV) ybl yau yas t58 (A := ynu) (by kernel_rfl) (by kernel_rfl) (fun a0 r0 => show _ = _ by kernel_rfl)
def yfW (a0 : List Str) (r0 : Str) (X1 : Str → Int → Prop) (x1 : Str) (x2 : Int) : Prop :=
 (a0.length <= maxLen -> cnd (decide (x2 < (a0.length : Int))) ((0 <= x2) /\ (x2 < (a0.length : Int)) /\ ∃ y3 : Str, (a0[x2.toNat]? = some y3) /\ (0 <= x2) /\ (x2 < (a0.length : Int)) /\ ∃ y4 : Str, (a0[x2.toNat]? = some y4) /\ ((([IntKind.u8.wrap ((IntKind.i64.wrap ((y3.length : Int).tdiv (16777216 : Int))).tmod (256 : Int)), IntKind.u8.wrap ((IntKind.i64.wrap ((y3.length : Int).tdiv (65536 : Int))).tmod (256 : Int)), IntKind.u8.wrap ((IntKind.i64.wrap ((y3.length : Int).tdiv (256 : Int))).tmod (256 : Int)), IntKind.u8.wrap ((y3.length : Int).tmod (256 : Int))] : List Int).map toB).length + y4.length <= 9223372036854775807) /\ (x1.length + ((([IntKind.u8.wrap ((IntKind.i64.wrap ((y3.length : Int).tdiv (16777216 : Int))).tmod (256 : Int)), IntKind.u8.wrap ((IntKind.i64.wrap ((y3.length : Int).tdiv (65536 : Int))).tmod (256 : Int)), IntKind.u8.wrap ((IntKind.i64.wrap ((y3.length : Int).tdiv (256 : Int))).tmod (256 : Int)), IntKind.u8.wrap ((y3.length : Int).tmod (256 : Int))] : List Int).map toB) ++ y4).length <= 9223372036854775807) /\ X1 (x1 ++ ((([IntKind.u8.wrap ((IntKind.i64.wrap ((y3.length : Int).tdiv (16777216 : Int))).tmod (256 : Int)), IntKind.u8.wrap ((IntKind.i64.wrap ((y3.length : Int).tdiv (65536 : Int))).tmod (256 : Int)), IntKind.u8.wrap ((IntKind.i64.wrap ((y3.length : Int).tdiv (256 : Int))).tmod (256 : Int)), IntKind.u8.wrap ((y3.length : Int).tmod (256 : Int))] : List Int).map toB) ++ y4)) (IntKind.i64.wrap (x2 + (1 : Int)))) (x1 = r0))
def ycp (a0 : List Str) (r0 : Str) : Prop :=
 ∀ X1 : Str -> Int -> Prop, (∀ x1 x2, yfW a0 r0 X1 x1 x2 -> X1 x1 x2) -> X1 ([] : Str) (0 : Int)
def yeb (a0 : List Str) (r0 : Str) (X1 : Str → Int → Prop) (x1 : Str) (x2 : Int) : Prop :=
 (a0.length <= maxLen -> cnd (decide (x2 < (a0.length : Int))) ((0 <= x2) /\ (x2 < (a0.length : Int)) /\ ∃ y3 : Str, (a0[x2.toNat]? = some y3) /\ (0 <= x2) /\ (x2 < (a0.length : Int)) /\ ∃ y4 : Str, (a0[x2.toNat]? = some y4) /\ ((([IntKind.u8.wrap ((IntKind.i64.wrap ((y3.length : Int).tdiv (16777216 : Int))).tmod (256 : Int)), IntKind.u8.wrap ((IntKind.i64.wrap ((y3.length : Int).tdiv (65536 : Int))).tmod (256 : Int)), IntKind.u8.wrap ((IntKind.i64.wrap ((y3.length : Int).tdiv (256 : Int))).tmod (256 : Int)), IntKind.u8.wrap ((y3.length : Int).tmod (256 : Int))] : List Int).map toB).length + y4.length <= 9223372036854775807) /\ (x1.length + ((([IntKind.u8.wrap ((IntKind.i64.wrap ((y3.length : Int).tdiv (16777216 : Int))).tmod (256 : Int)), IntKind.u8.wrap ((IntKind.i64.wrap ((y3.length : Int).tdiv (65536 : Int))).tmod (256 : Int)), IntKind.u8.wrap ((IntKind.i64.wrap ((y3.length : Int).tdiv (256 : Int))).tmod (256 : Int)), IntKind.u8.wrap ((y3.length : Int).tmod (256 : Int))] : List Int).map toB) ++ y4).length <= 9223372036854775807) /\ X1 (x1 ++ ((([IntKind.u8.wrap ((IntKind.i64.wrap ((y3.length : Int).tdiv (16777216 : Int))).tmod (256 : Int)), IntKind.u8.wrap ((IntKind.i64.wrap ((y3.length : Int).tdiv (65536 : Int))).tmod (256 : Int)), IntKind.u8.wrap ((IntKind.i64.wrap ((y3.length : Int).tdiv (256 : Int))).tmod (256 : Int)), IntKind.u8.wrap ((y3.length : Int).tmod (256 : Int))] : List Int).map toB) ++ y4)) (IntKind.i64.wrap (x2 + (1 : Int)))) (x1 = r0))
def yiz (a0 : List Str) (r0 : Str) : Prop :=
 ∀ X1 : Str -> Int -> Prop, (∀ x1 x2, yeb a0 r0 X1 x1 x2 -> X1 x1 x2) -> X1 ([] : Str) (0 : Int)
theorem ykh (a0 : List Str) (r0 : Str) {X1 : Str → Int → Prop} {x1 : Str} {x2 : Int} (h : yeb a0 r0 X1 x1 x2) : yfW a0 r0 X1 x1 x2 := by
 unfold yfW
 unfold yeb at h
 exact h
theorem yoq (a0 : List Str) (r0 : Str) (h : yiz a0 r0) : ycp a0 r0 := by
 unfold ycp
 unfold yiz at h
 intro X1 k
 exact h X1 (fun x1 x2 q => k x1 x2 (ykh a0 r0 q))
def yiQ : Sp KK := ⟨59, [.v 64], [9], appW (K := KK) [9] [.v 64] ycp⟩
def ymb : An KK := (.s .o (.s .o (.s (.s .o (.b (.l ⟨[(0, .kp 4), (3, .st), (4, .it .i64)], [], []⟩ (fun _ => (.s (.s .o (.c .o .o)) (.s (.b (.s .o .o)) .o)))))) (.s .o .o))))
def ym9 : Cf KK := ⟨CC, [], [], 42, [], none, false⟩
theorem ymF : SpOk Tryd.prog CC yiQ := yan (F := ym9) (ps := [.v 64]) (rs := [9]) (w := ycp) ybl yau yas t59 (A := ymb) (by kernel_rfl) (by kernel_rfl) (fun a0 r0 => show _ = _ by kernel_rfl)
def ygD (x1 : Int) (a0 : List yab) (X1 : Int → (List Str) → Prop) (x6 : Str) (x7 : List Str) : Prop :=
 (0 <= x1) /\ (x1 < (a0.length : Int)) /\ ∃ y8 : yab, (a0[x1.toNat]? = some y8) /\ (x6.length + y8.S.length <= 9223372036854775807) /\ (x7.length <= 1000000000) /\ X1 (IntKind.i64.wrap (x1 + (1 : Int))) (x7 ++ ([x6 ++ y8.S] : List Str))
def ygR (x1 : Int) (a0 : List yab) (X1 : Int → (List Str) → Prop) (x4 : Str) (x5 : List Str) : Prop :=
 ∀ J3 : Str -> (List Str) -> Prop, (∀ x6 x7, ygD x1 a0 X1 x6 x7 -> J3 x6 x7) -> (0 <= x1) /\ (x1 < (a0.length : Int)) /\ ∃ y9 : yab, (a0[x1.toNat]? = some y9) /\ cnd (y9.Kind == (2 : Int)) ((0 <= x1) /\ (x1 < (a0.length : Int)) /\ ∃ y10 : yab, (a0[x1.toNat]? = some y10) /\ ∃ z11, (ycV y10.N z11) /\ (x4.length + z11.length <= 9223372036854775807) /\ J3 (x4 ++ z11) x5) (J3 x4 x5)
def ygo (a0 : List yab) (r0 : Str) (X1 : Int → (List Str) → Prop) (x1 : Int) (x2 : List Str) : Prop :=
 (a0.length <= maxLen -> cnd (decide (x1 < (a0.length : Int))) ((0 <= x1) /\ (x1 < (a0.length : Int)) /\ ∃ y3 : yab, (a0[x1.toNat]? = some y3) /\ ∀ J2 : Str -> (List Str) -> Prop, (∀ x4 x5, ygR x1 a0 X1 x4 x5 -> J2 x4 x5) -> (0 <= x1) /\ (x1 < (a0.length : Int)) /\ ∃ y12 : yab, (a0[x1.toNat]? = some y12) /\ cnd (y12.Kind == (1 : Int)) ((0 <= x1) /\ (x1 < (a0.length : Int)) /\ ∃ y13 : yab, (a0[x1.toNat]? = some y13) /\ ((([IntKind.u8.wrap y3.Kind] : List Int).map toB).length + (([IntKind.u8.wrap y13.N] : List Int).map toB).length <= 9223372036854775807) /\ J2 ((([IntKind.u8.wrap y3.Kind] : List Int).map toB) ++ (([IntKind.u8.wrap y13.N] : List Int).map toB)) x2) (J2 (([IntKind.u8.wrap y3.Kind] : List Int).map toB) x2)) (∃ z14, (ycp x2 z14) /\ z14 = r0))
def ycY (a0 : List yab) (r0 : Str) : Prop :=
 ∀ X1 : Int -> (List Str) -> Prop, (∀ x1 x2, ygo a0 r0 X1 x1 x2 -> X1 x1 x2) -> X1 (0 : Int) ([] : List Str)
def ycs (X1 : Int → (List Str) → Prop) (a0 : List yab) (x1 : Int) (x6 : Str) (x7 : List Str) : Prop :=
 (0 <= x1) /\ (x1 < (a0.length : Int)) /\ ∃ y8 : yab, (a0[x1.toNat]? = some y8) /\ (x6.length + y8.S.length <= 9223372036854775807) /\ (x7.length <= 1000000000) /\ X1 (IntKind.i64.wrap (x1 + (1 : Int))) (x7 ++ ([x6 ++ y8.S] : List Str))
def ycv (X1 : Int → (List Str) → Prop) (a0 : List yab) (x1 : Int) (x4 : Str) (x5 : List Str) : Prop :=
 (0 <= x1) /\ (x1 < (a0.length : Int)) /\ ∃ y9 : yab, (a0[x1.toNat]? = some y9) /\ cnd (y9.Kind == (2 : Int)) ((0 <= x1) /\ (x1 < (a0.length : Int)) /\ ∃ y10 : yab, (a0[x1.toNat]? = some y10) /\ ∃ z11, (ycV y10.N z11) /\ (x4.length + z11.length <= 9223372036854775807) /\ ycs X1 a0 x1 (x4 ++ z11) x5) (ycs X1 a0 x1 x4 x5)
def yeC (a0 : List yab) (r0 : Str) (X1 : Int → (List Str) → Prop) (x1 : Int) (x2 : List Str) : Prop :=
 (a0.length <= maxLen -> cnd (decide (x1 < (a0.length : Int))) ((0 <= x1) /\ (x1 < (a0.length : Int)) /\ ∃ y3 : yab, (a0[x1.toNat]? = some y3) /\ (0 <= x1) /\ (x1 < (a0.length : Int)) /\ ∃ y12 : yab, (a0[x1.toNat]? = some y12) /\ cnd (y12.Kind == (1 : Int)) ((0 <= x1) /\ (x1 < (a0.length : Int)) /\ ∃ y13 : yab, (a0[x1.toNat]? = some y13) /\ ((([IntKind.u8.wrap y3.Kind] : List Int).map toB).length + (([IntKind.u8.wrap y13.N] : List Int).map toB).length <= 9223372036854775807) /\ ycv X1 a0 x1 ((([IntKind.u8.wrap y3.Kind] : List Int).map toB) ++ (([IntKind.u8.wrap y13.N] : List Int).map toB)) x2) (ycv X1 a0 x1 (([IntKind.u8.wrap y3.Kind] : List Int).map toB) x2)) (∃ z14, (ycp x2 z14) /\ z14 = r0))
def yjQ (a0 : List yab) (r0 : Str) : Prop :=
 ∀ X1 : Int -> (List Str) -> Prop, (∀ x1 x2, yeC a0 r0 X1 x1 x2 -> X1 x1 x2) -> X1 (0 : Int) ([] : List Str)
theorem ylE (X1 : Int → (List Str) → Prop) (a0 : List yab) (x1 : Int) {x6 : Str} {x7 : List Str} (h : ycs X1 a0 x1 x6 x7) : ygD x1 a0 X1 x6 x7 := by
 unfold ygD
 unfold ycs at h
 exact h
theorem ylC (X1 : Int → (List Str) → Prop) (a0 : List yab) (x1 : Int) {x4 : Str} {x5 : List Str} (h : ycv X1 a0 x1 x4 x5) : ygR x1 a0 X1 x4 x5 := by
 unfold ygR
 unfold ycv at h
 intro J3 kJ3
 have hJ3 : ∀ x6 x7, ycs X1 a0 x1 x6 x7 -> J3 x6 x7 := fun x6 x7 q => kJ3 x6 x7 (ylE X1 a0 x1 q)
 obtain ⟨h0, h⟩ := h
 refine ⟨h0, ?_⟩
 obtain ⟨h0, h⟩ := h
 refine ⟨h0, ?_⟩
 obtain ⟨y9, h⟩ := h
 refine ⟨y9, ?_⟩
 obtain ⟨h0, h⟩ := h
 refine ⟨h0, ?_⟩
 refine yah h (fun h => ?_) (fun h => ?_)
 ·obtain ⟨h0, h⟩ := h
  refine ⟨h0, ?_⟩
  obtain ⟨h0, h⟩ := h
  refine ⟨h0, ?_⟩
  obtain ⟨y10, h⟩ := h
  refine ⟨y10, ?_⟩
  obtain ⟨h0, h⟩ := h
  refine ⟨h0, ?_⟩
  obtain ⟨z11, h⟩ := h
  refine ⟨z11, ?_⟩
  obtain ⟨h0, h⟩ := h
  refine ⟨h0, ?_⟩
  obtain ⟨h0, h⟩ := h
  refine ⟨h0, ?_⟩
  exact hJ3 _ _ h
 ·exact hJ3 _ _ h
theorem ylG (a0 : List yab) (r0 : Str) {X1 : Int → (List Str) → Prop} {x1 : Int} {x2 : List Str} (h : yeC a0 r0 X1 x1 x2) : ygo a0 r0 X1 x1 x2 := by
 unfold ygo
 unfold yeC at h
 intro c
 replace h := h c
 refine yah h (fun h => ?_) (fun h => ?_)
 ·obtain ⟨h0, h⟩ := h
  refine ⟨h0, ?_⟩
  obtain ⟨h0, h⟩ := h
  refine ⟨h0, ?_⟩
  obtain ⟨y3, h⟩ := h
  refine ⟨y3, ?_⟩
  obtain ⟨h0, h⟩ := h
  refine ⟨h0, ?_⟩
  intro J2 kJ2
  have hJ2 : ∀ x4 x5, ycv X1 a0 x1 x4 x5 -> J2 x4 x5 := fun x4 x5 q => kJ2 x4 x5 (ylC X1 a0 x1 q)
  obtain ⟨h0, h⟩ := h
  refine ⟨h0, ?_⟩
  obtain ⟨h0, h⟩ := h
  refine ⟨h0, ?_⟩
  obtain ⟨y12, h⟩ := h
  refine ⟨y12, ?_⟩
  obtain ⟨h0, h⟩ := h
  refine ⟨h0, ?_⟩
  refine yah h (fun h => ?_) (fun h => ?_)
  ·obtain ⟨h0, h⟩ := h
   refine ⟨h0, ?_⟩
   obtain ⟨h0, h⟩ := h
   refine ⟨h0, ?_⟩
   obtain ⟨y13, h⟩ := h
   refine ⟨y13, ?_⟩
   obtain ⟨h0, h⟩ := h
   refine ⟨h0, ?_⟩
   obtain ⟨h0, h⟩ := h
   refine ⟨h0, ?_⟩
   exact hJ2 _ _ h
  ·exact hJ2 _ _ h
 ·exact h
theorem yoV (a0 : List yab) (r0 : Str) (h : yjQ a0 r0) : ycY a0 r0 := by
 unfold ycY
 unfold yjQ at h
 intro X1 k
 exact h X1 (fun x1 x2 q => k x1 x2 (ylG a0 r0 q))
def yjI : Sp KK := ⟨30, [.v 54], [9], appW (K := KK) [9] [.v 54] ycY⟩
def yoA : An KK := (.s .o (.s .o (.s (.s .o (.b (.l ⟨[(0, .kp 8), (3, .row 59), (4, .it .i64)], [], [(59, 9)]⟩ (fun _ => (.s (.s .o (.c .o .o)) (.s (.b (.s .o (.j ⟨[(0, .kp 8), (3, .row 59), (4, .kp 14), (5, .st)], [], [(59, 9)]⟩ (.s .o (.c .o .o)) (fun _ => (.j ⟨[(0, .kp 8), (3, .row 59), (4, .kp 14), (5, .st)], [], [(59, 9)]⟩ (.s .o (.c .o .o)) (fun _ => .o)))))) .o)))))) (.s .o .o))))
def yom : Cf KK := ⟨CC, [yjH, yiQ], [], 62, [], none, false⟩
theorem yos : SpOk Tryd.prog CC yjI := yan (F := yom) (ps := [.v 54]) (rs := [9]) (w := ycY) ybl (yat yof (yat ymF yau)) yas t30 (A := yoA) (by kernel_rfl) (by kernel_rfl) (fun a0 r0 => show _ = _ by kernel_rfl)
def yeJ (x1 : Int) (a0 a1 : yab) (r0 : Bool) (X1 : Int → Prop) (x2 : Bool) : Prop :=
 cnd x2 ((0 <= x1 /\ x1 < (a0.S.length : Int)) /\ (0 <= x1 /\ x1 < (a1.S.length : Int)) /\ cnd (!((bAt a0.S x1) == (bAt a1.S x1))) ((0 <= x1 /\ x1 < (a0.S.length : Int)) /\ (0 <= x1 /\ x1 < (a1.S.length : Int)) /\ (decide ((bAt a0.S x1) < (bAt a1.S x1))) = r0) (X1 (IntKind.i64.wrap (x1 + (1 : Int))))) ((decide ((a0.S.length : Int) < (a1.S.length : Int))) = r0)
def yeP (a0 a1 : yab) (r0 : Bool) (X1 : Int → Prop) (x1 : Int) : Prop :=
 ∀ J2 : Bool -> Prop, (∀ x2, yeJ x1 a0 a1 r0 X1 x2 -> J2 x2) -> cnd (decide (x1 < (a0.S.length : Int))) (J2 (decide (x1 < (a1.S.length : Int)))) (J2 false)
def ybN (a0 a1 : yab) (r0 : Bool) : Prop :=
 cnd (!(a0.Kind == a1.Kind)) ((decide (a0.Kind < a1.Kind)) = r0) (cnd (a0.Kind == (3 : Int)) (∀ X1 : Int -> Prop, (∀ x1, yeP a0 a1 r0 X1 x1 -> X1 x1) -> X1 (0 : Int)) ((decide (a0.N < a1.N)) = r0))
def ybH (X1 : Int → Prop) (a0 a1 : yab) (r0 : Bool) (x1 : Int) (x2 : Bool) : Prop :=
 cnd x2 ((0 <= x1 /\ x1 < (a0.S.length : Int)) /\ (0 <= x1 /\ x1 < (a1.S.length : Int)) /\ cnd (!((bAt a0.S x1) == (bAt a1.S x1))) ((0 <= x1 /\ x1 < (a0.S.length : Int)) /\ (0 <= x1 /\ x1 < (a1.S.length : Int)) /\ (decide ((bAt a0.S x1) < (bAt a1.S x1))) = r0) (X1 (IntKind.i64.wrap (x1 + (1 : Int))))) ((decide ((a0.S.length : Int) < (a1.S.length : Int))) = r0)
def ycN (a0 a1 : yab) (r0 : Bool) (X1 : Int → Prop) (x1 : Int) : Prop :=
 cnd (decide (x1 < (a0.S.length : Int))) (ybH X1 a0 a1 r0 x1 (decide (x1 < (a1.S.length : Int)))) (ybH X1 a0 a1 r0 x1 false)
def ygP (a0 a1 : yab) (r0 : Bool) : Prop :=
 cnd (!(a0.Kind == a1.Kind)) ((decide (a0.Kind < a1.Kind)) = r0) (cnd (a0.Kind == (3 : Int)) (∀ X1 : Int -> Prop, (∀ x1, ycN a0 a1 r0 X1 x1 -> X1 x1) -> X1 (0 : Int)) ((decide (a0.N < a1.N)) = r0))
theorem yjw (X1 : Int → Prop) (a0 a1 : yab) (r0 : Bool) (x1 : Int) {x2 : Bool} (h : ybH X1 a0 a1 r0 x1 x2) : yeJ x1 a0 a1 r0 X1 x2 := by
 unfold yeJ
 unfold ybH at h
 exact h
theorem yi8 (a0 a1 : yab) (r0 : Bool) {X1 : Int → Prop} {x1 : Int} (h : ycN a0 a1 r0 X1 x1) : yeP a0 a1 r0 X1 x1 := by
 unfold yeP
 unfold ycN at h
 intro J2 kJ2
 have hJ2 : ∀ x2, ybH X1 a0 a1 r0 x1 x2 -> J2 x2 := fun x2 q => kJ2 x2 (yjw X1 a0 a1 r0 x1 q)
 refine yah h (fun h => ?_) (fun h => ?_)
 ·exact hJ2 _ h
 ·exact hJ2 _ h
theorem ylw (a0 a1 : yab) (r0 : Bool) (h : ygP a0 a1 r0) : ybN a0 a1 r0 := by
 unfold ybN
 unfold ygP at h
 refine yah h (fun h => ?_) (fun h => ?_)
 ·exact h
 ·refine yah h (fun h => ?_) (fun h => ?_)
  ·intro X1 k
   exact h X1 (fun x1 q => k x1 (yi8 a0 a1 r0 q))
  ·exact h
def ygw : Sp KK := ⟨14, [.v 27, .v 27], [4], appW (K := KK) [4] [.v 27, .v 27] ybN⟩
def yk5 : An KK := (.s .o (.s (.s .o (.c (.s .o .o) .o)) (.s (.s .o (.c (.s (.s .o (.b (.l ⟨[(2, .px 2 0), (3, .px 3 0), (5, .it .i64)], [(2, 27, [.kp 35, .kp 36, .kp 37]), (3, 27, [.kp 38, .kp 39, .kp 40])], []⟩ (fun _ => (.s (.j ⟨[(2, .px 2 0), (3, .px 3 0), (5, .kp 44), (30, .bl)], [(2, 27, [.kp 35, .kp 36, .kp 37]), (3, 27, [.kp 38, .kp 39, .kp 40])], []⟩ .o (fun _ => (.c .o .o))) (.s (.b (.s .o (.c (.s .o .o) .o))) .o)))))) (.s .o .o)) .o)) (.s .o .o))))
def yk1 : Cf KK := ⟨CC, [], [], 63, [], none, false⟩
theorem ykn : SpOk Tryd.prog CC ygw := yan (F := yk1) (ps := [.v 27, .v 27]) (rs := [4]) (w := ybN) ybl yau yas t14 (A := yk5) (by kernel_rfl) (by kernel_rfl) (fun a0 a1 r0 => show _ = _ by kernel_rfl)
def yeZ (x1 : Int) (a0 a1 : List yab) (r0 : Bool) (X1 : Int → Prop) (x2 : Bool) : Prop :=
 cnd x2 ((0 <= x1) /\ (x1 < (a0.length : Int)) /\ ∃ y3 : yab, (a0[x1.toNat]? = some y3) /\ (0 <= x1) /\ (x1 < (a1.length : Int)) /\ ∃ y4 : yab, (a1[x1.toNat]? = some y4) /\ cnd (!((y3.Kind == y4.Kind) && ((y3.N == y4.N) && ((y3.S == y4.S) && true)))) ((0 <= x1) /\ (x1 < (a0.length : Int)) /\ ∃ y5 : yab, (a0[x1.toNat]? = some y5) /\ (0 <= x1) /\ (x1 < (a1.length : Int)) /\ ∃ y6 : yab, (a1[x1.toNat]? = some y6) /\ ∃ z7, (ybN y5 y6 z7) /\ z7 = r0) (X1 (IntKind.i64.wrap (x1 + (1 : Int))))) ((a0.length <= maxLen -> (a1.length <= maxLen -> (decide ((a0.length : Int) < (a1.length : Int))) = r0)))
def yeR (a0 a1 : List yab) (r0 : Bool) (X1 : Int → Prop) (x1 : Int) : Prop :=
 ∀ J2 : Bool -> Prop, (∀ x2, yeZ x1 a0 a1 r0 X1 x2 -> J2 x2) -> (a0.length <= maxLen -> cnd (decide (x1 < (a0.length : Int))) ((a1.length <= maxLen -> J2 (decide (x1 < (a1.length : Int))))) (J2 false))
def yaU (a0 a1 : List yab) (r0 : Bool) : Prop :=
 ∀ X1 : Int -> Prop, (∀ x1, yeR a0 a1 r0 X1 x1 -> X1 x1) -> X1 (0 : Int)
def ybG (X1 : Int → Prop) (a0 a1 : List yab) (r0 : Bool) (x1 : Int) (x2 : Bool) : Prop :=
 cnd x2 ((0 <= x1) /\ (x1 < (a0.length : Int)) /\ ∃ y3 : yab, (a0[x1.toNat]? = some y3) /\ (0 <= x1) /\ (x1 < (a1.length : Int)) /\ ∃ y4 : yab, (a1[x1.toNat]? = some y4) /\ cnd (!((y3.Kind == y4.Kind) && ((y3.N == y4.N) && ((y3.S == y4.S) && true)))) ((0 <= x1) /\ (x1 < (a0.length : Int)) /\ ∃ y5 : yab, (a0[x1.toNat]? = some y5) /\ (0 <= x1) /\ (x1 < (a1.length : Int)) /\ ∃ y6 : yab, (a1[x1.toNat]? = some y6) /\ ∃ z7, (ybN y5 y6 z7) /\ z7 = r0) (X1 (IntKind.i64.wrap (x1 + (1 : Int))))) ((a0.length <= maxLen -> (a1.length <= maxLen -> (decide ((a0.length : Int) < (a1.length : Int))) = r0)))
def ycO (a0 a1 : List yab) (r0 : Bool) (X1 : Int → Prop) (x1 : Int) : Prop :=
 (a0.length <= maxLen -> cnd (decide (x1 < (a0.length : Int))) ((a1.length <= maxLen -> ybG X1 a0 a1 r0 x1 (decide (x1 < (a1.length : Int))))) (ybG X1 a0 a1 r0 x1 false))
def ygN (a0 a1 : List yab) (r0 : Bool) : Prop :=
 ∀ X1 : Int -> Prop, (∀ x1, ycO a0 a1 r0 X1 x1 -> X1 x1) -> X1 (0 : Int)
theorem yjt (X1 : Int → Prop) (a0 a1 : List yab) (r0 : Bool) (x1 : Int) {x2 : Bool} (h : ybG X1 a0 a1 r0 x1 x2) : yeZ x1 a0 a1 r0 X1 x2 := by
 unfold yeZ
 unfold ybG at h
 exact h
theorem yjr (a0 a1 : List yab) (r0 : Bool) {X1 : Int → Prop} {x1 : Int} (h : ycO a0 a1 r0 X1 x1) : yeR a0 a1 r0 X1 x1 := by
 unfold yeR
 unfold ycO at h
 intro J2 kJ2
 have hJ2 : ∀ x2, ybG X1 a0 a1 r0 x1 x2 -> J2 x2 := fun x2 q => kJ2 x2 (yjt X1 a0 a1 r0 x1 q)
 intro c
 replace h := h c
 refine yah h (fun h => ?_) (fun h => ?_)
 ·intro c
  replace h := h c
  exact hJ2 _ h
 ·exact hJ2 _ h
theorem ylA (a0 a1 : List yab) (r0 : Bool) (h : ygN a0 a1 r0) : yaU a0 a1 r0 := by
 unfold yaU
 unfold ygN at h
 intro X1 k
 exact h X1 (fun x1 q => k x1 (yjr a0 a1 r0 q))
def yeS : Sp KK := ⟨37, [.v 54, .v 54], [4], appW (K := KK) [4] [.v 54, .v 54] yaU⟩
def ykt : An KK := (.s .o (.s (.s .o (.b (.l ⟨[(0, .kp 8), (1, .kp 9), (5, .it .i64)], [], []⟩ (fun _ => (.s (.j ⟨[(0, .kp 8), (1, .kp 9), (5, .kp 14), (15, .bl)], [], []⟩ .o (fun _ => (.c .o .o))) (.s (.b (.s .o (.c (.s .o .o) .o))) .o)))))) (.s .o .o)))
def ykN : Cf KK := ⟨CC, [ygw], [], 41, [], none, false⟩
theorem ygl : SpOk Tryd.prog CC yeS := yan (F := ykN) (ps := [.v 54, .v 54]) (rs := [4]) (w := yaU) ybl (yat ykn yau) yas t37 (A := ykt) (by kernel_rfl) (by kernel_rfl) (fun a0 a1 r0 => show _ = _ by kernel_rfl)
def yc5 (a0 : yab) (r0 : Bool) : Prop :=
 cnd (a0.Kind == (0 : Int)) (cnd (a0.N == (0 : Int)) ((a0.S == ([] : Str)) = r0) (false = r0)) (cnd (a0.Kind == (1 : Int)) (cnd (a0.N == (0 : Int)) ((a0.S == ([] : Str)) = r0) (cnd (a0.N == (1 : Int)) ((a0.S == ([] : Str)) = r0) (false = r0))) (cnd (a0.Kind == (2 : Int)) ((a0.S == ([] : Str)) = r0) (cnd (a0.Kind == (3 : Int)) (cnd (a0.N == (0 : Int)) ((decide ((a0.S.length : Int) <= (64 : Int))) = r0) (false = r0)) (false = r0))))
def yiE : Sp KK := ⟨20, [.v 27], [4], appW (K := KK) [4] [.v 27] yc5⟩
def yl7 : An KK := (.s .o (.s (.s .o (.c (.s .o .o) .o)) (.s (.s .o (.c (.s .o .o) .o)) (.s (.s .o (.c (.s .o .o) .o)) (.s .o .o)))))
def ymy : Cf KK := ⟨CC, [], [], 50, [], none, false⟩
theorem ynd : SpOk Tryd.prog CC yiE := yan (F := ymy) (ps := [.v 27]) (rs := [4]) (w := yc5) ybl yau yas t20 (A := yl7) (by kernel_rfl) (by kernel_rfl) (fun a0 r0 => show _ = _ by kernel_rfl)
def yeM (x3 : Str) (x2 : Int) (x1 r0 : Str) (X2 : Int → Str → Prop) (x4 : Int) : Prop :=
 ((([IntKind.u8.wrap (IntKind.i64.wrap ((48 : Int) + x4))] : List Int).map toB).length + x3.length <= 9223372036854775807) /\ cnd ((IntKind.i64.wrap (x2.tdiv (10 : Int))) == (0 : Int)) ((x1.length + ((([IntKind.u8.wrap (IntKind.i64.wrap ((48 : Int) + x4))] : List Int).map toB) ++ x3).length <= 9223372036854775807) /\ (x1 ++ ((([IntKind.u8.wrap (IntKind.i64.wrap ((48 : Int) + x4))] : List Int).map toB) ++ x3)) = r0) (X2 (IntKind.i64.wrap (x2.tdiv (10 : Int))) ((([IntKind.u8.wrap (IntKind.i64.wrap ((48 : Int) + x4))] : List Int).map toB) ++ x3))
def yeI (x1 r0 : Str) (X2 : Int → Str → Prop) (x2 : Int) (x3 : Str) : Prop :=
 ∀ J3 : Int -> Prop, (∀ x4, yeM x3 x2 x1 r0 X2 x4 -> J3 x4) -> cnd (decide ((x2.tmod (10 : Int)) < (0 : Int))) (J3 (IntKind.i64.wrap (0 - (x2.tmod (10 : Int))))) (J3 (x2.tmod (10 : Int)))
def yeH (r0 : Str) (a0 : Int) (x1 : Str) : Prop :=
 ∀ X2 : Int -> Str -> Prop, (∀ x2 x3, yeI x1 r0 X2 x2 x3 -> X2 x2 x3) -> X2 a0 ([] : Str)
def ybO (a0 : Int) (r0 : Str) : Prop :=
 ∀ J1 : Str -> Prop, (∀ x1, yeH r0 a0 x1 -> J1 x1) -> cnd (decide (a0 < (0 : Int))) (J1 ([45] : Str)) (J1 ([] : Str))
def ybq (X2 : Int → Str → Prop) (r0 x1 : Str) (x2 : Int) (x3 : Str) (x4 : Int) : Prop :=
 ((([IntKind.u8.wrap (IntKind.i64.wrap ((48 : Int) + x4))] : List Int).map toB).length + x3.length <= 9223372036854775807) /\ cnd ((IntKind.i64.wrap (x2.tdiv (10 : Int))) == (0 : Int)) ((x1.length + ((([IntKind.u8.wrap (IntKind.i64.wrap ((48 : Int) + x4))] : List Int).map toB) ++ x3).length <= 9223372036854775807) /\ (x1 ++ ((([IntKind.u8.wrap (IntKind.i64.wrap ((48 : Int) + x4))] : List Int).map toB) ++ x3)) = r0) (X2 (IntKind.i64.wrap (x2.tdiv (10 : Int))) ((([IntKind.u8.wrap (IntKind.i64.wrap ((48 : Int) + x4))] : List Int).map toB) ++ x3))
def ycT (r0 x1 : Str) (X2 : Int → Str → Prop) (x2 : Int) (x3 : Str) : Prop :=
 cnd (decide ((x2.tmod (10 : Int)) < (0 : Int))) (ybq X2 r0 x1 x2 x3 (IntKind.i64.wrap (0 - (x2.tmod (10 : Int))))) (ybq X2 r0 x1 x2 x3 (x2.tmod (10 : Int)))
def ybs (a0 : Int) (r0 x1 : Str) : Prop :=
 ∀ X2 : Int -> Str -> Prop, (∀ x2 x3, ycT r0 x1 X2 x2 x3 -> X2 x2 x3) -> X2 a0 ([] : Str)
def ye0 (a0 : Int) (r0 : Str) : Prop :=
 cnd (decide (a0 < (0 : Int))) (ybs a0 r0 ([45] : Str)) (ybs a0 r0 ([] : Str))
theorem yjl (X2 : Int → Str → Prop) (r0 x1 : Str) (x2 : Int) (x3 : Str) {x4 : Int} (h : ybq X2 r0 x1 x2 x3 x4) : yeM x3 x2 x1 r0 X2 x4 := by
 unfold yeM
 unfold ybq at h
 exact h
theorem yji (r0 x1 : Str) {X2 : Int → Str → Prop} {x2 : Int} {x3 : Str} (h : ycT r0 x1 X2 x2 x3) : yeI x1 r0 X2 x2 x3 := by
 unfold yeI
 unfold ycT at h
 intro J3 kJ3
 have hJ3 : ∀ x4, ybq X2 r0 x1 x2 x3 x4 -> J3 x4 := fun x4 q => kJ3 x4 (yjl X2 r0 x1 x2 x3 q)
 refine yah h (fun h => ?_) (fun h => ?_)
 ·exact hJ3 _ h
 ·exact hJ3 _ h
theorem yja (a0 : Int) (r0 : Str) {x1 : Str} (h : ybs a0 r0 x1) : yeH r0 a0 x1 := by
 unfold yeH
 unfold ybs at h
 intro X2 k
 exact h X2 (fun x2 x3 q => k x2 x3 (yji r0 x1 q))
theorem ylq (a0 : Int) (r0 : Str) (h : ye0 a0 r0) : ybO a0 r0 := by
 unfold ybO
 unfold ye0 at h
 intro J1 kJ1
 have hJ1 : ∀ x1, ybs a0 r0 x1 -> J1 x1 := fun x1 q => kJ1 x1 (yja a0 r0 q)
 refine yah h (fun h => ?_) (fun h => ?_)
 ·exact hJ1 _ h
 ·exact hJ1 _ h
def ygL : Sp KK := ⟨54, [.v 2], [9], appW (K := KK) [9] [.v 2] ybO⟩
def ykD : An KK := (.s .o (.s .o (.j ⟨[(0, .kp 1), (3, .st), (4, .kp 2)], [], []⟩ (.s .o (.c .o .o)) (fun _ => (.b (.l ⟨[(0, .it .i64), (3, .kp 3), (4, .st)], [], []⟩ (fun _ => (.b (.s .o (.j ⟨[(0, .kp 6), (3, .kp 3), (4, .kp 7), (5, .it .i64)], [], []⟩ (.s .o (.c .o .o)) (fun _ => (.s .o (.s .o (.s .o (.c (.s .o .o) .o)))))))))))))))
def ylk : Cf KK := ⟨CC, [], [], 28, [], none, false⟩
theorem ykQ : SpOk Tryd.prog CC ygL := yan (F := ylk) (ps := [.v 2]) (rs := [9]) (w := ybO) ybl yau yas t54 (A := ykD) (by kernel_rfl) (by kernel_rfl) (fun a0 r0 => show _ = _ by kernel_rfl)
def yfI (a0 : yab) (r0 : Str) (X3 : Str → Int → Prop) (x4 : Str) (x5 : Int) : Prop :=
 cnd (decide (x5 < (a0.S.length : Int))) ((0 <= x5 /\ x5 <= (IntKind.i64.wrap (x5 + (1 : Int))) /\ (IntKind.i64.wrap (x5 + (1 : Int))) <= (a0.S.length : Int)) /\ (x4.length + ((a0.S.drop x5.toNat).take ((IntKind.i64.wrap (x5 + (1 : Int))).toNat - x5.toNat)).length <= 9223372036854775807) /\ (0 <= x5 /\ x5 < (a0.S.length : Int)) /\ cnd ((bAt a0.S x5) == (39 : Int)) (((x4 ++ ((a0.S.drop x5.toNat).take ((IntKind.i64.wrap (x5 + (1 : Int))).toNat - x5.toNat))).length + ([39] : Str).length <= 9223372036854775807) /\ X3 ((x4 ++ ((a0.S.drop x5.toNat).take ((IntKind.i64.wrap (x5 + (1 : Int))).toNat - x5.toNat))) ++ ([39] : Str)) (IntKind.i64.wrap (x5 + (1 : Int)))) (X3 (x4 ++ ((a0.S.drop x5.toNat).take ((IntKind.i64.wrap (x5 + (1 : Int))).toNat - x5.toNat))) (IntKind.i64.wrap (x5 + (1 : Int))))) ((x4.length + ([39] : Str).length <= 9223372036854775807) /\ (x4 ++ ([39] : Str)) = r0)
def yf6 (r0 : Str) (a0 : yab) (x2 : Bool) : Prop :=
 cnd x2 (([84, 82, 85, 69] : Str) = r0) (cnd (a0.Kind == (1 : Int)) (([70, 65, 76, 83, 69] : Str) = r0) (cnd (a0.Kind == (2 : Int)) (∃ z3, (ybO a0.N z3) /\ z3 = r0) (∀ X3 : Str -> Int -> Prop, (∀ x4 x5, yfI a0 r0 X3 x4 x5 -> X3 x4 x5) -> X3 ([39] : Str) (0 : Int))))
def yfX (r0 : Str) (a0 : yab) (x1 : Bool) : Prop :=
 cnd x1 (([78, 85, 76, 76] : Str) = r0) (∀ J2 : Bool -> Prop, (∀ x2, yf6 r0 a0 x2 -> J2 x2) -> cnd (a0.Kind == (1 : Int)) (J2 (a0.N == (1 : Int))) (J2 false))
def yci (a0 : yab) (r0 : Str) : Prop :=
 ∀ J1 : Bool -> Prop, (∀ x1, yfX r0 a0 x1 -> J1 x1) -> ∃ z6, (yc5 a0 z6) /\ cnd (!z6) (J1 true) (J1 (a0.Kind == (0 : Int)))
def ycF (a0 : yab) (r0 : Str) (X3 : Str → Int → Prop) (x4 : Str) (x5 : Int) : Prop :=
 cnd (decide (x5 < (a0.S.length : Int))) ((0 <= x5 /\ x5 <= (IntKind.i64.wrap (x5 + (1 : Int))) /\ (IntKind.i64.wrap (x5 + (1 : Int))) <= (a0.S.length : Int)) /\ (x4.length + ((a0.S.drop x5.toNat).take ((IntKind.i64.wrap (x5 + (1 : Int))).toNat - x5.toNat)).length <= 9223372036854775807) /\ (0 <= x5 /\ x5 < (a0.S.length : Int)) /\ cnd ((bAt a0.S x5) == (39 : Int)) (((x4 ++ ((a0.S.drop x5.toNat).take ((IntKind.i64.wrap (x5 + (1 : Int))).toNat - x5.toNat))).length + ([39] : Str).length <= 9223372036854775807) /\ X3 ((x4 ++ ((a0.S.drop x5.toNat).take ((IntKind.i64.wrap (x5 + (1 : Int))).toNat - x5.toNat))) ++ ([39] : Str)) (IntKind.i64.wrap (x5 + (1 : Int)))) (X3 (x4 ++ ((a0.S.drop x5.toNat).take ((IntKind.i64.wrap (x5 + (1 : Int))).toNat - x5.toNat))) (IntKind.i64.wrap (x5 + (1 : Int))))) ((x4.length + ([39] : Str).length <= 9223372036854775807) /\ (x4 ++ ([39] : Str)) = r0)
def ybg (a0 : yab) (r0 : Str) (x2 : Bool) : Prop :=
 cnd x2 (([84, 82, 85, 69] : Str) = r0) (cnd (a0.Kind == (1 : Int)) (([70, 65, 76, 83, 69] : Str) = r0) (cnd (a0.Kind == (2 : Int)) (∃ z3, (ybO a0.N z3) /\ z3 = r0) (∀ X3 : Str -> Int -> Prop, (∀ x4 x5, ycF a0 r0 X3 x4 x5 -> X3 x4 x5) -> X3 ([39] : Str) (0 : Int))))
def yb3 (a0 : yab) (r0 : Str) (x1 : Bool) : Prop :=
 cnd x1 (([78, 85, 76, 76] : Str) = r0) (cnd (a0.Kind == (1 : Int)) (ybg a0 r0 (a0.N == (1 : Int))) (ybg a0 r0 false))
def yfM (a0 : yab) (r0 : Str) : Prop :=
 ∃ z6, (yc5 a0 z6) /\ cnd (!z6) (yb3 a0 r0 true) (yb3 a0 r0 (a0.Kind == (0 : Int)))
theorem ykp (a0 : yab) (r0 : Str) {X3 : Str → Int → Prop} {x4 : Str} {x5 : Int} (h : ycF a0 r0 X3 x4 x5) : yfI a0 r0 X3 x4 x5 := by
 unfold yfI
 unfold ycF at h
 exact h
theorem ykG (a0 : yab) (r0 : Str) {x2 : Bool} (h : ybg a0 r0 x2) : yf6 r0 a0 x2 := by
 unfold yf6
 unfold ybg at h
 refine yah h (fun h => ?_) (fun h => ?_)
 ·exact h
 ·refine yah h (fun h => ?_) (fun h => ?_)
  ·exact h
  ·refine yah h (fun h => ?_) (fun h => ?_)
   ·exact h
   ·intro X3 k
    exact h X3 (fun x4 x5 q => k x4 x5 (ykp a0 r0 q))
theorem ykz (a0 : yab) (r0 : Str) {x1 : Bool} (h : yb3 a0 r0 x1) : yfX r0 a0 x1 := by
 unfold yfX
 unfold yb3 at h
 refine yah h (fun h => ?_) (fun h => ?_)
 ·exact h
 ·intro J2 kJ2
  have hJ2 : ∀ x2, ybg a0 r0 x2 -> J2 x2 := fun x2 q => kJ2 x2 (ykG a0 r0 q)
  refine yah h (fun h => ?_) (fun h => ?_)
  ·exact hJ2 _ h
  ·exact hJ2 _ h
theorem yn1 (a0 : yab) (r0 : Str) (h : yfM a0 r0) : yci a0 r0 := by
 unfold yci
 unfold yfM at h
 intro J1 kJ1
 have hJ1 : ∀ x1, yb3 a0 r0 x1 -> J1 x1 := fun x1 q => kJ1 x1 (ykz a0 r0 q)
 obtain ⟨z6, h⟩ := h
 refine ⟨z6, ?_⟩
 obtain ⟨h0, h⟩ := h
 refine ⟨h0, ?_⟩
 refine yah h (fun h => ?_) (fun h => ?_)
 ·exact hJ1 _ h
 ·exact hJ1 _ h
def yiB : Sp KK := ⟨22, [.v 27], [9], appW (K := KK) [9] [.v 27] yci⟩
def ymk : An KK := (.s .o (.s (.j ⟨[(1, .px 1 0), (12, .bl)], [(1, 27, [.kp 4, .kp 5, .kp 6])], []⟩ .o (fun _ => (.c (.s .o .o) .o))) (.s (.j ⟨[(1, .px 1 0), (20, .bl)], [(1, 27, [.kp 4, .kp 5, .kp 6])], []⟩ .o (fun _ => (.c (.s .o .o) .o))) (.s (.s .o (.c (.s .o .o) .o)) (.s (.s .o (.c (.s .o .o) .o)) (.s .o (.s (.s .o (.b (.l ⟨[(1, .px 1 0), (3, .st), (4, .it .i64)], [(1, 27, [.kp 4, .kp 5, .kp 6])], []⟩ (fun _ => (.s (.s .o (.c .o .o)) (.s (.b (.s .o (.s .o (.c .o .o)))) .o)))))) (.s .o .o))))))))
def ymA : Cf KK := ⟨CC, [yiE, ygL], [], 54, [], none, false⟩
theorem yne : SpOk Tryd.prog CC yiB := yan (F := ymA) (ps := [.v 27]) (rs := [9]) (w := yci) ybl (yat ynd (yat ykQ yau)) yas t22 (A := ymk) (by kernel_rfl) (by kernel_rfl) (fun a0 r0 => show _ = _ by kernel_rfl)
def yfN (x2 : Int) (a0 : List yab) (X1 : Str → Int → Prop) (x3 : Str) : Prop :=
 (0 <= x2) /\ (x2 < (a0.length : Int)) /\ ∃ y4 : yab, (a0[x2.toNat]? = some y4) /\ ∃ z5, (yci y4 z5) /\ (x3.length + z5.length <= 9223372036854775807) /\ X1 (x3 ++ z5) (IntKind.i64.wrap (x2 + (1 : Int)))
def yfE (a0 : List yab) (r0 : Str) (X1 : Str → Int → Prop) (x1 : Str) (x2 : Int) : Prop :=
 (a0.length <= maxLen -> cnd (decide (x2 < (a0.length : Int))) (∀ J2 : Str -> Prop, (∀ x3, yfN x2 a0 X1 x3 -> J2 x3) -> cnd (decide ((0 : Int) < x2)) ((x1.length + ([44, 32] : Str).length <= 9223372036854775807) /\ J2 (x1 ++ ([44, 32] : Str))) (J2 x1)) ((x1.length + ([41] : Str).length <= 9223372036854775807) /\ (x1 ++ ([41] : Str)) = r0))
def ycf (a0 : List yab) (r0 : Str) : Prop :=
 ∀ X1 : Str -> Int -> Prop, (∀ x1 x2, yfE a0 r0 X1 x1 x2 -> X1 x1 x2) -> X1 ([40] : Str) (0 : Int)
def ycG (X1 : Str → Int → Prop) (a0 : List yab) (x2 : Int) (x3 : Str) : Prop :=
 (0 <= x2) /\ (x2 < (a0.length : Int)) /\ ∃ y4 : yab, (a0[x2.toNat]? = some y4) /\ ∃ z5, (yci y4 z5) /\ (x3.length + z5.length <= 9223372036854775807) /\ X1 (x3 ++ z5) (IntKind.i64.wrap (x2 + (1 : Int)))
def yd8 (a0 : List yab) (r0 : Str) (X1 : Str → Int → Prop) (x1 : Str) (x2 : Int) : Prop :=
 (a0.length <= maxLen -> cnd (decide (x2 < (a0.length : Int))) (cnd (decide ((0 : Int) < x2)) ((x1.length + ([44, 32] : Str).length <= 9223372036854775807) /\ ycG X1 a0 x2 (x1 ++ ([44, 32] : Str))) (ycG X1 a0 x2 x1)) ((x1.length + ([41] : Str).length <= 9223372036854775807) /\ (x1 ++ ([41] : Str)) = r0))
def yiq (a0 : List yab) (r0 : Str) : Prop :=
 ∀ X1 : Str -> Int -> Prop, (∀ x1 x2, yd8 a0 r0 X1 x1 x2 -> X1 x1 x2) -> X1 ([40] : Str) (0 : Int)
theorem ykr (X1 : Str → Int → Prop) (a0 : List yab) (x2 : Int) {x3 : Str} (h : ycG X1 a0 x2 x3) : yfN x2 a0 X1 x3 := by
 unfold yfN
 unfold ycG at h
 exact h
theorem ykM (a0 : List yab) (r0 : Str) {X1 : Str → Int → Prop} {x1 : Str} {x2 : Int} (h : yd8 a0 r0 X1 x1 x2) : yfE a0 r0 X1 x1 x2 := by
 unfold yfE
 unfold yd8 at h
 intro c
 replace h := h c
 refine yah h (fun h => ?_) (fun h => ?_)
 ·intro J2 kJ2
  have hJ2 : ∀ x3, ycG X1 a0 x2 x3 -> J2 x3 := fun x3 q => kJ2 x3 (ykr X1 a0 x2 q)
  refine yah h (fun h => ?_) (fun h => ?_)
  ·obtain ⟨h0, h⟩ := h
   refine ⟨h0, ?_⟩
   exact hJ2 _ h
  ·exact hJ2 _ h
 ·exact h
theorem yol (a0 : List yab) (r0 : Str) (h : yiq a0 r0) : ycf a0 r0 := by
 unfold ycf
 unfold yiq at h
 intro X1 k
 exact h X1 (fun x1 x2 q => k x1 x2 (ykM a0 r0 q))
def yiP : Sp KK := ⟨36, [.v 54], [9], appW (K := KK) [9] [.v 54] ycf⟩
def ymU : An KK := (.s .o (.s .o (.s (.s .o (.b (.l ⟨[(0, .kp 8), (3, .st), (4, .it .i64)], [], []⟩ (fun _ => (.s (.s .o (.c .o .o)) (.s (.b (.j ⟨[(0, .kp 8), (3, .st), (4, .kp 14)], [], []⟩ (.s .o (.c .o .o)) (fun _ => .o))) .o)))))) (.s .o .o))))
def ymc : Cf KK := ⟨CC, [yiB], [], 24, [], none, false⟩
theorem yl9 : SpOk Tryd.prog CC yiP := yan (F := ymc) (ps := [.v 54]) (rs := [9]) (w := ycf) ybl (yat yne yau) yas t36 (A := ymU) (by kernel_rfl) (by kernel_rfl) (fun a0 r0 => show _ = _ by kernel_rfl)
def yb6 (a0 r0 : List (List yaa)) : Prop :=
 a0 = r0
def ybv : Sl KK := ⟨64, [], ⟨[(0, .sl 52)], [], []⟩, ⟨[(2, .fn 80 [] [.px 1000000 0])], [(1000000, 70, [.sl 52])], []⟩, [], [(2, none)], true, fun _ _ _ => True⟩
def ybt : Sl KK := ⟨64, [], ⟨[(0, .sl 52)], [], []⟩, ⟨[(2, .fn 80 [] [.px 1000000 0])], [(1000000, 70, [.sl 52])], []⟩, [], [(2, none)], true, apFs (K := KK) (ctT ybv.ti) (ctT ybv.te) [] yb6⟩
def yf4 : An KK := (.s .o (.s .o .o))
def yfL : Cf KK := ⟨CC, [], [], 4, [], none, false⟩
theorem yfH : SlOk Tryd.prog CC ybt := by
 intro fs env out hl hF hW
 obtain ⟨rfl, h0⟩ := ygK hW
 obtain ⟨a0, ea0, rfl, h1⟩ := ybU h0
 obtain ⟨rfl, h2⟩ := ygF h1
 obtain ⟨r0, er0, rfl, h3⟩ := ye1 h2
 obtain ⟨rfl, h4⟩ := ye2 h3
 show SlC Tryd.prog CC ybt [] [.l 52 a0] [.l 52 r0]
 rw [show SlC Tryd.prog CC ybt [] [.l 52 a0] [.l 52 r0] = SlC Tryd.prog CC ybv [] [.l 52 a0] [.l 52 r0] by kernel_rfl]
 exact yhJ (F := yfL) ybl yau yas t64 (A := yf4) (sp := ybv) rfl (by kernel_rfl) (by kernel_rfl) (Nat.le_of_ble_eq_true (by kernel_rfl)) (fs := []) (env := [.l 52 a0]) (out := [.l 52 r0]) (by kernel_rfl) hF (X := yb6 a0 r0) h4 (by kernel_rfl)
def ybF (a0 r0 : List (List yaa)) (X1 : Int → (List (List yaa)) → Prop) (x1 : Int) (x2 : List (List yaa)) : Prop :=
 cnd (decide (x1 < (a0.length : Int))) ((0 <= x1) /\ (x1 < (a0.length : Int)) /\ ∃ y3 : (List yaa), (a0[x1.toNat]? = some y3) /\ (x2.length <= 1000000000) /\ X1 (IntKind.i64.wrap (x1 + (1 : Int))) (x2 ++ ([y3] : List (List yaa)))) (((a0 = a0)) /\ x2 = r0)
def yaw (a0 a1 r0 : List (List yaa)) : Prop :=
 (Nat -> (a0.length <= maxLen -> ∀ X1 : Int -> (List (List yaa)) -> Prop, (∀ x1 x2, ybF a0 r0 X1 x1 x2 -> X1 x1 x2) -> X1 (0 : Int) a1))
def ybB (a0 r0 : List (List yaa)) (X1 : Int → (List (List yaa)) → Prop) (x1 : Int) (x2 : List (List yaa)) : Prop :=
 cnd (decide (x1 < (a0.length : Int))) ((0 <= x1) /\ (x1 < (a0.length : Int)) /\ ∃ y3 : (List yaa), (a0[x1.toNat]? = some y3) /\ (x2.length <= 1000000000) /\ X1 (IntKind.i64.wrap (x1 + (1 : Int))) (x2 ++ ([y3] : List (List yaa)))) (x2 = r0)
def ycz (a0 a1 r0 : List (List yaa)) : Prop :=
 (Nat -> (a0.length <= maxLen -> ∀ X1 : Int -> (List (List yaa)) -> Prop, (∀ x1 x2, ybB a0 r0 X1 x1 x2 -> X1 x1 x2) -> X1 (0 : Int) a1))
theorem yeE (a0 r0 : List (List yaa)) {X1 : Int → (List (List yaa)) → Prop} {x1 : Int} {x2 : List (List yaa)} (h : ybB a0 r0 X1 x1 x2) : ybF a0 r0 X1 x1 x2 := by
 unfold ybF
 unfold ybB at h
 refine yah h (fun h => ?_) (fun h => ?_)
 ·exact h
 ·exact ⟨by and_intros <;> first | rfl | trivial, h⟩
theorem yfh (a0 a1 r0 : List (List yaa)) (h : ycz a0 a1 r0) : yaw a0 a1 r0 := by
 unfold yaw
 unfold ycz at h
 intro c
 replace h := h c
 intro c
 replace h := h c
 intro X1 k
 exact h X1 (fun x1 x2 q => k x1 x2 (yeE a0 r0 q))
def ya7 : Sl KK := ⟨92, [], ⟨[(0, .row 2000000), (1, .fn 80 [] [.px 2000001 0])], [(2000001, 70, [.sl 52])], [(2000000, 52)]⟩, ⟨[(4, .row 1000000)], [], [(1000000, 52)]⟩, [2000001], [(4, none)], false, fun _ _ _ => True⟩
def ya6 : Sl KK := ⟨92, [], ⟨[(0, .row 2000000), (1, .fn 80 [] [.px 2000001 0])], [(2000001, 70, [.sl 52])], [(2000000, 52)]⟩, ⟨[(4, .row 1000000)], [], [(1000000, 52)]⟩, [2000001], [(4, none)], false, apFs (K := KK) (ctT ya7.ti) (ctT ya7.te) [] yaw⟩
def ye5 : An KK := (.s .o (.s (.s .o (.b (.g 1 ⟨[(2, .px 100002 0), (6, .fn 80 [] [.px 2000001 0])], [(100002, 70, [.row 2000000]), (2000001, 70, [.sl 52])], [(2000000, 52)]⟩ ⟨[(0, .kp 1), (5, .kp 6), (6, .kp 7), (7, .it .i64), (11, .kp 1), (12, .sl 26), (16, .kp 1), (19, .px 200002 0)], [(200002, 70, [.row 200011]), (2000001, 70, [.kp 9])], [(200011, 52)]⟩ (.s .o (.b (.l ⟨[(0, .kp 1), (5, .kp 6), (6, .kp 7), (7, .it .i64), (16, .kp 1), (19, .px 100002 0)], [(100002, 70, [.row 11]), (2000001, 70, [.kp 9])], [(11, 52)]⟩ (fun _ => (.s .o (.s (.c .o .o) (.s (.b (.s .o (.s .o (.c .o .o)))) .o))))))) .o (.b .o)))) (.s .o .o)))
def ye7 : Cf KK := ⟨CC, [], [], 13, [(80, c80)], none, false⟩
theorem ye6 : SlOk Tryd.prog CC ya6 := by
 intro fs env out hl hF hW
 obtain ⟨rfl, h0⟩ := ygK hW
 obtain ⟨a0, ea0, rfl, h1⟩ := ybU h0
 obtain ⟨a1, ea1, rfl, h2⟩ := ybU h1
 obtain ⟨rfl, h3⟩ := ygF h2
 obtain ⟨r0, er0, rfl, h4⟩ := ye1 h3
 obtain ⟨rfl, h5⟩ := ye2 h4
 show SlC Tryd.prog CC ya6 [] [.l 52 a0, .l 52 a1] [.l 52 r0]
 rw [show SlC Tryd.prog CC ya6 [] [.l 52 a0, .l 52 a1] [.l 52 r0] = SlC Tryd.prog CC ya7 [] [.l 52 a0, .l 52 a1] [.l 52 r0] by kernel_rfl]
 exact yhJ (F := ye7) ybl yau yas t92 (A := ye5) (sp := ya7) rfl (by kernel_rfl) (by kernel_rfl) (Nat.le_of_ble_eq_true (by kernel_rfl)) (fs := []) (env := [.l 52 a0, .l 52 a1]) (out := [.l 52 r0]) (by kernel_rfl) hF (X := yaw a0 a1 r0) h5 (by kernel_rfl) (hI := (yzi t80 yxl))
def yar (a0 r0 : List (List yaa)) : Prop :=
 ∃ z1, (yaw a0 ([] : List (List yaa)) z1) /\ ((a0 = a0)) /\ z1 = r0
def yc6 (a0 r0 : List (List yaa)) : Prop :=
 ∃ z1, (yaw a0 ([] : List (List yaa)) z1) /\ z1 = r0
theorem yfC (a0 r0 : List (List yaa)) (h : yc6 a0 r0) : yar a0 r0 := by
 unfold yar
 unfold yc6 at h
 obtain ⟨z1, h⟩ := h
 refine ⟨z1, ?_⟩
 obtain ⟨h0, h⟩ := h
 refine ⟨h0, ?_⟩
 exact ⟨by and_intros <;> first | rfl | trivial, h⟩
def ybo : Sl KK := ⟨78, [], ⟨[(0, .fn 80 [] [.px 2000000 0])], [(2000000, 70, [.sl 52])], []⟩, ⟨[(2, .row 1000000)], [], [(1000000, 52)]⟩, [2000000], [(2, none)], false, fun _ _ _ => True⟩
def ybp : Sl KK := ⟨78, [], ⟨[(0, .fn 80 [] [.px 2000000 0])], [(2000000, 70, [.sl 52])], []⟩, ⟨[(2, .row 1000000)], [], [(1000000, 52)]⟩, [2000000], [(2, none)], false, apFs (K := KK) (ctT ybo.ti) (ctT ybo.te) [] yar⟩
def yfs : An KK := (.s .o (.s .o .o))
def yfq : Cf KK := ⟨CC, [], [ya6], 5, [], none, false⟩
theorem yfy : SlOk Tryd.prog CC ybp := by
 intro fs env out hl hF hW
 obtain ⟨rfl, h0⟩ := ygK hW
 obtain ⟨a0, ea0, rfl, h1⟩ := ybU h0
 obtain ⟨rfl, h2⟩ := ygF h1
 obtain ⟨r0, er0, rfl, h3⟩ := ye1 h2
 obtain ⟨rfl, h4⟩ := ye2 h3
 show SlC Tryd.prog CC ybp [] [.l 52 a0] [.l 52 r0]
 rw [show SlC Tryd.prog CC ybp [] [.l 52 a0] [.l 52 r0] = SlC Tryd.prog CC ybo [] [.l 52 a0] [.l 52 r0] by kernel_rfl]
 exact yhJ (F := yfq) ybl yau (ygZ ye6 yas) t78 (A := yfs) (sp := ybo) rfl (by kernel_rfl) (by kernel_rfl) (Nat.le_of_ble_eq_true (by kernel_rfl)) (fs := []) (env := [.l 52 a0]) (out := [.l 52 r0]) (by kernel_rfl) hF (X := yar a0 r0) h4 (by kernel_rfl)
def yaK (x3 : Int) (X2 X1 : Int → (List (List yaa)) → Prop) (x1 : Int) (x5 : Bool) (x6 : List (List yaa)) : Prop :=
 cnd x5 ((0 <= (IntKind.i64.wrap (x3 - (1 : Int)))) /\ ((IntKind.i64.wrap (x3 - (1 : Int))) < (x6.length : Int)) /\ ∃ y7 : (List yaa), (x6[(IntKind.i64.wrap (x3 - (1 : Int))).toNat]? = some y7) /\ (0 <= x3) /\ (x3 < (x6.length : Int)) /\ ∃ y8 : (List yaa), (x6[x3.toNat]? = some y8) /\ (0 <= x3) /\ (x3 < (x6.length : Int)) /\ ∃ y9 : (List yaa), (x6[x3.toNat]? = some y9) /\ (0 <= (IntKind.i64.wrap (x3 - (1 : Int)))) /\ ((IntKind.i64.wrap (x3 - (1 : Int))) < ((x6.set x3.toNat y7).length : Int)) /\ ∃ y10 : (List yaa), ((x6.set x3.toNat y7)[(IntKind.i64.wrap (x3 - (1 : Int))).toNat]? = some y10) /\ X2 (IntKind.i64.wrap (x3 - (1 : Int))) ((x6.set x3.toNat y7).set ((IntKind.i64.wrap (x3 - (1 : Int))).toNat) y8)) (X1 (IntKind.i64.wrap (x1 + (1 : Int))) x6)
def yaH (X1 : Int → (List (List yaa)) → Prop) (x1 a0 : Int) (g3 : (List yaa) → (List yaa) → Int → Prop) (X2 : Int → (List (List yaa)) → Prop) (x3 : Int) (x4 : List (List yaa)) : Prop :=
 ∀ J3 : Bool -> (List (List yaa)) -> Prop, (∀ x5 x6, yaK x3 X2 X1 x1 x5 x6 -> J3 x5 x6) -> cnd (decide (a0 < x3)) ((0 <= x3) /\ (x3 < (x4.length : Int)) /\ ∃ y11 : (List yaa), (x4[x3.toNat]? = some y11) /\ (0 <= (IntKind.i64.wrap (x3 - (1 : Int)))) /\ ((IntKind.i64.wrap (x3 - (1 : Int))) < (x4.length : Int)) /\ ∃ y12 : (List yaa), (x4[(IntKind.i64.wrap (x3 - (1 : Int))).toNat]? = some y12) /\ ∃ z13, (g3 y11 y12 z13) /\ J3 (decide (z13 < (0 : Int))) x4) (J3 false x4)
def yaI (a1 a0 : Int) (g3 : (List yaa) → (List yaa) → Int → Prop) (r0 : List (List yaa)) (X1 : Int → (List (List yaa)) → Prop) (x1 : Int) (x2 : List (List yaa)) : Prop :=
 cnd (decide (x1 < a1)) (∀ X2 : Int -> (List (List yaa)) -> Prop, (∀ x3 x4, yaH X1 x1 a0 g3 X2 x3 x4 -> X2 x3 x4) -> X2 x1 x2) (x2 = r0)
def yaf (g3 : (List yaa) → (List yaa) → Int → Prop) (a0 a1 : Int) (a2 r0 : List (List yaa)) : Prop :=
 ∀ X1 : Int -> (List (List yaa)) -> Prop, (∀ x1 x2, yaI a1 a0 g3 r0 X1 x1 x2 -> X1 x1 x2) -> X1 (IntKind.i64.wrap (a0 + (1 : Int))) a2
def yai (X1 X2 : Int → (List (List yaa)) → Prop) (x1 x3 : Int) (x5 : Bool) (x6 : List (List yaa)) : Prop :=
 cnd x5 ((0 <= (IntKind.i64.wrap (x3 - (1 : Int)))) /\ ((IntKind.i64.wrap (x3 - (1 : Int))) < (x6.length : Int)) /\ ∃ y7 : (List yaa), (x6[(IntKind.i64.wrap (x3 - (1 : Int))).toNat]? = some y7) /\ (0 <= x3) /\ (x3 < (x6.length : Int)) /\ ∃ y8 : (List yaa), (x6[x3.toNat]? = some y8) /\ (0 <= x3) /\ (x3 < (x6.length : Int)) /\ ∃ y9 : (List yaa), (x6[x3.toNat]? = some y9) /\ (0 <= (IntKind.i64.wrap (x3 - (1 : Int)))) /\ ((IntKind.i64.wrap (x3 - (1 : Int))) < ((x6.set x3.toNat y7).length : Int)) /\ ∃ y10 : (List yaa), ((x6.set x3.toNat y7)[(IntKind.i64.wrap (x3 - (1 : Int))).toNat]? = some y10) /\ X2 (IntKind.i64.wrap (x3 - (1 : Int))) ((x6.set x3.toNat y7).set ((IntKind.i64.wrap (x3 - (1 : Int))).toNat) y8)) (X1 (IntKind.i64.wrap (x1 + (1 : Int))) x6)
def yak (X1 : Int → (List (List yaa)) → Prop) (a0 : Int) (g3 : (List yaa) → (List yaa) → Int → Prop) (x1 : Int) (X2 : Int → (List (List yaa)) → Prop) (x3 : Int) (x4 : List (List yaa)) : Prop :=
 cnd (decide (a0 < x3)) ((0 <= x3) /\ (x3 < (x4.length : Int)) /\ ∃ y11 : (List yaa), (x4[x3.toNat]? = some y11) /\ (0 <= (IntKind.i64.wrap (x3 - (1 : Int)))) /\ ((IntKind.i64.wrap (x3 - (1 : Int))) < (x4.length : Int)) /\ ∃ y12 : (List yaa), (x4[(IntKind.i64.wrap (x3 - (1 : Int))).toNat]? = some y12) /\ ∃ z13, (g3 y11 y12 z13) /\ yai X1 X2 x1 x3 (decide (z13 < (0 : Int))) x4) (yai X1 X2 x1 x3 false x4)
def yaD (a0 a1 : Int) (g3 : (List yaa) → (List yaa) → Int → Prop) (r0 : List (List yaa)) (X1 : Int → (List (List yaa)) → Prop) (x1 : Int) (x2 : List (List yaa)) : Prop :=
 cnd (decide (x1 < a1)) (∀ X2 : Int -> (List (List yaa)) -> Prop, (∀ x3 x4, yak X1 a0 g3 x1 X2 x3 x4 -> X2 x3 x4) -> X2 x1 x2) (x2 = r0)
def yaJ (g3 : (List yaa) → (List yaa) → Int → Prop) (a0 a1 : Int) (a2 r0 : List (List yaa)) : Prop :=
 ∀ X1 : Int -> (List (List yaa)) -> Prop, (∀ x1 x2, yaD a0 a1 g3 r0 X1 x1 x2 -> X1 x1 x2) -> X1 (IntKind.i64.wrap (a0 + (1 : Int))) a2
theorem ycn (X1 X2 : Int → (List (List yaa)) → Prop) (x1 x3 : Int) {x5 : Bool} {x6 : List (List yaa)} (h : yai X1 X2 x1 x3 x5 x6) : yaK x3 X2 X1 x1 x5 x6 := by
 unfold yaK
 unfold yai at h
 exact h
theorem ycq (X1 : Int → (List (List yaa)) → Prop) (a0 : Int) (g3 : (List yaa) → (List yaa) → Int → Prop) (x1 : Int) {X2 : Int → (List (List yaa)) → Prop} {x3 : Int} {x4 : List (List yaa)} (h : yak X1 a0 g3 x1 X2 x3 x4) : yaH X1 x1 a0 g3 X2 x3 x4 := by
 unfold yaH
 unfold yak at h
 intro J3 kJ3
 have hJ3 : ∀ x5 x6, yai X1 X2 x1 x3 x5 x6 -> J3 x5 x6 := fun x5 x6 q => kJ3 x5 x6 (ycn X1 X2 x1 x3 q)
 refine yah h (fun h => ?_) (fun h => ?_)
 ·obtain ⟨h0, h⟩ := h
  refine ⟨h0, ?_⟩
  obtain ⟨h0, h⟩ := h
  refine ⟨h0, ?_⟩
  obtain ⟨y11, h⟩ := h
  refine ⟨y11, ?_⟩
  obtain ⟨h0, h⟩ := h
  refine ⟨h0, ?_⟩
  obtain ⟨h0, h⟩ := h
  refine ⟨h0, ?_⟩
  obtain ⟨h0, h⟩ := h
  refine ⟨h0, ?_⟩
  obtain ⟨y12, h⟩ := h
  refine ⟨y12, ?_⟩
  obtain ⟨h0, h⟩ := h
  refine ⟨h0, ?_⟩
  obtain ⟨z13, h⟩ := h
  refine ⟨z13, ?_⟩
  obtain ⟨h0, h⟩ := h
  refine ⟨h0, ?_⟩
  exact hJ3 _ _ h
 ·exact hJ3 _ _ h
theorem ycd (a0 a1 : Int) (g3 : (List yaa) → (List yaa) → Int → Prop) (r0 : List (List yaa)) {X1 : Int → (List (List yaa)) → Prop} {x1 : Int} {x2 : List (List yaa)} (h : yaD a0 a1 g3 r0 X1 x1 x2) : yaI a1 a0 g3 r0 X1 x1 x2 := by
 unfold yaI
 unfold yaD at h
 refine yah h (fun h => ?_) (fun h => ?_)
 ·intro X2 k
  exact h X2 (fun x3 x4 q => k x3 x4 (ycq X1 a0 g3 x1 q))
 ·exact h
theorem ycI (g3 : (List yaa) → (List yaa) → Int → Prop) (a0 a1 : Int) (a2 r0 : List (List yaa)) (h : yaJ g3 a0 a1 a2 r0) : yaf g3 a0 a1 a2 r0 := by
 unfold yaf
 unfold yaJ at h
 intro X1 k
 exact h X1 (fun x1 x2 q => k x1 x2 (ycd a0 a1 g3 r0 q))
def yap : Sl KK := ⟨105, [(3, [52, 52], [3])], ⟨[(0, .row 2000000), (1, .it .i64), (2, .it .i64)], [], [(2000000, 52)]⟩, ⟨[], [], [(2000000, 52)]⟩, [], [], true, fun _ _ _ => True⟩
def yao : Sl KK := ⟨105, [(3, [52, 52], [3])], ⟨[(0, .row 2000000), (1, .it .i64), (2, .it .i64)], [], [(2000000, 52)]⟩, ⟨[], [], [(2000000, 52)]⟩, [], [], true, apFs (K := KK) (ctT yap.ti) (ctT yap.te) [(3, [52, 52], [3])] yaf⟩
def ycC : An KK := (.s .o (.b (.l ⟨[(0, .row 2000000), (1, .kp 1), (2, .kp 2), (3, .kp 3), (8, .it .i64)], [], [(2000000, 52)]⟩ (fun _ => (.s (.s .o (.c .o .o)) (.s (.b (.s .o (.b (.l ⟨[(0, .row 2000000), (1, .kp 1), (2, .kp 2), (3, .kp 3), (8, .kp 31), (9, .it .i64)], [], [(2000000, 52)]⟩ (fun _ => (.s (.j ⟨[(0, .row 2000000), (1, .kp 1), (2, .kp 2), (3, .kp 3), (8, .kp 31), (9, .kp 36), (34, .bl)], [], [(2000000, 52)]⟩ .o (fun _ => (.c .o .o))) (.s (.b .o) .o))))))) .o))))))
def ycA : Cf KK := ⟨CC, [], [], 53, [], none, false⟩
theorem ycB : SlOk Tryd.prog CC yao := by
 intro fs env out hl hF hW
 obtain ⟨F3, fs3, rfl, h0⟩ := yjD hW
 obtain ⟨rfl, h1⟩ := ygK h0
 obtain ⟨a0, ea0, rfl, h2⟩ := ybU h1
 obtain ⟨a1, ea1, rfl, h3⟩ := ybU h2
 obtain ⟨a2, ea2, rfl, h4⟩ := ybU h3
 obtain ⟨rfl, h5⟩ := ygF h4
 obtain ⟨r0, er0, rfl, h6⟩ := ye1 h5
 obtain ⟨rfl, h7⟩ := ye2 h6
 show SlC Tryd.prog CC yao [F3] [.i a0, .i a1, .l 52 a2] [.l 52 r0]
 rw [show SlC Tryd.prog CC yao [F3] [.i a0, .i a1, .l 52 a2] [.l 52 r0] = SlC Tryd.prog CC yap [F3] [.i a0, .i a1, .l 52 a2] [.l 52 r0] by kernel_rfl]
 exact yhJ (F := ycA) ybl yau yas t105 (A := ycC) (sp := yap) rfl (by kernel_rfl) (by kernel_rfl) (Nat.le_of_ble_eq_true (by kernel_rfl)) (fs := [F3]) (env := [.i a0, .i a1, .l 52 a2]) (out := [.l 52 r0]) (by kernel_rfl) hF (X := yaf (curF [3] [52, 52] F3.W) a0 a1 a2 r0) h7 (by kernel_rfl)
def ydr (a2 a1 a0 : Int) (r0 : List (List yaa)) (X1 : Int → (List (List yaa)) → Prop) (x1 : Int) (x2 : List (List yaa)) : Prop :=
 cnd (decide (x1 < a2)) ((0 <= (IntKind.i64.wrap (a1 + x1))) /\ ((IntKind.i64.wrap (a1 + x1)) < (x2.length : Int)) /\ ∃ y3 : (List yaa), (x2[(IntKind.i64.wrap (a1 + x1)).toNat]? = some y3) /\ (0 <= (IntKind.i64.wrap (a0 + x1))) /\ ((IntKind.i64.wrap (a0 + x1)) < (x2.length : Int)) /\ ∃ y4 : (List yaa), (x2[(IntKind.i64.wrap (a0 + x1)).toNat]? = some y4) /\ (0 <= (IntKind.i64.wrap (a0 + x1))) /\ ((IntKind.i64.wrap (a0 + x1)) < (x2.length : Int)) /\ ∃ y5 : (List yaa), (x2[(IntKind.i64.wrap (a0 + x1)).toNat]? = some y5) /\ (0 <= (IntKind.i64.wrap (a1 + x1))) /\ ((IntKind.i64.wrap (a1 + x1)) < ((x2.set ((IntKind.i64.wrap (a0 + x1)).toNat) y3).length : Int)) /\ ∃ y6 : (List yaa), ((x2.set ((IntKind.i64.wrap (a0 + x1)).toNat) y3)[(IntKind.i64.wrap (a1 + x1)).toNat]? = some y6) /\ X1 (IntKind.i64.wrap (x1 + (1 : Int))) ((x2.set ((IntKind.i64.wrap (a0 + x1)).toNat) y3).set ((IntKind.i64.wrap (a1 + x1)).toNat) y4)) (x2 = r0)
def yam (g4 : (List yaa) → (List yaa) → Int → Prop) (a0 a1 a2 : Int) (a3 r0 : List (List yaa)) : Prop :=
 ∀ X1 : Int -> (List (List yaa)) -> Prop, (∀ x1 x2, ydr a2 a1 a0 r0 X1 x1 x2 -> X1 x1 x2) -> X1 (0 : Int) a3
def yay : Sl KK := ⟨116, [(4, [52, 52], [3])], ⟨[(0, .row 2000000), (1, .it .i64), (2, .it .i64), (3, .it .i64)], [], [(2000000, 52)]⟩, ⟨[], [], [(2000000, 52)]⟩, [], [], true, fun _ _ _ => True⟩
def yax : Sl KK := ⟨116, [(4, [52, 52], [3])], ⟨[(0, .row 2000000), (1, .it .i64), (2, .it .i64), (3, .it .i64)], [], [(2000000, 52)]⟩, ⟨[], [], [(2000000, 52)]⟩, [], [], true, apFs (K := KK) (ctT yay.ti) (ctT yay.te) [(4, [52, 52], [3])] yam⟩
def ydn : An KK := (.s .o (.b (.l ⟨[(0, .row 2000000), (1, .kp 1), (2, .kp 2), (3, .kp 3), (10, .it .i64)], [], [(2000000, 52)]⟩ (fun _ => (.s (.s .o (.c .o .o)) (.s (.b .o) .o))))))
def ydj : Cf KK := ⟨CC, [], [], 38, [], none, false⟩
theorem ydt : SlOk Tryd.prog CC yax := by
 intro fs env out hl hF hW
 obtain ⟨F4, fs4, rfl, h0⟩ := yjD hW
 obtain ⟨rfl, h1⟩ := ygK h0
 obtain ⟨a0, ea0, rfl, h2⟩ := ybU h1
 obtain ⟨a1, ea1, rfl, h3⟩ := ybU h2
 obtain ⟨a2, ea2, rfl, h4⟩ := ybU h3
 obtain ⟨a3, ea3, rfl, h5⟩ := ybU h4
 obtain ⟨rfl, h6⟩ := ygF h5
 obtain ⟨r0, er0, rfl, h7⟩ := ye1 h6
 obtain ⟨rfl, h8⟩ := ye2 h7
 show SlC Tryd.prog CC yax [F4] [.i a0, .i a1, .i a2, .l 52 a3] [.l 52 r0]
 rw [show SlC Tryd.prog CC yax [F4] [.i a0, .i a1, .i a2, .l 52 a3] [.l 52 r0] = SlC Tryd.prog CC yay [F4] [.i a0, .i a1, .i a2, .l 52 a3] [.l 52 r0] by kernel_rfl]
 exact yhJ (F := ydj) ybl yau yas t116 (A := ydn) (sp := yay) rfl (by kernel_rfl) (by kernel_rfl) (Nat.le_of_ble_eq_true (by kernel_rfl)) (fs := [F4]) (env := [.i a0, .i a1, .i a2, .l 52 a3]) (out := [.l 52 r0]) (by kernel_rfl) hF (X := yam (curF [3] [52, 52] F4.W) a0 a1 a2 a3 r0) h8 (by kernel_rfl)
def yed (g4 : (List yaa) → (List yaa) → Int → Prop) (a1 : Int) (r0 : List (List yaa)) (X1 : Int → Int → (List (List yaa)) → Prop) (x1 x2 : Int) (x3 : List (List yaa)) : Prop :=
 cnd (!(x1 == x2)) (cnd (decide (x2 < x1)) (∃ z4, (yam g4 (IntKind.i64.wrap (a1 - x1)) a1 x2 x3 z4) /\ (z4.length = x3.length) /\ X1 (IntKind.i64.wrap (x1 - x2)) x2 z4) (∃ z5, (yam g4 (IntKind.i64.wrap (a1 - x1)) (IntKind.i64.wrap ((IntKind.i64.wrap (a1 + x2)) - x1)) x1 x3 z5) /\ (z5.length = x3.length) /\ X1 x1 (IntKind.i64.wrap (x2 - x1)) z5)) (∃ z6, (yam g4 (IntKind.i64.wrap (a1 - x1)) a1 x1 x3 z6) /\ (z6.length = x3.length) /\ z6 = r0)
def ybr (g4 : (List yaa) → (List yaa) → Int → Prop) (a0 a1 a2 : Int) (a3 r0 : List (List yaa)) : Prop :=
 ∀ X1 : Int -> Int -> (List (List yaa)) -> Prop, (∀ x1 x2 x3, yed g4 a1 r0 X1 x1 x2 x3 -> X1 x1 x2 x3) -> X1 (IntKind.i64.wrap (a1 - a0)) (IntKind.i64.wrap (a2 - a1)) a3
def yaN : Sl KK := ⟨113, [(4, [52, 52], [3])], ⟨[(0, .row 2000000), (1, .it .i64), (2, .it .i64), (3, .it .i64)], [], [(2000000, 52)]⟩, ⟨[], [], [(2000000, 52)]⟩, [], [], true, fun _ _ _ => True⟩
def yaR : Sl KK := ⟨113, [(4, [52, 52], [3])], ⟨[(0, .row 2000000), (1, .it .i64), (2, .it .i64), (3, .it .i64)], [], [(2000000, 52)]⟩, ⟨[], [], [(2000000, 52)]⟩, [], [], true, apFs (K := KK) (ctT yaN.ti) (ctT yaN.te) [(4, [52, 52], [3])] ybr⟩
def yeq : An KK := (.s .o (.s .o (.s (.b (.l ⟨[(0, .row 2000000), (2, .kp 5), (4, .kp 6), (10, .it .i64), (11, .it .i64)], [], [(2000000, 52)]⟩ (fun _ => (.s (.s .o (.c .o .o)) (.b (.s .o (.c (.s .o .o) (.s .o .o)))))))) .o)))
def yeg : Cf KK := ⟨CC, [], [yax], 58, [], none, false⟩
theorem yec : SlOk Tryd.prog CC yaR := by
 intro fs env out hl hF hW
 obtain ⟨F4, fs4, rfl, h0⟩ := yjD hW
 obtain ⟨rfl, h1⟩ := ygK h0
 obtain ⟨a0, ea0, rfl, h2⟩ := ybU h1
 obtain ⟨a1, ea1, rfl, h3⟩ := ybU h2
 obtain ⟨a2, ea2, rfl, h4⟩ := ybU h3
 obtain ⟨a3, ea3, rfl, h5⟩ := ybU h4
 obtain ⟨rfl, h6⟩ := ygF h5
 obtain ⟨r0, er0, rfl, h7⟩ := ye1 h6
 obtain ⟨rfl, h8⟩ := ye2 h7
 show SlC Tryd.prog CC yaR [F4] [.i a0, .i a1, .i a2, .l 52 a3] [.l 52 r0]
 rw [show SlC Tryd.prog CC yaR [F4] [.i a0, .i a1, .i a2, .l 52 a3] [.l 52 r0] = SlC Tryd.prog CC yaN [F4] [.i a0, .i a1, .i a2, .l 52 a3] [.l 52 r0] by kernel_rfl]
 exact yhJ (F := yeg) ybl yau (ygZ ydt yas) t113 (A := yeq) (sp := yaN) rfl (by kernel_rfl) (by kernel_rfl) (Nat.le_of_ble_eq_true (by kernel_rfl)) (fs := [F4]) (env := [.i a0, .i a1, .i a2, .l 52 a3]) (out := [.l 52 r0]) (by kernel_rfl) hF (X := ybr (curF [3] [52, 52] F4.W) a0 a1 a2 a3 r0) h8 (by kernel_rfl)
def ydH (x1 : Int) (r0 : List (List yaa)) (X2 : Int → (List (List yaa)) → Prop) (x7 : Int) (x8 : List (List yaa)) : Prop :=
 cnd (decide (x7 < (IntKind.i64.wrap (x1 - (1 : Int))))) ((0 <= (IntKind.i64.wrap (x7 + (1 : Int)))) /\ ((IntKind.i64.wrap (x7 + (1 : Int))) < (x8.length : Int)) /\ ∃ y9 : (List yaa), (x8[(IntKind.i64.wrap (x7 + (1 : Int))).toNat]? = some y9) /\ (0 <= x7) /\ (x7 < (x8.length : Int)) /\ ∃ y10 : (List yaa), (x8[x7.toNat]? = some y10) /\ (0 <= x7) /\ (x7 < (x8.length : Int)) /\ ∃ y11 : (List yaa), (x8[x7.toNat]? = some y11) /\ (0 <= (IntKind.i64.wrap (x7 + (1 : Int)))) /\ ((IntKind.i64.wrap (x7 + (1 : Int))) < ((x8.set x7.toNat y9).length : Int)) /\ ∃ y12 : (List yaa), ((x8.set x7.toNat y9)[(IntKind.i64.wrap (x7 + (1 : Int))).toNat]? = some y12) /\ X2 (IntKind.i64.wrap (x7 + (1 : Int))) ((x8.set x7.toNat y9).set ((IntKind.i64.wrap (x7 + (1 : Int))).toNat) y10)) (x8 = r0)
def ydO (a0 : Int) (g4 : (List yaa) → (List yaa) → Int → Prop) (r0 : List (List yaa)) (X1 : Int → Int → (List (List yaa)) → Prop) (x1 x2 : Int) (x3 : List (List yaa)) : Prop :=
 cnd (decide (x1 < x2)) ((0 <= (IntKind.i64.wrap ((IntKind.u64.wrap (IntKind.i64.wrap (x1 + x2))).fdiv (2 ^ (min (1 : Int).toNat IntKind.u64.bits))))) /\ ((IntKind.i64.wrap ((IntKind.u64.wrap (IntKind.i64.wrap (x1 + x2))).fdiv (2 ^ (min (1 : Int).toNat IntKind.u64.bits)))) < (x3.length : Int)) /\ ∃ y4 : (List yaa), (x3[(IntKind.i64.wrap ((IntKind.u64.wrap (IntKind.i64.wrap (x1 + x2))).fdiv (2 ^ (min (1 : Int).toNat IntKind.u64.bits)))).toNat]? = some y4) /\ (0 <= a0) /\ (a0 < (x3.length : Int)) /\ ∃ y5 : (List yaa), (x3[a0.toNat]? = some y5) /\ ∃ z6, (g4 y4 y5 z6) /\ cnd (decide (z6 < (0 : Int))) (X1 (IntKind.i64.wrap ((IntKind.i64.wrap ((IntKind.u64.wrap (IntKind.i64.wrap (x1 + x2))).fdiv (2 ^ (min (1 : Int).toNat IntKind.u64.bits)))) + (1 : Int))) x2 x3) (X1 x1 (IntKind.i64.wrap ((IntKind.u64.wrap (IntKind.i64.wrap (x1 + x2))).fdiv (2 ^ (min (1 : Int).toNat IntKind.u64.bits)))) x3)) (∀ X2 : Int -> (List (List yaa)) -> Prop, (∀ x7 x8, ydH x1 r0 X2 x7 x8 -> X2 x7 x8) -> X2 a0 x3)
def ydz (x13 : Int) (r0 : List (List yaa)) (X4 : Int → (List (List yaa)) → Prop) (x19 : Int) (x20 : List (List yaa)) : Prop :=
 cnd (decide (x13 < x19)) ((0 <= (IntKind.i64.wrap (x19 - (1 : Int)))) /\ ((IntKind.i64.wrap (x19 - (1 : Int))) < (x20.length : Int)) /\ ∃ y21 : (List yaa), (x20[(IntKind.i64.wrap (x19 - (1 : Int))).toNat]? = some y21) /\ (0 <= x19) /\ (x19 < (x20.length : Int)) /\ ∃ y22 : (List yaa), (x20[x19.toNat]? = some y22) /\ (0 <= x19) /\ (x19 < (x20.length : Int)) /\ ∃ y23 : (List yaa), (x20[x19.toNat]? = some y23) /\ (0 <= (IntKind.i64.wrap (x19 - (1 : Int)))) /\ ((IntKind.i64.wrap (x19 - (1 : Int))) < ((x20.set x19.toNat y21).length : Int)) /\ ∃ y24 : (List yaa), ((x20.set x19.toNat y21)[(IntKind.i64.wrap (x19 - (1 : Int))).toNat]? = some y24) /\ X4 (IntKind.i64.wrap (x19 - (1 : Int))) ((x20.set x19.toNat y21).set ((IntKind.i64.wrap (x19 - (1 : Int))).toNat) y22)) (x20 = r0)
def ydC (a1 : Int) (g4 : (List yaa) → (List yaa) → Int → Prop) (r0 : List (List yaa)) (X3 : Int → Int → (List (List yaa)) → Prop) (x13 x14 : Int) (x15 : List (List yaa)) : Prop :=
 cnd (decide (x13 < x14)) ((0 <= a1) /\ (a1 < (x15.length : Int)) /\ ∃ y16 : (List yaa), (x15[a1.toNat]? = some y16) /\ (0 <= (IntKind.i64.wrap ((IntKind.u64.wrap (IntKind.i64.wrap (x13 + x14))).fdiv (2 ^ (min (1 : Int).toNat IntKind.u64.bits))))) /\ ((IntKind.i64.wrap ((IntKind.u64.wrap (IntKind.i64.wrap (x13 + x14))).fdiv (2 ^ (min (1 : Int).toNat IntKind.u64.bits)))) < (x15.length : Int)) /\ ∃ y17 : (List yaa), (x15[(IntKind.i64.wrap ((IntKind.u64.wrap (IntKind.i64.wrap (x13 + x14))).fdiv (2 ^ (min (1 : Int).toNat IntKind.u64.bits)))).toNat]? = some y17) /\ ∃ z18, (g4 y16 y17 z18) /\ cnd (!(decide (z18 < (0 : Int)))) (X3 (IntKind.i64.wrap ((IntKind.i64.wrap ((IntKind.u64.wrap (IntKind.i64.wrap (x13 + x14))).fdiv (2 ^ (min (1 : Int).toNat IntKind.u64.bits)))) + (1 : Int))) x14 x15) (X3 x13 (IntKind.i64.wrap ((IntKind.u64.wrap (IntKind.i64.wrap (x13 + x14))).fdiv (2 ^ (min (1 : Int).toNat IntKind.u64.bits)))) x15)) (∀ X4 : Int -> (List (List yaa)) -> Prop, (∀ x19 x20, ydz x13 r0 X4 x19 x20 -> X4 x19 x20) -> X4 a1 x15)
def ydE (Xr : ((List yaa) → (List yaa) → Int → Prop) → Int → Int → Int → (List (List yaa)) → (List (List yaa)) → Prop) (g4 : (List yaa) → (List yaa) → Int → Prop) (a0 a2 x37 : Int) (r0 : List (List yaa)) (x39 : Bool) (x40 : List (List yaa)) : Prop :=
 cnd x39 (∃ z41, (Xr g4 (IntKind.i64.wrap ((IntKind.u64.wrap (IntKind.i64.wrap (a0 + a2))).fdiv (2 ^ (min (1 : Int).toNat IntKind.u64.bits)))) x37 a2 x40 z41) /\ (z41.length = x40.length) /\ z41 = r0) (x40 = r0)
def ydG (Xr : ((List yaa) → (List yaa) → Int → Prop) → Int → Int → Int → (List (List yaa)) → (List (List yaa)) → Prop) (g4 : (List yaa) → (List yaa) → Int → Prop) (a0 a2 : Int) (r0 : List (List yaa)) (x37 : Int) (x38 : List (List yaa)) : Prop :=
 ∀ J9 : Bool -> (List (List yaa)) -> Prop, (∀ x39 x40, ydE Xr g4 a0 a2 x37 r0 x39 x40 -> J9 x39 x40) -> cnd (decide ((IntKind.i64.wrap ((IntKind.u64.wrap (IntKind.i64.wrap (a0 + a2))).fdiv (2 ^ (min (1 : Int).toNat IntKind.u64.bits)))) < x37)) (J9 (decide (x37 < a2)) x38) (J9 false x38)
def yde (Xr : ((List yaa) → (List yaa) → Int → Prop) → Int → Int → Int → (List (List yaa)) → (List (List yaa)) → Prop) (g4 : (List yaa) → (List yaa) → Int → Prop) (a0 x34 a2 : Int) (J8 : Int → (List (List yaa)) → Prop) (x35 : Int) (x42 : Bool) (x43 : List (List yaa)) : Prop :=
 cnd x42 (∃ z44, (Xr g4 a0 x34 (IntKind.i64.wrap ((IntKind.u64.wrap (IntKind.i64.wrap (a0 + a2))).fdiv (2 ^ (min (1 : Int).toNat IntKind.u64.bits)))) x43 z44) /\ (z44.length = x43.length) /\ J8 x35 z44) (J8 x35 x43)
def ydB (Xr : ((List yaa) → (List yaa) → Int → Prop) → Int → Int → Int → (List (List yaa)) → (List (List yaa)) → Prop) (g4 : (List yaa) → (List yaa) → Int → Prop) (a0 a2 : Int) (r0 : List (List yaa)) (x34 x35 : Int) (x36 : List (List yaa)) : Prop :=
 ∀ J8 : Int -> (List (List yaa)) -> Prop, (∀ x37 x38, ydG Xr g4 a0 a2 r0 x37 x38 -> J8 x37 x38) -> ∀ J10 : Bool -> (List (List yaa)) -> Prop, (∀ x42 x43, yde Xr g4 a0 x34 a2 J8 x35 x42 x43 -> J10 x42 x43) -> cnd (decide (a0 < x34)) (J10 (decide (x34 < (IntKind.i64.wrap ((IntKind.u64.wrap (IntKind.i64.wrap (a0 + a2))).fdiv (2 ^ (min (1 : Int).toNat IntKind.u64.bits)))))) x36) (J10 false x36)
def ydp (g4 : (List yaa) → (List yaa) → Int → Prop) (x28 a1 a0 a2 : Int) (J7 : Int → Int → (List (List yaa)) → Prop) (x45 : Bool) (x46 : List (List yaa)) : Prop :=
 cnd x45 (∃ z47, (ybr g4 x28 a1 (IntKind.i64.wrap ((IntKind.i64.wrap ((IntKind.i64.wrap ((IntKind.u64.wrap (IntKind.i64.wrap (a0 + a2))).fdiv (2 ^ (min (1 : Int).toNat IntKind.u64.bits)))) + a1)) - x28)) x46 z47) /\ (z47.length = x46.length) /\ J7 x28 (IntKind.i64.wrap ((IntKind.i64.wrap ((IntKind.i64.wrap ((IntKind.u64.wrap (IntKind.i64.wrap (a0 + a2))).fdiv (2 ^ (min (1 : Int).toNat IntKind.u64.bits)))) + a1)) - x28)) z47) (J7 x28 (IntKind.i64.wrap ((IntKind.i64.wrap ((IntKind.i64.wrap ((IntKind.u64.wrap (IntKind.i64.wrap (a0 + a2))).fdiv (2 ^ (min (1 : Int).toNat IntKind.u64.bits)))) + a1)) - x28)) x46)
def ydK (a0 a2 a1 : Int) (g4 : (List yaa) → (List yaa) → Int → Prop) (Xr : ((List yaa) → (List yaa) → Int → Prop) → Int → Int → Int → (List (List yaa)) → (List (List yaa)) → Prop) (r0 : List (List yaa)) (X6 : Int → Int → (List (List yaa)) → Prop) (x28 x29 : Int) (x30 : List (List yaa)) : Prop :=
 cnd (decide (x28 < x29)) ((0 <= (IntKind.i64.wrap ((IntKind.i64.wrap ((IntKind.i64.wrap ((IntKind.i64.wrap ((IntKind.u64.wrap (IntKind.i64.wrap (a0 + a2))).fdiv (2 ^ (min (1 : Int).toNat IntKind.u64.bits)))) + a1)) - (1 : Int))) - (IntKind.i64.wrap ((IntKind.u64.wrap (IntKind.i64.wrap (x28 + x29))).fdiv (2 ^ (min (1 : Int).toNat IntKind.u64.bits))))))) /\ ((IntKind.i64.wrap ((IntKind.i64.wrap ((IntKind.i64.wrap ((IntKind.i64.wrap ((IntKind.u64.wrap (IntKind.i64.wrap (a0 + a2))).fdiv (2 ^ (min (1 : Int).toNat IntKind.u64.bits)))) + a1)) - (1 : Int))) - (IntKind.i64.wrap ((IntKind.u64.wrap (IntKind.i64.wrap (x28 + x29))).fdiv (2 ^ (min (1 : Int).toNat IntKind.u64.bits)))))) < (x30.length : Int)) /\ ∃ y31 : (List yaa), (x30[(IntKind.i64.wrap ((IntKind.i64.wrap ((IntKind.i64.wrap ((IntKind.i64.wrap ((IntKind.u64.wrap (IntKind.i64.wrap (a0 + a2))).fdiv (2 ^ (min (1 : Int).toNat IntKind.u64.bits)))) + a1)) - (1 : Int))) - (IntKind.i64.wrap ((IntKind.u64.wrap (IntKind.i64.wrap (x28 + x29))).fdiv (2 ^ (min (1 : Int).toNat IntKind.u64.bits)))))).toNat]? = some y31) /\ (0 <= (IntKind.i64.wrap ((IntKind.u64.wrap (IntKind.i64.wrap (x28 + x29))).fdiv (2 ^ (min (1 : Int).toNat IntKind.u64.bits))))) /\ ((IntKind.i64.wrap ((IntKind.u64.wrap (IntKind.i64.wrap (x28 + x29))).fdiv (2 ^ (min (1 : Int).toNat IntKind.u64.bits)))) < (x30.length : Int)) /\ ∃ y32 : (List yaa), (x30[(IntKind.i64.wrap ((IntKind.u64.wrap (IntKind.i64.wrap (x28 + x29))).fdiv (2 ^ (min (1 : Int).toNat IntKind.u64.bits)))).toNat]? = some y32) /\ ∃ z33, (g4 y31 y32 z33) /\ cnd (!(decide (z33 < (0 : Int)))) (X6 (IntKind.i64.wrap ((IntKind.i64.wrap ((IntKind.u64.wrap (IntKind.i64.wrap (x28 + x29))).fdiv (2 ^ (min (1 : Int).toNat IntKind.u64.bits)))) + (1 : Int))) x29 x30) (X6 x28 (IntKind.i64.wrap ((IntKind.u64.wrap (IntKind.i64.wrap (x28 + x29))).fdiv (2 ^ (min (1 : Int).toNat IntKind.u64.bits)))) x30)) (∀ J7 : Int -> Int -> (List (List yaa)) -> Prop, (∀ x34 x35 x36, ydB Xr g4 a0 a2 r0 x34 x35 x36 -> J7 x34 x35 x36) -> ∀ J11 : Bool -> (List (List yaa)) -> Prop, (∀ x45 x46, ydp g4 x28 a1 a0 a2 J7 x45 x46 -> J11 x45 x46) -> cnd (decide (x28 < a1)) (J11 (decide (a1 < (IntKind.i64.wrap ((IntKind.i64.wrap ((IntKind.i64.wrap ((IntKind.u64.wrap (IntKind.i64.wrap (a0 + a2))).fdiv (2 ^ (min (1 : Int).toNat IntKind.u64.bits)))) + a1)) - x28)))) x30) (J11 false x30))
def ydA (a0 a2 a1 : Int) (g4 : (List yaa) → (List yaa) → Int → Prop) (Xr : ((List yaa) → (List yaa) → Int → Prop) → Int → Int → Int → (List (List yaa)) → (List (List yaa)) → Prop) (r0 : List (List yaa)) (x25 x26 : Int) (x27 : List (List yaa)) : Prop :=
 ∀ X6 : Int -> Int -> (List (List yaa)) -> Prop, (∀ x28 x29 x30, ydK a0 a2 a1 g4 Xr r0 X6 x28 x29 x30 -> X6 x28 x29 x30) -> X6 x25 x26 x27
def ybc (Xr : ((List yaa) → (List yaa) → Int → Prop) → Int → Int → Int → (List (List yaa)) → (List (List yaa)) → Prop) (g4 : (List yaa) → (List yaa) → Int → Prop) (a0 a1 a2 : Int) (a3 r0 : List (List yaa)) : Prop :=
 cnd ((IntKind.i64.wrap (a1 - a0)) == (1 : Int)) (∀ X1 : Int -> Int -> (List (List yaa)) -> Prop, (∀ x1 x2 x3, ydO a0 g4 r0 X1 x1 x2 x3 -> X1 x1 x2 x3) -> X1 a1 a2 a3) (cnd ((IntKind.i64.wrap (a2 - a1)) == (1 : Int)) (∀ X3 : Int -> Int -> (List (List yaa)) -> Prop, (∀ x13 x14 x15, ydC a1 g4 r0 X3 x13 x14 x15 -> X3 x13 x14 x15) -> X3 a0 a1 a3) (∀ J5 : Int -> Int -> (List (List yaa)) -> Prop, (∀ x25 x26 x27, ydA a0 a2 a1 g4 Xr r0 x25 x26 x27 -> J5 x25 x26 x27) -> cnd (decide ((IntKind.i64.wrap ((IntKind.u64.wrap (IntKind.i64.wrap (a0 + a2))).fdiv (2 ^ (min (1 : Int).toNat IntKind.u64.bits)))) < a1)) (J5 (IntKind.i64.wrap ((IntKind.i64.wrap ((IntKind.i64.wrap ((IntKind.u64.wrap (IntKind.i64.wrap (a0 + a2))).fdiv (2 ^ (min (1 : Int).toNat IntKind.u64.bits)))) + a1)) - a2)) (IntKind.i64.wrap ((IntKind.u64.wrap (IntKind.i64.wrap (a0 + a2))).fdiv (2 ^ (min (1 : Int).toNat IntKind.u64.bits)))) a3) (J5 a0 a1 a3)))
def yaq (g4 : (List yaa) -> (List yaa) -> Int -> Prop) (a0 a1 a2 : Int) (a3 r0 : List (List yaa)) : Prop := ∀ Xr : ((List yaa) -> (List yaa) -> Int -> Prop) -> Int -> Int -> Int -> (List (List yaa)) -> (List (List yaa)) -> Prop, (∀ (g4 : (List yaa) -> (List yaa) -> Int -> Prop) (a0 : Int) (a1 : Int) (a2 : Int) (a3 : (List (List yaa))) (r0 : (List (List yaa))), ybc Xr g4 a0 a1 a2 a3 r0 -> Xr g4 a0 a1 a2 a3 r0) -> Xr g4 a0 a1 a2 a3 r0
def yad : Sl KK := ⟨106, [(4, [52, 52], [3])], ⟨[(0, .row 2000000), (1, .it .i64), (2, .it .i64), (3, .it .i64)], [], [(2000000, 52)]⟩, ⟨[], [], [(2000000, 52)]⟩, [], [], true, fun _ _ _ => True⟩
def yaB : Sl KK := ⟨106, [(4, [52, 52], [3])], ⟨[(0, .row 2000000), (1, .it .i64), (2, .it .i64), (3, .it .i64)], [], [(2000000, 52)]⟩, ⟨[], [], [(2000000, 52)]⟩, [], [], true, apFs (K := KK) (ctT yad.ti) (ctT yad.te) [(4, [52, 52], [3])] yaq⟩
def ydP : An KK := (.s (.s .o (.c (.s .o (.s .o (.s (.b (.l ⟨[(0, .row 2000000), (1, .kp 15), (4, .kp 16), (10, .it .i64), (11, .it .i64)], [], [(2000000, 52)]⟩ (fun _ => (.s (.s .o (.c .o .o)) (.b (.s .o (.s .o (.c .o .o)))))))) (.s (.s .o (.b (.l ⟨[(0, .row 2000000), (10, .kp 20), (13, .it .i64)], [], [(2000000, 52)]⟩ (fun _ => (.s (.s .o (.c .o .o)) (.s (.b .o) .o)))))) .o)))) .o)) (.s (.s .o (.c (.s .o (.s .o (.s (.b (.l ⟨[(0, .row 2000000), (2, .kp 35), (4, .kp 36), (14, .it .i64), (15, .it .i64)], [], [(2000000, 52)]⟩ (fun _ => (.s (.s .o (.c .o .o)) (.b (.s .o (.s .o (.c .o .o)))))))) (.s (.s .o (.b (.l ⟨[(0, .row 2000000), (14, .kp 40), (17, .it .i64)], [], [(2000000, 52)]⟩ (fun _ => (.s (.s .o (.c .o .o)) (.s (.b .o) .o)))))) .o)))) .o)) (.s .o (.s .o (.s .o (.j ⟨[(0, .row 2000000), (1, .kp 41), (2, .kp 42), (3, .kp 43), (4, .kp 44), (18, .kp 45), (19, .kp 46), (20, .it .i64), (21, .it .i64)], [], [(2000000, 52)]⟩ (.s .o (.c (.s .o .o) (.s .o .o))) (fun _ => (.s .o (.s (.b (.l ⟨[(0, .row 2000000), (1, .kp 41), (2, .kp 42), (3, .kp 43), (4, .kp 44), (18, .kp 45), (19, .kp 46), (20, .it .i64), (21, .it .i64), (22, .kp 52)], [], [(2000000, 52)]⟩ (fun _ => (.s (.s .o (.c .o .o)) (.b (.s .o (.s .o (.c .o .o)))))))) (.s .o (.j ⟨[(0, .row 2000000), (1, .kp 41), (3, .kp 43), (4, .kp 44), (18, .kp 45), (20, .it .i64), (24, .it .i64)], [], [(2000000, 52)]⟩ (.j ⟨[(0, .row 2000000), (1, .kp 41), (2, .kp 42), (3, .kp 43), (4, .kp 44), (18, .kp 45), (20, .kp 64), (24, .kp 65), (185, .bl)], [], [(2000000, 52)]⟩ .o (fun _ => (.c .o .o))) (fun _ => (.j ⟨[(0, .row 2000000), (3, .kp 43), (4, .kp 44), (18, .kp 45), (24, .it .i64)], [], [(2000000, 52)]⟩ (.j ⟨[(0, .row 2000000), (1, .kp 41), (3, .kp 43), (4, .kp 44), (18, .kp 45), (20, .kp 62), (24, .kp 63), (199, .bl)], [], [(2000000, 52)]⟩ .o (fun _ => (.c .o .o))) (fun _ => (.j ⟨[(0, .row 2000000), (3, .kp 43), (4, .kp 44), (18, .kp 45), (24, .kp 61), (213, .bl)], [], [(2000000, 52)]⟩ .o (fun _ => (.c .o .o)))))))))))))))))
def ydN (Xr : ((List yaa) -> (List yaa) -> Int -> Prop) -> Int -> Int -> Int -> (List (List yaa)) -> (List (List yaa)) -> Prop) : Cf KK := ⟨CC, [], [⟨106, [(4, [52, 52], [3])], ⟨[(0, .row 2000000), (1, .it .i64), (2, .it .i64), (3, .it .i64)], [], [(2000000, 52)]⟩, ⟨[], [], [(2000000, 52)]⟩, [], [], true, apFs (K := KK) (ctT yad.ti) (ctT yad.te) [(4, [52, 52], [3])] Xr⟩, yaR], 220, [], none, false⟩
theorem ydw (Xr : ((List yaa) → (List yaa) → Int → Prop) → Int → Int → Int → (List (List yaa)) → (List (List yaa)) → Prop) (hX : ∀ (F4 : FV KK) (hF4 : FOk Tryd.prog CC F4) (a0 : Int) (a1 : Int) (a2 : Int) (a3 : (List (List yaa))) (r0 : (List (List yaa))), Xr (curF [3] [52, 52] F4.W) a0 a1 a2 a3 r0 → SlC Tryd.prog CC yad [F4] [.i a0, .i a1, .i a2, .l 52 a3] [.l 52 r0]) : ∀ (F4 : FV KK) (hF4 : FOk Tryd.prog CC F4) (a0 : Int) (a1 : Int) (a2 : Int) (a3 : (List (List yaa))) (r0 : (List (List yaa))), ybc Xr (curF [3] [52, 52] F4.W) a0 a1 a2 a3 r0 → SlC Tryd.prog CC yad [F4] [.i a0, .i a1, .i a2, .l 52 a3] [.l 52 r0] := by
 intro F4 hF4 a0 a1 a2 a3 r0 h
 refine yhJ (F := ydN Xr) ybl yau (ygZ ?_ (ygZ yec yas)) t106 (A := ydP) (sp := yad) rfl (by kernel_rfl) (by kernel_rfl) (Nat.le_of_ble_eq_true (by kernel_rfl)) (fs := [F4]) (env := [.i a0, .i a1, .i a2, .l 52 a3]) (out := [.l 52 r0]) (by kernel_rfl) (fun G hG => by simp at hG; subst hG; assumption) (X := ybc Xr (curF [3] [52, 52] F4.W) a0 a1 a2 a3 r0) h (by kernel_rfl)
 clear h a0 a1 a2 a3 r0 hF4 F4
 intro fs env out hl hF hW
 obtain ⟨F4, fs4, rfl, h0⟩ := yjD hW
 obtain ⟨rfl, h1⟩ := ygK h0
 obtain ⟨a0, ea0, rfl, h2⟩ := ybU h1
 obtain ⟨a1, ea1, rfl, h3⟩ := ybU h2
 obtain ⟨a2, ea2, rfl, h4⟩ := ybU h3
 obtain ⟨a3, ea3, rfl, h5⟩ := ybU h4
 obtain ⟨rfl, h6⟩ := ygF h5
 obtain ⟨r0, er0, rfl, h7⟩ := ye1 h6
 obtain ⟨rfl, h8⟩ := ye2 h7
 show SlC Tryd.prog CC ⟨106, [(4, [52, 52], [3])], ⟨[(0, .row 2000000), (1, .it .i64), (2, .it .i64), (3, .it .i64)], [], [(2000000, 52)]⟩, ⟨[], [], [(2000000, 52)]⟩, [], [], true, apFs (K := KK) (ctT yad.ti) (ctT yad.te) [(4, [52, 52], [3])] Xr⟩ [F4] [.i a0, .i a1, .i a2, .l 52 a3] [.l 52 r0]
 rw [show SlC Tryd.prog CC ⟨106, [(4, [52, 52], [3])], ⟨[(0, .row 2000000), (1, .it .i64), (2, .it .i64), (3, .it .i64)], [], [(2000000, 52)]⟩, ⟨[], [], [(2000000, 52)]⟩, [], [], true, apFs (K := KK) (ctT yad.ti) (ctT yad.te) [(4, [52, 52], [3])] Xr⟩ [F4] [.i a0, .i a1, .i a2, .l 52 a3] [.l 52 r0] = SlC Tryd.prog CC yad [F4] [.i a0, .i a1, .i a2, .l 52 a3] [.l 52 r0] by kernel_rfl]
 exact hX F4 (hF _ (by simp)) a0 a1 a2 a3 r0 h8
theorem ydD : SlOk Tryd.prog CC yaB := by
 intro fs env out hl hF hW
 obtain ⟨F4, fs4, rfl, h0⟩ := yjD hW
 obtain ⟨rfl, h1⟩ := ygK h0
 obtain ⟨a0, ea0, rfl, h2⟩ := ybU h1
 obtain ⟨a1, ea1, rfl, h3⟩ := ybU h2
 obtain ⟨a2, ea2, rfl, h4⟩ := ybU h3
 obtain ⟨a3, ea3, rfl, h5⟩ := ybU h4
 obtain ⟨rfl, h6⟩ := ygF h5
 obtain ⟨r0, er0, rfl, h7⟩ := ye1 h6
 obtain ⟨rfl, h8⟩ := ye2 h7
 show SlC Tryd.prog CC yaB [F4] [.i a0, .i a1, .i a2, .l 52 a3] [.l 52 r0]
 rw [show SlC Tryd.prog CC yaB [F4] [.i a0, .i a1, .i a2, .l 52 a3] [.l 52 r0] = SlC Tryd.prog CC yad [F4] [.i a0, .i a1, .i a2, .l 52 a3] [.l 52 r0] by kernel_rfl]
 exact h8 (fun g4 a0 a1 a2 a3 r0 => ∀ F4 : FV KK, FOk Tryd.prog CC F4 -> curF [3] [52, 52] F4.W = g4 -> SlC Tryd.prog CC yad [F4] [.i a0, .i a1, .i a2, .l 52 a3] [.l 52 r0]) (fun g4 a0 a1 a2 a3 r0 h => fun F4 hF4 e4 => ydw (fun g4 a0 a1 a2 a3 r0 => ∀ F4 : FV KK, FOk Tryd.prog CC F4 -> curF [3] [52, 52] F4.W = g4 -> SlC Tryd.prog CC yad [F4] [.i a0, .i a1, .i a2, .l 52 a3] [.l 52 r0]) (fun F4 hF4 a0 a1 a2 a3 r0 h => h F4 hF4 rfl) F4 hF4 a0 a1 a2 a3 r0 (by subst e4; exact h)) F4 (hF _ (by simp)) rfl
def ybj (a0 : Int) (g2 : (List yaa) → (List yaa) → Int → Prop) (x6 : Int) (X2 : Int → (List (List yaa)) → Prop) (X3 : Int → Int → (List (List yaa)) → Prop) (x8 x9 : Int) (x10 : List (List yaa)) : Prop :=
 cnd (decide (x9 <= a0)) (∃ z11, (yaq g2 x8 (IntKind.i64.wrap (x8 + x6)) x9 x10 z11) /\ (z11.length = x10.length) /\ X3 x9 (IntKind.i64.wrap (x9 + (IntKind.i64.wrap ((2 : Int) * x6)))) z11) (cnd (decide ((IntKind.i64.wrap (x8 + x6)) < a0)) (∃ z12, (yaq g2 x8 (IntKind.i64.wrap (x8 + x6)) a0 x10 z12) /\ (z12.length = x10.length) /\ X2 (IntKind.i64.wrap (x6 * (2 : Int))) z12) (X2 (IntKind.i64.wrap (x6 * (2 : Int))) x10))
def ybi (a0 : Int) (g2 : (List yaa) → (List yaa) → Int → Prop) (r0 : List (List yaa)) (X2 : Int → (List (List yaa)) → Prop) (x6 : Int) (x7 : List (List yaa)) : Prop :=
 cnd (decide (x6 < a0)) (∀ X3 : Int -> Int -> (List (List yaa)) -> Prop, (∀ x8 x9 x10, ybj a0 g2 x6 X2 X3 x8 x9 x10 -> X3 x8 x9 x10) -> X3 (0 : Int) (IntKind.i64.wrap ((2 : Int) * x6)) x7) (x7 = r0)
def ybh (a0 : Int) (g2 : (List yaa) → (List yaa) → Int → Prop) (r0 : List (List yaa)) (X1 : Int → Int → (List (List yaa)) → Prop) (x1 x2 : Int) (x3 : List (List yaa)) : Prop :=
 cnd (decide (x2 <= a0)) (∃ z4, (yaf g2 x1 x2 x3 z4) /\ (z4.length = x3.length) /\ X1 x2 (IntKind.i64.wrap (x2 + (20 : Int))) z4) (∃ z5, (yaf g2 x1 a0 x3 z5) /\ (z5.length = x3.length) /\ ∀ X2 : Int -> (List (List yaa)) -> Prop, (∀ x6 x7, ybi a0 g2 r0 X2 x6 x7 -> X2 x6 x7) -> X2 (20 : Int) z5)
def yav (g2 : (List yaa) → (List yaa) → Int → Prop) (a0 : Int) (a1 r0 : List (List yaa)) : Prop :=
 ∀ X1 : Int -> Int -> (List (List yaa)) -> Prop, (∀ x1 x2 x3, ybh a0 g2 r0 X1 x1 x2 x3 -> X1 x1 x2 x3) -> X1 (0 : Int) (20 : Int) a1
def ya8 (X2 : Int → (List (List yaa)) → Prop) (a0 : Int) (g2 : (List yaa) → (List yaa) → Int → Prop) (x6 : Int) (X3 : Int → Int → (List (List yaa)) → Prop) (x8 x9 : Int) (x10 : List (List yaa)) : Prop :=
 cnd (decide (x9 <= a0)) (∃ z11, (yaq g2 x8 (IntKind.i64.wrap (x8 + x6)) x9 x10 z11) /\ (z11.length = x10.length) /\ X3 x9 (IntKind.i64.wrap (x9 + (IntKind.i64.wrap ((2 : Int) * x6)))) z11) (cnd (decide ((IntKind.i64.wrap (x8 + x6)) < a0)) (∃ z12, (yaq g2 x8 (IntKind.i64.wrap (x8 + x6)) a0 x10 z12) /\ (z12.length = x10.length) /\ X2 (IntKind.i64.wrap (x6 * (2 : Int))) z12) (X2 (IntKind.i64.wrap (x6 * (2 : Int))) x10))
def ybe (a0 : Int) (g2 : (List yaa) → (List yaa) → Int → Prop) (r0 : List (List yaa)) (X2 : Int → (List (List yaa)) → Prop) (x6 : Int) (x7 : List (List yaa)) : Prop :=
 cnd (decide (x6 < a0)) (∀ X3 : Int -> Int -> (List (List yaa)) -> Prop, (∀ x8 x9 x10, ya8 X2 a0 g2 x6 X3 x8 x9 x10 -> X3 x8 x9 x10) -> X3 (0 : Int) (IntKind.i64.wrap ((2 : Int) * x6)) x7) (x7 = r0)
def ya9 (a0 : Int) (g2 : (List yaa) → (List yaa) → Int → Prop) (r0 : List (List yaa)) (X1 : Int → Int → (List (List yaa)) → Prop) (x1 x2 : Int) (x3 : List (List yaa)) : Prop :=
 cnd (decide (x2 <= a0)) (∃ z4, (yaf g2 x1 x2 x3 z4) /\ (z4.length = x3.length) /\ X1 x2 (IntKind.i64.wrap (x2 + (20 : Int))) z4) (∃ z5, (yaf g2 x1 a0 x3 z5) /\ (z5.length = x3.length) /\ ∀ X2 : Int -> (List (List yaa)) -> Prop, (∀ x6 x7, ybe a0 g2 r0 X2 x6 x7 -> X2 x6 x7) -> X2 (20 : Int) z5)
def ybW (g2 : (List yaa) → (List yaa) → Int → Prop) (a0 : Int) (a1 r0 : List (List yaa)) : Prop :=
 ∀ X1 : Int -> Int -> (List (List yaa)) -> Prop, (∀ x1 x2 x3, ya9 a0 g2 r0 X1 x1 x2 x3 -> X1 x1 x2 x3) -> X1 (0 : Int) (20 : Int) a1
theorem ydI (X2 : Int → (List (List yaa)) → Prop) (a0 : Int) (g2 : (List yaa) → (List yaa) → Int → Prop) (x6 : Int) {X3 : Int → Int → (List (List yaa)) → Prop} {x8 x9 : Int} {x10 : List (List yaa)} (h : ya8 X2 a0 g2 x6 X3 x8 x9 x10) : ybj a0 g2 x6 X2 X3 x8 x9 x10 := by
 unfold ybj
 unfold ya8 at h
 exact h
theorem ydM (a0 : Int) (g2 : (List yaa) → (List yaa) → Int → Prop) (r0 : List (List yaa)) {X2 : Int → (List (List yaa)) → Prop} {x6 : Int} {x7 : List (List yaa)} (h : ybe a0 g2 r0 X2 x6 x7) : ybi a0 g2 r0 X2 x6 x7 := by
 unfold ybi
 unfold ybe at h
 refine yah h (fun h => ?_) (fun h => ?_)
 ·intro X3 k
  exact h X3 (fun x8 x9 x10 q => k x8 x9 x10 (ydI X2 a0 g2 x6 q))
 ·exact h
theorem ydL (a0 : Int) (g2 : (List yaa) → (List yaa) → Int → Prop) (r0 : List (List yaa)) {X1 : Int → Int → (List (List yaa)) → Prop} {x1 x2 : Int} {x3 : List (List yaa)} (h : ya9 a0 g2 r0 X1 x1 x2 x3) : ybh a0 g2 r0 X1 x1 x2 x3 := by
 unfold ybh
 unfold ya9 at h
 refine yah h (fun h => ?_) (fun h => ?_)
 ·exact h
 ·obtain ⟨z5, h⟩ := h
  refine ⟨z5, ?_⟩
  obtain ⟨h0, h⟩ := h
  refine ⟨h0, ?_⟩
  obtain ⟨h0, h⟩ := h
  refine ⟨h0, ?_⟩
  intro X2 k
  exact h X2 (fun x6 x7 q => k x6 x7 (ydM a0 g2 r0 q))
theorem yew (g2 : (List yaa) → (List yaa) → Int → Prop) (a0 : Int) (a1 r0 : List (List yaa)) (h : ybW g2 a0 a1 r0) : yav g2 a0 a1 r0 := by
 unfold yav
 unfold ybW at h
 intro X1 k
 exact h X1 (fun x1 x2 x3 q => k x1 x2 x3 (ydL a0 g2 r0 q))
def yaM : Sl KK := ⟨93, [(2, [52, 52], [3])], ⟨[(0, .row 2000000), (1, .it .i64)], [], [(2000000, 52)]⟩, ⟨[], [], [(2000000, 52)]⟩, [], [], true, fun _ _ _ => True⟩
def yaO : Sl KK := ⟨93, [(2, [52, 52], [3])], ⟨[(0, .row 2000000), (1, .it .i64)], [], [(2000000, 52)]⟩, ⟨[], [], [(2000000, 52)]⟩, [], [], true, apFs (K := KK) (ctT yaM.ti) (ctT yaM.te) [(2, [52, 52], [3])] yav⟩
def yel : An KK := (.s .o (.s .o (.s (.b (.l ⟨[(0, .row 2000000), (1, .kp 6), (2, .kp 7), (6, .kp 8), (7, .it .i64), (8, .it .i64)], [], [(2000000, 52)]⟩ (fun _ => (.s (.s .o (.c .o .o)) (.b (.s .o (.s .o .o))))))) (.s .o (.b (.l ⟨[(0, .row 2000000), (1, .kp 6), (2, .kp 7), (6, .it .i64)], [], [(2000000, 52)]⟩ (fun _ => (.s (.s .o (.c .o .o)) (.b (.s .o (.s (.b (.l ⟨[(0, .row 2000000), (1, .kp 6), (2, .kp 7), (6, .kp 24), (7, .it .i64), (8, .it .i64)], [], [(2000000, 52)]⟩ (fun _ => (.s (.s .o (.c .o .o)) (.b (.s .o (.s .o .o))))))) (.s (.s .o (.s .o (.c .o .o))) .o))))))))))))
def yef : Cf KK := ⟨CC, [], [yao, yaB], 63, [], none, false⟩
theorem yem : SlOk Tryd.prog CC yaO := by
 intro fs env out hl hF hW
 obtain ⟨F2, fs2, rfl, h0⟩ := yjD hW
 obtain ⟨rfl, h1⟩ := ygK h0
 obtain ⟨a0, ea0, rfl, h2⟩ := ybU h1
 obtain ⟨a1, ea1, rfl, h3⟩ := ybU h2
 obtain ⟨rfl, h4⟩ := ygF h3
 obtain ⟨r0, er0, rfl, h5⟩ := ye1 h4
 obtain ⟨rfl, h6⟩ := ye2 h5
 show SlC Tryd.prog CC yaO [F2] [.i a0, .l 52 a1] [.l 52 r0]
 rw [show SlC Tryd.prog CC yaO [F2] [.i a0, .l 52 a1] [.l 52 r0] = SlC Tryd.prog CC yaM [F2] [.i a0, .l 52 a1] [.l 52 r0] by kernel_rfl]
 exact yhJ (F := yef) ybl yau (ygZ ycB (ygZ ydD yas)) t93 (A := yel) (sp := yaM) rfl (by kernel_rfl) (by kernel_rfl) (Nat.le_of_ble_eq_true (by kernel_rfl)) (fs := [F2]) (env := [.i a0, .l 52 a1]) (out := [.l 52 r0]) (by kernel_rfl) hF (X := yav (curF [3] [52, 52] F2.W) a0 a1 r0) h6 (by kernel_rfl)
def yaP (g1 : (List yaa) → (List yaa) → Int → Prop) (a0 r0 : List (List yaa)) : Prop :=
 ∃ z1, (yav g1 (a0.length : Int) a0 z1) /\ (z1.length = a0.length) /\ z1 = r0
def yaF : Sl KK := ⟨79, [(1, [52, 52], [3])], ⟨[(0, .row 2000000)], [], [(2000000, 52)]⟩, ⟨[], [], [(2000000, 52)]⟩, [], [], true, fun _ _ _ => True⟩
def yaC : Sl KK := ⟨79, [(1, [52, 52], [3])], ⟨[(0, .row 2000000)], [], [(2000000, 52)]⟩, ⟨[], [], [(2000000, 52)]⟩, [], [], true, apFs (K := KK) (ctT yaF.ti) (ctT yaF.te) [(1, [52, 52], [3])] yaP⟩
def ydQ : An KK := .o
def ydT : Cf KK := ⟨CC, [], [yaO], 9, [], none, false⟩
theorem ydR : SlOk Tryd.prog CC yaC := by
 intro fs env out hl hF hW
 obtain ⟨F1, fs1, rfl, h0⟩ := yjD hW
 obtain ⟨rfl, h1⟩ := ygK h0
 obtain ⟨a0, ea0, rfl, h2⟩ := ybU h1
 obtain ⟨rfl, h3⟩ := ygF h2
 obtain ⟨r0, er0, rfl, h4⟩ := ye1 h3
 obtain ⟨rfl, h5⟩ := ye2 h4
 show SlC Tryd.prog CC yaC [F1] [.l 52 a0] [.l 52 r0]
 rw [show SlC Tryd.prog CC yaC [F1] [.l 52 a0] [.l 52 r0] = SlC Tryd.prog CC yaF [F1] [.l 52 a0] [.l 52 r0] by kernel_rfl]
 exact yhJ (F := ydT) ybl yau (ygZ yem yas) t79 (A := ydQ) (sp := yaF) rfl (by kernel_rfl) (by kernel_rfl) (Nat.le_of_ble_eq_true (by kernel_rfl)) (fs := [F1]) (env := [.l 52 a0]) (out := [.l 52 r0]) (by kernel_rfl) hF (X := yaP (curF [3] [52, 52] F1.W) a0 r0) h5 (by kernel_rfl)
def yal (g1 : (List yaa) → (List yaa) → Int → Prop) (a0 r0 : List (List yaa)) : Prop :=
 ∃ z1, (yar a0 z1) /\ ∃ z2, (yaP g1 z1 z2) /\ (z2.length = z1.length) /\ ((a0 = a0)) /\ z2 = r0
def ybI (g1 : (List yaa) → (List yaa) → Int → Prop) (a0 r0 : List (List yaa)) : Prop :=
 ∃ z1, (yar a0 z1) /\ ∃ z2, (yaP g1 z1 z2) /\ (z2.length = z1.length) /\ z2 = r0
theorem ydJ (g1 : (List yaa) → (List yaa) → Int → Prop) (a0 r0 : List (List yaa)) (h : ybI g1 a0 r0) : yal g1 a0 r0 := by
 unfold yal
 unfold ybI at h
 obtain ⟨z1, h⟩ := h
 refine ⟨z1, ?_⟩
 obtain ⟨h0, h⟩ := h
 refine ⟨h0, ?_⟩
 obtain ⟨z2, h⟩ := h
 refine ⟨z2, ?_⟩
 obtain ⟨h0, h⟩ := h
 refine ⟨h0, ?_⟩
 obtain ⟨h0, h⟩ := h
 refine ⟨h0, ?_⟩
 exact ⟨by and_intros <;> first | rfl | trivial, h⟩
def yaz : Sl KK := ⟨63, [(1, [52, 52], [3])], ⟨[(0, .fn 80 [] [.px 2000000 0])], [(2000000, 70, [.sl 52])], []⟩, ⟨[(4, .row 1000000)], [], [(1000000, 52)]⟩, [2000000], [(4, none)], false, fun _ _ _ => True⟩
def yaA : Sl KK := ⟨63, [(1, [52, 52], [3])], ⟨[(0, .fn 80 [] [.px 2000000 0])], [(2000000, 70, [.sl 52])], []⟩, ⟨[(4, .row 1000000)], [], [(1000000, 52)]⟩, [2000000], [(4, none)], false, apFs (K := KK) (ctT yaz.ti) (ctT yaz.te) [(1, [52, 52], [3])] yal⟩
def ydk : An KK := (.s .o (.s .o (.s .o (.s .o .o))))
def ydd : Cf KK := ⟨CC, [], [ybp, yaC], 12, [], none, false⟩
theorem ydq : SlOk Tryd.prog CC yaA := by
 intro fs env out hl hF hW
 obtain ⟨F1, fs1, rfl, h0⟩ := yjD hW
 obtain ⟨rfl, h1⟩ := ygK h0
 obtain ⟨a0, ea0, rfl, h2⟩ := ybU h1
 obtain ⟨rfl, h3⟩ := ygF h2
 obtain ⟨r0, er0, rfl, h4⟩ := ye1 h3
 obtain ⟨rfl, h5⟩ := ye2 h4
 show SlC Tryd.prog CC yaA [F1] [.l 52 a0] [.l 52 r0]
 rw [show SlC Tryd.prog CC yaA [F1] [.l 52 a0] [.l 52 r0] = SlC Tryd.prog CC yaz [F1] [.l 52 a0] [.l 52 r0] by kernel_rfl]
 exact yhJ (F := ydd) ybl yau (ygZ yfy (ygZ ydR yas)) t63 (A := ydk) (sp := yaz) rfl (by kernel_rfl) (by kernel_rfl) (Nat.le_of_ble_eq_true (by kernel_rfl)) (fs := [F1]) (env := [.l 52 a0]) (out := [.l 52 r0]) (by kernel_rfl) hF (X := yal (curF [3] [52, 52] F1.W) a0 r0) h5 (by kernel_rfl)
def yeF (a0 r0 : List (List yaa)) : Prop :=
 ∃ z1, (yb6 a0 z1) /\ ∃ z2, (yal yaW z1 z2) /\ z2 = r0
def ykH : Sp KK := ⟨38, [.v 70], [70], appW (K := KK) [70] [.v 70] yeF⟩
def yoZ : An KK := (.s .o (.s .o .o))
def ypx : Cf KK := ⟨CC, [ydW], [ybt, yaA], 6, [], none, false⟩
theorem ypo : SpOk Tryd.prog CC ykH := yan (F := ypx) (ps := [.v 70]) (rs := [70]) (w := yeF) ybl (yat yfn yau) (ygZ yfH (ygZ ydq yas)) t38 (A := yoZ) (by kernel_rfl) (by kernel_rfl) (fun a0 r0 => show _ = _ by kernel_rfl)
def yf7 (X2 : Int → Prop) (x3 : Int) (x1 : List (List yab)) (x2 : Int) (a0 : List (List yab)) (X1 : (List (List yab)) → Int → Prop) (x4 : Bool) : Prop :=
 cnd x4 (X2 (IntKind.i64.wrap (x3 - (1 : Int)))) ((0 <= (0 : Int) /\ (0 : Int) <= x3 /\ x3 <= (x1.length : Int)) /\ ((ycL x1 (0 : Int) x3).length <= 400000000) /\ (0 <= x2) /\ (x2 < (a0.length : Int)) /\ ∃ y5 : (List yab), (a0[x2.toNat]? = some y5) /\ ((([] : List (List yab)) ++ (ycL x1 (0 : Int) x3)).length <= 1000000000) /\ (0 <= x3 /\ x3 <= (x1.length : Int) /\ (x1.length : Int) <= (x1.length : Int)) /\ (((([] : List (List yab)) ++ (ycL x1 (0 : Int) x3)) ++ ([y5] : List (List yab))).length <= 1000000000) /\ ((ycL x1 x3 (x1.length : Int)).length <= 400000000) /\ X1 (((([] : List (List yab)) ++ (ycL x1 (0 : Int) x3)) ++ ([y5] : List (List yab))) ++ (ycL x1 x3 (x1.length : Int))) (IntKind.i64.wrap (x2 + (1 : Int))))
def yfS (x1 : List (List yab)) (x2 : Int) (a0 : List (List yab)) (X1 : (List (List yab)) → Int → Prop) (X2 : Int → Prop) (x3 : Int) : Prop :=
 ∀ J3 : Bool -> Prop, (∀ x4, yf7 X2 x3 x1 x2 a0 X1 x4 -> J3 x4) -> cnd (decide ((0 : Int) < x3)) ((0 <= x2) /\ (x2 < (a0.length : Int)) /\ ∃ y6 : (List yab), (a0[x2.toNat]? = some y6) /\ (0 <= (IntKind.i64.wrap (x3 - (1 : Int)))) /\ ((IntKind.i64.wrap (x3 - (1 : Int))) < (x1.length : Int)) /\ ∃ y7 : (List yab), (x1[(IntKind.i64.wrap (x3 - (1 : Int))).toNat]? = some y7) /\ ∃ z8, (yaU y6 y7 z8) /\ J3 z8) (J3 false)
def yf8 (a0 r0 : List (List yab)) (X1 : (List (List yab)) → Int → Prop) (x1 : List (List yab)) (x2 : Int) : Prop :=
 (a0.length <= maxLen -> cnd (decide (x2 < (a0.length : Int))) ((x1.length <= maxLen -> ∀ X2 : Int -> Prop, (∀ x3, yfS x1 x2 a0 X1 X2 x3 -> X2 x3) -> X2 (x1.length : Int))) (x1 = r0))
def ybV (a0 r0 : List (List yab)) : Prop :=
 ∀ X1 : (List (List yab)) -> Int -> Prop, (∀ x1 x2, yf8 a0 r0 X1 x1 x2 -> X1 x1 x2) -> X1 ([] : List (List yab)) (0 : Int)
def yb5 (X1 : (List (List yab)) → Int → Prop) (X2 : Int → Prop) (a0 x1 : List (List yab)) (x2 x3 : Int) (x4 : Bool) : Prop :=
 cnd x4 (X2 (IntKind.i64.wrap (x3 - (1 : Int)))) ((0 <= (0 : Int) /\ (0 : Int) <= x3 /\ x3 <= (x1.length : Int)) /\ ((ycL x1 (0 : Int) x3).length <= 400000000) /\ (0 <= x2) /\ (x2 < (a0.length : Int)) /\ ∃ y5 : (List yab), (a0[x2.toNat]? = some y5) /\ ((([] : List (List yab)) ++ (ycL x1 (0 : Int) x3)).length <= 1000000000) /\ (0 <= x3 /\ x3 <= (x1.length : Int) /\ (x1.length : Int) <= (x1.length : Int)) /\ (((([] : List (List yab)) ++ (ycL x1 (0 : Int) x3)) ++ ([y5] : List (List yab))).length <= 1000000000) /\ ((ycL x1 x3 (x1.length : Int)).length <= 400000000) /\ X1 (((([] : List (List yab)) ++ (ycL x1 (0 : Int) x3)) ++ ([y5] : List (List yab))) ++ (ycL x1 x3 (x1.length : Int))) (IntKind.i64.wrap (x2 + (1 : Int))))
def yd5 (X1 : (List (List yab)) → Int → Prop) (a0 x1 : List (List yab)) (x2 : Int) (X2 : Int → Prop) (x3 : Int) : Prop :=
 cnd (decide ((0 : Int) < x3)) ((0 <= x2) /\ (x2 < (a0.length : Int)) /\ ∃ y6 : (List yab), (a0[x2.toNat]? = some y6) /\ (0 <= (IntKind.i64.wrap (x3 - (1 : Int)))) /\ ((IntKind.i64.wrap (x3 - (1 : Int))) < (x1.length : Int)) /\ ∃ y7 : (List yab), (x1[(IntKind.i64.wrap (x3 - (1 : Int))).toNat]? = some y7) /\ ∃ z8, (yaU y6 y7 z8) /\ yb5 X1 X2 a0 x1 x2 x3 z8) (yb5 X1 X2 a0 x1 x2 x3 false)
def yea (a0 r0 : List (List yab)) (X1 : (List (List yab)) → Int → Prop) (x1 : List (List yab)) (x2 : Int) : Prop :=
 (a0.length <= maxLen -> cnd (decide (x2 < (a0.length : Int))) ((x1.length <= maxLen -> ∀ X2 : Int -> Prop, (∀ x3, yd5 X1 a0 x1 x2 X2 x3 -> X2 x3) -> X2 (x1.length : Int))) (x1 = r0))
def yi6 (a0 r0 : List (List yab)) : Prop :=
 ∀ X1 : (List (List yab)) -> Int -> Prop, (∀ x1 x2, yea a0 r0 X1 x1 x2 -> X1 x1 x2) -> X1 ([] : List (List yab)) (0 : Int)
theorem ykF (X1 : (List (List yab)) → Int → Prop) (X2 : Int → Prop) (a0 x1 : List (List yab)) (x2 x3 : Int) {x4 : Bool} (h : yb5 X1 X2 a0 x1 x2 x3 x4) : yf7 X2 x3 x1 x2 a0 X1 x4 := by
 unfold yf7
 unfold yb5 at h
 exact h
theorem ylm (X1 : (List (List yab)) → Int → Prop) (a0 x1 : List (List yab)) (x2 : Int) {X2 : Int → Prop} {x3 : Int} (h : yd5 X1 a0 x1 x2 X2 x3) : yfS x1 x2 a0 X1 X2 x3 := by
 unfold yfS
 unfold yd5 at h
 intro J3 kJ3
 have hJ3 : ∀ x4, yb5 X1 X2 a0 x1 x2 x3 x4 -> J3 x4 := fun x4 q => kJ3 x4 (ykF X1 X2 a0 x1 x2 x3 q)
 refine yah h (fun h => ?_) (fun h => ?_)
 ·obtain ⟨h0, h⟩ := h
  refine ⟨h0, ?_⟩
  obtain ⟨h0, h⟩ := h
  refine ⟨h0, ?_⟩
  obtain ⟨y6, h⟩ := h
  refine ⟨y6, ?_⟩
  obtain ⟨h0, h⟩ := h
  refine ⟨h0, ?_⟩
  obtain ⟨h0, h⟩ := h
  refine ⟨h0, ?_⟩
  obtain ⟨h0, h⟩ := h
  refine ⟨h0, ?_⟩
  obtain ⟨y7, h⟩ := h
  refine ⟨y7, ?_⟩
  obtain ⟨h0, h⟩ := h
  refine ⟨h0, ?_⟩
  obtain ⟨z8, h⟩ := h
  refine ⟨z8, ?_⟩
  obtain ⟨h0, h⟩ := h
  refine ⟨h0, ?_⟩
  exact hJ3 _ h
 ·exact hJ3 _ h
theorem yke (a0 r0 : List (List yab)) {X1 : (List (List yab)) → Int → Prop} {x1 : List (List yab)} {x2 : Int} (h : yea a0 r0 X1 x1 x2) : yf8 a0 r0 X1 x1 x2 := by
 unfold yf8
 unfold yea at h
 intro c
 replace h := h c
 refine yah h (fun h => ?_) (fun h => ?_)
 ·intro c
  replace h := h c
  intro X2 k
  exact h X2 (fun x3 q => k x3 (ylm X1 a0 x1 x2 q))
 ·exact h
theorem yoB (a0 r0 : List (List yab)) (h : yi6 a0 r0) : ybV a0 r0 := by
 unfold ybV
 unfold yi6 at h
 intro X1 k
 exact h X1 (fun x1 x2 q => k x1 x2 (yke a0 r0 q))
def yiX : Sp KK := ⟨39, [.v 71], [71], appW (K := KK) [71] [.v 71] ybV⟩
def ymi : An KK := (.s .o (.s .o (.s (.s .o (.b (.l ⟨[(0, .kp 86), (3, .sl 54), (4, .it .i64)], [], []⟩ (fun _ => (.s (.s .o (.c .o .o)) (.s (.b (.s .o (.s (.b (.l ⟨[(0, .kp 86), (3, .kp 162), (4, .kp 163), (5, .it .i64)], [], []⟩ (fun _ => (.s (.j ⟨[(0, .kp 86), (3, .kp 162), (4, .kp 163), (5, .kp 168), (27, .bl)], [], []⟩ .o (fun _ => (.c .o .o))) (.b .o))))) .o))) .o)))))) (.s .o .o))))
def ynh : Cf KK := ⟨CC, [yeS], [], 46, [], none, false⟩
theorem ynb : SpOk Tryd.prog CC yiX := yan (F := ynh) (ps := [.v 71]) (rs := [71]) (w := ybV) ybl (yat ygl yau) yas t39 (A := ymi) (by kernel_rfl) (by kernel_rfl) (fun a0 r0 => show _ = _ by kernel_rfl)
def ydm (r0 : Bool) (X3 : Int → (List (List yaa)) → (List (List yab)) → Prop) (x13 : Int) (x22 : Bool) (x23 : List (List yaa)) (x24 : List (List yab)) : Prop :=
 cnd x22 (false = r0) (X3 (IntKind.i64.wrap (x13 + (1 : Int))) x23 x24)
def ydu (r0 : Bool) (X3 : Int → (List (List yaa)) → (List (List yab)) → Prop) (x13 x2 x19 : Int) (x20 : List (List yaa)) (x21 : List (List yab)) : Prop :=
 ∀ J6 : Bool -> (List (List yaa)) -> (List (List yab)) -> Prop, (∀ x22 x23 x24, ydm r0 X3 x13 x22 x23 x24 -> J6 x22 x23 x24) -> (0 <= x2) /\ (x2 < (x20.length : Int)) /\ ∃ y25 : (List yaa), (x20[x2.toNat]? = some y25) /\ (0 <= x13) /\ (x13 < (x20.length : Int)) /\ ∃ y26 : (List yaa), (x20[x13.toNat]? = some y26) /\ ∃ z27, (yaW y25 y26 z27) /\ cnd (!(z27 == x19)) (J6 true x20 x21) ((0 <= x13) /\ (x13 < (x20.length : Int)) /\ ∃ y28 : (List yaa), (x20[x13.toNat]? = some y28) /\ (0 <= x2) /\ (x2 < (x20.length : Int)) /\ ∃ y29 : (List yaa), (x20[x2.toNat]? = some y29) /\ ∃ z30, (yaW y28 y29 z30) /\ J6 (!(z30 == (IntKind.i64.wrap (0 - x19)))) x20 x21)
def ydo (r0 : Bool) (X3 : Int → (List (List yaa)) → (List (List yab)) → Prop) (x13 x2 x16 : Int) (x17 : List (List yaa)) (x18 : List (List yab)) : Prop :=
 ∀ J5 : Int -> (List (List yaa)) -> (List (List yab)) -> Prop, (∀ x19 x20 x21, ydu r0 X3 x13 x2 x19 x20 x21 -> J5 x19 x20 x21) -> (0 <= x13) /\ (x13 < (x18.length : Int)) /\ ∃ y31 : (List yab), (x18[x13.toNat]? = some y31) /\ (0 <= x2) /\ (x2 < (x18.length : Int)) /\ ∃ y32 : (List yab), (x18[x2.toNat]? = some y32) /\ ∃ z33, (yaU y31 y32 z33) /\ cnd z33 (J5 (1 : Int) x17 x18) (J5 x16 x17 x18)
def ydx (x2 : Int) (r0 : Bool) (X1 X3 : Int → (List (List yaa)) → (List (List yab)) → Prop) (x13 : Int) (x14 : List (List yaa)) (x15 : List (List yab)) : Prop :=
 cnd (decide (x13 < x2)) (∀ J4 : Int -> (List (List yaa)) -> (List (List yab)) -> Prop, (∀ x16 x17 x18, ydo r0 X3 x13 x2 x16 x17 x18 -> J4 x16 x17 x18) -> (0 <= x2) /\ (x2 < (x15.length : Int)) /\ ∃ y34 : (List yab), (x15[x2.toNat]? = some y34) /\ (0 <= x13) /\ (x13 < (x15.length : Int)) /\ ∃ y35 : (List yab), (x15[x13.toNat]? = some y35) /\ ∃ z36, (yaU y34 y35 z36) /\ cnd z36 (J4 (-1 : Int) x14 x15) (J4 (0 : Int) x14 x15)) (X1 (IntKind.i64.wrap (x2 + (1 : Int))) x14 x15)
def ydl (z37 : List (List yaa)) (z38 : List (List yab)) (r0 : Bool) (X7 : Int → Prop) (x39 : Int) : Prop :=
 (z37.length <= maxLen -> cnd (decide (x39 < (z37.length : Int))) ((0 <= x39) /\ (x39 < (z37.length : Int)) /\ ∃ y40 : (List yaa), (z37[x39.toNat]? = some y40) /\ ∃ z41, (ydf y40 z41) /\ (0 <= x39) /\ (x39 < (z38.length : Int)) /\ ∃ y42 : (List yab), (z38[x39.toNat]? = some y42) /\ ∃ z43, (ycY y42 z43) /\ cnd (!(z41 == z43)) (false = r0) (X7 (IntKind.i64.wrap (x39 + (1 : Int))))) (true = r0))
def ydc (x2 : Int) (a0 : List (List yac)) (r0 : Bool) (X1 : Int → (List (List yaa)) → (List (List yab)) → Prop) (x5 : Bool) (x6 : List (List yaa)) (x7 : List (List yab)) : Prop :=
 cnd x5 ((0 <= x2) /\ (x2 < (a0.length : Int)) /\ ∃ y8 : (List yac), (a0[x2.toNat]? = some y8) /\ ∃ z9 z10, (yck y8 z9 z10) /\ (x6.length <= 1000000000) /\ (x7.length <= 1000000000) /\ ∃ z11, (yb4 z9 z11) /\ ∃ z12, (ycf z10 z12) /\ cnd (!(z11 == z12)) (false = r0) (∀ X3 : Int -> (List (List yaa)) -> (List (List yab)) -> Prop, (∀ x13 x14 x15, ydx x2 r0 X1 X3 x13 x14 x15 -> X3 x13 x14 x15) -> X3 (0 : Int) (x6 ++ ([z9] : List (List yaa))) (x7 ++ ([z10] : List (List yab))))) (∃ z37, (yeF x6 z37) /\ ∃ z38, (ybV x7 z38) /\ (z37.length <= maxLen -> (z38.length <= maxLen -> cnd (!((z37.length : Int) == (z38.length : Int))) (false = r0) (∀ X7 : Int -> Prop, (∀ x39, ydl z37 z38 r0 X7 x39 -> X7 x39) -> X7 (0 : Int)))))
def ydh (a0 : List (List yac)) (r0 : Bool) (X1 : Int → (List (List yaa)) → (List (List yab)) → Prop) (x2 : Int) (x3 : List (List yaa)) (x4 : List (List yab)) : Prop :=
 ∀ J2 : Bool -> (List (List yaa)) -> (List (List yab)) -> Prop, (∀ x5 x6 x7, ydc x2 a0 r0 X1 x5 x6 x7 -> J2 x5 x6 x7) -> (a0.length <= maxLen -> cnd (decide (x2 < (a0.length : Int))) (J2 (decide (x2 < (8 : Int))) x3 x4) (J2 false x3 x4))
def yaZ (a0 : List (List yac)) (r0 : Bool) : Prop :=
 ∃ z1, (ybM z1) /\ cnd (!z1) (false = r0) (∀ X1 : Int -> (List (List yaa)) -> (List (List yab)) -> Prop, (∀ x2 x3 x4, ydh a0 r0 X1 x2 x3 x4 -> X1 x2 x3 x4) -> X1 (0 : Int) ([] : List (List yaa)) ([] : List (List yab)))
def yby (X3 : Int → (List (List yaa)) → (List (List yab)) → Prop) (r0 : Bool) (x13 : Int) (x22 : Bool) (x23 : List (List yaa)) (x24 : List (List yab)) : Prop :=
 cnd x22 (false = r0) (X3 (IntKind.i64.wrap (x13 + (1 : Int))) x23 x24)
def ybf (X3 : Int → (List (List yaa)) → (List (List yab)) → Prop) (r0 : Bool) (x2 x13 x19 : Int) (x20 : List (List yaa)) (x21 : List (List yab)) : Prop :=
 (0 <= x2) /\ (x2 < (x20.length : Int)) /\ ∃ y25 : (List yaa), (x20[x2.toNat]? = some y25) /\ (0 <= x13) /\ (x13 < (x20.length : Int)) /\ ∃ y26 : (List yaa), (x20[x13.toNat]? = some y26) /\ ∃ z27, (yaW y25 y26 z27) /\ cnd (!(z27 == x19)) (yby X3 r0 x13 true x20 x21) ((0 <= x13) /\ (x13 < (x20.length : Int)) /\ ∃ y28 : (List yaa), (x20[x13.toNat]? = some y28) /\ (0 <= x2) /\ (x2 < (x20.length : Int)) /\ ∃ y29 : (List yaa), (x20[x2.toNat]? = some y29) /\ ∃ z30, (yaW y28 y29 z30) /\ yby X3 r0 x13 (!(z30 == (IntKind.i64.wrap (0 - x19)))) x20 x21)
def yba (X3 : Int → (List (List yaa)) → (List (List yab)) → Prop) (r0 : Bool) (x2 x13 x16 : Int) (x17 : List (List yaa)) (x18 : List (List yab)) : Prop :=
 (0 <= x13) /\ (x13 < (x18.length : Int)) /\ ∃ y31 : (List yab), (x18[x13.toNat]? = some y31) /\ (0 <= x2) /\ (x2 < (x18.length : Int)) /\ ∃ y32 : (List yab), (x18[x2.toNat]? = some y32) /\ ∃ z33, (yaU y31 y32 z33) /\ cnd z33 (ybf X3 r0 x2 x13 (1 : Int) x17 x18) (ybf X3 r0 x2 x13 x16 x17 x18)
def yc0 (X1 : Int → (List (List yaa)) → (List (List yab)) → Prop) (r0 : Bool) (x2 : Int) (X3 : Int → (List (List yaa)) → (List (List yab)) → Prop) (x13 : Int) (x14 : List (List yaa)) (x15 : List (List yab)) : Prop :=
 cnd (decide (x13 < x2)) ((0 <= x2) /\ (x2 < (x15.length : Int)) /\ ∃ y34 : (List yab), (x15[x2.toNat]? = some y34) /\ (0 <= x13) /\ (x13 < (x15.length : Int)) /\ ∃ y35 : (List yab), (x15[x13.toNat]? = some y35) /\ ∃ z36, (yaU y34 y35 z36) /\ cnd z36 (yba X3 r0 x2 x13 (-1 : Int) x14 x15) (yba X3 r0 x2 x13 (0 : Int) x14 x15)) (X1 (IntKind.i64.wrap (x2 + (1 : Int))) x14 x15)
def yb1 (r0 : Bool) (z37 : List (List yaa)) (z38 : List (List yab)) (X7 : Int → Prop) (x39 : Int) : Prop :=
 (z37.length <= maxLen -> cnd (decide (x39 < (z37.length : Int))) ((0 <= x39) /\ (x39 < (z37.length : Int)) /\ ∃ y40 : (List yaa), (z37[x39.toNat]? = some y40) /\ ∃ z41, (ydf y40 z41) /\ (0 <= x39) /\ (x39 < (z38.length : Int)) /\ ∃ y42 : (List yab), (z38[x39.toNat]? = some y42) /\ ∃ z43, (ycY y42 z43) /\ cnd (!(z41 == z43)) (false = r0) (X7 (IntKind.i64.wrap (x39 + (1 : Int))))) (true = r0))
def ybz (X1 : Int → (List (List yaa)) → (List (List yab)) → Prop) (a0 : List (List yac)) (r0 : Bool) (x2 : Int) (x5 : Bool) (x6 : List (List yaa)) (x7 : List (List yab)) : Prop :=
 cnd x5 ((0 <= x2) /\ (x2 < (a0.length : Int)) /\ ∃ y8 : (List yac), (a0[x2.toNat]? = some y8) /\ ∃ z9 z10, (yck y8 z9 z10) /\ (x6.length <= 1000000000) /\ (x7.length <= 1000000000) /\ ∃ z11, (yb4 z9 z11) /\ ∃ z12, (ycf z10 z12) /\ cnd (!(z11 == z12)) (false = r0) (∀ X3 : Int -> (List (List yaa)) -> (List (List yab)) -> Prop, (∀ x13 x14 x15, yc0 X1 r0 x2 X3 x13 x14 x15 -> X3 x13 x14 x15) -> X3 (0 : Int) (x6 ++ ([z9] : List (List yaa))) (x7 ++ ([z10] : List (List yab))))) (∃ z37, (yeF x6 z37) /\ ∃ z38, (ybV x7 z38) /\ (z37.length <= maxLen -> (z38.length <= maxLen -> cnd (!((z37.length : Int) == (z38.length : Int))) (false = r0) (∀ X7 : Int -> Prop, (∀ x39, yb1 r0 z37 z38 X7 x39 -> X7 x39) -> X7 (0 : Int)))))
def ycZ (a0 : List (List yac)) (r0 : Bool) (X1 : Int → (List (List yaa)) → (List (List yab)) → Prop) (x2 : Int) (x3 : List (List yaa)) (x4 : List (List yab)) : Prop :=
 (a0.length <= maxLen -> cnd (decide (x2 < (a0.length : Int))) (ybz X1 a0 r0 x2 (decide (x2 < (8 : Int))) x3 x4) (ybz X1 a0 r0 x2 false x3 x4))
def yff (a0 : List (List yac)) (r0 : Bool) : Prop :=
 ∃ z1, (ybM z1) /\ cnd (!z1) (false = r0) (∀ X1 : Int -> (List (List yaa)) -> (List (List yab)) -> Prop, (∀ x2 x3 x4, ycZ a0 r0 X1 x2 x3 x4 -> X1 x2 x3 x4) -> X1 (0 : Int) ([] : List (List yaa)) ([] : List (List yab)))
theorem yht (X3 : Int → (List (List yaa)) → (List (List yab)) → Prop) (r0 : Bool) (x13 : Int) {x22 : Bool} {x23 : List (List yaa)} {x24 : List (List yab)} (h : yby X3 r0 x13 x22 x23 x24) : ydm r0 X3 x13 x22 x23 x24 := by
 unfold ydm
 unfold yby at h
 exact h
theorem yhv (X3 : Int → (List (List yaa)) → (List (List yab)) → Prop) (r0 : Bool) (x2 x13 : Int) {x19 : Int} {x20 : List (List yaa)} {x21 : List (List yab)} (h : ybf X3 r0 x2 x13 x19 x20 x21) : ydu r0 X3 x13 x2 x19 x20 x21 := by
 unfold ydu
 unfold ybf at h
 intro J6 kJ6
 have hJ6 : ∀ x22 x23 x24, yby X3 r0 x13 x22 x23 x24 -> J6 x22 x23 x24 := fun x22 x23 x24 q => kJ6 x22 x23 x24 (yht X3 r0 x13 q)
 obtain ⟨h0, h⟩ := h
 refine ⟨h0, ?_⟩
 obtain ⟨h0, h⟩ := h
 refine ⟨h0, ?_⟩
 obtain ⟨y25, h⟩ := h
 refine ⟨y25, ?_⟩
 obtain ⟨h0, h⟩ := h
 refine ⟨h0, ?_⟩
 obtain ⟨h0, h⟩ := h
 refine ⟨h0, ?_⟩
 obtain ⟨h0, h⟩ := h
 refine ⟨h0, ?_⟩
 obtain ⟨y26, h⟩ := h
 refine ⟨y26, ?_⟩
 obtain ⟨h0, h⟩ := h
 refine ⟨h0, ?_⟩
 obtain ⟨z27, h⟩ := h
 refine ⟨z27, ?_⟩
 obtain ⟨h0, h⟩ := h
 refine ⟨h0, ?_⟩
 refine yah h (fun h => ?_) (fun h => ?_)
 ·exact hJ6 _ _ _ h
 ·obtain ⟨h0, h⟩ := h
  refine ⟨h0, ?_⟩
  obtain ⟨h0, h⟩ := h
  refine ⟨h0, ?_⟩
  obtain ⟨y28, h⟩ := h
  refine ⟨y28, ?_⟩
  obtain ⟨h0, h⟩ := h
  refine ⟨h0, ?_⟩
  obtain ⟨h0, h⟩ := h
  refine ⟨h0, ?_⟩
  obtain ⟨h0, h⟩ := h
  refine ⟨h0, ?_⟩
  obtain ⟨y29, h⟩ := h
  refine ⟨y29, ?_⟩
  obtain ⟨h0, h⟩ := h
  refine ⟨h0, ?_⟩
  obtain ⟨z30, h⟩ := h
  refine ⟨z30, ?_⟩
  obtain ⟨h0, h⟩ := h
  refine ⟨h0, ?_⟩
  exact hJ6 _ _ _ h
theorem yhn (X3 : Int → (List (List yaa)) → (List (List yab)) → Prop) (r0 : Bool) (x2 x13 : Int) {x16 : Int} {x17 : List (List yaa)} {x18 : List (List yab)} (h : yba X3 r0 x2 x13 x16 x17 x18) : ydo r0 X3 x13 x2 x16 x17 x18 := by
 unfold ydo
 unfold yba at h
 intro J5 kJ5
 have hJ5 : ∀ x19 x20 x21, ybf X3 r0 x2 x13 x19 x20 x21 -> J5 x19 x20 x21 := fun x19 x20 x21 q => kJ5 x19 x20 x21 (yhv X3 r0 x2 x13 q)
 obtain ⟨h0, h⟩ := h
 refine ⟨h0, ?_⟩
 obtain ⟨h0, h⟩ := h
 refine ⟨h0, ?_⟩
 obtain ⟨y31, h⟩ := h
 refine ⟨y31, ?_⟩
 obtain ⟨h0, h⟩ := h
 refine ⟨h0, ?_⟩
 obtain ⟨h0, h⟩ := h
 refine ⟨h0, ?_⟩
 obtain ⟨h0, h⟩ := h
 refine ⟨h0, ?_⟩
 obtain ⟨y32, h⟩ := h
 refine ⟨y32, ?_⟩
 obtain ⟨h0, h⟩ := h
 refine ⟨h0, ?_⟩
 obtain ⟨z33, h⟩ := h
 refine ⟨z33, ?_⟩
 obtain ⟨h0, h⟩ := h
 refine ⟨h0, ?_⟩
 refine yah h (fun h => ?_) (fun h => ?_)
 ·exact hJ5 _ _ _ h
 ·exact hJ5 _ _ _ h
theorem yhr (X1 : Int → (List (List yaa)) → (List (List yab)) → Prop) (r0 : Bool) (x2 : Int) {X3 : Int → (List (List yaa)) → (List (List yab)) → Prop} {x13 : Int} {x14 : List (List yaa)} {x15 : List (List yab)} (h : yc0 X1 r0 x2 X3 x13 x14 x15) : ydx x2 r0 X1 X3 x13 x14 x15 := by
 unfold ydx
 unfold yc0 at h
 refine yah h (fun h => ?_) (fun h => ?_)
 ·intro J4 kJ4
  have hJ4 : ∀ x16 x17 x18, yba X3 r0 x2 x13 x16 x17 x18 -> J4 x16 x17 x18 := fun x16 x17 x18 q => kJ4 x16 x17 x18 (yhn X3 r0 x2 x13 q)
  obtain ⟨h0, h⟩ := h
  refine ⟨h0, ?_⟩
  obtain ⟨h0, h⟩ := h
  refine ⟨h0, ?_⟩
  obtain ⟨y34, h⟩ := h
  refine ⟨y34, ?_⟩
  obtain ⟨h0, h⟩ := h
  refine ⟨h0, ?_⟩
  obtain ⟨h0, h⟩ := h
  refine ⟨h0, ?_⟩
  obtain ⟨h0, h⟩ := h
  refine ⟨h0, ?_⟩
  obtain ⟨y35, h⟩ := h
  refine ⟨y35, ?_⟩
  obtain ⟨h0, h⟩ := h
  refine ⟨h0, ?_⟩
  obtain ⟨z36, h⟩ := h
  refine ⟨z36, ?_⟩
  obtain ⟨h0, h⟩ := h
  refine ⟨h0, ?_⟩
  refine yah h (fun h => ?_) (fun h => ?_)
  ·exact hJ4 _ _ _ h
  ·exact hJ4 _ _ _ h
 ·exact h
theorem yho (r0 : Bool) (z37 : List (List yaa)) (z38 : List (List yab)) {X7 : Int → Prop} {x39 : Int} (h : yb1 r0 z37 z38 X7 x39) : ydl z37 z38 r0 X7 x39 := by
 unfold ydl
 unfold yb1 at h
 exact h
theorem yhm (X1 : Int → (List (List yaa)) → (List (List yab)) → Prop) (a0 : List (List yac)) (r0 : Bool) (x2 : Int) {x5 : Bool} {x6 : List (List yaa)} {x7 : List (List yab)} (h : ybz X1 a0 r0 x2 x5 x6 x7) : ydc x2 a0 r0 X1 x5 x6 x7 := by
 unfold ydc
 unfold ybz at h
 refine yah h (fun h => ?_) (fun h => ?_)
 ·obtain ⟨h0, h⟩ := h
  refine ⟨h0, ?_⟩
  obtain ⟨h0, h⟩ := h
  refine ⟨h0, ?_⟩
  obtain ⟨y8, h⟩ := h
  refine ⟨y8, ?_⟩
  obtain ⟨h0, h⟩ := h
  refine ⟨h0, ?_⟩
  obtain ⟨z9, h⟩ := h
  refine ⟨z9, ?_⟩
  obtain ⟨z10, h⟩ := h
  refine ⟨z10, ?_⟩
  obtain ⟨h0, h⟩ := h
  refine ⟨h0, ?_⟩
  obtain ⟨h0, h⟩ := h
  refine ⟨h0, ?_⟩
  obtain ⟨h0, h⟩ := h
  refine ⟨h0, ?_⟩
  obtain ⟨z11, h⟩ := h
  refine ⟨z11, ?_⟩
  obtain ⟨h0, h⟩ := h
  refine ⟨h0, ?_⟩
  obtain ⟨z12, h⟩ := h
  refine ⟨z12, ?_⟩
  obtain ⟨h0, h⟩ := h
  refine ⟨h0, ?_⟩
  refine yah h (fun h => ?_) (fun h => ?_)
  ·exact h
  ·intro X3 k
   exact h X3 (fun x13 x14 x15 q => k x13 x14 x15 (yhr X1 r0 x2 q))
 ·obtain ⟨z37, h⟩ := h
  refine ⟨z37, ?_⟩
  obtain ⟨h0, h⟩ := h
  refine ⟨h0, ?_⟩
  obtain ⟨z38, h⟩ := h
  refine ⟨z38, ?_⟩
  obtain ⟨h0, h⟩ := h
  refine ⟨h0, ?_⟩
  intro c
  replace h := h c
  intro c
  replace h := h c
  refine yah h (fun h => ?_) (fun h => ?_)
  ·exact h
  ·intro X7 k
   exact h X7 (fun x39 q => k x39 (yho r0 z37 z38 q))
theorem yhu (a0 : List (List yac)) (r0 : Bool) {X1 : Int → (List (List yaa)) → (List (List yab)) → Prop} {x2 : Int} {x3 : List (List yaa)} {x4 : List (List yab)} (h : ycZ a0 r0 X1 x2 x3 x4) : ydh a0 r0 X1 x2 x3 x4 := by
 unfold ydh
 unfold ycZ at h
 intro J2 kJ2
 have hJ2 : ∀ x5 x6 x7, ybz X1 a0 r0 x2 x5 x6 x7 -> J2 x5 x6 x7 := fun x5 x6 x7 q => kJ2 x5 x6 x7 (yhm X1 a0 r0 x2 q)
 intro c
 replace h := h c
 refine yah h (fun h => ?_) (fun h => ?_)
 ·exact hJ2 _ _ _ h
 ·exact hJ2 _ _ _ h
theorem yjA (a0 : List (List yac)) (r0 : Bool) (h : yff a0 r0) : yaZ a0 r0 := by
 unfold yaZ
 unfold yff at h
 obtain ⟨z1, h⟩ := h
 refine ⟨z1, ?_⟩
 obtain ⟨h0, h⟩ := h
 refine ⟨h0, ?_⟩
 refine yah h (fun h => ?_) (fun h => ?_)
 ·exact h
 ·intro X1 k
  exact h X1 (fun x2 x3 x4 q => k x2 x3 x4 (yhu a0 r0 q))
def yb8 : Sp KK := ⟨9, [.v 69], [4], appW (K := KK) [4] [.v 69] yaZ⟩
def yi0 : An KK := (.s .o (.s (.s .o (.c (.s .o .o) .o)) (.s .o (.s .o (.s (.s .o (.b (.l ⟨[(0, .kp 39), (3, .row 36), (4, .row 40), (5, .it .i64)], [], [(36, 52), (40, 54)]⟩ (fun _ => (.s (.j ⟨[(0, .kp 39), (3, .row 36), (4, .row 40), (5, .kp 66), (22, .bl)], [], [(36, 52), (40, 54)]⟩ .o (fun _ => (.c .o .o))) (.s (.b (.s .o (.s .o (.s (.s .o (.c (.s .o .o) .o)) (.s .o (.b (.l ⟨[(0, .kp 39), (3, .row 36), (4, .row 40), (5, .kp 66), (8, .it .i64)], [], [(36, 52), (40, 54)]⟩ (fun _ => (.s (.s .o (.c .o .o)) (.s (.b (.s .o (.j ⟨[(0, .kp 39), (3, .row 36), (4, .row 40), (5, .kp 66), (8, .kp 76), (9, .it .i64)], [], [(36, 52), (40, 54)]⟩ (.s .o (.c .o .o)) (fun _ => (.j ⟨[(0, .kp 39), (3, .row 36), (4, .row 40), (5, .kp 66), (8, .kp 76), (9, .it .i64)], [], [(36, 52), (40, 54)]⟩ (.s .o (.c .o .o)) (fun _ => (.j ⟨[(0, .kp 39), (3, .row 36), (4, .row 40), (5, .kp 66), (8, .kp 76), (93, .bl)], [], [(36, 52), (40, 54)]⟩ .o (fun _ => (.c (.s .o .o) .o))))))))) .o)))))))))) .o)))))) (.s .o (.s (.s .o (.c (.s .o .o) .o)) (.s (.s .o (.b (.l ⟨[(10, .kp 80), (11, .kp 81), (12, .it .i64)], [], []⟩ (fun _ => (.s (.s .o (.c .o .o)) (.s (.b (.s .o (.c (.s .o .o) .o))) .o)))))) (.s .o .o)))))))))
def yi2 : Cf KK := ⟨CC, [ygT, yip, yh5, yiP, yeS, ydW, ykH, yiX, yjq, yjI], [], 120, [], none, false⟩
theorem yiR : SpOk Tryd.prog CC yb8 := yan (F := yi2) (ps := [.v 69]) (rs := [4]) (w := yaZ) ybl (yat ykv (yat ymq (yat yky (yat yl9 (yat ygl (yat yfn (yat ypo (yat ynb (yat ylR (yat yos yau)))))))))) yas t9 (A := yi0) (by kernel_rfl) (by kernel_rfl) (fun a0 r0 => show _ = _ by kernel_rfl)
end Go.Proofs.YtkmehmgocelkiaaDoor
end
noncomputable section
namespace Go.Proofs.YtkmehmgocelkiaaDoor
open Go.AV Go.RowKit
abbrev V := yaa
abbrev V6 := yab
def Rg (n : Int) : Prop := -9223372036854775808 <= n /\ n <= 9223372036854775807
def good (v : V) : Prop := (v.Kind = 0 /\ v.N = 0 /\ v.S = []) ∨ (v.Kind = 1 /\ (v.N = 0 ∨ v.N = 1) /\ v.S = []) ∨ (v.Kind = 2 /\ Rg v.N /\ v.S = []) ∨ (v.Kind = 3 /\ v.N = 0 /\ v.S.length <= 64)
def v6 (a : V) : V6 := ⟨a.Kind, a.N, a.S⟩
def D0 : V := ⟨0, 0, []⟩
def bV (b : Bool) : V := ⟨1, if b then 1 else 0, []⟩
def eqV (a b : V) : Bool := (a.Kind == b.Kind) && ((a.N == b.N) && ((a.S == b.S) && true))
theorem ypy {a b : V} : eqV a b = true ↔ a = b := by
 cases a; cases b; simp [eqV]
theorem yzb (v : V) : ybm v (v.Kind == 0) := by
 unfold ybm; grind [cnd]
theorem yvK (b : Bool) : ycE b (bV b) := by
 unfold ycE; cases b <;> simp [cnd, bV]
theorem yuB (n : Int) : ybL n ⟨2, n, []⟩ := by unfold ybL; rfl
theorem yzd (v : V) : ybn v (eqV v (bV true)) := ⟨_, yvK true, rfl⟩
def cI (a b : Int) : Int := if a < b then -1 else if b < a then 1 else 0
def cS (a b : Str) : Int := if Op.bytesLess a b then -1 else if !(Op.bytesLess a b || a == b) then 1 else 0
theorem yyT (a b : Int) : ycw a b (cI a b) := by
 refine ⟨_, rfl, _, rfl, ?_⟩
 grind [cnd, cI]
theorem yyK (a b : Int) : ybX a b (cI a b) := by
 refine ⟨_, rfl, _, rfl, ?_⟩
 grind [cnd, cI]
theorem yyO (a b : Str) : ybS a b (cS a b) := by
 refine ⟨_, rfl, _, rfl, ?_⟩
 grind [cnd, cS]
def sOr (a b c : Int) : Int := if a ≠ 0 then a else if b ≠ 0 then b else c
theorem pOr (a b c : Int) : yc3 [a, b, c] (sOr a b c) := by
 apply yoe
 intro _ X hX
 apply hX
 refine ⟨fun _ => ⟨by omega, by simp, a, rfl, ?_⟩, fun h => by simp at h⟩
 refine ⟨fun h => by grind [sOr], fun h => ?_⟩
 rw [wrap64 (by omega) (by omega)]
 apply hX
 refine ⟨fun _ => ⟨by omega, by simp, b, rfl, ?_⟩, fun h => by simp at h⟩
 refine ⟨fun h => by grind [sOr], fun h => ?_⟩
 rw [wrap64 (by omega) (by omega)]
 apply hX
 refine ⟨fun _ => ⟨by omega, by simp, c, rfl, ?_⟩, fun h => by simp at h⟩
 refine ⟨fun h => by grind [sOr], fun h => ?_⟩
 rw [wrap64 (by omega) (by omega)]
 apply hX
 refine ⟨fun h => by simp at h, fun _ => by grind [sOr]⟩
def sCmp (a b : V) : Int := sOr (cI a.Kind b.Kind) (cI a.N b.N) (cS a.S b.S)
theorem yqn (a b : V) : ydi a b (sCmp a b) :=
 ⟨_, yyT a.Kind b.Kind, _, yyK a.N b.N, _, yyO a.S b.S, _, pOr _ _ _, rfl⟩
def yeD (a b : V6) : Bool := if a.Kind ≠ b.Kind then decide (a.Kind < b.Kind) else if a.Kind = 3 then Op.bytesLess a.S b.S else decide (a.N < b.N)
theorem ysc {a b : Str} {i : Nat} (h1 : i < a.length) (h2 : i < b.length) : Op.bytesLess (a.drop i) (b.drop i) = (decide (a[i] < b[i]) || (a[i] == b[i] && Op.bytesLess (a.drop (i + 1)) (b.drop (i + 1)))) := by
 rw [List.drop_eq_getElem_cons h1, List.drop_eq_getElem_cons h2]
 simp only [Op.bytesLess]
theorem yvg {a b : Str} {i : Nat} (h1 : a.length ≤ i) (h2 : i ≤ b.length) : Op.bytesLess (a.drop i) (b.drop i) = decide (i < b.length) := by
 rw [List.drop_of_length_le h1]
 by_cases h : i < b.length
 ·rw [List.drop_eq_getElem_cons h]; simp [Op.bytesLess, h]
 ·rw [List.drop_of_length_le (by omega)]; simp [Op.bytesLess, h]
theorem yvE {a b : Str} {i : Nat} (h2 : b.length ≤ i) : Op.bytesLess (a.drop i) (b.drop i) = false := by
 rw [List.drop_of_length_le h2]
 cases a.drop i <;> rfl
theorem ykc {s : Str} {i : Nat} (h : i < s.length) : bAt s (i : Int) = (s[i].toNat : Int) := by
 unfold bAt
 rw [Int.toNat_natCast, List.getElem?_eq_getElem h]; rfl
theorem ywM (a b : V6) (h1 : a.S.length ≤ 1000) (h2 : b.S.length ≤ 1000) : ybN a b (yeD a b) := by
 apply ylw
 refine ⟨fun c => ?_, fun c => ⟨fun c3 => ?_, fun c3 => ?_⟩⟩
 ·have c : a.Kind ≠ b.Kind := by simpa using c
  simp [yeD, c]
 ·have c : a.Kind = b.Kind := by simpa using c
  have c3 : a.Kind = 3 := by simpa using c3
  have hs : yeD a b = Op.bytesLess a.S b.S := by simp [yeD, <- c, c3]
  rw [hs]
  refine lp1 (fun (x : Int) => ∃ i : Nat, x = (i : Int) /\ i <= a.S.length /\ i <= b.S.length /\ Op.bytesLess a.S b.S = Op.bytesLess (a.S.drop i) (b.S.drop i)) (fun (x : Int) => a.S.length - x.toNat) ?_ ⟨0, rfl, by omega, by omega, rfl⟩
  rintro X x ⟨i, rfl, hi1, hi2, he⟩ hX
  rw [he]
  simp only [ycN, ybH]
  by_cases l1 : i < a.S.length
  ·by_cases l2 : i < b.S.length
   ·have t1 : ((i : Int) < a.S.length) := by omega
    have t2 : ((i : Int) < b.S.length) := by omega
    simp only [t1, t2, decide_true]
    refine ⟨fun _ => ⟨fun _ => ⟨(by refine ⟨?_, ?_⟩ <;> first | trivial | omega), (by refine ⟨?_, ?_⟩ <;> first | trivial | omega), ?_⟩, fun q => (by cases q)⟩, fun q => (by cases q)⟩
    rw [ykc l1, ykc l2, ysc l1 l2]
    refine ⟨fun d => ⟨(by refine ⟨?_, ?_⟩ <;> first | trivial | omega), (by refine ⟨?_, ?_⟩ <;> first | trivial | omega), ?_⟩, fun d => ?_⟩
    ·have d0 : ¬ (a.S[i].toNat : Int) = b.S[i].toNat := by simpa using d
     have d : ¬ a.S[i].toNat = b.S[i].toNat := by omega
     have d' : ¬ a.S[i] = b.S[i] := fun e => d (by rw [e])
     rw [Bool.eq_iff_iff]
     simp [d', UInt8.lt_iff_toNat_lt]
    ·have d : a.S[i] = b.S[i] := by
      have d0 : (a.S[i].toNat : Int) = b.S[i].toNat := by simpa using d
      have : a.S[i].toNat = b.S[i].toNat := by omega
      exact UInt8.toNat_inj.1 this
     rw [wrap64 (by omega) (by omega)]
     refine hX _ ⟨i + 1, by omega, by omega, by omega, ?_⟩ (by omega)
     rw [he, ysc l1 l2]
     have hlt : ¬ b.S[i] < b.S[i] := Nat.lt_irrefl _
     simp [d, hlt]
   ·have t1 : ((i : Int) < a.S.length) := by omega
    have t2 : ¬ ((i : Int) < b.S.length) := by omega
    simp only [t1, t2, decide_true, decide_false]
    refine ⟨fun _ => ⟨fun q => (by cases q), fun _ => ?_⟩, fun q => (by cases q)⟩
    rw [yvE (by omega)]
    simp; omega
  ·have t1 : ¬ ((i : Int) < a.S.length) := by omega
   simp only [t1, decide_false]
   refine ⟨fun q => (by cases q), fun _ => ⟨fun q => (by cases q), fun _ => ?_⟩⟩
   rw [yvg (by omega) hi2]
   rw [Bool.eq_iff_iff]; simp; omega
 ·have c : a.Kind = b.Kind := by simpa using c
  have c3 : ¬ a.Kind = 3 := by simpa using c3
  simp [yeD, <- c, c3]
theorem cS_0 {a b : Str} : cS a b = 0 ↔ a = b := by
 unfold cS
 have := yfv b
 rcases ymL a b with h | rfl | h
 ·rw [if_pos h]; refine ⟨fun q => (by cases q), ?_⟩; rintro rfl; rw [h] at this; cases this
 ·simp [this]
 ·have hn : ¬ Op.bytesLess a b = true := fun q => by have := yj7 _ _ _ q h; rw [yfv] at this; cases this
  have he : ¬ a = b := fun e => by subst e; rw [h] at this; cases this
  simp [hn, he]
theorem yxF {a b : Str} : cS a b < 0 ↔ Op.bytesLess a b = true := by
 unfold cS; split
 ·rename_i h; simp [h]
 ·rename_i h; split <;> simp [h]
theorem yw7 {a b : Str} : 0 < cS a b ↔ Op.bytesLess b a = true := by
 have hi := yfv b
 unfold cS
 rcases ymL a b with h | rfl | h
 ·have hn : ¬ Op.bytesLess b a = true := fun q => by have := yj7 _ _ _ h q; rw [yfv] at this; cases this
  simp [h, hn]
 ·simp [hi]
 ·have hn : ¬ Op.bytesLess a b = true := fun q => by have := yj7 _ _ _ q h; rw [yfv] at this; cases this
  have he : ¬ a = b := fun e => by subst e; rw [h] at hi; cases hi
  simp [hn, he, h]
theorem yqw {a b : Int} : (cI a b = 0 ↔ a = b) ∧ (cI a b < 0 ↔ a < b) ∧ (0 < cI a b ↔ b < a) := by
 unfold cI
 split
 ·refine ⟨by omega, by omega, by omega⟩
 ·split <;> refine ⟨by omega, by omega, by omega⟩
theorem yuC {a b : V} : sCmp a b = 0 ↔ a = b := by
 unfold sCmp sOr
 have h1 := (yqw (a := a.Kind) (b := b.Kind)).1
 have h2 := (yqw (a := a.N) (b := b.N)).1
 have h3 := cS_0 (a := a.S) (b := b.S)
 cases a; cases b
 simp only [yaa.mk.injEq]
 simp only at h1 h2 h3
 split
 ·rename_i c; exact ⟨fun q => absurd q c, fun q => absurd (h1.2 q.1) c⟩
 ·rename_i c
  have c := Decidable.not_not.1 c
  split
  ·rename_i d; exact ⟨fun q => absurd q d, fun q => absurd (h2.2 q.2.1) d⟩
  ·rename_i d
   have d := Decidable.not_not.1 d
   rw [h3]; exact ⟨fun q => ⟨h1.1 c, h2.1 d, q⟩, fun q => q.2.2⟩
theorem ymH {a b : V} (ha : good a) (hb : good b) : (sCmp a b < 0 ↔ yeD (v6 a) (v6 b) = true) ∧ (0 < sCmp a b ↔ yeD (v6 b) (v6 a) = true) := by
 have h1 := yqw (a := a.Kind) (b := b.Kind)
 have h2 := yqw (a := a.N) (b := b.N)
 have h3 := yxF (a := a.S) (b := b.S)
 have h4 := yw7 (a := a.S) (b := b.S)
 have hs : ∀ {u v : V}, good u → good v → u.Kind = v.Kind → (u.Kind = 3 → u.N = v.N) ∧ (¬ u.Kind = 3 → u.S = v.S) := by
  intro u v hu hv e
  unfold good at hu hv
  refine ⟨fun k => ?_, fun k => ?_⟩
  ·rcases hu with h | h | h | h <;> rcases hv with h' | h' | h' | h' <;> omega
  ·rcases hu with h | h | h | h <;> rcases hv with h' | h' | h' | h' <;> first | (rw [h.2.2, h'.2.2]; done) | omega
 unfold sCmp sOr yeD v6
 simp only
 by_cases hk : a.Kind = b.Kind
 ·have hk0 := h1.1.2 hk
  obtain ⟨e3, e4⟩ := hs ha hb hk
  rw [hk0]
  simp only [ne_eq, not_true_eq_false, if_false, hk]
  by_cases k3 : b.Kind = 3
  ·have hn0 := h2.1.2 (e3 (by omega))
   rw [hn0]
   simp only [not_true_eq_false, if_false, k3, if_true]
   exact ⟨h3, h4⟩
  ·have es := e4 (by omega)
   simp only [k3, if_false]
   have hc : cS a.S b.S = 0 := cS_0.2 es
   rw [hc]
   by_cases hn : cI a.N b.N = 0
   ·have e1 := h2.2.1
    have e2 := h2.2.2
    simp only [hn, not_true_eq_false, if_false, decide_eq_true_eq] at *
    exact ⟨by omega, by omega⟩
   ·simp only [hn, not_false_eq_true, if_true]
    exact ⟨by rw [h2.2.1]; simp, by rw [h2.2.2]; simp⟩
 ·have hn : ¬ cI a.Kind b.Kind = 0 := fun q => hk (h1.1.1 q)
  have hk' : ¬ b.Kind = a.Kind := fun q => hk q.symm
  simp only [ne_eq, hn, not_false_eq_true, if_true, hk, hk']
  exact ⟨by rw [h1.2.1]; simp, by rw [h1.2.2]; simp⟩
theorem yqT {a : V} (h : good a) : Rg a.N := by
 unfold good at h; unfold Rg at *
 rcases h with h | h | h | h <;> omega
theorem ynQ {a : V} (h : good a) : a.S.length ≤ 64 := by
 unfold good at h
 rcases h with h | h | h | h
 ·rw [h.2.2]; simp
 ·rw [h.2.2]; simp
 ·rw [h.2.2]; simp
 ·exact h.2.2
theorem yzn {a b : V} : (((v6 a).Kind == (v6 b).Kind) && (((v6 a).N == (v6 b).N) && (((v6 a).S == (v6 b).S) && true))) = eqV a b := rfl
abbrev LV := yac
def told (x : LV) : V := if x.Kind % 4 = 1 then ⟨1, x.N % 2, []⟩ else if x.Kind % 4 = 2 then ⟨2, x.N, []⟩ else if x.Kind % 4 = 3 then ⟨3, 0, x.S.take 64⟩ else ⟨0, 0, []⟩
def LOk (x : LV) : Prop := 0 <= x.Kind /\ x.Kind <= 255 /\ Rg x.N
theorem ytg {x : LV} (h : LOk x) : good (told x) := by
 obtain ⟨h1, h2, h3⟩ := h
 unfold told good
 have : x.N % 2 = 0 ∨ x.N % 2 = 1 := by omega
 split
 ·exact .inr (.inl ⟨rfl, this, rfl⟩)
 ·split
  ·exact .inr (.inr (.inl ⟨rfl, h3, rfl⟩))
  ·split
   ·exact .inr (.inr (.inr ⟨rfl, rfl, by simp; omega⟩))
   ·exact .inl ⟨rfl, rfl, rfl⟩
def ygi (v : V) : Bool := if v.Kind = 0 then eqV v D0 else if v.Kind = 1 then (v.N == 0 || v.N == 1) && v.S == [] else if v.Kind = 2 then v.S == [] else if v.Kind = 3 then v.N == 0 && decide ((v.S.length : Int) <= 64) else false
theorem yqz (v : V) : yaQ v (ygi v) := by
 unfold yaQ
 have e : ((v.Kind == 0) && ((v.N == 0) && ((v.S == ([] : Str)) && true))) = eqV v D0 := rfl
 rw [e]
 unfold ygi
 generalize eqV v D0 = z
 refine ⟨fun c => ?_, fun c => ⟨fun c1 => ?_, fun c1 => ⟨fun c2 => ?_, fun c2 => ⟨fun c3 => ?_, fun c3 => ?_⟩⟩⟩⟩ <;> simp only [beq_iff_eq, beq_eq_false_iff_ne, ne_eq] at * <;> grind [cnd]
def ybR (v : V) : Str := if !ygi v || v.Kind == 0 then [78, 85, 76, 76] else if eqV v (bV true) then [84, 82, 85, 69] else if v.Kind = 1 then [70, 65, 76, 83, 69] else if v.Kind = 2 then Go.Lib.itoa v.N else [39] ++ Go.Lib.replaceAll v.S [39] [39, 39] ++ [39]
theorem yvV {v : V} (hr : Rg v.N) (hl : (Go.Lib.replaceAll v.S [39] [39, 39]).length ≤ 100000) (hs : v.S.length ≤ 1000) : yaS v (ybR v) := by
 apply yiJ
 simp only [ycW, ya3]
 have g := yqz v
 have n := yzb v
 have t := yzd v
 unfold Rg at hr
 have f : ybb v.N 10 (Go.Lib.itoa v.N) := ⟨rfl, hr.1, hr.2, rfl⟩
 have r : ya2 v.S [39] [39, 39] (Go.Lib.replaceAll v.S [39] [39, 39]) := ⟨by omega, by simp, by simp, rfl⟩
 have tail : ∀ b : Bool, (b = true → (!ygi v || v.Kind == 0) = true) → (b = false → (!ygi v || v.Kind == 0) = false) → cnd b (([78, 85, 76, 76] : Str) = ybR v) (∃ z2 : Bool, (ybn v z2) ∧ cnd z2 (([84, 82, 85, 69] : Str) = ybR v) (cnd (v.Kind == (1 : Int)) (([70, 65, 76, 83, 69] : Str) = ybR v) (cnd (v.Kind == (2 : Int)) (∃ z3 : Str, (ybb v.N (10 : Int) z3) ∧ z3 = ybR v) (∃ z4 : Str, (ya2 v.S ([39] : Str) ([39, 39] : Str) z4) ∧ (([39] : Str).length + z4.length ≤ 9223372036854775807) ∧ ((([39] : Str) ++ z4).length + ([39] : Str).length ≤ 9223372036854775807) ∧ ((([39] : Str) ++ z4) ++ ([39] : Str)) = ybR v)))) := by
  intro b h1 h2
  refine ⟨fun e => ?_, fun e => ⟨_, t, fun c => ?_, fun c => ⟨fun c1 => ?_, fun c1 => ⟨fun c2 => ⟨_, f, ?_⟩, fun c2 => ⟨_, r, ?_, ?_, ?_⟩⟩⟩⟩⟩
  ·unfold ybR; rw [if_pos (h1 e)]
  ·unfold ybR; rw [h2 e, if_neg (by simp), if_pos c]
  ·have c1 : v.Kind = 1 := by simpa using c1
   unfold ybR; rw [h2 e, if_neg (by simp), c, if_neg (by simp), if_pos c1]
  ·have c1 : ¬ v.Kind = 1 := by simpa using c1
   have c2 : v.Kind = 2 := by simpa using c2
   unfold ybR; rw [h2 e, if_neg (by simp), c, if_neg (by simp), if_neg c1, if_pos c2]
  ·simp; omega
  ·simp; omega
  ·have c1 : ¬ v.Kind = 1 := by simpa using c1
   have c2 : ¬ v.Kind = 2 := by simpa using c2
   unfold ybR; rw [h2 e, if_neg (by simp), c, if_neg (by simp), if_neg c1, if_neg c2]
 refine ⟨_, g, fun c => ?_, fun c => ⟨_, n, ?_⟩⟩
 ·exact tail true (fun _ => by rw [c]; rfl) (fun q => (by cases q))
 ·exact tail _ (fun q => by rw [q]; simp) (fun q => by rw [q, c]; rfl)
end Go.Proofs.YtkmehmgocelkiaaDoor
end
noncomputable section
namespace Go.Proofs.YtkmehmgocelkiaaDoor
open Go.AV Go.RowKit
theorem yrr (s : Str) : (s.map ofB).map toB = s := by
 induction s with
 | nil => rfl
 | cons c s ih =>
   simp only [List.map_cons, ih]
   congr 1
   show UInt8.ofNat ((c.toNat : Int).toNat) = c
   rw [Int.toNat_natCast]; exact UInt8.ofNat_toNat
def num : Str → Nat
 | [] => 0
 | c :: s => c.toNat * 256 ^ s.length + num s
theorem yl0 (s : Str) : num s < 256 ^ s.length := by
 induction s with
 | nil => simp [num]
 | cons c s ih =>
   have hc : c.toNat < 256 := c.toNat_lt
   have e : (256 : Nat) ^ (c :: s).length = 256 * 256 ^ s.length := by simp [Nat.pow_succ, Nat.mul_comm]
   rw [e]
   have : c.toNat * 256 ^ s.length <= 255 * 256 ^ s.length := Nat.mul_le_mul_right _ (by omega)
   simp only [num]; omega
theorem yt9 (s : Str) (c : UInt8) : num (s ++ [c]) = num s * 256 + c.toNat := by
 induction s with
 | nil => simp [num]
 | cons d s ih =>
   have : d.toNat * 256 ^ (s.length + 1) = d.toNat * 256 ^ s.length * 256 := by rw [Nat.pow_succ, Nat.mul_assoc]
   simp only [List.cons_append, num, ih, List.length_append, List.length_cons, List.length_nil]
   simp only [Nat.zero_add, this]; omega
theorem yvQ : ∀ {s t : Str}, s.length = t.length → num s = num t → s = t := by
 intro s
 induction s with
 | nil => intro t h _; exact (List.eq_nil_of_length_eq_zero h.symm).symm
 | cons c s ih =>
   intro t h e
   cases t with
   | nil => simp at h
   | cons d t =>
     have hl : s.length = t.length := by simpa using h
     have h1 := yl0 s
     have h2 := yl0 t
     simp only [num] at e
     rw [<- hl] at e h2
     have hB : 0 < 256 ^ s.length := Nat.pow_pos (by omega)
     have hcd : c.toNat = d.toNat := by
      have e1 : (c.toNat * 256 ^ s.length + num s) / 256 ^ s.length = c.toNat := by
       rw [Nat.add_comm, Nat.add_mul_div_right _ _ hB, Nat.div_eq_of_lt h1]; omega
      have e2 : (d.toNat * 256 ^ s.length + num t) / 256 ^ s.length = d.toNat := by
       rw [Nat.add_comm, Nat.add_mul_div_right _ _ hB, Nat.div_eq_of_lt h2]; omega
      rw [<- e1, <- e2, e]
     have hcd' : c = d := UInt8.toNat_inj.1 hcd
     subst hcd'
     rw [ih hl (by omega)]
def be : Nat → Nat → Str
 | 0, _ => []
 | i + 1, u => UInt8.ofNat (u / 256 ^ i) :: be i u
theorem yhz (k u : Nat) : (be k u).length = k := by
 induction k with
 | zero => rfl
 | succ k ih => simp [be, ih]
theorem yti (k u : Nat) : num (be k u) = u % 256 ^ k := by
 induction k with
 | zero => simp [be, num, Nat.mod_one]
 | succ k ih =>
   simp only [be, num, yhz, ih]
   rw [Nat.mod_pow_succ, UInt8.toNat_ofNat', Nat.mul_comm]
   show 256 ^ k * (u / 256 ^ k % 2 ^ 8) + _ = _
   rw [Nat.add_comm]
theorem yyo (s : Str) : be s.length (num s) = s := by
 refine yvQ (yhz _ _) ?_
 rw [yti, Nat.mod_eq_of_lt (yl0 s)]
def tl (a : Nat) : Nat → List Int
 | 0 => []
 | i + 1 => ofB (UInt8.ofNat (a / 256 ^ i)) :: tl a i
theorem yvF (a k : Nat) : tl a k = (be k a).map ofB := by
 induction k with
 | zero => rfl
 | succ k ih => simp [tl, be, ih]
theorem yuJ (a k : Nat) : (tl a k).length = k := by rw [yvF]; simp [yhz]
theorem pow8 (i : Nat) : (2 : Nat) ^ (8 * i) = 256 ^ i := by
 rw [Nat.pow_mul]
theorem yvJ (n : Nat) : ofB (UInt8.ofNat n) = ((n % 256 : Nat) : Int) := by
 show (((UInt8.ofNat n).toNat : Nat) : Int) = _
 rw [UInt8.toNat_ofNat']
theorem ywZ {a k : Nat} (hk : k ≤ 8) : ycg (a : Int) (k : Int) (tl a k) := by
 apply yo2
 refine ⟨by omega, by omega, by omega, ?_⟩
 refine lp2 (fun (x : Int) (y : List Int) => ∃ i : Nat, x = i /\ i <= k /\ y = List.replicate (k - i) (0 : Int) ++ tl a i) (fun (x : Int) (_ : List Int) => k - x.toNat) ?_ ⟨0, rfl, by omega, by simp [tl]⟩
 rintro X x y ⟨i, rfl, hi, rfl⟩ hX
 simp only [yeA]
 have ek : (k : Int).toNat = k := Int.toNat_natCast k
 refine ⟨fun c => ?_, fun c => ?_⟩
 ·have c : (i : Int) < ((List.replicate (k : Int).toNat (0 : Int)).length : Int) := by simpa using c
  rw [ek, List.length_replicate] at c
  have w1 : IntKind.i64.wrap (8 * (i : Int)) = 8 * (i : Int) := wrap64 (by omega) (by omega)
  have w2 : IntKind.i64.wrap ((k : Int) - 1) = (k : Int) - 1 := wrap64 (by omega) (by omega)
  have w3 : IntKind.i64.wrap ((k : Int) - 1 - (i : Int)) = ((k - 1 - i : Nat) : Int) := by rw [wrap64 (by omega) (by omega)]; omega
  have w4 : IntKind.i64.wrap ((i : Int) + 1) = ((i + 1 : Nat) : Int) := by rw [wrap64 (by omega) (by omega)]; omega
  rw [w1, w2, w3, w4, Int.toNat_natCast]
  have hm : k - i = (k - 1 - i) + 1 := by omega
  have er : List.replicate (k - i) (0 : Int) ++ tl a i = List.replicate (k - 1 - i) 0 ++ (0 :: tl a i) := by
   rw [hm, List.replicate_succ', List.append_assoc]; rfl
  have hmin : min (8 * (i : Int)).toNat IntKind.u64.bits = 8 * i := by
   show min _ 64 = _
   omega
  have hsh : IntKind.u8.wrap ((a : Int).fdiv (2 ^ (min (8 * (i : Int)).toNat IntKind.u64.bits))) = ofB (UInt8.ofNat (a / 256 ^ i)) := by
   rw [hmin, yvJ, ytr]
   have : (2 : Int) ^ (8 * i) = ((256 ^ i : Nat) : Int) := by rw [<- pow8]; norm_cast
   rw [this, Int.fdiv_eq_ediv_of_nonneg _ (Int.natCast_nonneg _), <- Int.natCast_ediv]
   generalize a / 256 ^ i = q
   omega
  rw [hsh, er]
  refine ⟨by omega, by omega, by simp; omega, 0, ?_, ?_⟩
  ·rw [List.getElem?_append_right (by simp)]; simp
  ·refine hX _ _ ⟨i + 1, rfl, by omega, ?_⟩ (by omega)
   have e2 : k - (i + 1) = k - 1 - i := by omega
   rw [List.set_append_right _ _ (by simp), e2]; simp [tl]
 ·have c : ¬ (i : Int) < ((List.replicate (k : Int).toNat (0 : Int)).length : Int) := by simpa using c
  rw [ek, List.length_replicate] at c
  have : k - i = 0 := by omega
  have e : i = k := by omega
  rw [this, e]; rfl
end Go.Proofs.YtkmehmgocelkiaaDoor
end
noncomputable section
namespace Go.Proofs.YtkmehmgocelkiaaDoor
open Go.AV Go.RowKit
theorem ysi {u : Nat} (h : u < 2 ^ 64) : u ^^^ 2 ^ 63 = (u + 2 ^ 63) % 2 ^ 64 := by
 have h1 : (u ^^^ 2 ^ 63) % 2 ^ 63 = u % 2 ^ 63 := by
  rw [Nat.xor_mod_two_pow]; simp
 have h2 : (u ^^^ 2 ^ 63) / 2 ^ 63 = (u / 2 ^ 63) ^^^ 1 := by
  rw [Nat.xor_div_two_pow]
 have h3 : u / 2 ^ 63 = 0 ∨ u / 2 ^ 63 = 1 := by omega
 have h4 := Nat.div_add_mod (u ^^^ 2 ^ 63) (2 ^ 63)
 rw [h1, h2] at h4
 rcases h3 with h3 | h3
 ·rw [h3] at h4
  have : (0 ^^^ 1 : Nat) = 1 := rfl
  rw [this] at h4; omega
 ·rw [h3] at h4
  have : (1 ^^^ 1 : Nat) = 0 := rfl
  rw [this] at h4; omega
theorem yxT (n : Int) : bits .xor .u64 n 9223372036854775808 = ((((n % 18446744073709551616).toNat + 9223372036854775808) % 18446744073709551616 : Nat) : Int) := by
 have key : (BitVec.ofInt 64 n ^^^ BitVec.ofInt 64 9223372036854775808).toNat = ((n % 18446744073709551616).toNat + 9223372036854775808) % 18446744073709551616 := by
  rw [BitVec.toNat_xor, BitVec.toNat_ofInt, BitVec.toNat_ofInt]
  have e : (9223372036854775808 % ((2 ^ 64 : Nat) : Int)).toNat = 2 ^ 63 := by decide
  rw [e]
  have : (n % ((2 ^ 64 : Nat) : Int)).toNat < 2 ^ 64 := by omega
  rw [ysi this]; rfl
 show IntKind.u64.wrap ((BitVec.ofInt 64 n ^^^ BitVec.ofInt 64 9223372036854775808).toNat : Nat) = _
 rw [key]; exact yh1 (by omega) (by omega)
theorem or8 {x c : Nat} (hx : x < 72057594037927936) (hc : c < 256) : bits .or .u64 (IntKind.u64.wrap ((x : Int) * 2 ^ (min (8 : Int).toNat IntKind.u64.bits))) (IntKind.u64.wrap (c : Int)) = ((x * 256 + c : Nat) : Int) := by
 have e1 : IntKind.u64.wrap ((x : Int) * 2 ^ (min (8 : Int).toNat IntKind.u64.bits)) = ((2 ^ 8 * x : Nat) : Int) := by
  have : (2 : Int) ^ (min (8 : Int).toNat IntKind.u64.bits) = 256 := by decide
  rw [this, yh1 (by omega) (by omega)]; omega
 have e2 : IntKind.u64.wrap (c : Int) = (c : Int) := yh1 (by omega) (by omega)
 rw [e1, e2]
 have key : (BitVec.ofInt 64 ((2 ^ 8 * x : Nat) : Int) ||| BitVec.ofInt 64 (c : Int)).toNat = x * 256 + c := by
  rw [BitVec.toNat_or, BitVec.toNat_ofInt, BitVec.toNat_ofInt]
  have a1 : (((2 ^ 8 * x : Nat) : Int) % ((2 ^ 64 : Nat) : Int)).toNat = 2 ^ 8 * x := by omega
  have a2 : ((c : Int) % ((2 ^ 64 : Nat) : Int)).toNat = c := by omega
  rw [a1, a2, <- Nat.two_pow_add_eq_or_of_lt (by omega : c < 2 ^ 8)]; omega
 show IntKind.u64.wrap ((BitVec.ofInt 64 ((2 ^ 8 * x : Nat) : Int) ||| BitVec.ofInt 64 (c : Int)).toNat : Nat) = _
 rw [key]; exact yh1 (by omega) (by omega)
def sInt (n : Int) : Str := be 8 (n + 9223372036854775808).toNat
theorem yiC (n : Int) : (sInt n).length = 8 := yhz _ _
theorem pInt {n : Int} (h : Rg n) : yg3 n (sInt n) := by
 unfold Rg at h
 refine ⟨(sInt n).map ofB, ?_, yrr _⟩
 ·rw [yxT]
  have e : ((((IntKind.u64.wrap n) % 18446744073709551616).toNat + 9223372036854775808) % 18446744073709551616 : Nat) = (n + 9223372036854775808).toNat := by
   rw [yjk]; omega
  rw [e]
  have := ywZ (a := (n + 9223372036854775808).toNat) (k := 8) (by omega)
  rw [yvF] at this; exact this
theorem ysX {s : Str} (h : s.length ≤ 8) : yb0 s (num s) := by
 apply yni
 refine lp2 (fun (x y : Int) => ∃ i : Nat, y = i /\ i <= s.length /\ x = (num (s.take i) : Int)) (fun (_ y : Int) => s.length - y.toNat) ?_ ⟨0, rfl, by omega, by simp [num]⟩
 rintro X x y ⟨i, rfl, hi, rfl⟩ hX
 simp only [ydb]
 refine ⟨fun c => ?_, fun c => ?_⟩
 ·have c : (i : Int) < s.length := by simpa using c
  have hlt : i < s.length := by omega
  refine ⟨⟨by omega, c⟩, ?_⟩
  have w4 : IntKind.i64.wrap ((i : Int) + 1) = ((i + 1 : Nat) : Int) := by rw [wrap64 (by omega) (by omega)]; omega
  have hn := yl0 (s.take i)
  have hle : (s.take i).length <= 7 := by rw [List.length_take]; omega
  have hp : 256 ^ (s.take i).length <= 256 ^ 7 := Nat.pow_le_pow_right (by omega) hle
  rw [ykc hlt, or8 (by omega) (s[i].toNat_lt), w4]
  refine hX _ _ ⟨i + 1, rfl, by omega, ?_⟩ (by omega)
  rw [List.take_succ_eq_append_getElem hlt, yt9]
 ·have c : ¬ (i : Int) < s.length := by simpa using c
  rw [List.take_of_length_le (by omega)]
theorem ysQ {s : Str} (h : s.length = 8) : IntKind.i64.wrap (bits .xor .u64 (num s : Int) 9223372036854775808) = (num s : Int) - 9223372036854775808 := by
 have hn := yl0 s
 rw [h] at hn
 rw [yxT, yoo]
 split <;> omega
theorem yvk (s : Str) : ydg s (if s.length = 8 then (num s : Int) - 9223372036854775808 else 0) (decide (s.length = 8)) := by
 refine ⟨fun c => ?_, fun c => ?_⟩
 ·have c : ¬ s.length = 8 := by
   have : ¬ (s.length : Int) = 8 := by simpa using c
   omega
  rw [if_neg c, decide_eq_false c]; exact ⟨rfl, rfl⟩
 ·have c : s.length = 8 := by
   have : (s.length : Int) = 8 := by simpa using c
   omega
  rw [if_pos c, decide_eq_true c]
  exact ⟨_, ysX (by omega), ysQ c, rfl⟩
def ynx (s : Str) : Str × Str × Bool := if s.length < 4 then ([], s, false) else if s.length - 4 < num (s.take 4) then ([], s, false) else ((s.drop 4).take (num (s.take 4)), s.drop (4 + num (s.take 4)), true)
theorem yxm {s : Str} (h : s.length ≤ 1000000000) : yer s (ynx s).1 (ynx s).2.1 (ynx s).2.2 := by
 unfold ynx
 refine ⟨fun c => ?_, fun c => ?_⟩
 ·have c : (s.length : Int) < 4 := of_decide_eq_true c
  rw [if_pos (by omega)]; exact ⟨rfl, rfl, rfl⟩
 ·have c : ¬ (s.length : Int) < 4 := of_decide_eq_false c
  rw [if_neg (by omega)]
  have e0 : (s.drop (0 : Int).toNat).take ((4 : Int).toNat - (0 : Int).toNat) = s.take 4 := by simp
  have hl : (s.take 4).length = 4 := by rw [List.length_take]; omega
  have hn := yl0 (s.take 4)
  rw [hl] at hn
  rw [e0]
  refine ⟨⟨by omega, by omega, by omega⟩, _, ysX (by omega), ?_⟩
  generalize num (s.take 4) = n at *
  have w1 : IntKind.u64.wrap (IntKind.i64.wrap ((s.length : Int) - 4)) = (s.length : Int) - 4 := by rw [wrap64 (by omega) (by omega), yh1 (by omega) (by omega)]
  have w2 : IntKind.i64.wrap (4 + IntKind.i64.wrap (n : Int)) = ((4 + n : Nat) : Int) := by rw [wrap64 (n := (n : Int)) (by omega) (by omega), wrap64 (by omega) (by omega)]; omega
  rw [w1, w2]
  refine ⟨fun d => ?_, fun d => ?_⟩
  ·have d : (s.length : Int) - 4 < n := of_decide_eq_true d
   rw [if_pos (by omega)]; exact ⟨rfl, rfl, rfl⟩
  ·have d : ¬ (s.length : Int) - 4 < n := of_decide_eq_false d
   rw [if_neg (by omega)]
   refine ⟨⟨by omega, by omega, by omega⟩, ⟨by omega, by omega, by omega⟩, ?_, ?_, rfl⟩
   ·rw [Int.toNat_natCast]
    have : 4 + n - (4 : Int).toNat = n := by omega
    rw [this]; rfl
   ·rw [Int.toNat_natCast, Int.toNat_natCast, List.take_of_length_le (by rw [List.length_drop]; omega)]
def spl : Nat → Str → Option (List Str)
 | 0, s => if s = [] then some [] else none
 | n + 1, s => if s = [] then some [] else if s.length < 4 then none else if s.length - 4 < num (s.take 4) then none else
    (spl n (s.drop (4 + num (s.take 4)))).map ((s.drop 4).take (num (s.take 4)) :: ·)
def yft (s : Str) : Option (List Str) := spl s.length s
theorem yyz {s : Str} (h : s.length ≤ 100000000) : ycb s ((yft s).getD []) (if (yft s).isSome then 0 else 2) := by
 apply yok
 intro X hX
 have key : ∀ n, ∀ (x : Str) (y : List Str), x.length ≤ n → x.length ≤ 100000000 → y.length + x.length ≤ 100000000 →
   ((spl n x).map (y ++ ·) = yft s) -> X x y := by
  intro n
  induction n with
  | zero =>
    intro x y hx _ _ he
    have : x = [] := List.eq_nil_of_length_eq_zero (by omega)
    subst this
    apply hX
    refine ⟨fun c => (by simp at c), fun _ => ?_⟩
    rw [<- he]; simp [spl]
  | succ n ih =>
    intro x y hx hb hyx he
    apply hX
    simp only [spl] at he
    refine ⟨fun c => ?_, fun c => ?_⟩
    ·have c : ¬ x = [] := by simpa using c
     rw [if_neg c] at he
     refine ⟨_, _, _, yxm (by omega), ?_⟩
     unfold ynx
     by_cases h4 : x.length < 4
     ·rw [if_pos h4] at he ⊢
      refine ⟨fun _ => ?_, fun q => (by cases q)⟩
      rw [<- he]; exact ⟨rfl, rfl⟩
     ·rw [if_neg h4] at he ⊢
      by_cases hn : x.length - 4 < num (x.take 4)
      ·rw [if_pos hn] at he ⊢
       refine ⟨fun _ => ?_, fun q => (by cases q)⟩
       rw [<- he]; exact ⟨rfl, rfl⟩
      ·rw [if_neg hn] at he ⊢
       refine ⟨fun q => (by cases q), fun _ => ⟨by omega, ?_⟩⟩
       have hd : (x.drop (4 + num (x.take 4))).length = x.length - (4 + num (x.take 4)) := List.length_drop
       refine ih _ _ (by show (x.drop _).length <= n; rw [hd]; omega) (by show (x.drop _).length <= _; rw [hd]; omega) (by show _ + (x.drop _).length <= _; rw [hd]; simp; omega) ?_
       rw [<- he]
       show ((spl n (x.drop _)).map _) = _
       cases spl n (x.drop (4 + num (x.take 4))) with
       | none => rfl
       | some l => simp
    ·have c : x = [] := by simpa using c
     rw [if_pos c] at he
     rw [<- he]; simp
 refine key s.length s [] (Nat.le_refl _) (by omega) (by simp; omega) ?_
 show (yft s).map _ = _
 cases yft s <;> simp
end Go.Proofs.YtkmehmgocelkiaaDoor
end
noncomputable section
namespace Go.Proofs.YtkmehmgocelkiaaDoor
open Go.AV Go.RowKit
def yeh (l : List Str) : Str := l.flatMap fun s => be 4 s.length ++ s
theorem yoa (a b : List Str) : yeh (a ++ b) = yeh a ++ yeh b := by simp [yeh]
theorem yk4 {l : List Str} {m : Nat} (h : ∀ s ∈ l, s.length ≤ m) : (yeh l).length ≤ l.length * (m + 4) := by
 induction l with
 | nil => simp [yeh]
 | cons s l ih =>
   have e : yeh (s :: l) = (be 4 s.length ++ s) ++ yeh l := rfl
   have h1 := h s (List.mem_cons_self ..)
   have h2 := ih fun t ht => h t (List.mem_cons_of_mem _ ht)
   rw [e, List.length_append, List.length_append, yhz, List.length_cons, Nat.succ_mul]; omega
theorem yzh {l : List Str} (hl : l.length ≤ 1000) (h : ∀ s ∈ l, s.length ≤ 10000) : yc2 l (yeh l) := by
 apply ypF
 intro _
 refine lp2 (fun (x : Int) (y : List Int) => ∃ i : Nat, x = i /\ i <= l.length /\ y = (yeh (l.take i)).map ofB) (fun (x : Int) (_ : List Int) => l.length - x.toNat) ?_ ⟨0, rfl, by omega, by simp [yeh]⟩
 rintro X x y ⟨i, rfl, hi, rfl⟩ hX
 have hb := yk4 (l := l.take i) (m := 10000) fun s hs => h s (List.mem_of_mem_take hs)
 rw [List.length_take] at hb
 have hb2 : (yeh (l.take i)).length ≤ 100000000 := by
  have : min i l.length * (10000 + 4) <= 1000 * (10000 + 4) := Nat.mul_le_mul_right _ (by omega)
  omega
 simp only [yez]
 refine ⟨fun c => ?_, fun c => ?_⟩
 ·have c : (i : Int) < l.length := by simpa using c
  have hlt : i < l.length := by omega
  have hs := h l[i] (List.getElem_mem hlt)
  have w4 : IntKind.i64.wrap ((i : Int) + 1) = ((i + 1 : Nat) : Int) := by rw [wrap64 (by omega) (by omega)]; omega
  have w5 : IntKind.u64.wrap ((l[i].length : Nat) : Int) = ((l[i].length : Nat) : Int) := yh1 (by omega) (by omega)
  refine ⟨by omega, c, l[i], by rw [Int.toNat_natCast]; exact List.getElem?_eq_getElem hlt, tl l[i].length 4, ?_, ?_, ?_, ?_, ?_, ?_⟩
  ·rw [w5]; exact ywZ (k := 4) (by decide)
  ·rw [List.length_map]; omega
  ·rw [yuJ]; omega
  ·rw [List.length_append, List.length_map, yuJ]; omega
  ·omega
  ·rw [w4]
   refine hX _ _ ⟨i + 1, rfl, by omega, ?_⟩ (by omega)
   rw [List.take_succ_eq_append_getElem hlt, yoa, List.map_append, yvF, List.append_assoc]
   simp [yeh]
 ·have c : ¬ (i : Int) < l.length := by simpa using c
  rw [List.take_of_length_le (by omega), yrr]
theorem yui : ∀ {n : Nat} {s : Str} {m : Nat}, s.length ≤ n → n ≤ m → spl m s = spl n s := by
 intro n
 induction n with
 | zero =>
   intro s m hs _
   have : s = [] := List.eq_nil_of_length_eq_zero (by omega)
   subst this
   cases m <;> simp [spl]
 | succ n ih =>
   intro s m hs hm
   cases m with
   | zero => omega
   | succ m =>
     simp only [spl]
     split
     ·rfl
     ·split
      ·rfl
      ·split
       ·rfl
       ·rename_i h1 h2 h3
        rw [ih (s := s.drop (4 + num (s.take 4))) (m := m) (by rw [List.length_drop]; omega) (by omega)]
theorem yoF {t u : Str} (h : t.length < 4294967296) : yft ((be 4 t.length ++ t) ++ u) = (yft u).map (t :: ·) := by
 have hb : (be 4 t.length).length = 4 := yhz _ _
 have e1 : ((be 4 t.length ++ t) ++ u).take 4 = be 4 t.length := by rw [List.append_assoc, List.take_append_of_le_length (by omega), List.take_of_length_le (by omega)]
 have e2 : num (be 4 t.length) = t.length := by rw [yti]; exact Nat.mod_eq_of_lt h
 have e3 : ((be 4 t.length ++ t) ++ u).drop 4 = t ++ u := by rw [List.append_assoc, List.drop_append_of_le_length (by omega), List.drop_of_length_le (by omega)]; rfl
 have e4 : ((be 4 t.length ++ t) ++ u).drop (4 + t.length) = u := by rw [<- List.drop_drop, e3]; simp
 have hl : ((be 4 t.length ++ t) ++ u).length = (t.length + u.length + 3) + 1 := by rw [List.length_append, List.length_append, hb]; omega
 have hne : ¬ (be 4 t.length ++ t) ++ u = [] := fun q => by rw [q] at hl; simp at hl
 have es : yft ((be 4 t.length ++ t) ++ u) = spl ((t.length + u.length + 3) + 1) ((be 4 t.length ++ t) ++ u) := by rw [<- hl]; rfl
 rw [es, spl.eq_2, if_neg hne, if_neg (by rw [hl]; omega), e1, e2, if_neg (by rw [hl]; omega), e4, e3, yui (n := u.length) (Nat.le_refl _) (by omega)]
 simp [yft]
theorem yo7 {l : List Str} (h : ∀ s ∈ l, s.length < 4294967296) : yft (yeh l) = some l := by
 induction l with
 | nil => rfl
 | cons s l ih =>
   have e : yeh (s :: l) = (be 4 s.length ++ s) ++ yeh l := rfl
   rw [e, yoF (h s (List.mem_cons_self ..)), ih fun t ht => h t (List.mem_cons_of_mem _ ht)]; rfl
theorem yp0 : ∀ {n : Nat} {s : Str} {l : List Str}, spl n s = some l → yeh l = s ∧ ∀ t ∈ l, t.length ≤ s.length := by
 intro n
 induction n with
 | zero =>
   intro s l h
   simp only [spl] at h
   split at h
   ·rename_i e; cases h; subst e; exact ⟨rfl, fun t ht => by cases ht⟩
   ·cases h
 | succ n ih =>
   intro s l h
   simp only [spl] at h
   split at h
   ·rename_i e; cases h; subst e; exact ⟨rfl, fun t ht => by cases ht⟩
   ·split at h
    ·cases h
    ·split at h
     ·cases h
     ·rename_i h1 h2 h3
      rw [Option.map_eq_some_iff] at h
      obtain ⟨l', hl', rfl⟩ := h
      obtain ⟨i1, i2⟩ := ih hl'
      have hk : (s.take 4).length = 4 := by rw [List.length_take]; omega
      have ht : ((s.drop 4).take (num (s.take 4))).length = num (s.take 4) := by rw [List.length_take, List.length_drop]; omega
      refine ⟨?_, ?_⟩
      ·show (be 4 ((s.drop 4).take (num (s.take 4))).length ++ (s.drop 4).take (num (s.take 4))) ++ yeh l' = s
       rw [ht, i1]
       have := yyo (s.take 4)
       rw [hk] at this
       rw [this, <- List.drop_drop, List.append_assoc, List.take_append_drop, List.take_append_drop]
      ·intro t ht'
       rcases List.mem_cons.1 ht' with rfl | hm
       ·rw [ht]; omega
       ·have := i2 t hm
        rw [List.length_drop] at this; omega
theorem yq3 {s : Str} {l : List Str} (h : yft s = some l) : l.length ≤ s.length := by
 have h1 := (yp0 h).1
 rw [<- h1]
 clear h h1
 induction l with
 | nil => simp
 | cons t l ih =>
   have e : yeh (t :: l) = (be 4 t.length ++ t) ++ yeh l := rfl
   rw [e, List.length_append, List.length_append, yhz, List.length_cons]; omega
end Go.Proofs.YtkmehmgocelkiaaDoor
end
noncomputable section
namespace Go.Proofs.YtkmehmgocelkiaaDoor
open Go.AV Go.RowKit
def b1 (n : Int) : Str := [UInt8.ofNat n.toNat]
theorem ypu {n : Int} (h : 0 ≤ n) (k : n < 256) : ([IntKind.u8.wrap n] : List Int).map toB = b1 n := by
 rw [yrZ h k]; rfl
def yfi (v : V) : Str := if v.Kind = 1 then b1 1 ++ b1 v.N else if v.Kind = 2 then b1 2 ++ sInt v.N else if v.Kind = 3 then b1 3 ++ v.S else b1 v.Kind
theorem ynq {v : V} (h : good v) : 0 ≤ v.Kind ∧ v.Kind ≤ 3 := by
 unfold good at h; rcases h with h | h | h | h <;> omega
theorem pTxt {v : V} (h : good v) : yeG v (yfi v) := by
 have hk := ynq h
 have hN := yqT h
 have hS := ynQ h
 rw [yeG]
 refine ⟨fun c => ?_, fun c => ⟨fun c2 => ?_, fun c2 => ⟨fun c3 => ?_, fun c3 => ?_⟩⟩⟩
 ·have c : v.Kind = 1 := by simpa using c
  have hn : v.N = 0 ∨ v.N = 1 := by unfold good at h; rcases h with h | h | h | h <;> omega
  refine ⟨by simp, ?_⟩
  rw [ypu (by omega) (by omega), ypu (by omega) (by omega), yfi, if_pos c, c]
 ·have c : ¬ v.Kind = 1 := by simpa using c
  have c2 : v.Kind = 2 := by simpa using c2
  refine ⟨_, pInt hN, by rw [yiC]; simp, ?_⟩
  rw [ypu (by omega) (by omega), yfi, if_neg c, if_pos c2, c2]
 ·have c : ¬ v.Kind = 1 := by simpa using c
  have c2 : ¬ v.Kind = 2 := by simpa using c2
  have c3 : v.Kind = 3 := by simpa using c3
  refine ⟨by simp; omega, ?_⟩
  rw [ypu (by omega) (by omega), yfi, if_neg c, if_neg c2, if_pos c3, c3]
 ·have c : ¬ v.Kind = 1 := by simpa using c
  have c2 : ¬ v.Kind = 2 := by simpa using c2
  have c3 : ¬ v.Kind = 3 := by simpa using c3
  rw [ypu (by omega) (by omega), yfi, if_neg c, if_neg c2, if_neg c3]
theorem yob {v : V} (h : good v) : (yfi v).length ≤ 65 := by
 have hS := ynQ h
 unfold yfi
 split
 ·simp [b1]
 ·split
  ·rw [List.length_append, yiC]; simp [b1]
  ·split
   ·rw [List.length_append]; simp [b1]; omega
   ·simp [b1]
def sRd1 (c : UInt8) (r : Str) : V × Bool := if c.toNat = 0 then (⟨0, 0, []⟩, r == []) else if c.toNat = 1 then (if r.length = 1 then (⟨1, bAt r 0, []⟩, ygi ⟨1, bAt r 0, []⟩) else (⟨1, 0, []⟩, false)) else
   if c.toNat = 2 then (if r.length = 8 then (⟨2, (num r : Int) - 9223372036854775808, []⟩, true) else (⟨2, 0, []⟩, false)) else (⟨c.toNat, 0, r⟩, ygi ⟨c.toNat, 0, r⟩)
def yhZ : Str → V × Bool
 | [] => (D0, false)
 | c :: r => sRd1 c r
theorem ypv (c : UInt8) (r : Str) : yhZ (c :: r) = sRd1 c r := rfl
theorem yyH {s : Str} (h : s.length ≤ 1000000000) : ydS s (yhZ s).1 (yhZ s).2 := by
 apply yqU
 cases s with
 | nil => exact ⟨fun _ => ⟨rfl, rfl⟩, fun q => (by simp at q)⟩
 | cons c r =>
   refine ⟨fun q => (by simp at q), fun _ => ⟨⟨by omega, by rw [List.length_cons]; omega, by omega⟩, ⟨by omega, by rw [List.length_cons]; omega⟩, ?_⟩⟩
   have e0 : bAt (c :: r) 0 = (c.toNat : Int) := rfl
   have hc : c.toNat < 256 := c.toNat_lt
   have w : IntKind.i64.wrap (c.toNat : Int) = (c.toNat : Int) := wrap64 (by omega) (by omega)
   have er : (((c :: r).drop (1 : Int).toNat).take (((c :: r).length : Int).toNat - (1 : Int).toNat)) = r := by
    rw [Int.toNat_natCast]
    show r.take ((c :: r).length - 1) = r
    exact List.take_of_length_le (by simp)
   rw [er]
   simp only [ycm, e0, w]
   rw [ypv]
   unfold sRd1
   refine ⟨fun k => ?_, fun k => ⟨fun k1 => ⟨fun l => ?_, fun l => ⟨?_, ?_⟩⟩, fun k1 => ⟨fun k2 => ⟨_, _, yvk r, fun l => ?_, fun l => ?_⟩, fun k2 => ?_⟩⟩⟩
   ·have k : c.toNat = 0 := by simpa using k
    rw [if_pos k, k]; exact ⟨rfl, rfl⟩
   ·have k : ¬ c.toNat = 0 := by simpa using k
    have k1 : c.toNat = 1 := by have : (c.toNat : Int) = 1 := by simpa using k1
                                omega
    have l : ¬ r.length = 1 := by have : ¬ (r.length : Int) = 1 := by simpa using l
                                  omega
    rw [if_neg k, if_pos k1, if_neg l, k1]; exact ⟨rfl, rfl⟩
   ·have l : r.length = 1 := by have : (r.length : Int) = 1 := by simpa using l
                                omega
    omega
   ·have k : ¬ c.toNat = 0 := by simpa using k
    have k1 : c.toNat = 1 := by have : (c.toNat : Int) = 1 := by simpa using k1
                                omega
    have l : r.length = 1 := by have : (r.length : Int) = 1 := by simpa using l
                                omega
    have hb : IntKind.i64.wrap (bAt r 0) = bAt r 0 := by
     have := ykc (s := r) (i := 0) (by omega)
     have h2 : r[0].toNat < 256 := r[0].toNat_lt
     show IntKind.i64.wrap (bAt r ((0 : Nat) : Int)) = bAt r ((0 : Nat) : Int)
     rw [this]; exact wrap64 (by omega) (by omega)
    rw [if_neg k, if_pos k1, if_pos l, k1, hb]
    exact ⟨_, yqz _, rfl, rfl⟩
   ·have k : ¬ c.toNat = 0 := by simpa using k
    have k1 : ¬ c.toNat = 1 := by have : ¬ (c.toNat : Int) = 1 := by simpa using k1
                                  omega
    have k2 : c.toNat = 2 := by have : (c.toNat : Int) = 2 := by simpa using k2
                                omega
    have l : ¬ r.length = 8 := by simpa using l
    rw [if_neg k, if_neg k1, if_pos k2, if_neg l, k2]; exact ⟨rfl, rfl⟩
   ·have k : ¬ c.toNat = 0 := by simpa using k
    have k1 : ¬ c.toNat = 1 := by have : ¬ (c.toNat : Int) = 1 := by simpa using k1
                                  omega
    have k2 : c.toNat = 2 := by have : (c.toNat : Int) = 2 := by simpa using k2
                                omega
    have l : r.length = 8 := by simpa using l
    rw [if_neg k, if_neg k1, if_pos k2, if_pos l, if_pos l, k2]
    refine ⟨_, yqz _, rfl, ?_⟩
    simp [ygi]
   ·have k : ¬ c.toNat = 0 := by simpa using k
    have k1 : ¬ c.toNat = 1 := by have : ¬ (c.toNat : Int) = 1 := by simpa using k1
                                  omega
    have k2 : ¬ c.toNat = 2 := by have : ¬ (c.toNat : Int) = 2 := by simpa using k2
                                  omega
    rw [if_neg k, if_neg k1, if_neg k2]
    exact ⟨_, yqz _, rfl, rfl⟩
theorem yon {v : V} (h : good v) : yhZ (yfi v) = (v, true) := by
 have hN := yqT h
 unfold good at h
 obtain ⟨k, n, s⟩ := v
 simp only at h hN
 rcases h with ⟨rfl, rfl, rfl⟩ | ⟨rfl, h, rfl⟩ | ⟨rfl, h, rfl⟩ | ⟨rfl, rfl, h⟩
 ·rfl
 ·rcases h with rfl | rfl <;> rfl
 ·show yhZ (UInt8.ofNat 2 :: sInt n) = _
  rw [ypv]
  unfold sRd1
  have k : (UInt8.ofNat 2).toNat = 2 := rfl
  rw [k, if_neg (by omega), if_neg (by omega), if_pos rfl, if_pos (yiC n)]
  unfold sInt
  unfold Rg at h
  rw [yti, Nat.mod_eq_of_lt (by omega)]
  congr 2; omega
 ·show yhZ (UInt8.ofNat 3 :: s) = _
  rw [ypv]
  unfold sRd1
  have k : (UInt8.ofNat 3).toNat = 3 := rfl
  rw [k, if_neg (by omega), if_neg (by omega), if_neg (by omega)]
  simp [ygi]; omega
end Go.Proofs.YtkmehmgocelkiaaDoor
end
noncomputable section
namespace Go.Proofs.YtkmehmgocelkiaaDoor
open Go.AV Go.RowKit
def sKey (l : List V) : Str := yeh (l.map yfi)
theorem w1 {i : Nat} (h : i < 1000000000) : IntKind.i64.wrap ((i : Int) + 1) = ((i + 1 : Nat) : Int) := by rw [wrap64 (by omega) (by omega)]; omega
theorem gAt {α : Type} {l : List α} {i : Nat} (h : i < l.length) : l[((i : Nat) : Int).toNat]? = some l[i] := by rw [Int.toNat_natCast]; exact List.getElem?_eq_getElem h
theorem yiF {l : List V} (h : ∀ v ∈ l, good v) : ∀ s ∈ l.map yfi, s.length ≤ 65 := by
 intro s hs
 obtain ⟨v, hv, rfl⟩ := List.mem_map.1 hs
 exact yob (h v hv)
theorem pKey {l : List V} (hl : l.length ≤ 1000) (h : ∀ v ∈ l, good v) : ydf l (sKey l) := by
 apply yr2
 intro _
 refine lp2 (fun (x : Int) (y : List Str) => ∃ i : Nat, x = i /\ i <= l.length /\ y = (l.take i).map yfi) (fun (x : Int) (_ : List Str) => l.length - x.toNat) ?_ ⟨0, rfl, by omega, by simp⟩
 rintro X x y ⟨i, rfl, hi, rfl⟩ hX
 simp only [yfT]
 refine ⟨fun c => ?_, fun c => ?_⟩
 ·have c : (i : Int) < l.length := by simpa using c
  have hlt : i < l.length := by omega
  refine ⟨by omega, c, _, gAt hlt, _, pTxt (h _ (List.getElem_mem hlt)), by simp; omega, ?_⟩
  rw [w1 (by omega)]
  refine hX _ _ ⟨i + 1, rfl, by omega, ?_⟩ (by omega)
  rw [List.take_succ_eq_append_getElem hlt, List.map_append]; rfl
 ·have c : ¬ (i : Int) < l.length := by simpa using c
  rw [List.take_of_length_le (by omega)]
  exact ⟨_, yzh (by simpa using hl) (fun s hs => by have := yiF h s hs; omega), rfl⟩
def sGet (s : Str) : List V × Int := match yft s with
 | none => ([], 2)
 | some l => if l.all (fun t => (yhZ t).2) then (l.map (fun t => (yhZ t).1), 0) else ([], 4)
theorem pGet {s : Str} (h : s.length ≤ 1000000) : yeX s (sGet s).1 (sGet s).2 := by
 apply yrL
 refine ⟨_, _, yyz (by omega), ?_⟩
 unfold sGet
 cases hs : yft s with
 | none => exact ⟨fun _ => ⟨rfl, rfl⟩, fun q => (by simp at q)⟩
 | some l =>
   refine ⟨fun q => (by simp at q), fun _ _ => ?_⟩
   have hlen := yq3 hs
   have hb := (yp0 hs).2
   show ∀ X1 : Int -> List V -> Prop, (∀ x3 x4, yeV _ _ l X1 x3 x4 -> X1 x3 x4) -> X1 0 []
   refine lp2 (fun (x : Int) (y : List V) => ∃ i : Nat, x = i /\ i <= l.length /\ y = (l.take i).map (fun t => (yhZ t).1) /\ ((l.take i).all (fun t => (yhZ t).2)) = true) (fun (x : Int) (_ : List V) => l.length - x.toNat) ?_ ⟨0, rfl, by omega, by simp, by simp⟩
   rintro X x y ⟨i, rfl, hi, rfl, ha⟩ hX
   simp only [yeV]
   refine ⟨fun c => ?_, fun c => ?_⟩
   ·have c : (i : Int) < l.length := by simpa using c
    have hlt : i < l.length := by omega
    refine ⟨by omega, c, _, gAt hlt, _, _, yyH (by have := hb l[i] (List.getElem_mem hlt); omega), fun d => ?_, fun d => ⟨by simp; omega, ?_⟩⟩
    ·have d : (yhZ l[i]).2 = false := by simpa using d
     have : ¬ (l.all (fun t => (yhZ t).2)) = true := fun q => by
      have := List.all_eq_true.1 q l[i] (List.getElem_mem hlt)
      rw [d] at this; cases this
     rw [if_neg this]; exact ⟨rfl, rfl⟩
    ·have d : (yhZ l[i]).2 = true := by simpa using d
     rw [w1 (by omega)]
     refine hX _ _ ⟨i + 1, rfl, by omega, ?_, ?_⟩ (by omega)
     ·rw [List.take_succ_eq_append_getElem hlt, List.map_append]; rfl
     ·rw [List.take_succ_eq_append_getElem hlt, List.all_append, ha]; simp [d]
   ·have c : ¬ (i : Int) < l.length := by simpa using c
    rw [List.take_of_length_le (by omega)] at ha ⊢
    rw [if_pos ha]; exact ⟨rfl, rfl⟩
theorem yvq {l : List V} (h : ∀ v ∈ l, good v) : sGet (sKey l) = (l, 0) := by
 unfold sGet sKey
 rw [yo7 fun s hs => by have := yiF h s hs; omega]
 simp only
 have ha : ((l.map yfi).all fun t => (yhZ t).2) = true := by
  rw [List.all_eq_true]
  intro t ht
  obtain ⟨v, hv, rfl⟩ := List.mem_map.1 ht
  rw [yon (h v hv)]
 rw [if_pos ha, List.map_map]
 congr 1
 conv => rhs; rw [<- List.map_id l]
 refine List.map_congr_left fun v hv => ?_
 show (yhZ (yfi v)).1 = v
 rw [yon (h v hv)]
theorem yvB {l : List V} (hl : l.length ≤ 1000) (h : ∀ v ∈ l, good v) : (sKey l).length ≤ 1000000 := by
 have := yk4 (l := l.map yfi) (m := 65) (yiF h)
 rw [List.length_map] at this
 unfold sKey
 have : l.length * (65 + 4) <= 1000 * (65 + 4) := Nat.mul_le_mul_right _ hl
 omega
theorem yuk {l : List V} (hl : l.length ≤ 1000) : yaW l l 0 := by
 refine ⟨0, ?_, rfl⟩
 apply ycy
 intro _
 refine lp1 (fun (x : Int) => ∃ i : Nat, x = i /\ i <= l.length) (fun (x : Int) => l.length - x.toNat) ?_ ⟨0, rfl, by omega⟩
 rintro X x ⟨i, rfl, hi⟩ hX
 simp only [ya0]
 refine ⟨fun c => ?_, fun c _ _ => ⟨fun d => ?_, fun _ => trivial⟩⟩
 ·have c : (i : Int) < l.length := by simpa using c
  have hlt : i < l.length := by omega
  refine ⟨by omega, c, _, gAt hlt, fun _ => ⟨fun d => ?_, fun _ => ⟨by omega, c, _, gAt hlt, _, yqn _ _, fun d => ?_, fun _ => ?_⟩⟩⟩
  ·have d : (l.length : Int) ≤ i := of_decide_eq_true d
   omega
  ·rw [yuC.2 rfl] at d; simp at d
  ·rw [w1 (by omega)]
   exact hX _ ⟨i + 1, rfl, by omega⟩ (by omega)
 ·have d : (l.length : Int) < l.length := of_decide_eq_true d
  omega
def yfw (l : List LV) : List V := (l.take 9).map told
theorem yq7 {l : List LV} (h : ∀ x ∈ l, LOk x) : ∀ v ∈ yfw l, good v := by
 intro v hv
 obtain ⟨x, hx, rfl⟩ := List.mem_map.1 hv
 exact ytg (h x (List.mem_of_mem_take hx))
theorem ysE (l : List LV) : (yfw l).length <= 9 := by simp [yfw]; omega
theorem yyk {l : List LV} (h : ∀ x ∈ l, LOk x) : yck l (yfw l) ((yfw l).map v6) := by
 apply yoh
 refine lp3 (fun (x : Int) (y : List V) (z : List V6) => ∃ i : Nat, x = i /\ i <= l.length /\ i <= 9 /\ y = (l.take i).map told /\ z = ((l.take i).map told).map v6) (fun (x : Int) (_ : List V) (_ : List V6) => l.length - x.toNat) ?_ ⟨0, rfl, by omega, by omega, by simp, by simp⟩
 rintro X x y z ⟨i, rfl, hi, hi9, rfl, rfl⟩ hX
 have done : ¬ (i < l.length ∧ i < 9) → ybQ X l (yfw l) ((yfw l).map v6) i false ((l.take i).map told) (((l.take i).map told).map v6) := by
  intro hd
  have e : l.take i = l.take 9 := by
   by_cases h9 : i = 9
   ·rw [h9]
   ·rw [List.take_of_length_le (show l.length <= i by omega), List.take_of_length_le (show l.length <= 9 by omega)]
  rw [e]
  exact ⟨fun q => (by cases q), fun _ => ⟨rfl, rfl⟩⟩
 simp only [ydY]
 intro _
 refine ⟨fun c => ?_, fun c => ?_⟩
 ·have c : (i : Int) < l.length := of_decide_eq_true c
  have hlt : i < l.length := by omega
  by_cases h9 : i < 9
  ·have e9 : decide ((i : Int) < 9) = true := decide_eq_true (by omega)
   rw [e9]
   obtain ⟨h1, h2, h3⟩ := h _ (List.getElem_mem hlt)
   have hk : IntKind.i64.wrap (l[i].Kind.tmod 4) = l[i].Kind % 4 := by
    rw [Int.tmod_eq_emod_of_nonneg h1]; exact wrap64 (by omega) (by omega)
   have fin : ∀ n s, (⟨l[i].Kind % 4, n, s⟩ : V) = told l[i] → ybx X i l[i] n s ((l.take i).map told) (((l.take i).map told).map v6) := by
    intro n s e
    have hl1 : ((l.take i).map told).length <= 1000000000 := by simp; omega
    refine ⟨hl1, by rw [List.length_map]; exact hl1, ?_⟩
    rw [w1 (by omega), hk]
    refine hX _ _ _ ⟨i + 1, rfl, by omega, by omega, ?_, ?_⟩ (by omega)
    ·rw [List.take_succ_eq_append_getElem hlt, List.map_append, e]; rfl
    ·rw [List.take_succ_eq_append_getElem hlt, List.map_append, List.map_append, List.map_cons, List.map_nil, <- e]; rfl
   simp only [ybQ]
   refine ⟨fun _ => ⟨by omega, c, _, gAt hlt, ?_⟩, fun q => (by cases q)⟩
   rw [hk]
   refine ⟨fun k => ⟨by omega, c, _, gAt hlt, fin _ _ ?_⟩, fun k1 => ⟨fun k => ⟨by omega, c, _, gAt hlt, fin _ _ ?_⟩, fun k2 => ⟨fun k => ⟨by omega, c, _, gAt hlt, by omega, c, _, gAt hlt, ?_, fin _ _ ?_⟩, fun k3 => fin _ _ ?_⟩⟩⟩
   ·have k : l[i].Kind % 4 = 1 := by simpa using k
    rw [yue]; simp [told, k]
   ·have k : l[i].Kind % 4 = 2 := by simpa using k
    simp [told, k]
   ·split <;> omega
   ·have k : l[i].Kind % 4 = 3 := by simpa using k
    have e : (List.take ((if (64 : Int) < (l[i].S.length : Int) then (64 : Int) else (l[i].S.length : Int)).toNat - (0 : Int).toNat) (List.drop (0 : Int).toNat l[i].S)) = l[i].S.take 64 := by
     split
     ·simp
     ·have : l[i].S.length ≤ 64 := by omega
      simp [List.take_of_length_le this]
    rw [e]; simp [told, k]
   ·have k1 : ¬ l[i].Kind % 4 = 1 := by simpa using k1
    have k2 : ¬ l[i].Kind % 4 = 2 := by simpa using k2
    have k3 : ¬ l[i].Kind % 4 = 3 := by simpa using k3
    have : l[i].Kind % 4 = 0 := by omega
    simp [told, this]
  ·have e9 : decide ((i : Int) < 9) = false := decide_eq_false (by omega)
   rw [e9]; exact done (fun q => h9 q.2)
 ·have c : ¬ (i : Int) < l.length := of_decide_eq_false c
  exact done (fun q => by omega)
def r0V : List V := [⟨2, 1, []⟩, ⟨0, 0, []⟩]
theorem ypt : ∀ v ∈ r0V, good v := by
 intro v hv
 simp only [r0V, List.mem_cons, List.not_mem_nil, or_false] at hv
 rcases hv with rfl | rfl
 ·exact .inr (.inr (.inl ⟨rfl, by unfold Rg; simp, rfl⟩))
 ·exact .inl ⟨rfl, rfl, rfl⟩
theorem yxb : yb4 r0V [40, 49, 44, 32, 78, 85, 76, 76, 41] := by
 have hrep : Go.Lib.replaceAll [] [39] [39, 39] = [] := by decide
 have s1 := yvV (v := ⟨2, 1, []⟩) (by unfold Rg; simp) (by rw [hrep]; decide) (by simp)
 have s2 := yvV (v := ⟨0, 0, []⟩) (by unfold Rg; simp) (by rw [hrep]; decide) (by simp)
 have e1 : ybR ⟨2, 1, []⟩ = [49] := by
  unfold ybR
  rw [if_neg (by decide), if_neg (by decide), if_neg (by decide), if_pos (by decide)]
  simp [Go.Lib.itoa, Go.Lib.decDigits]
 have e2 : ybR ⟨0, 0, []⟩ = [78, 85, 76, 76] := by unfold ybR; rw [if_pos (by decide)]
 rw [e1] at s1; rw [e2] at s2
 apply ylU
 intro _ X hX
 apply hX
 refine ⟨fun _ => ⟨by omega, by simp [r0V], _, rfl, _, s1, by simp, ?_⟩, fun q => (by simp [r0V] at q)⟩
 rw [wrap64 (by omega) (by omega)]
 apply hX
 refine ⟨fun _ => ⟨by omega, by simp [r0V], _, rfl, _, s2, by simp, ?_⟩, fun q => (by simp [r0V] at q)⟩
 rw [wrap64 (by omega) (by omega)]
 apply hX
 refine ⟨fun q => (by simp [r0V] at q), fun _ => ⟨[49, 44, 32, 78, 85, 76, 76], ⟨by simp, by decide, by decide⟩, by simp, by simp, rfl⟩⟩
theorem yuh : ybM true := by
 apply ylr
 have g := pGet (s := sKey r0V) (yvB (by simp [r0V]) ypt)
 rw [yvq ypt] at g
 refine ⟨_, yuB 1, _, pKey (l := r0V) (by simp [r0V]) ypt, _, _, g, _, yxb, fun _ => ⟨fun _ => ⟨fun _ => ⟨by omega, by simp [r0V], _, rfl, _, yuB 1, fun _ => ⟨_, yuk (l := r0V) (by simp [r0V]), rfl⟩, fun q => (by simp at q)⟩, fun q => (by simp [r0V] at q)⟩, fun q => (by simp at q)⟩, fun q => (by simp at q)⟩
end Go.Proofs.YtkmehmgocelkiaaDoor
end
noncomputable section
namespace Go.Proofs.YtkmehmgocelkiaaDoor
open Go.AV Go.RowKit
theorem yno {n : Nat} : ([IntKind.u8.wrap ((n : Int).tmod 256)] : List Int).map toB = [UInt8.ofNat n] := by
 have h : ((n : Int).tmod 256) = ((n % 256 : Nat) : Int) := by
  rw [Int.tmod_eq_emod_of_nonneg (by omega)]; omega
 rw [h, yrZ (by omega) (by omega)]
 show [UInt8.ofNat (n % 256 : Nat)] = _
 congr 1
 exact UInt8.toNat_inj.1 (by rw [UInt8.toNat_ofNat', UInt8.toNat_ofNat']; show n % 256 % 256 = n % 256; omega)
theorem yyL {n : Int} (h : Rg n) : ycV n (sInt n) := by
 unfold Rg at h
 apply ypB
 have hu : IntKind.u64.wrap (IntKind.u64.wrap n + 9223372036854775808) = (((n + 9223372036854775808).toNat : Nat) : Int) := by
  rw [yjk, yjk]; omega
 simp only [ygp]
 rw [hu]
 unfold sInt
 have hU : (n + 9223372036854775808).toNat < 18446744073709551616 := by omega
 generalize (n + 9223372036854775808).toNat = u at *
 refine lp3 (fun (x : Int) (y : Str) (z : Int) => ∃ i : Nat, z = i /\ i <= 8 /\ y = be i u /\ x = ((u / 256 ^ i : Nat) : Int)) (fun (_ : Int) (_ : Str) (z : Int) => 8 - z.toNat) ?_ ⟨0, rfl, by omega, rfl, by simp⟩
 rintro X x y z ⟨i, rfl, hi, rfl, rfl⟩ hX
 simp only [yeB]
 refine ⟨fun c => ?_, fun c => ?_⟩
 ·have c : (i : Int) < 8 := of_decide_eq_true c
  have hle : u / 256 ^ i <= u := Nat.div_le_self _ _
  have hd : IntKind.u64.wrap (((u / 256 ^ i : Nat) : Int).tdiv 256) = ((u / 256 ^ (i + 1) : Nat) : Int) := by
   have : (((u / 256 ^ i : Nat) : Int).tdiv 256) = ((u / 256 ^ i / 256 : Nat) : Int) := by
    rw [Int.tdiv_eq_ediv_of_nonneg (Int.natCast_nonneg _)]; rfl
   rw [this, Nat.div_div_eq_div_mul, <- Nat.pow_succ]
   have hq : u / 256 ^ (i + 1) <= u := Nat.div_le_self _ _
   show IntKind.u64.wrap ((u / 256 ^ (i + 1) : Nat) : Int) = _
   generalize u / 256 ^ (i + 1) = q at *
   exact yh1 (by omega) (by omega)
  rw [yno, hd, w1 (by omega)]
  refine ⟨by rw [yhz]; simp; omega, hX _ _ _ ⟨i + 1, rfl, by omega, rfl, rfl⟩ (by omega)⟩
 ·have c : ¬ (i : Int) < 8 := of_decide_eq_false c
  have : i = 8 := by omega
  rw [this]
theorem ywY {l : List Str} (hl : l.length ≤ 1000) (h : ∀ s ∈ l, s.length ≤ 10000) : ycp l (yeh l) := by
 apply yoq
 refine lp2 (fun (x : Str) (y : Int) => ∃ i : Nat, y = i /\ i <= l.length /\ x = yeh (l.take i)) (fun (_ : Str) (y : Int) => l.length - y.toNat) ?_ ⟨0, rfl, by omega, by simp [yeh]⟩
 rintro X x y ⟨i, rfl, hi, rfl⟩ hX
 have hb := yk4 (l := l.take i) (m := 10000) fun s hs => h s (List.mem_of_mem_take hs)
 rw [List.length_take] at hb
 have hb2 : (yeh (l.take i)).length ≤ 100000000 := by
  have : min i l.length * (10000 + 4) <= 1000 * (10000 + 4) := Nat.mul_le_mul_right _ (by omega)
  omega
 simp only [yeb]
 intro _
 refine ⟨fun c => ?_, fun c => ?_⟩
 ·have c : (i : Int) < l.length := of_decide_eq_true c
  have hlt : i < l.length := by omega
  have hs := h l[i] (List.getElem_mem hlt)
  have dv : ∀ k : Nat, 0 < k → IntKind.i64.wrap ((l[i].length : Int).tdiv (k : Int)) = ((l[i].length / k : Nat) : Int) := by
   intro k hk
   have : ((l[i].length : Int).tdiv (k : Int)) = ((l[i].length / k : Nat) : Int) := by
    rw [Int.tdiv_eq_ediv_of_nonneg (Int.natCast_nonneg _)]; rfl
   rw [this]
   have hq : l[i].length / k <= l[i].length := Nat.div_le_self _ _
   generalize l[i].length / k = q at *
   exact wrap64 (by omega) (by omega)
  have bytes : ([IntKind.u8.wrap ((IntKind.i64.wrap ((l[i].length : Int).tdiv (16777216 : Int))).tmod (256 : Int)), IntKind.u8.wrap ((IntKind.i64.wrap ((l[i].length : Int).tdiv (65536 : Int))).tmod (256 : Int)), IntKind.u8.wrap ((IntKind.i64.wrap ((l[i].length : Int).tdiv (256 : Int))).tmod (256 : Int)), IntKind.u8.wrap ((l[i].length : Int).tmod (256 : Int))] : List Int).map toB = be 4 l[i].length := by
   have d1 := dv 16777216 (by omega)
   have d2 := dv 65536 (by omega)
   have d3 := dv 256 (by omega)
   rw [show ((16777216 : Nat) : Int) = 16777216 from rfl] at d1
   rw [show ((65536 : Nat) : Int) = 65536 from rfl] at d2
   rw [show ((256 : Nat) : Int) = 256 from rfl] at d3
   rw [d1, d2, d3]
   have m1 := yno (n := l[i].length / 16777216)
   have m2 := yno (n := l[i].length / 65536)
   have m3 := yno (n := l[i].length / 256)
   have m4 := yno (n := l[i].length)
   simp only [List.map_cons, List.map_nil, List.cons.injEq, and_true] at m1 m2 m3 m4 ⊢
   rw [m1, m2, m3, m4]
   show _ = [UInt8.ofNat (l[i].length / 256 ^ 3), UInt8.ofNat (l[i].length / 256 ^ 2), UInt8.ofNat (l[i].length / 256 ^ 1), UInt8.ofNat (l[i].length / 256 ^ 0)]
   simp
  refine ⟨by omega, c, _, gAt hlt, by omega, c, _, gAt hlt, ?_, ?_, ?_⟩
  ·rw [bytes, yhz]; omega
  ·rw [bytes, List.length_append, yhz]; omega
  ·rw [bytes, w1 (by omega)]
   refine hX _ _ ⟨i + 1, rfl, by omega, ?_⟩ (by omega)
   rw [List.take_succ_eq_append_getElem hlt, yoa]; simp [yeh]
 ·have c : ¬ (i : Int) < l.length := of_decide_eq_false c
  rw [List.take_of_length_le (by omega)]
theorem yzl {l : List V} (hl : l.length ≤ 1000) (h : ∀ v ∈ l, good v) : ycY (l.map v6) (sKey l) := by
 apply yoV
 refine lp2 (fun (x : Int) (y : List Str) => ∃ i : Nat, x = i /\ i <= l.length /\ y = (l.take i).map yfi) (fun (x : Int) (_ : List Str) => l.length - x.toNat) ?_ ⟨0, rfl, by omega, by simp⟩
 rintro X x y ⟨i, rfl, hi, rfl⟩ hX
 simp only [yeC]
 intro _
 have hll : (l.map v6).length = l.length := List.length_map ..
 refine ⟨fun c => ?_, fun c => ?_⟩
 ·have c0 : (i : Int) < (l.map v6).length := of_decide_eq_true c
  have c : (i : Int) < l.length := by rw [hll] at c0; exact c0
  have hlt : i < l.length := by omega
  have hlt' : i < (l.map v6).length := by omega
  have eg : (l.map v6)[((i : Nat) : Int).toNat]? = some (v6 l[i]) := by
   rw [gAt hlt']; simp
  have hg := h _ (List.getElem_mem hlt)
  have hk := ynq hg
  have hN := yqT hg
  have hS := ynQ hg
  have ht := yob hg
  have fin : ∀ s : Str, s.length ≤ 100 → s ++ l[i].S = yfi l[i] → ycs X (l.map v6) i s ((l.take i).map yfi) := by
   intro s hs e
   refine ⟨by omega, c0, _, eg, by show s.length + l[i].S.length <= _; omega, by simp; omega, ?_⟩
   have e' : s ++ (v6 l[i]).S = yfi l[i] := e
   rw [w1 (by omega), e']
   refine hX _ _ ⟨i + 1, rfl, by omega, ?_⟩ (by omega)
   rw [List.take_succ_eq_append_getElem hlt, List.map_append]; rfl
  have kk : (v6 l[i]).Kind = l[i].Kind := rfl
  have nn : (v6 l[i]).N = l[i].N := rfl
  simp only [ycv]
  refine ⟨by omega, c0, _, eg, by omega, c0, _, eg, ?_⟩
  rw [kk, ypu (by omega) (by omega)]
  refine ⟨fun k => ⟨by omega, c0, _, eg, by simp [b1], by omega, c0, _, eg, ?_⟩, fun k => ⟨by omega, c0, _, eg, ?_⟩⟩
  ·have k : l[i].Kind = 1 := by simpa using k
   rw [kk]
   refine ⟨fun q => (by rw [k] at q; cases q), fun _ => ?_⟩
   rw [nn]
   have hn : l[i].N = 0 ∨ l[i].N = 1 := by unfold good at hg; rcases hg with h | h | h | h <;> omega
   have hs : l[i].S = [] := by
    unfold good at hg
    rcases hg with h | h | h | h
    ·exact h.2.2
    ·exact h.2.2
    ·exact h.2.2
    ·omega
   rw [ypu (by omega) (by omega)]
   refine fin _ (by simp [b1]) ?_
   rw [yfi, if_pos k, k, hs]; simp
  ·have k : ¬ l[i].Kind = 1 := by simpa using k
   rw [kk]
   refine ⟨fun q => ?_, fun q => ?_⟩
   ·have q : l[i].Kind = 2 := by simpa using q
    have hs : l[i].S = [] := by
     unfold good at hg
     rcases hg with h | h | h | h
     ·exact h.2.2
     ·exact h.2.2
     ·exact h.2.2
     ·omega
    refine ⟨by omega, c0, _, eg, _, yyL hN, by rw [yiC]; simp [b1], fin _ ?_ ?_⟩
    ·rw [List.length_append]
     have : (sInt (v6 l[i]).N).length = 8 := yiC _
     rw [this]; simp [b1]
    ·rw [yfi, if_neg k, if_pos q, q, hs]; simp; rfl
   ·have q : ¬ l[i].Kind = 2 := by simpa using q
    refine fin _ (by simp [b1]) ?_
    rw [yfi, if_neg k, if_neg q]
    split
    ·rename_i k3; rw [k3]
    ·have hs : l[i].S = [] := by
      unfold good at hg
      rcases hg with h | h | h | h
      ·exact h.2.2
      ·exact h.2.2
      ·exact h.2.2
      ·omega
     rw [hs]; simp
 ·have c : ¬ (i : Int) < (l.map v6).length := of_decide_eq_false c
  rw [hll] at c
  rw [List.take_of_length_le (by omega)]
  exact ⟨_, ywY (by simpa using hl) (fun s hs => by have := yiF h s hs; omega), rfl⟩
end Go.Proofs.YtkmehmgocelkiaaDoor
end
noncomputable section
namespace Go.Proofs.YtkmehmgocelkiaaDoor
open Go.AV Go.RowKit
section
variable {α : Type}
def rins (lt : α → α → Bool) (x : α) : List α → List α
 | [] => [x]
 | y :: r => if lt x y then y :: rins lt x r else x :: y :: r
def ins (lt : α -> α -> Bool) (x : α) (l : List α) : List α := (rins lt x l.reverse).reverse
def srt (lt : α → α → Bool) : List α → List α → List α
 | out, [] => out
 | out, x :: r => srt lt (ins lt x out) r
theorem yqp (lt : α → α → Bool) (x p : α) (l : List α) : ins lt x (l ++ [p]) = if lt x p then ins lt x l ++ [p] else (l ++ [p]) ++ [x] := by
 unfold ins
 rw [List.reverse_append]
 show (if lt x p = true then p :: rins lt x l.reverse else x :: p :: l.reverse).reverse = _
 split
 ·rw [List.reverse_cons]
 ·simp
theorem ywd (lt : α → α → Bool) (x : α) (l : List α) : (ins lt x l).length = l.length + 1 := by
 have : ∀ m : List α, (rins lt x m).length = m.length + 1 := by
  intro m
  induction m with
  | nil => rfl
  | cons y r ih => unfold rins; split <;> simp [ih]
 unfold ins; simp [this]
theorem ykI (lt : α → α → Bool) : ∀ (l out : List α), (srt lt out l).length = out.length + l.length
 | [], out => rfl
 | x :: r, out => by unfold srt; rw [ykI lt r, ywd]; simp; omega
theorem yvp {lt : α → α → Bool} {x y : α} {l : List α} (h : y ∈ ins lt x l) : y = x ∨ y ∈ l := by
 have : ∀ m : List α, y ∈ rins lt x m → y = x ∨ y ∈ m := by
  intro m
  induction m with
  | nil => intro h; simpa [rins] using h
  | cons z r ih =>
    intro h
    unfold rins at h
    split at h
    ·rcases List.mem_cons.1 h with rfl | h
     ·exact .inr (by simp)
     ·rcases ih h with e | e
      ·exact .inl e
      ·exact .inr (by simp [e])
    ·simpa using h
 unfold ins at h
 rcases this _ (by simpa using h) with e | e
 ·exact .inl e
 ·exact .inr (by simpa using e)
theorem yl8 {lt : α → α → Bool} {y : α} : ∀ {l out : List α}, y ∈ srt lt out l → y ∈ out ∨ y ∈ l
 | [], out, h => .inl h
 | x :: r, out, h => by
   unfold srt at h
   rcases yl8 h with e | e
   ·rcases yvp e with rfl | e
    ·exact .inr (by simp)
    ·exact .inl e
   ·exact .inr (by simp [e])
theorem yoH (lt : α → α → Bool) (b : α) : ∀ (a out : List α), srt lt out (a ++ [b]) = ins lt b (srt lt out a)
 | [], out => rfl
 | x :: r, out => by show srt lt (ins lt x out) (r ++ [b]) = _; rw [yoH lt b r]; rfl
theorem yg2 : ∀ l : List α, l = [] ∨ ∃ l' b, l = l' ++ [b]
 | [] => .inl rfl
 | a :: l => .inr (match yg2 l with
   | .inl e => ⟨[], a, by rw [e]; rfl⟩
   | .inr ⟨l', b, e⟩ => ⟨a :: l', b, by rw [e]; rfl⟩)
theorem yxz : ∀ (A T : List α) (p x : α), ((A ++ p :: x :: T).set (A.length + 1) p).set A.length x = A ++ x :: p :: T
 | [], T, p, x => rfl
 | a :: A, T, p, x => by
   show ((a :: (A ++ p :: x :: T)).set (A.length + 1 + 1) p).set (A.length + 1) x = a :: (A ++ x :: p :: T)
   rw [List.set_cons_succ, List.set_cons_succ, yxz A T p x]
end
abbrev Rw := List yaa
theorem ytH {g : Rw → Rw → Int → Prop} {cf : Rw → Rw → Int} {Q : Rw → Prop} (hg : ∀ a b, Q a → Q b → g a b (cf a b)) {l : List Rw} (hl : l.length ≤ 1000) (hq : ∀ y ∈ l, Q y) : yaf g 0 l.length l (srt (fun a b => decide (cf a b < 0)) [] l) := by
 refine ycI _ _ _ _ _ ?_
 have e01 : IntKind.i64.wrap ((0 : Int) + (1 : Int)) = 1 := wrap64 (by omega) (by omega)
 unfold yaJ
 rw [e01]
 generalize hlt : (fun a b : Rw => decide (cf a b < 0)) = lt
 have hlt' : ∀ a b, decide (cf a b < 0) = lt a b := fun a b => by rw [<- hlt]
 refine lp2 (fun (i : Int) (d : List Rw) => (l = [] /\ d = [] /\ i = 1) ∨ ∃ A B, l = A ++ B /\ i = A.length /\ 1 <= A.length /\ d = srt lt [] A ++ B) (fun i _ => (l.length - i).toNat) ?_ ?_
 ·rintro X i d inv ih
  rcases inv with ⟨e, rfl, rfl⟩ | ⟨A, B, e, rfl, hA, rfl⟩
  ·subst e
   exact yaL rfl rfl
  ·have hll : l.length = A.length + B.length := by rw [e]; simp
   refine ⟨fun c => ?_, fun c => ?_⟩
   ·have c : (A.length : Int) < l.length := by simpa using c
    cases B with
    | nil => exfalso; have h0 : l.length = A.length := by rw [e]; simp
             omega
    | cons x B =>
      have hsl := ykI lt A []
      simp only [List.length_nil, Nat.zero_add] at hsl
      have qall : ∀ y ∈ srt lt [] A ++ x :: B, Q y := by
       intro y hy
       rcases List.mem_append.1 hy with hy | hy
       ·rcases yl8 hy with h | h
        ·cases h
        ·exact hq y (by rw [e]; simp [h])
       ·exact hq y (by rw [e]; simp only [List.mem_append]; exact .inr hy)
      have qx : Q x := qall x (by simp)
      simp only [List.length_cons] at hll
      have nx : ∀ d, d = srt lt [] (A ++ [x]) ++ B → X (IntKind.i64.wrap ((A.length : Int) + 1)) d := by
       intro d hd
       rw [wrap64 (by omega) (by omega)]
       exact ih _ _ (.inr ⟨A ++ [x], B, by rw [e]; simp, by simp, by simp, hd⟩) (by omega)
      refine lp2 (fun (j : Int) (d : List Rw) => ∃ P1 P2, j = P1.length /\ d = P1 ++ x :: (P2 ++ B) /\ ins lt x (srt lt [] A) = ins lt x P1 ++ P2 /\ P1.length <= A.length /\ ∀ y ∈ P1, Q y) (fun j _ => j.toNat) ?_ ⟨srt lt [] A, [], by rw [hsl], by simp, by simp, by omega, fun y hy => qall y (by simp [hy])⟩
      rintro X2 j d ⟨P1, P2, rfl, rfl, hins, hP, hQ⟩ ih2
      have stop : ins lt x P1 = P1 ++ [x] -> X (IntKind.i64.wrap ((A.length : Int) + 1)) (P1 ++ x :: (P2 ++ B)) := fun h => nx _ (by rw [yoH, hins, h]; simp)
      rcases yg2 P1 with rfl | ⟨P0, p, rfl⟩
      ·exact yaL (by simp) (yaL rfl (stop rfl))
      ·have hlen : (P0 ++ [p]).length = P0.length + 1 := by simp
       rw [hlen] at hP
       have e1 : IntKind.i64.wrap (((P0.length + 1 : Nat) : Int) - 1) = (P0.length : Int) := by rw [wrap64 (by omega) (by omega)]; omega
       have tn : ((P0.length + 1 : Nat) : Int).toNat = P0.length + 1 := by omega
       have tn0 : ((P0.length : Nat) : Int).toNat = P0.length := by omega
       have qp : Q p := hQ p (by simp)
       have hs : ins lt x (P0 ++ [p]) = if lt x p then ins lt x P0 ++ [p] else (P0 ++ [p]) ++ [x] := yqp lt x p P0
       have ed : (P0 ++ [p]) ++ x :: (P2 ++ B) = P0 ++ p :: x :: (P2 ++ B) := by simp
       have gx : (P0 ++ p :: x :: (P2 ++ B))[P0.length + 1]? = some x := by rw [List.getElem?_append_right (by omega)]; simp
       have gp : (P0 ++ p :: x :: (P2 ++ B))[P0.length]? = some p := by simp
       have hdl : (P0 ++ p :: x :: (P2 ++ B)).length = P0.length + 2 + (P2 ++ B).length := by simp; omega
       rw [ed] at stop
       rw [hlen, ed]
       unfold yak
       rw [e1, tn, tn0]
       refine yin (by simp <;> omega) ⟨by omega, by omega, x, gx, by omega, by omega, p, gp, cf x p, hg x p qx qp, ?_⟩
       rw [hlt' x p]
       unfold yai
       rw [e1, tn, tn0]
       refine ⟨fun hx => ?_, fun hx => stop (by rw [hs, hx]; rfl)⟩
       have hset : ((P0 ++ p :: x :: (P2 ++ B)).set (P0.length + 1) p)[P0.length]? = some p := by
        rw [List.getElem?_set_ne (by omega)]; exact gp
       refine ⟨by omega, by omega, p, gp, by omega, by omega, x, gx, by omega, by omega, x, gx, by omega, by rw [List.length_set]; omega, p, hset, ?_⟩
       rw [yxz]
       exact ih2 _ _ ⟨P0, p :: P2, rfl, by simp, by rw [hins, hs, hx]; simp, by omega, fun y hy => hQ y (by simp [hy])⟩ (by omega)
   ·have c : ¬ (A.length : Int) < l.length := by simpa using c
    have : B = [] := List.length_eq_zero_iff.1 (by omega)
    subst this
    show srt lt [] A ++ [] = srt lt [] l
    rw [e]; simp
 ·cases l with
  | nil => exact .inl ⟨rfl, rfl, rfl⟩
  | cons x r => exact .inr ⟨[x], r, rfl, rfl, by simp, rfl⟩
end Go.Proofs.YtkmehmgocelkiaaDoor
end
noncomputable section
namespace Go.Proofs.YtkmehmgocelkiaaDoor
open Go.AV Go.RowKit
def rc : List V → List V → Int
 | [], [] => 0
 | [], _ :: _ => -1
 | _ :: _, [] => 1
 | a :: r, b :: q => if sCmp a b ≠ 0 then sCmp a b else rc r q
theorem ysH (b : List V) : rc [] b = if 0 < b.length then -1 else 0 := by cases b <;> simp [rc]
theorem yry (a b : V) (r q : List V) : rc (a :: r) (b :: q) = if sCmp a b ≠ 0 then sCmp a b else rc r q := rfl
theorem ywS (a : V) (r : List V) : rc (a :: r) [] = 1 := rfl
theorem yha {α : Type} {l : List α} {i : Nat} {y : α} (h : l[i]? = some y) : l.drop i = y :: l.drop (i + 1) := by
 obtain ⟨hi, rfl⟩ := List.getElem?_eq_some_iff.1 h
 exact List.drop_eq_getElem_cons hi
theorem ycQ {α : Type} {l : List α} {n : Nat} (h : n < l.length) : ∃ t, l[n]? = some t := ⟨_, List.getElem?_eq_getElem h⟩
theorem yij {a b : List V} (ha : a.length ≤ 1000) : yaW a b (rc a b) := by
 refine ⟨_, ?_, rfl⟩
 refine ycy _ _ _ _ fun _ => ?_
 refine lp1 (fun i : Int => 0 <= i /\ i <= a.length /\ i <= b.length /\ rc (a.drop i.toNat) (b.drop i.toNat) = rc a b) (fun i => (a.length - i).toNat) ?_ ⟨by omega, by omega, by omega, by simp⟩
 rintro X i ⟨i0, i1, i2, hr⟩ ih
 refine ⟨fun c => ?_, fun c => ?_⟩
 ·have c : i < (a.length : Int) := by simpa using c
  obtain ⟨y, hy⟩ := ycQ (l := a) (n := i.toNat) (by omega)
  refine ⟨i0, c, y, hy, fun _ => ⟨fun c2 => ?_, fun c2 => ?_⟩⟩
  ·have c2 : (b.length : Int) ≤ i := by simpa using c2
   rw [yha hy, List.drop_eq_nil_of_le (show b.length <= i.toNat by omega)] at hr
   exact hr
  ·have c2 : ¬ (b.length : Int) ≤ i := by simpa using c2
   obtain ⟨z, hz⟩ := ycQ (l := b) (n := i.toNat) (by omega)
   rw [yha hy, yha hz] at hr
   rw [yry] at hr
   refine ⟨i0, by omega, z, hz, _, yqn y z, fun h => ?_, fun h => ?_⟩
   ·have h : sCmp y z ≠ 0 := by simpa using h
    rw [if_pos h] at hr; exact hr
   ·have h : sCmp y z = 0 := by simpa using h
    rw [if_neg (by simpa using h)] at hr
    rw [wrap64 (by omega) (by omega)]
    exact ih _ ⟨by omega, by omega, by omega, by rw [show (i + 1).toNat = i.toNat + 1 by omega]; exact hr⟩ (by omega)
 ·have c : ¬ i < (a.length : Int) := by simpa using c
  have hd : a.drop i.toNat = [] := List.drop_eq_nil_of_le (by omega)
  rw [hd, ysH, List.length_drop] at hr
  refine fun _ _ => ⟨fun c2 => ?_, fun c2 => ?_⟩
  ·have c2 : (a.length : Int) < b.length := by simpa using c2
   rw [if_pos (by omega)] at hr; exact hr
  ·have c2 : ¬ (a.length : Int) < b.length := by simpa using c2
   rw [if_neg (by omega)] at hr; exact hr
def gd (l : List V) : Prop := l.length <= 9 /\ ∀ v ∈ l, good v
theorem ysb {a b : V} : sCmp a b ≠ 0 ↔ a ≠ b := by
 rw [ne_eq, yuC]
theorem pBf7 {a b : List V} (ha : gd a) (hb : gd b) : yaU (a.map v6) (b.map v6) (decide (rc a b < 0)) := by
 have la := ha.1
 have lb := hb.1
 refine ylA _ _ _ ?_
 have hla : (a.map v6).length = a.length := by simp
 have hlb : (b.map v6).length = b.length := by simp
 refine lp1 (fun i : Int => 0 <= i /\ i <= a.length /\ i <= b.length /\ rc (a.drop i.toNat) (b.drop i.toNat) = rc a b) (fun i => (a.length - i).toNat) ?_ ⟨by omega, by omega, by omega, by simp⟩
 rintro X i ⟨i0, i1, i2, hr⟩ ih
 have fin : (¬ i < (a.length : Int) ∨ ¬ i < (b.length : Int)) → ((a.map v6).length ≤ maxLen → ((b.map v6).length ≤ maxLen → (decide (((a.map v6).length : Int) < ((b.map v6).length : Int))) = decide (rc a b < 0))) := by
  intro hc _ _
  rw [hla, hlb, <- hr]
  rcases Nat.lt_or_ge i.toNat a.length with h1 | h1
  ·have h2 : b.drop i.toNat = [] := List.drop_eq_nil_of_le (by omega)
   obtain ⟨y, hy⟩ := ycQ (l := a) h1
   rw [h2, yha hy, ywS]
   simp; omega
  ·rw [List.drop_eq_nil_of_le h1, ysH, List.length_drop]
   by_cases h3 : 0 < b.length - i.toNat
   ·rw [if_pos h3]; simp; omega
   ·rw [if_neg h3]; simp; omega
 have J : ∀ x2, x2 = (decide (i < (a.length : Int)) && decide (i < (b.length : Int))) → ybG X (a.map v6) (b.map v6) (decide (rc a b < 0)) i x2 := by
  rintro x2 rfl
  refine ⟨fun h => ?_, fun h => fin ?_⟩
  ·simp only [Bool.and_eq_true, decide_eq_true_eq] at h
   obtain ⟨y, hy⟩ := ycQ (l := a) (n := i.toNat) (by omega)
   obtain ⟨z, hz⟩ := ycQ (l := b) (n := i.toNat) (by omega)
   have gy := ha.2 y (List.mem_of_getElem? hy)
   have gz := hb.2 z (List.mem_of_getElem? hz)
   have my : (a.map v6)[i.toNat]? = some (v6 y) := by rw [List.getElem?_map, hy]; rfl
   have mz : (b.map v6)[i.toNat]? = some (v6 z) := by rw [List.getElem?_map, hz]; rfl
   rw [yha hy, yha hz] at hr
   rw [yry] at hr
   refine ⟨i0, by rw [hla]; omega, _, my, i0, by rw [hlb]; omega, _, mz, ?_⟩
   rw [yzn]
   refine ⟨fun h => ?_, fun h => ?_⟩
   ·have hne : y ≠ z := fun e => by rw [e] at h; have := ypy.2 (rfl : z = z); rw [this] at h; cases h
    rw [if_pos (ysb.2 hne)] at hr
    refine ⟨i0, by rw [hla]; omega, _, my, i0, by rw [hlb]; omega, _, mz, _, ywM (v6 y) (v6 z) (by have := ynQ gy; show y.S.length <= 1000; omega) (by have := ynQ gz; show z.S.length <= 1000; omega), ?_⟩
    rw [<- hr]
    have := (ymH gy gz).1
    cases hq : yeD (v6 y) (v6 z) with
    | true => rw [hq] at this; simp [this.2 rfl]
    | false =>
      have hn : ¬ sCmp y z < 0 := fun q => by rw [this.1 q] at hq; cases hq
      simp [hn]
   ·have he : eqV y z = true := by simpa using h
    have he := ypy.1 he
    rw [if_neg (by rw [ysb]; simp [he])] at hr
    rw [wrap64 (by omega) (by omega)]
    exact ih _ ⟨by omega, by omega, by omega, by rw [show (i + 1).toNat = i.toNat + 1 by omega]; exact hr⟩ (by omega)
  ·simp only [Bool.and_eq_false_iff, decide_eq_false_iff_not] at h; exact h
 unfold ycO
 rw [hla, hlb]
 refine fun _ => ⟨fun c => fun _ => J _ (by rw [c]; rfl), fun c => J _ (by rw [c]; rfl)⟩
theorem ytP {l : List (List V)} (hl : l.length ≤ 19) (hq : ∀ y ∈ l, gd y) : yeF l (srt (fun a b => decide (rc a b < 0)) [] l) := by
 have hlen := ykI (fun a b => decide (rc a b < 0)) l []
 simp only [List.length_nil, Nat.zero_add] at hlen
 have col : yar l l := by
  refine yfC _ _ ⟨l, yfh _ _ _ fun _ _ => ?_, rfl⟩
  refine lp2 (fun (i : Int) (d : List (List V)) => 0 <= i /\ i <= l.length /\ d = l.take i.toNat) (fun i _ => (l.length - i).toNat) ?_ ⟨by omega, by omega, by simp⟩
  rintro X i d ⟨i0, i1, rfl⟩ ih
  refine ⟨fun c => ?_, fun c => ?_⟩
  ·have c : i < (l.length : Int) := by simpa using c
   obtain ⟨y, hy⟩ := ycQ (l := l) (n := i.toNat) (by omega)
   refine ⟨i0, c, y, hy, by simp; omega, ?_⟩
   rw [wrap64 (by omega) (by omega)]
   refine ih _ _ ⟨by omega, by omega, ?_⟩ (by omega)
   rw [show (i + 1).toNat = i.toNat + 1 by omega, List.take_add_one, hy]; rfl
  ·have c : ¬ i < (l.length : Int) := by simpa using c
   exact List.take_of_length_le (by omega)
 have is := ytH (g := yaW) (cf := rc) (Q := gd) (fun a b qa qb => yij (by have := qa.1; omega)) (l := l) (by omega) hq
 refine ⟨l, rfl, _, ydJ _ _ _ ⟨l, col, _, ⟨_, yew _ _ _ _ ?_, hlen, rfl⟩, hlen, rfl⟩, rfl⟩
 intro X hX
 refine hX _ _ _ (yaL (by simp; omega) ⟨_, is, hlen, fun X2 hX2 => hX2 _ _ (yaL (by simp; omega) rfl)⟩)
end Go.Proofs.YtkmehmgocelkiaaDoor
end
noncomputable section
namespace Go.Proofs.YtkmehmgocelkiaaDoor
open Go.AV Go.RowKit
def lt7 (a b : List V) : Bool := decide (rc a b < 0)
def m7 (l : List (List V)) : List (List V6) := l.map (List.map v6)
theorem yc4 (l : List (List V)) : (m7 l).length = l.length := by simp [m7]
theorem yjP {l : List (List V)} {k : Nat} {y : List V} (h : l[k]? = some y) : (m7 l)[k]? = some (y.map v6) := by unfold m7; rw [List.getElem?_map, h]; rfl
theorem yrP (a b : List (List V)) : m7 (a ++ b) = m7 a ++ m7 b := by simp [m7]
theorem tsl0 {α : Type} (A B : List α) : ycL (A ++ B) 0 (A.length : Int) = A := by unfold ycL; simp
theorem tsl1 {α : Type} (A B : List α) (n : Int) (hn : n = ((A ++ B).length : Int)) : ycL (A ++ B) (A.length : Int) n = B := by
 unfold ycL
 rw [hn, List.length_append]
 have e : (((A.length + B.length : Nat) : Int)).toNat - ((A.length : Nat) : Int).toNat = B.length := by omega
 rw [e]
 simp
theorem yx7 {l : List (List V)} (hl : l.length ≤ 1000) (hq : ∀ y ∈ l, gd y) : ybV (m7 l) (m7 (srt lt7 [] l)) := by
 refine yoB _ _ ?_
 refine lp2 (fun (o : List (List V6)) (i : Int) => 0 <= i /\ i <= l.length /\ o = m7 (srt lt7 [] (l.take i.toNat))) (fun _ i => (l.length - i).toNat) ?_ ⟨by omega, by omega, rfl⟩
 rintro X o i ⟨i0, i1, rfl⟩ ih
 unfold yea
 rw [yc4]
 refine fun _ => ⟨fun c => fun _ => ?_, fun c => ?_⟩
 ·have c : i < (l.length : Int) := by simpa using c
  obtain ⟨x, hx⟩ := ycQ (l := l) (n := i.toNat) (by omega)
  have hp := ykI lt7 (l.take i.toNat) []
  have hP : (srt lt7 [] (l.take i.toNat)).length = i.toNat := by rw [hp]; simp; omega
  have qP : ∀ y ∈ srt lt7 [] (l.take i.toNat), gd y := fun y hy => by
   rcases yl8 hy with h | h
   ·cases h
   ·exact hq y (List.mem_of_mem_take h)
  have qx := hq x (List.mem_of_getElem? hx)
  have e1 : srt lt7 [] (l.take (i.toNat + 1)) = ins lt7 x (srt lt7 [] (l.take i.toNat)) := by
   rw [List.take_add_one, hx]
   exact yoH lt7 x _ _
  generalize srt lt7 [] (l.take i.toNat) = P at *
  refine lp1 (fun k : Int => ∃ P1 P2, P = P1 ++ P2 /\ k = P1.length /\ ins lt7 x P = ins lt7 x P1 ++ P2) (fun k => k.toNat) ?_ ⟨P, [], by simp, by rw [yc4], by simp⟩
  rintro X2 k ⟨P1, P2, hPP, rfl, hins⟩ ih2
  have hL : P.length = P1.length + P2.length := by rw [hPP]; simp
  have stop : ins lt7 x P1 = P1 ++ [x] → yb5 X X2 (m7 l) (m7 P) i (P1.length : Int) false := by
   intro h
   have s0 : ycL (m7 P) 0 (P1.length : Int) = m7 P1 := by rw [hPP, yrP, <- yc4 P1]; exact tsl0 _ _
   have s1 : ycL (m7 P) (P1.length : Int) ((m7 P).length : Int) = m7 P2 := by rw [hPP, yrP, <- yc4 P1]; exact tsl1 _ _ _ rfl
   refine yaL rfl ⟨⟨by omega, by omega, by rw [yc4]; omega⟩, by rw [s0, yc4]; omega, i0, by rw [yc4]; omega, _, yjP hx, by rw [s0, List.nil_append, yc4]; omega, ⟨by omega, by rw [yc4]; omega, by omega⟩, ?_, by rw [s1, yc4]; omega, ?_⟩
   ·rw [s0]; simp [yc4]; omega
   ·rw [s0, s1, wrap64 (by omega) (by omega)]
    refine ih _ _ ⟨by omega, by omega, ?_⟩ (by omega)
    rw [show (i + 1).toNat = i.toNat + 1 by omega, e1, hins, h]
    simp [m7]
  rcases yg2 P1 with rfl | ⟨P0, p, rfl⟩
  ·exact yaL (by simp) (stop rfl)
  ·have hlen : ((P0 ++ [p]).length : Int) = (P0.length : Int) + 1 := by simp
   have hlenN : (P0 ++ [p]).length = P0.length + 1 := by simp
   have e2 : IntKind.i64.wrap (((P0 ++ [p]).length : Int) - 1) = (P0.length : Int) := by rw [hlen, wrap64 (by omega) (by omega)]; omega
   have hs := yqp lt7 x p P0
   have gp : P[P0.length]? = some p := by rw [hPP]; simp
   have qp := qP p (List.mem_of_getElem? gp)
   unfold yd5
   rw [e2]
   refine yin (by simp <;> omega) ⟨i0, by rw [yc4]; omega, _, yjP hx, by omega, by rw [yc4]; omega, _, yjP (k := P0.length) gp, lt7 x p, pBf7 qx qp, ?_⟩
   cases hx2 : lt7 x p with
   | false => exact stop (by rw [hs, hx2]; rfl)
   | true =>
     refine yin rfl ?_
     rw [e2]
     exact ih2 _ ⟨P0, p :: P2, by rw [hPP]; simp, rfl, by rw [hins, hs, hx2]; simp⟩ (by omega)
 ·have c : ¬ i < (l.length : Int) := by simpa using c
  rw [List.take_of_length_le (by omega)]
end Go.Proofs.YtkmehmgocelkiaaDoor
end
