/- General texts and own ones, joined: what the program computes, told of abstract states, and the laws of plain data. No condition. -/
import Derived.Test.YtkfingiebkgleaaMc
import Derived.Lib.LaidTab
import Derived.Lib.CountLaws
import Derived.Sort.Grow
import Derived.Lib.ItoaNum
import Derived.Lib.Join
import Derived.Lib.ReplaceLaws
import Derived.Shelf.Bits.Mul64
import Derived.Ground.Names2Prog
import Derived.Shelf.Slices.SearchI
import Derived.Ground.SlgnProg
import Derived.Shelf.SlicesG.SearchI
import Derived.Test.YtkfingiebkgleaaProg
import Derived.Test.YtkfingiebkgleaaMa
import Derived.Test.YtkfingiebkgleaaRows
import Derived.KernelRfl
import Derived.Test.YtkfingiebkgleaaMd
import Derived.Test.YtkfingiebkgleaaMb
noncomputable section
namespace Go.AV
open Go.RowKit Go.RG Go.Lib
theorem yrs {P : Program} {f : FuncId} {fn : Func} (hfn : P.funcs[f]? = some fn) (hb : (if fn.name == "runtime.NumGoroutine" then none else fn.body).isSome = true) {args : List AV} {v : AV} (hn : v.noL = true)
  (h : ∀ (G : Gh) (vs : List Value), GOK P G.w G.I -> (∀ b, G.I b -> b < G.w.heap.size) -> VRs G args vs -> Calls P f vs.toArray G.w fun e w' => ∃ x, e = .returned x /\ (∀ G', VR G' v x) /\ Below G.w.heap.size G.w w') : Pure P f args v := by
 intro H n G vs hg hM hV
 obtain ⟨b, hb⟩ := Option.isSome_iff_exists.1 hb
 split at hb
 ·cases hb
 ·rename_i hname
  have hcall : (callFunc f vs).run P G.w = .ok (.enter f vs) G.w := by
   simp only [callFunc, Sem.run_bind, run_program, Result.andThen_ok, hfn]
   rw [if_neg hname]
   simp [hb]
  unfold yhn
  rw [hcall]
  have h0 := h G vs.toList hg hM.lt hV
  rw [Array.toArray_toList] at h0
  refine Calls.mono h0 ?_
  rintro e w' ⟨x, rfl, hx, hbl⟩
  obtain ⟨G', g1, _, g3⟩ := hM.grow hbl.size hbl.block hbl.os hbl.tape hbl.output
  exact ⟨x, v, H, n, G', rfl, ⟨rfl, rfl, rfl⟩, g1, g3, hx G', hn⟩
theorem Pure.congr {P : Program} {f : FuncId} {a a' : List AV} {v v' : AV} (h : Pure P f a v) (ha : a = a') (hv : v = v') : Pure P f a' v' := by subst ha; subst hv; exact h
theorem GOK.maxLen {P : Program} {w : World} {I : Nat → Prop} (h : GOK P w I) {g : Nat} (hg : P.globalNamed "internal/bytealg.MaxLen" = some g) : ∃ m, w.cell? ⟨g, 0, .none⟩ = some (.int .i64 m) := by
 obtain ⟨_, m, t, fr, c⟩ := h.2.1 g hg
 exact ⟨m, by simp [World.cell?, c]⟩
theorem VR.itv {G : Gh} {k : IntKind} {n : Int} {v : Value} (h : VR G (.it k n) v) : v = .int k n := by
 cases h; rfl
theorem vs2 {G : Gh} {a b : AV} {vs : List Value} (h : VRs G [a, b] vs) : ∃ x y, vs = [x, y] ∧ VR G a x ∧ VR G b y := by
 match vs, h with
 | [x, y], h => exact ⟨x, y, rfl, h.head, h.tail.head⟩
 | [], h => have := h.1; simp at this
 | [_], h => have := h.1; simp at this
 | _ :: _ :: _ :: _, h => have := h.1; simp at this
theorem ytL {P : Program} {f : FuncId} {fn : Func} (hfn : P.funcs[f]? = some fn) (hb : (if fn.name == "runtime.NumGoroutine" then none else fn.body).isSome = true)
  (hc : ∀ (x y : Nat), x < 18446744073709551616 -> y < 18446744073709551616 -> ∀ w : World, Calls P f #[.int .u64 x, .int .u64 y] w fun e w' => e = .returned (.tuple #[.int .u64 ((x * y / 18446744073709551616 : Nat) : Int), .int .u64 ((x * y % 18446744073709551616 : Nat) : Int)]) /\ w' = w)
  {a b : Int} (h0 : 0 <= a) (h1 : a < 18446744073709551616) (h2 : 0 <= b) (h3 : b < 18446744073709551616) : Pure P f [.it .u64 a, .it .u64 b] (.tup [.it .u64 (a * b / 18446744073709551616), .it .u64 (a * b % 18446744073709551616)]) := by
 refine yrs hfn hb rfl fun G vs hG hI hV => ?_
 obtain ⟨x, y, rfl, hx, hy⟩ := vs2 hV
 rw [hx.itv, hy.itv]
 obtain ⟨m, rfl⟩ := Int.eq_ofNat_of_zero_le h0
 obtain ⟨n, rfl⟩ := Int.eq_ofNat_of_zero_le h2
 refine Calls.mono (hc m n (by omega) (by omega) G.w) ?_
 rintro e w' ⟨rfl, rfl⟩
 refine ⟨_, rfl, fun G' => .tup _ _ rfl fun j u x hu hx => ?_, Below.refl _ _⟩
 match j with
 | 0 => simp at hu hx; subst hu; subst hx; exact .it _ _
 | 1 => simp at hu hx; subst hu; subst hx; exact .it _ _
 | j + 2 => simp at hu
end Go.AV
end
noncomputable section
namespace Go.Proofs
open Go.Shelf
def Try.lays264_ren : Go.Shelf.Ren := ⟨fun | 264 => 60 | n => n, fun | 53 => 105 | 46 => 108 | n => n, fun | n => n⟩
theorem Try.lays264 : Go.Proofs.Lays.n264 Try.prog Try.lays264_ren := {
 mixed := by kernel_rfl
 f264 := Try.func60.trans (congrArg some (by kernel_rfl))
 t46 := Try.underlying108
 a46 := Try.isAgg108
 z46 := Try.sizeOf108
 v46 := Try.zeroValue108
 t53 := Try.underlying105
 a53 := Try.isAgg105
 z53 := Try.sizeOf105
 v53 := Try.zeroValue105 }
open Go.RowKit Go.Lib in
theorem Try.bits_Mul64 (x y : Nat) (hx : x < 18446744073709551616) (hy : y < 18446744073709551616) (w : World) :
  Calls Try.prog 60 #[.int .u64 x, .int .u64 y] w fun e w' => e = .returned (.tuple #[.int .u64 ((x * y / 18446744073709551616 : Nat) : Int), .int .u64 ((x * y % 18446744073709551616 : Nat) : Int)]) /\ w' = w := Any.bits_Mul64 Try.lays264 x y hx hy w
end Go.Proofs
end
noncomputable section
namespace Go.Proofs.Ytkfingiebkgleaa
open Go.AV
def cF (P : Program) (f : FuncId) : AFn := (trF P f).getD ⟨0, [], .skip⟩
theorem tF {P : Program} {f : FuncId} (h : (trF P f).isSome = true) : trF P f = some (cF P f) := by
 obtain ⟨c, e⟩ := Option.isSome_iff_exists.1 h
 unfold cF; rw [e]; rfl
def c3 : AFn := cF Try.prog 3
theorem t3 : trF Try.prog 3 = some c3 := tF (by kernel_rfl)
def c4 : AFn := cF Try.prog 4
theorem t4 : trF Try.prog 4 = some c4 := tF (by kernel_rfl)
def c5 : AFn := cF Try.prog 5
theorem t5 : trF Try.prog 5 = some c5 := tF (by kernel_rfl)
def c6 : AFn := cF Try.prog 6
theorem t6 : trF Try.prog 6 = some c6 := tF (by kernel_rfl)
def c7 : AFn := cF Try.prog 7
theorem t7 : trF Try.prog 7 = some c7 := tF (by kernel_rfl)
def c8 : AFn := cF Try.prog 8
theorem t8 : trF Try.prog 8 = some c8 := tF (by kernel_rfl)
def c9 : AFn := cF Try.prog 9
theorem t9 : trF Try.prog 9 = some c9 := tF (by kernel_rfl)
def c10 : AFn := cF Try.prog 10
theorem t10 : trF Try.prog 10 = some c10 := tF (by kernel_rfl)
def yyS : List AO := [⟨some 1, none, .box 36 8 (.t 0)⟩,
 ⟨some 2, none, .mv (.c (.sl true 0 []))⟩]
def yyM : List AO := [⟨some 3, none, .box 34 1 (.c (.sl true 0 []))⟩]
def yyz : List AO := [⟨some 5, none, .ld true 8 (.t 1)⟩,
 ⟨some 6, none, .call 25 [(.t 5)]⟩]
def yyW : List AO := [⟨some 17, none, .ld false 1 (.t 3)⟩,
 ⟨some 2, none, .mv (.t 17)⟩]
set_option maxRecDepth 1000000 in
def c11 : AFn := ⟨18, [(2, none)],
 (.seq (.ops yyS)
 (.seq (.ops yyM)
 (.seq (.seq (.ops yyz)
 (.block 0 (.rng 18 (.t 6) (rngX Try.prog 11 0).1 (rngX Try.prog 11 0).2.1 (rngX Try.prog 11 0).2.2)))
 (.seq (.ops yyW)
 .ret))))⟩
set_option maxRecDepth 1000000 in
theorem t11 : trF Try.prog 11 = some c11 := by kernel_rfl
def ytp : List AO := [⟨some 4, none, .box 36 8 (.c (.agg [(.it .i64 0), (.it .i64 0), (.it .i64 0), (.it .i64 0), (.st []), (.st []), (.st []), (.sl true 0 [])]))⟩,
 ⟨none, none, .sto 8 (.t 4) (.t 7)⟩]
def yse : ydt := (.ops ytp)
theorem ywW : trC Try.prog 18 (rngX Try.prog 11 0).2.1 = some yse := by kernel_rfl
def ytP : List AO := [⟨some 8, none, .fad 0 (.t 4)⟩,
 ⟨some 9, none, .ld false 1 (.t 8)⟩,
 ⟨some 10, none, .eq false 1 (.t 9) (.c (.it .i64 8))⟩]
def yqM : List (AO × List Nat) := [(⟨some 11, none, .ld false 1 (.t 3)⟩, []),
 (⟨some 12, none, .ld true 8 (.t 4)⟩, []),
 (⟨some 13, none, .len (.t 11)⟩, []),
 (⟨some 14, none, .bsl 36 8 1 [(.it .i64 0), (.it .i64 0), (.it .i64 0), (.it .i64 0), (.st []), (.st []), (.st []), (.sl true 0 [])] [(0, 8, (.c (.agg [(.it .i64 0), (.it .i64 0), (.it .i64 0), (.it .i64 0), (.st []), (.st []), (.st []), (.sl true 0 [])])))]⟩, [0, 1, 2]),
 (⟨some 15, none, .app 36 8 104 (.t 11) (.t 14)⟩, []),
 (⟨some 16, none, .iad 8 (.t 15) (.t 13)⟩, []),
 (⟨none, none, .sto 8 (.t 16) (.t 12)⟩, []),
 (⟨none, none, .sto 1 (.t 3) (.t 15)⟩, [5, 6])]
def yqJ : ydt := (.block 1 (.seq (.ops ytP)
 (.cond (.t 10) (.drw yqM)
 .skip)))
theorem ywD : trC Try.prog 18 (rngX Try.prog 11 0).2.2 = some yqJ := by kernel_rfl
def c12 : AFn := cF Try.prog 12
theorem t12 : trF Try.prog 12 = some c12 := tF (by kernel_rfl)
def c13 : AFn := cF Try.prog 13
theorem t13 : trF Try.prog 13 = some c13 := tF (by kernel_rfl)
def c14 : AFn := cF Try.prog 14
theorem t14 : trF Try.prog 14 = some c14 := tF (by kernel_rfl)
def c15 : AFn := cF Try.prog 15
theorem t15 : trF Try.prog 15 = some c15 := tF (by kernel_rfl)
def c16 : AFn := cF Try.prog 16
theorem t16 : trF Try.prog 16 = some c16 := tF (by kernel_rfl)
def c17 : AFn := cF Try.prog 17
theorem t17 : trF Try.prog 17 = some c17 := tF (by kernel_rfl)
def c18 : AFn := cF Try.prog 18
theorem t18 : trF Try.prog 18 = some c18 := tF (by kernel_rfl)
def c19 : AFn := cF Try.prog 19
theorem t19 : trF Try.prog 19 = some c19 := tF (by kernel_rfl)
def c20 : AFn := cF Try.prog 20
theorem t20 : trF Try.prog 20 = some c20 := tF (by kernel_rfl)
def c21 : AFn := cF Try.prog 21
theorem t21 : trF Try.prog 21 = some c21 := tF (by kernel_rfl)
def c22 : AFn := cF Try.prog 22
theorem t22 : trF Try.prog 22 = some c22 := tF (by kernel_rfl)
def c23 : AFn := cF Try.prog 23
theorem t23 : trF Try.prog 23 = some c23 := tF (by kernel_rfl)
def c24 : AFn := cF Try.prog 24
theorem t24 : trF Try.prog 24 = some c24 := tF (by kernel_rfl)
def yyy : List AO := [⟨some 1, none, .box 36 8 (.t 0)⟩,
 ⟨some 2, none, .mv (.c .nfn)⟩]
def yyh : List AO := [⟨some 3, none, .mkf (.func 40) [] [(.t 1)]⟩,
 ⟨some 2, none, .mv (.t 3)⟩]
set_option maxRecDepth 1000000 in
def c25 : AFn := ⟨4, [(2, none)],
 (.seq (.ops yyy)
 (.seq (.ops yyh)
 .ret))⟩
set_option maxRecDepth 1000000 in
theorem t25 : trF Try.prog 25 = some c25 := by kernel_rfl
def c26 : AFn := cF Try.prog 26
theorem t26 : trF Try.prog 26 = some c26 := tF (by kernel_rfl)
def c27 : AFn := cF Try.prog 27
theorem t27 : trF Try.prog 27 = some c27 := tF (by kernel_rfl)
def c28 : AFn := cF Try.prog 28
theorem t28 : trF Try.prog 28 = some c28 := tF (by kernel_rfl)
def c29 : AFn := cF Try.prog 29
theorem t29 : trF Try.prog 29 = some c29 := tF (by kernel_rfl)
def c30 : AFn := cF Try.prog 30
theorem t30 : trF Try.prog 30 = some c30 := tF (by kernel_rfl)
def c31 : AFn := cF Try.prog 31
theorem t31 : trF Try.prog 31 = some c31 := tF (by kernel_rfl)
def c32 : AFn := cF Try.prog 32
theorem t32 : trF Try.prog 32 = some c32 := tF (by kernel_rfl)
def c33 : AFn := cF Try.prog 33
theorem t33 : trF Try.prog 33 = some c33 := tF (by kernel_rfl)
def c34 : AFn := cF Try.prog 34
theorem t34 : trF Try.prog 34 = some c34 := tF (by kernel_rfl)
def c35 : AFn := cF Try.prog 35
theorem t35 : trF Try.prog 35 = some c35 := tF (by kernel_rfl)
def c36 : AFn := cF Try.prog 36
theorem t36 : trF Try.prog 36 = some c36 := tF (by kernel_rfl)
def c37 : AFn := cF Try.prog 37
theorem t37 : trF Try.prog 37 = some c37 := tF (by kernel_rfl)
def c38 : AFn := cF Try.prog 38
theorem t38 : trF Try.prog 38 = some c38 := tF (by kernel_rfl)
def c39 : AFn := cF Try.prog 39
theorem t39 : trF Try.prog 39 = some c39 := tF (by kernel_rfl)
def yyv : List AO := [⟨some 3, none, .ld true 8 (.t 1)⟩,
 ⟨some 4, none, .mv (.t 0)⟩,
 ⟨some 5, none, .call 41 [(.t 3), (.t 4)]⟩]
set_option maxRecDepth 1000000 in
def c40 : AFn := ⟨6, [],
 (.ops yyv)⟩
set_option maxRecDepth 1000000 in
theorem t40 : trF Try.prog 40 = some c40 := by kernel_rfl
def yyb : List AO := [⟨some 2, none, .box 36 8 (.t 0)⟩,
 ⟨some 4, none, .mv (.c (.bl false))⟩]
def yyx : List AO := [⟨some 7, none, .mv (.t 1)⟩,
 ⟨some 8, none, .ld true 8 (.t 2)⟩,
 ⟨some 9, none, .calv (.t 7) [(.t 8)]⟩,
 ⟨some 10, none, .un .not (.t 9)⟩]
def yyu : List AO := [⟨some 4, none, .mv (.c (.bl false))⟩]
def yyX : List AO := [⟨some 11, none, .fad 7 (.t 2)⟩,
 ⟨some 12, none, .ld false 1 (.t 11)⟩,
 ⟨some 13, none, .len (.t 12)⟩,
 ⟨some 14, none, .mv (.c (.it .i64 0))⟩]
def yyA : List AO := [⟨some 15, none, .bin .lss (.t 14) (.t 13)⟩]
def yyn : List AO := [⟨some 16, none, .iad 8 (.t 12) (.t 14)⟩,
 ⟨some 17, none, .ld true 8 (.t 16)⟩,
 ⟨some 6, none, .box 36 8 (.c (.agg [(.it .i64 0), (.it .i64 0), (.it .i64 0), (.it .i64 0), (.st []), (.st []), (.st []), (.sl true 0 [])]))⟩,
 ⟨none, none, .sto 8 (.t 6) (.t 17)⟩]
def yyg : List AO := [⟨some 18, none, .ld true 8 (.t 6)⟩,
 ⟨some 19, none, .mv (.t 1)⟩,
 ⟨some 20, none, .call 41 [(.t 18), (.t 19)]⟩,
 ⟨some 21, none, .un .not (.t 20)⟩]
def yyP : List AO := [⟨some 4, none, .mv (.c (.bl false))⟩]
def yx0 : List AO := [⟨some 22, none, .bin .add (.t 14) (.c (.it .i64 1))⟩,
 ⟨some 14, none, .mv (.t 22)⟩]
def yyR : List AO := [⟨some 4, none, .mv (.c (.bl true))⟩]
set_option maxRecDepth 1000000 in
def c41 : AFn := ⟨23, [(4, none)],
 (.seq (.ops yyb)
 (.seq (.seq (.ops yyx)
 (.cond (.t 10) (.seq (.ops yyu)
 .ret)
 .skip))
 (.seq (.seq (.ops yyX)
 (.block 0 (.loop (.seq (.ops yyA)
 (.seq (.cond (.t 15) .skip
 (.exit 0))
 (.seq (.block 1 (.seq (.ops yyn)
 (.seq (.ops yyg)
 (.cond (.t 21) (.seq (.ops yyP)
 .ret)
 .skip))))
 (.ops yx0)))))))
 (.seq (.ops yyR)
 .ret))))⟩
set_option maxRecDepth 1000000 in
theorem t41 : trF Try.prog 41 = some c41 := by kernel_rfl
def c42 : AFn := cF Try.prog 42
theorem t42 : trF Try.prog 42 = some c42 := tF (by kernel_rfl)
def c43 : AFn := cF Try.prog 43
theorem t43 : trF Try.prog 43 = some c43 := tF (by kernel_rfl)
def c44 : AFn := cF Try.prog 44
theorem t44 : trF Try.prog 44 = some c44 := tF (by kernel_rfl)
def c45 : AFn := cF Try.prog 45
theorem t45 : trF Try.prog 45 = some c45 := tF (by kernel_rfl)
def c46 : AFn := cF Try.prog 46
theorem t46 : trF Try.prog 46 = some c46 := tF (by kernel_rfl)
def c47 : AFn := cF Try.prog 47
theorem t47 : trF Try.prog 47 = some c47 := tF (by kernel_rfl)
def c48 : AFn := cF Try.prog 48
theorem t48 : trF Try.prog 48 = some c48 := tF (by kernel_rfl)
def c49 : AFn := cF Try.prog 49
theorem t49 : trF Try.prog 49 = some c49 := tF (by kernel_rfl)
def c50 : AFn := cF Try.prog 50
theorem t50 : trF Try.prog 50 = some c50 := tF (by kernel_rfl)
def c51 : AFn := cF Try.prog 51
theorem t51 : trF Try.prog 51 = some c51 := tF (by kernel_rfl)
def c52 : AFn := cF Try.prog 52
theorem t52 : trF Try.prog 52 = some c52 := tF (by kernel_rfl)
def c53 : AFn := cF Try.prog 53
theorem t53 : trF Try.prog 53 = some c53 := tF (by kernel_rfl)
def c54 : AFn := cF Try.prog 54
theorem t54 : trF Try.prog 54 = some c54 := tF (by kernel_rfl)
def c55 : AFn := cF Try.prog 55
theorem t55 : trF Try.prog 55 = some c55 := tF (by kernel_rfl)
def c56 : AFn := cF Try.prog 56
theorem t56 : trF Try.prog 56 = some c56 := tF (by kernel_rfl)
def c57 : AFn := cF Try.prog 57
theorem t57 : trF Try.prog 57 = some c57 := tF (by kernel_rfl)
def c58 : AFn := cF Try.prog 58
theorem t58 : trF Try.prog 58 = some c58 := tF (by kernel_rfl)
def c59 : AFn := cF Try.prog 59
theorem t59 : trF Try.prog 59 = some c59 := tF (by kernel_rfl)
end Go.Proofs.Ytkfingiebkgleaa
end
noncomputable section
namespace Go.Proofs.Ytkfingiebkgleaa
open Go.AV Go.RowKit
structure yah where
 Kind : Int
 Op : Int
 Value : Int
 Parts : Int
 N : Int
 Name : Str
 Table : Str
structure yan where
 Table : Int
 Name : Int
 Kind : Int
 Null : Bool
 N : Int
 S : Str
structure yaa where
 Kind : Int
 N : Int
 S : Str
inductive yab where
 | mk (Kind : Int) (Op : Int) (V : yaa) (Table : Str) (Name : Str) (L : (List yab))
def yab.Kind : yab → Int
 | .mk y _ _ _ _ _ => y
def yab.Op : yab → Int
 | .mk _ y _ _ _ _ => y
def yab.V : yab → yaa
 | .mk _ _ y _ _ _ => y
def yab.Table : yab → Str
 | .mk _ _ _ y _ _ => y
def yab.Name : yab → Str
 | .mk _ _ _ _ y _ => y
def yab.L : yab → (List yab)
 | .mk _ _ _ _ _ y => y
structure yac where
 Kind : Int
 N : Int
 S : Str
inductive yad where
 | mk (Kind : Int) (Op : Int) (V : yac) (Table : Str) (Name : Str) (L : (List yad))
def yad.Kind : yad → Int
 | .mk y _ _ _ _ _ => y
def yad.Op : yad → Int
 | .mk _ y _ _ _ _ => y
def yad.V : yad → yac
 | .mk _ _ y _ _ _ => y
def yad.Table : yad → Str
 | .mk _ _ _ y _ _ => y
def yad.Name : yad → Str
 | .mk _ _ _ _ y _ => y
def yad.L : yad → (List yad)
 | .mk _ _ _ _ _ y => y
structure yae where
 Table : Str
 Name : Str
 Kind : Int
structure yaf where
 Table : Str
 Name : Str
 Kind : Int
inductive TC where
 | c0
 | c2
 | c3
 | c4
 | c5
 | c9
 | c22
 | c23
 | c26
 | c27
 | c29
 | c33
 | c34
 | c36
 | c38
 | c39
 | c40
 | c41
 | c44
 | c58
 | c62
 | c66
 | c69
 | c70
 | c105
def KF : TC → Type
 | .c0 => Unit
 | .c2 => Int
 | .c3 => Int
 | .c4 => Bool
 | .c5 => Int
 | .c9 => Str
 | .c22 => (List yah)
 | .c23 => (List yan)
 | .c26 => yaa
 | .c27 => (List yab)
 | .c29 => yab
 | .c33 => yac
 | .c34 => (List yad)
 | .c36 => yad
 | .c38 => (List yae)
 | .c39 => (List yaf)
 | .c40 => (List yac)
 | .c41 => (List yaa)
 | .c44 => Int
 | .c58 => yae
 | .c62 => yah
 | .c66 => yan
 | .c69 => yaf
 | .c70 => (List Int)
 | .c105 => Int
def yyU : List (Nat × TC) := [(2, .c2), (3, .c3), (4, .c4), (5, .c5), (9, .c9), (22, .c22), (23, .c23), (26, .c26), (27, .c27), (29, .c29), (33, .c33), (34, .c34), (36, .c36), (38, .c38), (39, .c39), (40, .c40), (41, .c41), (44, .c44), (58, .c58), (62, .c62), (66, .c66), (69, .c69), (70, .c70), (105, .c105)]
def code (t : Nat) : TC := lkC .c0 yyU t
abbrev KK (t : Nat) : Type := KF (code t)
def ybP : Enc yah := ym9 ((ybm (tbI .u8) (ybm (tbI .u8) (ybm (tbI .u8) (ybm (tbI .u8) (ybm (tbI .i64) (ybm tbS tbS)))))) : Tb KK _).E (fun x : yah => (x.Kind, x.Op, x.Value, x.Parts, x.N, x.Name, x.Table))
def b62 : Tb KK yah := ymQ (ybm (tbI .u8) (ybm (tbI .u8) (ybm (tbI .u8) (ybm (tbI .u8) (ybm (tbI .i64) (ybm tbS tbS)))))) (fun x : yah => (x.Kind, x.Op, x.Value, x.Parts, x.N, x.Name, x.Table)) (fun y => (⟨y.1, y.2.1, y.2.2.1, y.2.2.2.1, y.2.2.2.2.1, y.2.2.2.2.2.1, y.2.2.2.2.2.2⟩ : yah)) ybP
def ybM : Enc yan := ym9 ((ybm (tbI .u8) (ybm (tbI .u8) (ybm (tbI .u8) (ybm tbB (ybm (tbI .i64) tbS))))) : Tb KK _).E (fun x : yan => (x.Table, x.Name, x.Kind, x.Null, x.N, x.S))
def b66 : Tb KK yan := ymQ (ybm (tbI .u8) (ybm (tbI .u8) (ybm (tbI .u8) (ybm tbB (ybm (tbI .i64) tbS))))) (fun x : yan => (x.Table, x.Name, x.Kind, x.Null, x.N, x.S)) (fun y => (⟨y.1, y.2.1, y.2.2.1, y.2.2.2.1, y.2.2.2.2.1, y.2.2.2.2.2⟩ : yan)) ybM
def ybq : Enc yaa := ym9 ((ybm (tbI .i64) (ybm (tbI .i64) tbS)) : Tb KK _).E (fun x : yaa => (x.Kind, x.N, x.S))
def b26 : Tb KK yaa := ymQ (ybm (tbI .i64) (ybm (tbI .i64) tbS)) (fun x : yaa => (x.Kind, x.N, x.S)) (fun y => (⟨y.1, y.2.1, y.2.2⟩ : yaa)) ybq
mutual
def yaP : yab → List AV
 | .mk v_Kind v_Op v_V v_Table v_Name v_L => ([.it .i64 v_Kind]) ++ ([.it .i64 v_Op]) ++ (ybq.c v_V) ++ ([.st v_Table]) ++ ([.st v_Name]) ++ ([.sl false v_L.length (ycs v_L)])
def ycs : List yab → List AV
 | [] => []
 | x :: r => yaP x ++ ycs r
end
theorem ygl : ∀ l, ycs l = l.flatMap yaP
 | [] => rfl
 | x :: r => by simp only [ycs, List.flatMap_cons, ygl r]
mutual
theorem yko : ∀ x, (yaP x).length = 8
 | .mk v_Kind v_Op v_V v_Table v_Name v_L => by first | (simp [yaP, ybq.len]; done) | (simp [yaP, ybq.len]; rfl)
end
mutual
theorem ylM : ∀ x, noLs (yaP x) = true
 | .mk v_Kind v_Op v_V v_Table v_Name v_L => by simp [yaP, yf6, noLs, AV.noL, slA, ybq.no]
end
mutual
theorem yj6 : ∀ x, (yaP x).all AV.one = true
 | .mk v_Kind v_Op v_V v_Table v_Name v_L => by simp only [yaP, List.all_append, List.all_cons, List.all_nil, AV.one, slA, Bool.and_true, Bool.true_and, ybq.one]
end
def ydp : Enc yab := ⟨yaP, 8, by omega, yko, ylM, yj6⟩
def b29 : Tb KK yab := ymQ (ybm (tbI .i64) (ybm (tbI .i64) (ybm b26 (ybm tbS (ybm tbS (tbL 29 ydp : Tb KK (List yab))))))) (fun x : yab => (x.Kind, x.Op, x.V, x.Table, x.Name, x.L)) (fun y => (yab.mk y.1 y.2.1 y.2.2.1 y.2.2.2.1 y.2.2.2.2.1 y.2.2.2.2.2)) ydp
def ybn : Enc yac := ym9 ((ybm (tbI .i64) (ybm (tbI .i64) tbS)) : Tb KK _).E (fun x : yac => (x.Kind, x.N, x.S))
def b33 : Tb KK yac := ymQ (ybm (tbI .i64) (ybm (tbI .i64) tbS)) (fun x : yac => (x.Kind, x.N, x.S)) (fun y => (⟨y.1, y.2.1, y.2.2⟩ : yac)) ybn
mutual
def yai : yad → List AV
 | .mk v_Kind v_Op v_V v_Table v_Name v_L => ([.it .i64 v_Kind]) ++ ([.it .i64 v_Op]) ++ (ybn.c v_V) ++ ([.st v_Table]) ++ ([.st v_Name]) ++ ([.sl false v_L.length (yaj v_L)])
def yaj : List yad → List AV
 | [] => []
 | x :: r => yai x ++ yaj r
end
theorem yeq : ∀ l, yaj l = l.flatMap yai
 | [] => rfl
 | x :: r => by simp only [yaj, List.flatMap_cons, yeq r]
mutual
theorem yaK : ∀ x, (yai x).length = 8
 | .mk v_Kind v_Op v_V v_Table v_Name v_L => by first | (simp [yai, ybn.len]; done) | (simp [yai, ybn.len]; rfl)
end
mutual
theorem ybY : ∀ x, noLs (yai x) = true
 | .mk v_Kind v_Op v_V v_Table v_Name v_L => by simp [yai, yf6, noLs, AV.noL, slA, ybn.no]
end
mutual
theorem ycd : ∀ x, (yai x).all AV.one = true
 | .mk v_Kind v_Op v_V v_Table v_Name v_L => by simp only [yai, List.all_append, List.all_cons, List.all_nil, AV.one, slA, Bool.and_true, Bool.true_and, ybn.one]
end
def yaV : Enc yad := ⟨yai, 8, by omega, yaK, ybY, ycd⟩
def b36 : Tb KK yad := ymQ (ybm (tbI .i64) (ybm (tbI .i64) (ybm b33 (ybm tbS (ybm tbS (tbL 36 yaV : Tb KK (List yad))))))) (fun x : yad => (x.Kind, x.Op, x.V, x.Table, x.Name, x.L)) (fun y => (yad.mk y.1 y.2.1 y.2.2.1 y.2.2.2.1 y.2.2.2.2.1 y.2.2.2.2.2)) yaV
def yeb : Enc yae := ym9 ((ybm tbS (ybm tbS (tbI .i64))) : Tb KK _).E (fun x : yae => (x.Table, x.Name, x.Kind))
def b58 : Tb KK yae := ymQ (ybm tbS (ybm tbS (tbI .i64))) (fun x : yae => (x.Table, x.Name, x.Kind)) (fun y => (⟨y.1, y.2.1, y.2.2⟩ : yae)) yeb
def yef : Enc yaf := ym9 ((ybm tbS (ybm tbS (tbI .i64))) : Tb KK _).E (fun x : yaf => (x.Table, x.Name, x.Kind))
def b69 : Tb KK yaf := ymQ (ybm tbS (ybm tbS (tbI .i64))) (fun x : yaf => (x.Table, x.Name, x.Kind)) (fun y => (⟨y.1, y.2.1, y.2.2⟩ : yaf)) yef
def TF : (c : TC) → Tb KK (KF c)
 | .c0 => tbU
 | .c2 => (tbI .i64)
 | .c3 => (tbI .i64)
 | .c4 => tbB
 | .c5 => (tbI .u8)
 | .c9 => tbS
 | .c22 => (tbL 62 ybP : Tb KK (List yah))
 | .c23 => (tbL 66 ybM : Tb KK (List yan))
 | .c26 => b26
 | .c27 => (tbL 29 ydp : Tb KK (List yab))
 | .c29 => b29
 | .c33 => b33
 | .c34 => (tbL 36 yaV : Tb KK (List yad))
 | .c36 => b36
 | .c38 => (tbL 58 yeb : Tb KK (List yae))
 | .c39 => (tbL 69 yef : Tb KK (List yaf))
 | .c40 => (tbL 33 ybn : Tb KK (List yac))
 | .c41 => (tbL 26 ybq : Tb KK (List yaa))
 | .c44 => (tbI .i64)
 | .c58 => b58
 | .c62 => b62
 | .c66 => b66
 | .c69 => b69
 | .c70 => (tbL 3 (eI .i64) : Tb KK (List Int))
 | .c105 => (tbI .u64)
def CC : Cx KK := @cxOf TC KF code TF
theorem yug : TbOk Try.prog CC b62 := yeM (yaJ (ycK _) (yaJ (ycK _) (yaJ (ycK _) (yaJ (ycK _) (yaJ (ycK _) (yaJ yeJ yeJ)))))) (fun y => rfl) (fun x => rfl)
theorem yoA : ∀ x, dwks (ybP.c x) = ybP.c x := yug.dw
theorem yt4 : TbOk Try.prog CC b66 := yeM (yaJ (ycK _) (yaJ (ycK _) (yaJ (ycK _) (yaJ yus (yaJ (ycK _) yeJ))))) (fun y => rfl) (fun x => rfl)
theorem yn8 : ∀ x, dwks (ybM.c x) = ybM.c x := yt4.dw
theorem yrT : TbOk Try.prog CC b26 := yeM (yaJ (ycK _) (yaJ (ycK _) yeJ)) (fun y => rfl) (fun x => rfl)
theorem yhE : ∀ x, dwks (ybq.c x) = ybq.c x := yrT.dw
mutual
theorem ygN : ∀ x, dwks (yaP x) = yaP x
 | .mk v_Kind v_Op v_V v_Table v_Name v_L => by simp only [yaP, yb3, dwks, dwk, slA, ygg v_L, yhE]
theorem ygg : ∀ l, dwks (ycs l) = ycs l
 | [] => rfl
 | x :: r => by simp only [ycs, yb3, ygN x, ygg r]
end
theorem yi7 : ∀ x, dwks (ydp.c x) = ydp.c x := ygN
theorem ywL : TbOk Try.prog CC b29 := yeM (yaJ (ycK _) (yaJ (ycK _) (yaJ yrT (yaJ yeJ (yaJ yeJ (ygY _ rfl yi7)))))) (fun y => rfl) (fun x => by cases x; simp only [ydp, yaP, ygl]; rfl)
theorem yrS : TbOk Try.prog CC b33 := yeM (yaJ (ycK _) (yaJ (ycK _) yeJ)) (fun y => rfl) (fun x => rfl)
theorem yht : ∀ x, dwks (ybn.c x) = ybn.c x := yrS.dw
mutual
theorem yhH : ∀ x, dwks (yai x) = yai x
 | .mk v_Kind v_Op v_V v_Table v_Name v_L => by simp only [yai, yb3, dwks, dwk, slA, yg0 v_L, yht]
theorem yg0 : ∀ l, dwks (yaj l) = yaj l
 | [] => rfl
 | x :: r => by simp only [yaj, yb3, yhH x, yg0 r]
end
theorem yjX : ∀ x, dwks (yaV.c x) = yaV.c x := yhH
theorem yxj : TbOk Try.prog CC b36 := yeM (yaJ (ycK _) (yaJ (ycK _) (yaJ yrS (yaJ yeJ (yaJ yeJ (ygY _ rfl yjX)))))) (fun y => rfl) (fun x => by cases x; simp only [yaV, yai, yeq]; rfl)
theorem yuD : TbOk Try.prog CC b58 := yeM (yaJ yeJ (yaJ yeJ (ycK _))) (fun y => rfl) (fun x => rfl)
theorem ymH : ∀ x, dwks (yeb.c x) = yeb.c x := yuD.dw
theorem yui : TbOk Try.prog CC b69 := yeM (yaJ yeJ (yaJ yeJ (ycK _))) (fun y => rfl) (fun x => rfl)
theorem ymT : ∀ x, dwks (yef.c x) = yef.c x := yui.dw
theorem ybe : CxOk Try.prog CC := @yvF TC KF code _ TF fun c => match c with
 | .c0 => yxw
 | .c2 => (ycK _)
 | .c3 => (ycK _)
 | .c4 => yus
 | .c5 => (ycK _)
 | .c9 => yeJ
 | .c22 => (ygY _ rfl yoA)
 | .c23 => (ygY _ rfl yn8)
 | .c26 => yrT
 | .c27 => (ygY _ rfl yi7)
 | .c29 => ywL
 | .c33 => yrS
 | .c34 => (ygY _ rfl yjX)
 | .c36 => yxj
 | .c38 => (ygY _ rfl ymH)
 | .c39 => (ygY _ rfl ymT)
 | .c40 => (ygY _ rfl yht)
 | .c41 => (ygY _ rfl yhE)
 | .c44 => (ycK _)
 | .c58 => yuD
 | .c62 => yug
 | .c66 => yt4
 | .c69 => yui
 | .c70 => (ygY _ rfl (fun _ => rfl))
 | .c105 => (ycK _)
end Go.Proofs.Ytkfingiebkgleaa
end
noncomputable section
namespace Go.AV
open Go.RowKit Go.RG Go.Lib
section
variable {P : Program} {B : Base} [GB P B] {S : St} {G : Gh}
theorem yuO (h : MRel B S G) {q n : Nat} {b : Blk} {v : Value} (hv : VR G (.gs (.h q) n) v) (hm : S.M (.h q) = some b) (hl : b.cells.length = n * b.sz) (hz : b.sz ≠ 0) (hqn : noLs b.cells = true) : ∃ G', MRel B (S.kill (.h q)) G' ∧ LE G G' ∧ G'.w = G.w ∧ VR G' (.sl false n b.cells) v := by
 obtain ⟨g, cap, hk, e⟩ := hv.gs_inv h (by simp [yaM, hm])
 obtain ⟨r, hr, hb⟩ := h.κcell hm hz
 rw [hk] at hr; cases hr
 obtain ⟨G', e1, e2, e3, e4, e5⟩ := h.kill true (S' := S.kill (.h q)) hk rfl
 refine ⟨G', e4, e5, e1, ?_⟩
 obtain ⟨cur, c1, c2, c3, c4, c5, c6, c7⟩ := hb
 have hnc : n ≤ cap := by
  have : n * b.sz <= cap * b.sz := by rw [<- hl, <- c2]; exact c5
  exact Nat.le_of_mul_le_mul_right this c4
 rw [e]
 have hcell : ∀ (j : Nat) (u : AV), b.cells[j]? = some u → ∃ x, cur[j]? = some x := by
  intro j u hu
  have hj : j < cur.size := Nat.lt_of_lt_of_le (List.getElem?_eq_some_iff.1 hu).1 c5
  exact ⟨cur[j], Array.getElem?_eq_getElem hj⟩
 refine .sl n b.cells g 0 cap (fun j => (cur[j]?).getD undef) (e2 rfl) ?_ ?_ ?_ hnc (Nat.le_trans hnc c3) hqn
 ·intro j u hu
  obtain ⟨x, hx⟩ := hcell j u hu
  rw [e1]
  simp only [World.cell?, Nat.zero_add]
  simp [c1, hx]
 ·intro j u hu
  obtain ⟨x, hx⟩ := hcell j u hu
  rw [hx]; exact (c6 j u x hu hx).le e5
 ·intro j u hu
  obtain ⟨x, hx⟩ := hcell j u hu
  rw [hx]; exact c7 j x (List.getElem?_eq_some_iff.1 hu).1 hx
end
mutual
def hlt (n : Nat) : AV → Bool
 | .agg cs => hlts n cs
 | .tup cs => hlts n cs
 | .gs (.h o) _ => decide (o < n)
 | .pt (.h o) _ => decide (o < n)
 | .yld o => decide (o < n)
 | .fn _ a c => hlts n a && hlts n c
 | .sl _ _ xs => hlts n xs
 | .ep xs _ => hlts n xs
 | _ => true
def hlts (n : Nat) : List AV → Bool
 | [] => true
 | u :: r => hlt n u && hlts n r
end
theorem yng {n : Nat} : ∀ {l : List AV}, (∀ (j : Nat) (u : AV), l[j]? = some u → hlt n u = true) → hlts n l = true
 | [], _ => rfl
 | u :: r, h => by
   simp only [hlts, Bool.and_eq_true]
   exact ⟨h 0 u rfl, yng fun j u hu => h (j + 1) u (by simpa using hu)⟩
theorem yhU {n : Nat} : ∀ {l : List AV}, hlts n l = true → ∀ (j : Nat) (u : AV), l[j]? = some u → hlt n u = true
 | [], _, j, u, hu => by simp at hu
 | x :: r, h, j, u, hu => by
   simp only [hlts, Bool.and_eq_true] at h
   cases j with
   | zero => simp at hu; subst hu; exact h.1
   | succ j => exact yhU h.2 j u (by simpa using hu)
theorem VR.hlt {B : Base} {S : St} {G : Gh} (h0 : MRel B S G) {n : Nat} (hn : ∀ o, ybR S (.h o) → o < n) : ∀ {u : AV} {x : Value}, VR G u x → AV.hlt n u = true := by
 have ko : ∀ {o : Nat} {r : Nat × Nat}, G.κ (.h o) = some r → o < n := fun hk => by
  obtain ⟨b, hb, _⟩ := h0.Msome hk
  exact hn _ (h0.live _ b hb)
 have kd : ∀ {o : Nat}, G.dead (.h o) -> o < n := fun hd => hn _ ((h0.dead _).1 hd).2
 have arr : ∀ {us : List AV} {vs : Array Value}, vs.size = us.length → (∀ (j : Nat) (u : AV) (x : Value), us[j]? = some u → vs[j]? = some x → AV.hlt n u = true) → hlts n us = true := fun {us vs} hl h => yng fun j u hu => by
  have hj : j < vs.size := by rw [hl]; exact (List.getElem?_eq_some_iff.1 hu).1
  exact h j u vs[j] hu (Array.getElem?_eq_getElem hj)
 intro u x h
 induction h with
 | agg cs vs hl h h1 ih => simp only [AV.hlt]; exact arr hl ih
 | tup cs vs hl h ih => simp only [AV.hlt]; exact arr hl ih
 | nsl z n' xs hn hx => subst hx; rfl
 | esl n' xs hn hx a cap => subst hx; rfl
 | sl n' xs b off cap f hI hc h h1 hn hm hq ih => simp only [AV.hlt]; exact yng fun j u hu => ih j u hu
 | gs k n' b cap hk => cases k with | l d c => rfl | h o => simp only [AV.hlt, decide_eq_true_eq]; exact ko hk
 | gsd k n' v hk h1 => cases k with | l d c => rfl | h o => simp only [AV.hlt, decide_eq_true_eq]; exact kd hk
 | pt k off b cap hk => cases k with | l d c => rfl | h o => simp only [AV.hlt, decide_eq_true_eq]; exact ko hk
 | ptd k off v hk h1 => cases k with | l d c => rfl | h o => simp only [AV.hlt, decide_eq_true_eq]; exact kd hk
 | ep xs off b base f hI hc h h1 hq ih => simp only [AV.hlt]; exact yng fun j u hu => ih j u hu
 | fn f a c va vc ha hc h h' ih ih' => simp only [AV.hlt, Bool.and_eq_true]; exact ⟨arr ha ih, arr hc ih'⟩
 | yld o l cap hk => simp only [AV.hlt, decide_eq_true_eq]; exact ko hk
 | yldd o v hk h1 => simp only [AV.hlt, decide_eq_true_eq]; exact kd hk
 | _ => rfl
theorem VR.shr {G G' : Gh} {n : Nat} (hκ : ∀ o r, o < n → G.κ (.h o) = some r → G'.κ (.h o) = some r) (hd : ∀ o, o < n → G.dead (.h o) → G'.dead (.h o)) (hI : ∀ b, G.I b → G'.I b) (hw : G'.w = G.w) : ∀ {u : AV} {x : Value}, VR G u x → u.noL = true → AV.hlt n u = true → VR G' u x := by
 intro u x h
 induction h with
 | bl b => exact fun _ _ => .bl b
 | it k n => exact fun _ _ => .it k n
 | st l s h => exact fun _ _ => .st l s h
 | agg cs vs hl h h1 ih => intro hn hh; simp only [AV.noL] at hn; simp only [AV.hlt] at hh; exact .agg cs vs hl (fun j u x a b => ih j u x a b (yaS hn j u a) (yhU hh j u a)) h1
 | tup cs vs hl h ih => intro hn hh; simp only [AV.noL] at hn; simp only [AV.hlt] at hh; exact .tup cs vs hl (fun j u x a b => ih j u x a b (yaS hn j u a) (yhU hh j u a))
 | nsl z n xs hn hx => exact fun _ _ => .nsl z n xs hn hx
 | esl n xs hn hx a cap => exact fun _ _ => .esl n xs hn hx a cap
 | sl n xs b off cap f hIb hc h h1 hn hm hq ih => intro _ hh; simp only [AV.hlt] at hh; exact .sl n xs b off cap f (hI b hIb) (fun j u a => by rw [hw]; exact hc j u a) (fun j u a => ih j u a (yaS hq j u a) (yhU hh j u a)) h1 hn hm hq
 | gs k n b cap hk => cases k with
   | l d c => intro hn; simp [AV.noL] at hn
   | h o => intro _ hh; simp only [AV.hlt, decide_eq_true_eq] at hh; exact .gs _ n b cap (hκ o _ hh hk)
 | gsd k n v hk h1 => cases k with
   | l d c => intro hn; simp [AV.noL] at hn
   | h o => intro _ hh; simp only [AV.hlt, decide_eq_true_eq] at hh; exact .gsd _ n v (hd o hh hk) h1
 | nptr => exact fun _ _ => .nptr
 | pt k off b cap hk => cases k with
   | l d c => intro hn; simp [AV.noL] at hn
   | h o => intro _ hh; simp only [AV.hlt, decide_eq_true_eq] at hh; exact .pt _ off b cap (hκ o _ hh hk)
 | ptd k off v hk h1 => cases k with
   | l d c => intro hn; simp [AV.noL] at hn
   | h o => intro _ hh; simp only [AV.hlt, decide_eq_true_eq] at hh; exact .ptd _ off v (hd o hh hk) h1
 | ep xs off b base f hIb hc h h1 hq ih => intro _ hh; simp only [AV.hlt] at hh; exact .ep xs off b base f (hI b hIb) (fun j u a => by rw [hw]; exact hc j u a) (fun j u a => ih j u a (yaS hq j u a) (yhU hh j u a)) h1 hq
 | fn f a c va vc ha hc h h' ih ih' =>
   intro hn hh
   simp only [AV.noL, Bool.and_eq_true] at hn
   simp only [AV.hlt, Bool.and_eq_true] at hh
   exact .fn f a c va vc ha hc (fun j u x p q => ih j u x p q (yaS hn.1 j u p) (yhU hh.1 j u p)) (fun j u x p q => ih' j u x p q (yaS hn.2 j u p) (yhU hh.2 j u p))
 | nfn => exact fun _ _ => .nfn
 | yld o l cap hk => intro _ hh; simp only [AV.hlt, decide_eq_true_eq] at hh; exact .yld o l cap (hκ o _ hh hk)
 | yldd o v hk h1 => intro _ hh; simp only [AV.hlt, decide_eq_true_eq] at hh; exact .yldd o v (hd o hh hk) h1
 | un v => exact fun _ _ => .un v
theorem yaA.shr {P : Program} {f : FuncId} {args : List AV} {H : Hp} {n : Nat} {Post : AV → Prop} (h : yaA P f args H n fun av H' n' => (∃ av', Post av' ∧ ((av' = av ∨ av = .sl true 0 [] ∧ av' = .sl false 0 []) ∨ ∃ q m b, av = .gs (.h q) m ∧ n ≤ q ∧ H' q = some b ∧ b.cells.length = m * b.sz ∧ b.sz ≠ 0 ∧ noLs b.cells = true ∧ av' = .sl false m b.cells)) ∧ (∀ o, o < n → H' o = H o) ∧ n ≤ n') (hp : ∀ av, Post av → av.noL = true ∧ ∀ m, hlt m av = true) : yaA P f args H n fun av H' n' => Post av ∧ H' = H ∧ n' = n := by
 intro G vs hg hM hV
 refine (h G vs hg hM hV).mono ?_
 rintro e w' ⟨v, av, H', n', G', rfl, ⟨⟨av', hP, hav⟩, hH, hn⟩, hM', rfl, hv, hno⟩
 haveI : GB P (ya4 G n) := GB.of hg hM
 obtain ⟨H1, G1, k1, k2, k3, k4⟩ : ∃ H1 G1, (∀ o, o < n → H1 o = H o) ∧ MRel (ya4 G n) (hSt H1 n') G1 ∧ G1.w = G'.w ∧ VR G1 av' v := by
  rcases hav with (rfl | ⟨rfl, rfl⟩) | ⟨q, m, b, rfl, hq, hb, h1, h2, h3, rfl⟩
  ·exact ⟨H', G', hH, hM', rfl, hv⟩
  ·refine ⟨H', G', hH, hM', rfl, ?_⟩
   cases hv with
   | nsl z n xs hn hx => exact .nsl _ _ _ rfl rfl
  ·obtain ⟨G1, a1, a2, a3, a4⟩ := yuO hM' hv hb h1 h2 h3
   refine ⟨fun o => if o = q then none else H' o, G1, fun o ho => ?_, ?_, a3, a4⟩
   ·show (if o = q then none else H' o) = H o
    rw [if_neg (by omega)]; exact hH o ho
   ·have : (hSt H' n').kill (.h q) = hSt (fun o => if o = q then none else H' o) n' := by
     unfold St.kill hSt
     congr 1
     funext k
     cases k with
     | l d c => rfl
     | h o => simp only [updK, Key.h.injEq]
    rw [<- this]; exact a1
 clear hv hno hav hM' hH
 obtain ⟨hno, hp⟩ := hp _ hP
 let G2 : Gh := ⟨fun k => match k with | .h o => if o < n then G1.κ (.h o) else none | .l _ _ => none, ydr (hSt H n), G1.I, G1.w⟩
 have hκ : ∀ o r, o < n -> G1.κ (.h o) = some r -> G2.κ (.h o) = some r := fun o r ho hr => (if_pos ho).trans hr
 have hd : ∀ o, o < n -> G1.dead (.h o) -> G2.dead (.h o) := fun o ho hq => ⟨(k1 o ho).symm.trans ((k2.dead _).1 hq).1, ho⟩
 have hsh : ∀ {u : AV} {x : Value}, VR G1 u x -> u.noL = true -> hlt n u = true -> VR G2 u x := VR.shr hκ hd (fun _ q => q) rfl
 have hl0 : ∀ d c, G1.κ (.l d c) = none := fun d c => k2.κnone rfl
 have hinv : ∀ k r, G2.κ k = some r → G1.κ k = some r ∧ ∃ o, k = .h o ∧ o < n := by
  intro k r hr
  cases k with
  | l d c => cases hr
  | h o =>
    have hr' : (if o < n then G1.κ (.h o) else none) = some r := hr
    split at hr'
    ·rename_i ho; exact ⟨hr', o, rfl, ho⟩
    ·cases hr'
 refine ⟨v, av', H, n, G2, rfl, ⟨hP, rfl, rfl⟩, ⟨?_, ?_, fun k => Iff.rfl, ?_, ?_, k2.lt, ?_, ?_, ?_, Nat.le_refl _, ?_, k2.I0, k2.I1, k2.os, k2.tape, k2.output, k2.size, k2.same, hM.hno⟩, k3, hsh k4 hno (hp n), hno⟩
 ·intro k
  cases k with
  | l d c => trivial
  | h o =>
    show yat G2 (H o) (if o < n then G1.κ (.h o) else none)
    cases hb : H o with
    | none =>
      split
      ·rename_i ho
       have : G1.κ (.h o) = none := k2.κnone (k := .h o) ((k1 o ho).trans hb)
       rw [this]; trivial
      ·trivial
    | some b =>
      have ho : o < n := hM.live (.h o) b hb
      rw [if_pos ho]
      obtain ⟨r, hr, hB⟩ := k2.κsome (k := .h o) ((k1 o ho).trans hb)
      obtain ⟨r0, hr0, hB0⟩ := hM.κsome (k := .h o) hb
      rw [hr]
      by_cases hz : b.sz = 0
      ·obtain ⟨q, j, fr, c1, c2, c3, c4, c5⟩ := (yat.loop (G := G1) hz).1 hB
       obtain ⟨q0, j0, fr0, d1, d2, d3, d4, d5⟩ := (yat.loop (G := G) hz).1 hB0
       rw [d1] at c1
       simp only [List.cons.injEq, AV.rcd.injEq] at c1
       obtain ⟨_, rfl⟩ := c1
       refine (yat.loop hz).2 ⟨q, j, fr0, by rw [d1]; simp_all, c2, c3, c4, fun t u x p q' => ?_⟩
       have ht : t < q0.tmps.size := by rw [d4]; exact (List.getElem?_eq_some_iff.1 p).1
       have hno := hM.hno (.h o) b hb
       rw [d1] at hno
       simp only [hOk, noLs, Bool.and_eq_true] at hno
       exact hsh (c5 t u x p q') (yaS hno.2 t u p) ((d5 t u q0.tmps[t] p (Array.getElem?_eq_getElem ht)).hlt hM fun o h => h)
      ·obtain ⟨cur, c1, c2, c3, c4, c5, c6, c7⟩ := (yat.cell hz).1 hB
       obtain ⟨cur0, d1, d2, d3, d4, d5, d6, d7⟩ := (yat.cell hz).1 hB0
       refine (yat.cell hz).2 ⟨cur, c1, c2, c3, c4, c5, fun j u x p q => ?_, c7⟩
       have hj : j < cur0.size := Nat.lt_of_lt_of_le (List.getElem?_eq_some_iff.1 p).1 d5
       exact hsh (c6 j u x p q) (yaS (hM.hno (.h o) b hb) j u p) ((d6 j u cur0[j] p (Array.getElem?_eq_getElem hj)).hlt hM fun o h => h)
 ·intro k k' r r' hr hr' e
  exact k2.inj k k' r r' (hinv k r hr).1 (hinv k' r' hr').1 e
 ·intro k b hb
  cases k with
  | l d c => cases hb
  | h o => exact hM.live (.h o) b hb
 ·intro k r hr; exact k2.apart k r (hinv k r hr).1
 ·intro d c r hr; cases hr
 ·intro k r hr
  cases k with
  | l d c => have : (ya4 G n).κ (.l d c) = none := hM.κnone (k := .l d c) rfl
             rw [this] at hr; cases hr
  | h o =>
    obtain ⟨b, hb, _⟩ := hM.Msome (k := .h o) hr
    have ho : o < n := hM.live (.h o) b hb
    rcases k2.keep (.h o) r hr with hq | hq
    ·exact .inl (hκ o r ho hq)
    ·exact .inr (hd o ho hq)
 ·intro o r hr; exact k2.heap o r (hinv _ r hr).1
 ·intro o ho hb
  show (if o < n then G1.κ (.h o) else none) = none
  rw [k2.gone o ho hb]; split <;> rfl
end Go.AV
end
noncomputable section
namespace Go.Proofs.Ytkfingiebkgleaa
open Go.AV Go.RowKit
abbrev X := yad
mutual
def wl : X → List X
 | .mk k o v t n L => .mk k o v t n L :: wls L
def wls : List X → List X
 | [] => []
 | x :: r => wl x ++ wls r
end
mutual
def yiQ : X → Prop
 | .mk _ _ _ _ _ L => L.length <= 1000000000 /\ yow L
def yow : List X → Prop
 | [] => True
 | x :: r => yiQ x /\ yow r
end
def aggs (a : X) : List X := (wl a).filter fun x => x.Kind == 8
section
variable {hs : Nat -> Bool} {P : Program} {CA : Cal -> List AV -> St -> (AV -> St -> Prop) -> Prop} {o : AO} {r : List AO} {Q : St -> Prop} {S : St}
theorem rA (h : aop hs CA o.op o.dst S fun v S' => runA hs CA r Q (S'.put o.dst v)) (hg : o.guard = none := by rfl) : runA hs CA (o :: r) Q S := by
 simp only [runA, hg]; exact h
theorem rN (h : Q S) : runA hs CA [] Q S := h
def isQ : AOp → Bool
 | .mv .. | .bin .. | .eq .. | .un .. | .fad .. | .iad .. | .len .. | .mkf .. => true
 | _ => false
theorem rP {u : AOp} {v : AV} {d : Option Nat} (hq : isQ u = true) (hp : pval (yaM S) (ev S.fr) u = some v) (k : runA hs CA r Q (S.put d v)) : runA hs CA (⟨d, none, u⟩ :: r) Q S := by
 refine rA ?_
 cases u <;> first | (cases hq; done) | (simp only [aop, hp, wpv]; exact k)
theorem rLd {g : Bool} {sz off : Nat} {x : AOpd} {us : List AV} {v : AV} {d : Option Nat} (ht : tgt S (ev S.fr x) = some (us, off)) (hv : (if g then (if off + sz ≤ us.length then some (AV.agg ((us.drop off).take sz)) else none) else us[off]?) = some v) (k : runA hs CA r Q (S.put d v)) : runA hs CA (⟨d, none, .ld g sz x⟩ :: r) Q S := by
 refine rA ?_
 simp only [aop, ht, wpv, hv]; exact k
theorem rBox {e sz : Nat} {x : AOpd} {cs : List AV} {d : Option Nat} (hx : (ev S.fr x).cells = cs) (hl : cs.length = sz) (h1 : cs.all AV.one = true) (h0 : 0 < sz) (hh : hOk (ycH hs S (site d)) cs = true) (k : runA hs CA r Q ((S.new hs (site d) ⟨e, sz, cs⟩).put d (.pt (ycH hs S (site d)) 0))) : runA hs CA (⟨d, none, .box e sz x⟩ :: r) Q S := by
 refine rA ?_
 simp only [aop, hx]; exact ⟨hl, h1, h0, hh, k⟩
theorem rSto {sz off : Nat} {x y : AOpd} {ky : Key} {b : Blk} {cs : List AV} {d : Option Nat} (hx : ev S.fr x = .pt ky off) (hm : S.M ky = some b) (hz : b.sz ≠ 0) (hy : (ev S.fr y).cells = cs) (hl : cs.length = sz) (h1 : cs.all AV.one = true) (hb : off + sz ≤ b.cells.length) (hh : hOk ky (b.cells.take off ++ cs ++ b.cells.drop (off + sz)) = true) (k : runA hs CA r Q ((S.setM ky { b with cells := b.cells.take off ++ cs ++ b.cells.drop (off + sz) }).put d .un)) : runA hs CA (⟨d, none, .sto sz x y⟩ :: r) Q S := by
 refine rA ?_
 simp only [aop, hx, hm, wpv, hy]; exact ⟨hz, hl, h1, hb, hh, k⟩
theorem ywa {f : FuncId} {args : List AOpd} {d : Option Nat} {vs : List AV} {Post : AV → Hp → Nat → Prop} (hv : args.map (ev S.fr) = vs) (hn : noLs vs = true) (hc : yaA P f vs S.hp S.nx Post) (k : ∀ v H' n', Post v H' n' → runA hs (ybv P) r Q ((S.withH H' n').put d v)) : runA hs (ybv P) (⟨d, none, .call f args⟩ :: r) Q S := by
 refine rA ?_
 show ybv P (.f f) (args.map (ev S.fr)) S _
 rw [hv]
 refine .inl ?_
 unfold yjj
 rw [ykF _ _ hn]
 exact ⟨hn, hc.mono k⟩
theorem rYld {q : Nat} {x : AOpd} {args : List AOpd} {d : Option Nat} {vs : List AV} {Post : AV → Hp → Nat → Prop} (hx : ev S.fr x = .yld q) (hv : args.map (ev S.fr) = vs) (hn : noLs vs = true) (hc : ydE P q vs S.hp S.nx Post) (k : ∀ v H' n', Post v H' n' → runA hs (ybv P) r Q ((S.withH H' n').put d v)) : runA hs (ybv P) (⟨d, none, .calv x args⟩ :: r) Q S := by
 refine rA ?_
 simp only [aop, hx]
 rw [hv]
 refine .inl ?_
 unfold yjj
 rw [ykF _ _ hn]
 exact ⟨hn, hc.mono k⟩
end
section
variable {hs : Nat -> Bool} {oo : Option Nat} {P : Program} {a b : ydt} {Q : AEx -> St -> Prop} {S : St}
theorem wI {α : Type} {o : Option α} {u : α} {K : α -> Prop} (h : o = some u) (k : K u) : wpv o K := by subst h; exact k
theorem wS (h : wpA hs oo P a (fun e S' => match e with | .n => wpA hs oo P b Q S' | e => Q e S') S) : wpA hs oo P (.seq a b) Q S := h
theorem wO {l : List AO} (h : runA hs (ybv P) l (Q .n) S) : wpA hs oo P (.ops l) Q S := h
theorem wC {u : AOpd} {c : Bool} (hv : ev S.fr u = .bl c) (h1 : c = true → wpA hs oo P a Q S) (h2 : c = false → wpA hs oo P b Q S) : wpA hs oo P (.cond u a b) Q S := by
 simp only [wpA, hv]; exact ⟨h1, h2⟩
end
theorem wK {hs : Nat -> Bool} {oo : Option Nat} {P : Program} {Q : AEx -> St -> Prop} {S : St} (h : Q .n S) : wpA hs oo P .skip Q S := h
theorem wE {hs : Nat -> Bool} {oo : Option Nat} {P : Program} {Q : AEx -> St -> Prop} {S : St} {i : Nat} (h : Q (.x i) S) : wpA hs oo P (.exit i) Q S := h
theorem wR {hs : Nat -> Bool} {oo : Option Nat} {P : Program} {Q : AEx -> St -> Prop} {S : St} (h : Q .r S) : wpA hs oo P .ret Q S := h
theorem wB {hs : Nat -> Bool} {oo : Option Nat} {P : Program} {a : ydt} {Q : AEx -> St -> Prop} {S : St} {id : Nat} (h : wpA hs oo P a (fun e S' => match e with | .x i => if i = id then Q .n S' else Q (.x i) S' | e => Q e S') S) : wpA hs oo P (.block id a) Q S := h
theorem ycz (f : Key -> Option Blk) (k : Key) (v : Option Blk) : updK f k v k = v := by simp [updK]
theorem yv9 {L : List X} (h : yow L) : ∀ x ∈ L, yiQ x := by
 induction L with
 | nil => intro x hx; cases hx
 | cons y L ih =>
   intro x hx
   rcases List.mem_cons.1 hx with rfl | hx
   ·exact h.1
   ·exact ih h.2 x hx
theorem ykG {α : Type} (f : Nat → α) (d : Nat) {v : α} (h : f d = v) : upd f d v = f := by
 funext t; unfold upd; split
 ·rename_i e; rw [e, h]
 ·rfl
theorem yuG {S : St} {a b c d : AV} (h1 : S.fr 1 = a) (h12 : S.fr 12 = b) (h13 : S.fr 13 = c) (h14 : S.fr 14 = d) : S = ⟨upd (upd (upd (upd S.fr 1 a) 12 b) 13 c) 14 d, S.M, S.cnt, S.nx⟩ := by
 rw [ykG S.fr 1 h1, ykG S.fr 12 h12, ykG S.fr 13 h13, ykG S.fr 14 h14]
theorem yxy : ∀ (L : List X) (i : Nat) (x : X), L[i]? = some x → ((yaj L).drop (i * 8)).take 8 = yai x ∧ i * 8 + 8 ≤ (yaj L).length
 | [], i, x, h => by simp at h
 | y :: L, 0, x, h => by
   simp only [List.getElem?_cons_zero, Option.some.injEq] at h; subst h
   have hl := yaK y
   simp only [yaj, Nat.zero_mul, List.drop_zero, List.length_append]
   exact ⟨by rw [List.take_append_of_le_length (by omega), List.take_of_length_le (by omega)], by omega⟩
 | y :: L, i + 1, x, h => by
   have hl := yaK y
   obtain ⟨a, b⟩ := yxy L i x (by simpa using h)
   simp only [yaj, List.length_append]
   refine ⟨?_, by omega⟩
   rw [show (i + 1) * 8 = (yai y).length + i * 8 by omega, <- List.drop_drop, List.drop_left]; exact a
theorem yvR {o : Nat} {J : List X → Hp → Nat → Prop} {Jx : Hp → Nat → Prop} (hJ : ∀ x r H n, J (x :: r) H n → ydE Try.prog o [.agg (yai x)] H n fun v H' n' => (v = .bl true ∧ J r H' n') ∨ (v = .bl false ∧ Jx H' n')) :
  ∀ (N : Nat) (e : X) (r : List X) (H : Hp) (n : Nat), SizeOf.sizeOf e <= N -> yiQ e -> J (wl e ++ r) H n -> yaA Try.prog 41 [.agg (yai e), .yld o] H n fun v H' n' => (v = .bl true /\ J r H' n') ∨ (v = .bl false /\ Jx H' n') := by
 intro N
 induction N with
 | zero => intro e r H n h; cases e; simp at h
 | succ N ih =>
   intro e r H n hN hok hJe
   obtain ⟨k, op, v, tb, nm, L⟩ := e
   obtain ⟨vk, vn, vs⟩ := v
   simp only [yiQ] at hok
   obtain ⟨hL, hoks⟩ := hok
   have hJ0 := hJ _ _ _ _ (show J (yad.mk k op ⟨vk, vn, vs⟩ tb nm L :: (wls L ++ r)) H n by simpa [wl] using hJe)
   refine yf1 t41 (fun _ => false) (show 2 <= 23 by omega) ?_
   have hno := ybY (.mk k op ⟨vk, vn, vs⟩ tb nm L)
   have hone := ycd (.mk k op ⟨vk, vn, vs⟩ tb nm L)
   have hlen := yaK (.mk k op ⟨vk, vn, vs⟩ tb nm L)
   have hce : yai (.mk k op ⟨vk, vn, vs⟩ tb nm L) = [.it .i64 k, .it .i64 op, .it .i64 vk, .it .i64 vn, .st vs, .st tb, .st nm, .sl false L.length (yaj L)] := rfl
   refine wS (wO ?_)
   refine rBox (cs := yai (.mk k op ⟨vk, vn, vs⟩ tb nm L)) rfl hlen hone (by omega) rfl ?_
   refine rP rfl rfl ?_
   refine wS (wS (wO ?_))
   refine rP rfl rfl ?_
   refine rLd (us := yai (.mk k op ⟨vk, vn, vs⟩ tb nm L)) (off := 0) rfl rfl ?_
   refine rYld (q := o) rfl (vs := [.agg (yai (.mk k op ⟨vk, vn, vs⟩ tb nm L))]) rfl rfl hJ0 ?_
   rintro v H1 n1 (⟨rfl, hj⟩ | ⟨rfl, hj⟩)
   ·refine rP rfl rfl ?_
    refine rN ?_
    refine wC (c := false) ?_ (fun q => (by cases q)) (fun _ => ?_)
    ·rfl
    refine wS (wS (wO ?_))
    refine rP (v := .pt (.l 2 1) 7) rfl rfl ?_
    refine rLd (us := yai (.mk k op ⟨vk, vn, vs⟩ tb nm L)) (off := 7) (v := .sl false L.length (yaj L)) rfl rfl ?_
    refine rP (v := .it .i64 L.length) rfl rfl ?_
    refine rP (v := .it .i64 0) rfl rfl ?_
    refine rN ?_
    show ∃ I : Nat -> St -> Prop, _
    refine ⟨fun m S => ∃ (i : Nat) (fr : Nat -> AV) (M : Key -> Option Blk) (cnt : Nat -> Nat) (nx : Nat), S = ⟨upd (upd (upd (upd fr 1 (.yld o)) 12 (.sl false L.length (yaj L))) 13 (.it .i64 L.length)) 14 (.it .i64 (i : Int)), M, cnt, nx⟩ /\ i <= L.length /\ m = L.length - i /\ J (wls (L.drop i) ++ r) (fun o => M (.h o)) nx, ⟨_, 0, _, _, _, _, yuG (a := .yld o) (b := .sl false L.length (yaj L)) (c := .it .i64 L.length) (d := .it .i64 0) rfl rfl rfl rfl, by omega, rfl, ?_⟩, ?_⟩
    ·simp only [List.drop_zero]
     exact hj
    ·rintro m S' ⟨i, fr, M, cnt, nx, rfl, hi, rfl, hji⟩
     refine wS (wO ?_)
     refine rP (v := .bl (decide ((i : Int) < L.length))) rfl rfl ?_
     refine rN ?_
     refine wS ?_
     by_cases hlt : i < L.length
     ·refine wC (c := true) ?_ (fun _ => ?_) (fun q => (by cases q))
      ·show AV.bl (decide ((i : Int) < L.length)) = .bl true
       rw [decide_eq_true (by omega)]
      refine wK ?_
      obtain ⟨x, hx⟩ : ∃ x, L[i]? = some x := ⟨_, List.getElem?_eq_getElem hlt⟩
      have hxm := List.mem_of_getElem? hx
      obtain ⟨hc1, hc2⟩ := yxy L i x hx
      have hdr : L.drop i = x :: L.drop (i + 1) := by
       obtain ⟨h1, h2⟩ := List.getElem?_eq_some_iff.1 hx
       rw [List.drop_eq_getElem_cons h1, h2]
      have hji' : J (wl x ++ (wls (L.drop (i + 1)) ++ r)) (fun o => M (.h o)) nx := by
       rw [hdr] at hji
       simpa [wls] using hji
      have hsz : SizeOf.sizeOf x ≤ N := by
       have h1 := List.sizeOf_lt_of_mem hxm
       simp only [yad.mk.sizeOf_spec] at hN
       omega
      have hcon := ih x (wls (L.drop (i + 1)) ++ r) (fun o => M (.h o)) nx hsz (yv9 hoks x hxm) hji'
      have xlen := yaK x
      have xone := ycd x
      have xno := ybY x
      refine wS (wB (wS (wO ?_)))
      refine rP (v := .ep (yaj L) (i * 8)) rfl ?_ ?_
      ·show (if 0 ≤ (i : Int) ∧ (i : Int) < (L.length : Int) then some (AV.ep (yaj L) ((i : Int).toNat * 8)) else none) = _
       rw [if_pos ⟨by omega, by omega⟩]; rfl
      refine rLd (us := yaj L) (off := i * 8) (v := .agg (yai x)) rfl ?_ ?_
      ·show (if i * 8 + 8 ≤ (yaj L).length then some (AV.agg (((yaj L).drop (i * 8)).take 8)) else none) = _
       rw [if_pos hc2, hc1]
      refine rBox (cs := [.it .i64 0, .it .i64 0, .it .i64 0, .it .i64 0, .st [], .st [], .st [], .sl true 0 []]) rfl rfl rfl (by omega) rfl ?_
      refine rSto (ky := .l 6 (cnt 6 + 1)) (off := 0) (b := ⟨36, 8, [.it .i64 0, .it .i64 0, .it .i64 0, .it .i64 0, .st [], .st [], .st [], .sl true 0 []]⟩) (cs := yai x) rfl ?_ (by decide) rfl xlen xone (Nat.le_refl 8) rfl ?_
      ·exact ycz _ _ _
      refine rN ?_
      refine wS (wO ?_)
      refine rLd (us := yai x) (off := 0) (v := .agg (yai x)) ?_ ?_ ?_
      ·show ((updK _ (.l 6 (cnt 6 + 1)) (some _) (.l 6 (cnt 6 + 1))).bind _) = _
       rw [ycz]
       show some ([] ++ yai x ++ [], 0) = _
       simp
      ·show (if 0 + 8 ≤ (yai x).length then some (AV.agg (((yai x).drop 0).take 8)) else none) = _
       rw [if_pos (by omega), List.drop_zero, List.take_of_length_le (by omega)]
      refine rP rfl rfl ?_
      refine ywa (f := 41) (vs := [.agg (yai x), .yld o]) rfl ?_ hcon ?_
      ·simp [noLs, AV.noL, xno]
      rintro v H2 n2 (⟨rfl, hj2⟩ | ⟨rfl, hj2⟩)
      ·refine rP rfl rfl ?_
       refine rN ?_
       refine wC (c := false) ?_ (fun q => (by cases q)) (fun _ => ?_)
       ·rfl
       refine wK ?_
       refine wO ?_
       refine rP (v := .it .i64 ((i + 1 : Nat) : Int)) rfl ?_ ?_
       ·show some (AV.it .i64 (IntKind.i64.wrap ((i : Int) + 1))) = _
        rw [show IntKind.i64.wrap ((i : Int) + 1) = (i : Int) + 1 by simp [IntKind.wrap, IntKind.bits, IntKind.signed]; omega]; rfl
       refine rP rfl rfl ?_
       refine rN ?_
       exact ⟨L.length - (i + 1), by omega, i + 1, _, _, _, _, yuG (a := .yld o) (b := .sl false L.length (yaj L)) (c := .it .i64 L.length) (d := .it .i64 ((i + 1 : Nat) : Int)) rfl rfl rfl rfl, by omega, rfl, hj2⟩
      ·refine rP rfl rfl ?_
       refine rN ?_
       refine wC (c := true) ?_ (fun _ => ?_) (fun q => (by cases q))
       ·rfl
       refine wS (wO ?_)
       refine rP rfl rfl ?_
       exact wI rfl ⟨rfl, .inr ⟨rfl, hj2⟩⟩
     ·refine wC (c := false) ?_ (fun q => (by cases q)) (fun _ => ?_)
      ·show AV.bl (decide ((i : Int) < L.length)) = .bl false
       rw [decide_eq_false (by omega)]
      refine wE ?_
      have hdr : L.drop i = [] := List.drop_eq_nil_of_le (by omega)
      rw [hdr] at hji
      refine wS (wO ?_)
      refine rP rfl rfl ?_
      exact wI rfl ⟨rfl, .inl ⟨rfl, hji⟩⟩
   ·refine rP rfl rfl ?_
    refine rN ?_
    refine wC (c := true) ?_ (fun _ => ?_) (fun q => (by cases q))
    ·rfl
    refine wS (wO ?_)
    refine rP rfl rfl ?_
    exact wI rfl ⟨rfl, .inr ⟨rfl, hj⟩⟩
end Go.Proofs.Ytkfingiebkgleaa
end
noncomputable section
namespace Go.Proofs.Ytkfingiebkgleaa
open Go.AV Go.RowKit
theorem ywJ {cs : List AV} (hl : cs.length = 8) (h1 : cs.all AV.one = true) (hno : noLs cs = true) {H : Hp} {n : Nat} : yaA Try.prog 25 [.agg cs] H n fun v H' n' => v = .fn (.func 40) [] [.pt (.h n) 0] ∧ H' = (fun o => if o = n then some ⟨36, 8, cs⟩ else H o) ∧ n' = n + 1 := by
 refine yf1 t25 (fun s => s == 1) (show 1 <= 4 by omega) ?_
 refine wS (wO ?_)
 refine rBox (cs := cs) rfl hl h1 (by omega) hno ?_
 refine rP rfl rfl ?_
 refine rN ?_
 refine wS (wO ?_)
 refine rP (v := .fn (.func 40) [] [.pt (.h n) 0]) rfl rfl ?_
 refine rP rfl rfl ?_
 refine rN ?_
 refine wR ?_
 refine wI rfl ⟨rfl, rfl, ?_, rfl⟩
 funext o
 show updK (yli H) (.h n) (some _) (.h o) = _
 simp only [updK, Key.h.injEq, yli]
theorem yvJ {e : X} {k o : Nat} {H : Hp} {n : Nat} {Post : AV → Hp → Nat → Prop} (hk : H k = some ⟨36, 8, yai e⟩) (hc : yaA Try.prog 41 [.agg (yai e), .yld o] H n Post) : yaA Try.prog 40 [.yld o, .pt (.h k) 0] H n fun _ H' n' => ∃ v, Post v H' n' := by
 have hl := yaK e
 have hno := ybY e
 refine yf1 t40 (fun _ => false) (show 2 <= 6 by omega) ?_
 refine wO ?_
 refine rLd (us := yai e) (off := 0) (v := .agg (yai e)) ?_ ?_ ?_
 ·show (H k).bind _ = _
  rw [hk]; rfl
 ·show (if 0 + 8 ≤ (yai e).length then some (AV.agg (((yai e).drop 0).take 8)) else none) = _
  rw [if_pos (by omega), List.drop_zero, List.take_of_length_le (by omega)]
 refine rP rfl rfl ?_
 refine ywa (f := 41) (vs := [.agg (yai e), .yld o]) rfl ?_ hc ?_
 ·simp [noLs, AV.noL, hno]
 intro v H' n' hP
 refine rN ?_
 exact wI rfl ⟨rfl, v, hP⟩
theorem yyk : (rngX Try.prog 11 0).1 = #[7] := by kernel_rfl
structure JJ (a : List X) (ps : Array Tmp) (asg body : Code) (fr : List AV) (H : Hp) (n : Nat) (L : List X) (H' : Hp) (m : Nat) : Prop where
 lt : n + 3 <= m
 old : ∀ k, k < n -> H' k = H k
 rcd : H' (n + 2) = some ⟨0, 0, .rcd ps asg body .ready :: fr⟩
 row : ∃ D, D ++ L.filter (fun x => x.Kind == 8) = a /\ D.length + L.length <= 1000000000 /\ ((D = [] /\ H' n = some ⟨34, 1, [.sl true 0 []]⟩) ∨ ∃ q, n + 3 <= q /\ q < m /\ H' n = some ⟨34, 1, [.gs (.h q) D.length]⟩ /\ H' q = some ⟨36, 8, yaj D⟩)
theorem ytB : ∀ L, noLs (yaj L) = true
 | [] => rfl
 | x :: L => by simp only [yaj, yf6, ybY x, ytB L, Bool.and_self]
theorem yrb : ∀ L, (yaj L).length = L.length * 8
 | [] => rfl
 | x :: L => by simp only [yaj, List.length_append, yaK x, yrb L, List.length_cons]; omega
theorem yub : ∀ L M, yaj (L ++ M) = yaj L ++ yaj M
 | [], M => rfl
 | x :: L, M => by simp only [List.cons_append, yaj, yub L M, List.append_assoc]
def ysk (n m : Nat) (D : List X) (v0 : AV) (M : Key → Option Blk) : Prop :=
 (D = [] /\ v0 = .sl true 0 []) ∨ ∃ q, n + 3 <= q /\ q < m /\ v0 = .gs (.h q) D.length /\ M (.h q) = some ⟨36, 8, yaj D⟩
section
variable {a : List X} {ps : Array Tmp} {asg body : Code} {fr : List AV} {H : Hp} {n m : Nat} {S : St}
theorem ydI (M : Key -> Option Blk) (k j : Nat) (b : Option Blk) : updK M (.h k) b (.h j) = if j = k then b else M (.h j) := by simp only [updK, Key.h.injEq]
theorem yud {r D : List X} {v0 : AV} (hm : n + 3 ≤ S.nx) (old : ∀ k, k < n → S.M (.h k) = H k) (rc : S.M (.h (n + 2)) = some ⟨0, 0, .rcd ps asg body .busy :: fr⟩) (box : S.M (.h n) = some ⟨34, 1, [v0]⟩) (row : ysk n S.nx D v0 S.M)
  (hD : D ++ r.filter (fun x => x.Kind == 8) = a) (hl : D.length + r.length <= 1000000000) : rndQ (n + 2) (fun v H'' m' => (v = .bl true /\ JJ a ps asg body fr H n r H'' m') ∨ (v = .bl false /\ False)) .n S := by
 refine ⟨by rw [rc]; rfl, .inl ⟨rfl, hm, fun k hk => ?_, ?_, D, hD, hl, ?_⟩⟩
 ·show updK S.M (.h (n + 2)) _ (.h k) = _
  rw [ydI, if_neg (by omega)]; exact old k hk
 ·show updK S.M (.h (n + 2)) _ (.h (n + 2)) = _
  rw [ycz, rc]; rfl
 ·rcases row with ⟨h1, rfl⟩ | ⟨q, h1, h2, rfl, h4⟩
  ·refine .inl ⟨h1, ?_⟩
   show updK S.M (.h (n + 2)) _ (.h n) = _
   rw [ydI, if_neg (by omega)]; exact box
  ·refine .inr ⟨q, h1, h2, ?_, ?_⟩
   ·show updK S.M (.h (n + 2)) _ (.h n) = _
    rw [ydI, if_neg (by omega)]; exact box
   ·show updK S.M (.h (n + 2)) _ (.h q) = _
    rw [ydI, if_neg (by omega)]; exact h4
end
end Go.Proofs.Ytkfingiebkgleaa
end
noncomputable section
namespace Go.Proofs.Ytkfingiebkgleaa
open Go.AV Go.RowKit
abbrev z8 : List AV := [.it .i64 0, .it .i64 0, .it .i64 0, .it .i64 0, .st [], .st [], .st [], .sl false 0 []]
structure Co (H : Hp) (n : Nat) (rc : Blk) (x : X) (S : St) : Prop where
 f3 : S.fr 3 = .pt (.h n) 0
 f4 : S.fr 4 = .pt (.l 4 1) 0
 m4 : S.M (.l 4 1) = some ⟨36, 8, yai x⟩
 old : ∀ k, k < n -> S.M (.h k) = H k
 rc : S.M (.h (n + 2)) = some rc
structure Pr (n m : Nat) (x : X) (E : List X) (v0 : AV) (D : Nat → Bool) (S : St) : Prop where
 d4 : D 4 = false
 d5 : D 5 = false
 d6 : D 6 = false
 d7 : D 7 = false
 nx : S.nx = m
 box : S.M (.h n) = some ⟨34, 1, [v0]⟩
 row : ysk n m E v0 S.M
 f11 : D 0 = true -> S.fr 11 = v0
 f12 : D 1 = true -> S.fr 12 = .agg (yai x)
 f13 : D 2 = true -> S.fr 13 = .it .i64 E.length
 f14 : D 3 = true -> ∃ c, S.fr 14 = .gs (.l 14 c) 1 /\ S.M (.l 14 c) = some ⟨36, 8, z8⟩
structure Po (n m : Nat) (x : X) (E : List X) (v0 : AV) (D : Nat → Bool) (S : St) : Prop where
 d0 : D 0 = true
 d1 : D 1 = true
 d2 : D 2 = true
 d3 : D 3 = true
 d4 : D 4 = true
 nx : S.nx = m + 1
 f12 : S.fr 12 = .agg (yai x)
 f13 : S.fr 13 = .it .i64 E.length
 f15 : S.fr 15 = .gs (.h m) (E.length + 1)
 f16 : D 5 = true -> S.fr 16 = .pt (.h m) (E.length * 8)
 row : S.M (.h m) = some ⟨36, 8, yaj E ++ (if D 6 then yai x else z8)⟩
 box : S.M (.h n) = some ⟨34, 1, [if D 7 then .gs (.h m) (E.length + 1) else v0]⟩
def Iv (H : Hp) (n m : Nat) (rc : Blk) (x : X) (E : List X) (v0 : AV) (D : Nat -> Bool) (S : St) : Prop := Co H n rc x S /\ (Pr n m x E v0 D S ∨ Po n m x E v0 D S)
theorem must {D : Nat → Bool} {j : Nat} {f : List Nat} {A B C : Prop} (h : D j = true ∨ A ∧ (j ∈ f ∨ B ∧ C)) (hf : j ∉ f) (hb : ¬ B) : D j = true := by
 rcases h with h | ⟨_, h | h⟩
 ·exact h
 ·exact absurd h hf
 ·exact absurd h.1 hb
theorem mdt {D : Nat → Bool} {j : Nat} {d : Nat} {l : List Nat} {C : Prop} (h : D j = true ∨ (∀ t, some d = some t → t ∉ l) ∧ C) (hf : d ∈ l) : D j = true := by
 rcases h with h | h
 ·exact h
 ·exact absurd hf (h.1 d rfl)
section
variable {H : Hp} {n m : Nat} {rc : Blk} {x : X} {E : List X} {v0 : AV}
abbrev h15 : Nat -> Bool := fun s => s == 15
theorem op0 {D S} (hd : D 0 = false) (h : Iv H n m rc x E v0 D S) : aop h15 (ybv Try.prog) (.ld false 1 (.t 3)) (some 11) S fun v S' => Iv H n m rc x E v0 (Go.RG.upd D 0) (S'.put (some 11) v) := by
 obtain ⟨c, p | p⟩ := h
 ·refine wI (u := ([v0], 0)) ?_ (wI (u := v0) rfl ?_)
  ·show tgt S (S.fr 3) = _
   rw [c.f3]
   show (S.M (.h n)).bind _ = _
   rw [p.box]; rfl
  ·exact ⟨⟨c.f3, c.f4, c.m4, c.old, c.rc⟩, .inl ⟨p.d4, p.d5, p.d6, p.d7, p.nx, p.box, p.row, fun _ => rfl, p.f12, p.f13, p.f14⟩⟩
 ·rw [p.d0] at hd; cases hd
theorem op1 {D S} (hd : D 1 = false) (h : Iv H n m rc x E v0 D S) : aop h15 (ybv Try.prog) (.ld true 8 (.t 4)) (some 12) S fun v S' => Iv H n m rc x E v0 (Go.RG.upd D 1) (S'.put (some 12) v) := by
 obtain ⟨c, p | p⟩ := h
 ·have hl := yaK x
  refine wI (u := (yai x, 0)) ?_ (wI (u := .agg (yai x)) ?_ ?_)
  ·show tgt S (S.fr 4) = _
   rw [c.f4]
   show (S.M (.l 4 1)).bind _ = _
   rw [c.m4]; rfl
  ·show (if 0 + 8 ≤ (yai x).length then some (AV.agg (((yai x).drop 0).take 8)) else none) = _
   rw [if_pos (by omega), List.drop_zero, List.take_of_length_le (by omega)]
  ·exact ⟨⟨c.f3, c.f4, c.m4, c.old, c.rc⟩, .inl ⟨p.d4, p.d5, p.d6, p.d7, p.nx, p.box, p.row, p.f11, fun _ => rfl, p.f13, p.f14⟩⟩
 ·rw [p.d1] at hd; cases hd
theorem op2 {D S} (hd : D 2 = false) (h0 : D 0 = true) (h : Iv H n m rc x E v0 D S) : aop h15 (ybv Try.prog) (.len (.t 11)) (some 13) S fun v S' => Iv H n m rc x E v0 (Go.RG.upd D 2) (S'.put (some 13) v) := by
 obtain ⟨c, p | p⟩ := h
 ·refine wI (u := .it .i64 E.length) ?_ ?_
  ·show (match S.fr 11 with | .sl _ n _ => some (AV.it .i64 n) | .gs k n => if yaM S k then some (.it .i64 n) else none | _ => none) = _
   rw [p.f11 h0]
   rcases p.row with ⟨h1, h2⟩ | ⟨q, h1, h2, h3, h4⟩
   ·rw [h1, h2]; rfl
   ·rw [h3]
    show (if (S.M (.h q)).isSome = true then _ else _) = _
    rw [h4]; rfl
  ·exact ⟨⟨c.f3, c.f4, c.m4, c.old, c.rc⟩, .inl ⟨p.d4, p.d5, p.d6, p.d7, p.nx, p.box, p.row, p.f11, p.f12, fun _ => rfl, p.f14⟩⟩
 ·rw [p.d2] at hd; cases hd
theorem op3 {D S} (hd : D 3 = false) (h : Iv H n m rc x E v0 D S) : aop h15 (ybv Try.prog) (.bsl 36 8 1 [(.it .i64 0), (.it .i64 0), (.it .i64 0), (.it .i64 0), (.st []), (.st []), (.st []), (.sl true 0 [])] [(0, 8, (.c (.agg [(.it .i64 0), (.it .i64 0), (.it .i64 0), (.it .i64 0), (.st []), (.st []), (.st []), (.sl true 0 [])])))]) (some 14) S fun v S' => Iv H n m rc x E v0 (Go.RG.upd D 3) (S'.put (some 14) v) := by
 obtain ⟨c, p | p⟩ := h
 ·refine ⟨rfl, by omega, by omega, wI (u := [.it .i64 0, .it .i64 0, .it .i64 0, .it .i64 0, .st [], .st [], .st [], .sl true 0 []]) rfl ⟨rfl, ?_⟩⟩
  exact ⟨⟨c.f3, c.f4, c.m4, c.old, c.rc⟩, .inl ⟨p.d4, p.d5, p.d6, p.d7, p.nx, p.box, p.row, p.f11, p.f12, p.f13, fun _ => ⟨_, rfl, ycz _ _ _⟩⟩⟩
 ·rw [p.d3] at hd; cases hd
theorem op4 {D S} (hl : E.length ≤ 1000000000) (hm : n + 3 ≤ m) (hd : D 4 = false) (h0 : D 0 = true) (h1 : D 1 = true) (h2 : D 2 = true) (h3 : D 3 = true) (h : Iv H n m rc x E v0 D S) : aop h15 (ybv Try.prog) (.app 36 8 104 (.t 11) (.t 14)) (some 15) S fun v S' => Iv H n m rc x E v0 (Go.RG.upd D 4) (S'.put (some 15) v) := by
 obtain ⟨c, p | p⟩ := h
 ·obtain ⟨k, g1, g2⟩ := p.f14 h3
  refine ⟨by omega, by omega, wI (u := (1, z8)) ?_ ⟨rfl, by omega, ?_⟩⟩
  ·show srcA S (S.fr 14) = _
   rw [g1]
   show (S.M (.l 14 k)).bind _ = _
   rw [g2]; rfl
  ·show aapp h15 15 36 8 1 z8 S _ (S.fr 11)
   rw [p.f11 h0]
   rcases p.row with ⟨q1, q2⟩ | ⟨q, q1, q2, q3, q4⟩
   ·rw [q2]
    simp only [aapp]
    rw [if_neg (show ¬ (1 : Nat) = 0 by omega)]
    refine ⟨rfl, ?_⟩
    subst q1
    refine ⟨⟨c.f3, c.f4, c.m4, fun k hk => ?_, ?_⟩, .inr ⟨h0, h1, h2, h3, rfl, by show S.nx + 1 = _; rw [p.nx], p.f12 h1, p.f13 h2, by show AV.gs (.h S.nx) 1 = _; rw [p.nx]; rfl, fun h => ?_, ?_, ?_⟩⟩
    ·show updK S.M (.h S.nx) _ (.h k) = _
     rw [ydI, if_neg (by have := p.nx; omega)]; exact c.old k hk
    ·show updK S.M (.h S.nx) _ (.h (n + 2)) = _
     rw [ydI, if_neg (by have := p.nx; omega)]; exact c.rc
    ·have : D 5 = true := h
     rw [p.d5] at this; cases this
    ·show updK S.M (.h S.nx) _ (.h m) = some ⟨36, 8, _ ++ (if D 6 then _ else _)⟩
     rw [p.nx, ycz, p.d6]; rfl
    ·show updK S.M (.h S.nx) _ (.h n) = some ⟨34, 1, [if D 7 then _ else _]⟩
     rw [ydI, if_neg (by have := p.nx; omega), p.d7, p.box, q2]; rfl
   ·rw [q3]
    have hn := p.nx
    refine wI q4 ⟨rfl, rfl, yrb E, hl, fun _ => rfl, ?_, ?_⟩
    ·show noLs (yaj E ++ z8) = true
     rw [yf6, ytB E]; rfl
    refine ⟨⟨c.f3, c.f4, c.m4, fun k hk => ?_, ?_⟩, .inr ⟨h0, h1, h2, h3, rfl, by show S.nx + 1 = _; rw [p.nx], p.f12 h1, p.f13 h2, by show AV.gs (.h S.nx) _ = _; rw [p.nx], fun h => ?_, ?_, ?_⟩⟩
    ·show updK (updK S.M (.h q) none) (.h S.nx) _ (.h k) = _
     rw [ydI, if_neg (by omega), ydI, if_neg (by omega)]; exact c.old k hk
    ·show updK (updK S.M (.h q) none) (.h S.nx) _ (.h (n + 2)) = _
     rw [ydI, if_neg (by omega), ydI, if_neg (by omega)]; exact c.rc
    ·have : D 5 = true := h
     rw [p.d5] at this; cases this
    ·show updK (updK S.M (.h q) none) (.h S.nx) _ (.h m) = some ⟨36, 8, _ ++ (if D 6 then _ else _)⟩
     rw [p.nx, ycz, p.d6]; rfl
    ·show updK (updK S.M (.h q) none) (.h S.nx) _ (.h n) = some ⟨34, 1, [if D 7 then _ else _]⟩
     rw [ydI, if_neg (by omega), ydI, if_neg (by omega), p.d7, p.box, <- q3]; rfl
 ·rw [p.d4] at hd; cases hd
theorem op5 {D S} (hd : D 5 = false) (h4 : D 4 = true) (h : Iv H n m rc x E v0 D S) : aop h15 (ybv Try.prog) (.iad 8 (.t 15) (.t 13)) (some 16) S fun v S' => Iv H n m rc x E v0 (Go.RG.upd D 5) (S'.put (some 16) v) := by
 obtain ⟨c, p | p⟩ := h
 ·rw [p.d4] at h4; cases h4
 ·refine wI (u := .pt (.h m) (E.length * 8)) ?_ ?_
  ·show (match S.fr 15, S.fr 13 with
    | .sl _ n xs, .it _ i => if 0 <= i /\ i < n then some (AV.ep xs (i.toNat * 8)) else none
    | .gs k n, .it _ i => if yaM S k /\ 0 <= i /\ i < n then some (.pt k (i.toNat * 8)) else none
    | _, _ => none) = _
   rw [p.f15, p.f13]
   simp only
   rw [if_pos ⟨by unfold yaM; rw [p.row]; rfl, by omega, by omega⟩]; rfl
  ·exact ⟨⟨c.f3, c.f4, c.m4, c.old, c.rc⟩, .inr ⟨p.d0, p.d1, p.d2, p.d3, p.d4, p.nx, p.f12, p.f13, p.f15, fun _ => rfl, p.row, p.box⟩⟩
theorem op6 {D S} (hm : n + 3 ≤ m) (hd : D 6 = false) (h5 : D 5 = true) (h4 : D 4 = true) (h : Iv H n m rc x E v0 D S) : aop h15 (ybv Try.prog) (.sto 8 (.t 16) (.t 12)) none S fun v S' => Iv H n m rc x E v0 (Go.RG.upd D 6) (S'.put none v) := by
 obtain ⟨c, p | p⟩ := h
 ·rw [p.d4] at h4; cases h4
 ·have hx := yaK x
  have hE := yrb E
  show (match S.fr 16 with
  | .pt k off => wpv (S.M k) fun b => b.sz ≠ 0 ∧ (S.fr 12).cells.length = 8 ∧ (S.fr 12).cells.all AV.one = true ∧ off + 8 ≤ b.cells.length ∧ hOk k (b.cells.take off ++ (S.fr 12).cells ++ b.cells.drop (off + 8)) = true ∧
     Iv H n m rc x E v0 (Go.RG.upd D 6) ((S.setM k { b with cells := b.cells.take off ++ (S.fr 12).cells ++ b.cells.drop (off + 8) }).put none .un)
  | _ => False)
  rw [p.f16 h5, p.f12]
  have hrow := p.row
  rw [hd] at hrow
  have hc : (yaj E ++ z8).take (E.length * 8) ++ yai x ++ (yaj E ++ z8).drop (E.length * 8 + 8) = yaj E ++ yai x := by
   rw [<- hE, List.take_left', List.drop_eq_nil_of_le, List.append_nil]
   ·simp
   ·rfl
  refine wI hrow ⟨Nat.succ_ne_zero _, hx, ycd x, ?_, ?_, ?_⟩
  ·show E.length * 8 + 8 ≤ (yaj E ++ z8).length
   simp only [List.length_append, hE, List.length_cons, List.length_nil]; omega
  ·show noLs ((yaj E ++ z8).take (E.length * 8) ++ yai x ++ (yaj E ++ z8).drop (E.length * 8 + 8)) = true
   rw [hc, yf6, ytB E, ybY x]; rfl
  ·show Iv H n m rc x E v0 (Go.RG.upd D 6) (S.setM (.h m) ⟨36, 8, (yaj E ++ z8).take (E.length * 8) ++ yai x ++ (yaj E ++ z8).drop (E.length * 8 + 8)⟩)
   rw [hc]
   refine ⟨⟨c.f3, c.f4, c.m4, fun k hk => ?_, ?_⟩, .inr ⟨p.d0, p.d1, p.d2, p.d3, p.d4, p.nx, p.f12, p.f13, p.f15, p.f16, ?_, ?_⟩⟩
   ·show updK S.M (.h m) _ (.h k) = _
    rw [ydI, if_neg (by omega)]; exact c.old k hk
   ·show updK S.M (.h m) _ (.h (n + 2)) = _
    rw [ydI, if_neg (by omega)]; exact c.rc
   ·exact ycz _ _ _
   ·show updK S.M (.h m) _ (.h n) = _
    rw [ydI, if_neg (by omega)]; exact p.box
theorem op7 {D S} (hm : n + 3 ≤ m) (hd : D 7 = false) (h4 : D 4 = true) (h : Iv H n m rc x E v0 D S) : aop h15 (ybv Try.prog) (.sto 1 (.t 3) (.t 15)) none S fun v S' => Iv H n m rc x E v0 (Go.RG.upd D 7) (S'.put none v) := by
 obtain ⟨c, p | p⟩ := h
 ·rw [p.d4] at h4; cases h4
 ·show (match S.fr 3 with
  | .pt k off => wpv (S.M k) fun b => b.sz ≠ 0 ∧ (S.fr 15).cells.length = 1 ∧ (S.fr 15).cells.all AV.one = true ∧ off + 1 ≤ b.cells.length ∧ hOk k (b.cells.take off ++ (S.fr 15).cells ++ b.cells.drop (off + 1)) = true ∧
     Iv H n m rc x E v0 (Go.RG.upd D 7) ((S.setM k { b with cells := b.cells.take off ++ (S.fr 15).cells ++ b.cells.drop (off + 1) }).put none .un)
  | _ => False)
  rw [c.f3, p.f15]
  have hbox := p.box
  refine wI hbox ⟨Nat.succ_ne_zero _, rfl, rfl, Nat.le_refl 1, rfl, ?_⟩
  refine ⟨⟨c.f3, c.f4, c.m4, fun k hk => ?_, ?_⟩, .inr ⟨p.d0, p.d1, p.d2, p.d3, p.d4, p.nx, p.f12, p.f13, p.f15, p.f16, ?_, ?_⟩⟩
  ·show updK S.M (.h n) _ (.h k) = _
   rw [ydI, if_neg (by omega)]; exact c.old k hk
  ·show updK S.M (.h n) _ (.h (n + 2)) = _
   rw [ydI, if_neg (by omega)]; exact c.rc
  ·show updK S.M (.h n) _ (.h m) = _
   rw [ydI, if_neg (by omega)]; exact p.row
  ·exact ycz _ _ _
end
end Go.Proofs.Ytkfingiebkgleaa
end
noncomputable section
namespace Go.Proofs.Ytkfingiebkgleaa
open Go.AV Go.RowKit
theorem ywI {H : Hp} {n m : Nat} {rc : Blk} {x : X} {E : List X} {v0 : AV} {S : St} {Q : St → Prop} (hl : E.length ≤ 1000000000) (hm : n + 3 ≤ m) (c : Co H n rc x S) (p : Pr n m x E v0 (fun _ => false) S) (hQ : ∀ S', Co H n rc x S' → S'.nx = m + 1 → S'.M (.h n) = some ⟨34, 1, [.gs (.h m) (E.length + 1)]⟩ → S'.M (.h m) = some ⟨36, 8, yaj E ++ yai x⟩ → Q S') : anyD h15 Try.prog yqM Q S := by
 refine ⟨Iv H n m rc x E v0, ⟨c, .inl p⟩, fun D S' hD h => ?_, fun i o f hi => ?_⟩
 ·obtain ⟨c, p | p⟩ := h
  ·have := p.d4; rw [hD 4 (by decide)] at this; cases this
  ·have h1 := p.box
   have h2 := p.row
   rw [hD 7 (by decide)] at h1
   rw [hD 6 (by decide)] at h2
   exact hQ S' c p.nx h1 h2
 ·match i, hi with
  | 0, hi => cases hi; exact ⟨rfl, fun D S' hd _ h => op0 hd h⟩
  | 1, hi => cases hi; exact ⟨rfl, fun D S' hd _ h => op1 hd h⟩
  | 2, hi => cases hi; exact ⟨rfl, fun D S' hd hr h => op2 hd (mdt (hr 0 _ (by omega) rfl) (by simp [yhy, opds, yqn])) h⟩
  | 3, hi => cases hi; exact ⟨rfl, fun D S' hd _ h => op3 hd h⟩
  | 4, hi => cases hi; exact ⟨rfl, fun D S' hd hr h => op4 hl hm hd (must (hr 0 _ (by omega) rfl) (by simp) (by simp [mayW, ygG])) (must (hr 1 _ (by omega) rfl) (by simp) (by simp [mayW, ygG])) (must (hr 2 _ (by omega) rfl) (by simp) (by simp [mayW, ygG])) (must (hr 3 _ (by omega) rfl) (by simp) (by simp [mayW, ygG])) h⟩
  | 5, hi => cases hi; exact ⟨rfl, fun D S' hd hr h => op5 hd (mdt (hr 4 _ (by omega) rfl) (by simp [yhy, opds, yqn])) h⟩
  | 6, hi => cases hi; exact ⟨rfl, fun D S' hd hr h => op6 hm hd (must (hr 5 _ (by omega) rfl) (by simp) (by simp [mayW, ygG])) (must (hr 4 _ (by omega) rfl) (by simp) (by simp [mayW, ygG])) h⟩
  | 7, hi => cases hi; exact ⟨rfl, fun D S' hd hr h => op7 hm hd (must (hr 4 _ (by omega) rfl) (by simp) (by simp [mayW, ygG])) h⟩
  | i + 8, hi => cases hi
section
variable {a : List X} {ps : Array Tmp} {asg body : Code} {fr : List AV} {H : Hp} {n : Nat}
theorem ytN (hfr : fr.length = 18) (h3 : (fr[3]?).getD (.tup []) = .pt (.h n) 0) (hps : ps = #[7]) (hA : trC Try.prog 18 asg = some yse) (hB : trC Try.prog 18 body = some yqJ) {x : X} {r : List X} {H' : Hp} {m : Nat} (J : JJ a ps asg body fr H n (x :: r) H' m) :
  ydE Try.prog (n + 2) [.agg (yai x)] H' m fun v H'' m' => (v = .bl true /\ JJ a ps asg body fr H n r H'' m') ∨ (v = .bl false /\ False) := by
 have xlen := yaK x
 have xone := ycd x
 obtain ⟨hm, hold, hrc, E, hE, hEl, hbox⟩ := J
 subst hps
 refine ytV h15 hA hB (e := 0) (fr := fr) hrc hfr rfl ?_
 refine wO ?_
 refine rBox (cs := [.it .i64 0, .it .i64 0, .it .i64 0, .it .i64 0, .st [], .st [], .st [], .sl true 0 []]) rfl rfl rfl (by omega) rfl ?_
 refine rSto (ky := .l 4 1) (off := 0) (b := ⟨36, 8, [.it .i64 0, .it .i64 0, .it .i64 0, .it .i64 0, .st [], .st [], .st [], .sl true 0 []]⟩) (cs := yai x) rfl ?_ (by decide) rfl xlen xone (Nat.le_refl 8) rfl ?_
 ·show updK (yli H') (.l 4 1) (some _) (.l 4 1) = _
  exact ycz _ _ _
 refine rN ?_
 refine ⟨?_, ?_⟩
 ·show lsOf (H' (n + 2)) = _
  rw [hrc]; rfl
 obtain ⟨v0, hb0, hrow⟩ : ∃ v0, H' n = some ⟨34, 1, [v0]⟩ ∧ ysk n m E v0 (yli H') := by
  rcases hbox with ⟨h1, h2⟩ | ⟨q, h1, h2, h3, h4⟩
  ·exact ⟨_, h2, .inl ⟨h1, rfl⟩⟩
  ·exact ⟨_, h3, .inr ⟨q, h1, h2, rfl, h4⟩⟩
 have hco : ∀ {S : St}, S.fr 3 = .pt (.h n) 0 → S.fr 4 = .pt (.l 4 1) 0 → S.M (.l 4 1) = some ⟨36, 8, yai x⟩ → (∀ k, S.M (.h k) = if k = n + 2 then some ⟨0, 0, .rcd #[7] asg body .busy :: fr⟩ else H' k) → S.nx = m →
   wpA h15 (some (n + 2)) Try.prog yqJ (rndQ (n + 2) fun v H'' m' => (v = .bl true /\ JJ a #[7] asg body fr H n r H'' m') ∨ (v = .bl false /\ False)) S := by
  intro S f3 f4 m4 hM hn
  have c : Co H n ⟨0, 0, .rcd #[7] asg body .busy :: fr⟩ x S := ⟨f3, f4, m4, fun k hk => by rw [hM, if_neg (by omega)]; exact hold k hk, by rw [hM, if_pos rfl]⟩
  have box : S.M (.h n) = some ⟨34, 1, [v0]⟩ := by rw [hM, if_neg (by omega)]; exact hb0
  have row : ysk n m E v0 S.M := by
   rcases hrow with h | ⟨q, h1, h2, h3, h4⟩
   ·exact .inl h
   ·exact .inr ⟨q, h1, h2, h3, by rw [hM, if_neg (by omega)]; exact h4⟩
  refine wB (wS (wO ?_))
  refine rP (v := .pt (.l 4 1) 0) rfl ?_ ?_
  ·show (match S.fr 4 with
    | .pt k o => if yaM S k then some (AV.pt k (o + 0)) else none
    | .ep xs o => some (.ep xs (o + 0))
    | _ => none) = _
   rw [f4]
   simp only
   rw [if_pos (by unfold yaM; rw [m4]; rfl)]
  refine rLd (us := yai x) (off := 0) (v := .it .i64 x.Kind) ?_ ?_ ?_
  ·show (S.M (.l 4 1)).bind _ = _
   rw [m4]; rfl
  ·cases x; rfl
  refine rP (v := .bl (x.Kind == 8)) rfl ?_ ?_
  ·show (some _).map _ = _
   simp only [Option.map_some, Option.some.injEq, AV.bl.injEq]
   cases hk : (x.Kind == 8) <;> simp at hk <;> simp [hk]
  refine rN ?_
  refine wC (c := x.Kind == 8) rfl (fun hk => ?_) (fun hk => ?_)
  ·refine .inr (ywI (E := E) (v0 := v0) (H := H) (n := n) (m := m) (rc := ⟨0, 0, .rcd #[7] asg body .busy :: fr⟩) (x := x) (by omega) hm ⟨c.f3, c.f4, c.m4, c.old, c.rc⟩ ⟨rfl, rfl, rfl, rfl, hn, box, row, fun h => (by cases h), fun h => (by cases h), fun h => (by cases h), fun h => (by cases h)⟩ ?_)
   intro S' c' hn' hb' hr'
   refine yud (D := E ++ [x]) (v0 := .gs (.h m) (E.length + 1)) (by omega) c'.old c'.rc hb' (.inr ⟨m, hm, by omega, by simp, ?_⟩) ?_ ?_
   ·rw [hr', yub]; simp [yaj]
   ·rw [<- hE, List.filter_cons, if_pos hk, List.append_assoc]; rfl
   ·simp only [List.length_append, List.length_cons, List.length_nil] at hEl ⊢; omega
  ·refine wK ?_
   refine yud (D := E) (v0 := v0) (by show n + 3 <= S.nx; omega) c.old c.rc box (by show ysk n S.nx E v0 S.M; rw [hn]; exact row) ?_ ?_
   ·rw [<- hE, List.filter_cons, if_neg (by rw [hk]; simp)]
   ·simp only [List.length_cons] at hEl; omega
 refine hco h3 rfl ?_ (fun k => ?_) rfl
 ·show updK (updK (yli H') (.l 4 1) (some ⟨36, 8, [.it .i64 0, .it .i64 0, .it .i64 0, .it .i64 0, .st [], .st [], .st [], .sl true 0 []]⟩)) (.l 4 1) (some ⟨36, 8, [] ++ yai x ++ []⟩) (.l 4 1) = _
  rw [ycz]; simp
 ·show updK _ (.h (n + 2)) _ (.h k) = _
  rw [ydI]
  split
  ·show (H' (n + 2)).map _ = _
   rw [hrc]; rfl
  ·rfl
end
mutual
theorem yyI (m : Nat) : ∀ x, hlts m (yai x) = true
 | .mk k o v t n L => by
   show hlts m [.it .i64 k, .it .i64 o, .it .i64 v.Kind, .it .i64 v.N, .st v.S, .st t, .st n, .sl false L.length (yaj L)] = true
   simp only [hlts, hlt, yr6 m L, Bool.and_self]
theorem yr6 (m : Nat) : ∀ L, hlts m (yaj L) = true
 | [] => rfl
 | x :: L => by
   have happ : ∀ (a b : List AV), hlts m a = true → hlts m b = true → hlts m (a ++ b) = true := by
    intro a b ha hb
    induction a with
    | nil => exact hb
    | cons u a ih =>
      simp only [hlts, Bool.and_eq_true, List.cons_append] at ha ⊢
      exact ⟨ha.1, ih ha.2⟩
   simp only [yaj]
   exact happ _ _ (yyI m x) (yr6 m L)
end
theorem ysF (L : List X) : slA yaV L = .sl false L.length (yaj L) := by
 unfold slA
 congr 1
 exact (yeq L).symm
theorem yvZ (e : X) (he : (wl e).length ≤ 1000000000) (hok : yiQ e) {H : Hp} {n : Nat} {ps : Array Tmp} {asg body : Code} (hps : ps = #[7]) (hA : trC Try.prog 18 asg = some yse) (hB : trC Try.prog 18 body = some yqJ) {fr : List AV} (hfr : fr.length = 18) (h3 : (fr[3]?).getD (.tup []) = .pt (.h n) 0) {H1 : Hp}
  (ho : ∀ k, k < n -> H1 k = H k) (hb : H1 n = some ⟨34, 1, [.sl true 0 []]⟩) (hr : H1 (n + 2) = some ⟨0, 0, .rcd ps asg body .ready :: fr⟩) (hk : H1 (n + 1) = some ⟨36, 8, yai e⟩) :
  yaA Try.prog 40 [.yld (n + 2), .pt (.h (n + 1)) 0] H1 (n + 3) fun _ H' n' => JJ (aggs e) ps asg body fr H n [] H' n' := by
 refine (yvJ (e := e) hk (yvR (J := JJ (aggs e) ps asg body fr H n) (Jx := fun _ _ => False) (fun x r H m J => ytN hfr h3 hps hA hB J) (SizeOf.sizeOf e) e [] H1 (n + 3) (Nat.le_refl _) hok ?_)).mono ?_
 ·refine ⟨Nat.le_refl _, ho, hr, [], by simp [aggs], by simpa using he, .inl ⟨rfl, hb⟩⟩
 ·rintro _ H' n' ⟨v, ⟨_, h⟩ | ⟨_, h⟩⟩
  ·exact h
  ·exact h.elim
theorem wRng {hs : Nat → Bool} {P : Program} {Q : AEx → St → Prop} {S : St} {N : Nat} {g : AOpd} {ps : Array Tmp} {asg body : Code} {f : FuncId} {first cap : List AV} {Post : AV → Hp → Nat → Prop} (hg : ev S.fr g = .fn (.func f) first cap) (he : ∀ vs w, (callFunc f vs).run P w = .ok (.enter f vs) w)
  (hn : noLs (first ++ [.yld S.nx] ++ cap) = true) (hc : yaA P f (first ++ [.yld S.nx] ++ cap) (S.lay N ps asg body).hp (S.nx + 1) Post) (k : ∀ v H' n', Post v H' n' -> ym0 Q S.nx ((S.lay N ps asg body).withH H' n')) : wpA hs none P (.rng N g ps asg body) Q S := by
 simp only [wpA, hg]
 refine ⟨trivial, ?_⟩
 unfold yjj
 rw [ykF _ _ hn]
 exact ⟨hn, he, hc.mono k⟩
theorem yt2 {e : X} (he : (wl e).length ≤ 1000000000) (hok : yiQ e) {H : Hp} {n : Nat} {hs : Nat → Bool} {Q : AEx → St → Prop} {S : St} (f6 : S.fr 6 = .fn (.func 40) [] [.pt (.h (n + 1)) 0]) (f3 : S.fr 3 = .pt (.h n) 0) (hn : S.nx = n + 2) (ho : ∀ k, k < n → S.M (.h k) = H k) (hb : S.M (.h n) = some ⟨34, 1, [.sl true 0 []]⟩) (hk : S.M (.h (n + 1)) = some ⟨36, 8, yai e⟩)
  (k : ∀ S', S'.fr 3 = .pt (.h n) 0 -> (∀ k, k < n -> S'.M (.h k) = H k) -> n <= S'.nx -> ((aggs e = [] /\ S'.M (.h n) = some ⟨34, 1, [.sl true 0 []]⟩) ∨ ∃ q, n <= q /\ S'.M (.h n) = some ⟨34, 1, [.gs (.h q) (aggs e).length]⟩ /\ S'.M (.h q) = some ⟨36, 8, yaj (aggs e)⟩) -> Q .n S') :
  wpA hs none Try.prog (.rng 18 (.t 6) (rngX Try.prog 11 0).1 (rngX Try.prog 11 0).2.1 (rngX Try.prog 11 0).2.2) Q S := by
 obtain ⟨fr, M, cnt, nx⟩ := S
 have hn : nx = n + 2 := hn
 subst hn
 have hfr : ((((List.range 18).map fun t => cln (fr t))[3]?).getD (.tup [])) = .pt (.h n) 0 := by
  show cln (fr 3) = _
  rw [show fr 3 = .pt (.h n) 0 from f3]; rfl
 refine wRng (f := 40) (first := []) (cap := [.pt (.h (n + 1)) 0]) f6 (ypp t40) rfl (yvZ e he hok (H := H) (n := n) yyk ywW ywD (fr := (List.range 18).map fun t => cln (fr t)) (by simp) hfr (fun k hk => ?_) ?_ ?_ ?_) ?_
 ·show updK M (.h (n + 2)) _ (.h k) = _
  rw [ydI, if_neg (by omega)]; exact ho k hk
 ·show updK M (.h (n + 2)) _ (.h n) = _
  rw [ydI, if_neg (by omega)]; exact hb
 ·exact ycz _ _ _
 ·show updK M (.h (n + 2)) _ (.h (n + 1)) = _
  rw [ydI, if_neg (by omega)]; exact hk
 ·intro v H' n' J
  unfold ym0
  rw [show (((St.lay 18 ⟨fr, M, cnt, n + 2⟩ (rngX Try.prog 11 0).1 (rngX Try.prog 11 0).2.1 (rngX Try.prog 11 0).2.2).withH H' n').M (.h (n + 2))) = H' (n + 2) from rfl, J.rcd]
  refine k _ f3 (fun k hk => ?_) (by have := J.lt; show n <= n'; omega) ?_
  ·show updK _ (.h (n + 2)) _ (.h k) = _
   rw [ydI, if_neg (by omega)]; exact J.old k hk
  ·obtain ⟨E, hE, _, hbox⟩ := J.row
   have hE : E = aggs e := by simpa using hE
   subst hE
   rcases hbox with ⟨h1, h2⟩ | ⟨q, h1, h2, h3, h4⟩
   ·refine .inl ⟨h1, ?_⟩
    show updK _ (.h (n + 2)) _ (.h n) = _
    rw [ydI, if_neg (by omega)]; exact h2
   ·refine .inr ⟨q, by omega, ?_, ?_⟩
    ·show updK _ (.h (n + 2)) _ (.h n) = _
     rw [ydI, if_neg (by omega)]; exact h3
    ·show updK _ (.h (n + 2)) _ (.h q) = _
     rw [ydI, if_neg (by omega)]; exact h4
theorem ytM (e : X) (he : (wl e).length ≤ 1000000000) (hok : yiQ e) (H : Hp) (n : Nat) : yaA Try.prog 11 [.agg (yai e)] H n fun av H' n' => (∃ av', av' = slA yaV (aggs e) ∧ ((av' = av ∨ av = .sl true 0 [] ∧ av' = .sl false 0 []) ∨ ∃ q m b, av = .gs (.h q) m ∧ n ≤ q ∧ H' q = some b ∧ b.cells.length = m * b.sz ∧ b.sz ≠ 0 ∧ noLs b.cells = true ∧ av' = .sl false m b.cells)) ∧ (∀ o, o < n → H' o = H o) ∧ n ≤ n' := by
 have hl := yaK e
 have hno := ybY e
 have h1 := ycd e
 refine yf1 t11 (fun s => s == 3) (show 1 <= 18 by omega) ?_
 refine wS (wO ?_)
 refine rBox (cs := yai e) rfl hl h1 (by omega) rfl ?_
 refine rP rfl rfl ?_
 refine rN ?_
 refine wS (wO ?_)
 refine rBox (cs := [.sl true 0 []]) rfl rfl rfl (by omega) rfl ?_
 refine rN ?_
 refine wS (wS (wO ?_))
 refine rLd (us := yai e) (off := 0) (v := .agg (yai e)) ?_ ?_ ?_
 ·rfl
 ·show (if 0 + 8 ≤ (yai e).length then some (AV.agg (((yai e).drop 0).take 8)) else none) = _
  rw [if_pos (by omega), List.drop_zero, List.take_of_length_le (by omega)]
 refine ywa (f := 25) (vs := [.agg (yai e)]) rfl ?_ (ywJ hl h1 hno) ?_
 ·simp [noLs, AV.noL, hno]
 rintro v H1 n1 ⟨rfl, rfl, rfl⟩
 refine rN ?_
 refine wB ?_
 refine yt2 (e := e) (n := n) (H := H) he hok rfl rfl rfl (fun k hk => ?_) ?_ ?_ ?_
 ·show (if k = n + 1 then (some ⟨36, 8, yai e⟩ : Option Blk) else updK (updK (yli H) (.l 1 1) (some ⟨36, 8, yai e⟩)) (.h n) (some ⟨34, 1, [.sl true 0 []]⟩) (.h k)) = _
  rw [if_neg (by omega), ydI, if_neg (by omega)]; rfl
 ·show (if n = n + 1 then (some ⟨36, 8, yai e⟩ : Option Blk) else updK (updK (yli H) (.l 1 1) (some ⟨36, 8, yai e⟩)) (.h n) (some ⟨34, 1, [.sl true 0 []]⟩) (.h n)) = _
  rw [if_neg (by omega), ycz]
 ·show (if n + 1 = n + 1 then (some ⟨36, 8, yai e⟩ : Option Blk) else _) = _
  rw [if_pos rfl]
 intro S f3 ho hn hr
 refine wS (wO ?_)
 rcases hr with ⟨h1, h2⟩ | ⟨q, h1, h2, h3⟩
 ·refine rLd (us := [.sl true 0 []]) (off := 0) (v := .sl true 0 []) ?_ rfl ?_
  ·show tgt S (S.fr 3) = _
   rw [f3]
   show (S.M (.h n)).bind _ = _
   rw [h2]; rfl
  refine rP rfl rfl ?_
  refine rN ?_
  refine wR ?_
  refine wI rfl ⟨rfl, ⟨_, rfl, .inl (.inr ⟨rfl, ?_⟩)⟩, ho, hn⟩
  rw [ysF, h1]; rfl
 ·refine rLd (us := [.gs (.h q) (aggs e).length]) (off := 0) (v := .gs (.h q) (aggs e).length) ?_ rfl ?_
  ·show tgt S (S.fr 3) = _
   rw [f3]
   show (S.M (.h n)).bind _ = _
   rw [h2]; rfl
  refine rP rfl rfl ?_
  refine rN ?_
  refine wR ?_
  refine wI rfl ⟨rfl, ⟨_, rfl, .inr ⟨q, _, _, rfl, h1, h3, yrb _, Nat.succ_ne_zero _, ytB _, ysF _⟩⟩, ho, hn⟩
theorem yrv (e : X) (he : (wl e).length ≤ 1000000000) (hok : yiQ e) : Pure Try.prog 11 [.agg (yaV.c e)] (slA yaV (aggs e)) := by
 intro H n
 refine (yaA.shr (Post := fun av => av = slA yaV (aggs e)) (ytM e he hok H n) ?_)
 rintro av rfl
 rw [ysF]
 exact ⟨rfl, fun m => yr6 m _⟩
mutual
theorem ywj : ∀ e : X, (wl e).length ≤ 1000000000 → yiQ e
 | .mk k o v t n L, h => by
   simp only [wl, List.length_cons] at h
   obtain ⟨a, b⟩ := yut L (by omega)
   exact ⟨by omega, b⟩
theorem yut : ∀ L : List X, (wls L).length ≤ 1000000000 → L.length ≤ (wls L).length ∧ yow L
 | [], _ => ⟨Nat.le_refl _, trivial⟩
 | x :: r, h => by
   simp only [wls, List.length_append] at h
   obtain ⟨a, b⟩ := yut r (by omega)
   have hx := ywj x (by omega)
   have : 1 <= (wl x).length := by cases x; simp [wl]
   refine ⟨?_, hx, b⟩
   simp only [wls, List.length_append, List.length_cons]; omega
end
theorem ysC {e : X} (he : (wl e).length <= 1000000000) : Pure Try.prog 11 [.agg (yaV.c e)] (slA yaV (aggs e)) := yrv e he (ywj e he)
end Go.Proofs.Ytkfingiebkgleaa
end
noncomputable section
namespace Go.Proofs.Ytkfingiebkgleaa
open Go.AV Go.RowKit
def yaZ (a0 : Int) (r0 : yac) : Prop :=
 (⟨(2 : Int), a0, ([] : Str)⟩ : yac) = r0
def ydM : Sp KK := ⟨17, [.v 2], [33], appW (K := KK) [33] [.v 2] yaZ⟩
def ymq : An KK := (.s .o (.s .o .o))
def yl7 : Cf KK := ⟨CC, [], 5⟩
set_option maxRecDepth 100000 in
theorem ye2 : SpOk Try.prog CC ydM := by
 intro env r hF h
 obtain ⟨a0, env0, rfl, h1⟩ := yam h
 obtain ⟨rfl, h2⟩ := yaw h1
 obtain ⟨r0, rr0, rfl, h3⟩ := yaz h2
 obtain ⟨rfl, h4⟩ := yaR h3
 refine ⟨rfl, yaE (F := yl7) ybe yaF t17 (A := ymq) (ps := [.v 2]) (rs := [33]) (env := [.d (.v 2 a0)]) (r := [.v 33 r0]) (X := yaZ a0 r0) (by kernel_rfl) (Nat.le_of_ble_eq_true (by kernel_rfl)) rfl hF h4 ?_⟩
 kernel_rfl
def yfG (X1 : Int → Int → Int → Prop) (x3 : Int) (x2 : Int) (x1 : Int) (x5 : Bool) : Prop :=
 cnd x5 (X1 x3 (IntKind.i64.wrap (x2 + (1 : Int))) (IntKind.i64.wrap (x3 + (1 : Int)))) (X1 x1 x2 (IntKind.i64.wrap (x3 + (1 : Int))))
def yfB (a0 : (List yae)) (a1 : yad) (r0 : Int) (r1 : Int) (X1 : Int → Int → Int → Prop) (x1 : Int) (x2 : Int) (x3 : Int) : Prop :=
 cnd (decide (x3 < (a0.length : Int))) ((0 <= x3) /\ (x3 < (a0.length : Int)) /\ ∃ y4 : yae, (a0[x3.toNat]? = some y4) /\ ∀ J2 : Bool -> Prop, (∀ (x5 : Bool), yfG X1 x3 x2 x1 x5 -> J2 x5) -> cnd (y4.Name == a1.Name) (cnd (a1.Table == ([] : Str)) (J2 true) (J2 (a1.Table == y4.Table))) (J2 false)) (cnd (x2 == (0 : Int)) ((0 : Int) = r0 /\ (6 : Int) = r1) (cnd (x2 == (1 : Int)) (x1 = r0 /\ (0 : Int) = r1) ((0 : Int) = r0 /\ (7 : Int) = r1)))
def ybS (a0 : (List yae)) (a1 : yad) (r0 : Int) (r1 : Int) : Prop :=
 (a0.length <= maxLen -> ∀ X1 : Int -> Int -> Int -> Prop, (∀ (x1 : Int) (x2 : Int) (x3 : Int), yfB a0 a1 r0 r1 X1 x1 x2 x3 -> X1 x1 x2 x3) -> X1 (0 : Int) (0 : Int) (0 : Int))
def ybW (X1 : Int → Int → Int → Prop) (x1 : Int) (x2 : Int) (x3 : Int) (x5 : Bool) : Prop :=
 cnd x5 (X1 x3 (IntKind.i64.wrap (x2 + (1 : Int))) (IntKind.i64.wrap (x3 + (1 : Int)))) (X1 x1 x2 (IntKind.i64.wrap (x3 + (1 : Int))))
def ydS (a0 : (List yae)) (a1 : yad) (r0 : Int) (r1 : Int) (X1 : Int → Int → Int → Prop) (x1 : Int) (x2 : Int) (x3 : Int) : Prop :=
 cnd (decide (x3 < (a0.length : Int))) ((0 <= x3) /\ (x3 < (a0.length : Int)) /\ ∃ y4 : yae, (a0[x3.toNat]? = some y4) /\ cnd (y4.Name == a1.Name) (cnd (a1.Table == ([] : Str)) (ybW X1 x1 x2 x3 true) (ybW X1 x1 x2 x3 (a1.Table == y4.Table))) (ybW X1 x1 x2 x3 false)) (cnd (x2 == (0 : Int)) ((0 : Int) = r0 /\ (6 : Int) = r1) (cnd (x2 == (1 : Int)) (x1 = r0 /\ (0 : Int) = r1) ((0 : Int) = r0 /\ (7 : Int) = r1)))
def yiK (a0 : (List yae)) (a1 : yad) (r0 : Int) (r1 : Int) : Prop :=
 (a0.length <= maxLen -> ∀ X1 : Int -> Int -> Int -> Prop, (∀ (x1 : Int) (x2 : Int) (x3 : Int), ydS a0 a1 r0 r1 X1 x1 x2 x3 -> X1 x1 x2 x3) -> X1 (0 : Int) (0 : Int) (0 : Int))
theorem ykW (X1 : Int → Int → Int → Prop) (x1 : Int) (x2 : Int) (x3 : Int) {x5 : Bool} (h : ybW X1 x1 x2 x3 x5) : yfG X1 x3 x2 x1 x5 := by
 unfold yfG
 unfold ybW at h
 exact h
theorem ylf (a0 : (List yae)) (a1 : yad) (r0 : Int) (r1 : Int) {X1 : Int → Int → Int → Prop} {x1 : Int} {x2 : Int} {x3 : Int} (h : ydS a0 a1 r0 r1 X1 x1 x2 x3) : yfB a0 a1 r0 r1 X1 x1 x2 x3 := by
 unfold yfB
 unfold ydS at h
 refine yag h (fun h => ?_) (fun h => ?_)
 ·obtain ⟨h0, h⟩ := h
  refine ⟨h0, ?_⟩
  obtain ⟨h0, h⟩ := h
  refine ⟨h0, ?_⟩
  obtain ⟨y4, h⟩ := h
  refine ⟨y4, ?_⟩
  obtain ⟨h0, h⟩ := h
  refine ⟨h0, ?_⟩
  intro J2 kJ2
  have hJ2 : ∀ (x5 : Bool), ybW X1 x1 x2 x3 x5 -> J2 x5 := fun x5 q => kJ2 x5 (ykW X1 x1 x2 x3 q)
  refine yag h (fun h => ?_) (fun h => ?_)
  ·refine yag h (fun h => ?_) (fun h => ?_)
   ·exact hJ2 _ h
   ·exact hJ2 _ h
  ·exact hJ2 _ h
 ·exact h
theorem yoQ (a0 : (List yae)) (a1 : yad) (r0 : Int) (r1 : Int) (h : yiK a0 a1 r0 r1) : ybS a0 a1 r0 r1 := by
 unfold ybS
 unfold yiK at h
 intro c
 replace h := h c
 intro X1 k
 exact h X1 (fun x1 x2 x3 q => k x1 x2 x3 (ylf a0 a1 r0 r1 q))
def yfV : Sp KK := ⟨27, [.v 38, .v 36], [3, 44], appW (K := KK) [3, 44] [.v 38, .v 36] ybS⟩
def yoc : An KK := (.s .o (.s .o (.s (.s .o (.b (.l ⟨[(3, .px 3 0), (6, .it .i64), (7, .it .i64), (10, .kp 32), (11, .kp 33), (12, .it .i64)], [(3, 36, [.kp 35, .kp 36, .kp 37, .kp 38, .kp 39, .kp 40, .kp 41, .kp 42])], []⟩ (fun _ => (.s .o (.s (.c .o .o) (.s (.b (.s .o (.j ⟨[(3, .px 3 0), (6, .kp 55), (7, .kp 56), (8, .kp 57), (10, .kp 32), (11, .kp 33), (12, .kp 58), (33, .bl)], [(3, 36, [.kp 35, .kp 36, .kp 37, .kp 38, .kp 39, .kp 40, .kp 41, .kp 42])], []⟩ .o (fun _ => (.c (.s .o .o) .o))))) .o))))))) (.s (.s .o (.b (.s .o (.c (.s .o .o) (.s .o (.c (.s .o .o) .o)))))) (.s .o .o)))))
def yof : Cf KK := ⟨CC, [], 44⟩
set_option maxRecDepth 100000 in
theorem yiT : SpOk Try.prog CC yfV := by
 intro env r hF h
 obtain ⟨a0, env0, rfl, h1⟩ := yam h
 obtain ⟨a1, env1, rfl, h2⟩ := yam h1
 obtain ⟨rfl, h3⟩ := yaw h2
 obtain ⟨r0, rr0, rfl, h4⟩ := yaz h3
 obtain ⟨r1, rr1, rfl, h5⟩ := yaz h4
 obtain ⟨rfl, h6⟩ := yaR h5
 refine ⟨rfl, yaE (F := yof) ybe yaF t27 (A := yoc) (ps := [.v 38, .v 36]) (rs := [3, 44]) (env := [.d (.v 38 a0), .d (.v 36 a1)]) (r := [.v 3 r0, .v 44 r1]) (X := ybS a0 a1 r0 r1) (by kernel_rfl) (Nat.le_of_ble_eq_true (by kernel_rfl)) rfl hF h6 ?_⟩
 kernel_rfl
def ycF (a0 : Int) (a1 : Int) (r0 : Bool) : Prop :=
 cnd (a0 == (0 : Int)) (true = r0) ((a0 == a1) = r0)
def yib : Sp KK := ⟨50, [.v 3, .v 3], [4], appW (K := KK) [4] [.v 3, .v 3] ycF⟩
def yqe : An KK := (.s .o (.s .o .o))
def ypI : Cf KK := ⟨CC, [], 12⟩
set_option maxRecDepth 100000 in
theorem ylK : SpOk Try.prog CC yib := by
 intro env r hF h
 obtain ⟨a0, env0, rfl, h1⟩ := yam h
 obtain ⟨a1, env1, rfl, h2⟩ := yam h1
 obtain ⟨rfl, h3⟩ := yaw h2
 obtain ⟨r0, rr0, rfl, h4⟩ := yaz h3
 obtain ⟨rfl, h5⟩ := yaR h4
 refine ⟨rfl, yaE (F := ypI) ybe yaF t50 (A := yqe) (ps := [.v 3, .v 3]) (rs := [4]) (env := [.d (.v 3 a0), .d (.v 3 a1)]) (r := [.v 4 r0]) (X := ycF a0 a1 r0) (by kernel_rfl) (Nat.le_of_ble_eq_true (by kernel_rfl)) rfl hF h5 ?_⟩
 kernel_rfl
def yez (r0 : Int) (r1 : Int) (x2 : Int) (x3 : Bool) : Prop :=
 cnd x3 ((0 : Int) = r0 /\ (5 : Int) = r1) (x2 = r0 /\ (0 : Int) = r1)
def yeA (r0 : Int) (r1 : Int) (a1 : Int) (a2 : Int) (x1 : Int) (x2 : Int) : Prop :=
 ∀ J2 : Bool -> Prop, (∀ (x3 : Bool), yez r0 r1 x2 x3 -> J2 x3) -> ∃ z4 : Bool, (ycF a1 x1 z4) /\ cnd (!z4) (J2 true) (∃ z5 : Bool, (ycF a2 x1 z5) /\ J2 (!z5))
def yew (r0 : Int) (r1 : Int) (x6 : Bool) : Prop :=
 cnd x6 ((0 : Int) = r0 /\ (5 : Int) = r1) ((1 : Int) = r0 /\ (0 : Int) = r1)
def yeu (J1 : Int → Int → Prop) (a0 : Int) (x7 : Bool) : Prop :=
 cnd x7 (J1 (1 : Int) (1 : Int)) (cnd (a0 == (12 : Int)) (J1 (3 : Int) (3 : Int)) (J1 (2 : Int) (2 : Int)))
def ybU (a0 : Int) (a1 : Int) (a2 : Int) (r0 : Int) (r1 : Int) : Prop :=
 ∀ J1 : Int -> Int -> Prop, (∀ (x1 : Int) (x2 : Int), yeA r0 r1 a1 a2 x1 x2 -> J1 x1 x2) -> cnd (decide (a0 <= (6 : Int))) (∀ J3 : Bool -> Prop, (∀ (x6 : Bool), yew r0 r1 x6 -> J3 x6) -> cnd (!(a1 == a2)) (cnd (!(a1 == (0 : Int))) (J3 (!(a2 == (0 : Int)))) (J3 false)) (J3 false)) (∀ J4 : Bool -> Prop, (∀ (x7 : Bool), yeu J1 a0 x7 -> J4 x7) -> cnd (a0 == (13 : Int)) (J4 true) (J4 (a0 == (14 : Int))))
def ybG (r0 : Int) (r1 : Int) (x2 : Int) (x3 : Bool) : Prop :=
 cnd x3 ((0 : Int) = r0 /\ (5 : Int) = r1) (x2 = r0 /\ (0 : Int) = r1)
def yaT (a1 : Int) (a2 : Int) (r0 : Int) (r1 : Int) (x1 : Int) (x2 : Int) : Prop :=
 ∃ z4 : Bool, (ycF a1 x1 z4) /\ cnd (!z4) (ybG r0 r1 x2 true) (∃ z5 : Bool, (ycF a2 x1 z5) /\ ybG r0 r1 x2 (!z5))
def ybj (r0 : Int) (r1 : Int) (x6 : Bool) : Prop :=
 cnd x6 ((0 : Int) = r0 /\ (5 : Int) = r1) ((1 : Int) = r0 /\ (0 : Int) = r1)
def ybE (a0 : Int) (a1 : Int) (a2 : Int) (r0 : Int) (r1 : Int) (x7 : Bool) : Prop :=
 cnd x7 (yaT a1 a2 r0 r1 (1 : Int) (1 : Int)) (cnd (a0 == (12 : Int)) (yaT a1 a2 r0 r1 (3 : Int) (3 : Int)) (yaT a1 a2 r0 r1 (2 : Int) (2 : Int)))
def yeD (a0 : Int) (a1 : Int) (a2 : Int) (r0 : Int) (r1 : Int) : Prop :=
 cnd (decide (a0 <= (6 : Int))) (cnd (!(a1 == a2)) (cnd (!(a1 == (0 : Int))) (ybj r0 r1 (!(a2 == (0 : Int)))) (ybj r0 r1 false)) (ybj r0 r1 false)) (cnd (a0 == (13 : Int)) (ybE a0 a1 a2 r0 r1 true) (ybE a0 a1 a2 r0 r1 (a0 == (14 : Int))))
theorem yjn (r0 : Int) (r1 : Int) (x2 : Int) {x3 : Bool} (h : ybG r0 r1 x2 x3) : yez r0 r1 x2 x3 := by
 unfold yez
 unfold ybG at h
 exact h
theorem yjt (a1 : Int) (a2 : Int) (r0 : Int) (r1 : Int) {x1 : Int} {x2 : Int} (h : yaT a1 a2 r0 r1 x1 x2) : yeA r0 r1 a1 a2 x1 x2 := by
 unfold yeA
 unfold yaT at h
 intro J2 kJ2
 have hJ2 : ∀ (x3 : Bool), ybG r0 r1 x2 x3 -> J2 x3 := fun x3 q => kJ2 x3 (yjn r0 r1 x2 q)
 obtain ⟨z4, h⟩ := h
 refine ⟨z4, ?_⟩
 obtain ⟨h0, h⟩ := h
 refine ⟨h0, ?_⟩
 refine yag h (fun h => ?_) (fun h => ?_)
 ·exact hJ2 _ h
 ·obtain ⟨z5, h⟩ := h
  refine ⟨z5, ?_⟩
  obtain ⟨h0, h⟩ := h
  refine ⟨h0, ?_⟩
  exact hJ2 _ h
theorem yjG (r0 : Int) (r1 : Int) {x6 : Bool} (h : ybj r0 r1 x6) : yew r0 r1 x6 := by
 unfold yew
 unfold ybj at h
 exact h
theorem yjz (J1 : Int → Int → Prop) (a0 : Int) (a1 : Int) (a2 : Int) (r0 : Int) (r1 : Int) (hJ1 : ∀ (x1 : Int) (x2 : Int), yaT a1 a2 r0 r1 x1 x2 → J1 x1 x2) {x7 : Bool} (h : ybE a0 a1 a2 r0 r1 x7) : yeu J1 a0 x7 := by
 unfold yeu
 unfold ybE at h
 refine yag h (fun h => ?_) (fun h => ?_)
 ·exact hJ1 _ _ h
 ·refine yag h (fun h => ?_) (fun h => ?_)
  ·exact hJ1 _ _ h
  ·exact hJ1 _ _ h
theorem ymh (a0 : Int) (a1 : Int) (a2 : Int) (r0 : Int) (r1 : Int) (h : yeD a0 a1 a2 r0 r1) : ybU a0 a1 a2 r0 r1 := by
 unfold ybU
 unfold yeD at h
 intro J1 kJ1
 have hJ1 : ∀ (x1 : Int) (x2 : Int), yaT a1 a2 r0 r1 x1 x2 -> J1 x1 x2 := fun x1 x2 q => kJ1 x1 x2 (yjt a1 a2 r0 r1 q)
 refine yag h (fun h => ?_) (fun h => ?_)
 ·intro J3 kJ3
  have hJ3 : ∀ (x6 : Bool), ybj r0 r1 x6 -> J3 x6 := fun x6 q => kJ3 x6 (yjG r0 r1 q)
  refine yag h (fun h => ?_) (fun h => ?_)
  ·refine yag h (fun h => ?_) (fun h => ?_)
   ·exact hJ3 _ h
   ·exact hJ3 _ h
  ·exact hJ3 _ h
 ·intro J4 kJ4
  have hJ4 : ∀ (x7 : Bool), ybE a0 a1 a2 r0 r1 x7 -> J4 x7 := fun x7 q => kJ4 x7 (yjz J1 a0 a1 a2 r0 r1 hJ1 q)
  refine yag h (fun h => ?_) (fun h => ?_)
  ·exact hJ4 _ h
  ·exact hJ4 _ h
def ygq : Sp KK := ⟨34, [.v 3, .v 3, .v 3], [3, 44], appW (K := KK) [3, 44] [.v 3, .v 3, .v 3] ybU⟩
def ylZ : An KK := (.s .o (.s .o (.j ⟨[(1, .kp 2), (2, .kp 3), (8, .it .i64), (9, .it .i64)], [], []⟩ (.b (.s .o (.c (.s (.j ⟨[(23, .bl)], [], []⟩ .o (fun _ => (.c (.s .o .o) .o))) (.s .o .o)) (.j ⟨[(0, .kp 7), (1, .kp 2), (2, .kp 3), (24, .bl)], [], []⟩ .o (fun _ => (.c .o (.s .o (.c .o .o)))))))) (fun _ => (.s (.j ⟨[(9, .kp 6), (43, .bl)], [], []⟩ .o (fun _ => (.c (.s .o .o) .o))) (.s .o .o))))))
def ykZ : Cf KK := ⟨CC, [yib], 45⟩
set_option maxRecDepth 100000 in
theorem ykS : SpOk Try.prog CC ygq := by
 intro env r hF h
 obtain ⟨a0, env0, rfl, h1⟩ := yam h
 obtain ⟨a1, env1, rfl, h2⟩ := yam h1
 obtain ⟨a2, env2, rfl, h3⟩ := yam h2
 obtain ⟨rfl, h4⟩ := yaw h3
 obtain ⟨r0, rr0, rfl, h5⟩ := yaz h4
 obtain ⟨r1, rr1, rfl, h6⟩ := yaz h5
 obtain ⟨rfl, h7⟩ := yaR h6
 refine ⟨rfl, yaE (F := ykZ) ybe (yas ylK yaF) t34 (A := ylZ) (ps := [.v 3, .v 3, .v 3]) (rs := [3, 44]) (env := [.d (.v 3 a0), .d (.v 3 a1), .d (.v 3 a2)]) (r := [.v 3 r0, .v 44 r1]) (X := ybU a0 a1 a2 r0 r1) (by kernel_rfl) (Nat.le_of_ble_eq_true (by kernel_rfl)) rfl hF h7 ?_⟩
 kernel_rfl
def yfj (r0 : Int) (r1 : Int) (a2 : Int) (x1 : Bool) : Prop :=
 cnd x1 ((0 : Int) = r0 /\ (5 : Int) = r1) (a2 = r0 /\ (0 : Int) = r1)
def yaY (a0 : Int) (a1 : Int) (a2 : Int) (r0 : Int) (r1 : Int) : Prop :=
 ∀ J1 : Bool -> Prop, (∀ (x1 : Bool), yfj r0 r1 a2 x1 -> J1 x1) -> cnd (!(a1 == (0 : Int))) (∃ z2 : Bool, (ycF a0 a1 z2) /\ J1 (!z2)) (J1 false)
def ycj (a2 : Int) (r0 : Int) (r1 : Int) (x1 : Bool) : Prop :=
 cnd x1 ((0 : Int) = r0 /\ (5 : Int) = r1) (a2 = r0 /\ (0 : Int) = r1)
def yfb (a0 : Int) (a1 : Int) (a2 : Int) (r0 : Int) (r1 : Int) : Prop :=
 cnd (!(a1 == (0 : Int))) (∃ z2 : Bool, (ycF a0 a1 z2) /\ ycj a2 r0 r1 (!z2)) (ycj a2 r0 r1 false)
theorem ykk (a2 : Int) (r0 : Int) (r1 : Int) {x1 : Bool} (h : ycj a2 r0 r1 x1) : yfj r0 r1 a2 x1 := by
 unfold yfj
 unfold ycj at h
 exact h
theorem ynh (a0 : Int) (a1 : Int) (a2 : Int) (r0 : Int) (r1 : Int) (h : yfb a0 a1 a2 r0 r1) : yaY a0 a1 a2 r0 r1 := by
 unfold yaY
 unfold yfb at h
 intro J1 kJ1
 have hJ1 : ∀ (x1 : Bool), ycj a2 r0 r1 x1 -> J1 x1 := fun x1 q => kJ1 x1 (ykk a2 r0 r1 q)
 refine yag h (fun h => ?_) (fun h => ?_)
 ·obtain ⟨z2, h⟩ := h
  refine ⟨z2, ?_⟩
  obtain ⟨h0, h⟩ := h
  refine ⟨h0, ?_⟩
  exact hJ1 _ h
 ·exact hJ1 _ h
def yhx : Sp KK := ⟨35, [.v 3, .v 3, .v 3], [3, 44], appW (K := KK) [3, 44] [.v 3, .v 3, .v 3] yaY⟩
def ymw : An KK := (.s .o (.s (.j ⟨[(2, .kp 2), (15, .bl)], [], []⟩ .o (fun _ => (.c (.s .o .o) .o))) (.s .o .o)))
def ymN : Cf KK := ⟨CC, [yib], 17⟩
set_option maxRecDepth 100000 in
theorem ymi : SpOk Try.prog CC yhx := by
 intro env r hF h
 obtain ⟨a0, env0, rfl, h1⟩ := yam h
 obtain ⟨a1, env1, rfl, h2⟩ := yam h1
 obtain ⟨a2, env2, rfl, h3⟩ := yam h2
 obtain ⟨rfl, h4⟩ := yaw h3
 obtain ⟨r0, rr0, rfl, h5⟩ := yaz h4
 obtain ⟨r1, rr1, rfl, h6⟩ := yaz h5
 obtain ⟨rfl, h7⟩ := yaR h6
 refine ⟨rfl, yaE (F := ymN) ybe (yas ylK yaF) t35 (A := ymw) (ps := [.v 3, .v 3, .v 3]) (rs := [3, 44]) (env := [.d (.v 3 a0), .d (.v 3 a1), .d (.v 3 a2)]) (r := [.v 3 r0, .v 44 r1]) (X := yaY a0 a1 a2 r0 r1) (by kernel_rfl) (Nat.le_of_ble_eq_true (by kernel_rfl)) rfl hF h7 ?_⟩
 kernel_rfl
def yeh (r0 : Int) (r1 : Int) (a0 : yad) (a2 : (List Int)) (x14 : Bool) : Prop :=
 cnd x14 ((1 : Int) = r0 /\ (0 : Int) = r1) (cnd (a0.Op == (1 : Int)) ((2 : Int) = r0 /\ (0 : Int) = r1) (cnd (a0.Op == (2 : Int)) ((0 <= (0 : Int)) /\ ((0 : Int) < (a2.length : Int)) /\ ∃ y15 : Int, (a2[(0 : Int).toNat]? = some y15) /\ ∃ z16 : Int, ∃ z17 : Int, (yaY y15 (2 : Int) (2 : Int) z16 z17) /\ z16 = r0 /\ z17 = r1) ((0 <= (0 : Int)) /\ ((0 : Int) < (a2.length : Int)) /\ ∃ y18 : Int, (a2[(0 : Int).toNat]? = some y18) /\ y18 = r0 /\ (0 : Int) = r1)))
def ybV (a0 : yad) (a1 : (List yae)) (a2 : (List Int)) (r0 : Int) (r1 : Int) : Prop :=
 cnd (a0.Kind == (1 : Int)) (a0.V.Kind = r0 /\ (0 : Int) = r1) (cnd (a0.Kind == (2 : Int)) (∃ z1 : Int, ∃ z2 : Int, (ybS a1 (yad.mk a0.Kind a0.Op (⟨a0.V.Kind, a0.V.N, a0.V.S⟩ : yac) a0.Table a0.Name a0.L) z1 z2) /\ cnd (!(z2 == (0 : Int))) ((0 : Int) = r0 /\ z2 = r1) ((0 <= z1) /\ (z1 < (a1.length : Int)) /\ ∃ y3 : yae, (a1[z1.toNat]? = some y3) /\ y3.Kind = r0 /\ (0 : Int) = r1)) (cnd (a0.Kind == (3 : Int)) ((0 <= (0 : Int)) /\ ((0 : Int) < (a2.length : Int)) /\ ∃ y4 : Int, (a2[(0 : Int).toNat]? = some y4) /\ (0 <= (1 : Int)) /\ ((1 : Int) < (a2.length : Int)) /\ ∃ y5 : Int, (a2[(1 : Int).toNat]? = some y5) /\ ∃ z6 : Int, ∃ z7 : Int, (ybU a0.Op y4 y5 z6 z7) /\ z6 = r0 /\ z7 = r1) (cnd (a0.Kind == (4 : Int)) ((0 <= (0 : Int)) /\ ((0 : Int) < (a2.length : Int)) /\ ∃ y8 : Int, (a2[(0 : Int).toNat]? = some y8) /\ ∃ z9 : Int, ∃ z10 : Int, (yaY y8 (1 : Int) (1 : Int) z9 z10) /\ z9 = r0 /\ z10 = r1) (cnd (a0.Kind == (5 : Int)) ((0 <= (0 : Int)) /\ ((0 : Int) < (a2.length : Int)) /\ ∃ y11 : Int, (a2[(0 : Int).toNat]? = some y11) /\ ∃ z12 : Int, ∃ z13 : Int, (yaY y11 (2 : Int) (2 : Int) z12 z13) /\ z12 = r0 /\ z13 = r1) (∀ J1 : Bool -> Prop, (∀ (x14 : Bool), yeh r0 r1 a0 a2 x14 -> J1 x14) -> cnd (a0.Kind == (6 : Int)) (J1 (a0.Kind == (6 : Int))) (J1 (a0.Kind == (7 : Int))))))))
def ya6 (a0 : yad) (a2 : (List Int)) (r0 : Int) (r1 : Int) (x14 : Bool) : Prop :=
 cnd x14 ((1 : Int) = r0 /\ (0 : Int) = r1) (cnd (a0.Op == (1 : Int)) ((2 : Int) = r0 /\ (0 : Int) = r1) (cnd (a0.Op == (2 : Int)) ((0 <= (0 : Int)) /\ ((0 : Int) < (a2.length : Int)) /\ ∃ y15 : Int, (a2[(0 : Int).toNat]? = some y15) /\ ∃ z16 : Int, ∃ z17 : Int, (yaY y15 (2 : Int) (2 : Int) z16 z17) /\ z16 = r0 /\ z17 = r1) ((0 <= (0 : Int)) /\ ((0 : Int) < (a2.length : Int)) /\ ∃ y18 : Int, (a2[(0 : Int).toNat]? = some y18) /\ y18 = r0 /\ (0 : Int) = r1)))
def ybd (a0 : yad) (a1 : (List yae)) (a2 : (List Int)) (r0 : Int) (r1 : Int) : Prop :=
 cnd (a0.Kind == (1 : Int)) (a0.V.Kind = r0 /\ (0 : Int) = r1) (cnd (a0.Kind == (2 : Int)) (∃ z1 : Int, ∃ z2 : Int, (ybS a1 (yad.mk a0.Kind a0.Op (⟨a0.V.Kind, a0.V.N, a0.V.S⟩ : yac) a0.Table a0.Name a0.L) z1 z2) /\ cnd (!(z2 == (0 : Int))) ((0 : Int) = r0 /\ z2 = r1) ((0 <= z1) /\ (z1 < (a1.length : Int)) /\ ∃ y3 : yae, (a1[z1.toNat]? = some y3) /\ y3.Kind = r0 /\ (0 : Int) = r1)) (cnd (a0.Kind == (3 : Int)) ((0 <= (0 : Int)) /\ ((0 : Int) < (a2.length : Int)) /\ ∃ y4 : Int, (a2[(0 : Int).toNat]? = some y4) /\ (0 <= (1 : Int)) /\ ((1 : Int) < (a2.length : Int)) /\ ∃ y5 : Int, (a2[(1 : Int).toNat]? = some y5) /\ ∃ z6 : Int, ∃ z7 : Int, (ybU a0.Op y4 y5 z6 z7) /\ z6 = r0 /\ z7 = r1) (cnd (a0.Kind == (4 : Int)) ((0 <= (0 : Int)) /\ ((0 : Int) < (a2.length : Int)) /\ ∃ y8 : Int, (a2[(0 : Int).toNat]? = some y8) /\ ∃ z9 : Int, ∃ z10 : Int, (yaY y8 (1 : Int) (1 : Int) z9 z10) /\ z9 = r0 /\ z10 = r1) (cnd (a0.Kind == (5 : Int)) ((0 <= (0 : Int)) /\ ((0 : Int) < (a2.length : Int)) /\ ∃ y11 : Int, (a2[(0 : Int).toNat]? = some y11) /\ ∃ z12 : Int, ∃ z13 : Int, (yaY y11 (2 : Int) (2 : Int) z12 z13) /\ z12 = r0 /\ z13 = r1) (cnd (a0.Kind == (6 : Int)) (ya6 a0 a2 r0 r1 (a0.Kind == (6 : Int))) (ya6 a0 a2 r0 r1 (a0.Kind == (7 : Int))))))))
theorem yjy (a0 : yad) (a2 : (List Int)) (r0 : Int) (r1 : Int) {x14 : Bool} (h : ya6 a0 a2 r0 r1 x14) : yeh r0 r1 a0 a2 x14 := by
 unfold yeh
 unfold ya6 at h
 exact h
theorem ycG (a0 : yad) (a1 : (List yae)) (a2 : (List Int)) (r0 : Int) (r1 : Int) (h : ybd a0 a1 a2 r0 r1) : ybV a0 a1 a2 r0 r1 := by
 unfold ybV
 unfold ybd at h
 refine yag h (fun h => ?_) (fun h => ?_)
 ·exact h
 ·refine yag h (fun h => ?_) (fun h => ?_)
  ·exact h
  ·refine yag h (fun h => ?_) (fun h => ?_)
   ·exact h
   ·refine yag h (fun h => ?_) (fun h => ?_)
    ·exact h
    ·refine yag h (fun h => ?_) (fun h => ?_)
     ·exact h
     ·intro J1 kJ1
      have hJ1 : ∀ (x14 : Bool), ya6 a0 a2 r0 r1 x14 -> J1 x14 := fun x14 q => kJ1 x14 (yjy a0 a2 r0 r1 q)
      refine yag h (fun h => ?_) (fun h => ?_)
      ·exact hJ1 _ h
      ·exact hJ1 _ h
def ygW : Sp KK := ⟨21, [.v 36, .v 38, .v 70], [3, 44], appW (K := KK) [3, 44] [.v 36, .v 38, .v 70] ybV⟩
def ylw : An KK := (.s .o (.s (.s .o (.b (.s .o (.c (.s .o .o) (.s .o (.c (.s .o (.s (.s .o (.c (.s .o .o) .o)) (.s .o .o))) (.s .o (.c (.s .o .o) (.s .o (.c (.s .o .o) (.s .o (.c (.s .o .o) (.j ⟨[(2, .kp 10), (3, .px 3 0), (62, .bl)], [(3, 36, [.kp 11, .kp 12, .kp 13, .kp 14, .kp 15, .kp 16, .kp 17, .kp 18])], []⟩ (.s .o (.c .o .o)) (fun _ => (.c (.s .o .o) .o))))))))))))))) (.s (.s .o (.b (.s .o (.c (.s .o .o) (.s .o (.c (.s .o .o) .o)))))) (.s .o .o))))
def ylE : Cf KK := ⟨CC, [yfV, ygq, yhx], 80⟩
set_option maxRecDepth 100000 in
theorem ylG : SpOk Try.prog CC ygW := by
 intro env r hF h
 obtain ⟨a0, env0, rfl, h1⟩ := yam h
 obtain ⟨a1, env1, rfl, h2⟩ := yam h1
 obtain ⟨a2, env2, rfl, h3⟩ := yam h2
 obtain ⟨rfl, h4⟩ := yaw h3
 obtain ⟨r0, rr0, rfl, h5⟩ := yaz h4
 obtain ⟨r1, rr1, rfl, h6⟩ := yaz h5
 obtain ⟨rfl, h7⟩ := yaR h6
 refine ⟨rfl, yaE (F := ylE) ybe (yas yiT (yas ykS (yas ymi yaF))) t21 (A := ylw) (ps := [.v 36, .v 38, .v 70]) (rs := [3, 44]) (env := [.d (.v 36 a0), .d (.v 38 a1), .d (.v 70 a2)]) (r := [.v 3 r0, .v 44 r1]) (X := ybV a0 a1 a2 r0 r1) (by kernel_rfl) (Nat.le_of_ble_eq_true (by kernel_rfl)) rfl hF h7 ?_⟩
 kernel_rfl
def yf3 (a0 : yad) (Xr : yad → (List yae) → Bool → Int → Int → Prop) (a1 : (List yae)) (a2 : Bool) (r0 : Int) (r1 : Int) (X2 : Int → (List Int) → Prop) (x2 : Int) (x3 : (List Int)) : Prop :=
 cnd (decide (x2 < (a0.L.length : Int))) ((0 <= x2) /\ (x2 < (a0.L.length : Int)) /\ ∃ y4 : yad, (a0.L[x2.toNat]? = some y4) /\ ∃ z5 : Int, ∃ z6 : Int, (Xr (yad.mk y4.Kind y4.Op (⟨y4.V.Kind, y4.V.N, y4.V.S⟩ : yac) y4.Table y4.Name y4.L) a1 a2 z5 z6) /\ cnd (!(z6 == (0 : Int))) ((0 : Int) = r0 /\ z6 = r1) ((x3.length <= 1000000000) /\ X2 (IntKind.i64.wrap (x2 + (1 : Int))) (x3 ++ ([z5] : List Int)))) (∃ z7 : Int, ∃ z8 : Int, (ybV (yad.mk a0.Kind a0.Op (⟨a0.V.Kind, a0.V.N, a0.V.S⟩ : yac) a0.Table a0.Name a0.L) a1 x3 z7 z8) /\ z7 = r0 /\ z8 = r1)
def yfI (r0 : Int) (r1 : Int) (a0 : yad) (Xr : yad → (List yae) → Bool → Int → Int → Prop) (a1 : (List yae)) (a2 : Bool) (x1 : Bool) : Prop :=
 cnd x1 ((0 : Int) = r0 /\ (4 : Int) = r1) ((a0.L.length <= maxLen -> ∀ X2 : Int -> (List Int) -> Prop, (∀ (x2 : Int) (x3 : (List Int)), yf3 a0 Xr a1 a2 r0 r1 X2 x2 x3 -> X2 x2 x3) -> X2 (0 : Int) ([] : List Int)))
def ydU (Xr : yad → (List yae) → Bool → Int → Int → Prop) (a0 : yad) (a1 : (List yae)) (a2 : Bool) (r0 : Int) (r1 : Int) : Prop :=
 ∀ J1 : Bool -> Prop, (∀ (x1 : Bool), yfI r0 r1 a0 Xr a1 a2 x1 -> J1 x1) -> cnd (a0.Kind == (8 : Int)) (J1 (!a2)) (J1 false)
def yao (a0 : yad) (a1 : (List yae)) (a2 : Bool) (r0 : Int) (r1 : Int) : Prop := ∀ Xr : yad -> (List yae) -> Bool -> Int -> Int -> Prop, (∀ (a0 : yad) (a1 : (List yae)) (a2 : Bool) (r0 : Int) (r1 : Int), ydU Xr a0 a1 a2 r0 r1 -> Xr a0 a1 a2 r0 r1) -> Xr a0 a1 a2 r0 r1
def ye4 (Xr : yad → (List yae) → Bool → Int → Int → Prop) (a0 : yad) (a1 : (List yae)) (a2 : Bool) (r0 : Int) (r1 : Int) (X2 : Int → (List Int) → Prop) (x2 : Int) (x3 : (List Int)) : Prop :=
 cnd (decide (x2 < (a0.L.length : Int))) ((0 <= x2) /\ (x2 < (a0.L.length : Int)) /\ ∃ y4 : yad, (a0.L[x2.toNat]? = some y4) /\ ∃ z5 : Int, ∃ z6 : Int, (Xr (yad.mk y4.Kind y4.Op (⟨y4.V.Kind, y4.V.N, y4.V.S⟩ : yac) y4.Table y4.Name y4.L) a1 a2 z5 z6) /\ cnd (!(z6 == (0 : Int))) ((0 : Int) = r0 /\ z6 = r1) ((x3.length <= 1000000000) /\ X2 (IntKind.i64.wrap (x2 + (1 : Int))) (x3 ++ ([z5] : List Int)))) (∃ z7 : Int, ∃ z8 : Int, (ybV (yad.mk a0.Kind a0.Op (⟨a0.V.Kind, a0.V.N, a0.V.S⟩ : yac) a0.Table a0.Name a0.L) a1 x3 z7 z8) /\ z7 = r0 /\ z8 = r1)
def yb2 (Xr : yad → (List yae) → Bool → Int → Int → Prop) (a0 : yad) (a1 : (List yae)) (a2 : Bool) (r0 : Int) (r1 : Int) (x1 : Bool) : Prop :=
 cnd x1 ((0 : Int) = r0 /\ (4 : Int) = r1) ((a0.L.length <= maxLen -> ∀ X2 : Int -> (List Int) -> Prop, (∀ (x2 : Int) (x3 : (List Int)), ye4 Xr a0 a1 a2 r0 r1 X2 x2 x3 -> X2 x2 x3) -> X2 (0 : Int) ([] : List Int)))
def yd8 (Xr : yad → (List yae) → Bool → Int → Int → Prop) (a0 : yad) (a1 : (List yae)) (a2 : Bool) (r0 : Int) (r1 : Int) : Prop :=
 cnd (a0.Kind == (8 : Int)) (yb2 Xr a0 a1 a2 r0 r1 (!a2)) (yb2 Xr a0 a1 a2 r0 r1 false)
theorem yk2 (Xr : yad → (List yae) → Bool → Int → Int → Prop) (a0 : yad) (a1 : (List yae)) (a2 : Bool) (r0 : Int) (r1 : Int) {X2 : Int → (List Int) → Prop} {x2 : Int} {x3 : (List Int)} (h : ye4 Xr a0 a1 a2 r0 r1 X2 x2 x3) : yf3 a0 Xr a1 a2 r0 r1 X2 x2 x3 := by
 unfold yf3
 unfold ye4 at h
 exact h
theorem ykN (Xr : yad → (List yae) → Bool → Int → Int → Prop) (a0 : yad) (a1 : (List yae)) (a2 : Bool) (r0 : Int) (r1 : Int) {x1 : Bool} (h : yb2 Xr a0 a1 a2 r0 r1 x1) : yfI r0 r1 a0 Xr a1 a2 x1 := by
 unfold yfI
 unfold yb2 at h
 refine yag h (fun h => ?_) (fun h => ?_)
 ·exact h
 ·intro c
  replace h := h c
  intro X2 k
  exact h X2 (fun x2 x3 q => k x2 x3 (yk2 Xr a0 a1 a2 r0 r1 q))
theorem yfK (Xr : yad → (List yae) → Bool → Int → Int → Prop) (a0 : yad) (a1 : (List yae)) (a2 : Bool) (r0 : Int) (r1 : Int) (h : yd8 Xr a0 a1 a2 r0 r1) : ydU Xr a0 a1 a2 r0 r1 := by
 unfold ydU
 unfold yd8 at h
 intro J1 kJ1
 have hJ1 : ∀ (x1 : Bool), yb2 Xr a0 a1 a2 r0 r1 x1 -> J1 x1 := fun x1 q => kJ1 x1 (ykN Xr a0 a1 a2 r0 r1 q)
 refine yag h (fun h => ?_) (fun h => ?_)
 ·exact hJ1 _ h
 ·exact hJ1 _ h
def yfX : Sp KK := ⟨9, [.v 36, .v 38, .v 4], [3, 44], appW (K := KK) [3, 44] [.v 36, .v 38, .v 4] yao⟩
def ynL : An KK := (.s .o (.s (.j ⟨[(1, .kp 11), (2, .kp 12), (3, .px 3 0), (19, .bl)], [(3, 36, [.kp 13, .kp 14, .kp 15, .kp 16, .kp 17, .kp 18, .kp 19, .kp 20])], []⟩ .o (fun _ => (.c (.s .o .o) .o))) (.s .o (.s (.s .o (.b (.l ⟨[(1, .kp 11), (2, .kp 12), (3, .px 3 0), (8, .row 40), (21, .kp 20), (22, .kp 25), (23, .it .i64)], [(3, 36, [.kp 13, .kp 14, .kp 15, .kp 16, .kp 17, .kp 18, .kp 19, .kp 20])], [(40, 3)]⟩ (fun _ => (.s .o (.s (.c .o .o) (.s (.b (.s .o (.s .o (.s (.s .o (.c (.s .o .o) .o)) .o)))) .o))))))) (.s .o .o)))))
def yn3 (Xr : WTy KK [3, 44] [.v 36, .v 38, .v 4]) : Cf KK := ⟨CC, [⟨9, [.v 36, .v 38, .v 4], [3, 44], appW (K := KK) [3, 44] [.v 36, .v 38, .v 4] Xr⟩, ygW], 48⟩
set_option maxRecDepth 100000 in
theorem ymn (Xr : yad → (List yae) → Bool → Int → Int → Prop) (hX : ∀ (a0 : yad) (a1 : (List yae)) (a2 : Bool) (r0 : Int) (r1 : Int), Xr a0 a1 a2 r0 r1 → Pure Try.prog 9 (ya7 CC [.v 36, .v 38, .v 4] ([.d (.v 36 a0), .d (.v 38 a1), .d (.v 4 a2)] : List (AD KK))) (ybX (([.v 3 r0, .v 44 r1] : List (DV KK)).map (dvA CC)))) : ∀ (a0 : yad) (a1 : (List yae)) (a2 : Bool) (r0 : Int) (r1 : Int), ydU Xr a0 a1 a2 r0 r1 → Pure Try.prog 9 (ya7 CC [.v 36, .v 38, .v 4] ([.d (.v 36 a0), .d (.v 38 a1), .d (.v 4 a2)] : List (AD KK))) (ybX (([.v 3 r0, .v 44 r1] : List (DV KK)).map (dvA CC))) := by
 intro a0 a1 a2 r0 r1 h
 refine yaE (F := yn3 Xr) ybe (yas ?_ (yas ylG yaF)) t9 (A := ynL) (ps := [.v 36, .v 38, .v 4]) (rs := [3, 44]) (env := [.d (.v 36 a0), .d (.v 38 a1), .d (.v 4 a2)]) (r := [.v 3 r0, .v 44 r1]) (X := ydU Xr a0 a1 a2 r0 r1) (by kernel_rfl) (Nat.le_of_ble_eq_true (by kernel_rfl)) rfl (fun G hG => by simp at hG) h ?_
 ·clear h r0 r1
  intro env r hF h
  obtain ⟨a0, env0, rfl, h1⟩ := yam h
  obtain ⟨a1, env1, rfl, h2⟩ := yam h1
  obtain ⟨a2, env2, rfl, h3⟩ := yam h2
  obtain ⟨rfl, h4⟩ := yaw h3
  obtain ⟨r0, rr0, rfl, h5⟩ := yaz h4
  obtain ⟨r1, rr1, rfl, h6⟩ := yaz h5
  obtain ⟨rfl, h7⟩ := yaR h6
  exact ⟨rfl, hX a0 a1 a2 r0 r1 h7⟩
 ·kernel_rfl
set_option maxRecDepth 100000 in
theorem yiP : SpOk Try.prog CC yfX := by
 intro env r hF h
 obtain ⟨a0, env0, rfl, h1⟩ := yam h
 obtain ⟨a1, env1, rfl, h2⟩ := yam h1
 obtain ⟨a2, env2, rfl, h3⟩ := yam h2
 obtain ⟨rfl, h4⟩ := yaw h3
 obtain ⟨r0, rr0, rfl, h5⟩ := yaz h4
 obtain ⟨r1, rr1, rfl, h6⟩ := yaz h5
 obtain ⟨rfl, h7⟩ := yaR h6
 exact ⟨rfl, h7 (fun a0 a1 a2 r0 r1 =>  Pure Try.prog 9 (ya7 CC [.v 36, .v 38, .v 4] ([.d (.v 36 a0), .d (.v 38 a1), .d (.v 4 a2)] : List (AD KK))) (ybX (([.v 3 r0, .v 44 r1] : List (DV KK)).map (dvA CC)))) (fun a0 a1 a2 r0 r1 h => ymn _ (fun a0 a1 a2 r0 r1 h => h) a0 a1 a2 r0 r1 h)⟩
def yaD (a0 : Str) (r0 : yac) : Prop :=
 (⟨(3 : Int), (0 : Int), a0⟩ : yac) = r0
def yem : Sp KK := ⟨18, [.v 9], [33], appW (K := KK) [33] [.v 9] yaD⟩
def yle : An KK := (.s .o (.s .o .o))
def yk7 : Cf KK := ⟨CC, [], 5⟩
set_option maxRecDepth 100000 in
theorem ygK : SpOk Try.prog CC yem := by
 intro env r hF h
 obtain ⟨a0, env0, rfl, h1⟩ := yam h
 obtain ⟨rfl, h2⟩ := yaw h1
 obtain ⟨r0, rr0, rfl, h3⟩ := yaz h2
 obtain ⟨rfl, h4⟩ := yaR h3
 refine ⟨rfl, yaE (F := yk7) ybe yaF t18 (A := yle) (ps := [.v 9]) (rs := [33]) (env := [.d (.v 9 a0)]) (r := [.v 33 r0]) (X := yaD a0 r0) (by kernel_rfl) (Nat.le_of_ble_eq_true (by kernel_rfl)) rfl hF h4 ?_⟩
 kernel_rfl
def ye6 (r0 : Int) (x2 : Bool) : Prop :=
 cnd x2 ((1 : Int) = r0) ((0 : Int) = r0)
def yfa (r0 : Int) (a0 : Int) (x1 : Bool) : Prop :=
 cnd x1 ((2 : Int) = r0) (cnd (a0 == (12 : Int)) ((3 : Int) = r0) (∀ J2 : Bool -> Prop, (∀ (x2 : Bool), ye6 r0 x2 -> J2 x2) -> cnd (a0 == (13 : Int)) (J2 true) (J2 (a0 == (14 : Int)))))
def ycy (a0 : Int) (r0 : Int) : Prop :=
 ∀ J1 : Bool -> Prop, (∀ (x1 : Bool), yfa r0 a0 x1 -> J1 x1) -> cnd (decide ((7 : Int) <= a0)) (J1 (decide (a0 <= (11 : Int)))) (J1 false)
def ycb (r0 : Int) (x2 : Bool) : Prop :=
 cnd x2 ((1 : Int) = r0) ((0 : Int) = r0)
def yca (a0 : Int) (r0 : Int) (x1 : Bool) : Prop :=
 cnd x1 ((2 : Int) = r0) (cnd (a0 == (12 : Int)) ((3 : Int) = r0) (cnd (a0 == (13 : Int)) (ycb r0 true) (ycb r0 (a0 == (14 : Int)))))
def yeS (a0 : Int) (r0 : Int) : Prop :=
 cnd (decide ((7 : Int) <= a0)) (yca a0 r0 (decide (a0 <= (11 : Int)))) (yca a0 r0 false)
theorem yki (r0 : Int) {x2 : Bool} (h : ycb r0 x2) : ye6 r0 x2 := by
 unfold ye6
 unfold ycb at h
 exact h
theorem ykp (a0 : Int) (r0 : Int) {x1 : Bool} (h : yca a0 r0 x1) : yfa r0 a0 x1 := by
 unfold yfa
 unfold yca at h
 refine yag h (fun h => ?_) (fun h => ?_)
 ·exact h
 ·refine yag h (fun h => ?_) (fun h => ?_)
  ·exact h
  ·intro J2 kJ2
   have hJ2 : ∀ (x2 : Bool), ycb r0 x2 -> J2 x2 := fun x2 q => kJ2 x2 (yki r0 q)
   refine yag h (fun h => ?_) (fun h => ?_)
   ·exact hJ2 _ h
   ·exact hJ2 _ h
theorem yoi (a0 : Int) (r0 : Int) (h : yeS a0 r0) : ycy a0 r0 := by
 unfold ycy
 unfold yeS at h
 intro J1 kJ1
 have hJ1 : ∀ (x1 : Bool), yca a0 r0 x1 -> J1 x1 := fun x1 q => kJ1 x1 (ykp a0 r0 q)
 refine yag h (fun h => ?_) (fun h => ?_)
 ·exact hJ1 _ h
 ·exact hJ1 _ h
def yhv : Sp KK := ⟨51, [.v 3], [3], appW (K := KK) [3] [.v 3] ycy⟩
def ymE : An KK := (.s .o (.s (.b (.j ⟨[(0, .kp 2), (3, .bl)], [], []⟩ .o (fun _ => (.c (.s .o .o) (.s .o (.c (.s .o .o) (.j ⟨[(13, .bl)], [], []⟩ .o (fun _ => (.c (.s .o .o) .o))))))))) (.s .o .o)))
def ymc : Cf KK := ⟨CC, [], 20⟩
set_option maxRecDepth 100000 in
theorem ymD : SpOk Try.prog CC yhv := by
 intro env r hF h
 obtain ⟨a0, env0, rfl, h1⟩ := yam h
 obtain ⟨rfl, h2⟩ := yaw h1
 obtain ⟨r0, rr0, rfl, h3⟩ := yaz h2
 obtain ⟨rfl, h4⟩ := yaR h3
 refine ⟨rfl, yaE (F := ymc) ybe yaF t51 (A := ymE) (ps := [.v 3]) (rs := [3]) (env := [.d (.v 3 a0)]) (r := [.v 3 r0]) (X := ycy a0 r0) (by kernel_rfl) (Nat.le_of_ble_eq_true (by kernel_rfl)) rfl hF h4 ?_⟩
 kernel_rfl
def yal (a0 : yac) (r0 : Bool) : Prop :=
 (a0.Kind == (0 : Int)) = r0
def ybz : Sp KK := ⟨44, [.v 33], [4], appW (K := KK) [4] [.v 33] yal⟩
def yiu : An KK := (.s .o (.s .o .o))
def yh8 : Cf KK := ⟨CC, [], 6⟩
set_option maxRecDepth 100000 in
theorem ycv : SpOk Try.prog CC ybz := by
 intro env r hF h
 obtain ⟨a0, env0, rfl, h1⟩ := yam h
 obtain ⟨rfl, h2⟩ := yaw h1
 obtain ⟨r0, rr0, rfl, h3⟩ := yaz h2
 obtain ⟨rfl, h4⟩ := yaR h3
 refine ⟨rfl, yaE (F := yh8) ybe yaF t44 (A := yiu) (ps := [.v 33]) (rs := [4]) (env := [.d (.v 33 a0)]) (r := [.v 4 r0]) (X := yal a0 r0) (by kernel_rfl) (Nat.le_of_ble_eq_true (by kernel_rfl)) rfl hF h4 ?_⟩
 kernel_rfl
def yg6 (r0 : Bool) (x4 : Bool) : Prop :=
 x4 = r0
def yct (a0 : Int) (a1 : yac) (a2 : yac) (r0 : Bool) : Prop :=
 ∃ z1 : Int, (ycy a0 z1) /\ cnd (z1 == (0 : Int)) (∃ z2 : Bool, (yal a1 z2) /\ cnd z2 (true = r0) (∃ z3 : Bool, (yal a2 z3) /\ cnd z3 (true = r0) ((a1.Kind == a2.Kind) = r0))) (∀ J1 : Bool -> Prop, (∀ (x4 : Bool), yg6 r0 x4 -> J1 x4) -> ∃ z5 : Bool, (yal a1 z5) /\ cnd z5 (∃ z6 : Bool, (yal a2 z6) /\ cnd z6 (J1 true) (J1 (a2.Kind == z1))) (cnd (a1.Kind == z1) (∃ z7 : Bool, (yal a2 z7) /\ cnd z7 (J1 true) (J1 (a2.Kind == z1))) (J1 false)))
def ybo (r0 : Bool) (x4 : Bool) : Prop :=
 x4 = r0
def ygE (a0 : Int) (a1 : yac) (a2 : yac) (r0 : Bool) : Prop :=
 ∃ z1 : Int, (ycy a0 z1) /\ cnd (z1 == (0 : Int)) (∃ z2 : Bool, (yal a1 z2) /\ cnd z2 (true = r0) (∃ z3 : Bool, (yal a2 z3) /\ cnd z3 (true = r0) ((a1.Kind == a2.Kind) = r0))) (∃ z5 : Bool, (yal a1 z5) /\ cnd z5 (∃ z6 : Bool, (yal a2 z6) /\ cnd z6 (ybo r0 true) (ybo r0 (a2.Kind == z1))) (cnd (a1.Kind == z1) (∃ z7 : Bool, (yal a2 z7) /\ cnd z7 (ybo r0 true) (ybo r0 (a2.Kind == z1))) (ybo r0 false)))
theorem ymo (r0 : Bool) {x4 : Bool} (h : ybo r0 x4) : yg6 r0 x4 := by
 unfold yg6
 unfold ybo at h
 exact h
theorem ypL (a0 : Int) (a1 : yac) (a2 : yac) (r0 : Bool) (h : ygE a0 a1 a2 r0) : yct a0 a1 a2 r0 := by
 unfold yct
 unfold ygE at h
 obtain ⟨z1, h⟩ := h
 refine ⟨z1, ?_⟩
 obtain ⟨h0, h⟩ := h
 refine ⟨h0, ?_⟩
 refine yag h (fun h => ?_) (fun h => ?_)
 ·exact h
 ·intro J1 kJ1
  have hJ1 : ∀ (x4 : Bool), ybo r0 x4 -> J1 x4 := fun x4 q => kJ1 x4 (ymo r0 q)
  obtain ⟨z5, h⟩ := h
  refine ⟨z5, ?_⟩
  obtain ⟨h0, h⟩ := h
  refine ⟨h0, ?_⟩
  refine yag h (fun h => ?_) (fun h => ?_)
  ·obtain ⟨z6, h⟩ := h
   refine ⟨z6, ?_⟩
   obtain ⟨h0, h⟩ := h
   refine ⟨h0, ?_⟩
   refine yag h (fun h => ?_) (fun h => ?_)
   ·exact hJ1 _ h
   ·exact hJ1 _ h
  ·refine yag h (fun h => ?_) (fun h => ?_)
   ·obtain ⟨z7, h⟩ := h
    refine ⟨z7, ?_⟩
    obtain ⟨h0, h⟩ := h
    refine ⟨h0, ?_⟩
    refine yag h (fun h => ?_) (fun h => ?_)
    ·exact hJ1 _ h
    ·exact hJ1 _ h
   ·exact hJ1 _ h
def yjU : Sp KK := ⟨42, [.v 3, .v 33, .v 33], [4], appW (K := KK) [4] [.v 3, .v 33, .v 33] yct⟩
def ypw : An KK := (.s .o (.s .o (.s (.s .o (.c (.s .o .o) .o)) (.j ⟨[(6, .bl)], [], []⟩ .o (fun _ => .o)))))
def ypq : Cf KK := ⟨CC, [yhv, ybz], 43⟩
set_option maxRecDepth 100000 in
theorem yo8 : SpOk Try.prog CC yjU := by
 intro env r hF h
 obtain ⟨a0, env0, rfl, h1⟩ := yam h
 obtain ⟨a1, env1, rfl, h2⟩ := yam h1
 obtain ⟨a2, env2, rfl, h3⟩ := yam h2
 obtain ⟨rfl, h4⟩ := yaw h3
 obtain ⟨r0, rr0, rfl, h5⟩ := yaz h4
 obtain ⟨rfl, h6⟩ := yaR h5
 refine ⟨rfl, yaE (F := ypq) ybe (yas ymD (yas ycv yaF)) t42 (A := ypw) (ps := [.v 3, .v 33, .v 33]) (rs := [4]) (env := [.d (.v 3 a0), .d (.v 33 a1), .d (.v 33 a2)]) (r := [.v 4 r0]) (X := yct a0 a1 a2 r0) (by kernel_rfl) (Nat.le_of_ble_eq_true (by kernel_rfl)) rfl hF h6 ?_⟩
 kernel_rfl
def yay (a0 : Bool) (r0 : yac) : Prop :=
 cnd a0 ((⟨(1 : Int), (1 : Int), ([] : Str)⟩ : yac) = r0) ((⟨(1 : Int), (0 : Int), ([] : Str)⟩ : yac) = r0)
def yb8 : Sp KK := ⟨31, [.v 4], [33], appW (K := KK) [33] [.v 4] yay⟩
def yk8 : An KK := (.s .o (.s (.s .o (.c (.s .o .o) .o)) (.s .o .o)))
def yln : Cf KK := ⟨CC, [], 6⟩
set_option maxRecDepth 100000 in
theorem ycP : SpOk Try.prog CC yb8 := by
 intro env r hF h
 obtain ⟨a0, env0, rfl, h1⟩ := yam h
 obtain ⟨rfl, h2⟩ := yaw h1
 obtain ⟨r0, rr0, rfl, h3⟩ := yaz h2
 obtain ⟨rfl, h4⟩ := yaR h3
 refine ⟨rfl, yaE (F := yln) ybe yaF t31 (A := yk8) (ps := [.v 4]) (rs := [33]) (env := [.d (.v 4 a0)]) (r := [.v 33 r0]) (X := yay a0 r0) (by kernel_rfl) (Nat.le_of_ble_eq_true (by kernel_rfl)) rfl hF h4 ?_⟩
 kernel_rfl
def yfg (r0 : yac) (a0 : Bool) (x3 : Bool) : Prop :=
 cnd x3 ((⟨(0 : Int), (0 : Int), ([] : Str)⟩ : yac) = r0) (∃ z4 : yac, (yay (!a0) z4) /\ z4 = r0)
def ye8 (z1 : yac) (r0 : yac) (a0 : Bool) (a1 : yac) (a2 : yac) (x2 : Bool) : Prop :=
 cnd x2 (z1 = r0) (∀ J2 : Bool -> Prop, (∀ (x3 : Bool), yfg r0 a0 x3 -> J2 x3) -> ∃ z5 : Bool, (yal a1 z5) /\ cnd z5 (J2 true) (∃ z6 : Bool, (yal a2 z6) /\ J2 z6))
def ybL (a0 : Bool) (a1 : yac) (a2 : yac) (r0 : yac) : Prop :=
 ∃ z1 : yac, (yay a0 z1) /\ ∀ J1 : Bool -> Prop, (∀ (x2 : Bool), ye8 z1 r0 a0 a1 a2 x2 -> J1 x2) -> cnd ((a1.Kind == z1.Kind) && ((a1.N == z1.N) && ((a1.S == z1.S) && true))) (J1 true) (J1 ((a2.Kind == z1.Kind) && ((a2.N == z1.N) && ((a2.S == z1.S) && true))))
def yci (a0 : Bool) (r0 : yac) (x3 : Bool) : Prop :=
 cnd x3 ((⟨(0 : Int), (0 : Int), ([] : Str)⟩ : yac) = r0) (∃ z4 : yac, (yay (!a0) z4) /\ z4 = r0)
def ycl (a0 : Bool) (a1 : yac) (a2 : yac) (r0 : yac) (z1 : yac) (x2 : Bool) : Prop :=
 cnd x2 (z1 = r0) (∃ z5 : Bool, (yal a1 z5) /\ cnd z5 (yci a0 r0 true) (∃ z6 : Bool, (yal a2 z6) /\ yci a0 r0 z6))
def yeZ (a0 : Bool) (a1 : yac) (a2 : yac) (r0 : yac) : Prop :=
 ∃ z1 : yac, (yay a0 z1) /\ cnd ((a1.Kind == z1.Kind) && ((a1.N == z1.N) && ((a1.S == z1.S) && true))) (ycl a0 a1 a2 r0 z1 true) (ycl a0 a1 a2 r0 z1 ((a2.Kind == z1.Kind) && ((a2.N == z1.N) && ((a2.S == z1.S) && true))))
theorem ykj (a0 : Bool) (r0 : yac) {x3 : Bool} (h : yci a0 r0 x3) : yfg r0 a0 x3 := by
 unfold yfg
 unfold yci at h
 exact h
theorem ykz (a0 : Bool) (a1 : yac) (a2 : yac) (r0 : yac) (z1 : yac) {x2 : Bool} (h : ycl a0 a1 a2 r0 z1 x2) : ye8 z1 r0 a0 a1 a2 x2 := by
 unfold ye8
 unfold ycl at h
 refine yag h (fun h => ?_) (fun h => ?_)
 ·exact h
 ·intro J2 kJ2
  have hJ2 : ∀ (x3 : Bool), yci a0 r0 x3 -> J2 x3 := fun x3 q => kJ2 x3 (ykj a0 r0 q)
  obtain ⟨z5, h⟩ := h
  refine ⟨z5, ?_⟩
  obtain ⟨h0, h⟩ := h
  refine ⟨h0, ?_⟩
  refine yag h (fun h => ?_) (fun h => ?_)
  ·exact hJ2 _ h
  ·obtain ⟨z6, h⟩ := h
   refine ⟨z6, ?_⟩
   obtain ⟨h0, h⟩ := h
   refine ⟨h0, ?_⟩
   exact hJ2 _ h
theorem ynV (a0 : Bool) (a1 : yac) (a2 : yac) (r0 : yac) (h : yeZ a0 a1 a2 r0) : ybL a0 a1 a2 r0 := by
 unfold ybL
 unfold yeZ at h
 obtain ⟨z1, h⟩ := h
 refine ⟨z1, ?_⟩
 obtain ⟨h0, h⟩ := h
 refine ⟨h0, ?_⟩
 intro J1 kJ1
 have hJ1 : ∀ (x2 : Bool), ycl a0 a1 a2 r0 z1 x2 -> J1 x2 := fun x2 q => kJ1 x2 (ykz a0 a1 a2 r0 z1 q)
 refine yag h (fun h => ?_) (fun h => ?_)
 ·exact hJ1 _ h
 ·exact hJ1 _ h
def yhK : Sp KK := ⟨43, [.v 4, .v 33, .v 33], [33], appW (K := KK) [33] [.v 4, .v 33, .v 33] ybL⟩
def yl4 : An KK := (.s .o (.s (.s .o (.b (.j ⟨[(0, .kp 14), (4, .px 4 0), (5, .px 5 0), (6, .px 6 0), (7, .px 7 0), (10, .bl)], [(4, 33, [.kp 15, .kp 16, .kp 17]), (5, 33, [.kp 18, .kp 19, .kp 20]), (6, 33, [.kp 21, .kp 22, .kp 23]), (7, 33, [.kp 24, .kp 25, .kp 26])], []⟩ .o (fun _ => (.c (.s .o .o) (.j ⟨[(0, .kp 14), (6, .px 6 0), (20, .bl)], [(6, 33, [.kp 21, .kp 22, .kp 23])], []⟩ .o (fun _ => (.c (.s .o .o) .o)))))))) (.s .o .o)))
def yl8 : Cf KK := ⟨CC, [yb8, ybz], 31⟩
set_option maxRecDepth 100000 in
theorem ymz : SpOk Try.prog CC yhK := by
 intro env r hF h
 obtain ⟨a0, env0, rfl, h1⟩ := yam h
 obtain ⟨a1, env1, rfl, h2⟩ := yam h1
 obtain ⟨a2, env2, rfl, h3⟩ := yam h2
 obtain ⟨rfl, h4⟩ := yaw h3
 obtain ⟨r0, rr0, rfl, h5⟩ := yaz h4
 obtain ⟨rfl, h6⟩ := yaR h5
 refine ⟨rfl, yaE (F := yl8) ybe (yas ycP (yas ycv yaF)) t43 (A := yl4) (ps := [.v 4, .v 33, .v 33]) (rs := [33]) (env := [.d (.v 4 a0), .d (.v 33 a1), .d (.v 33 a2)]) (r := [.v 33 r0]) (X := ybL a0 a1 a2 r0) (by kernel_rfl) (Nat.le_of_ble_eq_true (by kernel_rfl)) rfl hF h6 ?_⟩
 kernel_rfl
def ydF (a0 : Int) (r0 : Bool) : Prop :=
 (!(a0 == a0)) = r0
def ygn : Sp KK := ⟨57, [.v 3], [4], appW (K := KK) [4] [.v 3] ydF⟩
def ykq : An KK := (.s .o (.s .o .o))
def ykn : Cf KK := ⟨CC, [], 6⟩
set_option maxRecDepth 100000 in
theorem ykA : SpOk Try.prog CC ygn := by
 intro env r hF h
 obtain ⟨a0, env0, rfl, h1⟩ := yam h
 obtain ⟨rfl, h2⟩ := yaw h1
 obtain ⟨r0, rr0, rfl, h3⟩ := yaz h2
 obtain ⟨rfl, h4⟩ := yaR h3
 refine ⟨rfl, yaE (F := ykn) ybe yaF t57 (A := ykq) (ps := [.v 3]) (rs := [4]) (env := [.d (.v 3 a0)]) (r := [.v 4 r0]) (X := ydF a0 r0) (by kernel_rfl) (Nat.le_of_ble_eq_true (by kernel_rfl)) rfl hF h4 ?_⟩
 kernel_rfl
def ycT (a0 : Int) (a1 : Int) (r0 : Int) : Prop :=
 ∃ z1 : Bool, (ydF a0 z1) /\ ∃ z2 : Bool, (ydF a1 z2) /\ cnd z1 (cnd z2 ((0 : Int) = r0) ((-1 : Int) = r0)) (cnd z2 ((1 : Int) = r0) (cnd (decide (a0 < a1)) ((-1 : Int) = r0) (cnd (decide (a1 < a0)) ((1 : Int) = r0) ((0 : Int) = r0))))
def yeR : Sp KK := ⟨53, [.v 3, .v 3], [3], appW (K := KK) [3] [.v 3, .v 3] ycT⟩
def yiA : An KK := (.s .o (.s .o (.s .o (.s (.s .o (.c (.s (.s .o (.c (.s .o .o) .o)) (.s .o .o)) .o)) (.s (.s .o (.c (.s .o .o) .o)) (.s (.s .o (.c (.s .o .o) .o)) (.s (.s .o (.c (.s .o .o) .o)) (.s .o .o))))))))
def yi1 : Cf KK := ⟨CC, [ygn], 20⟩
set_option maxRecDepth 100000 in
theorem yjg : SpOk Try.prog CC yeR := by
 intro env r hF h
 obtain ⟨a0, env0, rfl, h1⟩ := yam h
 obtain ⟨a1, env1, rfl, h2⟩ := yam h1
 obtain ⟨rfl, h3⟩ := yaw h2
 obtain ⟨r0, rr0, rfl, h4⟩ := yaz h3
 obtain ⟨rfl, h5⟩ := yaR h4
 refine ⟨rfl, yaE (F := yi1) ybe (yas ykA yaF) t53 (A := yiA) (ps := [.v 3, .v 3]) (rs := [3]) (env := [.d (.v 3 a0), .d (.v 3 a1)]) (r := [.v 3 r0]) (X := ycT a0 a1 r0) (by kernel_rfl) (Nat.le_of_ble_eq_true (by kernel_rfl)) rfl hF h5 ?_⟩
 kernel_rfl
def ycU (a0 : Int) (r0 : Bool) : Prop :=
 (!(a0 == a0)) = r0
def yeO : Sp KK := ⟨58, [.v 2], [4], appW (K := KK) [4] [.v 2] ycU⟩
def yiS : An KK := (.s .o (.s .o .o))
def yiG : Cf KK := ⟨CC, [], 6⟩
set_option maxRecDepth 100000 in
theorem yiZ : SpOk Try.prog CC yeO := by
 intro env r hF h
 obtain ⟨a0, env0, rfl, h1⟩ := yam h
 obtain ⟨rfl, h2⟩ := yaw h1
 obtain ⟨r0, rr0, rfl, h3⟩ := yaz h2
 obtain ⟨rfl, h4⟩ := yaR h3
 refine ⟨rfl, yaE (F := yiG) ybe yaF t58 (A := yiS) (ps := [.v 2]) (rs := [4]) (env := [.d (.v 2 a0)]) (r := [.v 4 r0]) (X := ycU a0 r0) (by kernel_rfl) (Nat.le_of_ble_eq_true (by kernel_rfl)) rfl hF h4 ?_⟩
 kernel_rfl
def ycp (a0 : Int) (a1 : Int) (r0 : Int) : Prop :=
 ∃ z1 : Bool, (ycU a0 z1) /\ ∃ z2 : Bool, (ycU a1 z2) /\ cnd z1 (cnd z2 ((0 : Int) = r0) ((-1 : Int) = r0)) (cnd z2 ((1 : Int) = r0) (cnd (decide (a0 < a1)) ((-1 : Int) = r0) (cnd (decide (a1 < a0)) ((1 : Int) = r0) ((0 : Int) = r0))))
def yd6 : Sp KK := ⟨54, [.v 2, .v 2], [3], appW (K := KK) [3] [.v 2, .v 2] ycp⟩
def yho : An KK := (.s .o (.s .o (.s .o (.s (.s .o (.c (.s (.s .o (.c (.s .o .o) .o)) (.s .o .o)) .o)) (.s (.s .o (.c (.s .o .o) .o)) (.s (.s .o (.c (.s .o .o) .o)) (.s (.s .o (.c (.s .o .o) .o)) (.s .o .o))))))))
def yhq : Cf KK := ⟨CC, [yeO], 20⟩
set_option maxRecDepth 100000 in
theorem yhl : SpOk Try.prog CC yd6 := by
 intro env r hF h
 obtain ⟨a0, env0, rfl, h1⟩ := yam h
 obtain ⟨a1, env1, rfl, h2⟩ := yam h1
 obtain ⟨rfl, h3⟩ := yaw h2
 obtain ⟨r0, rr0, rfl, h4⟩ := yaz h3
 obtain ⟨rfl, h5⟩ := yaR h4
 refine ⟨rfl, yaE (F := yhq) ybe (yas yiZ yaF) t54 (A := yho) (ps := [.v 2, .v 2]) (rs := [3]) (env := [.d (.v 2 a0), .d (.v 2 a1)]) (r := [.v 3 r0]) (X := ycp a0 a1 r0) (by kernel_rfl) (Nat.le_of_ble_eq_true (by kernel_rfl)) rfl hF h5 ?_⟩
 kernel_rfl
def ycI (a0 : Str) (r0 : Bool) : Prop :=
 (!(a0 == a0)) = r0
def yei : Sp KK := ⟨59, [.v 9], [4], appW (K := KK) [4] [.v 9] ycI⟩
def yhV : An KK := (.s .o (.s .o .o))
def yhZ : Cf KK := ⟨CC, [], 6⟩
set_option maxRecDepth 100000 in
theorem yh5 : SpOk Try.prog CC yei := by
 intro env r hF h
 obtain ⟨a0, env0, rfl, h1⟩ := yam h
 obtain ⟨rfl, h2⟩ := yaw h1
 obtain ⟨r0, rr0, rfl, h3⟩ := yaz h2
 obtain ⟨rfl, h4⟩ := yaR h3
 refine ⟨rfl, yaE (F := yhZ) ybe yaF t59 (A := yhV) (ps := [.v 9]) (rs := [4]) (env := [.d (.v 9 a0)]) (r := [.v 4 r0]) (X := ycI a0 r0) (by kernel_rfl) (Nat.le_of_ble_eq_true (by kernel_rfl)) rfl hF h4 ?_⟩
 kernel_rfl
def yb4 (a0 : Str) (a1 : Str) (r0 : Int) : Prop :=
 ∃ z1 : Bool, (ycI a0 z1) /\ ∃ z2 : Bool, (ycI a1 z2) /\ cnd z1 (cnd z2 ((0 : Int) = r0) ((-1 : Int) = r0)) (cnd z2 ((1 : Int) = r0) (cnd (Op.bytesLess a0 a1) ((-1 : Int) = r0) (cnd (!(Op.bytesLess a0 a1 || a0 == a1)) ((1 : Int) = r0) ((0 : Int) = r0))))
def ydV : Sp KK := ⟨55, [.v 9, .v 9], [3], appW (K := KK) [3] [.v 9, .v 9] yb4⟩
def ygp : An KK := (.s .o (.s .o (.s .o (.s (.s .o (.c (.s (.s .o (.c (.s .o .o) .o)) (.s .o .o)) .o)) (.s (.s .o (.c (.s .o .o) .o)) (.s (.s .o (.c (.s .o .o) .o)) (.s (.s .o (.c (.s .o .o) .o)) (.s .o .o))))))))
def ygJ : Cf KK := ⟨CC, [yei], 20⟩
set_option maxRecDepth 100000 in
theorem yg8 : SpOk Try.prog CC ydV := by
 intro env r hF h
 obtain ⟨a0, env0, rfl, h1⟩ := yam h
 obtain ⟨a1, env1, rfl, h2⟩ := yam h1
 obtain ⟨rfl, h3⟩ := yaw h2
 obtain ⟨r0, rr0, rfl, h4⟩ := yaz h3
 obtain ⟨rfl, h5⟩ := yaR h4
 refine ⟨rfl, yaE (F := ygJ) ybe (yas yh5 yaF) t55 (A := ygp) (ps := [.v 9, .v 9]) (rs := [3]) (env := [.d (.v 9 a0), .d (.v 9 a1)]) (r := [.v 3 r0]) (X := yb4 a0 a1 r0) (by kernel_rfl) (Nat.le_of_ble_eq_true (by kernel_rfl)) rfl hF h5 ?_⟩
 kernel_rfl
def yfW (a0 : (List Int)) (r0 : Int) (X1 : Int → Prop) (x1 : Int) : Prop :=
 cnd (decide (x1 < (a0.length : Int))) ((0 <= x1) /\ (x1 < (a0.length : Int)) /\ ∃ y2 : Int, (a0[x1.toNat]? = some y2) /\ cnd (!(y2 == (0 : Int))) (y2 = r0) (X1 (IntKind.i64.wrap (x1 + (1 : Int))))) ((0 : Int) = r0)
def yds (a0 : (List Int)) (r0 : Int) : Prop :=
 (a0.length <= maxLen -> ∀ X1 : Int -> Prop, (∀ (x1 : Int), yfW a0 r0 X1 x1 -> X1 x1) -> X1 (0 : Int))
def ye9 (a0 : (List Int)) (r0 : Int) (X1 : Int → Prop) (x1 : Int) : Prop :=
 cnd (decide (x1 < (a0.length : Int))) ((0 <= x1) /\ (x1 < (a0.length : Int)) /\ ∃ y2 : Int, (a0[x1.toNat]? = some y2) /\ cnd (!(y2 == (0 : Int))) (y2 = r0) (X1 (IntKind.i64.wrap (x1 + (1 : Int))))) ((0 : Int) = r0)
def yiM (a0 : (List Int)) (r0 : Int) : Prop :=
 (a0.length <= maxLen -> ∀ X1 : Int -> Prop, (∀ (x1 : Int), ye9 a0 r0 X1 x1 -> X1 x1) -> X1 (0 : Int))
theorem ylV (a0 : (List Int)) (r0 : Int) {X1 : Int → Prop} {x1 : Int} (h : ye9 a0 r0 X1 x1) : yfW a0 r0 X1 x1 := by
 unfold yfW
 unfold ye9 at h
 exact h
theorem yoI (a0 : (List Int)) (r0 : Int) (h : yiM a0 r0) : yds a0 r0 := by
 unfold yds
 unfold yiM at h
 intro c
 replace h := h c
 intro X1 k
 exact h X1 (fun x1 q => k x1 (ylV a0 r0 q))
def yje : Sp KK := ⟨52, [.v 70], [3], appW (K := KK) [3] [.v 70] yds⟩
def ynQ : An KK := (.s .o (.s .o (.s (.s .o (.b (.l ⟨[(3, .kp 5), (6, .kp 6), (7, .kp 7), (8, .it .i64)], [], []⟩ (fun _ => (.s .o (.s (.c .o .o) (.s (.b (.s .o (.s .o (.c (.s .o .o) .o)))) .o))))))) (.s .o .o))))
def ynj : Cf KK := ⟨CC, [], 18⟩
set_option maxRecDepth 100000 in
theorem ynY : SpOk Try.prog CC yje := by
 intro env r hF h
 obtain ⟨a0, env0, rfl, h1⟩ := yam h
 obtain ⟨rfl, h2⟩ := yaw h1
 obtain ⟨r0, rr0, rfl, h3⟩ := yaz h2
 obtain ⟨rfl, h4⟩ := yaR h3
 refine ⟨rfl, yaE (F := ynj) ybe yaF t52 (A := ynQ) (ps := [.v 70]) (rs := [3]) (env := [.d (.v 70 a0)]) (r := [.v 3 r0]) (X := yds a0 r0) (by kernel_rfl) (Nat.le_of_ble_eq_true (by kernel_rfl)) rfl hF h4 ?_⟩
 kernel_rfl
def yby (a0 : yac) (a1 : yac) (r0 : Int) : Prop :=
 ∃ z1 : Int, (ycT a0.Kind a1.Kind z1) /\ ∃ z2 : Int, (ycp a0.N a1.N z2) /\ ∃ z3 : Int, (yb4 a0.S a1.S z3) /\ ∃ z4 : Int, (yds ([z1, z2, z3] : List Int) z4) /\ z4 = r0
def ygm : Sp KK := ⟨46, [.v 33, .v 33], [3], appW (K := KK) [3] [.v 33, .v 33] yby⟩
def yj7 : An KK := (.s .o (.s .o .o))
def ykt : Cf KK := ⟨CC, [yeR, yd6, ydV, yje], 22⟩
set_option maxRecDepth 100000 in
theorem yku : SpOk Try.prog CC ygm := by
 intro env r hF h
 obtain ⟨a0, env0, rfl, h1⟩ := yam h
 obtain ⟨a1, env1, rfl, h2⟩ := yam h1
 obtain ⟨rfl, h3⟩ := yaw h2
 obtain ⟨r0, rr0, rfl, h4⟩ := yaz h3
 obtain ⟨rfl, h5⟩ := yaR h4
 refine ⟨rfl, yaE (F := ykt) ybe (yas yjg (yas yhl (yas yg8 (yas ynY yaF)))) t46 (A := yj7) (ps := [.v 33, .v 33]) (rs := [3]) (env := [.d (.v 33 a0), .d (.v 33 a1)]) (r := [.v 3 r0]) (X := yby a0 a1 r0) (by kernel_rfl) (Nat.le_of_ble_eq_true (by kernel_rfl)) rfl hF h5 ?_⟩
 kernel_rfl
def ybQ (a0 : Int) (a1 : Int) (r0 : Bool) : Prop :=
 cnd (a0 == (1 : Int)) ((a1 == (0 : Int)) = r0) (cnd (a0 == (2 : Int)) ((!(a1 == (0 : Int))) = r0) (cnd (a0 == (3 : Int)) ((decide (a1 < (0 : Int))) = r0) (cnd (a0 == (4 : Int)) ((decide (a1 <= (0 : Int))) = r0) (cnd (a0 == (5 : Int)) ((decide ((0 : Int) < a1)) = r0) ((decide ((0 : Int) <= a1)) = r0)))))
def yhF : Sp KK := ⟨45, [.v 3, .v 3], [4], appW (K := KK) [4] [.v 3, .v 3] ybQ⟩
def ymS : An KK := (.s .o (.s (.s .o (.b (.s .o (.c (.s .o .o) (.s .o (.c (.s .o .o) (.s .o (.c (.s .o .o) (.s .o (.c (.s .o .o) (.s .o (.c (.s .o .o) .o)))))))))))) (.s .o .o)))
def ymM : Cf KK := ⟨CC, [], 28⟩
set_option maxRecDepth 100000 in
theorem yl5 : SpOk Try.prog CC yhF := by
 intro env r hF h
 obtain ⟨a0, env0, rfl, h1⟩ := yam h
 obtain ⟨a1, env1, rfl, h2⟩ := yam h1
 obtain ⟨rfl, h3⟩ := yaw h2
 obtain ⟨r0, rr0, rfl, h4⟩ := yaz h3
 obtain ⟨rfl, h5⟩ := yaR h4
 refine ⟨rfl, yaE (F := ymM) ybe yaF t45 (A := ymS) (ps := [.v 3, .v 3]) (rs := [4]) (env := [.d (.v 3 a0), .d (.v 3 a1)]) (r := [.v 4 r0]) (X := ybQ a0 a1 r0) (by kernel_rfl) (Nat.le_of_ble_eq_true (by kernel_rfl)) rfl hF h5 ?_⟩
 kernel_rfl
def yce (a0 : Int) (a1 : Int) (r0 : Int) (r1 : Int) : Prop := 0 <= a0 /\ a0 < 18446744073709551616 /\ 0 <= a1 /\ a1 < 18446744073709551616 /\ r0 = a0 * a1 / 18446744073709551616 /\ r1 = a0 * a1 % 18446744073709551616
def yeP : Sp KK := ⟨60, [.v 105, .v 105], [105, 105], appW (K := KK) [105, 105] [.v 105, .v 105] yce⟩
set_option maxRecDepth 100000 in
theorem yjv {a0 : Int} {a1 : Int} {r0 : Int} {r1 : Int} (h : yce a0 a1 r0 r1) : AV.Pure Try.prog 60 [.it .u64 a0, .it .u64 a1] (.tup [.it .u64 r0, .it .u64 r1]) := by
 obtain ⟨q0, q1, q2, q3, rfl, rfl⟩ := h
 exact ytL Try.func60 (by kernel_rfl) Try.bits_Mul64 q0 q1 q2 q3
set_option maxRecDepth 100000 in
theorem yi2 : SpOk Try.prog CC yeP := by
 intro env r hF h
 obtain ⟨a0, env0, rfl, h1⟩ := yam h
 obtain ⟨a1, env1, rfl, h2⟩ := yam h1
 obtain ⟨rfl, h3⟩ := yaw h2
 obtain ⟨r0, rr0, rfl, h4⟩ := yaz h3
 obtain ⟨r1, rr1, rfl, h5⟩ := yaz h4
 obtain ⟨rfl, h6⟩ := yaR h5
 exact ⟨rfl, (yjv h6).congr (by kernel_rfl) (by kernel_rfl)⟩
def ycN (a0 : Int) (a1 : Int) (r0 : Int) (r1 : Bool) : Prop :=
 ∃ z1 : Int, ∃ z2 : Int, (yce (IntKind.u64.wrap (if (IntKind.i64.wrap (0 - a0)) > a0 then (IntKind.i64.wrap (0 - a0)) else a0)) (IntKind.u64.wrap (if (IntKind.i64.wrap (0 - a1)) > a1 then (IntKind.i64.wrap (0 - a1)) else a1)) z1 z2) /\ cnd (!((decide (a0 < (0 : Int))) == (decide (a1 < (0 : Int))))) (cnd (z1 == (0 : Int)) ((IntKind.i64.wrap (0 - (IntKind.i64.wrap z2))) = r0 /\ (decide (z2 <= (9223372036854775808 : Int))) = r1) ((IntKind.i64.wrap (0 - (IntKind.i64.wrap z2))) = r0 /\ false = r1)) (cnd (z1 == (0 : Int)) ((IntKind.i64.wrap z2) = r0 /\ (decide (z2 <= (9223372036854775807 : Int))) = r1) ((IntKind.i64.wrap z2) = r0 /\ false = r1))
def ygh : Sp KK := ⟨56, [.v 2, .v 2], [2, 4], appW (K := KK) [2, 4] [.v 2, .v 2] ycN⟩
def ykm : An KK := (.s .o (.s .o (.s (.s .o (.c (.s .o .o) .o)) (.s .o .o))))
def yj3 : Cf KK := ⟨CC, [yeP], 44⟩
set_option maxRecDepth 100000 in
theorem yj2 : SpOk Try.prog CC ygh := by
 intro env r hF h
 obtain ⟨a0, env0, rfl, h1⟩ := yam h
 obtain ⟨a1, env1, rfl, h2⟩ := yam h1
 obtain ⟨rfl, h3⟩ := yaw h2
 obtain ⟨r0, rr0, rfl, h4⟩ := yaz h3
 obtain ⟨r1, rr1, rfl, h5⟩ := yaz h4
 obtain ⟨rfl, h6⟩ := yaR h5
 refine ⟨rfl, yaE (F := yj3) ybe (yas yi2 yaF) t56 (A := ykm) (ps := [.v 2, .v 2]) (rs := [2, 4]) (env := [.d (.v 2 a0), .d (.v 2 a1)]) (r := [.v 2 r0, .v 4 r1]) (X := ycN a0 a1 r0 r1) (by kernel_rfl) (Nat.le_of_ble_eq_true (by kernel_rfl)) rfl hF h6 ?_⟩
 kernel_rfl
def yek (r0 : Int) (r1 : Int) (x1 : Int) (x2 : Bool) : Prop :=
 cnd (!x2) ((0 : Int) = r0 /\ (8 : Int) = r1) (x1 = r0 /\ (0 : Int) = r1)
def ya9 (a0 : Int) (a1 : Int) (a2 : Int) (r0 : Int) (r1 : Int) : Prop :=
 ∀ J1 : Int -> Bool -> Prop, (∀ (x1 : Int) (x2 : Bool), yek r0 r1 x1 x2 -> J1 x1 x2) -> cnd (a0 == (7 : Int)) (cnd ((decide (a1 < (IntKind.i64.wrap (a1 + a2)))) == (decide ((0 : Int) < a2))) (J1 (IntKind.i64.wrap (a1 + a2)) true) (J1 (IntKind.i64.wrap (a1 + a2)) (a2 == (0 : Int)))) (cnd (a0 == (8 : Int)) (cnd ((decide ((IntKind.i64.wrap (a1 - a2)) < a1)) == (decide ((0 : Int) < a2))) (J1 (IntKind.i64.wrap (a1 - a2)) true) (J1 (IntKind.i64.wrap (a1 - a2)) (a2 == (0 : Int)))) (cnd (a0 == (9 : Int)) (∃ z3 : Int, ∃ z4 : Bool, (ycN a1 a2 z3 z4) /\ J1 z3 z4) (cnd (a2 == (0 : Int)) ((0 : Int) = r0 /\ (9 : Int) = r1) (cnd (a0 == (11 : Int)) ((a2 ≠ 0) /\ (a1.tmod a2) = r0 /\ (0 : Int) = r1) ((a2 ≠ 0) /\ cnd (!(a1 == (-9223372036854775808 : Int))) (J1 (IntKind.i64.wrap (a1.tdiv a2)) true) (J1 (IntKind.i64.wrap (a1.tdiv a2)) (!(a2 == (-1 : Int)))))))))
def yaH (r0 : Int) (r1 : Int) (x1 : Int) (x2 : Bool) : Prop :=
 cnd (!x2) ((0 : Int) = r0 /\ (8 : Int) = r1) (x1 = r0 /\ (0 : Int) = r1)
def yep (a0 : Int) (a1 : Int) (a2 : Int) (r0 : Int) (r1 : Int) : Prop :=
 cnd (a0 == (7 : Int)) (cnd ((decide (a1 < (IntKind.i64.wrap (a1 + a2)))) == (decide ((0 : Int) < a2))) (yaH r0 r1 (IntKind.i64.wrap (a1 + a2)) true) (yaH r0 r1 (IntKind.i64.wrap (a1 + a2)) (a2 == (0 : Int)))) (cnd (a0 == (8 : Int)) (cnd ((decide ((IntKind.i64.wrap (a1 - a2)) < a1)) == (decide ((0 : Int) < a2))) (yaH r0 r1 (IntKind.i64.wrap (a1 - a2)) true) (yaH r0 r1 (IntKind.i64.wrap (a1 - a2)) (a2 == (0 : Int)))) (cnd (a0 == (9 : Int)) (∃ z3 : Int, ∃ z4 : Bool, (ycN a1 a2 z3 z4) /\ yaH r0 r1 z3 z4) (cnd (a2 == (0 : Int)) ((0 : Int) = r0 /\ (9 : Int) = r1) (cnd (a0 == (11 : Int)) ((a2 ≠ 0) /\ (a1.tmod a2) = r0 /\ (0 : Int) = r1) ((a2 ≠ 0) /\ cnd (!(a1 == (-9223372036854775808 : Int))) (yaH r0 r1 (IntKind.i64.wrap (a1.tdiv a2)) true) (yaH r0 r1 (IntKind.i64.wrap (a1.tdiv a2)) (!(a2 == (-1 : Int)))))))))
theorem yjo (r0 : Int) (r1 : Int) {x1 : Int} {x2 : Bool} (h : yaH r0 r1 x1 x2) : yek r0 r1 x1 x2 := by
 unfold yek
 unfold yaH at h
 exact h
theorem ymx (a0 : Int) (a1 : Int) (a2 : Int) (r0 : Int) (r1 : Int) (h : yep a0 a1 a2 r0 r1) : ya9 a0 a1 a2 r0 r1 := by
 unfold ya9
 unfold yep at h
 intro J1 kJ1
 have hJ1 : ∀ (x1 : Int) (x2 : Bool), yaH r0 r1 x1 x2 -> J1 x1 x2 := fun x1 x2 q => kJ1 x1 x2 (yjo r0 r1 q)
 refine yag h (fun h => ?_) (fun h => ?_)
 ·refine yag h (fun h => ?_) (fun h => ?_)
  ·exact hJ1 _ _ h
  ·exact hJ1 _ _ h
 ·refine yag h (fun h => ?_) (fun h => ?_)
  ·refine yag h (fun h => ?_) (fun h => ?_)
   ·exact hJ1 _ _ h
   ·exact hJ1 _ _ h
  ·refine yag h (fun h => ?_) (fun h => ?_)
   ·obtain ⟨z3, h⟩ := h
    refine ⟨z3, ?_⟩
    obtain ⟨z4, h⟩ := h
    refine ⟨z4, ?_⟩
    obtain ⟨h0, h⟩ := h
    refine ⟨h0, ?_⟩
    exact hJ1 _ _ h
   ·refine yag h (fun h => ?_) (fun h => ?_)
    ·exact h
    ·refine yag h (fun h => ?_) (fun h => ?_)
     ·exact h
     ·obtain ⟨h0, h⟩ := h
      refine ⟨h0, ?_⟩
      refine yag h (fun h => ?_) (fun h => ?_)
      ·exact hJ1 _ _ h
      ·exact hJ1 _ _ h
def ygy : Sp KK := ⟨47, [.v 3, .v 2, .v 2], [2, 44], appW (K := KK) [2, 44] [.v 3, .v 2, .v 2] ya9⟩
def ylT : An KK := (.s .o (.s .o (.j ⟨[(8, .it .i64), (9, .bl)], [], []⟩ (.s .o (.b (.s .o (.c (.s .o .o) (.s .o (.c (.s .o .o) (.s .o (.c .o (.s (.s .o (.c (.s .o .o) .o)) (.s (.s .o (.c (.s .o .o) .o)) .o)))))))))) (fun _ => (.s (.s .o (.c (.s .o .o) .o)) (.s .o .o))))))
def ylO : Cf KK := ⟨CC, [ygh], 68⟩
set_option maxRecDepth 100000 in
theorem ylR : SpOk Try.prog CC ygy := by
 intro env r hF h
 obtain ⟨a0, env0, rfl, h1⟩ := yam h
 obtain ⟨a1, env1, rfl, h2⟩ := yam h1
 obtain ⟨a2, env2, rfl, h3⟩ := yam h2
 obtain ⟨rfl, h4⟩ := yaw h3
 obtain ⟨r0, rr0, rfl, h5⟩ := yaz h4
 obtain ⟨r1, rr1, rfl, h6⟩ := yaz h5
 obtain ⟨rfl, h7⟩ := yaR h6
 refine ⟨rfl, yaE (F := ylO) ybe (yas yj2 yaF) t47 (A := ylT) (ps := [.v 3, .v 2, .v 2]) (rs := [2, 44]) (env := [.d (.v 3 a0), .d (.v 2 a1), .d (.v 2 a2)]) (r := [.v 2 r0, .v 44 r1]) (X := ya9 a0 a1 a2 r0 r1) (by kernel_rfl) (Nat.le_of_ble_eq_true (by kernel_rfl)) rfl hF h7 ?_⟩
 kernel_rfl
def yh9 (r0 : yac) (r1 : Int) (a0 : Int) (a1 : yac) (a2 : yac) (x4 : Bool) : Prop :=
 cnd x4 ((⟨(0 : Int), (0 : Int), ([] : Str)⟩ : yac) = r0 /\ (0 : Int) = r1) (cnd (decide (a0 <= (6 : Int))) (∃ z5 : Int, (yby a1 a2 z5) /\ ∃ z6 : Bool, (ybQ a0 z5 z6) /\ ∃ z7 : yac, (yay z6 z7) /\ z7 = r0 /\ (0 : Int) = r1) (cnd (a0 == (12 : Int)) (cnd (decide ((64 : Int) < (IntKind.i64.wrap ((a1.S.length : Int) + (a2.S.length : Int))))) ((⟨(0 : Int), (0 : Int), ([] : Str)⟩ : yac) = r0 /\ (8 : Int) = r1) ((a1.S.length + a2.S.length <= 9223372036854775807) /\ ∃ z8 : yac, (yaD (a1.S ++ a2.S) z8) /\ z8 = r0 /\ (0 : Int) = r1)) (∃ z9 : Int, ∃ z10 : Int, (ya9 a0 a1.N a2.N z9 z10) /\ cnd (!(z10 == (0 : Int))) ((⟨(0 : Int), (0 : Int), ([] : Str)⟩ : yac) = r0 /\ z10 = r1) (∃ z11 : yac, (yaZ z9 z11) /\ z11 = r0 /\ (0 : Int) = r1))))
def yhT (r0 : yac) (r1 : Int) (a0 : Int) (a1 : yac) (a2 : yac) (x1 : Bool) : Prop :=
 cnd x1 ((⟨(0 : Int), (0 : Int), ([] : Str)⟩ : yac) = r0 /\ (1 : Int) = r1) (∃ z2 : Bool, (yct a0 a1 a2 z2) /\ cnd (!z2) ((⟨(0 : Int), (0 : Int), ([] : Str)⟩ : yac) = r0 /\ (5 : Int) = r1) (cnd (decide ((13 : Int) <= a0)) (∃ z3 : yac, (ybL (a0 == (14 : Int)) a1 a2 z3) /\ z3 = r0 /\ (0 : Int) = r1) (∀ J2 : Bool -> Prop, (∀ (x4 : Bool), yh9 r0 r1 a0 a1 a2 x4 -> J2 x4) -> ∃ z12 : Bool, (yal a1 z12) /\ cnd z12 (J2 true) (∃ z13 : Bool, (yal a2 z13) /\ J2 z13))))
def ycV (a0 : Int) (a1 : yac) (a2 : yac) (r0 : yac) (r1 : Int) : Prop :=
 ∀ J1 : Bool -> Prop, (∀ (x1 : Bool), yhT r0 r1 a0 a1 a2 x1 -> J1 x1) -> cnd (decide (a0 < (1 : Int))) (J1 true) (J1 (decide ((14 : Int) < a0)))
def ydq (a0 : Int) (a1 : yac) (a2 : yac) (r0 : yac) (r1 : Int) (x4 : Bool) : Prop :=
 cnd x4 ((⟨(0 : Int), (0 : Int), ([] : Str)⟩ : yac) = r0 /\ (0 : Int) = r1) (cnd (decide (a0 <= (6 : Int))) (∃ z5 : Int, (yby a1 a2 z5) /\ ∃ z6 : Bool, (ybQ a0 z5 z6) /\ ∃ z7 : yac, (yay z6 z7) /\ z7 = r0 /\ (0 : Int) = r1) (cnd (a0 == (12 : Int)) (cnd (decide ((64 : Int) < (IntKind.i64.wrap ((a1.S.length : Int) + (a2.S.length : Int))))) ((⟨(0 : Int), (0 : Int), ([] : Str)⟩ : yac) = r0 /\ (8 : Int) = r1) ((a1.S.length + a2.S.length <= 9223372036854775807) /\ ∃ z8 : yac, (yaD (a1.S ++ a2.S) z8) /\ z8 = r0 /\ (0 : Int) = r1)) (∃ z9 : Int, ∃ z10 : Int, (ya9 a0 a1.N a2.N z9 z10) /\ cnd (!(z10 == (0 : Int))) ((⟨(0 : Int), (0 : Int), ([] : Str)⟩ : yac) = r0 /\ z10 = r1) (∃ z11 : yac, (yaZ z9 z11) /\ z11 = r0 /\ (0 : Int) = r1))))
def ydm (a0 : Int) (a1 : yac) (a2 : yac) (r0 : yac) (r1 : Int) (x1 : Bool) : Prop :=
 cnd x1 ((⟨(0 : Int), (0 : Int), ([] : Str)⟩ : yac) = r0 /\ (1 : Int) = r1) (∃ z2 : Bool, (yct a0 a1 a2 z2) /\ cnd (!z2) ((⟨(0 : Int), (0 : Int), ([] : Str)⟩ : yac) = r0 /\ (5 : Int) = r1) (cnd (decide ((13 : Int) <= a0)) (∃ z3 : yac, (ybL (a0 == (14 : Int)) a1 a2 z3) /\ z3 = r0 /\ (0 : Int) = r1) (∃ z12 : Bool, (yal a1 z12) /\ cnd z12 (ydq a0 a1 a2 r0 r1 true) (∃ z13 : Bool, (yal a2 z13) /\ ydq a0 a1 a2 r0 r1 z13))))
def yis (a0 : Int) (a1 : yac) (a2 : yac) (r0 : yac) (r1 : Int) : Prop :=
 cnd (decide (a0 < (1 : Int))) (ydm a0 a1 a2 r0 r1 true) (ydm a0 a1 a2 r0 r1 (decide ((14 : Int) < a0)))
theorem ynv (a0 : Int) (a1 : yac) (a2 : yac) (r0 : yac) (r1 : Int) {x4 : Bool} (h : ydq a0 a1 a2 r0 r1 x4) : yh9 r0 r1 a0 a1 a2 x4 := by
 unfold yh9
 unfold ydq at h
 exact h
theorem ynT (a0 : Int) (a1 : yac) (a2 : yac) (r0 : yac) (r1 : Int) {x1 : Bool} (h : ydm a0 a1 a2 r0 r1 x1) : yhT r0 r1 a0 a1 a2 x1 := by
 unfold yhT
 unfold ydm at h
 refine yag h (fun h => ?_) (fun h => ?_)
 ·exact h
 ·obtain ⟨z2, h⟩ := h
  refine ⟨z2, ?_⟩
  obtain ⟨h0, h⟩ := h
  refine ⟨h0, ?_⟩
  refine yag h (fun h => ?_) (fun h => ?_)
  ·exact h
  ·refine yag h (fun h => ?_) (fun h => ?_)
   ·exact h
   ·intro J2 kJ2
    have hJ2 : ∀ (x4 : Bool), ydq a0 a1 a2 r0 r1 x4 -> J2 x4 := fun x4 q => kJ2 x4 (ynv a0 a1 a2 r0 r1 q)
    obtain ⟨z12, h⟩ := h
    refine ⟨z12, ?_⟩
    obtain ⟨h0, h⟩ := h
    refine ⟨h0, ?_⟩
    refine yag h (fun h => ?_) (fun h => ?_)
    ·exact hJ2 _ h
    ·obtain ⟨z13, h⟩ := h
     refine ⟨z13, ?_⟩
     obtain ⟨h0, h⟩ := h
     refine ⟨h0, ?_⟩
     exact hJ2 _ h
theorem ym3 (a0 : Int) (a1 : yac) (a2 : yac) (r0 : yac) (r1 : Int) (h : yis a0 a1 a2 r0 r1) : ycV a0 a1 a2 r0 r1 := by
 unfold ycV
 unfold yis at h
 intro J1 kJ1
 have hJ1 : ∀ (x1 : Bool), ydm a0 a1 a2 r0 r1 x1 -> J1 x1 := fun x1 q => kJ1 x1 (ynT a0 a1 a2 r0 r1 q)
 refine yag h (fun h => ?_) (fun h => ?_)
 ·exact hJ1 _ h
 ·exact hJ1 _ h
def ylJ : Sp KK := ⟨28, [.v 3, .v 33, .v 33], [33, 44], appW (K := KK) [33, 44] [.v 3, .v 33, .v 33] ycV⟩
def yqc : An KK := (.s .o (.s (.b (.j ⟨[(0, .kp 11), (4, .px 4 0), (5, .px 5 0), (6, .px 6 0), (10, .bl)], [(4, 33, [.kp 12, .kp 13, .kp 14]), (5, 33, [.kp 15, .kp 16, .kp 17]), (6, 33, [.kp 18, .kp 19, .kp 20])], []⟩ .o (fun _ => (.c (.s .o .o) (.s .o (.c (.s .o .o) (.s .o (.c (.s .o .o) (.j ⟨[(0, .kp 11), (4, .px 4 0), (5, .px 5 0), (6, .px 6 0), (33, .bl)], [(4, 33, [.kp 12, .kp 13, .kp 14]), (5, 33, [.kp 15, .kp 16, .kp 17]), (6, 33, [.kp 18, .kp 19, .kp 20])], []⟩ .o (fun _ => (.c (.s .o .o) (.s .o (.c (.s .o .o) (.s .o (.c (.s (.s .o (.c (.s .o .o) .o)) (.s .o .o)) .o))))))))))))))) (.s .o (.s (.s .o (.c (.s .o .o) .o)) (.s .o .o)))))
def ypP : Cf KK := ⟨CC, [yjU, yhK, ybz, ygm, yhF, yb8, yem, ygy, ydM], 83⟩
set_option maxRecDepth 100000 in
theorem ypE : SpOk Try.prog CC ylJ := by
 intro env r hF h
 obtain ⟨a0, env0, rfl, h1⟩ := yam h
 obtain ⟨a1, env1, rfl, h2⟩ := yam h1
 obtain ⟨a2, env2, rfl, h3⟩ := yam h2
 obtain ⟨rfl, h4⟩ := yaw h3
 obtain ⟨r0, rr0, rfl, h5⟩ := yaz h4
 obtain ⟨r1, rr1, rfl, h6⟩ := yaz h5
 obtain ⟨rfl, h7⟩ := yaR h6
 refine ⟨rfl, yaE (F := ypP) ybe (yas yo8 (yas ymz (yas ycv (yas yku (yas yl5 (yas ycP (yas ygK (yas ylR (yas ye2 yaF))))))))) t28 (A := yqc) (ps := [.v 3, .v 33, .v 33]) (rs := [33, 44]) (env := [.d (.v 3 a0), .d (.v 33 a1), .d (.v 33 a2)]) (r := [.v 33 r0, .v 44 r1]) (X := ycV a0 a1 a2 r0 r1) (by kernel_rfl) (Nat.le_of_ble_eq_true (by kernel_rfl)) rfl hF h7 ?_⟩
 kernel_rfl
def ydG (a0 : yac) (r0 : Bool) : Prop :=
 ∃ z1 : yac, (yay true z1) /\ ((a0.Kind == z1.Kind) && ((a0.N == z1.N) && ((a0.S == z1.S) && true))) = r0
def yeG : Sp KK := ⟨48, [.v 33], [4], appW (K := KK) [4] [.v 33] ydG⟩
def yil : An KK := (.s .o (.s .o .o))
def yh6 : Cf KK := ⟨CC, [yb8], 6⟩
set_option maxRecDepth 100000 in
theorem yia : SpOk Try.prog CC yeG := by
 intro env r hF h
 obtain ⟨a0, env0, rfl, h1⟩ := yam h
 obtain ⟨rfl, h2⟩ := yaw h1
 obtain ⟨r0, rr0, rfl, h3⟩ := yaz h2
 obtain ⟨rfl, h4⟩ := yaR h3
 refine ⟨rfl, yaE (F := yh6) ybe (yas ycP yaF) t48 (A := yil) (ps := [.v 33]) (rs := [4]) (env := [.d (.v 33 a0)]) (r := [.v 4 r0]) (X := ydG a0 r0) (by kernel_rfl) (Nat.le_of_ble_eq_true (by kernel_rfl)) rfl hF h4 ?_⟩
 kernel_rfl
def ydK (a0 : yac) (r0 : yac) (r1 : Int) : Prop :=
 cnd (a0.Kind == (0 : Int)) (a0 = r0 /\ (0 : Int) = r1) (cnd (a0.Kind == (1 : Int)) (∃ z1 : Bool, (ydG a0 z1) /\ ∃ z2 : yac, (yay (!z1) z2) /\ z2 = r0 /\ (0 : Int) = r1) ((⟨(0 : Int), (0 : Int), ([] : Str)⟩ : yac) = r0 /\ (5 : Int) = r1))
def yjR : Sp KK := ⟨29, [.v 33], [33, 44], appW (K := KK) [33, 44] [.v 33] ydK⟩
def yo7 : An KK := (.s .o (.s (.s .o (.b (.s .o (.c (.s .o .o) (.s .o (.c (.s .o .o) .o)))))) (.s .o .o)))
def ypi : Cf KK := ⟨CC, [yeG, yb8], 16⟩
set_option maxRecDepth 100000 in
theorem ypu : SpOk Try.prog CC yjR := by
 intro env r hF h
 obtain ⟨a0, env0, rfl, h1⟩ := yam h
 obtain ⟨rfl, h2⟩ := yaw h1
 obtain ⟨r0, rr0, rfl, h3⟩ := yaz h2
 obtain ⟨r1, rr1, rfl, h4⟩ := yaz h3
 obtain ⟨rfl, h5⟩ := yaR h4
 refine ⟨rfl, yaE (F := ypi) ybe (yas yia (yas ycP yaF)) t29 (A := yo7) (ps := [.v 33]) (rs := [33, 44]) (env := [.d (.v 33 a0)]) (r := [.v 33 r0, .v 44 r1]) (X := ydK a0 r0 r1) (by kernel_rfl) (Nat.le_of_ble_eq_true (by kernel_rfl)) rfl hF h5 ?_⟩
 kernel_rfl
def ydJ (a0 : yac) (r0 : yac) (r1 : Int) : Prop :=
 ∃ z1 : Bool, (yal a0 z1) /\ cnd z1 (a0 = r0 /\ (0 : Int) = r1) (cnd (!(a0.Kind == (2 : Int))) ((⟨(0 : Int), (0 : Int), ([] : Str)⟩ : yac) = r0 /\ (5 : Int) = r1) (cnd (a0.N == (-9223372036854775808 : Int)) ((⟨(0 : Int), (0 : Int), ([] : Str)⟩ : yac) = r0 /\ (8 : Int) = r1) (∃ z2 : yac, (yaZ (IntKind.i64.wrap (0 - a0.N)) z2) /\ z2 = r0 /\ (0 : Int) = r1)))
def yjK : Sp KK := ⟨30, [.v 33], [33, 44], appW (K := KK) [33, 44] [.v 33] ydJ⟩
def ypb : An KK := (.s .o (.s (.b (.s .o (.c (.s .o .o) (.s .o (.c (.s .o .o) (.s .o (.c (.s .o .o) .o))))))) (.s .o .o)))
def yo6 : Cf KK := ⟨CC, [ybz, ydM], 22⟩
set_option maxRecDepth 100000 in
theorem ypr : SpOk Try.prog CC yjK := by
 intro env r hF h
 obtain ⟨a0, env0, rfl, h1⟩ := yam h
 obtain ⟨rfl, h2⟩ := yaw h1
 obtain ⟨r0, rr0, rfl, h3⟩ := yaz h2
 obtain ⟨r1, rr1, rfl, h4⟩ := yaz h3
 obtain ⟨rfl, h5⟩ := yaR h4
 refine ⟨rfl, yaE (F := yo6) ybe (yas ycv (yas ye2 yaF)) t30 (A := ypb) (ps := [.v 33]) (rs := [33, 44]) (env := [.d (.v 33 a0)]) (r := [.v 33 r0, .v 44 r1]) (X := ydJ a0 r0 r1) (by kernel_rfl) (Nat.le_of_ble_eq_true (by kernel_rfl)) rfl hF h5 ?_⟩
 kernel_rfl
def yf4 (a0 : yad) (Xr : yad → (List yae) → (List yac) → yac → Int → Prop) (a1 : (List yae)) (a2 : (List yac)) (r0 : yac) (r1 : Int) (X1 : Int → (List yac) → Prop) (x1 : Int) (x2 : (List yac)) : Prop :=
 cnd (decide (x1 < (a0.L.length : Int))) ((0 <= x1) /\ (x1 < (a0.L.length : Int)) /\ ∃ y3 : yad, (a0.L[x1.toNat]? = some y3) /\ ∃ z4 : yac, ∃ z5 : Int, (Xr (yad.mk y3.Kind y3.Op (⟨y3.V.Kind, y3.V.N, y3.V.S⟩ : yac) y3.Table y3.Name y3.L) a1 a2 z4 z5) /\ cnd (!(z5 == (0 : Int))) ((⟨(0 : Int), (0 : Int), ([] : Str)⟩ : yac) = r0 /\ z5 = r1) ((x2.length <= 1000000000) /\ X1 (IntKind.i64.wrap (x1 + (1 : Int))) (x2 ++ ([z4] : List yac)))) (cnd (a0.Kind == (1 : Int)) ((⟨a0.V.Kind, a0.V.N, a0.V.S⟩ : yac) = r0 /\ (0 : Int) = r1) (cnd (a0.Kind == (2 : Int)) (∃ z6 : Int, ∃ z7 : Int, (ybS a1 (yad.mk a0.Kind a0.Op (⟨a0.V.Kind, a0.V.N, a0.V.S⟩ : yac) a0.Table a0.Name a0.L) z6 z7) /\ cnd (!(z7 == (0 : Int))) ((⟨(0 : Int), (0 : Int), ([] : Str)⟩ : yac) = r0 /\ z7 = r1) ((0 <= z6) /\ (z6 < (a2.length : Int)) /\ ∃ y8 : yac, (a2[z6.toNat]? = some y8) /\ y8 = r0 /\ (0 : Int) = r1)) (cnd (a0.Kind == (3 : Int)) ((0 <= (0 : Int)) /\ ((0 : Int) < (x2.length : Int)) /\ ∃ y9 : yac, (x2[(0 : Int).toNat]? = some y9) /\ (0 <= (1 : Int)) /\ ((1 : Int) < (x2.length : Int)) /\ ∃ y10 : yac, (x2[(1 : Int).toNat]? = some y10) /\ ∃ z11 : yac, ∃ z12 : Int, (ycV a0.Op y9 y10 z11 z12) /\ z11 = r0 /\ z12 = r1) (cnd (a0.Kind == (4 : Int)) ((0 <= (0 : Int)) /\ ((0 : Int) < (x2.length : Int)) /\ ∃ y13 : yac, (x2[(0 : Int).toNat]? = some y13) /\ ∃ z14 : yac, ∃ z15 : Int, (ydK y13 z14 z15) /\ z14 = r0 /\ z15 = r1) (cnd (a0.Kind == (5 : Int)) ((0 <= (0 : Int)) /\ ((0 : Int) < (x2.length : Int)) /\ ∃ y16 : yac, (x2[(0 : Int).toNat]? = some y16) /\ ∃ z17 : yac, ∃ z18 : Int, (ydJ y16 z17 z18) /\ z17 = r0 /\ z18 = r1) ((0 <= (0 : Int)) /\ ((0 : Int) < (x2.length : Int)) /\ ∃ y19 : yac, (x2[(0 : Int).toNat]? = some y19) /\ ∃ z20 : yac, (yay ((y19.Kind == (0 : Int)) == (a0.Kind == (6 : Int))) z20) /\ z20 = r0 /\ (0 : Int) = r1))))))
def ydY (Xr : yad → (List yae) → (List yac) → yac → Int → Prop) (a0 : yad) (a1 : (List yae)) (a2 : (List yac)) (r0 : yac) (r1 : Int) : Prop :=
 (a0.L.length <= maxLen -> ∀ X1 : Int -> (List yac) -> Prop, (∀ (x1 : Int) (x2 : (List yac)), yf4 a0 Xr a1 a2 r0 r1 X1 x1 x2 -> X1 x1 x2) -> X1 (0 : Int) ([] : List yac))
def yar (a0 : yad) (a1 : (List yae)) (a2 : (List yac)) (r0 : yac) (r1 : Int) : Prop := ∀ Xr : yad -> (List yae) -> (List yac) -> yac -> Int -> Prop, (∀ (a0 : yad) (a1 : (List yae)) (a2 : (List yac)) (r0 : yac) (r1 : Int), ydY Xr a0 a1 a2 r0 r1 -> Xr a0 a1 a2 r0 r1) -> Xr a0 a1 a2 r0 r1
def ybt (Xr : yad → (List yae) → (List yac) → yac → Int → Prop) (a0 : yad) (a1 : (List yae)) (a2 : (List yac)) (r0 : yac) (r1 : Int) (X1 : Int → (List yac) → Prop) (x1 : Int) (x2 : (List yac)) : Prop :=
 cnd (decide (x1 < (a0.L.length : Int))) ((0 <= x1) /\ (x1 < (a0.L.length : Int)) /\ ∃ y3 : yad, (a0.L[x1.toNat]? = some y3) /\ ∃ z4 : yac, ∃ z5 : Int, (Xr (yad.mk y3.Kind y3.Op (⟨y3.V.Kind, y3.V.N, y3.V.S⟩ : yac) y3.Table y3.Name y3.L) a1 a2 z4 z5) /\ cnd (!(z5 == (0 : Int))) ((⟨(0 : Int), (0 : Int), ([] : Str)⟩ : yac) = r0 /\ z5 = r1) ((x2.length <= 1000000000) /\ X1 (IntKind.i64.wrap (x1 + (1 : Int))) (x2 ++ ([z4] : List yac)))) (cnd (a0.Kind == (1 : Int)) ((⟨a0.V.Kind, a0.V.N, a0.V.S⟩ : yac) = r0 /\ (0 : Int) = r1) (cnd (a0.Kind == (2 : Int)) (∃ z6 : Int, ∃ z7 : Int, (ybS a1 (yad.mk a0.Kind a0.Op (⟨a0.V.Kind, a0.V.N, a0.V.S⟩ : yac) a0.Table a0.Name a0.L) z6 z7) /\ cnd (!(z7 == (0 : Int))) ((⟨(0 : Int), (0 : Int), ([] : Str)⟩ : yac) = r0 /\ z7 = r1) ((0 <= z6) /\ (z6 < (a2.length : Int)) /\ ∃ y8 : yac, (a2[z6.toNat]? = some y8) /\ y8 = r0 /\ (0 : Int) = r1)) (cnd (a0.Kind == (3 : Int)) ((0 <= (0 : Int)) /\ ((0 : Int) < (x2.length : Int)) /\ ∃ y9 : yac, (x2[(0 : Int).toNat]? = some y9) /\ (0 <= (1 : Int)) /\ ((1 : Int) < (x2.length : Int)) /\ ∃ y10 : yac, (x2[(1 : Int).toNat]? = some y10) /\ ∃ z11 : yac, ∃ z12 : Int, (ycV a0.Op y9 y10 z11 z12) /\ z11 = r0 /\ z12 = r1) (cnd (a0.Kind == (4 : Int)) ((0 <= (0 : Int)) /\ ((0 : Int) < (x2.length : Int)) /\ ∃ y13 : yac, (x2[(0 : Int).toNat]? = some y13) /\ ∃ z14 : yac, ∃ z15 : Int, (ydK y13 z14 z15) /\ z14 = r0 /\ z15 = r1) (cnd (a0.Kind == (5 : Int)) ((0 <= (0 : Int)) /\ ((0 : Int) < (x2.length : Int)) /\ ∃ y16 : yac, (x2[(0 : Int).toNat]? = some y16) /\ ∃ z17 : yac, ∃ z18 : Int, (ydJ y16 z17 z18) /\ z17 = r0 /\ z18 = r1) ((0 <= (0 : Int)) /\ ((0 : Int) < (x2.length : Int)) /\ ∃ y19 : yac, (x2[(0 : Int).toNat]? = some y19) /\ ∃ z20 : yac, (yay ((y19.Kind == (0 : Int)) == (a0.Kind == (6 : Int))) z20) /\ z20 = r0 /\ (0 : Int) = r1))))))
def yiL (Xr : yad → (List yae) → (List yac) → yac → Int → Prop) (a0 : yad) (a1 : (List yae)) (a2 : (List yac)) (r0 : yac) (r1 : Int) : Prop :=
 (a0.L.length <= maxLen -> ∀ X1 : Int -> (List yac) -> Prop, (∀ (x1 : Int) (x2 : (List yac)), ybt Xr a0 a1 a2 r0 r1 X1 x1 x2 -> X1 x1 x2) -> X1 (0 : Int) ([] : List yac))
theorem ylQ (Xr : yad → (List yae) → (List yac) → yac → Int → Prop) (a0 : yad) (a1 : (List yae)) (a2 : (List yac)) (r0 : yac) (r1 : Int) {X1 : Int → (List yac) → Prop} {x1 : Int} {x2 : (List yac)} (h : ybt Xr a0 a1 a2 r0 r1 X1 x1 x2) : yf4 a0 Xr a1 a2 r0 r1 X1 x1 x2 := by
 unfold yf4
 unfold ybt at h
 exact h
theorem yji (Xr : yad → (List yae) → (List yac) → yac → Int → Prop) (a0 : yad) (a1 : (List yae)) (a2 : (List yac)) (r0 : yac) (r1 : Int) (h : yiL Xr a0 a1 a2 r0 r1) : ydY Xr a0 a1 a2 r0 r1 := by
 unfold ydY
 unfold yiL at h
 intro c
 replace h := h c
 intro X1 k
 exact h X1 (fun x1 x2 q => k x1 x2 (ylQ Xr a0 a1 a2 r0 r1 q))
def yfO : Sp KK := ⟨14, [.v 36, .v 38, .v 40], [33, 44], appW (K := KK) [33, 44] [.v 36, .v 38, .v 40] yar⟩
def yn7 : An KK := (.s .o (.s .o (.s (.s .o (.b (.l ⟨[(1, .kp 18), (2, .kp 19), (3, .px 3 0), (6, .px 6 0), (8, .row 37), (17, .kp 21), (18, .kp 22), (19, .it .i64)], [(3, 36, [.kp 24, .kp 25, .kp 26, .kp 27, .kp 28, .kp 29, .kp 30, .kp 31]), (6, 33, [.kp 32, .kp 33, .kp 34])], [(37, 33)]⟩ (fun _ => (.s .o (.s (.c .o .o) (.s (.b (.s .o (.s .o (.s (.s .o (.c (.s .o .o) .o)) .o)))) .o))))))) (.s (.s .o (.b (.s .o (.c (.s .o .o) (.s .o (.c (.s .o (.s (.s .o (.c (.s .o .o) .o)) (.s .o .o))) (.s .o (.c (.s .o .o) (.s .o (.c (.s .o .o) (.s .o (.c (.s .o .o) .o)))))))))))) (.s .o (.s .o .o))))))
def ynD (Xr : WTy KK [33, 44] [.v 36, .v 38, .v 40]) : Cf KK := ⟨CC, [⟨14, [.v 36, .v 38, .v 40], [33, 44], appW (K := KK) [33, 44] [.v 36, .v 38, .v 40] Xr⟩, yfV, ylJ, yjR, yjK, yb8], 101⟩
set_option maxRecDepth 100000 in
theorem yl3 (Xr : yad → (List yae) → (List yac) → yac → Int → Prop) (hX : ∀ (a0 : yad) (a1 : (List yae)) (a2 : (List yac)) (r0 : yac) (r1 : Int), Xr a0 a1 a2 r0 r1 → Pure Try.prog 14 (ya7 CC [.v 36, .v 38, .v 40] ([.d (.v 36 a0), .d (.v 38 a1), .d (.v 40 a2)] : List (AD KK))) (ybX (([.v 33 r0, .v 44 r1] : List (DV KK)).map (dvA CC)))) : ∀ (a0 : yad) (a1 : (List yae)) (a2 : (List yac)) (r0 : yac) (r1 : Int), ydY Xr a0 a1 a2 r0 r1 → Pure Try.prog 14 (ya7 CC [.v 36, .v 38, .v 40] ([.d (.v 36 a0), .d (.v 38 a1), .d (.v 40 a2)] : List (AD KK))) (ybX (([.v 33 r0, .v 44 r1] : List (DV KK)).map (dvA CC))) := by
 intro a0 a1 a2 r0 r1 h
 refine yaE (F := ynD Xr) ybe (yas ?_ (yas yiT (yas ypE (yas ypu (yas ypr (yas ycP yaF)))))) t14 (A := yn7) (ps := [.v 36, .v 38, .v 40]) (rs := [33, 44]) (env := [.d (.v 36 a0), .d (.v 38 a1), .d (.v 40 a2)]) (r := [.v 33 r0, .v 44 r1]) (X := ydY Xr a0 a1 a2 r0 r1) (by kernel_rfl) (Nat.le_of_ble_eq_true (by kernel_rfl)) rfl (fun G hG => by simp at hG) h ?_
 ·clear h r0 r1
  intro env r hF h
  obtain ⟨a0, env0, rfl, h1⟩ := yam h
  obtain ⟨a1, env1, rfl, h2⟩ := yam h1
  obtain ⟨a2, env2, rfl, h3⟩ := yam h2
  obtain ⟨rfl, h4⟩ := yaw h3
  obtain ⟨r0, rr0, rfl, h5⟩ := yaz h4
  obtain ⟨r1, rr1, rfl, h6⟩ := yaz h5
  obtain ⟨rfl, h7⟩ := yaR h6
  exact ⟨rfl, hX a0 a1 a2 r0 r1 h7⟩
 ·kernel_rfl
set_option maxRecDepth 100000 in
theorem yiW : SpOk Try.prog CC yfO := by
 intro env r hF h
 obtain ⟨a0, env0, rfl, h1⟩ := yam h
 obtain ⟨a1, env1, rfl, h2⟩ := yam h1
 obtain ⟨a2, env2, rfl, h3⟩ := yam h2
 obtain ⟨rfl, h4⟩ := yaw h3
 obtain ⟨r0, rr0, rfl, h5⟩ := yaz h4
 obtain ⟨r1, rr1, rfl, h6⟩ := yaz h5
 obtain ⟨rfl, h7⟩ := yaR h6
 exact ⟨rfl, h7 (fun a0 a1 a2 r0 r1 =>  Pure Try.prog 14 (ya7 CC [.v 36, .v 38, .v 40] ([.d (.v 36 a0), .d (.v 38 a1), .d (.v 40 a2)] : List (AD KK))) (ybX (([.v 33 r0, .v 44 r1] : List (DV KK)).map (dvA CC)))) (fun a0 a1 a2 r0 r1 h => yl3 _ (fun a0 a1 a2 r0 r1 h => h) a0 a1 a2 r0 r1 h)⟩
def yeC (r0 : Bool) (x11 : Bool) : Prop :=
 x11 = r0
def yb1 (r0 : Bool) : Prop :=
 ∃ z1 : yac, (yaZ (1 : Int) z1) /\ ∃ z2 : Int, ∃ z3 : Int, (yao (yad.mk (3 : Int) (7 : Int) (⟨(0 : Int), (0 : Int), ([] : Str)⟩ : yac) ([] : Str) ([] : Str) ([(yad.mk (2 : Int) (0 : Int) (⟨(0 : Int), (0 : Int), ([] : Str)⟩ : yac) ([] : Str) ([97] : Str) ([] : List yad)), (yad.mk (1 : Int) (0 : Int) z1 ([] : Str) ([] : Str) ([] : List yad))] : List yad)) ([(⟨([116] : Str), ([97] : Str), (3 : Int)⟩ : yae)] : List yae) false z2 z3) /\ ∃ z4 : yac, (yaD ([120] : Str) z4) /\ (0 <= (1 : Int)) /\ ((1 : Int) < (([(yad.mk (2 : Int) (0 : Int) (⟨(0 : Int), (0 : Int), ([] : Str)⟩ : yac) ([] : Str) ([97] : Str) ([] : List yad)), (yad.mk (1 : Int) (0 : Int) z1 ([] : Str) ([] : Str) ([] : List yad))] : List yad).length : Int)) /\ ∃ y5 : yad, (([(yad.mk (2 : Int) (0 : Int) (⟨(0 : Int), (0 : Int), ([] : Str)⟩ : yac) ([] : Str) ([97] : Str) ([] : List yad)), (yad.mk (1 : Int) (0 : Int) z1 ([] : Str) ([] : Str) ([] : List yad))] : List yad)[(1 : Int).toNat]? = some y5) /\ ∃ z6 : Int, ∃ z7 : Int, (yao (yad.mk (3 : Int) (12 : Int) (⟨(0 : Int), (0 : Int), ([] : Str)⟩ : yac) ([] : Str) ([] : Str) (([(yad.mk (2 : Int) (0 : Int) (⟨(0 : Int), (0 : Int), ([] : Str)⟩ : yac) ([] : Str) ([97] : Str) ([] : List yad)), (yad.mk (1 : Int) (0 : Int) z1 ([] : Str) ([] : Str) ([] : List yad))] : List yad).set ((1 : Int).toNat) (yad.mk y5.Kind y5.Op z4 y5.Table y5.Name y5.L))) ([(⟨([116] : Str), ([97] : Str), (3 : Int)⟩ : yae)] : List yae) false z6 z7) /\ ∃ z8 : yac, (yaD ([121] : Str) z8) /\ ∃ z9 : yac, ∃ z10 : Int, (yar (yad.mk (3 : Int) (12 : Int) (⟨(0 : Int), (0 : Int), ([] : Str)⟩ : yac) ([] : Str) ([] : Str) (([(yad.mk (2 : Int) (0 : Int) (⟨(0 : Int), (0 : Int), ([] : Str)⟩ : yac) ([] : Str) ([97] : Str) ([] : List yad)), (yad.mk (1 : Int) (0 : Int) z1 ([] : Str) ([] : Str) ([] : List yad))] : List yad).set ((1 : Int).toNat) (yad.mk y5.Kind y5.Op z4 y5.Table y5.Name y5.L))) ([(⟨([116] : Str), ([97] : Str), (3 : Int)⟩ : yae)] : List yae) ([z8] : List yac) z9 z10) /\ ∀ J1 : Bool -> Prop, (∀ (x11 : Bool), yeC r0 x11 -> J1 x11) -> cnd (z3 == (5 : Int)) (cnd (z6 == (3 : Int)) (cnd (z7 == (0 : Int)) (cnd (z10 == (0 : Int)) (∃ z12 : yac, (yaD ([121, 120] : Str) z12) /\ J1 ((z9.Kind == z12.Kind) && ((z9.N == z12.N) && ((z9.S == z12.S) && true)))) (J1 false)) (J1 false)) (J1 false)) (J1 false)
def ya5 (r0 : Bool) (x11 : Bool) : Prop :=
 x11 = r0
def ygM (r0 : Bool) : Prop :=
 ∃ z1 : yac, (yaZ (1 : Int) z1) /\ ∃ z2 : Int, ∃ z3 : Int, (yao (yad.mk (3 : Int) (7 : Int) (⟨(0 : Int), (0 : Int), ([] : Str)⟩ : yac) ([] : Str) ([] : Str) ([(yad.mk (2 : Int) (0 : Int) (⟨(0 : Int), (0 : Int), ([] : Str)⟩ : yac) ([] : Str) ([97] : Str) ([] : List yad)), (yad.mk (1 : Int) (0 : Int) z1 ([] : Str) ([] : Str) ([] : List yad))] : List yad)) ([(⟨([116] : Str), ([97] : Str), (3 : Int)⟩ : yae)] : List yae) false z2 z3) /\ ∃ z4 : yac, (yaD ([120] : Str) z4) /\ (0 <= (1 : Int)) /\ ((1 : Int) < (([(yad.mk (2 : Int) (0 : Int) (⟨(0 : Int), (0 : Int), ([] : Str)⟩ : yac) ([] : Str) ([97] : Str) ([] : List yad)), (yad.mk (1 : Int) (0 : Int) z1 ([] : Str) ([] : Str) ([] : List yad))] : List yad).length : Int)) /\ ∃ y5 : yad, (([(yad.mk (2 : Int) (0 : Int) (⟨(0 : Int), (0 : Int), ([] : Str)⟩ : yac) ([] : Str) ([97] : Str) ([] : List yad)), (yad.mk (1 : Int) (0 : Int) z1 ([] : Str) ([] : Str) ([] : List yad))] : List yad)[(1 : Int).toNat]? = some y5) /\ ∃ z6 : Int, ∃ z7 : Int, (yao (yad.mk (3 : Int) (12 : Int) (⟨(0 : Int), (0 : Int), ([] : Str)⟩ : yac) ([] : Str) ([] : Str) (([(yad.mk (2 : Int) (0 : Int) (⟨(0 : Int), (0 : Int), ([] : Str)⟩ : yac) ([] : Str) ([97] : Str) ([] : List yad)), (yad.mk (1 : Int) (0 : Int) z1 ([] : Str) ([] : Str) ([] : List yad))] : List yad).set ((1 : Int).toNat) (yad.mk y5.Kind y5.Op z4 y5.Table y5.Name y5.L))) ([(⟨([116] : Str), ([97] : Str), (3 : Int)⟩ : yae)] : List yae) false z6 z7) /\ ∃ z8 : yac, (yaD ([121] : Str) z8) /\ ∃ z9 : yac, ∃ z10 : Int, (yar (yad.mk (3 : Int) (12 : Int) (⟨(0 : Int), (0 : Int), ([] : Str)⟩ : yac) ([] : Str) ([] : Str) (([(yad.mk (2 : Int) (0 : Int) (⟨(0 : Int), (0 : Int), ([] : Str)⟩ : yac) ([] : Str) ([97] : Str) ([] : List yad)), (yad.mk (1 : Int) (0 : Int) z1 ([] : Str) ([] : Str) ([] : List yad))] : List yad).set ((1 : Int).toNat) (yad.mk y5.Kind y5.Op z4 y5.Table y5.Name y5.L))) ([(⟨([116] : Str), ([97] : Str), (3 : Int)⟩ : yae)] : List yae) ([z8] : List yac) z9 z10) /\ cnd (z3 == (5 : Int)) (cnd (z6 == (3 : Int)) (cnd (z7 == (0 : Int)) (cnd (z10 == (0 : Int)) (∃ z12 : yac, (yaD ([121, 120] : Str) z12) /\ ya5 r0 ((z9.Kind == z12.Kind) && ((z9.N == z12.N) && ((z9.S == z12.S) && true)))) (ya5 r0 false)) (ya5 r0 false)) (ya5 r0 false)) (ya5 r0 false)
theorem yjH (r0 : Bool) {x11 : Bool} (h : ya5 r0 x11) : yeC r0 x11 := by
 unfold yeC
 unfold ya5 at h
 exact h
theorem yma (r0 : Bool) (h : ygM r0) : yb1 r0 := by
 unfold yb1
 unfold ygM at h
 obtain ⟨z1, h⟩ := h
 refine ⟨z1, ?_⟩
 obtain ⟨h0, h⟩ := h
 refine ⟨h0, ?_⟩
 obtain ⟨z2, h⟩ := h
 refine ⟨z2, ?_⟩
 obtain ⟨z3, h⟩ := h
 refine ⟨z3, ?_⟩
 obtain ⟨h0, h⟩ := h
 refine ⟨h0, ?_⟩
 obtain ⟨z4, h⟩ := h
 refine ⟨z4, ?_⟩
 obtain ⟨h0, h⟩ := h
 refine ⟨h0, ?_⟩
 obtain ⟨h0, h⟩ := h
 refine ⟨h0, ?_⟩
 obtain ⟨h0, h⟩ := h
 refine ⟨h0, ?_⟩
 obtain ⟨y5, h⟩ := h
 refine ⟨y5, ?_⟩
 obtain ⟨h0, h⟩ := h
 refine ⟨h0, ?_⟩
 obtain ⟨z6, h⟩ := h
 refine ⟨z6, ?_⟩
 obtain ⟨z7, h⟩ := h
 refine ⟨z7, ?_⟩
 obtain ⟨h0, h⟩ := h
 refine ⟨h0, ?_⟩
 obtain ⟨z8, h⟩ := h
 refine ⟨z8, ?_⟩
 obtain ⟨h0, h⟩ := h
 refine ⟨h0, ?_⟩
 obtain ⟨z9, h⟩ := h
 refine ⟨z9, ?_⟩
 obtain ⟨z10, h⟩ := h
 refine ⟨z10, ?_⟩
 obtain ⟨h0, h⟩ := h
 refine ⟨h0, ?_⟩
 intro J1 kJ1
 have hJ1 : ∀ (x11 : Bool), ya5 r0 x11 -> J1 x11 := fun x11 q => kJ1 x11 (yjH r0 q)
 refine yag h (fun h => ?_) (fun h => ?_)
 ·refine yag h (fun h => ?_) (fun h => ?_)
  ·refine yag h (fun h => ?_) (fun h => ?_)
   ·refine yag h (fun h => ?_) (fun h => ?_)
    ·obtain ⟨z12, h⟩ := h
     refine ⟨z12, ?_⟩
     obtain ⟨h0, h⟩ := h
     refine ⟨h0, ?_⟩
     exact hJ1 _ h
    ·exact hJ1 _ h
   ·exact hJ1 _ h
  ·exact hJ1 _ h
 ·exact hJ1 _ h
def ygL : Sp KK := ⟨4, [], [4], appW (K := KK) [4] [] yb1⟩
def ylF : An KK := (.s .o (.s .o (.s .o (.s .o (.s .o (.s .o (.s .o (.s .o (.j ⟨[(0, .bl)], [], []⟩ .o (fun _ => .o))))))))))
def ylh : Cf KK := ⟨CC, [ydM, yfX, yem, yfO], 61⟩
set_option maxRecDepth 100000 in
theorem ykO : SpOk Try.prog CC ygL := by
 intro env r hF h
 obtain ⟨rfl, h1⟩ := yaw h
 obtain ⟨r0, rr0, rfl, h2⟩ := yaz h1
 obtain ⟨rfl, h3⟩ := yaR h2
 refine ⟨rfl, yaE (F := ylh) ybe (yas ye2 (yas yiP (yas ygK (yas yiW yaF)))) t4 (A := ylF) (ps := []) (rs := [4]) (env := []) (r := [.v 4 r0]) (X := yb1  r0) (by kernel_rfl) (Nat.le_of_ble_eq_true (by kernel_rfl)) rfl hF h3 ?_⟩
 kernel_rfl
def yfl (x12 : Int) (Xr : (List yah) → Int → Int → yab → Int → Prop) (a0 : (List yah)) (a2 : Int) (y2 : yah) (x9 : Int) (x3 : Int) (x4 : Int) (x5 : Str) (x10 : Str) (x11 : Str) (r0 : yab) (r1 : Int) (X6 : Int → Int → (List yab) → Prop) (x13 : Int) (x14 : Int) (x15 : (List yab)) : Prop :=
 cnd (decide (x14 < x12)) (∃ z16 : yab, ∃ z17 : Int, (Xr a0 x13 (IntKind.i64.wrap (a2 + (1 : Int))) z16 z17) /\ (x15.length <= 1000000000) /\ X6 z17 (IntKind.i64.wrap (x14 + (1 : Int))) (x15 ++ ([(yab.mk z16.Kind z16.Op (⟨z16.V.Kind, z16.V.N, z16.V.S⟩ : yaa) z16.Table z16.Name z16.L)] : List yab))) ((yab.mk (IntKind.i64.wrap (y2.Kind.tmod (10 : Int))) x9 (⟨x3, x4, x5⟩ : yaa) x10 x11 x15) = r0 /\ x13 = r1)
def yeY (Xr : (List yah) → Int → Int → yab → Int → Prop) (a0 : (List yah)) (a2 : Int) (y2 : yah) (x9 : Int) (x3 : Int) (x4 : Int) (x5 : Str) (x10 : Str) (x11 : Str) (r0 : yab) (r1 : Int) (a1 : Int) (x12 : Int) : Prop :=
 ∀ X6 : Int -> Int -> (List yab) -> Prop, (∀ (x13 : Int) (x14 : Int) (x15 : (List yab)), yfl x12 Xr a0 a2 y2 x9 x3 x4 x5 x10 x11 r0 r1 X6 x13 x14 x15 -> X6 x13 x14 x15) -> X6 (IntKind.i64.wrap (a1 + (1 : Int))) (0 : Int) ([] : List yab)
def yfk (Xr : (List yah) → Int → Int → yab → Int → Prop) (a0 : (List yah)) (a2 : Int) (y2 : yah) (x3 : Int) (x4 : Int) (x5 : Str) (r0 : yab) (r1 : Int) (a1 : Int) (x8 : Int) (x9 : Int) (x10 : Str) (x11 : Str) : Prop :=
 ∀ J5 : Int -> Prop, (∀ (x12 : Int), yeY Xr a0 a2 y2 x9 x3 x4 x5 x10 x11 r0 r1 a1 x12 -> J5 x12) -> cnd (decide ((240 : Int) <= y2.Kind)) (J5 (IntKind.i64.wrap (y2.Parts.tmod (4 : Int)))) (J5 x8)
def yfm (J4 : Int → Int → Str → Str → Prop) (x6 : Str) (x7 : Str) (y2 : yah) (x19 : Bool) : Prop :=
 cnd x19 (J4 (0 : Int) (0 : Int) x6 x7) (J4 (IntKind.i64.wrap (y2.Parts.tmod (3 : Int))) (0 : Int) x6 x7)
def yeX (J4 : Int → Int → Str → Str → Prop) (x6 : Str) (x7 : Str) (y2 : yah) (x18 : Bool) : Prop :=
 cnd x18 (J4 (1 : Int) (0 : Int) x6 x7) (cnd ((y2.Kind.tmod (10 : Int)) == (8 : Int)) (J4 (IntKind.i64.wrap (y2.Parts.tmod (2 : Int))) (IntKind.i64.wrap (y2.Op.tmod (6 : Int))) x6 x7) (∀ J8 : Bool -> Prop, (∀ (x19 : Bool), yfm J4 x6 x7 y2 x19 -> J8 x19) -> cnd ((y2.Kind.tmod (10 : Int)) == (1 : Int)) (J8 ((y2.Kind.tmod (10 : Int)) == (1 : Int))) (J8 ((y2.Kind.tmod (10 : Int)) == (2 : Int)))))
def ye7 (Xr : (List yah) → Int → Int → yab → Int → Prop) (a0 : (List yah)) (a2 : Int) (y2 : yah) (x3 : Int) (x4 : Int) (x5 : Str) (r0 : yab) (r1 : Int) (a1 : Int) (x6 : Str) (x7 : Str) : Prop :=
 ∀ J4 : Int -> Int -> Str -> Str -> Prop, (∀ (x8 : Int) (x9 : Int) (x10 : Str) (x11 : Str), yfk Xr a0 a2 y2 x3 x4 x5 r0 r1 a1 x8 x9 x10 x11 -> J4 x8 x9 x10 x11) -> cnd ((y2.Kind.tmod (10 : Int)) == (3 : Int)) (J4 (2 : Int) (IntKind.i64.wrap (y2.Op.tmod (16 : Int))) x6 x7) (∀ J7 : Bool -> Prop, (∀ (x18 : Bool), yeX J4 x6 x7 y2 x18 -> J7 x18) -> cnd ((y2.Kind.tmod (10 : Int)) == (4 : Int)) (J7 ((y2.Kind.tmod (10 : Int)) == (4 : Int))) (cnd ((y2.Kind.tmod (10 : Int)) == (5 : Int)) (J7 ((y2.Kind.tmod (10 : Int)) == (5 : Int))) (cnd ((y2.Kind.tmod (10 : Int)) == (6 : Int)) (J7 ((y2.Kind.tmod (10 : Int)) == (6 : Int))) (J7 ((y2.Kind.tmod (10 : Int)) == (7 : Int))))))
def yeV (y2 : yah) (J3 : Str → Str → Prop) (x20 : Bool) : Prop :=
 cnd x20 ((0 <= (0 : Int) /\ (0 : Int) <= (if (20 : Int) < (y2.Name.length : Int) then (20 : Int) else (y2.Name.length : Int)) /\ (if (20 : Int) < (y2.Name.length : Int) then (20 : Int) else (y2.Name.length : Int)) <= (y2.Name.length : Int)) /\ (0 <= (0 : Int) /\ (0 : Int) <= (if (20 : Int) < (y2.Table.length : Int) then (20 : Int) else (y2.Table.length : Int)) /\ (if (20 : Int) < (y2.Table.length : Int) then (20 : Int) else (y2.Table.length : Int)) <= (y2.Table.length : Int)) /\ J3 ((y2.Table.drop (0 : Int).toNat).take ((if (20 : Int) < (y2.Table.length : Int) then (20 : Int) else (y2.Table.length : Int)).toNat - (0 : Int).toNat)) ((y2.Name.drop (0 : Int).toNat).take ((if (20 : Int) < (y2.Name.length : Int) then (20 : Int) else (y2.Name.length : Int)).toNat - (0 : Int).toNat))) (J3 ([] : Str) ([] : Str))
def yeU (Xr : (List yah) → Int → Int → yab → Int → Prop) (a0 : (List yah)) (a2 : Int) (y2 : yah) (r0 : yab) (r1 : Int) (a1 : Int) (x3 : Int) (x4 : Int) (x5 : Str) : Prop :=
 ∀ J3 : Str -> Str -> Prop, (∀ (x6 : Str) (x7 : Str), ye7 Xr a0 a2 y2 x3 x4 x5 r0 r1 a1 x6 x7 -> J3 x6 x7) -> ∀ J9 : Bool -> Prop, (∀ (x20 : Bool), yeV y2 J3 x20 -> J9 x20) -> cnd ((y2.Kind.tmod (10 : Int)) == (2 : Int)) (J9 true) (J9 (decide ((250 : Int) <= y2.Kind)))
def yeB (y2 : yah) (J2 : Int → Int → Str → Prop) (x21 : Bool) : Prop :=
 cnd x21 (cnd ((IntKind.i64.wrap (y2.Value.tmod (5 : Int))) == (1 : Int)) (J2 (IntKind.i64.wrap (y2.Value.tmod (5 : Int))) (bits .and .i64 y2.N (1 : Int)) ([] : Str)) (cnd ((IntKind.i64.wrap (y2.Value.tmod (5 : Int))) == (2 : Int)) (J2 (IntKind.i64.wrap (y2.Value.tmod (5 : Int))) y2.N ([] : Str)) (cnd ((IntKind.i64.wrap (y2.Value.tmod (5 : Int))) == (3 : Int)) ((0 <= (0 : Int) /\ (0 : Int) <= (if (70 : Int) < (y2.Name.length : Int) then (70 : Int) else (y2.Name.length : Int)) /\ (if (70 : Int) < (y2.Name.length : Int) then (70 : Int) else (y2.Name.length : Int)) <= (y2.Name.length : Int)) /\ J2 (IntKind.i64.wrap (y2.Value.tmod (5 : Int))) (0 : Int) ((y2.Name.drop (0 : Int).toNat).take ((if (70 : Int) < (y2.Name.length : Int) then (70 : Int) else (y2.Name.length : Int)).toNat - (0 : Int).toNat))) (J2 (IntKind.i64.wrap (y2.Value.tmod (5 : Int))) (0 : Int) ([] : Str))))) (J2 (0 : Int) (0 : Int) ([] : Str))
def yfe (r0 : yab) (a1 : Int) (r1 : Int) (a0 : (List yah)) (Xr : (List yah) → Int → Int → yab → Int → Prop) (a2 : Int) (x1 : Bool) : Prop :=
 cnd x1 ((yab.mk (1 : Int) (0 : Int) (⟨(0 : Int), (0 : Int), ([] : Str)⟩ : yaa) ([] : Str) ([] : Str) ([] : List yab)) = r0 /\ (IntKind.i64.wrap (a1 + (1 : Int))) = r1) ((0 <= a1) /\ (a1 < (a0.length : Int)) /\ ∃ y2 : yah, (a0[a1.toNat]? = some y2) /\ ∀ J2 : Int -> Int -> Str -> Prop, (∀ (x3 : Int) (x4 : Int) (x5 : Str), yeU Xr a0 a2 y2 r0 r1 a1 x3 x4 x5 -> J2 x3 x4 x5) -> ∀ J10 : Bool -> Prop, (∀ (x21 : Bool), yeB y2 J2 x21 -> J10 x21) -> cnd ((y2.Kind.tmod (10 : Int)) == (1 : Int)) (J10 true) (J10 (decide ((250 : Int) <= y2.Kind))))
def ycW (Xr : (List yah) → Int → Int → yab → Int → Prop) (a0 : (List yah)) (a1 : Int) (a2 : Int) (r0 : yab) (r1 : Int) : Prop :=
 ∀ J1 : Bool -> Prop, (∀ (x1 : Bool), yfe r0 a1 r1 a0 Xr a2 x1 -> J1 x1) -> (a0.length <= maxLen -> cnd (decide ((a0.length : Int) <= a1)) (J1 true) (J1 (decide ((24 : Int) < a2))))
def ydz (a0 : (List yah)) (a1 : Int) (a2 : Int) (r0 : yab) (r1 : Int) : Prop := ∀ Xr : (List yah) -> Int -> Int -> yab -> Int -> Prop, (∀ (a0 : (List yah)) (a1 : Int) (a2 : Int) (r0 : yab) (r1 : Int), ycW Xr a0 a1 a2 r0 r1 -> Xr a0 a1 a2 r0 r1) -> Xr a0 a1 a2 r0 r1
def ydv (Xr : (List yah) → Int → Int → yab → Int → Prop) (a0 : (List yah)) (a2 : Int) (r0 : yab) (r1 : Int) (x3 : Int) (x4 : Int) (x5 : Str) (x9 : Int) (x10 : Str) (x11 : Str) (x12 : Int) (y2 : yah) (X6 : Int → Int → (List yab) → Prop) (x13 : Int) (x14 : Int) (x15 : (List yab)) : Prop :=
 cnd (decide (x14 < x12)) (∃ z16 : yab, ∃ z17 : Int, (Xr a0 x13 (IntKind.i64.wrap (a2 + (1 : Int))) z16 z17) /\ (x15.length <= 1000000000) /\ X6 z17 (IntKind.i64.wrap (x14 + (1 : Int))) (x15 ++ ([(yab.mk z16.Kind z16.Op (⟨z16.V.Kind, z16.V.N, z16.V.S⟩ : yaa) z16.Table z16.Name z16.L)] : List yab))) ((yab.mk (IntKind.i64.wrap (y2.Kind.tmod (10 : Int))) x9 (⟨x3, x4, x5⟩ : yaa) x10 x11 x15) = r0 /\ x13 = r1)
def yb9 (Xr : (List yah) → Int → Int → yab → Int → Prop) (a0 : (List yah)) (a1 : Int) (a2 : Int) (r0 : yab) (r1 : Int) (x3 : Int) (x4 : Int) (x5 : Str) (x9 : Int) (x10 : Str) (x11 : Str) (y2 : yah) (x12 : Int) : Prop :=
 ∀ X6 : Int -> Int -> (List yab) -> Prop, (∀ (x13 : Int) (x14 : Int) (x15 : (List yab)), ydv Xr a0 a2 r0 r1 x3 x4 x5 x9 x10 x11 x12 y2 X6 x13 x14 x15 -> X6 x13 x14 x15) -> X6 (IntKind.i64.wrap (a1 + (1 : Int))) (0 : Int) ([] : List yab)
def yaC (Xr : (List yah) → Int → Int → yab → Int → Prop) (a0 : (List yah)) (a1 : Int) (a2 : Int) (r0 : yab) (r1 : Int) (x3 : Int) (x4 : Int) (x5 : Str) (y2 : yah) (x8 : Int) (x9 : Int) (x10 : Str) (x11 : Str) : Prop :=
 cnd (decide ((240 : Int) <= y2.Kind)) (yb9 Xr a0 a1 a2 r0 r1 x3 x4 x5 x9 x10 x11 y2 (IntKind.i64.wrap (y2.Parts.tmod (4 : Int)))) (yb9 Xr a0 a1 a2 r0 r1 x3 x4 x5 x9 x10 x11 y2 x8)
def yck (Xr : (List yah) → Int → Int → yab → Int → Prop) (a0 : (List yah)) (a1 : Int) (a2 : Int) (r0 : yab) (r1 : Int) (x3 : Int) (x4 : Int) (x5 : Str) (x6 : Str) (x7 : Str) (y2 : yah) (x19 : Bool) : Prop :=
 cnd x19 (yaC Xr a0 a1 a2 r0 r1 x3 x4 x5 y2 (0 : Int) (0 : Int) x6 x7) (yaC Xr a0 a1 a2 r0 r1 x3 x4 x5 y2 (IntKind.i64.wrap (y2.Parts.tmod (3 : Int))) (0 : Int) x6 x7)
def ybg (Xr : (List yah) → Int → Int → yab → Int → Prop) (a0 : (List yah)) (a1 : Int) (a2 : Int) (r0 : yab) (r1 : Int) (x3 : Int) (x4 : Int) (x5 : Str) (x6 : Str) (x7 : Str) (y2 : yah) (x18 : Bool) : Prop :=
 cnd x18 (yaC Xr a0 a1 a2 r0 r1 x3 x4 x5 y2 (1 : Int) (0 : Int) x6 x7) (cnd ((y2.Kind.tmod (10 : Int)) == (8 : Int)) (yaC Xr a0 a1 a2 r0 r1 x3 x4 x5 y2 (IntKind.i64.wrap (y2.Parts.tmod (2 : Int))) (IntKind.i64.wrap (y2.Op.tmod (6 : Int))) x6 x7) (cnd ((y2.Kind.tmod (10 : Int)) == (1 : Int)) (yck Xr a0 a1 a2 r0 r1 x3 x4 x5 x6 x7 y2 ((y2.Kind.tmod (10 : Int)) == (1 : Int))) (yck Xr a0 a1 a2 r0 r1 x3 x4 x5 x6 x7 y2 ((y2.Kind.tmod (10 : Int)) == (2 : Int)))))
def ya1 (Xr : (List yah) → Int → Int → yab → Int → Prop) (a0 : (List yah)) (a1 : Int) (a2 : Int) (r0 : yab) (r1 : Int) (x3 : Int) (x4 : Int) (x5 : Str) (y2 : yah) (x6 : Str) (x7 : Str) : Prop :=
 cnd ((y2.Kind.tmod (10 : Int)) == (3 : Int)) (yaC Xr a0 a1 a2 r0 r1 x3 x4 x5 y2 (2 : Int) (IntKind.i64.wrap (y2.Op.tmod (16 : Int))) x6 x7) (cnd ((y2.Kind.tmod (10 : Int)) == (4 : Int)) (ybg Xr a0 a1 a2 r0 r1 x3 x4 x5 x6 x7 y2 ((y2.Kind.tmod (10 : Int)) == (4 : Int))) (cnd ((y2.Kind.tmod (10 : Int)) == (5 : Int)) (ybg Xr a0 a1 a2 r0 r1 x3 x4 x5 x6 x7 y2 ((y2.Kind.tmod (10 : Int)) == (5 : Int))) (cnd ((y2.Kind.tmod (10 : Int)) == (6 : Int)) (ybg Xr a0 a1 a2 r0 r1 x3 x4 x5 x6 x7 y2 ((y2.Kind.tmod (10 : Int)) == (6 : Int))) (ybg Xr a0 a1 a2 r0 r1 x3 x4 x5 x6 x7 y2 ((y2.Kind.tmod (10 : Int)) == (7 : Int))))))
def yb7 (Xr : (List yah) → Int → Int → yab → Int → Prop) (a0 : (List yah)) (a1 : Int) (a2 : Int) (r0 : yab) (r1 : Int) (x3 : Int) (x4 : Int) (x5 : Str) (y2 : yah) (x20 : Bool) : Prop :=
 cnd x20 ((0 <= (0 : Int) /\ (0 : Int) <= (if (20 : Int) < (y2.Name.length : Int) then (20 : Int) else (y2.Name.length : Int)) /\ (if (20 : Int) < (y2.Name.length : Int) then (20 : Int) else (y2.Name.length : Int)) <= (y2.Name.length : Int)) /\ (0 <= (0 : Int) /\ (0 : Int) <= (if (20 : Int) < (y2.Table.length : Int) then (20 : Int) else (y2.Table.length : Int)) /\ (if (20 : Int) < (y2.Table.length : Int) then (20 : Int) else (y2.Table.length : Int)) <= (y2.Table.length : Int)) /\ ya1 Xr a0 a1 a2 r0 r1 x3 x4 x5 y2 ((y2.Table.drop (0 : Int).toNat).take ((if (20 : Int) < (y2.Table.length : Int) then (20 : Int) else (y2.Table.length : Int)).toNat - (0 : Int).toNat)) ((y2.Name.drop (0 : Int).toNat).take ((if (20 : Int) < (y2.Name.length : Int) then (20 : Int) else (y2.Name.length : Int)).toNat - (0 : Int).toNat))) (ya1 Xr a0 a1 a2 r0 r1 x3 x4 x5 y2 ([] : Str) ([] : Str))
def yaB (Xr : (List yah) → Int → Int → yab → Int → Prop) (a0 : (List yah)) (a1 : Int) (a2 : Int) (r0 : yab) (r1 : Int) (y2 : yah) (x3 : Int) (x4 : Int) (x5 : Str) : Prop :=
 cnd ((y2.Kind.tmod (10 : Int)) == (2 : Int)) (yb7 Xr a0 a1 a2 r0 r1 x3 x4 x5 y2 true) (yb7 Xr a0 a1 a2 r0 r1 x3 x4 x5 y2 (decide ((250 : Int) <= y2.Kind)))
def yaL (Xr : (List yah) → Int → Int → yab → Int → Prop) (a0 : (List yah)) (a1 : Int) (a2 : Int) (r0 : yab) (r1 : Int) (y2 : yah) (x21 : Bool) : Prop :=
 cnd x21 (cnd ((IntKind.i64.wrap (y2.Value.tmod (5 : Int))) == (1 : Int)) (yaB Xr a0 a1 a2 r0 r1 y2 (IntKind.i64.wrap (y2.Value.tmod (5 : Int))) (bits .and .i64 y2.N (1 : Int)) ([] : Str)) (cnd ((IntKind.i64.wrap (y2.Value.tmod (5 : Int))) == (2 : Int)) (yaB Xr a0 a1 a2 r0 r1 y2 (IntKind.i64.wrap (y2.Value.tmod (5 : Int))) y2.N ([] : Str)) (cnd ((IntKind.i64.wrap (y2.Value.tmod (5 : Int))) == (3 : Int)) ((0 <= (0 : Int) /\ (0 : Int) <= (if (70 : Int) < (y2.Name.length : Int) then (70 : Int) else (y2.Name.length : Int)) /\ (if (70 : Int) < (y2.Name.length : Int) then (70 : Int) else (y2.Name.length : Int)) <= (y2.Name.length : Int)) /\ yaB Xr a0 a1 a2 r0 r1 y2 (IntKind.i64.wrap (y2.Value.tmod (5 : Int))) (0 : Int) ((y2.Name.drop (0 : Int).toNat).take ((if (70 : Int) < (y2.Name.length : Int) then (70 : Int) else (y2.Name.length : Int)).toNat - (0 : Int).toNat))) (yaB Xr a0 a1 a2 r0 r1 y2 (IntKind.i64.wrap (y2.Value.tmod (5 : Int))) (0 : Int) ([] : Str))))) (yaB Xr a0 a1 a2 r0 r1 y2 (0 : Int) (0 : Int) ([] : Str))
def ybx (Xr : (List yah) → Int → Int → yab → Int → Prop) (a0 : (List yah)) (a1 : Int) (a2 : Int) (r0 : yab) (r1 : Int) (x1 : Bool) : Prop :=
 cnd x1 ((yab.mk (1 : Int) (0 : Int) (⟨(0 : Int), (0 : Int), ([] : Str)⟩ : yaa) ([] : Str) ([] : Str) ([] : List yab)) = r0 /\ (IntKind.i64.wrap (a1 + (1 : Int))) = r1) ((0 <= a1) /\ (a1 < (a0.length : Int)) /\ ∃ y2 : yah, (a0[a1.toNat]? = some y2) /\ cnd ((y2.Kind.tmod (10 : Int)) == (1 : Int)) (yaL Xr a0 a1 a2 r0 r1 y2 true) (yaL Xr a0 a1 a2 r0 r1 y2 (decide ((250 : Int) <= y2.Kind))))
def yhL (Xr : (List yah) → Int → Int → yab → Int → Prop) (a0 : (List yah)) (a1 : Int) (a2 : Int) (r0 : yab) (r1 : Int) : Prop :=
 (a0.length <= maxLen -> cnd (decide ((a0.length : Int) <= a1)) (ybx Xr a0 a1 a2 r0 r1 true) (ybx Xr a0 a1 a2 r0 r1 (decide ((24 : Int) < a2))))
theorem yky (Xr : (List yah) → Int → Int → yab → Int → Prop) (a0 : (List yah)) (a2 : Int) (r0 : yab) (r1 : Int) (x3 : Int) (x4 : Int) (x5 : Str) (x9 : Int) (x10 : Str) (x11 : Str) (x12 : Int) (y2 : yah) {X6 : Int → Int → (List yab) → Prop} {x13 : Int} {x14 : Int} {x15 : (List yab)} (h : ydv Xr a0 a2 r0 r1 x3 x4 x5 x9 x10 x11 x12 y2 X6 x13 x14 x15) : yfl x12 Xr a0 a2 y2 x9 x3 x4 x5 x10 x11 r0 r1 X6 x13 x14 x15 := by
 unfold yfl
 unfold ydv at h
 exact h
theorem ykg (Xr : (List yah) → Int → Int → yab → Int → Prop) (a0 : (List yah)) (a1 : Int) (a2 : Int) (r0 : yab) (r1 : Int) (x3 : Int) (x4 : Int) (x5 : Str) (x9 : Int) (x10 : Str) (x11 : Str) (y2 : yah) {x12 : Int} (h : yb9 Xr a0 a1 a2 r0 r1 x3 x4 x5 x9 x10 x11 y2 x12) : yeY Xr a0 a2 y2 x9 x3 x4 x5 x10 x11 r0 r1 a1 x12 := by
 unfold yeY
 unfold yb9 at h
 intro X6 k
 exact h X6 (fun x13 x14 x15 q => k x13 x14 x15 (yky Xr a0 a2 r0 r1 x3 x4 x5 x9 x10 x11 x12 y2 q))
theorem yj8 (Xr : (List yah) → Int → Int → yab → Int → Prop) (a0 : (List yah)) (a1 : Int) (a2 : Int) (r0 : yab) (r1 : Int) (x3 : Int) (x4 : Int) (x5 : Str) (y2 : yah) {x8 : Int} {x9 : Int} {x10 : Str} {x11 : Str} (h : yaC Xr a0 a1 a2 r0 r1 x3 x4 x5 y2 x8 x9 x10 x11) : yfk Xr a0 a2 y2 x3 x4 x5 r0 r1 a1 x8 x9 x10 x11 := by
 unfold yfk
 unfold yaC at h
 intro J5 kJ5
 have hJ5 : ∀ (x12 : Int), yb9 Xr a0 a1 a2 r0 r1 x3 x4 x5 x9 x10 x11 y2 x12 -> J5 x12 := fun x12 q => kJ5 x12 (ykg Xr a0 a1 a2 r0 r1 x3 x4 x5 x9 x10 x11 y2 q)
 refine yag h (fun h => ?_) (fun h => ?_)
 ·exact hJ5 _ h
 ·exact hJ5 _ h
theorem yjY (J4 : Int → Int → Str → Str → Prop) (Xr : (List yah) → Int → Int → yab → Int → Prop) (a0 : (List yah)) (a1 : Int) (a2 : Int) (r0 : yab) (r1 : Int) (x3 : Int) (x4 : Int) (x5 : Str) (x6 : Str) (x7 : Str) (y2 : yah) (hJ4 : ∀ (x8 : Int) (x9 : Int) (x10 : Str) (x11 : Str), yaC Xr a0 a1 a2 r0 r1 x3 x4 x5 y2 x8 x9 x10 x11 → J4 x8 x9 x10 x11) {x19 : Bool} (h : yck Xr a0 a1 a2 r0 r1 x3 x4 x5 x6 x7 y2 x19) : yfm J4 x6 x7 y2 x19 := by
 unfold yfm
 unfold yck at h
 refine yag h (fun h => ?_) (fun h => ?_)
 ·exact hJ4 _ _ _ _ h
 ·exact hJ4 _ _ _ _ h
theorem yj1 (J4 : Int → Int → Str → Str → Prop) (Xr : (List yah) → Int → Int → yab → Int → Prop) (a0 : (List yah)) (a1 : Int) (a2 : Int) (r0 : yab) (r1 : Int) (x3 : Int) (x4 : Int) (x5 : Str) (x6 : Str) (x7 : Str) (y2 : yah) (hJ4 : ∀ (x8 : Int) (x9 : Int) (x10 : Str) (x11 : Str), yaC Xr a0 a1 a2 r0 r1 x3 x4 x5 y2 x8 x9 x10 x11 → J4 x8 x9 x10 x11) {x18 : Bool} (h : ybg Xr a0 a1 a2 r0 r1 x3 x4 x5 x6 x7 y2 x18) : yeX J4 x6 x7 y2 x18 := by
 unfold yeX
 unfold ybg at h
 refine yag h (fun h => ?_) (fun h => ?_)
 ·exact hJ4 _ _ _ _ h
 ·refine yag h (fun h => ?_) (fun h => ?_)
  ·exact hJ4 _ _ _ _ h
  ·intro J8 kJ8
   have hJ8 : ∀ (x19 : Bool), yck Xr a0 a1 a2 r0 r1 x3 x4 x5 x6 x7 y2 x19 -> J8 x19 := fun x19 q => kJ8 x19 (yjY J4 Xr a0 a1 a2 r0 r1 x3 x4 x5 x6 x7 y2 hJ4 q)
   refine yag h (fun h => ?_) (fun h => ?_)
   ·exact hJ8 _ h
   ·exact hJ8 _ h
theorem ykb (Xr : (List yah) → Int → Int → yab → Int → Prop) (a0 : (List yah)) (a1 : Int) (a2 : Int) (r0 : yab) (r1 : Int) (x3 : Int) (x4 : Int) (x5 : Str) (y2 : yah) {x6 : Str} {x7 : Str} (h : ya1 Xr a0 a1 a2 r0 r1 x3 x4 x5 y2 x6 x7) : ye7 Xr a0 a2 y2 x3 x4 x5 r0 r1 a1 x6 x7 := by
 unfold ye7
 unfold ya1 at h
 intro J4 kJ4
 have hJ4 : ∀ (x8 : Int) (x9 : Int) (x10 : Str) (x11 : Str), yaC Xr a0 a1 a2 r0 r1 x3 x4 x5 y2 x8 x9 x10 x11 -> J4 x8 x9 x10 x11 := fun x8 x9 x10 x11 q => kJ4 x8 x9 x10 x11 (yj8 Xr a0 a1 a2 r0 r1 x3 x4 x5 y2 q)
 refine yag h (fun h => ?_) (fun h => ?_)
 ·exact hJ4 _ _ _ _ h
 ·intro J7 kJ7
  have hJ7 : ∀ (x18 : Bool), ybg Xr a0 a1 a2 r0 r1 x3 x4 x5 x6 x7 y2 x18 -> J7 x18 := fun x18 q => kJ7 x18 (yj1 J4 Xr a0 a1 a2 r0 r1 x3 x4 x5 x6 x7 y2 hJ4 q)
  refine yag h (fun h => ?_) (fun h => ?_)
  ·exact hJ7 _ h
  ·refine yag h (fun h => ?_) (fun h => ?_)
   ·exact hJ7 _ h
   ·refine yag h (fun h => ?_) (fun h => ?_)
    ·exact hJ7 _ h
    ·exact hJ7 _ h
theorem ykh (J3 : Str → Str → Prop) (Xr : (List yah) → Int → Int → yab → Int → Prop) (a0 : (List yah)) (a1 : Int) (a2 : Int) (r0 : yab) (r1 : Int) (x3 : Int) (x4 : Int) (x5 : Str) (y2 : yah) (hJ3 : ∀ (x6 : Str) (x7 : Str), ya1 Xr a0 a1 a2 r0 r1 x3 x4 x5 y2 x6 x7 → J3 x6 x7) {x20 : Bool} (h : yb7 Xr a0 a1 a2 r0 r1 x3 x4 x5 y2 x20) : yeV y2 J3 x20 := by
 unfold yeV
 unfold yb7 at h
 refine yag h (fun h => ?_) (fun h => ?_)
 ·obtain ⟨h0, h⟩ := h
  refine ⟨h0, ?_⟩
  obtain ⟨h0, h⟩ := h
  refine ⟨h0, ?_⟩
  exact hJ3 _ _ h
 ·exact hJ3 _ _ h
theorem yj0 (Xr : (List yah) → Int → Int → yab → Int → Prop) (a0 : (List yah)) (a1 : Int) (a2 : Int) (r0 : yab) (r1 : Int) (y2 : yah) {x3 : Int} {x4 : Int} {x5 : Str} (h : yaB Xr a0 a1 a2 r0 r1 y2 x3 x4 x5) : yeU Xr a0 a2 y2 r0 r1 a1 x3 x4 x5 := by
 unfold yeU
 unfold yaB at h
 intro J3 kJ3
 have hJ3 : ∀ (x6 : Str) (x7 : Str), ya1 Xr a0 a1 a2 r0 r1 x3 x4 x5 y2 x6 x7 -> J3 x6 x7 := fun x6 x7 q => kJ3 x6 x7 (ykb Xr a0 a1 a2 r0 r1 x3 x4 x5 y2 q)
 intro J9 kJ9
 have hJ9 : ∀ (x20 : Bool), yb7 Xr a0 a1 a2 r0 r1 x3 x4 x5 y2 x20 -> J9 x20 := fun x20 q => kJ9 x20 (ykh J3 Xr a0 a1 a2 r0 r1 x3 x4 x5 y2 hJ3 q)
 refine yag h (fun h => ?_) (fun h => ?_)
 ·exact hJ9 _ h
 ·exact hJ9 _ h
theorem yjA (J2 : Int → Int → Str → Prop) (Xr : (List yah) → Int → Int → yab → Int → Prop) (a0 : (List yah)) (a1 : Int) (a2 : Int) (r0 : yab) (r1 : Int) (y2 : yah) (hJ2 : ∀ (x3 : Int) (x4 : Int) (x5 : Str), yaB Xr a0 a1 a2 r0 r1 y2 x3 x4 x5 → J2 x3 x4 x5) {x21 : Bool} (h : yaL Xr a0 a1 a2 r0 r1 y2 x21) : yeB y2 J2 x21 := by
 unfold yeB
 unfold yaL at h
 refine yag h (fun h => ?_) (fun h => ?_)
 ·refine yag h (fun h => ?_) (fun h => ?_)
  ·exact hJ2 _ _ _ h
  ·refine yag h (fun h => ?_) (fun h => ?_)
   ·exact hJ2 _ _ _ h
   ·refine yag h (fun h => ?_) (fun h => ?_)
    ·obtain ⟨h0, h⟩ := h
     refine ⟨h0, ?_⟩
     exact hJ2 _ _ _ h
    ·exact hJ2 _ _ _ h
 ·exact hJ2 _ _ _ h
theorem ykv (Xr : (List yah) → Int → Int → yab → Int → Prop) (a0 : (List yah)) (a1 : Int) (a2 : Int) (r0 : yab) (r1 : Int) {x1 : Bool} (h : ybx Xr a0 a1 a2 r0 r1 x1) : yfe r0 a1 r1 a0 Xr a2 x1 := by
 unfold yfe
 unfold ybx at h
 refine yag h (fun h => ?_) (fun h => ?_)
 ·exact h
 ·obtain ⟨h0, h⟩ := h
  refine ⟨h0, ?_⟩
  obtain ⟨h0, h⟩ := h
  refine ⟨h0, ?_⟩
  obtain ⟨y2, h⟩ := h
  refine ⟨y2, ?_⟩
  obtain ⟨h0, h⟩ := h
  refine ⟨h0, ?_⟩
  intro J2 kJ2
  have hJ2 : ∀ (x3 : Int) (x4 : Int) (x5 : Str), yaB Xr a0 a1 a2 r0 r1 y2 x3 x4 x5 -> J2 x3 x4 x5 := fun x3 x4 x5 q => kJ2 x3 x4 x5 (yj0 Xr a0 a1 a2 r0 r1 y2 q)
  intro J10 kJ10
  have hJ10 : ∀ (x21 : Bool), yaL Xr a0 a1 a2 r0 r1 y2 x21 -> J10 x21 := fun x21 q => kJ10 x21 (yjA J2 Xr a0 a1 a2 r0 r1 y2 hJ2 q)
  refine yag h (fun h => ?_) (fun h => ?_)
  ·exact hJ10 _ h
  ·exact hJ10 _ h
theorem yhu (Xr : (List yah) → Int → Int → yab → Int → Prop) (a0 : (List yah)) (a1 : Int) (a2 : Int) (r0 : yab) (r1 : Int) (h : yhL Xr a0 a1 a2 r0 r1) : ycW Xr a0 a1 a2 r0 r1 := by
 unfold ycW
 unfold yhL at h
 intro J1 kJ1
 have hJ1 : ∀ (x1 : Bool), ybx Xr a0 a1 a2 r0 r1 x1 -> J1 x1 := fun x1 q => kJ1 x1 (ykv Xr a0 a1 a2 r0 r1 q)
 intro c
 replace h := h c
 refine yag h (fun h => ?_) (fun h => ?_)
 ·exact hJ1 _ h
 ·exact hJ1 _ h
def yhA : Sp KK := ⟨5, [.v 22, .v 3, .v 3], [29, 3], appW (K := KK) [29, 3] [.v 22, .v 3, .v 3] ydz⟩
def ymR : An KK := (.s .o (.s (.j ⟨[(0, .kp 12), (1, .kp 13), (2, .kp 14), (6, .px 6 0), (21, .bl)], [(6, 29, [.kp 15, .kp 16, .kp 17, .kp 18, .kp 19, .kp 20, .kp 21, .kp 22])], []⟩ .o (fun _ => (.c (.s .o .o) .o))) (.s .o (.s .o (.s .o (.j ⟨[(0, .kp 12), (2, .kp 14), (6, .px 6 0), (8, .px 8 0), (9, .px 9 0), (10, .kp 23)], [(6, 29, [.kp 15, .kp 16, .kp 17, .kp 18, .kp 19, .kp 20, .kp 21, .kp 22]), (8, 62, [.kp 24, .kp 25, .kp 26, .kp 27, .kp 28, .kp 29, .kp 30]), (9, 29, [.kp 31, .kp 32, .it .i64, .it .i64, .st, .kp 36, .kp 37, .kp 38])], []⟩ (.j ⟨[(0, .kp 12), (2, .kp 14), (6, .px 6 0), (8, .px 8 0), (9, .px 9 0), (10, .kp 23), (44, .bl)], [(6, 29, [.kp 15, .kp 16, .kp 17, .kp 18, .kp 19, .kp 20, .kp 21, .kp 22]), (8, 62, [.kp 24, .kp 25, .kp 26, .kp 27, .kp 28, .kp 29, .kp 30]), (9, 29, [.kp 31, .kp 32, .kp 64, .kp 65, .kp 66, .kp 36, .kp 37, .kp 38])], []⟩ .o (fun _ => (.c (.s .o (.s .o (.b (.s .o (.c .o (.s .o (.c .o (.s .o (.c .o .o))))))))) .o))) (fun _ => (.j ⟨[(0, .kp 12), (2, .kp 14), (6, .px 6 0), (8, .px 8 0), (9, .px 9 0), (10, .kp 23)], [(6, 29, [.kp 15, .kp 16, .kp 17, .kp 18, .kp 19, .kp 20, .kp 21, .kp 22]), (8, 62, [.kp 24, .kp 25, .kp 26, .kp 27, .kp 28, .kp 29, .kp 30]), (9, 29, [.kp 31, .kp 32, .kp 42, .kp 43, .kp 44, .st, .st, .kp 38])], []⟩ (.j ⟨[(0, .kp 12), (2, .kp 14), (6, .px 6 0), (8, .px 8 0), (9, .px 9 0), (10, .kp 23), (86, .bl)], [(6, 29, [.kp 15, .kp 16, .kp 17, .kp 18, .kp 19, .kp 20, .kp 21, .kp 22]), (8, 62, [.kp 24, .kp 25, .kp 26, .kp 27, .kp 28, .kp 29, .kp 30]), (9, 29, [.kp 31, .kp 32, .kp 42, .kp 43, .kp 44, .kp 36, .kp 37, .kp 38])], []⟩ .o (fun _ => (.c .o .o))) (fun _ => (.s .o (.j ⟨[(0, .kp 12), (2, .kp 14), (6, .px 6 0), (8, .px 8 0), (9, .px 9 0), (10, .kp 23), (11, .it .i64)], [(6, 29, [.kp 15, .kp 16, .kp 17, .kp 18, .kp 19, .kp 20, .kp 21, .kp 22]), (8, 62, [.kp 24, .kp 25, .kp 26, .kp 27, .kp 28, .kp 29, .kp 30]), (9, 29, [.kp 31, .it .i64, .kp 42, .kp 43, .kp 44, .st, .st, .kp 38])], []⟩ (.s .o (.b (.s .o (.c .o (.j ⟨[(0, .kp 12), (2, .kp 14), (6, .px 6 0), (8, .px 8 0), (9, .px 9 0), (10, .kp 23), (11, .kp 60), (109, .kp 61), (117, .bl)], [(6, 29, [.kp 15, .kp 16, .kp 17, .kp 18, .kp 19, .kp 20, .kp 21, .kp 22]), (8, 62, [.kp 24, .kp 25, .kp 26, .kp 27, .kp 28, .kp 29, .kp 30]), (9, 29, [.kp 31, .kp 32, .kp 42, .kp 43, .kp 44, .kp 62, .kp 63, .kp 38])], []⟩ (.s .o (.c .o (.s .o (.c .o (.s .o (.c .o .o)))))) (fun _ => (.c .o (.s .o (.c (.s .o .o) (.j ⟨[(0, .kp 12), (2, .kp 14), (6, .px 6 0), (8, .px 8 0), (9, .px 9 0), (10, .kp 23), (11, .kp 60), (133, .bl)], [(6, 29, [.kp 15, .kp 16, .kp 17, .kp 18, .kp 19, .kp 20, .kp 21, .kp 22]), (8, 62, [.kp 24, .kp 25, .kp 26, .kp 27, .kp 28, .kp 29, .kp 30]), (9, 29, [.kp 31, .kp 32, .kp 42, .kp 43, .kp 44, .kp 62, .kp 63, .kp 38])], []⟩ (.s .o (.c .o .o)) (fun _ => (.c .o .o)))))))))))) (fun _ => (.j ⟨[(0, .kp 12), (2, .kp 14), (6, .px 6 0), (9, .px 9 0), (10, .kp 23), (11, .it .i64)], [(6, 29, [.kp 15, .kp 16, .kp 17, .kp 18, .kp 19, .kp 20, .kp 21, .kp 22]), (9, 29, [.kp 31, .kp 53, .kp 42, .kp 43, .kp 44, .kp 54, .kp 55, .kp 38])], []⟩ (.s .o (.c .o .o)) (fun _ => (.s (.s .o (.b (.l ⟨[(0, .kp 12), (2, .kp 14), (6, .px 6 0), (9, .px 9 0), (10, .it .i64), (11, .kp 58), (12, .it .i64)], [(6, 29, [.kp 15, .kp 16, .kp 17, .kp 18, .kp 19, .kp 20, .kp 21, .kp 22]), (9, 29, [.kp 31, .kp 53, .kp 42, .kp 43, .kp 44, .kp 54, .kp 55, .row 160])], [(160, 29)]⟩ (fun _ => (.s (.s .o (.c .o .o)) (.s (.b (.s .o (.s .o .o))) .o)))))) (.s .o .o))))))))))))))))
def ymr (Xr : WTy KK [29, 3] [.v 22, .v 3, .v 3]) : Cf KK := ⟨CC, [⟨5, [.v 22, .v 3, .v 3], [29, 3], appW (K := KK) [29, 3] [.v 22, .v 3, .v 3] Xr⟩], 164⟩
set_option maxRecDepth 100000 in
theorem ykU (Xr : (List yah) → Int → Int → yab → Int → Prop) (hX : ∀ (a0 : (List yah)) (a1 : Int) (a2 : Int) (r0 : yab) (r1 : Int), Xr a0 a1 a2 r0 r1 → Pure Try.prog 5 (ya7 CC [.v 22, .v 3, .v 3] ([.d (.v 22 a0), .d (.v 3 a1), .d (.v 3 a2)] : List (AD KK))) (ybX (([.v 29 r0, .v 3 r1] : List (DV KK)).map (dvA CC)))) : ∀ (a0 : (List yah)) (a1 : Int) (a2 : Int) (r0 : yab) (r1 : Int), ycW Xr a0 a1 a2 r0 r1 → Pure Try.prog 5 (ya7 CC [.v 22, .v 3, .v 3] ([.d (.v 22 a0), .d (.v 3 a1), .d (.v 3 a2)] : List (AD KK))) (ybX (([.v 29 r0, .v 3 r1] : List (DV KK)).map (dvA CC))) := by
 intro a0 a1 a2 r0 r1 h
 refine yaE (F := ymr Xr) ybe (yas ?_ yaF) t5 (A := ymR) (ps := [.v 22, .v 3, .v 3]) (rs := [29, 3]) (env := [.d (.v 22 a0), .d (.v 3 a1), .d (.v 3 a2)]) (r := [.v 29 r0, .v 3 r1]) (X := ycW Xr a0 a1 a2 r0 r1) (by kernel_rfl) (Nat.le_of_ble_eq_true (by kernel_rfl)) rfl (fun G hG => by simp at hG) h ?_
 ·clear h r0 r1
  intro env r hF h
  obtain ⟨a0, env0, rfl, h1⟩ := yam h
  obtain ⟨a1, env1, rfl, h2⟩ := yam h1
  obtain ⟨a2, env2, rfl, h3⟩ := yam h2
  obtain ⟨rfl, h4⟩ := yaw h3
  obtain ⟨r0, rr0, rfl, h5⟩ := yaz h4
  obtain ⟨r1, rr1, rfl, h6⟩ := yaz h5
  obtain ⟨rfl, h7⟩ := yaR h6
  exact ⟨rfl, hX a0 a1 a2 r0 r1 h7⟩
 ·kernel_rfl
set_option maxRecDepth 100000 in
theorem ymm : SpOk Try.prog CC yhA := by
 intro env r hF h
 obtain ⟨a0, env0, rfl, h1⟩ := yam h
 obtain ⟨a1, env1, rfl, h2⟩ := yam h1
 obtain ⟨a2, env2, rfl, h3⟩ := yam h2
 obtain ⟨rfl, h4⟩ := yaw h3
 obtain ⟨r0, rr0, rfl, h5⟩ := yaz h4
 obtain ⟨r1, rr1, rfl, h6⟩ := yaz h5
 obtain ⟨rfl, h7⟩ := yaR h6
 exact ⟨rfl, h7 (fun a0 a1 a2 r0 r1 =>  Pure Try.prog 5 (ya7 CC [.v 22, .v 3, .v 3] ([.d (.v 22 a0), .d (.v 3 a1), .d (.v 3 a2)] : List (AD KK))) (ybX (([.v 29 r0, .v 3 r1] : List (DV KK)).map (dvA CC)))) (fun a0 a1 a2 r0 r1 h => ykU _ (fun a0 a1 a2 r0 r1 h => h) a0 a1 a2 r0 r1 h)⟩
def ye3 (a0 : yab) (Xr : yab → Int → Prop) (r0 : Int) (X1 : Int → Int → Prop) (x1 : Int) (x2 : Int) : Prop :=
 (a0.L.length <= maxLen -> cnd (decide (x2 < (a0.L.length : Int))) ((0 <= x2) /\ (x2 < (a0.L.length : Int)) /\ ∃ y3 : yab, (a0.L[x2.toNat]? = some y3) /\ ∃ z4 : Int, (Xr (yab.mk y3.Kind y3.Op (⟨y3.V.Kind, y3.V.N, y3.V.S⟩ : yaa) y3.Table y3.Name y3.L) z4) /\ cnd (decide (x1 <= z4)) (X1 (IntKind.i64.wrap (z4 + (1 : Int))) (IntKind.i64.wrap (x2 + (1 : Int)))) (X1 x1 (IntKind.i64.wrap (x2 + (1 : Int))))) (x1 = r0))
def ydA (Xr : yab → Int → Prop) (a0 : yab) (r0 : Int) : Prop :=
 ∀ X1 : Int -> Int -> Prop, (∀ (x1 : Int) (x2 : Int), ye3 a0 Xr r0 X1 x1 x2 -> X1 x1 x2) -> X1 (1 : Int) (0 : Int)
def yfN (a0 : yab) (r0 : Int) : Prop := ∀ Xr : yab -> Int -> Prop, (∀ (a0 : yab) (r0 : Int), ydA Xr a0 r0 -> Xr a0 r0) -> Xr a0 r0
def yej (Xr : yab → Int → Prop) (a0 : yab) (r0 : Int) (X1 : Int → Int → Prop) (x1 : Int) (x2 : Int) : Prop :=
 (a0.L.length <= maxLen -> cnd (decide (x2 < (a0.L.length : Int))) ((0 <= x2) /\ (x2 < (a0.L.length : Int)) /\ ∃ y3 : yab, (a0.L[x2.toNat]? = some y3) /\ ∃ z4 : Int, (Xr (yab.mk y3.Kind y3.Op (⟨y3.V.Kind, y3.V.N, y3.V.S⟩ : yaa) y3.Table y3.Name y3.L) z4) /\ cnd (decide (x1 <= z4)) (X1 (IntKind.i64.wrap (z4 + (1 : Int))) (IntKind.i64.wrap (x2 + (1 : Int)))) (X1 x1 (IntKind.i64.wrap (x2 + (1 : Int))))) (x1 = r0))
def yhJ (Xr : yab → Int → Prop) (a0 : yab) (r0 : Int) : Prop :=
 ∀ X1 : Int -> Int -> Prop, (∀ (x1 : Int) (x2 : Int), yej Xr a0 r0 X1 x1 x2 -> X1 x1 x2) -> X1 (1 : Int) (0 : Int)
theorem yjZ (Xr : yab → Int → Prop) (a0 : yab) (r0 : Int) {X1 : Int → Int → Prop} {x1 : Int} {x2 : Int} (h : yej Xr a0 r0 X1 x1 x2) : ye3 a0 Xr r0 X1 x1 x2 := by
 unfold ye3
 unfold yej at h
 exact h
theorem yl2 (Xr : yab → Int → Prop) (a0 : yab) (r0 : Int) (h : yhJ Xr a0 r0) : ydA Xr a0 r0 := by
 unfold ydA
 unfold yhJ at h
 intro X1 k
 exact h X1 (fun x1 x2 q => k x1 x2 (yjZ Xr a0 r0 q))
def yhC : Sp KK := ⟨19, [.v 29], [3], appW (K := KK) [3] [.v 29] yfN⟩
def yme : An KK := (.s .o (.s .o (.s (.s .o (.b (.l ⟨[(1, .px 1 0), (3, .it .i64), (4, .it .i64)], [(1, 29, [.kp 13, .kp 14, .kp 15, .kp 16, .kp 17, .kp 18, .kp 19, .kp 20])], []⟩ (fun _ => (.s (.s .o (.c .o .o)) (.s (.b (.s .o (.s .o (.c .o .o)))) .o)))))) (.s .o .o))))
def ymt (Xr : WTy KK [3] [.v 29]) : Cf KK := ⟨CC, [⟨19, [.v 29], [3], appW (K := KK) [3] [.v 29] Xr⟩], 25⟩
set_option maxRecDepth 100000 in
theorem ylB (Xr : yab → Int → Prop) (hX : ∀ (a0 : yab) (r0 : Int), Xr a0 r0 → Pure Try.prog 19 (ya7 CC [.v 29] ([.d (.v 29 a0)] : List (AD KK))) (ybX (([.v 3 r0] : List (DV KK)).map (dvA CC)))) : ∀ (a0 : yab) (r0 : Int), ydA Xr a0 r0 → Pure Try.prog 19 (ya7 CC [.v 29] ([.d (.v 29 a0)] : List (AD KK))) (ybX (([.v 3 r0] : List (DV KK)).map (dvA CC))) := by
 intro a0 r0 h
 refine yaE (F := ymt Xr) ybe (yas ?_ yaF) t19 (A := yme) (ps := [.v 29]) (rs := [3]) (env := [.d (.v 29 a0)]) (r := [.v 3 r0]) (X := ydA Xr a0 r0) (by kernel_rfl) (Nat.le_of_ble_eq_true (by kernel_rfl)) rfl (fun G hG => by simp at hG) h ?_
 ·clear h r0
  intro env r hF h
  obtain ⟨a0, env0, rfl, h1⟩ := yam h
  obtain ⟨rfl, h2⟩ := yaw h1
  obtain ⟨r0, rr0, rfl, h3⟩ := yaz h2
  obtain ⟨rfl, h4⟩ := yaR h3
  exact ⟨rfl, hX a0 r0 h4⟩
 ·kernel_rfl
set_option maxRecDepth 100000 in
theorem ymj : SpOk Try.prog CC yhC := by
 intro env r hF h
 obtain ⟨a0, env0, rfl, h1⟩ := yam h
 obtain ⟨rfl, h2⟩ := yaw h1
 obtain ⟨r0, rr0, rfl, h3⟩ := yaz h2
 obtain ⟨rfl, h4⟩ := yaR h3
 exact ⟨rfl, h4 (fun a0 r0 =>  Pure Try.prog 19 (ya7 CC [.v 29] ([.d (.v 29 a0)] : List (AD KK))) (ybX (([.v 3 r0] : List (DV KK)).map (dvA CC)))) (fun a0 r0 h => ylB _ (fun a0 r0 h => h) a0 r0 h)⟩
def ycQ (a0 : yaa) (r0 : Bool) : Prop :=
 cnd (a0.Kind == (0 : Int)) (cnd (a0.N == (0 : Int)) ((a0.S == ([] : Str)) = r0) (false = r0)) (cnd (a0.Kind == (1 : Int)) (cnd (a0.N == (0 : Int)) ((a0.S == ([] : Str)) = r0) (cnd (a0.N == (1 : Int)) ((a0.S == ([] : Str)) = r0) (false = r0))) (cnd (a0.Kind == (2 : Int)) ((a0.S == ([] : Str)) = r0) (cnd (a0.Kind == (3 : Int)) (cnd (a0.N == (0 : Int)) ((decide ((a0.S.length : Int) <= (64 : Int))) = r0) (false = r0)) (false = r0))))
def yjb : Sp KK := ⟨32, [.v 26], [4], appW (K := KK) [4] [.v 26] ycQ⟩
def yn5 : An KK := (.s .o (.s (.s .o (.c (.s .o .o) .o)) (.s (.s .o (.c (.s .o .o) .o)) (.s (.s .o (.c (.s .o .o) .o)) (.s .o .o)))))
def ynW : Cf KK := ⟨CC, [], 50⟩
set_option maxRecDepth 100000 in
theorem ynK : SpOk Try.prog CC yjb := by
 intro env r hF h
 obtain ⟨a0, env0, rfl, h1⟩ := yam h
 obtain ⟨rfl, h2⟩ := yaw h1
 obtain ⟨r0, rr0, rfl, h3⟩ := yaz h2
 obtain ⟨rfl, h4⟩ := yaR h3
 refine ⟨rfl, yaE (F := ynW) ybe yaF t32 (A := yn5) (ps := [.v 26]) (rs := [4]) (env := [.d (.v 26 a0)]) (r := [.v 4 r0]) (X := ycQ a0 r0) (by kernel_rfl) (Nat.le_of_ble_eq_true (by kernel_rfl)) rfl hF h4 ?_⟩
 kernel_rfl
def ye0 (r0 : Int) (x4 : Bool) : Prop :=
 cnd x4 ((6 : Int) = r0) ((0 : Int) = r0)
def yfi (r0 : Int) (a0 : Int) (x3 : Bool) : Prop :=
 cnd x3 ((3 : Int) = r0) (cnd (a0 == (95 : Int)) ((4 : Int) = r0) (cnd (a0 == (39 : Int)) ((5 : Int) = r0) (∀ J4 : Bool -> Prop, (∀ (x4 : Bool), ye0 r0 x4 -> J4 x4) -> cnd (a0 == (32 : Int)) (J4 true) (J4 (a0 == (10 : Int))))))
def ye5 (r0 : Int) (a0 : Int) (x2 : Bool) : Prop :=
 cnd x2 ((2 : Int) = r0) (∀ J3 : Bool -> Prop, (∀ (x3 : Bool), yfi r0 a0 x3 -> J3 x3) -> cnd (decide ((48 : Int) <= a0)) (J3 (decide (a0 <= (57 : Int)))) (J3 false))
def yfc (r0 : Int) (a0 : Int) (x1 : Bool) : Prop :=
 cnd x1 ((1 : Int) = r0) (∀ J2 : Bool -> Prop, (∀ (x2 : Bool), ye5 r0 a0 x2 -> J2 x2) -> cnd (decide ((65 : Int) <= a0)) (J2 (decide (a0 <= (90 : Int)))) (J2 false))
def ybr (a0 : Int) (r0 : Int) : Prop :=
 ∀ J1 : Bool -> Prop, (∀ (x1 : Bool), yfc r0 a0 x1 -> J1 x1) -> cnd (decide ((97 : Int) <= a0)) (J1 (decide (a0 <= (122 : Int)))) (J1 false)
def yb5 (r0 : Int) (x4 : Bool) : Prop :=
 cnd x4 ((6 : Int) = r0) ((0 : Int) = r0)
def ycg (a0 : Int) (r0 : Int) (x3 : Bool) : Prop :=
 cnd x3 ((3 : Int) = r0) (cnd (a0 == (95 : Int)) ((4 : Int) = r0) (cnd (a0 == (39 : Int)) ((5 : Int) = r0) (cnd (a0 == (32 : Int)) (yb5 r0 true) (yb5 r0 (a0 == (10 : Int))))))
def yb6 (a0 : Int) (r0 : Int) (x2 : Bool) : Prop :=
 cnd x2 ((2 : Int) = r0) (cnd (decide ((48 : Int) <= a0)) (ycg a0 r0 (decide (a0 <= (57 : Int)))) (ycg a0 r0 false))
def ycc (a0 : Int) (r0 : Int) (x1 : Bool) : Prop :=
 cnd x1 ((1 : Int) = r0) (cnd (decide ((65 : Int) <= a0)) (yb6 a0 r0 (decide (a0 <= (90 : Int)))) (yb6 a0 r0 false))
def yfh (a0 : Int) (r0 : Int) : Prop :=
 cnd (decide ((97 : Int) <= a0)) (ycc a0 r0 (decide (a0 <= (122 : Int)))) (ycc a0 r0 false)
theorem ykd (r0 : Int) {x4 : Bool} (h : yb5 r0 x4) : ye0 r0 x4 := by
 unfold ye0
 unfold yb5 at h
 exact h
theorem ykl (a0 : Int) (r0 : Int) {x3 : Bool} (h : ycg a0 r0 x3) : yfi r0 a0 x3 := by
 unfold yfi
 unfold ycg at h
 refine yag h (fun h => ?_) (fun h => ?_)
 ·exact h
 ·refine yag h (fun h => ?_) (fun h => ?_)
  ·exact h
  ·refine yag h (fun h => ?_) (fun h => ?_)
   ·exact h
   ·intro J4 kJ4
    have hJ4 : ∀ (x4 : Bool), yb5 r0 x4 -> J4 x4 := fun x4 q => kJ4 x4 (ykd r0 q)
    refine yag h (fun h => ?_) (fun h => ?_)
    ·exact hJ4 _ h
    ·exact hJ4 _ h
theorem ykc (a0 : Int) (r0 : Int) {x2 : Bool} (h : yb6 a0 r0 x2) : ye5 r0 a0 x2 := by
 unfold ye5
 unfold yb6 at h
 refine yag h (fun h => ?_) (fun h => ?_)
 ·exact h
 ·intro J3 kJ3
  have hJ3 : ∀ (x3 : Bool), ycg a0 r0 x3 -> J3 x3 := fun x3 q => kJ3 x3 (ykl a0 r0 q)
  refine yag h (fun h => ?_) (fun h => ?_)
  ·exact hJ3 _ h
  ·exact hJ3 _ h
theorem yks (a0 : Int) (r0 : Int) {x1 : Bool} (h : ycc a0 r0 x1) : yfc r0 a0 x1 := by
 unfold yfc
 unfold ycc at h
 refine yag h (fun h => ?_) (fun h => ?_)
 ·exact h
 ·intro J2 kJ2
  have hJ2 : ∀ (x2 : Bool), yb6 a0 r0 x2 -> J2 x2 := fun x2 q => kJ2 x2 (ykc a0 r0 q)
  refine yag h (fun h => ?_) (fun h => ?_)
  ·exact hJ2 _ h
  ·exact hJ2 _ h
theorem yop (a0 : Int) (r0 : Int) (h : yfh a0 r0) : ybr a0 r0 := by
 unfold ybr
 unfold yfh at h
 intro J1 kJ1
 have hJ1 : ∀ (x1 : Bool), ycc a0 r0 x1 -> J1 x1 := fun x1 q => kJ1 x1 (yks a0 r0 q)
 refine yag h (fun h => ?_) (fun h => ?_)
 ·exact hJ1 _ h
 ·exact hJ1 _ h
def yhw : Sp KK := ⟨49, [.v 5], [3], appW (K := KK) [3] [.v 5] ybr⟩
def ymA : An KK := (.s .o (.s (.b (.j ⟨[(0, .kp 2), (3, .bl)], [], []⟩ .o (fun _ => (.c (.s .o .o) (.j ⟨[(0, .kp 2), (10, .bl)], [], []⟩ .o (fun _ => (.c (.s .o .o) (.j ⟨[(0, .kp 2), (17, .bl)], [], []⟩ .o (fun _ => (.c (.s .o .o) (.s .o (.c (.s .o .o) (.s .o (.c (.s .o .o) (.j ⟨[(30, .bl)], [], []⟩ .o (fun _ => (.c (.s .o .o) .o))))))))))))))))) (.s .o .o)))
def ymb : Cf KK := ⟨CC, [], 37⟩
set_option maxRecDepth 100000 in
theorem ymO : SpOk Try.prog CC yhw := by
 intro env r hF h
 obtain ⟨a0, env0, rfl, h1⟩ := yam h
 obtain ⟨rfl, h2⟩ := yaw h1
 obtain ⟨r0, rr0, rfl, h3⟩ := yaz h2
 obtain ⟨rfl, h4⟩ := yaR h3
 refine ⟨rfl, yaE (F := ymb) ybe yaF t49 (A := ymA) (ps := [.v 5]) (rs := [3]) (env := [.d (.v 5 a0)]) (r := [.v 3 r0]) (X := ybr a0 r0) (by kernel_rfl) (Nat.le_of_ble_eq_true (by kernel_rfl)) rfl hF h4 ?_⟩
 kernel_rfl
def yfH (r0 : Bool) (X2 : Int → Prop) (x2 : Int) (x4 : Bool) : Prop :=
 cnd x4 (false = r0) (X2 (IntKind.i64.wrap (x2 + (1 : Int))))
def yf0 (a0 : Str) (r0 : Bool) (X2 : Int → Prop) (x2 : Int) : Prop :=
 cnd (decide (x2 < (a0.length : Int))) ((0 <= x2 /\ x2 < (a0.length : Int)) /\ ∃ z3 : Int, (ybr (bAt a0 x2) z3) /\ ∀ J3 : Bool -> Prop, (∀ (x4 : Bool), yfH r0 X2 x2 x4 -> J3 x4) -> cnd (!(z3 == (1 : Int))) (cnd (!(z3 == (3 : Int))) (J3 (!(z3 == (4 : Int)))) (J3 false)) (J3 false)) (true = r0)
def yfY (r0 : Bool) (a0 : Str) (x1 : Bool) : Prop :=
 cnd x1 (false = r0) (∀ X2 : Int -> Prop, (∀ (x2 : Int), yf0 a0 r0 X2 x2 -> X2 x2) -> X2 (0 : Int))
def ybN (a0 : Str) (r0 : Bool) : Prop :=
 ∀ J1 : Bool -> Prop, (∀ (x1 : Bool), yfY r0 a0 x1 -> J1 x1) -> cnd (decide ((a0.length : Int) < (1 : Int))) (J1 true) (cnd (decide ((16 : Int) < (a0.length : Int))) (J1 true) ((0 <= (0 : Int) /\ (0 : Int) < (a0.length : Int)) /\ ∃ z5 : Int, (ybr (bAt a0 (0 : Int)) z5) /\ J1 (!(z5 == (1 : Int)))))
def ybu (X2 : Int → Prop) (r0 : Bool) (x2 : Int) (x4 : Bool) : Prop :=
 cnd x4 (false = r0) (X2 (IntKind.i64.wrap (x2 + (1 : Int))))
def ydP (a0 : Str) (r0 : Bool) (X2 : Int → Prop) (x2 : Int) : Prop :=
 cnd (decide (x2 < (a0.length : Int))) ((0 <= x2 /\ x2 < (a0.length : Int)) /\ ∃ z3 : Int, (ybr (bAt a0 x2) z3) /\ cnd (!(z3 == (1 : Int))) (cnd (!(z3 == (3 : Int))) (ybu X2 r0 x2 (!(z3 == (4 : Int)))) (ybu X2 r0 x2 false)) (ybu X2 r0 x2 false)) (true = r0)
def ycB (a0 : Str) (r0 : Bool) (x1 : Bool) : Prop :=
 cnd x1 (false = r0) (∀ X2 : Int -> Prop, (∀ (x2 : Int), ydP a0 r0 X2 x2 -> X2 x2) -> X2 (0 : Int))
def yiw (a0 : Str) (r0 : Bool) : Prop :=
 cnd (decide ((a0.length : Int) < (1 : Int))) (ycB a0 r0 true) (cnd (decide ((16 : Int) < (a0.length : Int))) (ycB a0 r0 true) ((0 <= (0 : Int) /\ (0 : Int) < (a0.length : Int)) /\ ∃ z5 : Int, (ybr (bAt a0 (0 : Int)) z5) /\ ycB a0 r0 (!(z5 == (1 : Int)))))
theorem ylq (X2 : Int → Prop) (r0 : Bool) (x2 : Int) {x4 : Bool} (h : ybu X2 r0 x2 x4) : yfH r0 X2 x2 x4 := by
 unfold yfH
 unfold ybu at h
 exact h
theorem ylv (a0 : Str) (r0 : Bool) {X2 : Int → Prop} {x2 : Int} (h : ydP a0 r0 X2 x2) : yf0 a0 r0 X2 x2 := by
 unfold yf0
 unfold ydP at h
 refine yag h (fun h => ?_) (fun h => ?_)
 ·obtain ⟨h0, h⟩ := h
  refine ⟨h0, ?_⟩
  obtain ⟨z3, h⟩ := h
  refine ⟨z3, ?_⟩
  obtain ⟨h0, h⟩ := h
  refine ⟨h0, ?_⟩
  intro J3 kJ3
  have hJ3 : ∀ (x4 : Bool), ybu X2 r0 x2 x4 -> J3 x4 := fun x4 q => kJ3 x4 (ylq X2 r0 x2 q)
  refine yag h (fun h => ?_) (fun h => ?_)
  ·refine yag h (fun h => ?_) (fun h => ?_)
   ·exact hJ3 _ h
   ·exact hJ3 _ h
  ·exact hJ3 _ h
 ·exact h
theorem ylN (a0 : Str) (r0 : Bool) {x1 : Bool} (h : ycB a0 r0 x1) : yfY r0 a0 x1 := by
 unfold yfY
 unfold ycB at h
 refine yag h (fun h => ?_) (fun h => ?_)
 ·exact h
 ·intro X2 k
  exact h X2 (fun x2 q => k x2 (ylv a0 r0 q))
theorem yeN (a0 : Str) (r0 : Bool) (h : yiw a0 r0) : ybN a0 r0 := by
 unfold ybN
 unfold yiw at h
 intro J1 kJ1
 have hJ1 : ∀ (x1 : Bool), ycB a0 r0 x1 -> J1 x1 := fun x1 q => kJ1 x1 (ylN a0 r0 q)
 refine yag h (fun h => ?_) (fun h => ?_)
 ·exact hJ1 _ h
 ·refine yag h (fun h => ?_) (fun h => ?_)
  ·exact hJ1 _ h
  ·obtain ⟨h0, h⟩ := h
   refine ⟨h0, ?_⟩
   obtain ⟨z5, h⟩ := h
   refine ⟨z5, ?_⟩
   obtain ⟨h0, h⟩ := h
   refine ⟨h0, ?_⟩
   exact hJ1 _ h
def yiN : Sp KK := ⟨33, [.v 9], [4], appW (K := KK) [4] [.v 9] ybN⟩
def yoe : An KK := (.s .o (.s (.j ⟨[(0, .kp 2), (18, .bl)], [], []⟩ .o (fun _ => (.c (.s .o .o) .o))) (.s (.s .o (.b (.l ⟨[(0, .kp 2), (3, .it .i64)], [], []⟩ (fun _ => (.s (.s .o (.c .o .o)) (.s (.b (.s .o (.j ⟨[(0, .kp 2), (3, .kp 12), (38, .bl)], [], []⟩ .o (fun _ => (.c (.s .o .o) .o))))) .o)))))) (.s .o .o))))
def ynM : Cf KK := ⟨CC, [yhw], 39⟩
set_option maxRecDepth 100000 in
theorem yn4 : SpOk Try.prog CC yiN := by
 intro env r hF h
 obtain ⟨a0, env0, rfl, h1⟩ := yam h
 obtain ⟨rfl, h2⟩ := yaw h1
 obtain ⟨r0, rr0, rfl, h3⟩ := yaz h2
 obtain ⟨rfl, h4⟩ := yaR h3
 refine ⟨rfl, yaE (F := ynM) ybe (yas ymO yaF) t33 (A := yoe) (ps := [.v 9]) (rs := [4]) (env := [.d (.v 9 a0)]) (r := [.v 4 r0]) (X := ybN a0 r0) (by kernel_rfl) (Nat.le_of_ble_eq_true (by kernel_rfl)) rfl hF h4 ?_⟩
 kernel_rfl
def ygZ (r0 : Bool) (X1 : Int → Prop) (x1 : Int) (x2 : Bool) : Prop :=
 cnd x2 (false = r0) (X1 (IntKind.i64.wrap (x1 + (1 : Int))))
def ygR (r0 : Bool) (x6 : Bool) : Prop :=
 x6 = r0
def ygv (r0 : Bool) (x8 : Bool) : Prop :=
 x8 = r0
def ygH (r0 : Bool) (x13 : Bool) : Prop :=
 x13 = r0
def ygU (a0 : yab) (r0 : Bool) (a1 : Bool) (x12 : Bool) : Prop :=
 cnd x12 ((a0.L.length <= maxLen -> cnd ((a0.L.length : Int) == (1 : Int)) ((a0.Op == (0 : Int)) = r0) (false = r0))) (cnd (a0.Kind == (8 : Int)) (∀ J7 : Bool -> Prop, (∀ (x13 : Bool), ygH r0 x13 -> J7 x13) -> cnd (!a1) (cnd (decide ((1 : Int) <= a0.Op)) (cnd (decide (a0.Op <= (4 : Int))) ((a0.L.length <= maxLen -> cnd ((a0.L.length : Int) == (1 : Int)) (J7 true) ((a0.L.length <= maxLen -> cnd ((a0.L.length : Int) == (0 : Int)) (J7 (a0.Op == (1 : Int))) (J7 false))))) (J7 false)) (J7 false)) (J7 false)) (false = r0))
def ygA (r0 : Bool) (a0 : yab) (a1 : Bool) (x11 : Bool) : Prop :=
 cnd x11 (false = r0) (cnd (a0.Kind == (3 : Int)) ((a0.L.length <= maxLen -> cnd ((a0.L.length : Int) == (2 : Int)) (cnd (decide ((1 : Int) <= a0.Op)) ((decide (a0.Op <= (14 : Int))) = r0) (false = r0)) (false = r0))) (∀ J6 : Bool -> Prop, (∀ (x12 : Bool), ygU a0 r0 a1 x12 -> J6 x12) -> cnd (a0.Kind == (4 : Int)) (J6 (a0.Kind == (4 : Int))) (cnd (a0.Kind == (5 : Int)) (J6 (a0.Kind == (5 : Int))) (cnd (a0.Kind == (6 : Int)) (J6 (a0.Kind == (6 : Int))) (J6 (a0.Kind == (7 : Int)))))))
def ygD (a0 : yab) (r0 : Bool) (a1 : Bool) (Xr : yab → Bool → Bool → Prop) (X1 : Int → Prop) (x1 : Int) : Prop :=
 (a0.L.length <= maxLen -> cnd (decide (x1 < (a0.L.length : Int))) (∀ J2 : Bool -> Prop, (∀ (x2 : Bool), ygZ r0 X1 x1 x2 -> J2 x2) -> (0 <= x1) /\ (x1 < (a0.L.length : Int)) /\ ∃ y3 : yab, (a0.L[x1.toNat]? = some y3) /\ cnd a1 (∃ z4 : Bool, (Xr (yab.mk y3.Kind y3.Op (⟨y3.V.Kind, y3.V.N, y3.V.S⟩ : yaa) y3.Table y3.Name y3.L) true z4) /\ J2 (!z4)) (∃ z5 : Bool, (Xr (yab.mk y3.Kind y3.Op (⟨y3.V.Kind, y3.V.N, y3.V.S⟩ : yaa) y3.Table y3.Name y3.L) (a0.Kind == (8 : Int)) z5) /\ J2 (!z5))) (cnd (a0.Kind == (1 : Int)) (∀ J3 : Bool -> Prop, (∀ (x6 : Bool), ygR r0 x6 -> J3 x6) -> (a0.L.length <= maxLen -> cnd ((a0.L.length : Int) == (0 : Int)) (cnd (a0.Op == (0 : Int)) (cnd (a0.Table == ([] : Str)) (cnd (a0.Name == ([] : Str)) (∃ z7 : Bool, (ycQ (⟨a0.V.Kind, a0.V.N, a0.V.S⟩ : yaa) z7) /\ cnd z7 (cnd (!(a0.V.Kind == (2 : Int))) (J3 true) (J3 (decide ((0 : Int) <= a0.V.N)))) (J3 false)) (J3 false)) (J3 false)) (J3 false)) (J3 false))) (cnd (a0.Kind == (2 : Int)) (∀ J4 : Bool -> Prop, (∀ (x8 : Bool), ygv r0 x8 -> J4 x8) -> (a0.L.length <= maxLen -> cnd ((a0.L.length : Int) == (0 : Int)) (cnd (a0.Op == (0 : Int)) (cnd ((a0.V.Kind == (0 : Int)) && ((a0.V.N == (0 : Int)) && ((a0.V.S == ([] : Str)) && true))) (∃ z9 : Bool, (ybN a0.Name z9) /\ cnd z9 (cnd (a0.Table == ([] : Str)) (J4 true) (∃ z10 : Bool, (ybN a0.Table z10) /\ J4 z10)) (J4 false)) (J4 false)) (J4 false)) (J4 false))) (∀ J5 : Bool -> Prop, (∀ (x11 : Bool), ygA r0 a0 a1 x11 -> J5 x11) -> cnd (!((a0.V.Kind == (0 : Int)) && ((a0.V.N == (0 : Int)) && ((a0.V.S == ([] : Str)) && true)))) (J5 true) (cnd (!(a0.Table == ([] : Str))) (J5 true) (J5 (!(a0.Name == ([] : Str)))))))))
def ydf (Xr : yab → Bool → Bool → Prop) (a0 : yab) (a1 : Bool) (r0 : Bool) : Prop :=
 ∀ X1 : Int -> Prop, (∀ (x1 : Int), ygD a0 r0 a1 Xr X1 x1 -> X1 x1) -> X1 (0 : Int)
def yik (a0 : yab) (a1 : Bool) (r0 : Bool) : Prop := ∀ Xr : yab -> Bool -> Bool -> Prop, (∀ (a0 : yab) (a1 : Bool) (r0 : Bool), ydf Xr a0 a1 r0 -> Xr a0 a1 r0) -> Xr a0 a1 r0
def ydy (X1 : Int → Prop) (r0 : Bool) (x1 : Int) (x2 : Bool) : Prop :=
 cnd x2 (false = r0) (X1 (IntKind.i64.wrap (x1 + (1 : Int))))
def yaX (r0 : Bool) (x6 : Bool) : Prop :=
 x6 = r0
def yba (r0 : Bool) (x8 : Bool) : Prop :=
 x8 = r0
def ybc (r0 : Bool) (x13 : Bool) : Prop :=
 x13 = r0
def ybT (a0 : yab) (a1 : Bool) (r0 : Bool) (x12 : Bool) : Prop :=
 cnd x12 ((a0.L.length <= maxLen -> cnd ((a0.L.length : Int) == (1 : Int)) ((a0.Op == (0 : Int)) = r0) (false = r0))) (cnd (a0.Kind == (8 : Int)) (cnd (!a1) (cnd (decide ((1 : Int) <= a0.Op)) (cnd (decide (a0.Op <= (4 : Int))) ((a0.L.length <= maxLen -> cnd ((a0.L.length : Int) == (1 : Int)) (ybc r0 true) ((a0.L.length <= maxLen -> cnd ((a0.L.length : Int) == (0 : Int)) (ybc r0 (a0.Op == (1 : Int))) (ybc r0 false))))) (ybc r0 false)) (ybc r0 false)) (ybc r0 false)) (false = r0))
def ycu (a0 : yab) (a1 : Bool) (r0 : Bool) (x11 : Bool) : Prop :=
 cnd x11 (false = r0) (cnd (a0.Kind == (3 : Int)) ((a0.L.length <= maxLen -> cnd ((a0.L.length : Int) == (2 : Int)) (cnd (decide ((1 : Int) <= a0.Op)) ((decide (a0.Op <= (14 : Int))) = r0) (false = r0)) (false = r0))) (cnd (a0.Kind == (4 : Int)) (ybT a0 a1 r0 (a0.Kind == (4 : Int))) (cnd (a0.Kind == (5 : Int)) (ybT a0 a1 r0 (a0.Kind == (5 : Int))) (cnd (a0.Kind == (6 : Int)) (ybT a0 a1 r0 (a0.Kind == (6 : Int))) (ybT a0 a1 r0 (a0.Kind == (7 : Int)))))))
def ydu (Xr : yab → Bool → Bool → Prop) (a0 : yab) (a1 : Bool) (r0 : Bool) (X1 : Int → Prop) (x1 : Int) : Prop :=
 (a0.L.length <= maxLen -> cnd (decide (x1 < (a0.L.length : Int))) ((0 <= x1) /\ (x1 < (a0.L.length : Int)) /\ ∃ y3 : yab, (a0.L[x1.toNat]? = some y3) /\ cnd a1 (∃ z4 : Bool, (Xr (yab.mk y3.Kind y3.Op (⟨y3.V.Kind, y3.V.N, y3.V.S⟩ : yaa) y3.Table y3.Name y3.L) true z4) /\ ydy X1 r0 x1 (!z4)) (∃ z5 : Bool, (Xr (yab.mk y3.Kind y3.Op (⟨y3.V.Kind, y3.V.N, y3.V.S⟩ : yaa) y3.Table y3.Name y3.L) (a0.Kind == (8 : Int)) z5) /\ ydy X1 r0 x1 (!z5))) (cnd (a0.Kind == (1 : Int)) ((a0.L.length <= maxLen -> cnd ((a0.L.length : Int) == (0 : Int)) (cnd (a0.Op == (0 : Int)) (cnd (a0.Table == ([] : Str)) (cnd (a0.Name == ([] : Str)) (∃ z7 : Bool, (ycQ (⟨a0.V.Kind, a0.V.N, a0.V.S⟩ : yaa) z7) /\ cnd z7 (cnd (!(a0.V.Kind == (2 : Int))) (yaX r0 true) (yaX r0 (decide ((0 : Int) <= a0.V.N)))) (yaX r0 false)) (yaX r0 false)) (yaX r0 false)) (yaX r0 false)) (yaX r0 false))) (cnd (a0.Kind == (2 : Int)) ((a0.L.length <= maxLen -> cnd ((a0.L.length : Int) == (0 : Int)) (cnd (a0.Op == (0 : Int)) (cnd ((a0.V.Kind == (0 : Int)) && ((a0.V.N == (0 : Int)) && ((a0.V.S == ([] : Str)) && true))) (∃ z9 : Bool, (ybN a0.Name z9) /\ cnd z9 (cnd (a0.Table == ([] : Str)) (yba r0 true) (∃ z10 : Bool, (ybN a0.Table z10) /\ yba r0 z10)) (yba r0 false)) (yba r0 false)) (yba r0 false)) (yba r0 false))) (cnd (!((a0.V.Kind == (0 : Int)) && ((a0.V.N == (0 : Int)) && ((a0.V.S == ([] : Str)) && true)))) (ycu a0 a1 r0 true) (cnd (!(a0.Table == ([] : Str))) (ycu a0 a1 r0 true) (ycu a0 a1 r0 (!(a0.Name == ([] : Str)))))))))
def yjW (Xr : yab → Bool → Bool → Prop) (a0 : yab) (a1 : Bool) (r0 : Bool) : Prop :=
 ∀ X1 : Int -> Prop, (∀ (x1 : Int), ydu Xr a0 a1 r0 X1 x1 -> X1 x1) -> X1 (0 : Int)
theorem ymJ (X1 : Int → Prop) (r0 : Bool) (x1 : Int) {x2 : Bool} (h : ydy X1 r0 x1 x2) : ygZ r0 X1 x1 x2 := by
 unfold ygZ
 unfold ydy at h
 exact h
theorem ymP (r0 : Bool) {x6 : Bool} (h : yaX r0 x6) : ygR r0 x6 := by
 unfold ygR
 unfold yaX at h
 exact h
theorem ymv (r0 : Bool) {x8 : Bool} (h : yba r0 x8) : ygv r0 x8 := by
 unfold ygv
 unfold yba at h
 exact h
theorem ymd (r0 : Bool) {x13 : Bool} (h : ybc r0 x13) : ygH r0 x13 := by
 unfold ygH
 unfold ybc at h
 exact h
theorem ymg (a0 : yab) (a1 : Bool) (r0 : Bool) {x12 : Bool} (h : ybT a0 a1 r0 x12) : ygU a0 r0 a1 x12 := by
 unfold ygU
 unfold ybT at h
 refine yag h (fun h => ?_) (fun h => ?_)
 ·exact h
 ·refine yag h (fun h => ?_) (fun h => ?_)
  ·intro J7 kJ7
   have hJ7 : ∀ (x13 : Bool), ybc r0 x13 -> J7 x13 := fun x13 q => kJ7 x13 (ymd r0 q)
   refine yag h (fun h => ?_) (fun h => ?_)
   ·refine yag h (fun h => ?_) (fun h => ?_)
    ·refine yag h (fun h => ?_) (fun h => ?_)
     ·intro c
      replace h := h c
      refine yag h (fun h => ?_) (fun h => ?_)
      ·exact hJ7 _ h
      ·intro c
       replace h := h c
       refine yag h (fun h => ?_) (fun h => ?_)
       ·exact hJ7 _ h
       ·exact hJ7 _ h
     ·exact hJ7 _ h
    ·exact hJ7 _ h
   ·exact hJ7 _ h
  ·exact h
theorem yl6 (a0 : yab) (a1 : Bool) (r0 : Bool) {x11 : Bool} (h : ycu a0 a1 r0 x11) : ygA r0 a0 a1 x11 := by
 unfold ygA
 unfold ycu at h
 refine yag h (fun h => ?_) (fun h => ?_)
 ·exact h
 ·refine yag h (fun h => ?_) (fun h => ?_)
  ·exact h
  ·intro J6 kJ6
   have hJ6 : ∀ (x12 : Bool), ybT a0 a1 r0 x12 -> J6 x12 := fun x12 q => kJ6 x12 (ymg a0 a1 r0 q)
   refine yag h (fun h => ?_) (fun h => ?_)
   ·exact hJ6 _ h
   ·refine yag h (fun h => ?_) (fun h => ?_)
    ·exact hJ6 _ h
    ·refine yag h (fun h => ?_) (fun h => ?_)
     ·exact hJ6 _ h
     ·exact hJ6 _ h
theorem ymI (Xr : yab → Bool → Bool → Prop) (a0 : yab) (a1 : Bool) (r0 : Bool) {X1 : Int → Prop} {x1 : Int} (h : ydu Xr a0 a1 r0 X1 x1) : ygD a0 r0 a1 Xr X1 x1 := by
 unfold ygD
 unfold ydu at h
 intro c
 replace h := h c
 refine yag h (fun h => ?_) (fun h => ?_)
 ·intro J2 kJ2
  have hJ2 : ∀ (x2 : Bool), ydy X1 r0 x1 x2 -> J2 x2 := fun x2 q => kJ2 x2 (ymJ X1 r0 x1 q)
  obtain ⟨h0, h⟩ := h
  refine ⟨h0, ?_⟩
  obtain ⟨h0, h⟩ := h
  refine ⟨h0, ?_⟩
  obtain ⟨y3, h⟩ := h
  refine ⟨y3, ?_⟩
  obtain ⟨h0, h⟩ := h
  refine ⟨h0, ?_⟩
  refine yag h (fun h => ?_) (fun h => ?_)
  ·obtain ⟨z4, h⟩ := h
   refine ⟨z4, ?_⟩
   obtain ⟨h0, h⟩ := h
   refine ⟨h0, ?_⟩
   exact hJ2 _ h
  ·obtain ⟨z5, h⟩ := h
   refine ⟨z5, ?_⟩
   obtain ⟨h0, h⟩ := h
   refine ⟨h0, ?_⟩
   exact hJ2 _ h
 ·refine yag h (fun h => ?_) (fun h => ?_)
  ·intro J3 kJ3
   have hJ3 : ∀ (x6 : Bool), yaX r0 x6 -> J3 x6 := fun x6 q => kJ3 x6 (ymP r0 q)
   intro c
   replace h := h c
   refine yag h (fun h => ?_) (fun h => ?_)
   ·refine yag h (fun h => ?_) (fun h => ?_)
    ·refine yag h (fun h => ?_) (fun h => ?_)
     ·refine yag h (fun h => ?_) (fun h => ?_)
      ·obtain ⟨z7, h⟩ := h
       refine ⟨z7, ?_⟩
       obtain ⟨h0, h⟩ := h
       refine ⟨h0, ?_⟩
       refine yag h (fun h => ?_) (fun h => ?_)
       ·refine yag h (fun h => ?_) (fun h => ?_)
        ·exact hJ3 _ h
        ·exact hJ3 _ h
       ·exact hJ3 _ h
      ·exact hJ3 _ h
     ·exact hJ3 _ h
    ·exact hJ3 _ h
   ·exact hJ3 _ h
  ·refine yag h (fun h => ?_) (fun h => ?_)
   ·intro J4 kJ4
    have hJ4 : ∀ (x8 : Bool), yba r0 x8 -> J4 x8 := fun x8 q => kJ4 x8 (ymv r0 q)
    intro c
    replace h := h c
    refine yag h (fun h => ?_) (fun h => ?_)
    ·refine yag h (fun h => ?_) (fun h => ?_)
     ·refine yag h (fun h => ?_) (fun h => ?_)
      ·obtain ⟨z9, h⟩ := h
       refine ⟨z9, ?_⟩
       obtain ⟨h0, h⟩ := h
       refine ⟨h0, ?_⟩
       refine yag h (fun h => ?_) (fun h => ?_)
       ·refine yag h (fun h => ?_) (fun h => ?_)
        ·exact hJ4 _ h
        ·obtain ⟨z10, h⟩ := h
         refine ⟨z10, ?_⟩
         obtain ⟨h0, h⟩ := h
         refine ⟨h0, ?_⟩
         exact hJ4 _ h
       ·exact hJ4 _ h
      ·exact hJ4 _ h
     ·exact hJ4 _ h
    ·exact hJ4 _ h
   ·intro J5 kJ5
    have hJ5 : ∀ (x11 : Bool), ycu a0 a1 r0 x11 -> J5 x11 := fun x11 q => kJ5 x11 (yl6 a0 a1 r0 q)
    refine yag h (fun h => ?_) (fun h => ?_)
    ·exact hJ5 _ h
    ·refine yag h (fun h => ?_) (fun h => ?_)
     ·exact hJ5 _ h
     ·exact hJ5 _ h
theorem ypx (Xr : yab → Bool → Bool → Prop) (a0 : yab) (a1 : Bool) (r0 : Bool) (h : yjW Xr a0 a1 r0) : ydf Xr a0 a1 r0 := by
 unfold ydf
 unfold yjW at h
 intro X1 k
 exact h X1 (fun x1 q => k x1 (ymI Xr a0 a1 r0 q))
def yjT : Sp KK := ⟨20, [.v 29, .v 4], [4], appW (K := KK) [4] [.v 29, .v 4] yik⟩
def ypc : An KK := (.s .o (.s .o (.s (.s .o (.b (.l ⟨[(1, .kp 18), (2, .px 2 0), (5, .px 5 0), (6, .it .i64)], [(2, 29, [.kp 20, .kp 21, .kp 22, .kp 23, .kp 24, .kp 25, .kp 26, .kp 27]), (5, 26, [.kp 28, .kp 29, .kp 30])], []⟩ (fun _ => (.s (.s .o (.c .o .o)) (.s (.b (.j ⟨[(1, .kp 18), (2, .px 2 0), (5, .px 5 0), (6, .kp 34), (27, .bl)], [(2, 29, [.kp 20, .kp 21, .kp 22, .kp 23, .kp 24, .kp 25, .kp 26, .kp 27]), (5, 26, [.kp 28, .kp 29, .kp 30])], []⟩ .o (fun _ => (.c (.s .o .o) .o)))) .o)))))) (.s (.s .o (.b (.s .o (.c (.j ⟨[(4, .bl)], [], []⟩ .o (fun _ => .o)) (.s .o (.c (.j ⟨[(4, .bl)], [], []⟩ .o (fun _ => .o)) .o)))))) (.s (.j ⟨[(1, .kp 18), (2, .px 2 0), (113, .bl)], [(2, 29, [.kp 20, .kp 21, .kp 22, .kp 23, .kp 24, .kp 25, .kp 26, .kp 27])], []⟩ .o (fun _ => (.c (.s .o .o) .o))) (.s (.s .o (.b (.s .o (.c (.s .o .o) (.j ⟨[(1, .kp 18), (2, .px 2 0), (115, .kp 20), (132, .bl)], [(2, 29, [.kp 20, .kp 21, .kp 22, .kp 23, .kp 24, .kp 25, .kp 26, .kp 27])], []⟩ (.s .o (.c .o (.s .o (.c .o (.s .o (.c .o .o)))))) (fun _ => (.c (.s .o .o) (.s .o (.c (.j ⟨[(4, .bl)], [], []⟩ .o (fun _ => .o)) .o))))))))) (.s .o .o)))))))
def yoG (Xr : WTy KK [4] [.v 29, .v 4]) : Cf KK := ⟨CC, [⟨20, [.v 29, .v 4], [4], appW (K := KK) [4] [.v 29, .v 4] Xr⟩, yjb, yiN], 177⟩
set_option maxRecDepth 100000 in
theorem yni (Xr : yab → Bool → Bool → Prop) (hX : ∀ (a0 : yab) (a1 : Bool) (r0 : Bool), Xr a0 a1 r0 → Pure Try.prog 20 (ya7 CC [.v 29, .v 4] ([.d (.v 29 a0), .d (.v 4 a1)] : List (AD KK))) (ybX (([.v 4 r0] : List (DV KK)).map (dvA CC)))) : ∀ (a0 : yab) (a1 : Bool) (r0 : Bool), ydf Xr a0 a1 r0 → Pure Try.prog 20 (ya7 CC [.v 29, .v 4] ([.d (.v 29 a0), .d (.v 4 a1)] : List (AD KK))) (ybX (([.v 4 r0] : List (DV KK)).map (dvA CC))) := by
 intro a0 a1 r0 h
 refine yaE (F := yoG Xr) ybe (yas ?_ (yas ynK (yas yn4 yaF))) t20 (A := ypc) (ps := [.v 29, .v 4]) (rs := [4]) (env := [.d (.v 29 a0), .d (.v 4 a1)]) (r := [.v 4 r0]) (X := ydf Xr a0 a1 r0) (by kernel_rfl) (Nat.le_of_ble_eq_true (by kernel_rfl)) rfl (fun G hG => by simp at hG) h ?_
 ·clear h r0
  intro env r hF h
  obtain ⟨a0, env0, rfl, h1⟩ := yam h
  obtain ⟨a1, env1, rfl, h2⟩ := yam h1
  obtain ⟨rfl, h3⟩ := yaw h2
  obtain ⟨r0, rr0, rfl, h4⟩ := yaz h3
  obtain ⟨rfl, h5⟩ := yaR h4
  exact ⟨rfl, hX a0 a1 r0 h5⟩
 ·kernel_rfl
set_option maxRecDepth 100000 in
theorem yoT : SpOk Try.prog CC yjT := by
 intro env r hF h
 obtain ⟨a0, env0, rfl, h1⟩ := yam h
 obtain ⟨a1, env1, rfl, h2⟩ := yam h1
 obtain ⟨rfl, h3⟩ := yaw h2
 obtain ⟨r0, rr0, rfl, h4⟩ := yaz h3
 obtain ⟨rfl, h5⟩ := yaR h4
 exact ⟨rfl, h5 (fun a0 a1 r0 =>  Pure Try.prog 20 (ya7 CC [.v 29, .v 4] ([.d (.v 29 a0), .d (.v 4 a1)] : List (AD KK))) (ybX (([.v 4 r0] : List (DV KK)).map (dvA CC)))) (fun a0 a1 r0 h => yni _ (fun a0 a1 r0 h => h) a0 a1 r0 h)⟩
def ydX (a0 : yab) (r0 : Bool) : Prop :=
 ∃ z1 : Int, (yfN (yab.mk a0.Kind a0.Op (⟨a0.V.Kind, a0.V.N, a0.V.S⟩ : yaa) a0.Table a0.Name a0.L) z1) /\ cnd (decide (z1 <= (20 : Int))) (∃ z2 : Bool, (yik (yab.mk a0.Kind a0.Op (⟨a0.V.Kind, a0.V.N, a0.V.S⟩ : yaa) a0.Table a0.Name a0.L) false z2) /\ z2 = r0) (false = r0)
def yiO : Sp KK := ⟨6, [.v 29], [4], appW (K := KK) [4] [.v 29] ydX⟩
def ynu : An KK := (.s .o (.s .o .o))
def yov : Cf KK := ⟨CC, [yhC, yjT], 10⟩
set_option maxRecDepth 100000 in
theorem ynz : SpOk Try.prog CC yiO := by
 intro env r hF h
 obtain ⟨a0, env0, rfl, h1⟩ := yam h
 obtain ⟨rfl, h2⟩ := yaw h1
 obtain ⟨r0, rr0, rfl, h3⟩ := yaz h2
 obtain ⟨rfl, h4⟩ := yaR h3
 refine ⟨rfl, yaE (F := yov) ybe (yas ymj (yas yoT yaF)) t6 (A := ynu) (ps := [.v 29]) (rs := [4]) (env := [.d (.v 29 a0)]) (r := [.v 4 r0]) (X := ydX a0 r0) (by kernel_rfl) (Nat.le_of_ble_eq_true (by kernel_rfl)) rfl hF h4 ?_⟩
 kernel_rfl
def yfE (a0 : yab) (Xr : yab → yad → Prop) (r0 : yad) (X1 : Int → (List yad) → Prop) (x1 : Int) (x2 : (List yad)) : Prop :=
 (a0.L.length <= maxLen -> cnd (decide (x1 < (a0.L.length : Int))) ((0 <= x1) /\ (x1 < (a0.L.length : Int)) /\ ∃ y3 : yab, (a0.L[x1.toNat]? = some y3) /\ ∃ z4 : yad, (Xr (yab.mk y3.Kind y3.Op (⟨y3.V.Kind, y3.V.N, y3.V.S⟩ : yaa) y3.Table y3.Name y3.L) z4) /\ (x2.length <= 1000000000) /\ X1 (IntKind.i64.wrap (x1 + (1 : Int))) (x2 ++ ([(yad.mk z4.Kind z4.Op (⟨z4.V.Kind, z4.V.N, z4.V.S⟩ : yac) z4.Table z4.Name z4.L)] : List yad))) ((yad.mk a0.Kind a0.Op (⟨a0.V.Kind, a0.V.N, a0.V.S⟩ : yac) a0.Table a0.Name x2) = r0))
def yd3 (Xr : yab → yad → Prop) (a0 : yab) (r0 : yad) : Prop :=
 ∀ X1 : Int -> (List yad) -> Prop, (∀ (x1 : Int) (x2 : (List yad)), yfE a0 Xr r0 X1 x1 x2 -> X1 x1 x2) -> X1 (0 : Int) ([] : List yad)
def ydi (a0 : yab) (r0 : yad) : Prop := ∀ Xr : yab -> yad -> Prop, (∀ (a0 : yab) (r0 : yad), yd3 Xr a0 r0 -> Xr a0 r0) -> Xr a0 r0
def yeW (Xr : yab → yad → Prop) (a0 : yab) (r0 : yad) (X1 : Int → (List yad) → Prop) (x1 : Int) (x2 : (List yad)) : Prop :=
 (a0.L.length <= maxLen -> cnd (decide (x1 < (a0.L.length : Int))) ((0 <= x1) /\ (x1 < (a0.L.length : Int)) /\ ∃ y3 : yab, (a0.L[x1.toNat]? = some y3) /\ ∃ z4 : yad, (Xr (yab.mk y3.Kind y3.Op (⟨y3.V.Kind, y3.V.N, y3.V.S⟩ : yaa) y3.Table y3.Name y3.L) z4) /\ (x2.length <= 1000000000) /\ X1 (IntKind.i64.wrap (x1 + (1 : Int))) (x2 ++ ([(yad.mk z4.Kind z4.Op (⟨z4.V.Kind, z4.V.N, z4.V.S⟩ : yac) z4.Table z4.Name z4.L)] : List yad))) ((yad.mk a0.Kind a0.Op (⟨a0.V.Kind, a0.V.N, a0.V.S⟩ : yac) a0.Table a0.Name x2) = r0))
def yiB (Xr : yab → yad → Prop) (a0 : yab) (r0 : yad) : Prop :=
 ∀ X1 : Int -> (List yad) -> Prop, (∀ (x1 : Int) (x2 : (List yad)), yeW Xr a0 r0 X1 x1 x2 -> X1 x1 x2) -> X1 (0 : Int) ([] : List yad)
theorem ylz (Xr : yab → yad → Prop) (a0 : yab) (r0 : yad) {X1 : Int → (List yad) → Prop} {x1 : Int} {x2 : (List yad)} (h : yeW Xr a0 r0 X1 x1 x2) : yfE a0 Xr r0 X1 x1 x2 := by
 unfold yfE
 unfold yeW at h
 exact h
theorem ynr (Xr : yab → yad → Prop) (a0 : yab) (r0 : yad) (h : yiB Xr a0 r0) : yd3 Xr a0 r0 := by
 unfold yd3
 unfold yiB at h
 intro X1 k
 exact h X1 (fun x1 x2 q => k x1 x2 (ylz Xr a0 r0 q))
def yiI : Sp KK := ⟨7, [.v 29], [36], appW (K := KK) [36] [.v 29] ydi⟩
def yon : An KK := (.s .o (.s .o (.s (.s .o (.b (.l ⟨[(1, .px 1 0), (2, .px 2 0), (3, .px 3 0), (4, .it .i64)], [(1, 29, [.kp 27, .kp 28, .kp 29, .kp 30, .kp 31, .kp 32, .kp 33, .kp 34]), (2, 36, [.kp 35, .kp 36, .kp 37, .kp 38, .kp 39, .kp 40, .kp 41, .kp 42]), (3, 36, [.kp 43, .kp 44, .kp 45, .kp 46, .kp 47, .kp 48, .kp 49, .row 32])], [(32, 36)]⟩ (fun _ => (.s (.s .o (.c .o .o)) (.s (.b .o) .o)))))) (.s .o .o))))
def yn9 (Xr : WTy KK [36] [.v 29]) : Cf KK := ⟨CC, [⟨7, [.v 29], [36], appW (K := KK) [36] [.v 29] Xr⟩], 35⟩
set_option maxRecDepth 100000 in
theorem yl0 (Xr : yab → yad → Prop) (hX : ∀ (a0 : yab) (r0 : yad), Xr a0 r0 → Pure Try.prog 7 (ya7 CC [.v 29] ([.d (.v 29 a0)] : List (AD KK))) (ybX (([.v 36 r0] : List (DV KK)).map (dvA CC)))) : ∀ (a0 : yab) (r0 : yad), yd3 Xr a0 r0 → Pure Try.prog 7 (ya7 CC [.v 29] ([.d (.v 29 a0)] : List (AD KK))) (ybX (([.v 36 r0] : List (DV KK)).map (dvA CC))) := by
 intro a0 r0 h
 refine yaE (F := yn9 Xr) ybe (yas ?_ yaF) t7 (A := yon) (ps := [.v 29]) (rs := [36]) (env := [.d (.v 29 a0)]) (r := [.v 36 r0]) (X := yd3 Xr a0 r0) (by kernel_rfl) (Nat.le_of_ble_eq_true (by kernel_rfl)) rfl (fun G hG => by simp at hG) h ?_
 ·clear h r0
  intro env r hF h
  obtain ⟨a0, env0, rfl, h1⟩ := yam h
  obtain ⟨rfl, h2⟩ := yaw h1
  obtain ⟨r0, rr0, rfl, h3⟩ := yaz h2
  obtain ⟨rfl, h4⟩ := yaR h3
  exact ⟨rfl, hX a0 r0 h4⟩
 ·kernel_rfl
set_option maxRecDepth 100000 in
theorem yom : SpOk Try.prog CC yiI := by
 intro env r hF h
 obtain ⟨a0, env0, rfl, h1⟩ := yam h
 obtain ⟨rfl, h2⟩ := yaw h1
 obtain ⟨r0, rr0, rfl, h3⟩ := yaz h2
 obtain ⟨rfl, h4⟩ := yaR h3
 exact ⟨rfl, h4 (fun a0 r0 =>  Pure Try.prog 7 (ya7 CC [.v 29] ([.d (.v 29 a0)] : List (AD KK))) (ybX (([.v 36 r0] : List (DV KK)).map (dvA CC)))) (fun a0 r0 h => yl0 _ (fun a0 r0 h => h) a0 r0 h)⟩
def yg5 (X1 : Int → (List yae) → (List yaf) → (List yac) → (List yaa) → Prop) (x1 : Int) (y11 : yan) (x18 : Int) (x19 : Int) (x20 : Str) (x21 : (List yae)) (x22 : (List yaf)) (x23 : (List yac)) (x24 : (List yaa)) : Prop :=
 (x21.length <= 1000000000) /\ (x22.length <= 1000000000) /\ (x23.length <= 1000000000) /\ (x24.length <= 1000000000) /\ X1 (IntKind.i64.wrap (x1 + (1 : Int))) (x21 ++ ([(⟨((([([116] : Str), ([117] : Str)] : List Str)[(y11.Table.tmod (2 : Int)).toNat]?).getD []), ((([([97] : Str), ([98] : Str), ([99, 49] : Str), ([110] : Str)] : List Str)[(y11.Name.tmod (4 : Int)).toNat]?).getD []), IntKind.i64.wrap ((1 : Int) + (IntKind.i64.wrap (y11.Kind.tmod (3 : Int))))⟩ : yae)] : List yae)) (x22 ++ ([(⟨((([([116] : Str), ([117] : Str)] : List Str)[(y11.Table.tmod (2 : Int)).toNat]?).getD []), ((([([97] : Str), ([98] : Str), ([99, 49] : Str), ([110] : Str)] : List Str)[(y11.Name.tmod (4 : Int)).toNat]?).getD []), IntKind.i64.wrap ((1 : Int) + (IntKind.i64.wrap (y11.Kind.tmod (3 : Int))))⟩ : yaf)] : List yaf)) (x23 ++ ([(⟨x18, x19, x20⟩ : yac)] : List yac)) (x24 ++ ([(⟨x18, x19, x20⟩ : yaa)] : List yaa))
def ygF (X1 : Int → (List yae) → (List yaf) → (List yac) → (List yaa) → Prop) (x1 : Int) (y11 : yan) (x12 : Int) (x13 : Str) (x14 : (List yae)) (x15 : (List yaf)) (x16 : (List yac)) (x17 : (List yaa)) : Prop :=
 ∀ J4 : Int -> Int -> Str -> (List yae) -> (List yaf) -> (List yac) -> (List yaa) -> Prop, (∀ (x18 : Int) (x19 : Int) (x20 : Str) (x21 : (List yae)) (x22 : (List yaf)) (x23 : (List yac)) (x24 : (List yaa)), yg5 X1 x1 y11 x18 x19 x20 x21 x22 x23 x24 -> J4 x18 x19 x20 x21 x22 x23 x24) -> cnd y11.Null (J4 (0 : Int) (0 : Int) ([] : Str) x14 x15 x16 x17) (J4 (IntKind.i64.wrap ((1 : Int) + (IntKind.i64.wrap (y11.Kind.tmod (3 : Int))))) x12 x13 x14 x15 x16 x17)
def yg1 (x1 : Int) (a0 : (List yan)) (X1 : Int → (List yae) → (List yaf) → (List yac) → (List yaa) → Prop) (r0 : (List yae)) (r1 : (List yaf)) (r2 : (List yac)) (r3 : (List yaa)) (x6 : Bool) (x7 : (List yae)) (x8 : (List yaf)) (x9 : (List yac)) (x10 : (List yaa)) : Prop :=
 cnd x6 ((0 <= x1) /\ (x1 < (a0.length : Int)) /\ ∃ y11 : yan, (a0[x1.toNat]? = some y11) /\ (0 <= (y11.Table.tmod (2 : Int)) /\ (y11.Table.tmod (2 : Int)) < (2 : Nat)) /\ (0 <= (y11.Name.tmod (4 : Int)) /\ (y11.Name.tmod (4 : Int)) < (4 : Nat)) /\ ∀ J3 : Int -> Str -> (List yae) -> (List yaf) -> (List yac) -> (List yaa) -> Prop, (∀ (x12 : Int) (x13 : Str) (x14 : (List yae)) (x15 : (List yaf)) (x16 : (List yac)) (x17 : (List yaa)), ygF X1 x1 y11 x12 x13 x14 x15 x16 x17 -> J3 x12 x13 x14 x15 x16 x17) -> cnd ((IntKind.i64.wrap ((1 : Int) + (IntKind.i64.wrap (y11.Kind.tmod (3 : Int))))) == (1 : Int)) (J3 (bits .and .i64 y11.N (1 : Int)) ([] : Str) x7 x8 x9 x10) (cnd ((IntKind.i64.wrap ((1 : Int) + (IntKind.i64.wrap (y11.Kind.tmod (3 : Int))))) == (2 : Int)) (J3 y11.N ([] : Str) x7 x8 x9 x10) (cnd ((IntKind.i64.wrap ((1 : Int) + (IntKind.i64.wrap (y11.Kind.tmod (3 : Int))))) == (3 : Int)) ((0 <= (0 : Int) /\ (0 : Int) <= (if (64 : Int) < (y11.S.length : Int) then (64 : Int) else (y11.S.length : Int)) /\ (if (64 : Int) < (y11.S.length : Int) then (64 : Int) else (y11.S.length : Int)) <= (y11.S.length : Int)) /\ J3 (0 : Int) ((y11.S.drop (0 : Int).toNat).take ((if (64 : Int) < (y11.S.length : Int) then (64 : Int) else (y11.S.length : Int)).toNat - (0 : Int).toNat)) x7 x8 x9 x10) (J3 (0 : Int) ([] : Str) x7 x8 x9 x10)))) (x7 = r0 /\ x8 = r1 /\ x9 = r2 /\ x10 = r3)
def yg3 (a0 : (List yan)) (r0 : (List yae)) (r1 : (List yaf)) (r2 : (List yac)) (r3 : (List yaa)) (X1 : Int → (List yae) → (List yaf) → (List yac) → (List yaa) → Prop) (x1 : Int) (x2 : (List yae)) (x3 : (List yaf)) (x4 : (List yac)) (x5 : (List yaa)) : Prop :=
 ∀ J2 : Bool -> (List yae) -> (List yaf) -> (List yac) -> (List yaa) -> Prop, (∀ (x6 : Bool) (x7 : (List yae)) (x8 : (List yaf)) (x9 : (List yac)) (x10 : (List yaa)), yg1 x1 a0 X1 r0 r1 r2 r3 x6 x7 x8 x9 x10 -> J2 x6 x7 x8 x9 x10) -> (a0.length <= maxLen -> cnd (decide (x1 < (a0.length : Int))) (J2 (decide (x1 < (6 : Int))) x2 x3 x4 x5) (J2 false x2 x3 x4 x5))
def ydc (a0 : (List yan)) (r0 : (List yae)) (r1 : (List yaf)) (r2 : (List yac)) (r3 : (List yaa)) : Prop :=
 ∀ X1 : Int -> (List yae) -> (List yaf) -> (List yac) -> (List yaa) -> Prop, (∀ (x1 : Int) (x2 : (List yae)) (x3 : (List yaf)) (x4 : (List yac)) (x5 : (List yaa)), yg3 a0 r0 r1 r2 r3 X1 x1 x2 x3 x4 x5 -> X1 x1 x2 x3 x4 x5) -> X1 (0 : Int) ([] : List yae) ([] : List yaf) ([] : List yac) ([] : List yaa)
def yco (X1 : Int → (List yae) → (List yaf) → (List yac) → (List yaa) → Prop) (x1 : Int) (y11 : yan) (x18 : Int) (x19 : Int) (x20 : Str) (x21 : (List yae)) (x22 : (List yaf)) (x23 : (List yac)) (x24 : (List yaa)) : Prop :=
 (x21.length <= 1000000000) /\ (x22.length <= 1000000000) /\ (x23.length <= 1000000000) /\ (x24.length <= 1000000000) /\ X1 (IntKind.i64.wrap (x1 + (1 : Int))) (x21 ++ ([(⟨((([([116] : Str), ([117] : Str)] : List Str)[(y11.Table.tmod (2 : Int)).toNat]?).getD []), ((([([97] : Str), ([98] : Str), ([99, 49] : Str), ([110] : Str)] : List Str)[(y11.Name.tmod (4 : Int)).toNat]?).getD []), IntKind.i64.wrap ((1 : Int) + (IntKind.i64.wrap (y11.Kind.tmod (3 : Int))))⟩ : yae)] : List yae)) (x22 ++ ([(⟨((([([116] : Str), ([117] : Str)] : List Str)[(y11.Table.tmod (2 : Int)).toNat]?).getD []), ((([([97] : Str), ([98] : Str), ([99, 49] : Str), ([110] : Str)] : List Str)[(y11.Name.tmod (4 : Int)).toNat]?).getD []), IntKind.i64.wrap ((1 : Int) + (IntKind.i64.wrap (y11.Kind.tmod (3 : Int))))⟩ : yaf)] : List yaf)) (x23 ++ ([(⟨x18, x19, x20⟩ : yac)] : List yac)) (x24 ++ ([(⟨x18, x19, x20⟩ : yaa)] : List yaa))
def yaU (X1 : Int → (List yae) → (List yaf) → (List yac) → (List yaa) → Prop) (x1 : Int) (y11 : yan) (x12 : Int) (x13 : Str) (x14 : (List yae)) (x15 : (List yaf)) (x16 : (List yac)) (x17 : (List yaa)) : Prop :=
 cnd y11.Null (yco X1 x1 y11 (0 : Int) (0 : Int) ([] : Str) x14 x15 x16 x17) (yco X1 x1 y11 (IntKind.i64.wrap ((1 : Int) + (IntKind.i64.wrap (y11.Kind.tmod (3 : Int))))) x12 x13 x14 x15 x16 x17)
def ycX (X1 : Int → (List yae) → (List yaf) → (List yac) → (List yaa) → Prop) (a0 : (List yan)) (r0 : (List yae)) (r1 : (List yaf)) (r2 : (List yac)) (r3 : (List yaa)) (x1 : Int) (x6 : Bool) (x7 : (List yae)) (x8 : (List yaf)) (x9 : (List yac)) (x10 : (List yaa)) : Prop :=
 cnd x6 ((0 <= x1) /\ (x1 < (a0.length : Int)) /\ ∃ y11 : yan, (a0[x1.toNat]? = some y11) /\ (0 <= (y11.Table.tmod (2 : Int)) /\ (y11.Table.tmod (2 : Int)) < (2 : Nat)) /\ (0 <= (y11.Name.tmod (4 : Int)) /\ (y11.Name.tmod (4 : Int)) < (4 : Nat)) /\ cnd ((IntKind.i64.wrap ((1 : Int) + (IntKind.i64.wrap (y11.Kind.tmod (3 : Int))))) == (1 : Int)) (yaU X1 x1 y11 (bits .and .i64 y11.N (1 : Int)) ([] : Str) x7 x8 x9 x10) (cnd ((IntKind.i64.wrap ((1 : Int) + (IntKind.i64.wrap (y11.Kind.tmod (3 : Int))))) == (2 : Int)) (yaU X1 x1 y11 y11.N ([] : Str) x7 x8 x9 x10) (cnd ((IntKind.i64.wrap ((1 : Int) + (IntKind.i64.wrap (y11.Kind.tmod (3 : Int))))) == (3 : Int)) ((0 <= (0 : Int) /\ (0 : Int) <= (if (64 : Int) < (y11.S.length : Int) then (64 : Int) else (y11.S.length : Int)) /\ (if (64 : Int) < (y11.S.length : Int) then (64 : Int) else (y11.S.length : Int)) <= (y11.S.length : Int)) /\ yaU X1 x1 y11 (0 : Int) ((y11.S.drop (0 : Int).toNat).take ((if (64 : Int) < (y11.S.length : Int) then (64 : Int) else (y11.S.length : Int)).toNat - (0 : Int).toNat)) x7 x8 x9 x10) (yaU X1 x1 y11 (0 : Int) ([] : Str) x7 x8 x9 x10)))) (x7 = r0 /\ x8 = r1 /\ x9 = r2 /\ x10 = r3)
def yec (a0 : (List yan)) (r0 : (List yae)) (r1 : (List yaf)) (r2 : (List yac)) (r3 : (List yaa)) (X1 : Int → (List yae) → (List yaf) → (List yac) → (List yaa) → Prop) (x1 : Int) (x2 : (List yae)) (x3 : (List yaf)) (x4 : (List yac)) (x5 : (List yaa)) : Prop :=
 (a0.length <= maxLen -> cnd (decide (x1 < (a0.length : Int))) (ycX X1 a0 r0 r1 r2 r3 x1 (decide (x1 < (6 : Int))) x2 x3 x4 x5) (ycX X1 a0 r0 r1 r2 r3 x1 false x2 x3 x4 x5))
def yjO (a0 : (List yan)) (r0 : (List yae)) (r1 : (List yaf)) (r2 : (List yac)) (r3 : (List yaa)) : Prop :=
 ∀ X1 : Int -> (List yae) -> (List yaf) -> (List yac) -> (List yaa) -> Prop, (∀ (x1 : Int) (x2 : (List yae)) (x3 : (List yaf)) (x4 : (List yac)) (x5 : (List yaa)), yec a0 r0 r1 r2 r3 X1 x1 x2 x3 x4 x5 -> X1 x1 x2 x3 x4 x5) -> X1 (0 : Int) ([] : List yae) ([] : List yaf) ([] : List yac) ([] : List yaa)
theorem ymL (X1 : Int → (List yae) → (List yaf) → (List yac) → (List yaa) → Prop) (x1 : Int) (y11 : yan) {x18 : Int} {x19 : Int} {x20 : Str} {x21 : (List yae)} {x22 : (List yaf)} {x23 : (List yac)} {x24 : (List yaa)} (h : yco X1 x1 y11 x18 x19 x20 x21 x22 x23 x24) : yg5 X1 x1 y11 x18 x19 x20 x21 x22 x23 x24 := by
 unfold yg5
 unfold yco at h
 exact h
theorem ymp (X1 : Int → (List yae) → (List yaf) → (List yac) → (List yaa) → Prop) (x1 : Int) (y11 : yan) {x12 : Int} {x13 : Str} {x14 : (List yae)} {x15 : (List yaf)} {x16 : (List yac)} {x17 : (List yaa)} (h : yaU X1 x1 y11 x12 x13 x14 x15 x16 x17) : ygF X1 x1 y11 x12 x13 x14 x15 x16 x17 := by
 unfold ygF
 unfold yaU at h
 intro J4 kJ4
 have hJ4 : ∀ (x18 : Int) (x19 : Int) (x20 : Str) (x21 : (List yae)) (x22 : (List yaf)) (x23 : (List yac)) (x24 : (List yaa)), yco X1 x1 y11 x18 x19 x20 x21 x22 x23 x24 -> J4 x18 x19 x20 x21 x22 x23 x24 := fun x18 x19 x20 x21 x22 x23 x24 q => kJ4 x18 x19 x20 x21 x22 x23 x24 (ymL X1 x1 y11 q)
 refine yag h (fun h => ?_) (fun h => ?_)
 ·exact hJ4 _ _ _ _ _ _ _ h
 ·exact hJ4 _ _ _ _ _ _ _ h
theorem ymB (X1 : Int → (List yae) → (List yaf) → (List yac) → (List yaa) → Prop) (a0 : (List yan)) (r0 : (List yae)) (r1 : (List yaf)) (r2 : (List yac)) (r3 : (List yaa)) (x1 : Int) {x6 : Bool} {x7 : (List yae)} {x8 : (List yaf)} {x9 : (List yac)} {x10 : (List yaa)} (h : ycX X1 a0 r0 r1 r2 r3 x1 x6 x7 x8 x9 x10) : yg1 x1 a0 X1 r0 r1 r2 r3 x6 x7 x8 x9 x10 := by
 unfold yg1
 unfold ycX at h
 refine yag h (fun h => ?_) (fun h => ?_)
 ·obtain ⟨h0, h⟩ := h
  refine ⟨h0, ?_⟩
  obtain ⟨h0, h⟩ := h
  refine ⟨h0, ?_⟩
  obtain ⟨y11, h⟩ := h
  refine ⟨y11, ?_⟩
  obtain ⟨h0, h⟩ := h
  refine ⟨h0, ?_⟩
  obtain ⟨h0, h⟩ := h
  refine ⟨h0, ?_⟩
  obtain ⟨h0, h⟩ := h
  refine ⟨h0, ?_⟩
  intro J3 kJ3
  have hJ3 : ∀ (x12 : Int) (x13 : Str) (x14 : (List yae)) (x15 : (List yaf)) (x16 : (List yac)) (x17 : (List yaa)), yaU X1 x1 y11 x12 x13 x14 x15 x16 x17 -> J3 x12 x13 x14 x15 x16 x17 := fun x12 x13 x14 x15 x16 x17 q => kJ3 x12 x13 x14 x15 x16 x17 (ymp X1 x1 y11 q)
  refine yag h (fun h => ?_) (fun h => ?_)
  ·exact hJ3 _ _ _ _ _ _ h
  ·refine yag h (fun h => ?_) (fun h => ?_)
   ·exact hJ3 _ _ _ _ _ _ h
   ·refine yag h (fun h => ?_) (fun h => ?_)
    ·obtain ⟨h0, h⟩ := h
     refine ⟨h0, ?_⟩
     exact hJ3 _ _ _ _ _ _ h
    ·exact hJ3 _ _ _ _ _ _ h
 ·exact h
theorem yml (a0 : (List yan)) (r0 : (List yae)) (r1 : (List yaf)) (r2 : (List yac)) (r3 : (List yaa)) {X1 : Int → (List yae) → (List yaf) → (List yac) → (List yaa) → Prop} {x1 : Int} {x2 : (List yae)} {x3 : (List yaf)} {x4 : (List yac)} {x5 : (List yaa)} (h : yec a0 r0 r1 r2 r3 X1 x1 x2 x3 x4 x5) : yg3 a0 r0 r1 r2 r3 X1 x1 x2 x3 x4 x5 := by
 unfold yg3
 unfold yec at h
 intro J2 kJ2
 have hJ2 : ∀ (x6 : Bool) (x7 : (List yae)) (x8 : (List yaf)) (x9 : (List yac)) (x10 : (List yaa)), ycX X1 a0 r0 r1 r2 r3 x1 x6 x7 x8 x9 x10 -> J2 x6 x7 x8 x9 x10 := fun x6 x7 x8 x9 x10 q => kJ2 x6 x7 x8 x9 x10 (ymB X1 a0 r0 r1 r2 r3 x1 q)
 intro c
 replace h := h c
 refine yag h (fun h => ?_) (fun h => ?_)
 ·exact hJ2 _ _ _ _ _ h
 ·exact hJ2 _ _ _ _ _ h
theorem yp0 (a0 : (List yan)) (r0 : (List yae)) (r1 : (List yaf)) (r2 : (List yac)) (r3 : (List yaa)) (h : yjO a0 r0 r1 r2 r3) : ydc a0 r0 r1 r2 r3 := by
 unfold ydc
 unfold yjO at h
 intro X1 k
 exact h X1 (fun x1 x2 x3 x4 x5 q => k x1 x2 x3 x4 x5 (yml a0 r0 r1 r2 r3 q))
def yjV : Sp KK := ⟨8, [.v 23], [38, 39, 40, 41], appW (K := KK) [38, 39, 40, 41] [.v 23] ydc⟩
def yoY : An KK := (.s .o (.s .o (.s .o (.s .o (.s .o (.s (.s .o (.b (.l ⟨[(0, .kp 71), (6, .row 76), (7, .row 80), (8, .row 84), (9, .row 88), (10, .it .i64)], [], [(76, 58), (80, 69), (84, 33), (88, 26)]⟩ (fun _ => (.s (.j ⟨[(0, .kp 71), (6, .row 76), (7, .row 80), (8, .row 84), (9, .row 88), (10, .kp 120), (21, .bl)], [], [(76, 58), (80, 69), (84, 33), (88, 26)]⟩ .o (fun _ => (.c .o .o))) (.s (.b (.s .o (.s .o (.s .o (.j ⟨[(0, .kp 71), (6, .row 76), (7, .row 80), (8, .row 84), (9, .row 88), (10, .kp 120), (11, .px 11 0), (12, .px 12 0), (13, .px 13 0)], [(11, 66, [.kp 131, .kp 132, .kp 133, .kp 134, .kp 135, .kp 136]), (12, 69, [.kp 137, .kp 138, .kp 139]), (13, 26, [.kp 140, .it .i64, .st])], [(76, 58), (80, 69), (84, 33), (88, 26)]⟩ (.s .o (.b (.s .o (.c .o (.s .o (.c .o (.s .o (.c .o .o)))))))) (fun _ => (.j ⟨[(0, .kp 71), (6, .row 76), (7, .row 80), (8, .row 84), (9, .row 88), (10, .kp 120), (12, .px 12 0), (13, .px 13 0)], [(12, 69, [.kp 137, .kp 138, .kp 139]), (13, 26, [.it .i64, .it .i64, .st])], [(76, 58), (80, 69), (84, 33), (88, 26)]⟩ (.s .o (.c .o .o)) (fun _ => .o)))))))) .o)))))) (.s .o .o)))))))
def yoP : Cf KK := ⟨CC, [], 93⟩
set_option maxRecDepth 100000 in
theorem yoR : SpOk Try.prog CC yjV := by
 intro env r hF h
 obtain ⟨a0, env0, rfl, h1⟩ := yam h
 obtain ⟨rfl, h2⟩ := yaw h1
 obtain ⟨r0, rr0, rfl, h3⟩ := yaz h2
 obtain ⟨r1, rr1, rfl, h4⟩ := yaz h3
 obtain ⟨r2, rr2, rfl, h5⟩ := yaz h4
 obtain ⟨r3, rr3, rfl, h6⟩ := yaz h5
 obtain ⟨rfl, h7⟩ := yaR h6
 refine ⟨rfl, yaE (F := yoP) ybe yaF t8 (A := yoY) (ps := [.v 23]) (rs := [38, 39, 40, 41]) (env := [.d (.v 23 a0)]) (r := [.v 38 r0, .v 39 r1, .v 40 r2, .v 41 r3]) (X := ydc a0 r0 r1 r2 r3) (by kernel_rfl) (Nat.le_of_ble_eq_true (by kernel_rfl)) rfl hF h7 ?_⟩
 kernel_rfl
def ygb (X1 : Int → Int → Prop) (x1 : Int) (x2 : Int) (r0 : Int) (r1 : Int) (x3 : Bool) : Prop :=
 cnd x3 (X1 x1 (IntKind.i64.wrap (x2 + (1 : Int)))) (cnd (decide ((0 : Int) <= x1)) ((0 : Int) = r0 /\ (7 : Int) = r1) (X1 x2 (IntKind.i64.wrap (x2 + (1 : Int)))))
def yfU (a0 : (List yaf)) (r0 : Int) (r1 : Int) (a1 : yab) (X1 : Int → Int → Prop) (x1 : Int) (x2 : Int) : Prop :=
 (a0.length <= maxLen -> cnd (decide (x2 < (a0.length : Int))) (∀ J2 : Bool -> Prop, (∀ (x3 : Bool), ygb X1 x1 x2 r0 r1 x3 -> J2 x3) -> (0 <= x2) /\ (x2 < (a0.length : Int)) /\ ∃ y4 : yaf, (a0[x2.toNat]? = some y4) /\ cnd (!(y4.Name == a1.Name)) (J2 true) (cnd (!(a1.Table == ([] : Str))) ((0 <= x2) /\ (x2 < (a0.length : Int)) /\ ∃ y5 : yaf, (a0[x2.toNat]? = some y5) /\ J2 (!(y5.Table == a1.Table))) (J2 false))) (cnd (decide (x1 < (0 : Int))) ((0 : Int) = r0 /\ (6 : Int) = r1) (x1 = r0 /\ (0 : Int) = r1)))
def ybK (a0 : (List yaf)) (a1 : yab) (r0 : Int) (r1 : Int) : Prop :=
 ∀ X1 : Int -> Int -> Prop, (∀ (x1 : Int) (x2 : Int), yfU a0 r0 r1 a1 X1 x1 x2 -> X1 x1 x2) -> X1 (-1 : Int) (0 : Int)
def ybb (X1 : Int → Int → Prop) (r0 : Int) (r1 : Int) (x1 : Int) (x2 : Int) (x3 : Bool) : Prop :=
 cnd x3 (X1 x1 (IntKind.i64.wrap (x2 + (1 : Int)))) (cnd (decide ((0 : Int) <= x1)) ((0 : Int) = r0 /\ (7 : Int) = r1) (X1 x2 (IntKind.i64.wrap (x2 + (1 : Int)))))
def yeT (a0 : (List yaf)) (a1 : yab) (r0 : Int) (r1 : Int) (X1 : Int → Int → Prop) (x1 : Int) (x2 : Int) : Prop :=
 (a0.length <= maxLen -> cnd (decide (x2 < (a0.length : Int))) ((0 <= x2) /\ (x2 < (a0.length : Int)) /\ ∃ y4 : yaf, (a0[x2.toNat]? = some y4) /\ cnd (!(y4.Name == a1.Name)) (ybb X1 r0 r1 x1 x2 true) (cnd (!(a1.Table == ([] : Str))) ((0 <= x2) /\ (x2 < (a0.length : Int)) /\ ∃ y5 : yaf, (a0[x2.toNat]? = some y5) /\ ybb X1 r0 r1 x1 x2 (!(y5.Table == a1.Table))) (ybb X1 r0 r1 x1 x2 false))) (cnd (decide (x1 < (0 : Int))) ((0 : Int) = r0 /\ (6 : Int) = r1) (x1 = r0 /\ (0 : Int) = r1)))
def yi5 (a0 : (List yaf)) (a1 : yab) (r0 : Int) (r1 : Int) : Prop :=
 ∀ X1 : Int -> Int -> Prop, (∀ (x1 : Int) (x2 : Int), yeT a0 a1 r0 r1 X1 x1 x2 -> X1 x1 x2) -> X1 (-1 : Int) (0 : Int)
theorem yk3 (X1 : Int → Int → Prop) (r0 : Int) (r1 : Int) (x1 : Int) (x2 : Int) {x3 : Bool} (h : ybb X1 r0 r1 x1 x2 x3) : ygb X1 x1 x2 r0 r1 x3 := by
 unfold ygb
 unfold ybb at h
 exact h
theorem yla (a0 : (List yaf)) (a1 : yab) (r0 : Int) (r1 : Int) {X1 : Int → Int → Prop} {x1 : Int} {x2 : Int} (h : yeT a0 a1 r0 r1 X1 x1 x2) : yfU a0 r0 r1 a1 X1 x1 x2 := by
 unfold yfU
 unfold yeT at h
 intro c
 replace h := h c
 refine yag h (fun h => ?_) (fun h => ?_)
 ·intro J2 kJ2
  have hJ2 : ∀ (x3 : Bool), ybb X1 r0 r1 x1 x2 x3 -> J2 x3 := fun x3 q => kJ2 x3 (yk3 X1 r0 r1 x1 x2 q)
  obtain ⟨h0, h⟩ := h
  refine ⟨h0, ?_⟩
  obtain ⟨h0, h⟩ := h
  refine ⟨h0, ?_⟩
  obtain ⟨y4, h⟩ := h
  refine ⟨y4, ?_⟩
  obtain ⟨h0, h⟩ := h
  refine ⟨h0, ?_⟩
  refine yag h (fun h => ?_) (fun h => ?_)
  ·exact hJ2 _ h
  ·refine yag h (fun h => ?_) (fun h => ?_)
   ·obtain ⟨h0, h⟩ := h
    refine ⟨h0, ?_⟩
    obtain ⟨h0, h⟩ := h
    refine ⟨h0, ?_⟩
    obtain ⟨y5, h⟩ := h
    refine ⟨y5, ?_⟩
    obtain ⟨h0, h⟩ := h
    refine ⟨h0, ?_⟩
    exact hJ2 _ h
   ·exact hJ2 _ h
 ·exact h
theorem yoO (a0 : (List yaf)) (a1 : yab) (r0 : Int) (r1 : Int) (h : yi5 a0 a1 r0 r1) : ybK a0 a1 r0 r1 := by
 unfold ybK
 unfold yi5 at h
 intro X1 k
 exact h X1 (fun x1 x2 q => k x1 x2 (yla a0 a1 r0 r1 q))
def yfM : Sp KK := ⟨22, [.v 39, .v 29], [3, 3], appW (K := KK) [3, 3] [.v 39, .v 29] ybK⟩
def ynR : An KK := (.s .o (.s .o (.s (.s .o (.b (.l ⟨[(0, .kp 28), (3, .px 3 0), (6, .it .i64), (7, .it .i64)], [(3, 29, [.kp 31, .kp 32, .kp 33, .kp 34, .kp 35, .kp 36, .kp 37, .kp 38])], []⟩ (fun _ => (.s (.s .o (.c .o .o)) (.s (.b (.s (.j ⟨[(0, .kp 28), (3, .px 3 0), (6, .kp 53), (7, .kp 54), (36, .bl)], [(3, 29, [.kp 31, .kp 32, .kp 33, .kp 34, .kp 35, .kp 36, .kp 37, .kp 38])], []⟩ .o (fun _ => (.c .o .o))) (.s (.s .o (.c (.s .o .o) .o)) .o))) .o)))))) (.s (.s .o (.c (.s .o .o) .o)) (.s .o .o)))))
def ynF : Cf KK := ⟨CC, [], 43⟩
set_option maxRecDepth 100000 in
theorem yiy : SpOk Try.prog CC yfM := by
 intro env r hF h
 obtain ⟨a0, env0, rfl, h1⟩ := yam h
 obtain ⟨a1, env1, rfl, h2⟩ := yam h1
 obtain ⟨rfl, h3⟩ := yaw h2
 obtain ⟨r0, rr0, rfl, h4⟩ := yaz h3
 obtain ⟨r1, rr1, rfl, h5⟩ := yaz h4
 obtain ⟨rfl, h6⟩ := yaR h5
 refine ⟨rfl, yaE (F := ynF) ybe yaF t22 (A := ynR) (ps := [.v 39, .v 29]) (rs := [3, 3]) (env := [.d (.v 39 a0), .d (.v 29 a1)]) (r := [.v 3 r0, .v 3 r1]) (X := ybK a0 a1 r0 r1) (by kernel_rfl) (Nat.le_of_ble_eq_true (by kernel_rfl)) rfl hF h6 ?_⟩
 kernel_rfl
def ycA (a0 : Int) (r0 : yaa) : Prop :=
 (⟨a0, (0 : Int), ([] : Str)⟩ : yaa) = r0
def ygC : Sp KK := ⟨24, [.v 3], [26], appW (K := KK) [26] [.v 3] ycA⟩
def ylj : An KK := (.s .o (.s .o .o))
def ylb : Cf KK := ⟨CC, [], 5⟩
set_option maxRecDepth 100000 in
theorem ylW : SpOk Try.prog CC ygC := by
 intro env r hF h
 obtain ⟨a0, env0, rfl, h1⟩ := yam h
 obtain ⟨rfl, h2⟩ := yaw h1
 obtain ⟨r0, rr0, rfl, h3⟩ := yaz h2
 obtain ⟨rfl, h4⟩ := yaR h3
 refine ⟨rfl, yaE (F := ylb) ybe yaF t24 (A := ylj) (ps := [.v 3]) (rs := [26]) (env := [.d (.v 3 a0)]) (r := [.v 26 r0]) (X := ycA a0 r0) (by kernel_rfl) (Nat.le_of_ble_eq_true (by kernel_rfl)) rfl hF h4 ?_⟩
 kernel_rfl
def yaq (a0 : Bool) (r0 : yaa) : Prop :=
 cnd a0 ((⟨(1 : Int), (1 : Int), ([] : Str)⟩ : yaa) = r0) ((⟨(1 : Int), (0 : Int), ([] : Str)⟩ : yaa) = r0)
def ygk : Sp KK := ⟨36, [.v 4], [26], appW (K := KK) [26] [.v 4] yaq⟩
def ykx : An KK := (.s .o (.s (.s .o (.c (.s .o .o) .o)) (.s .o .o)))
def yj9 : Cf KK := ⟨CC, [], 6⟩
set_option maxRecDepth 100000 in
theorem yj4 : SpOk Try.prog CC ygk := by
 intro env r hF h
 obtain ⟨a0, env0, rfl, h1⟩ := yam h
 obtain ⟨rfl, h2⟩ := yaw h1
 obtain ⟨r0, rr0, rfl, h3⟩ := yaz h2
 obtain ⟨rfl, h4⟩ := yaR h3
 refine ⟨rfl, yaE (F := yj9) ybe yaF t36 (A := ykx) (ps := [.v 4]) (rs := [26]) (env := [.d (.v 4 a0)]) (r := [.v 26 r0]) (X := yaq a0 r0) (by kernel_rfl) (Nat.le_of_ble_eq_true (by kernel_rfl)) rfl hF h4 ?_⟩
 kernel_rfl
def yeH (x1 : Int) (a0 : yaa) (a1 : yaa) (r0 : Bool) (X1 : Int → Prop) (x2 : Bool) : Prop :=
 cnd x2 ((0 <= x1 /\ x1 < (a0.S.length : Int)) /\ (0 <= x1 /\ x1 < (a1.S.length : Int)) /\ cnd (!((bAt a0.S x1) == (bAt a1.S x1))) ((0 <= x1 /\ x1 < (a0.S.length : Int)) /\ (0 <= x1 /\ x1 < (a1.S.length : Int)) /\ (decide ((bAt a0.S x1) < (bAt a1.S x1))) = r0) (X1 (IntKind.i64.wrap (x1 + (1 : Int))))) ((decide ((a0.S.length : Int) < (a1.S.length : Int))) = r0)
def yer (a0 : yaa) (a1 : yaa) (r0 : Bool) (X1 : Int → Prop) (x1 : Int) : Prop :=
 ∀ J2 : Bool -> Prop, (∀ (x2 : Bool), yeH x1 a0 a1 r0 X1 x2 -> J2 x2) -> cnd (decide (x1 < (a0.S.length : Int))) (J2 (decide (x1 < (a1.S.length : Int)))) (J2 false)
def yaI (a0 : yaa) (a1 : yaa) (r0 : Bool) : Prop :=
 cnd (!(a0.Kind == a1.Kind)) ((decide (a0.Kind < a1.Kind)) = r0) (cnd (a0.Kind == (3 : Int)) (∀ X1 : Int -> Prop, (∀ (x1 : Int), yer a0 a1 r0 X1 x1 -> X1 x1) -> X1 (0 : Int)) ((decide (a0.N < a1.N)) = r0))
def ybD (X1 : Int → Prop) (a0 : yaa) (a1 : yaa) (r0 : Bool) (x1 : Int) (x2 : Bool) : Prop :=
 cnd x2 ((0 <= x1 /\ x1 < (a0.S.length : Int)) /\ (0 <= x1 /\ x1 < (a1.S.length : Int)) /\ cnd (!((bAt a0.S x1) == (bAt a1.S x1))) ((0 <= x1 /\ x1 < (a0.S.length : Int)) /\ (0 <= x1 /\ x1 < (a1.S.length : Int)) /\ (decide ((bAt a0.S x1) < (bAt a1.S x1))) = r0) (X1 (IntKind.i64.wrap (x1 + (1 : Int))))) ((decide ((a0.S.length : Int) < (a1.S.length : Int))) = r0)
def yc6 (a0 : yaa) (a1 : yaa) (r0 : Bool) (X1 : Int → Prop) (x1 : Int) : Prop :=
 cnd (decide (x1 < (a0.S.length : Int))) (ybD X1 a0 a1 r0 x1 (decide (x1 < (a1.S.length : Int)))) (ybD X1 a0 a1 r0 x1 false)
def ygP (a0 : yaa) (a1 : yaa) (r0 : Bool) : Prop :=
 cnd (!(a0.Kind == a1.Kind)) ((decide (a0.Kind < a1.Kind)) = r0) (cnd (a0.Kind == (3 : Int)) (∀ X1 : Int -> Prop, (∀ (x1 : Int), yc6 a0 a1 r0 X1 x1 -> X1 x1) -> X1 (0 : Int)) ((decide (a0.N < a1.N)) = r0))
theorem yjm (X1 : Int → Prop) (a0 : yaa) (a1 : yaa) (r0 : Bool) (x1 : Int) {x2 : Bool} (h : ybD X1 a0 a1 r0 x1 x2) : yeH x1 a0 a1 r0 X1 x2 := by
 unfold yeH
 unfold ybD at h
 exact h
theorem yjF (a0 : yaa) (a1 : yaa) (r0 : Bool) {X1 : Int → Prop} {x1 : Int} (h : yc6 a0 a1 r0 X1 x1) : yer a0 a1 r0 X1 x1 := by
 unfold yer
 unfold yc6 at h
 intro J2 kJ2
 have hJ2 : ∀ (x2 : Bool), ybD X1 a0 a1 r0 x1 x2 -> J2 x2 := fun x2 q => kJ2 x2 (yjm X1 a0 a1 r0 x1 q)
 refine yag h (fun h => ?_) (fun h => ?_)
 ·exact hJ2 _ h
 ·exact hJ2 _ h
theorem yms (a0 : yaa) (a1 : yaa) (r0 : Bool) (h : ygP a0 a1 r0) : yaI a0 a1 r0 := by
 unfold yaI
 unfold ygP at h
 refine yag h (fun h => ?_) (fun h => ?_)
 ·exact h
 ·refine yag h (fun h => ?_) (fun h => ?_)
  ·intro X1 k
   exact h X1 (fun x1 q => k x1 (yjF a0 a1 r0 q))
  ·exact h
def ygO : Sp KK := ⟨37, [.v 26, .v 26], [4], appW (K := KK) [4] [.v 26, .v 26] yaI⟩
def ylp : An KK := (.s .o (.s (.s .o (.c (.s .o .o) .o)) (.s (.s .o (.c (.s (.s .o (.b (.l ⟨[(2, .px 2 0), (3, .px 3 0), (5, .it .i64)], [(2, 26, [.kp 35, .kp 36, .kp 37]), (3, 26, [.kp 38, .kp 39, .kp 40])], []⟩ (fun _ => (.s (.j ⟨[(2, .px 2 0), (3, .px 3 0), (5, .kp 44), (30, .bl)], [(2, 26, [.kp 35, .kp 36, .kp 37]), (3, 26, [.kp 38, .kp 39, .kp 40])], []⟩ .o (fun _ => (.c .o .o))) (.s (.b (.s .o (.c (.s .o .o) .o))) .o)))))) (.s .o .o)) .o)) (.s .o .o))))
def ylA : Cf KK := ⟨CC, [], 63⟩
set_option maxRecDepth 100000 in
theorem yk9 : SpOk Try.prog CC ygO := by
 intro env r hF h
 obtain ⟨a0, env0, rfl, h1⟩ := yam h
 obtain ⟨a1, env1, rfl, h2⟩ := yam h1
 obtain ⟨rfl, h3⟩ := yaw h2
 obtain ⟨r0, rr0, rfl, h4⟩ := yaz h3
 obtain ⟨rfl, h5⟩ := yaR h4
 refine ⟨rfl, yaE (F := ylA) ybe yaF t37 (A := ylp) (ps := [.v 26, .v 26]) (rs := [4]) (env := [.d (.v 26 a0), .d (.v 26 a1)]) (r := [.v 4 r0]) (X := yaI a0 a1 r0) (by kernel_rfl) (Nat.le_of_ble_eq_true (by kernel_rfl)) rfl hF h5 ?_⟩
 kernel_rfl
def ygT (r0 : Int) (r1 : Bool) (a0 : Int) (a1 : Int) (x1 : Bool) : Prop :=
 cnd x1 ((0 : Int) = r0 /\ false = r1) ((IntKind.i64.wrap (a0 + a1)) = r0 /\ true = r1)
def ycq (a0 : Int) (a1 : Int) (r0 : Int) (r1 : Bool) : Prop :=
 ∀ J1 : Bool -> Prop, (∀ (x1 : Bool), ygT r0 r1 a0 a1 x1 -> J1 x1) -> cnd (decide ((0 : Int) < a1)) (cnd (decide ((IntKind.i64.wrap ((9223372036854775807 : Int) - a1)) < a0)) (J1 true) (cnd (decide (a1 < (0 : Int))) (J1 (decide (a0 < (IntKind.i64.wrap ((-9223372036854775808 : Int) - a1))))) (J1 false))) (cnd (decide (a1 < (0 : Int))) (J1 (decide (a0 < (IntKind.i64.wrap ((-9223372036854775808 : Int) - a1))))) (J1 false))
def ybs (a0 : Int) (a1 : Int) (r0 : Int) (r1 : Bool) (x1 : Bool) : Prop :=
 cnd x1 ((0 : Int) = r0 /\ false = r1) ((IntKind.i64.wrap (a0 + a1)) = r0 /\ true = r1)
def ygI (a0 : Int) (a1 : Int) (r0 : Int) (r1 : Bool) : Prop :=
 cnd (decide ((0 : Int) < a1)) (cnd (decide ((IntKind.i64.wrap ((9223372036854775807 : Int) - a1)) < a0)) (ybs a0 a1 r0 r1 true) (cnd (decide (a1 < (0 : Int))) (ybs a0 a1 r0 r1 (decide (a0 < (IntKind.i64.wrap ((-9223372036854775808 : Int) - a1))))) (ybs a0 a1 r0 r1 false))) (cnd (decide (a1 < (0 : Int))) (ybs a0 a1 r0 r1 (decide (a0 < (IntKind.i64.wrap ((-9223372036854775808 : Int) - a1))))) (ybs a0 a1 r0 r1 false))
theorem ymV (a0 : Int) (a1 : Int) (r0 : Int) (r1 : Bool) {x1 : Bool} (h : ybs a0 a1 r0 r1 x1) : ygT r0 r1 a0 a1 x1 := by
 unfold ygT
 unfold ybs at h
 exact h
theorem ypM (a0 : Int) (a1 : Int) (r0 : Int) (r1 : Bool) (h : ygI a0 a1 r0 r1) : ycq a0 a1 r0 r1 := by
 unfold ycq
 unfold ygI at h
 intro J1 kJ1
 have hJ1 : ∀ (x1 : Bool), ybs a0 a1 r0 r1 x1 -> J1 x1 := fun x1 q => kJ1 x1 (ymV a0 a1 r0 r1 q)
 refine yag h (fun h => ?_) (fun h => ?_)
 ·refine yag h (fun h => ?_) (fun h => ?_)
  ·exact hJ1 _ h
  ·refine yag h (fun h => ?_) (fun h => ?_)
   ·exact hJ1 _ h
   ·exact hJ1 _ h
 ·refine yag h (fun h => ?_) (fun h => ?_)
  ·exact hJ1 _ h
  ·exact hJ1 _ h
def yjQ : Sp KK := ⟨38, [.v 2, .v 2], [2, 4], appW (K := KK) [2, 4] [.v 2, .v 2] ycq⟩
def ypg : An KK := (.s .o (.s (.j ⟨[(0, .kp 3), (1, .kp 4), (23, .bl)], [], []⟩ .o (fun _ => (.c (.s .o .o) .o))) (.s .o .o)))
def ypn : Cf KK := ⟨CC, [], 27⟩
set_option maxRecDepth 100000 in
theorem yoZ : SpOk Try.prog CC yjQ := by
 intro env r hF h
 obtain ⟨a0, env0, rfl, h1⟩ := yam h
 obtain ⟨a1, env1, rfl, h2⟩ := yam h1
 obtain ⟨rfl, h3⟩ := yaw h2
 obtain ⟨r0, rr0, rfl, h4⟩ := yaz h3
 obtain ⟨r1, rr1, rfl, h5⟩ := yaz h4
 obtain ⟨rfl, h6⟩ := yaR h5
 refine ⟨rfl, yaE (F := ypn) ybe yaF t38 (A := ypg) (ps := [.v 2, .v 2]) (rs := [2, 4]) (env := [.d (.v 2 a0), .d (.v 2 a1)]) (r := [.v 2 r0, .v 4 r1]) (X := ycq a0 a1 r0 r1) (by kernel_rfl) (Nat.le_of_ble_eq_true (by kernel_rfl)) rfl hF h6 ?_⟩
 kernel_rfl
def ye1 (r0 : Int) (r1 : Bool) (a1 : Int) (a0 : Int) (x2 : Bool) : Prop :=
 cnd x2 ((0 : Int) = r0 /\ false = r1) ((a1 ≠ 0) /\ (IntKind.i64.wrap (a0 * a1)) = r0 /\ ((IntKind.i64.wrap ((IntKind.i64.wrap (a0 * a1)).tdiv a1)) == a0) = r1)
def yfd (r0 : Int) (r1 : Bool) (a1 : Int) (a0 : Int) (x1 : Bool) : Prop :=
 cnd x1 ((0 : Int) = r0 /\ true = r1) (∀ J2 : Bool -> Prop, (∀ (x2 : Bool), ye1 r0 r1 a1 a0 x2 -> J2 x2) -> cnd (a0 == (-1 : Int)) (cnd (a1 == (-9223372036854775808 : Int)) (J2 true) (cnd (a1 == (-1 : Int)) (J2 (a0 == (-9223372036854775808 : Int))) (J2 false))) (cnd (a1 == (-1 : Int)) (J2 (a0 == (-9223372036854775808 : Int))) (J2 false)))
def ycr (a0 : Int) (a1 : Int) (r0 : Int) (r1 : Bool) : Prop :=
 ∀ J1 : Bool -> Prop, (∀ (x1 : Bool), yfd r0 r1 a1 a0 x1 -> J1 x1) -> cnd (a0 == (0 : Int)) (J1 true) (J1 (a1 == (0 : Int)))
def yaQ (a0 : Int) (a1 : Int) (r0 : Int) (r1 : Bool) (x2 : Bool) : Prop :=
 cnd x2 ((0 : Int) = r0 /\ false = r1) ((a1 ≠ 0) /\ (IntKind.i64.wrap (a0 * a1)) = r0 /\ ((IntKind.i64.wrap ((IntKind.i64.wrap (a0 * a1)).tdiv a1)) == a0) = r1)
def ybf (a0 : Int) (a1 : Int) (r0 : Int) (r1 : Bool) (x1 : Bool) : Prop :=
 cnd x1 ((0 : Int) = r0 /\ true = r1) (cnd (a0 == (-1 : Int)) (cnd (a1 == (-9223372036854775808 : Int)) (yaQ a0 a1 r0 r1 true) (cnd (a1 == (-1 : Int)) (yaQ a0 a1 r0 r1 (a0 == (-9223372036854775808 : Int))) (yaQ a0 a1 r0 r1 false))) (cnd (a1 == (-1 : Int)) (yaQ a0 a1 r0 r1 (a0 == (-9223372036854775808 : Int))) (yaQ a0 a1 r0 r1 false)))
def yc1 (a0 : Int) (a1 : Int) (r0 : Int) (r1 : Bool) : Prop :=
 cnd (a0 == (0 : Int)) (ybf a0 a1 r0 r1 true) (ybf a0 a1 r0 r1 (a1 == (0 : Int)))
theorem yj5 (a0 : Int) (a1 : Int) (r0 : Int) (r1 : Bool) {x2 : Bool} (h : yaQ a0 a1 r0 r1 x2) : ye1 r0 r1 a1 a0 x2 := by
 unfold ye1
 unfold yaQ at h
 exact h
theorem yka (a0 : Int) (a1 : Int) (r0 : Int) (r1 : Bool) {x1 : Bool} (h : ybf a0 a1 r0 r1 x1) : yfd r0 r1 a1 a0 x1 := by
 unfold yfd
 unfold ybf at h
 refine yag h (fun h => ?_) (fun h => ?_)
 ·exact h
 ·intro J2 kJ2
  have hJ2 : ∀ (x2 : Bool), yaQ a0 a1 r0 r1 x2 -> J2 x2 := fun x2 q => kJ2 x2 (yj5 a0 a1 r0 r1 q)
  refine yag h (fun h => ?_) (fun h => ?_)
  ·refine yag h (fun h => ?_) (fun h => ?_)
   ·exact hJ2 _ h
   ·refine yag h (fun h => ?_) (fun h => ?_)
    ·exact hJ2 _ h
    ·exact hJ2 _ h
  ·refine yag h (fun h => ?_) (fun h => ?_)
   ·exact hJ2 _ h
   ·exact hJ2 _ h
theorem yf2 (a0 : Int) (a1 : Int) (r0 : Int) (r1 : Bool) (h : yc1 a0 a1 r0 r1) : ycr a0 a1 r0 r1 := by
 unfold ycr
 unfold yc1 at h
 intro J1 kJ1
 have hJ1 : ∀ (x1 : Bool), ybf a0 a1 r0 r1 x1 -> J1 x1 := fun x1 q => kJ1 x1 (yka a0 a1 r0 r1 q)
 refine yag h (fun h => ?_) (fun h => ?_)
 ·exact hJ1 _ h
 ·exact hJ1 _ h
def yhM : Sp KK := ⟨39, [.v 2, .v 2], [2, 4], appW (K := KK) [2, 4] [.v 2, .v 2] ycr⟩
def ymf : An KK := (.s .o (.s (.j ⟨[(0, .kp 3), (1, .kp 4), (12, .bl)], [], []⟩ .o (fun _ => (.c (.s .o .o) .o))) (.s .o (.s (.j ⟨[(0, .kp 3), (1, .kp 4), (6, .kp 6), (29, .bl)], [], []⟩ .o (fun _ => (.c (.s .o .o) .o))) (.s .o .o)))))
def ymy : Cf KK := ⟨CC, [], 36⟩
set_option maxRecDepth 100000 in
theorem ymU : SpOk Try.prog CC yhM := by
 intro env r hF h
 obtain ⟨a0, env0, rfl, h1⟩ := yam h
 obtain ⟨a1, env1, rfl, h2⟩ := yam h1
 obtain ⟨rfl, h3⟩ := yaw h2
 obtain ⟨r0, rr0, rfl, h4⟩ := yaz h3
 obtain ⟨r1, rr1, rfl, h5⟩ := yaz h4
 obtain ⟨rfl, h6⟩ := yaR h5
 refine ⟨rfl, yaE (F := ymy) ybe yaF t39 (A := ymf) (ps := [.v 2, .v 2]) (rs := [2, 4]) (env := [.d (.v 2 a0), .d (.v 2 a1)]) (r := [.v 2 r0, .v 4 r1]) (X := ycr a0 a1 r0 r1) (by kernel_rfl) (Nat.le_of_ble_eq_true (by kernel_rfl)) rfl hF h6 ?_⟩
 kernel_rfl
def yhW (z9 : yaa) (r0 : yaa) (r1 : Int) (x1 : Bool) (a0 : Int) (x10 : Bool) : Prop :=
 cnd x10 (z9 = r0 /\ (0 : Int) = r1) (cnd x1 ((⟨(0 : Int), (0 : Int), ([] : Str)⟩ : yaa) = r0 /\ (0 : Int) = r1) (∃ z11 : yaa, (yaq (a0 == (13 : Int)) z11) /\ z11 = r0 /\ (0 : Int) = r1))
def yg4 (r0 : yaa) (r1 : Int) (x22 : Int) (x23 : Bool) : Prop :=
 cnd (!x23) ((⟨(0 : Int), (0 : Int), ([] : Str)⟩ : yaa) = r0 /\ (8 : Int) = r1) ((⟨(2 : Int), x22, ([] : Str)⟩ : yaa) = r0 /\ (0 : Int) = r1)
def yh4 (a0 : Int) (r0 : yaa) (r1 : Int) (x1 : Bool) (a1 : yaa) (a2 : yaa) (x8 : Bool) : Prop :=
 cnd x8 (∃ z9 : yaa, (yaq (a0 == (14 : Int)) z9) /\ ∀ J9 : Bool -> Prop, (∀ (x10 : Bool), yhW z9 r0 r1 x1 a0 x10 -> J9 x10) -> cnd ((a1.Kind == z9.Kind) && ((a1.N == z9.N) && ((a1.S == z9.S) && true))) (J9 true) (J9 ((a2.Kind == z9.Kind) && ((a2.N == z9.N) && ((a2.S == z9.S) && true))))) (cnd x1 ((⟨(0 : Int), (0 : Int), ([] : Str)⟩ : yaa) = r0 /\ (0 : Int) = r1) (cnd (a0 == (1 : Int)) (∃ z12 : yaa, (yaq ((a1.Kind == a2.Kind) && ((a1.N == a2.N) && ((a1.S == a2.S) && true))) z12) /\ z12 = r0 /\ (0 : Int) = r1) (cnd (a0 == (2 : Int)) (∃ z13 : yaa, (yaq (!((a1.Kind == a2.Kind) && ((a1.N == a2.N) && ((a1.S == a2.S) && true)))) z13) /\ z13 = r0 /\ (0 : Int) = r1) (cnd (a0 == (3 : Int)) (∃ z14 : Bool, (yaI a1 a2 z14) /\ ∃ z15 : yaa, (yaq z14 z15) /\ z15 = r0 /\ (0 : Int) = r1) (cnd (a0 == (4 : Int)) (∃ z16 : Bool, (yaI a2 a1 z16) /\ ∃ z17 : yaa, (yaq (!z16) z17) /\ z17 = r0 /\ (0 : Int) = r1) (cnd (a0 == (5 : Int)) (∃ z18 : Bool, (yaI a2 a1 z18) /\ ∃ z19 : yaa, (yaq z18 z19) /\ z19 = r0 /\ (0 : Int) = r1) (cnd (a0 == (6 : Int)) (∃ z20 : Bool, (yaI a1 a2 z20) /\ ∃ z21 : yaa, (yaq (!z20) z21) /\ z21 = r0 /\ (0 : Int) = r1) (cnd (a0 == (12 : Int)) ((a1.S.length + a2.S.length <= 9223372036854775807) /\ cnd (decide ((64 : Int) < ((a1.S ++ a2.S).length : Int))) ((⟨(0 : Int), (0 : Int), ([] : Str)⟩ : yaa) = r0 /\ (8 : Int) = r1) ((a1.S.length + a2.S.length <= 9223372036854775807) /\ (⟨(3 : Int), (0 : Int), a1.S ++ a2.S⟩ : yaa) = r0 /\ (0 : Int) = r1)) (∀ J10 : Int -> Bool -> Prop, (∀ (x22 : Int) (x23 : Bool), yg4 r0 r1 x22 x23 -> J10 x22 x23) -> cnd (a0 == (7 : Int)) (∃ z24 : Int, ∃ z25 : Bool, (ycq a1.N a2.N z24 z25) /\ J10 z24 z25) (cnd (a0 == (8 : Int)) (cnd (a2.N == (-9223372036854775808 : Int)) (J10 (IntKind.i64.wrap (a1.N - a2.N)) (decide (a1.N < (0 : Int)))) (∃ z26 : Int, ∃ z27 : Bool, (ycq a1.N (IntKind.i64.wrap (0 - a2.N)) z26 z27) /\ J10 z26 z27)) (cnd (a0 == (9 : Int)) (∃ z28 : Int, ∃ z29 : Bool, (ycr a1.N a2.N z28 z29) /\ J10 z28 z29) (cnd (a2.N == (0 : Int)) ((⟨(0 : Int), (0 : Int), ([] : Str)⟩ : yaa) = r0 /\ (9 : Int) = r1) (cnd (a2.N == (-1 : Int)) (cnd (a0 == (11 : Int)) ((⟨(2 : Int), (0 : Int), ([] : Str)⟩ : yaa) = r0 /\ (0 : Int) = r1) (J10 (IntKind.i64.wrap (0 - a1.N)) (!(a1.N == (-9223372036854775808 : Int))))) (cnd (a0 == (10 : Int)) ((a2.N ≠ 0) /\ J10 (IntKind.i64.wrap (a1.N.tdiv a2.N)) true) ((a2.N ≠ 0) /\ J10 (IntKind.i64.wrap (a1.N - (IntKind.i64.wrap ((IntKind.i64.wrap (a1.N.tdiv a2.N)) * a2.N)))) true)))))))))))))))
def yip (r0 : yaa) (r1 : Int) (a0 : Int) (x1 : Bool) (a1 : yaa) (a2 : yaa) (x7 : Bool) : Prop :=
 cnd x7 ((⟨(0 : Int), (0 : Int), ([] : Str)⟩ : yaa) = r0 /\ (5 : Int) = r1) (∀ J8 : Bool -> Prop, (∀ (x8 : Bool), yh4 a0 r0 r1 x1 a1 a2 x8 -> J8 x8) -> cnd (a0 == (13 : Int)) (J8 true) (J8 (a0 == (14 : Int))))
def yij (r0 : yaa) (r1 : Int) (a0 : Int) (x1 : Bool) (a1 : yaa) (a2 : yaa) (x6 : Int) : Prop :=
 ∀ J7 : Bool -> Prop, (∀ (x7 : Bool), yip r0 r1 a0 x1 a1 a2 x7 -> J7 x7) -> cnd (decide ((0 : Int) < x6)) (cnd (!(a1.Kind == (0 : Int))) (cnd (!(a1.Kind == x6)) (J7 true) (cnd (!(a2.Kind == (0 : Int))) (J7 (!(a2.Kind == x6))) (J7 false))) (cnd (!(a2.Kind == (0 : Int))) (J7 (!(a2.Kind == x6))) (J7 false))) (J7 false)
def yhO (r0 : yaa) (r1 : Int) (a0 : Int) (x1 : Bool) (a1 : yaa) (a2 : yaa) (x5 : Int) : Prop :=
 ∀ J6 : Int -> Prop, (∀ (x6 : Int), yij r0 r1 a0 x1 a1 a2 x6 -> J6 x6) -> cnd (decide ((13 : Int) <= a0)) (J6 (1 : Int)) (J6 x5)
def yhS (r0 : yaa) (r1 : Int) (a0 : Int) (x1 : Bool) (a1 : yaa) (a2 : yaa) (x4 : Int) : Prop :=
 ∀ J5 : Int -> Prop, (∀ (x5 : Int), yhO r0 r1 a0 x1 a1 a2 x5 -> J5 x5) -> cnd (a0 == (12 : Int)) (J5 (3 : Int)) (J5 x4)
def yig (r0 : yaa) (r1 : Int) (a0 : Int) (x1 : Bool) (a1 : yaa) (a2 : yaa) (x3 : Bool) : Prop :=
 cnd x3 ((⟨(0 : Int), (0 : Int), ([] : Str)⟩ : yaa) = r0 /\ (5 : Int) = r1) (∀ J4 : Int -> Prop, (∀ (x4 : Int), yhS r0 r1 a0 x1 a1 a2 x4 -> J4 x4) -> cnd (decide ((7 : Int) <= a0)) (J4 (2 : Int)) (J4 (0 : Int)))
def yii (r0 : yaa) (r1 : Int) (a0 : Int) (x1 : Bool) (a1 : yaa) (a2 : yaa) (x2 : Bool) : Prop :=
 cnd x2 ((⟨(0 : Int), (0 : Int), ([] : Str)⟩ : yaa) = r0 /\ (1 : Int) = r1) (∀ J3 : Bool -> Prop, (∀ (x3 : Bool), yig r0 r1 a0 x1 a1 a2 x3 -> J3 x3) -> cnd (decide (a0 <= (6 : Int))) (cnd (!x1) (J3 (!(a1.Kind == a2.Kind))) (J3 false)) (J3 false))
def yh3 (r0 : yaa) (r1 : Int) (a0 : Int) (a1 : yaa) (a2 : yaa) (x1 : Bool) : Prop :=
 ∀ J2 : Bool -> Prop, (∀ (x2 : Bool), yii r0 r1 a0 x1 a1 a2 x2 -> J2 x2) -> cnd (decide (a0 < (1 : Int))) (J2 true) (J2 (decide ((14 : Int) < a0)))
def ybF (a0 : Int) (a1 : yaa) (a2 : yaa) (r0 : yaa) (r1 : Int) : Prop :=
 ∀ J1 : Bool -> Prop, (∀ (x1 : Bool), yh3 r0 r1 a0 a1 a2 x1 -> J1 x1) -> cnd (a1.Kind == (0 : Int)) (J1 true) (J1 (a2.Kind == (0 : Int)))
def ydo (a0 : Int) (r0 : yaa) (r1 : Int) (x1 : Bool) (z9 : yaa) (x10 : Bool) : Prop :=
 cnd x10 (z9 = r0 /\ (0 : Int) = r1) (cnd x1 ((⟨(0 : Int), (0 : Int), ([] : Str)⟩ : yaa) = r0 /\ (0 : Int) = r1) (∃ z11 : yaa, (yaq (a0 == (13 : Int)) z11) /\ z11 = r0 /\ (0 : Int) = r1))
def yaN (r0 : yaa) (r1 : Int) (x22 : Int) (x23 : Bool) : Prop :=
 cnd (!x23) ((⟨(0 : Int), (0 : Int), ([] : Str)⟩ : yaa) = r0 /\ (8 : Int) = r1) ((⟨(2 : Int), x22, ([] : Str)⟩ : yaa) = r0 /\ (0 : Int) = r1)
def ycO (a0 : Int) (a1 : yaa) (a2 : yaa) (r0 : yaa) (r1 : Int) (x1 : Bool) (x8 : Bool) : Prop :=
 cnd x8 (∃ z9 : yaa, (yaq (a0 == (14 : Int)) z9) /\ cnd ((a1.Kind == z9.Kind) && ((a1.N == z9.N) && ((a1.S == z9.S) && true))) (ydo a0 r0 r1 x1 z9 true) (ydo a0 r0 r1 x1 z9 ((a2.Kind == z9.Kind) && ((a2.N == z9.N) && ((a2.S == z9.S) && true))))) (cnd x1 ((⟨(0 : Int), (0 : Int), ([] : Str)⟩ : yaa) = r0 /\ (0 : Int) = r1) (cnd (a0 == (1 : Int)) (∃ z12 : yaa, (yaq ((a1.Kind == a2.Kind) && ((a1.N == a2.N) && ((a1.S == a2.S) && true))) z12) /\ z12 = r0 /\ (0 : Int) = r1) (cnd (a0 == (2 : Int)) (∃ z13 : yaa, (yaq (!((a1.Kind == a2.Kind) && ((a1.N == a2.N) && ((a1.S == a2.S) && true)))) z13) /\ z13 = r0 /\ (0 : Int) = r1) (cnd (a0 == (3 : Int)) (∃ z14 : Bool, (yaI a1 a2 z14) /\ ∃ z15 : yaa, (yaq z14 z15) /\ z15 = r0 /\ (0 : Int) = r1) (cnd (a0 == (4 : Int)) (∃ z16 : Bool, (yaI a2 a1 z16) /\ ∃ z17 : yaa, (yaq (!z16) z17) /\ z17 = r0 /\ (0 : Int) = r1) (cnd (a0 == (5 : Int)) (∃ z18 : Bool, (yaI a2 a1 z18) /\ ∃ z19 : yaa, (yaq z18 z19) /\ z19 = r0 /\ (0 : Int) = r1) (cnd (a0 == (6 : Int)) (∃ z20 : Bool, (yaI a1 a2 z20) /\ ∃ z21 : yaa, (yaq (!z20) z21) /\ z21 = r0 /\ (0 : Int) = r1) (cnd (a0 == (12 : Int)) ((a1.S.length + a2.S.length <= 9223372036854775807) /\ cnd (decide ((64 : Int) < ((a1.S ++ a2.S).length : Int))) ((⟨(0 : Int), (0 : Int), ([] : Str)⟩ : yaa) = r0 /\ (8 : Int) = r1) ((a1.S.length + a2.S.length <= 9223372036854775807) /\ (⟨(3 : Int), (0 : Int), a1.S ++ a2.S⟩ : yaa) = r0 /\ (0 : Int) = r1)) (cnd (a0 == (7 : Int)) (∃ z24 : Int, ∃ z25 : Bool, (ycq a1.N a2.N z24 z25) /\ yaN r0 r1 z24 z25) (cnd (a0 == (8 : Int)) (cnd (a2.N == (-9223372036854775808 : Int)) (yaN r0 r1 (IntKind.i64.wrap (a1.N - a2.N)) (decide (a1.N < (0 : Int)))) (∃ z26 : Int, ∃ z27 : Bool, (ycq a1.N (IntKind.i64.wrap (0 - a2.N)) z26 z27) /\ yaN r0 r1 z26 z27)) (cnd (a0 == (9 : Int)) (∃ z28 : Int, ∃ z29 : Bool, (ycr a1.N a2.N z28 z29) /\ yaN r0 r1 z28 z29) (cnd (a2.N == (0 : Int)) ((⟨(0 : Int), (0 : Int), ([] : Str)⟩ : yaa) = r0 /\ (9 : Int) = r1) (cnd (a2.N == (-1 : Int)) (cnd (a0 == (11 : Int)) ((⟨(2 : Int), (0 : Int), ([] : Str)⟩ : yaa) = r0 /\ (0 : Int) = r1) (yaN r0 r1 (IntKind.i64.wrap (0 - a1.N)) (!(a1.N == (-9223372036854775808 : Int))))) (cnd (a0 == (10 : Int)) ((a2.N ≠ 0) /\ yaN r0 r1 (IntKind.i64.wrap (a1.N.tdiv a2.N)) true) ((a2.N ≠ 0) /\ yaN r0 r1 (IntKind.i64.wrap (a1.N - (IntKind.i64.wrap ((IntKind.i64.wrap (a1.N.tdiv a2.N)) * a2.N)))) true)))))))))))))))
def ybh (a0 : Int) (a1 : yaa) (a2 : yaa) (r0 : yaa) (r1 : Int) (x1 : Bool) (x7 : Bool) : Prop :=
 cnd x7 ((⟨(0 : Int), (0 : Int), ([] : Str)⟩ : yaa) = r0 /\ (5 : Int) = r1) (cnd (a0 == (13 : Int)) (ycO a0 a1 a2 r0 r1 x1 true) (ycO a0 a1 a2 r0 r1 x1 (a0 == (14 : Int))))
def ycn (a0 : Int) (a1 : yaa) (a2 : yaa) (r0 : yaa) (r1 : Int) (x1 : Bool) (x6 : Int) : Prop :=
 cnd (decide ((0 : Int) < x6)) (cnd (!(a1.Kind == (0 : Int))) (cnd (!(a1.Kind == x6)) (ybh a0 a1 a2 r0 r1 x1 true) (cnd (!(a2.Kind == (0 : Int))) (ybh a0 a1 a2 r0 r1 x1 (!(a2.Kind == x6))) (ybh a0 a1 a2 r0 r1 x1 false))) (cnd (!(a2.Kind == (0 : Int))) (ybh a0 a1 a2 r0 r1 x1 (!(a2.Kind == x6))) (ybh a0 a1 a2 r0 r1 x1 false))) (ybh a0 a1 a2 r0 r1 x1 false)
def ydn (a0 : Int) (a1 : yaa) (a2 : yaa) (r0 : yaa) (r1 : Int) (x1 : Bool) (x5 : Int) : Prop :=
 cnd (decide ((13 : Int) <= a0)) (ycn a0 a1 a2 r0 r1 x1 (1 : Int)) (ycn a0 a1 a2 r0 r1 x1 x5)
def ydh (a0 : Int) (a1 : yaa) (a2 : yaa) (r0 : yaa) (r1 : Int) (x1 : Bool) (x4 : Int) : Prop :=
 cnd (a0 == (12 : Int)) (ydn a0 a1 a2 r0 r1 x1 (3 : Int)) (ydn a0 a1 a2 r0 r1 x1 x4)
def ybI (a0 : Int) (a1 : yaa) (a2 : yaa) (r0 : yaa) (r1 : Int) (x1 : Bool) (x3 : Bool) : Prop :=
 cnd x3 ((⟨(0 : Int), (0 : Int), ([] : Str)⟩ : yaa) = r0 /\ (5 : Int) = r1) (cnd (decide ((7 : Int) <= a0)) (ydh a0 a1 a2 r0 r1 x1 (2 : Int)) (ydh a0 a1 a2 r0 r1 x1 (0 : Int)))
def ycm (a0 : Int) (a1 : yaa) (a2 : yaa) (r0 : yaa) (r1 : Int) (x1 : Bool) (x2 : Bool) : Prop :=
 cnd x2 ((⟨(0 : Int), (0 : Int), ([] : Str)⟩ : yaa) = r0 /\ (1 : Int) = r1) (cnd (decide (a0 <= (6 : Int))) (cnd (!x1) (ybI a0 a1 a2 r0 r1 x1 (!(a1.Kind == a2.Kind))) (ybI a0 a1 a2 r0 r1 x1 false)) (ybI a0 a1 a2 r0 r1 x1 false))
def ybO (a0 : Int) (a1 : yaa) (a2 : yaa) (r0 : yaa) (r1 : Int) (x1 : Bool) : Prop :=
 cnd (decide (a0 < (1 : Int))) (ycm a0 a1 a2 r0 r1 x1 true) (ycm a0 a1 a2 r0 r1 x1 (decide ((14 : Int) < a0)))
def yf5 (a0 : Int) (a1 : yaa) (a2 : yaa) (r0 : yaa) (r1 : Int) : Prop :=
 cnd (a1.Kind == (0 : Int)) (ybO a0 a1 a2 r0 r1 true) (ybO a0 a1 a2 r0 r1 (a2.Kind == (0 : Int)))
theorem ynf (a0 : Int) (r0 : yaa) (r1 : Int) (x1 : Bool) (z9 : yaa) {x10 : Bool} (h : ydo a0 r0 r1 x1 z9 x10) : yhW z9 r0 r1 x1 a0 x10 := by
 unfold yhW
 unfold ydo at h
 exact h
theorem ymu (r0 : yaa) (r1 : Int) {x22 : Int} {x23 : Bool} (h : yaN r0 r1 x22 x23) : yg4 r0 r1 x22 x23 := by
 unfold yg4
 unfold yaN at h
 exact h
theorem ynm (a0 : Int) (a1 : yaa) (a2 : yaa) (r0 : yaa) (r1 : Int) (x1 : Bool) {x8 : Bool} (h : ycO a0 a1 a2 r0 r1 x1 x8) : yh4 a0 r0 r1 x1 a1 a2 x8 := by
 unfold yh4
 unfold ycO at h
 refine yag h (fun h => ?_) (fun h => ?_)
 ·obtain ⟨z9, h⟩ := h
  refine ⟨z9, ?_⟩
  obtain ⟨h0, h⟩ := h
  refine ⟨h0, ?_⟩
  intro J9 kJ9
  have hJ9 : ∀ (x10 : Bool), ydo a0 r0 r1 x1 z9 x10 -> J9 x10 := fun x10 q => kJ9 x10 (ynf a0 r0 r1 x1 z9 q)
  refine yag h (fun h => ?_) (fun h => ?_)
  ·exact hJ9 _ h
  ·exact hJ9 _ h
 ·refine yag h (fun h => ?_) (fun h => ?_)
  ·exact h
  ·refine yag h (fun h => ?_) (fun h => ?_)
   ·exact h
   ·refine yag h (fun h => ?_) (fun h => ?_)
    ·exact h
    ·refine yag h (fun h => ?_) (fun h => ?_)
     ·exact h
     ·refine yag h (fun h => ?_) (fun h => ?_)
      ·exact h
      ·refine yag h (fun h => ?_) (fun h => ?_)
       ·exact h
       ·refine yag h (fun h => ?_) (fun h => ?_)
        ·exact h
        ·refine yag h (fun h => ?_) (fun h => ?_)
         ·exact h
         ·intro J10 kJ10
          have hJ10 : ∀ (x22 : Int) (x23 : Bool), yaN r0 r1 x22 x23 -> J10 x22 x23 := fun x22 x23 q => kJ10 x22 x23 (ymu r0 r1 q)
          refine yag h (fun h => ?_) (fun h => ?_)
          ·obtain ⟨z24, h⟩ := h
           refine ⟨z24, ?_⟩
           obtain ⟨z25, h⟩ := h
           refine ⟨z25, ?_⟩
           obtain ⟨h0, h⟩ := h
           refine ⟨h0, ?_⟩
           exact hJ10 _ _ h
          ·refine yag h (fun h => ?_) (fun h => ?_)
           ·refine yag h (fun h => ?_) (fun h => ?_)
            ·exact hJ10 _ _ h
            ·obtain ⟨z26, h⟩ := h
             refine ⟨z26, ?_⟩
             obtain ⟨z27, h⟩ := h
             refine ⟨z27, ?_⟩
             obtain ⟨h0, h⟩ := h
             refine ⟨h0, ?_⟩
             exact hJ10 _ _ h
           ·refine yag h (fun h => ?_) (fun h => ?_)
            ·obtain ⟨z28, h⟩ := h
             refine ⟨z28, ?_⟩
             obtain ⟨z29, h⟩ := h
             refine ⟨z29, ?_⟩
             obtain ⟨h0, h⟩ := h
             refine ⟨h0, ?_⟩
             exact hJ10 _ _ h
            ·refine yag h (fun h => ?_) (fun h => ?_)
             ·exact h
             ·refine yag h (fun h => ?_) (fun h => ?_)
              ·refine yag h (fun h => ?_) (fun h => ?_)
               ·exact h
               ·exact hJ10 _ _ h
              ·refine yag h (fun h => ?_) (fun h => ?_)
               ·obtain ⟨h0, h⟩ := h
                refine ⟨h0, ?_⟩
                exact hJ10 _ _ h
               ·obtain ⟨h0, h⟩ := h
                refine ⟨h0, ?_⟩
                exact hJ10 _ _ h
theorem yoB (a0 : Int) (a1 : yaa) (a2 : yaa) (r0 : yaa) (r1 : Int) (x1 : Bool) {x7 : Bool} (h : ybh a0 a1 a2 r0 r1 x1 x7) : yip r0 r1 a0 x1 a1 a2 x7 := by
 unfold yip
 unfold ybh at h
 refine yag h (fun h => ?_) (fun h => ?_)
 ·exact h
 ·intro J8 kJ8
  have hJ8 : ∀ (x8 : Bool), ycO a0 a1 a2 r0 r1 x1 x8 -> J8 x8 := fun x8 q => kJ8 x8 (ynm a0 a1 a2 r0 r1 x1 q)
  refine yag h (fun h => ?_) (fun h => ?_)
  ·exact hJ8 _ h
  ·exact hJ8 _ h
theorem yod (a0 : Int) (a1 : yaa) (a2 : yaa) (r0 : yaa) (r1 : Int) (x1 : Bool) {x6 : Int} (h : ycn a0 a1 a2 r0 r1 x1 x6) : yij r0 r1 a0 x1 a1 a2 x6 := by
 unfold yij
 unfold ycn at h
 intro J7 kJ7
 have hJ7 : ∀ (x7 : Bool), ybh a0 a1 a2 r0 r1 x1 x7 -> J7 x7 := fun x7 q => kJ7 x7 (yoB a0 a1 a2 r0 r1 x1 q)
 refine yag h (fun h => ?_) (fun h => ?_)
 ·refine yag h (fun h => ?_) (fun h => ?_)
  ·refine yag h (fun h => ?_) (fun h => ?_)
   ·exact hJ7 _ h
   ·refine yag h (fun h => ?_) (fun h => ?_)
    ·exact hJ7 _ h
    ·exact hJ7 _ h
  ·refine yag h (fun h => ?_) (fun h => ?_)
   ·exact hJ7 _ h
   ·exact hJ7 _ h
 ·exact hJ7 _ h
theorem yot (a0 : Int) (a1 : yaa) (a2 : yaa) (r0 : yaa) (r1 : Int) (x1 : Bool) {x5 : Int} (h : ydn a0 a1 a2 r0 r1 x1 x5) : yhO r0 r1 a0 x1 a1 a2 x5 := by
 unfold yhO
 unfold ydn at h
 intro J6 kJ6
 have hJ6 : ∀ (x6 : Int), ycn a0 a1 a2 r0 r1 x1 x6 -> J6 x6 := fun x6 q => kJ6 x6 (yod a0 a1 a2 r0 r1 x1 q)
 refine yag h (fun h => ?_) (fun h => ?_)
 ·exact hJ6 _ h
 ·exact hJ6 _ h
theorem ynH (a0 : Int) (a1 : yaa) (a2 : yaa) (r0 : yaa) (r1 : Int) (x1 : Bool) {x4 : Int} (h : ydh a0 a1 a2 r0 r1 x1 x4) : yhS r0 r1 a0 x1 a1 a2 x4 := by
 unfold yhS
 unfold ydh at h
 intro J5 kJ5
 have hJ5 : ∀ (x5 : Int), ydn a0 a1 a2 r0 r1 x1 x5 -> J5 x5 := fun x5 q => kJ5 x5 (yot a0 a1 a2 r0 r1 x1 q)
 refine yag h (fun h => ?_) (fun h => ?_)
 ·exact hJ5 _ h
 ·exact hJ5 _ h
theorem yn6 (a0 : Int) (a1 : yaa) (a2 : yaa) (r0 : yaa) (r1 : Int) (x1 : Bool) {x3 : Bool} (h : ybI a0 a1 a2 r0 r1 x1 x3) : yig r0 r1 a0 x1 a1 a2 x3 := by
 unfold yig
 unfold ybI at h
 refine yag h (fun h => ?_) (fun h => ?_)
 ·exact h
 ·intro J4 kJ4
  have hJ4 : ∀ (x4 : Int), ydh a0 a1 a2 r0 r1 x1 x4 -> J4 x4 := fun x4 q => kJ4 x4 (ynH a0 a1 a2 r0 r1 x1 q)
  refine yag h (fun h => ?_) (fun h => ?_)
  ·exact hJ4 _ h
  ·exact hJ4 _ h
theorem yoD (a0 : Int) (a1 : yaa) (a2 : yaa) (r0 : yaa) (r1 : Int) (x1 : Bool) {x2 : Bool} (h : ycm a0 a1 a2 r0 r1 x1 x2) : yii r0 r1 a0 x1 a1 a2 x2 := by
 unfold yii
 unfold ycm at h
 refine yag h (fun h => ?_) (fun h => ?_)
 ·exact h
 ·intro J3 kJ3
  have hJ3 : ∀ (x3 : Bool), ybI a0 a1 a2 r0 r1 x1 x3 -> J3 x3 := fun x3 q => kJ3 x3 (yn6 a0 a1 a2 r0 r1 x1 q)
  refine yag h (fun h => ?_) (fun h => ?_)
  ·refine yag h (fun h => ?_) (fun h => ?_)
   ·exact hJ3 _ h
   ·exact hJ3 _ h
  ·exact hJ3 _ h
theorem ynC (a0 : Int) (a1 : yaa) (a2 : yaa) (r0 : yaa) (r1 : Int) {x1 : Bool} (h : ybO a0 a1 a2 r0 r1 x1) : yh3 r0 r1 a0 a1 a2 x1 := by
 unfold yh3
 unfold ybO at h
 intro J2 kJ2
 have hJ2 : ∀ (x2 : Bool), ycm a0 a1 a2 r0 r1 x1 x2 -> J2 x2 := fun x2 q => kJ2 x2 (yoD a0 a1 a2 r0 r1 x1 q)
 refine yag h (fun h => ?_) (fun h => ?_)
 ·exact hJ2 _ h
 ·exact hJ2 _ h
theorem yrf (a0 : Int) (a1 : yaa) (a2 : yaa) (r0 : yaa) (r1 : Int) (h : yf5 a0 a1 a2 r0 r1) : ybF a0 a1 a2 r0 r1 := by
 unfold ybF
 unfold yf5 at h
 intro J1 kJ1
 have hJ1 : ∀ (x1 : Bool), ybO a0 a1 a2 r0 r1 x1 -> J1 x1 := fun x1 q => kJ1 x1 (ynC a0 a1 a2 r0 r1 q)
 refine yag h (fun h => ?_) (fun h => ?_)
 ·exact hJ1 _ h
 ·exact hJ1 _ h
def yit : Sp KK := ⟨23, [.v 3, .v 26, .v 26], [26, 3], appW (K := KK) [26, 3] [.v 3, .v 26, .v 26] ybF⟩
def yqh : An KK := (.s .o (.j ⟨[(0, .kp 1), (4, .px 4 0), (5, .px 5 0), (6, .px 6 0), (8, .bl)], [(4, 26, [.kp 2, .kp 3, .kp 4]), (5, 26, [.kp 5, .kp 6, .kp 7]), (6, 26, [.kp 8, .kp 9, .kp 10])], []⟩ .o (fun _ => (.s (.j ⟨[(0, .kp 1), (4, .px 4 0), (5, .px 5 0), (6, .px 6 0), (8, .kp 12), (26, .bl)], [(4, 26, [.kp 2, .kp 3, .kp 4]), (5, 26, [.kp 5, .kp 6, .kp 7]), (6, 26, [.kp 8, .kp 9, .kp 10])], []⟩ .o (fun _ => (.c (.s .o .o) .o))) (.s (.j ⟨[(0, .kp 1), (4, .px 4 0), (5, .px 5 0), (6, .px 6 0), (8, .kp 12), (40, .bl)], [(4, 26, [.kp 2, .kp 3, .kp 4]), (5, 26, [.kp 5, .kp 6, .kp 7]), (6, 26, [.kp 8, .kp 9, .kp 10])], []⟩ .o (fun _ => (.c (.s .o .o) .o))) (.s .o (.j ⟨[(0, .kp 1), (4, .px 4 0), (5, .px 5 0), (6, .px 6 0), (8, .kp 12), (9, .it .i64)], [(4, 26, [.kp 2, .kp 3, .kp 4]), (5, 26, [.kp 5, .kp 6, .kp 7]), (6, 26, [.kp 8, .kp 9, .kp 10])], []⟩ (.s .o (.c .o .o)) (fun _ => (.j ⟨[(0, .kp 1), (4, .px 4 0), (5, .px 5 0), (6, .px 6 0), (8, .kp 12), (9, .it .i64)], [(4, 26, [.kp 2, .kp 3, .kp 4]), (5, 26, [.kp 5, .kp 6, .kp 7]), (6, 26, [.kp 8, .kp 9, .kp 10])], []⟩ (.s .o (.c .o .o)) (fun _ => (.j ⟨[(0, .kp 1), (4, .px 4 0), (5, .px 5 0), (6, .px 6 0), (8, .kp 12), (9, .it .i64)], [(4, 26, [.kp 2, .kp 3, .kp 4]), (5, 26, [.kp 5, .kp 6, .kp 7]), (6, 26, [.kp 8, .kp 9, .kp 10])], []⟩ (.s .o (.c .o .o)) (fun _ => (.s (.j ⟨[(0, .kp 1), (4, .px 4 0), (5, .px 5 0), (6, .px 6 0), (8, .kp 12), (71, .bl)], [(4, 26, [.kp 2, .kp 3, .kp 4]), (5, 26, [.kp 5, .kp 6, .kp 7]), (6, 26, [.kp 8, .kp 9, .kp 10])], []⟩ .o (fun _ => (.c (.s .o .o) .o))) (.s (.j ⟨[(0, .kp 1), (4, .px 4 0), (5, .px 5 0), (6, .px 6 0), (8, .kp 12), (78, .bl)], [(4, 26, [.kp 2, .kp 3, .kp 4]), (5, 26, [.kp 5, .kp 6, .kp 7]), (6, 26, [.kp 8, .kp 9, .kp 10])], []⟩ .o (fun _ => (.c (.s .o (.s (.j ⟨[(0, .kp 1), (6, .px 6 0), (8, .kp 12), (10, .px 10 0), (89, .bl)], [(6, 26, [.kp 8, .kp 9, .kp 10]), (10, 26, [.kp 22, .kp 23, .kp 24])], []⟩ .o (fun _ => (.c (.s .o .o) .o))) (.s (.s .o (.c (.s .o .o) .o)) (.s .o .o)))) .o))) (.s (.s .o (.c (.s .o .o) .o)) (.s (.s .o (.b (.s .o (.c (.s .o .o) (.s .o (.c (.s .o .o) (.s .o (.c (.s .o .o) (.s .o (.c (.s .o .o) (.s .o (.c (.s .o .o) (.s .o (.c (.s .o .o) (.s .o (.c (.s (.s .o (.c (.s .o .o) .o)) (.s .o .o)) .o)))))))))))))))) (.s .o (.j ⟨[(6, .px 6 0), (11, .it .i64), (12, .bl)], [(6, 26, [.kp 8, .kp 9, .kp 10])], []⟩ (.s .o (.b (.s .o (.c .o (.s .o (.c (.s .o (.c .o .o)) (.s .o (.c .o (.s (.s .o (.c (.s .o .o) .o)) (.s .o (.c (.s (.s .o (.c (.s .o .o) .o)) .o) (.s .o (.c .o .o))))))))))))) (fun _ => (.s (.s .o (.c (.s .o .o) .o)) (.s .o .o)))))))))))))))))))))
def yp5 : Cf KK := ⟨CC, [ygk, ygO, yjQ, yhM], 235⟩
set_option maxRecDepth 100000 in
theorem yll : SpOk Try.prog CC yit := by
 intro env r hF h
 obtain ⟨a0, env0, rfl, h1⟩ := yam h
 obtain ⟨a1, env1, rfl, h2⟩ := yam h1
 obtain ⟨a2, env2, rfl, h3⟩ := yam h2
 obtain ⟨rfl, h4⟩ := yaw h3
 obtain ⟨r0, rr0, rfl, h5⟩ := yaz h4
 obtain ⟨r1, rr1, rfl, h6⟩ := yaz h5
 obtain ⟨rfl, h7⟩ := yaR h6
 refine ⟨rfl, yaE (F := yp5) ybe (yas yj4 (yas yk9 (yas yoZ (yas ymU yaF)))) t23 (A := yqh) (ps := [.v 3, .v 26, .v 26]) (rs := [26, 3]) (env := [.d (.v 3 a0), .d (.v 26 a1), .d (.v 26 a2)]) (r := [.v 26 r0, .v 3 r1]) (X := ybF a0 a1 a2 r0 r1) (by kernel_rfl) (Nat.le_of_ble_eq_true (by kernel_rfl)) rfl hF h7 ?_⟩
 kernel_rfl
end Go.Proofs.Ytkfingiebkgleaa
end
