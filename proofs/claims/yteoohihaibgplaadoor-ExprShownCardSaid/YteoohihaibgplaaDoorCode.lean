/-
  The resolved code of the functions, each held against the program by the kernel.
-/
import Derived.Test.YteoohihaibgplaaDoorAv
import Derived.Test.YteoohihaibgplaaDoorRows
import Derived.KernelRfl
namespace Go.Proofs.YteoohihaibgplaaDoor
open Go.AV
/-- regrater/regraterlaw15.ExprShown (0 l, 1 o, 2 l, 3 o, 5 m, 6 _, 7 n, 8 _, 9 e, 10 f) -/
noncomputable def r3_0 : List AO := [⟨some 4, none, .mv (.c (.bl false))⟩]
noncomputable def r3_1 : List AO := [⟨some 11, none, .call 7 []⟩,
  ⟨some 12, none, .un .not (.t 11)⟩]
noncomputable def r3_2 : List AO := [⟨some 4, none, .mv (.c (.bl false))⟩]
noncomputable def r3_3 : List AO := [⟨some 14, none, .mv (.t 0)⟩,
  ⟨some 15, none, .mv (.t 0)⟩,
  ⟨some 16, none, .len (.t 15)⟩,
  ⟨some 17, none, .mnx false [(.t 16), (.c (.it .i64 30))]⟩,
  ⟨some 18, none, .sll 7 (.t 14) none (some (.t 17))⟩,
  ⟨some 19, none, .call 8 [(.t 18), (.c (.it .i64 0)), (.c (.it .i64 0))]⟩,
  ⟨some 13, none, .mv (.t 19)⟩,
  ⟨some 20, none, .ext (.t 13) 0⟩,
  ⟨some 21, none, .ext (.t 13) 1⟩,
  ⟨some 5, none, .box 28 8 (.c (.agg [(.it .i64 0), (.it .i64 0), (.it .i64 0), (.it .i64 0), (.st []), (.st []), (.st []), (.sl true 0 [])]))⟩,
  ⟨none, none, .sto 8 (.t 5) (.t 20)⟩,
  ⟨some 6, none, .mv (.t 21)⟩]
noncomputable def r3_4 : List AO := [⟨some 23, none, .mv (.t 1)⟩,
  ⟨some 24, none, .mv (.t 1)⟩,
  ⟨some 25, none, .len (.t 24)⟩,
  ⟨some 26, none, .mnx false [(.t 25), (.c (.it .i64 30))]⟩,
  ⟨some 27, none, .sll 7 (.t 23) none (some (.t 26))⟩,
  ⟨some 28, none, .call 8 [(.t 27), (.c (.it .i64 0)), (.c (.it .i64 0))]⟩,
  ⟨some 22, none, .mv (.t 28)⟩,
  ⟨some 29, none, .ext (.t 22) 0⟩,
  ⟨some 30, none, .ext (.t 22) 1⟩,
  ⟨some 7, none, .box 28 8 (.c (.agg [(.it .i64 0), (.it .i64 0), (.it .i64 0), (.it .i64 0), (.st []), (.st []), (.st []), (.sl true 0 [])]))⟩,
  ⟨none, none, .sto 8 (.t 7) (.t 29)⟩,
  ⟨some 8, none, .mv (.t 30)⟩]
noncomputable def r3_5 : List (AO × List Nat) := [(⟨some 31, none, .ld true 8 (.t 5)⟩, []),
  (⟨some 32, none, .call 9 [(.t 31)]⟩, []),
  (⟨some 33, none, .ld true 8 (.t 7)⟩, [1]),
  (⟨some 34, none, .call 9 [(.t 33)]⟩, []),
  (⟨some 9, none, .box 34 8 (.c (.agg [(.it .i64 0), (.it .i64 0), (.it .i64 0), (.it .i64 0), (.st []), (.st []), (.st []), (.sl true 0 [])]))⟩, [0, 1, 2, 3]),
  (⟨some 10, none, .box 34 8 (.c (.agg [(.it .i64 0), (.it .i64 0), (.it .i64 0), (.it .i64 0), (.st []), (.st []), (.st []), (.sl true 0 [])]))⟩, [0, 1, 2, 3, 4]),
  (⟨none, none, .sto 8 (.t 9) (.t 32)⟩, []),
  (⟨none, none, .sto 8 (.t 10) (.t 34)⟩, [])]
noncomputable def r3_6 : List AO := [⟨some 35, none, .ld true 8 (.t 9)⟩,
  ⟨some 36, none, .call 10 [(.t 35)]⟩,
  ⟨some 37, none, .un .not (.t 36)⟩,
  ⟨some 38, none, .mv (.t 37)⟩,
  ⟨some 39, some (38, false), .ld true 8 (.t 10)⟩,
  ⟨some 40, some (38, false), .call 10 [(.t 39)]⟩,
  ⟨some 41, some (38, false), .un .not (.t 40)⟩,
  ⟨some 42, none, .pick (.t 38) (.c (.bl true)) (.t 41)⟩]
noncomputable def r3_7 : List AO := [⟨some 4, none, .mv (.c (.bl true))⟩]
noncomputable def r3_8 : List (AO × List Nat) := [(⟨some 43, none, .ld true 8 (.t 9)⟩, []),
  (⟨some 44, none, .call 11 [(.t 43)]⟩, []),
  (⟨some 45, none, .ld true 8 (.t 10)⟩, [1]),
  (⟨some 46, none, .call 11 [(.t 45)]⟩, []),
  (⟨some 47, none, .eq false 2 (.t 44) (.t 46)⟩, []),
  (⟨some 48, none, .ld true 8 (.t 9)⟩, [1, 3]),
  (⟨some 49, none, .ld true 8 (.t 10)⟩, [1, 3]),
  (⟨some 50, none, .call 12 [(.t 48), (.t 49)]⟩, [4]),
  (⟨some 51, none, .eq false 0 (.t 47) (.t 50)⟩, []),
  (⟨some 52, none, .mv (.t 51)⟩, []),
  (⟨some 53, some (52, true), .ld true 8 (.t 9)⟩, []),
  (⟨some 54, some (52, true), .call 11 [(.t 53)]⟩, []),
  (⟨some 55, some (52, true), .eq true 2 (.t 54) (.c (.st []))⟩, []),
  (⟨some 56, none, .pick (.t 52) (.t 55) (.c (.bl false))⟩, []),
  (⟨some 4, none, .mv (.t 56)⟩, [])]
set_option maxRecDepth 1000000 in
noncomputable def c3 : AFn := ⟨57, [(4, none)],
  (.seq (.ops r3_0)
  (.seq (.seq (.ops r3_1)
  (.cond (.t 12) (.seq (.ops r3_2)
  .ret)
  .skip))
  (.seq (.ops r3_3)
  (.seq (.ops r3_4)
  (.seq (.drw r3_5)
  (.seq (.seq (.ops r3_6)
  (.cond (.t 42) (.seq (.ops r3_7)
  .ret)
  .skip))
  (.seq (.drw r3_8)
  .ret)))))))⟩
set_option maxRecDepth 1000000 in
theorem t3 : trF Tryd.prog 3 = some c3 := by kernel_rfl
/-- regrater/regraterlaw15.speaks (1 e) -/
noncomputable def r7_0 : List AO := [⟨some 0, none, .mv (.c (.bl false))⟩]
noncomputable def r7_1 : List AO := [⟨some 2, none, .call 26 [(.c (.it .i64 1))]⟩,
  ⟨some 3, none, .bld [(.it .i64 0), (.it .i64 0), (.it .i64 0), (.it .i64 0), (.st []), (.st []), (.st []), (.sl true 0 [])] [(0, 1, (.c (.it .i64 1))), (2, 3, (.t 2))]⟩,
  ⟨some 4, none, .bld [(.it .i64 0), (.it .i64 0), (.it .i64 0), (.it .i64 0), (.st []), (.st []), (.st []), (.sl true 0 [])] [(0, 1, (.c (.it .i64 2))), (5, 1, (.c (.st [97]))), (6, 1, (.c (.st [98])))]⟩,
  ⟨some 5, none, .bsl 34 8 2 [(.it .i64 0), (.it .i64 0), (.it .i64 0), (.it .i64 0), (.st []), (.st []), (.st []), (.sl true 0 [])] [(0, 8, (.t 3)), (8, 8, (.t 4))]⟩,
  ⟨some 6, none, .bld [(.it .i64 0), (.it .i64 0), (.it .i64 0), (.it .i64 0), (.st []), (.st []), (.st []), (.sl true 0 [])] [(0, 1, (.c (.it .i64 3))), (1, 1, (.c (.it .i64 7))), (7, 1, (.t 5))]⟩,
  ⟨some 1, none, .box 34 8 (.c (.agg [(.it .i64 0), (.it .i64 0), (.it .i64 0), (.it .i64 0), (.st []), (.st []), (.st []), (.sl true 0 [])]))⟩,
  ⟨none, none, .sto 8 (.t 1) (.t 6)⟩]
noncomputable def r7_2 : List (AO × List Nat) := [(⟨some 7, none, .ld true 8 (.t 1)⟩, []),
  (⟨some 8, none, .call 10 [(.t 7)]⟩, []),
  (⟨some 9, none, .mv (.t 8)⟩, []),
  (⟨some 10, some (9, true), .ld true 8 (.t 1)⟩, []),
  (⟨some 11, some (9, true), .call 11 [(.t 10)]⟩, []),
  (⟨some 12, some (9, true), .eq false 2 (.t 11) (.c (.st [40, 49, 32, 43, 32, 97, 46, 98, 41]))⟩, []),
  (⟨some 13, none, .pick (.t 9) (.t 12) (.c (.bl false))⟩, []),
  (⟨some 14, none, .mv (.t 13)⟩, []),
  (⟨some 15, some (14, true), .ld true 8 (.t 1)⟩, []),
  (⟨some 16, some (14, true), .call 15 [(.t 15)]⟩, []),
  (⟨some 17, some (14, true), .eq false 1 (.t 16) (.c (.it .i64 2))⟩, []),
  (⟨some 18, none, .pick (.t 14) (.t 17) (.c (.bl false))⟩, []),
  (⟨some 19, none, .mv (.t 18)⟩, []),
  (⟨some 20, some (19, true), .ld true 8 (.t 1)⟩, []),
  (⟨some 21, some (19, true), .ld true 8 (.t 1)⟩, []),
  (⟨some 22, some (19, true), .call 12 [(.t 20), (.t 21)]⟩, []),
  (⟨some 23, none, .pick (.t 19) (.t 22) (.c (.bl false))⟩, []),
  (⟨some 24, none, .mv (.t 23)⟩, []),
  (⟨some 25, some (24, true), .ld true 8 (.t 1)⟩, []),
  (⟨some 26, some (24, true), .fad 7 (.t 1)⟩, []),
  (⟨some 27, some (24, true), .ld false 1 (.t 26)⟩, []),
  (⟨some 28, some (24, true), .iad 8 (.t 27) (.c (.it .i64 0))⟩, []),
  (⟨some 29, some (24, true), .ld true 8 (.t 28)⟩, []),
  (⟨some 30, some (24, true), .call 12 [(.t 25), (.t 29)]⟩, []),
  (⟨some 31, some (24, true), .un .not (.t 30)⟩, []),
  (⟨some 32, none, .pick (.t 24) (.t 31) (.c (.bl false))⟩, []),
  (⟨some 0, none, .mv (.t 32)⟩, [])]
set_option maxRecDepth 1000000 in
noncomputable def c7 : AFn := ⟨33, [(0, none)],
  (.seq (.ops r7_0)
  (.seq (.ops r7_1)
  (.seq (.drw r7_2)
  .ret)))⟩
set_option maxRecDepth 1000000 in
theorem t7 : trF Tryd.prog 7 = some c7 := by kernel_rfl
/-- regrater/regraterlaw15.Built (0 l, 1 at, 2 depth, 3 l, 4 at, 5 depth, 8 x, 9 e, 10 next, 11 n, 12 i, 13 p) -/
noncomputable def r8_0 : List AO := [⟨some 6, none, .box 28 8 (.c (.agg [(.it .i64 0), (.it .i64 0), (.it .i64 0), (.it .i64 0), (.st []), (.st []), (.st []), (.sl true 0 [])]))⟩,
  ⟨some 7, none, .mv (.c (.it .i64 0))⟩]
noncomputable def r8_1 : List AO := [⟨some 14, none, .mv (.t 1)⟩,
  ⟨some 15, none, .mv (.t 0)⟩,
  ⟨some 16, none, .len (.t 15)⟩,
  ⟨some 17, none, .bin .geq (.t 14) (.t 16)⟩,
  ⟨some 18, none, .mv (.t 17)⟩,
  ⟨some 19, some (18, false), .mv (.t 2)⟩,
  ⟨some 20, some (18, false), .bin .gtr (.t 19) (.c (.it .i64 24))⟩,
  ⟨some 21, none, .pick (.t 18) (.c (.bl true)) (.t 20)⟩]
noncomputable def r8_2 : List AO := [⟨some 22, none, .bld [(.it .i64 0), (.it .i64 0), (.it .i64 0), (.it .i64 0), (.st []), (.st []), (.st []), (.sl true 0 [])] [(0, 1, (.c (.it .i64 1)))]⟩,
  ⟨some 23, none, .mv (.t 1)⟩,
  ⟨some 24, none, .bin .add (.t 23) (.c (.it .i64 1))⟩,
  ⟨none, none, .sto 8 (.t 6) (.t 22)⟩,
  ⟨some 7, none, .mv (.t 24)⟩]
noncomputable def r8_3 : List AO := [⟨some 25, none, .mv (.t 0)⟩,
  ⟨some 26, none, .mv (.t 1)⟩,
  ⟨some 27, none, .iad 7 (.t 25) (.t 26)⟩,
  ⟨some 28, none, .ld true 7 (.t 27)⟩,
  ⟨some 8, none, .box 65 7 (.c (.agg [(.it .u8 0), (.it .u8 0), (.it .u8 0), (.it .u8 0), (.it .i64 0), (.st []), (.st [])]))⟩,
  ⟨none, none, .sto 7 (.t 8) (.t 28)⟩]
noncomputable def r8_4 : List AO := [⟨some 29, none, .fad 0 (.t 8)⟩,
  ⟨some 30, none, .ld false 1 (.t 29)⟩,
  ⟨some 31, none, .bin .rem (.t 30) (.c (.it .u8 10))⟩,
  ⟨some 32, none, .cvi .i64 (.t 31)⟩,
  ⟨some 33, none, .bld [(.it .i64 0), (.it .i64 0), (.it .i64 0), (.it .i64 0), (.st []), (.st []), (.st []), (.sl true 0 [])] [(0, 1, (.t 32))]⟩,
  ⟨some 9, none, .box 28 8 (.c (.agg [(.it .i64 0), (.it .i64 0), (.it .i64 0), (.it .i64 0), (.st []), (.st []), (.st []), (.sl true 0 [])]))⟩,
  ⟨none, none, .sto 8 (.t 9) (.t 33)⟩]
noncomputable def r8_5 : List AO := [⟨some 34, none, .mv (.t 1)⟩,
  ⟨some 35, none, .bin .add (.t 34) (.c (.it .i64 1))⟩,
  ⟨some 10, none, .mv (.t 35)⟩]
noncomputable def r8_6 : List AO := [⟨some 36, none, .fad 0 (.t 8)⟩,
  ⟨some 37, none, .ld false 1 (.t 36)⟩,
  ⟨some 38, none, .bin .rem (.t 37) (.c (.it .u8 10))⟩,
  ⟨some 39, none, .eq false 1 (.t 38) (.c (.it .u8 1))⟩,
  ⟨some 40, none, .mv (.t 39)⟩,
  ⟨some 41, some (40, false), .fad 0 (.t 8)⟩,
  ⟨some 42, some (40, false), .ld false 1 (.t 41)⟩,
  ⟨some 43, some (40, false), .bin .geq (.t 42) (.c (.it .u8 250))⟩,
  ⟨some 44, none, .pick (.t 40) (.c (.bl true)) (.t 43)⟩]
noncomputable def r8_7 : List AO := [⟨some 45, none, .fad 2 (.t 8)⟩,
  ⟨some 46, none, .ld false 1 (.t 45)⟩,
  ⟨some 47, none, .bin .rem (.t 46) (.c (.it .u8 5))⟩,
  ⟨some 48, none, .cvi .i64 (.t 47)⟩,
  ⟨some 49, none, .bld [(.it .i64 0), (.it .i64 0), (.st [])] [(0, 1, (.t 48))]⟩,
  ⟨some 50, none, .fad 2 (.t 9)⟩,
  ⟨none, none, .sto 3 (.t 50) (.t 49)⟩]
noncomputable def r8_8 : List AO := [⟨some 51, none, .fad 2 (.t 9)⟩,
  ⟨some 52, none, .fad 0 (.t 51)⟩,
  ⟨some 53, none, .ld false 1 (.t 52)⟩]
noncomputable def r8_9 : List AO := [⟨some 55, none, .eq false 1 (.t 53) (.c (.it .i64 1))⟩,
  ⟨some 54, none, .mv (.t 55)⟩]
noncomputable def r8_10 : List AO := [⟨some 56, none, .fad 4 (.t 8)⟩,
  ⟨some 57, none, .ld false 1 (.t 56)⟩,
  ⟨some 58, none, .bin .and (.t 57) (.c (.it .i64 1))⟩,
  ⟨some 59, none, .fad 2 (.t 9)⟩,
  ⟨some 60, none, .fad 1 (.t 59)⟩,
  ⟨none, none, .sto 1 (.t 60) (.t 58)⟩]
noncomputable def r8_11 : List AO := [⟨some 62, none, .eq false 1 (.t 53) (.c (.it .i64 2))⟩,
  ⟨some 61, none, .mv (.t 62)⟩]
noncomputable def r8_12 : List AO := [⟨some 63, none, .fad 4 (.t 8)⟩,
  ⟨some 64, none, .ld false 1 (.t 63)⟩,
  ⟨some 65, none, .fad 2 (.t 9)⟩,
  ⟨some 66, none, .fad 1 (.t 65)⟩,
  ⟨none, none, .sto 1 (.t 66) (.t 64)⟩]
noncomputable def r8_13 : List AO := [⟨some 68, none, .eq false 1 (.t 53) (.c (.it .i64 3))⟩,
  ⟨some 67, none, .mv (.t 68)⟩]
noncomputable def r8_14 : List AO := [⟨some 69, none, .fad 5 (.t 8)⟩,
  ⟨some 70, none, .ld false 1 (.t 69)⟩,
  ⟨some 71, none, .fad 5 (.t 8)⟩,
  ⟨some 72, none, .ld false 1 (.t 71)⟩,
  ⟨some 73, none, .lens (.t 72)⟩,
  ⟨some 74, none, .mnx false [(.t 73), (.c (.it .i64 70))]⟩,
  ⟨some 75, none, .sls (.t 70) none (some (.t 74))⟩,
  ⟨some 76, none, .fad 2 (.t 9)⟩,
  ⟨some 77, none, .fad 2 (.t 76)⟩,
  ⟨none, none, .sto 1 (.t 77) (.t 75)⟩]
noncomputable def r8_15 : List AO := [⟨some 78, none, .fad 0 (.t 8)⟩,
  ⟨some 79, none, .ld false 1 (.t 78)⟩,
  ⟨some 80, none, .bin .rem (.t 79) (.c (.it .u8 10))⟩,
  ⟨some 81, none, .eq false 1 (.t 80) (.c (.it .u8 2))⟩,
  ⟨some 82, none, .mv (.t 81)⟩,
  ⟨some 83, some (82, false), .fad 0 (.t 8)⟩,
  ⟨some 84, some (82, false), .ld false 1 (.t 83)⟩,
  ⟨some 85, some (82, false), .bin .geq (.t 84) (.c (.it .u8 250))⟩,
  ⟨some 86, none, .pick (.t 82) (.c (.bl true)) (.t 85)⟩]
noncomputable def r8_16 : List (AO × List Nat) := [(⟨some 87, none, .fad 5 (.t 8)⟩, []),
  (⟨some 88, none, .ld false 1 (.t 87)⟩, []),
  (⟨some 89, none, .fad 5 (.t 8)⟩, []),
  (⟨some 90, none, .ld false 1 (.t 89)⟩, []),
  (⟨some 91, none, .lens (.t 90)⟩, []),
  (⟨some 92, none, .mnx false [(.t 91), (.c (.it .i64 20))]⟩, []),
  (⟨some 93, none, .sls (.t 88) none (some (.t 92))⟩, []),
  (⟨some 94, none, .fad 6 (.t 8)⟩, []),
  (⟨some 95, none, .ld false 1 (.t 94)⟩, []),
  (⟨some 96, none, .fad 6 (.t 8)⟩, []),
  (⟨some 97, none, .ld false 1 (.t 96)⟩, []),
  (⟨some 98, none, .lens (.t 97)⟩, []),
  (⟨some 99, none, .mnx false [(.t 98), (.c (.it .i64 20))]⟩, []),
  (⟨some 100, none, .sls (.t 95) none (some (.t 99))⟩, []),
  (⟨some 101, none, .fad 6 (.t 9)⟩, []),
  (⟨none, none, .sto 1 (.t 101) (.t 93)⟩, [7, 8, 9, 10, 11, 12, 13]),
  (⟨some 102, none, .fad 5 (.t 9)⟩, []),
  (⟨none, none, .sto 1 (.t 102) (.t 100)⟩, [])]
noncomputable def r8_17 : List AO := [⟨some 103, none, .fad 3 (.t 8)⟩,
  ⟨some 104, none, .ld false 1 (.t 103)⟩,
  ⟨some 105, none, .bin .rem (.t 104) (.c (.it .u8 3))⟩,
  ⟨some 106, none, .cvi .i64 (.t 105)⟩,
  ⟨some 11, none, .mv (.t 106)⟩]
noncomputable def r8_18 : List AO := [⟨some 107, none, .fad 0 (.t 8)⟩,
  ⟨some 108, none, .ld false 1 (.t 107)⟩,
  ⟨some 109, none, .bin .rem (.t 108) (.c (.it .u8 10))⟩]
noncomputable def r8_19 : List AO := [⟨some 111, none, .eq false 1 (.t 109) (.c (.it .u8 3))⟩,
  ⟨some 110, none, .mv (.t 111)⟩]
noncomputable def r8_20 : List AO := [⟨some 112, none, .fad 1 (.t 8)⟩,
  ⟨some 113, none, .ld false 1 (.t 112)⟩,
  ⟨some 114, none, .bin .rem (.t 113) (.c (.it .u8 16))⟩,
  ⟨some 115, none, .cvi .i64 (.t 114)⟩,
  ⟨some 116, none, .fad 1 (.t 9)⟩,
  ⟨none, none, .sto 1 (.t 116) (.t 115)⟩,
  ⟨some 11, none, .mv (.c (.it .i64 2))⟩]
noncomputable def r8_21 : List AO := [⟨some 118, none, .eq false 1 (.t 109) (.c (.it .u8 4))⟩,
  ⟨some 117, none, .mv (.t 118)⟩]
noncomputable def r8_22 : List AO := [⟨some 119, none, .eq false 1 (.t 109) (.c (.it .u8 5))⟩,
  ⟨some 117, none, .mv (.t 119)⟩]
noncomputable def r8_23 : List AO := [⟨some 120, none, .eq false 1 (.t 109) (.c (.it .u8 6))⟩,
  ⟨some 117, none, .mv (.t 120)⟩]
noncomputable def r8_24 : List AO := [⟨some 121, none, .eq false 1 (.t 109) (.c (.it .u8 7))⟩,
  ⟨some 117, none, .mv (.t 121)⟩]
noncomputable def r8_25 : List AO := [⟨some 11, none, .mv (.c (.it .i64 1))⟩]
noncomputable def r8_26 : List AO := [⟨some 123, none, .eq false 1 (.t 109) (.c (.it .u8 8))⟩,
  ⟨some 122, none, .mv (.t 123)⟩]
noncomputable def r8_27 : List AO := [⟨some 124, none, .fad 1 (.t 8)⟩,
  ⟨some 125, none, .ld false 1 (.t 124)⟩,
  ⟨some 126, none, .bin .rem (.t 125) (.c (.it .u8 6))⟩,
  ⟨some 127, none, .cvi .i64 (.t 126)⟩,
  ⟨some 128, none, .fad 1 (.t 9)⟩,
  ⟨none, none, .sto 1 (.t 128) (.t 127)⟩]
noncomputable def r8_28 : List AO := [⟨some 129, none, .fad 3 (.t 8)⟩,
  ⟨some 130, none, .ld false 1 (.t 129)⟩,
  ⟨some 131, none, .bin .rem (.t 130) (.c (.it .u8 2))⟩,
  ⟨some 132, none, .cvi .i64 (.t 131)⟩,
  ⟨some 11, none, .mv (.t 132)⟩]
noncomputable def r8_29 : List AO := [⟨some 134, none, .eq false 1 (.t 109) (.c (.it .u8 1))⟩,
  ⟨some 133, none, .mv (.t 134)⟩]
noncomputable def r8_30 : List AO := [⟨some 135, none, .eq false 1 (.t 109) (.c (.it .u8 2))⟩,
  ⟨some 133, none, .mv (.t 135)⟩]
noncomputable def r8_31 : List AO := [⟨some 11, none, .mv (.c (.it .i64 0))⟩]
noncomputable def r8_32 : List AO := [⟨some 136, none, .fad 0 (.t 8)⟩,
  ⟨some 137, none, .ld false 1 (.t 136)⟩,
  ⟨some 138, none, .bin .geq (.t 137) (.c (.it .u8 240))⟩]
noncomputable def r8_33 : List AO := [⟨some 139, none, .fad 3 (.t 8)⟩,
  ⟨some 140, none, .ld false 1 (.t 139)⟩,
  ⟨some 141, none, .bin .rem (.t 140) (.c (.it .u8 4))⟩,
  ⟨some 142, none, .cvi .i64 (.t 141)⟩,
  ⟨some 11, none, .mv (.t 142)⟩]
noncomputable def r8_34 : List AO := [⟨some 12, none, .mv (.c (.it .i64 0))⟩]
noncomputable def r8_35 : List AO := [⟨some 143, none, .mv (.t 12)⟩,
  ⟨some 144, none, .mv (.t 11)⟩,
  ⟨some 145, none, .bin .lss (.t 143) (.t 144)⟩]
noncomputable def r8_36 : List AO := [⟨some 13, none, .box 28 8 (.c (.agg [(.it .i64 0), (.it .i64 0), (.it .i64 0), (.it .i64 0), (.st []), (.st []), (.st []), (.sl true 0 [])]))⟩]
noncomputable def r8_37 : List AO := [⟨some 149, none, .mv (.t 0)⟩,
  ⟨some 150, none, .mv (.t 10)⟩,
  ⟨some 151, none, .mv (.t 2)⟩,
  ⟨some 152, none, .bin .add (.t 151) (.c (.it .i64 1))⟩,
  ⟨some 153, none, .call 8 [(.t 149), (.t 150), (.t 152)]⟩,
  ⟨some 148, none, .mv (.t 153)⟩,
  ⟨some 154, none, .ext (.t 148) 0⟩,
  ⟨some 155, none, .ext (.t 148) 1⟩,
  ⟨none, none, .sto 8 (.t 13) (.t 154)⟩,
  ⟨some 10, none, .mv (.t 155)⟩]
noncomputable def r8_38 : List AO := [⟨some 156, none, .fad 7 (.t 9)⟩,
  ⟨some 157, none, .ld false 1 (.t 156)⟩,
  ⟨some 158, none, .ld true 8 (.t 13)⟩,
  ⟨some 159, none, .bsl 28 8 1 [(.it .i64 0), (.it .i64 0), (.it .i64 0), (.it .i64 0), (.st []), (.st []), (.st []), (.sl true 0 [])] [(0, 8, (.t 158))]⟩,
  ⟨some 160, none, .app 28 8 104 (.t 157) (.t 159)⟩,
  ⟨some 161, none, .fad 7 (.t 9)⟩,
  ⟨none, none, .sto 1 (.t 161) (.t 160)⟩]
noncomputable def r8_39 : List AO := [⟨some 146, none, .mv (.t 12)⟩,
  ⟨some 147, none, .bin .add (.t 146) (.c (.it .i64 1))⟩,
  ⟨some 12, none, .mv (.t 147)⟩]
noncomputable def r8_40 : List AO := [⟨some 162, none, .ld true 8 (.t 9)⟩,
  ⟨some 163, none, .mv (.t 10)⟩,
  ⟨none, none, .sto 8 (.t 6) (.t 162)⟩,
  ⟨some 7, none, .mv (.t 163)⟩]
set_option maxRecDepth 1000000 in
noncomputable def c8 : AFn := ⟨164, [(6, some 8), (7, none)],
  (.seq (.ops r8_0)
  (.seq (.seq (.ops r8_1)
  (.cond (.t 21) (.seq (.ops r8_2)
  .ret)
  .skip))
  (.seq (.ops r8_3)
  (.seq (.ops r8_4)
  (.seq (.ops r8_5)
  (.seq (.seq (.ops r8_6)
  (.cond (.t 44) (.seq (.ops r8_7)
  (.seq (.ops r8_8)
  (.block 0 (.seq (.ops r8_9)
  (.cond (.t 54) (.ops r8_10)
  (.seq (.ops r8_11)
  (.cond (.t 61) (.ops r8_12)
  (.seq (.ops r8_13)
  (.cond (.t 67) (.ops r8_14)
  .skip)))))))))
  .skip))
  (.seq (.seq (.ops r8_15)
  (.cond (.t 86) (.drw r8_16)
  .skip))
  (.seq (.ops r8_17)
  (.seq (.seq (.ops r8_18)
  (.block 1 (.seq (.ops r8_19)
  (.cond (.t 110) (.ops r8_20)
  (.seq (.seq (.ops r8_21)
  (.cond (.t 117) .skip
  (.seq (.ops r8_22)
  (.cond (.t 117) .skip
  (.seq (.ops r8_23)
  (.cond (.t 117) .skip
  (.ops r8_24)))))))
  (.cond (.t 117) (.ops r8_25)
  (.seq (.ops r8_26)
  (.cond (.t 122) (.seq (.ops r8_27)
  (.ops r8_28))
  (.seq (.seq (.ops r8_29)
  (.cond (.t 133) .skip
  (.ops r8_30)))
  (.cond (.t 133) (.ops r8_31)
  .skip))))))))))
  (.seq (.seq (.ops r8_32)
  (.cond (.t 138) (.ops r8_33)
  .skip))
  (.seq (.seq (.ops r8_34)
  (.block 2 (.loop (.seq (.seq (.ops r8_35)
  (.cond (.t 145) .skip
  (.exit 2)))
  (.seq (.block 3 (.seq (.ops r8_36)
  (.seq (.ops r8_37)
  (.ops r8_38))))
  (.ops r8_39))))))
  (.seq (.ops r8_40)
  .ret))))))))))))⟩
set_option maxRecDepth 1000000 in
theorem t8 : trF Tryd.prog 8 = some c8 := by kernel_rfl
/-- regrater/regraterlaw15.told (0 m, 1 m, 3 e, 4 i) -/
noncomputable def r9_0 : List AO := [⟨some 1, none, .box 28 8 (.t 0)⟩,
  ⟨some 2, none, .box 34 8 (.c (.agg [(.it .i64 0), (.it .i64 0), (.it .i64 0), (.it .i64 0), (.st []), (.st []), (.st []), (.sl true 0 [])]))⟩]
noncomputable def r9_1 : List AO := [⟨some 5, none, .fad 0 (.t 1)⟩,
  ⟨some 6, none, .ld false 1 (.t 5)⟩,
  ⟨some 7, none, .fad 1 (.t 1)⟩,
  ⟨some 8, none, .ld false 1 (.t 7)⟩,
  ⟨some 9, none, .fad 2 (.t 1)⟩,
  ⟨some 10, none, .ld true 3 (.t 9)⟩,
  ⟨some 11, none, .fad 5 (.t 1)⟩,
  ⟨some 12, none, .ld false 1 (.t 11)⟩,
  ⟨some 13, none, .fad 6 (.t 1)⟩,
  ⟨some 14, none, .ld false 1 (.t 13)⟩,
  ⟨some 15, none, .bld [(.it .i64 0), (.it .i64 0), (.it .i64 0), (.it .i64 0), (.st []), (.st []), (.st []), (.sl true 0 [])] [(0, 1, (.t 6)), (1, 1, (.t 8)), (2, 3, (.t 10)), (5, 1, (.t 12)), (6, 1, (.t 14))]⟩,
  ⟨some 3, none, .box 34 8 (.c (.agg [(.it .i64 0), (.it .i64 0), (.it .i64 0), (.it .i64 0), (.st []), (.st []), (.st []), (.sl true 0 [])]))⟩,
  ⟨none, none, .sto 8 (.t 3) (.t 15)⟩]
noncomputable def r9_2 : List AO := [⟨some 4, none, .mv (.c (.it .i64 0))⟩]
noncomputable def r9_3 : List AO := [⟨some 16, none, .mv (.t 4)⟩,
  ⟨some 17, none, .fad 7 (.t 1)⟩,
  ⟨some 18, none, .ld false 1 (.t 17)⟩,
  ⟨some 19, none, .len (.t 18)⟩,
  ⟨some 20, none, .bin .lss (.t 16) (.t 19)⟩]
noncomputable def r9_4 : List (AO × List Nat) := [(⟨some 23, none, .fad 7 (.t 3)⟩, []),
  (⟨some 24, none, .ld false 1 (.t 23)⟩, []),
  (⟨some 25, none, .fad 7 (.t 1)⟩, []),
  (⟨some 26, none, .ld false 1 (.t 25)⟩, []),
  (⟨some 27, none, .mv (.t 4)⟩, []),
  (⟨some 28, none, .iad 8 (.t 26) (.t 27)⟩, []),
  (⟨some 29, none, .ld true 8 (.t 28)⟩, []),
  (⟨some 30, none, .call 9 [(.t 29)]⟩, [0, 1]),
  (⟨some 31, none, .bsl 34 8 1 [(.it .i64 0), (.it .i64 0), (.it .i64 0), (.it .i64 0), (.st []), (.st []), (.st []), (.sl true 0 [])] [(0, 8, (.t 30))]⟩, [0, 1]),
  (⟨some 32, none, .app 34 8 104 (.t 24) (.t 31)⟩, []),
  (⟨some 33, none, .fad 7 (.t 3)⟩, []),
  (⟨none, none, .sto 1 (.t 33) (.t 32)⟩, [])]
noncomputable def r9_5 : List AO := [⟨some 21, none, .mv (.t 4)⟩,
  ⟨some 22, none, .bin .add (.t 21) (.c (.it .i64 1))⟩,
  ⟨some 4, none, .mv (.t 22)⟩]
noncomputable def r9_6 : List AO := [⟨some 34, none, .ld true 8 (.t 3)⟩,
  ⟨none, none, .sto 8 (.t 2) (.t 34)⟩]
set_option maxRecDepth 1000000 in
noncomputable def c9 : AFn := ⟨35, [(2, some 8)],
  (.seq (.ops r9_0)
  (.seq (.ops r9_1)
  (.seq (.seq (.ops r9_2)
  (.block 0 (.loop (.seq (.seq (.ops r9_3)
  (.cond (.t 20) .skip
  (.exit 0)))
  (.seq (.block 1 (.drw r9_4))
  (.ops r9_5))))))
  (.seq (.ops r9_6)
  .ret))))⟩
set_option maxRecDepth 1000000 in
theorem t9 : trF Tryd.prog 9 = some c9 := by kernel_rfl
/-- regrater/expr.Good (0 e, 1 e) -/
noncomputable def r10_0 : List AO := [⟨some 1, none, .box 34 8 (.t 0)⟩,
  ⟨some 2, none, .mv (.c (.bl false))⟩]
noncomputable def r10_1 : List AO := [⟨some 3, none, .ld true 8 (.t 1)⟩,
  ⟨some 4, none, .call 15 [(.t 3)]⟩,
  ⟨some 5, none, .bin .leq (.t 4) (.c (.it .i64 20))⟩,
  ⟨some 6, none, .mv (.t 5)⟩,
  ⟨some 7, some (6, true), .ld true 8 (.t 1)⟩,
  ⟨some 8, some (6, true), .call 27 [(.t 7), (.c (.bl false))]⟩,
  ⟨some 9, none, .pick (.t 6) (.t 8) (.c (.bl false))⟩,
  ⟨some 2, none, .mv (.t 9)⟩]
set_option maxRecDepth 1000000 in
noncomputable def c10 : AFn := ⟨10, [(2, none)],
  (.seq (.ops r10_0)
  (.seq (.ops r10_1)
  .ret))⟩
set_option maxRecDepth 1000000 in
theorem t10 : trF Tryd.prog 10 = some c10 := by kernel_rfl
/-- regrater/expr.Show (0 e, 1 e) -/
noncomputable def r11_0 : List AO := [⟨some 1, none, .box 34 8 (.t 0)⟩,
  ⟨some 2, none, .mv (.c (.st []))⟩]
noncomputable def r11_1 : List AO := [⟨some 3, none, .ld true 8 (.t 1)⟩,
  ⟨some 4, none, .call 10 [(.t 3)]⟩,
  ⟨some 5, none, .un .not (.t 4)⟩]
noncomputable def r11_2 : List AO := [⟨some 2, none, .mv (.c (.st []))⟩]
noncomputable def r11_3 : List AO := [⟨some 6, none, .ld true 8 (.t 1)⟩,
  ⟨some 7, none, .call 28 [(.t 6)]⟩,
  ⟨some 2, none, .mv (.t 7)⟩]
set_option maxRecDepth 1000000 in
noncomputable def c11 : AFn := ⟨8, [(2, none)],
  (.seq (.ops r11_0)
  (.seq (.seq (.ops r11_1)
  (.cond (.t 5) (.seq (.ops r11_2)
  .ret)
  .skip))
  (.seq (.ops r11_3)
  .ret)))⟩
set_option maxRecDepth 1000000 in
theorem t11 : trF Tryd.prog 11 = some c11 := by kernel_rfl
/-- regrater/expr.Same (0 a, 1 b, 2 a, 3 b) -/
noncomputable def r12_0 : List AO := [⟨some 2, none, .box 34 8 (.t 0)⟩,
  ⟨some 3, none, .box 34 8 (.t 1)⟩,
  ⟨some 4, none, .mv (.c (.bl false))⟩]
noncomputable def r12_1 : List AO := [⟨some 5, none, .fad 0 (.t 2)⟩,
  ⟨some 6, none, .ld false 1 (.t 5)⟩,
  ⟨some 7, none, .fad 0 (.t 3)⟩,
  ⟨some 8, none, .ld false 1 (.t 7)⟩,
  ⟨some 9, none, .eq false 1 (.t 6) (.t 8)⟩,
  ⟨some 10, none, .mv (.t 9)⟩,
  ⟨some 11, some (10, true), .fad 1 (.t 2)⟩,
  ⟨some 12, some (10, true), .ld false 1 (.t 11)⟩,
  ⟨some 13, some (10, true), .fad 1 (.t 3)⟩,
  ⟨some 14, some (10, true), .ld false 1 (.t 13)⟩,
  ⟨some 15, some (10, true), .eq false 1 (.t 12) (.t 14)⟩,
  ⟨some 16, none, .pick (.t 10) (.t 15) (.c (.bl false))⟩,
  ⟨some 17, none, .mv (.t 16)⟩,
  ⟨some 18, some (17, true), .fad 2 (.t 2)⟩,
  ⟨some 19, some (17, true), .ld true 3 (.t 18)⟩,
  ⟨some 20, some (17, true), .fad 2 (.t 3)⟩,
  ⟨some 21, some (17, true), .ld true 3 (.t 20)⟩,
  ⟨some 22, some (17, true), .eqs false [1, 1, 2] (.t 19) (.t 21)⟩,
  ⟨some 23, none, .pick (.t 17) (.t 22) (.c (.bl false))⟩,
  ⟨some 24, none, .mv (.t 23)⟩,
  ⟨some 25, some (24, true), .fad 5 (.t 2)⟩,
  ⟨some 26, some (24, true), .ld false 1 (.t 25)⟩,
  ⟨some 27, some (24, true), .fad 5 (.t 3)⟩,
  ⟨some 28, some (24, true), .ld false 1 (.t 27)⟩,
  ⟨some 29, some (24, true), .eq false 2 (.t 26) (.t 28)⟩,
  ⟨some 30, none, .pick (.t 24) (.t 29) (.c (.bl false))⟩,
  ⟨some 31, none, .mv (.t 30)⟩,
  ⟨some 32, some (31, true), .fad 6 (.t 2)⟩,
  ⟨some 33, some (31, true), .ld false 1 (.t 32)⟩,
  ⟨some 34, some (31, true), .fad 6 (.t 3)⟩,
  ⟨some 35, some (31, true), .ld false 1 (.t 34)⟩,
  ⟨some 36, some (31, true), .eq false 2 (.t 33) (.t 35)⟩,
  ⟨some 37, none, .pick (.t 31) (.t 36) (.c (.bl false))⟩,
  ⟨some 38, none, .mv (.t 37)⟩,
  ⟨some 39, some (38, true), .fad 7 (.t 2)⟩,
  ⟨some 40, some (38, true), .ld false 1 (.t 39)⟩,
  ⟨some 41, some (38, true), .fad 7 (.t 3)⟩,
  ⟨some 42, some (38, true), .ld false 1 (.t 41)⟩,
  ⟨some 43, some (38, true), .call 29 [(.t 40), (.t 42), (.c (.fn (.func 12) [] []))]⟩,
  ⟨some 44, none, .pick (.t 38) (.t 43) (.c (.bl false))⟩,
  ⟨some 4, none, .mv (.t 44)⟩]
set_option maxRecDepth 1000000 in
noncomputable def c12 : AFn := ⟨45, [(4, none)],
  (.seq (.ops r12_0)
  (.seq (.ops r12_1)
  .ret))⟩
set_option maxRecDepth 1000000 in
theorem t12 : trF Tryd.prog 12 = some c12 := by kernel_rfl
/-- regrater/expr.Depth (0 e, 1 e, 3 d, 4 _, 5 x) -/
noncomputable def r15_0 : List AO := [⟨some 1, none, .box 34 8 (.t 0)⟩,
  ⟨some 2, none, .mv (.c (.it .i64 0))⟩]
noncomputable def r15_1 : List AO := [⟨some 3, none, .mv (.c (.it .i64 0))⟩]
noncomputable def r15_2 : List AO := [⟨some 6, none, .fad 7 (.t 1)⟩,
  ⟨some 7, none, .ld false 1 (.t 6)⟩,
  ⟨some 8, none, .len (.t 7)⟩,
  ⟨some 9, none, .mv (.c (.it .i64 0))⟩]
noncomputable def r15_3 : List AO := [⟨some 10, none, .bin .lss (.t 9) (.t 8)⟩]
noncomputable def r15_4 : List AO := [⟨some 11, none, .iad 8 (.t 7) (.t 9)⟩,
  ⟨some 12, none, .ld true 8 (.t 11)⟩,
  ⟨some 5, none, .box 34 8 (.c (.agg [(.it .i64 0), (.it .i64 0), (.it .i64 0), (.it .i64 0), (.st []), (.st []), (.st []), (.sl true 0 [])]))⟩,
  ⟨none, none, .sto 8 (.t 5) (.t 12)⟩]
noncomputable def r15_5 : List AO := [⟨some 13, none, .mv (.t 3)⟩,
  ⟨some 14, none, .ld true 8 (.t 5)⟩,
  ⟨some 15, none, .call 15 [(.t 14)]⟩,
  ⟨some 16, none, .mnx true [(.t 13), (.t 15)]⟩,
  ⟨some 3, none, .mv (.t 16)⟩]
noncomputable def r15_6 : List AO := [⟨some 17, none, .bin .add (.t 9) (.c (.it .i64 1))⟩,
  ⟨some 9, none, .mv (.t 17)⟩]
noncomputable def r15_7 : List AO := [⟨some 18, none, .mv (.t 3)⟩,
  ⟨some 19, none, .bin .add (.t 18) (.c (.it .i64 1))⟩,
  ⟨some 2, none, .mv (.t 19)⟩]
set_option maxRecDepth 1000000 in
noncomputable def c15 : AFn := ⟨20, [(2, none)],
  (.seq (.ops r15_0)
  (.seq (.ops r15_1)
  (.seq (.seq (.ops r15_2)
  (.block 0 (.loop (.seq (.ops r15_3)
  (.seq (.cond (.t 10) .skip
  (.exit 0))
  (.seq (.block 1 (.seq (.ops r15_4)
  (.ops r15_5)))
  (.ops r15_6)))))))
  (.seq (.ops r15_7)
  .ret))))⟩
set_option maxRecDepth 1000000 in
theorem t15 : trF Tryd.prog 15 = some c15 := by kernel_rfl
/-- regrater/lex.Good (0 name, 1 name) -/
noncomputable def r21_0 : List AO := [⟨some 2, none, .mv (.c (.bl false))⟩]
noncomputable def r21_1 : List AO := [⟨some 3, none, .mv (.t 0)⟩,
  ⟨some 4, none, .eq true 2 (.t 3) (.c (.st []))⟩,
  ⟨some 5, none, .mv (.t 4)⟩,
  ⟨some 6, some (5, true), .mv (.t 0)⟩,
  ⟨some 7, some (5, true), .lens (.t 6)⟩,
  ⟨some 8, some (5, true), .bin .leq (.t 7) (.c (.it .i64 16))⟩,
  ⟨some 9, none, .pick (.t 5) (.t 8) (.c (.bl false))⟩,
  ⟨some 10, none, .mv (.t 9)⟩,
  ⟨some 11, some (10, true), .mv (.t 0)⟩,
  ⟨some 12, some (10, true), .idxs (.t 11) (.c (.it .i64 0))⟩,
  ⟨some 13, some (10, true), .call 35 [(.t 12)]⟩,
  ⟨some 14, none, .pick (.t 10) (.t 13) (.c (.bl false))⟩,
  ⟨some 15, none, .mv (.t 14)⟩,
  ⟨some 16, some (15, true), .mv (.t 0)⟩,
  ⟨some 17, some (15, true), .call 36 [(.t 16), (.c (.fn (.func 37) [] []))]⟩,
  ⟨some 18, some (15, true), .mv (.t 0)⟩,
  ⟨some 19, some (15, true), .eq false 2 (.t 17) (.t 18)⟩,
  ⟨some 20, none, .pick (.t 15) (.t 19) (.c (.bl false))⟩,
  ⟨some 2, none, .mv (.t 20)⟩]
set_option maxRecDepth 1000000 in
noncomputable def c21 : AFn := ⟨21, [(2, none)],
  (.seq (.ops r21_0)
  (.seq (.ops r21_1)
  .ret))⟩
set_option maxRecDepth 1000000 in
theorem t21 : trF Tryd.prog 21 = some c21 := by kernel_rfl
/-- regrater/value.OfInt (0 n, 1 n) -/
noncomputable def r26_0 : List AO := [⟨some 2, none, .box 31 3 (.c (.agg [(.it .i64 0), (.it .i64 0), (.st [])]))⟩]
noncomputable def r26_1 : List AO := [⟨some 3, none, .mv (.t 0)⟩,
  ⟨some 4, none, .bld [(.it .i64 0), (.it .i64 0), (.st [])] [(0, 1, (.c (.it .i64 2))), (1, 1, (.t 3))]⟩,
  ⟨none, none, .sto 3 (.t 2) (.t 4)⟩]
set_option maxRecDepth 1000000 in
noncomputable def c26 : AFn := ⟨5, [(2, some 3)],
  (.seq (.ops r26_0)
  (.seq (.ops r26_1)
  .ret))⟩
set_option maxRecDepth 1000000 in
theorem t26 : trF Tryd.prog 26 = some c26 := by kernel_rfl
/-- (regrater/expr.Expr).good (0 e, 1 within, 2 e, 3 within, 5 _, 6 x) -/
noncomputable def r27_0 : List AO := [⟨some 2, none, .box 34 8 (.t 0)⟩,
  ⟨some 4, none, .mv (.c (.bl false))⟩]
noncomputable def r27_1 : List AO := [⟨some 7, none, .ld true 8 (.t 2)⟩,
  ⟨some 8, none, .call 45 [(.t 7)]⟩,
  ⟨some 9, none, .un .not (.t 8)⟩,
  ⟨some 10, none, .mv (.t 9)⟩,
  ⟨some 11, some (10, false), .ld true 8 (.t 2)⟩,
  ⟨some 12, some (10, false), .call 46 [(.t 11)]⟩,
  ⟨some 13, some (10, false), .un .not (.t 12)⟩,
  ⟨some 14, none, .pick (.t 10) (.c (.bl true)) (.t 13)⟩,
  ⟨some 15, none, .mv (.t 14)⟩,
  ⟨some 16, some (15, false), .ld true 8 (.t 2)⟩,
  ⟨some 17, some (15, false), .call 47 [(.t 16)]⟩,
  ⟨some 18, some (15, false), .un .not (.t 17)⟩,
  ⟨some 19, none, .pick (.t 15) (.c (.bl true)) (.t 18)⟩,
  ⟨some 20, none, .mv (.t 19)⟩,
  ⟨some 21, some (20, false), .mv (.t 1)⟩,
  ⟨some 22, some (20, false), .mv (.t 21)⟩,
  ⟨some 23, some (22, true), .fad 0 (.t 2)⟩,
  ⟨some 24, some (22, true), .ld false 1 (.t 23)⟩,
  ⟨some 25, some (22, true), .eq false 1 (.t 24) (.c (.it .i64 8))⟩,
  ⟨some 26, some (20, false), .pick (.t 22) (.t 25) (.c (.bl false))⟩,
  ⟨some 27, none, .pick (.t 20) (.c (.bl true)) (.t 26)⟩]
noncomputable def r27_2 : List AO := [⟨some 4, none, .mv (.c (.bl false))⟩]
noncomputable def r27_3 : List AO := [⟨some 28, none, .fad 7 (.t 2)⟩,
  ⟨some 29, none, .ld false 1 (.t 28)⟩,
  ⟨some 30, none, .len (.t 29)⟩,
  ⟨some 31, none, .mv (.c (.it .i64 0))⟩]
noncomputable def r27_4 : List AO := [⟨some 32, none, .bin .lss (.t 31) (.t 30)⟩]
noncomputable def r27_5 : List AO := [⟨some 33, none, .iad 8 (.t 29) (.t 31)⟩,
  ⟨some 34, none, .ld true 8 (.t 33)⟩,
  ⟨some 6, none, .box 34 8 (.c (.agg [(.it .i64 0), (.it .i64 0), (.it .i64 0), (.it .i64 0), (.st []), (.st []), (.st []), (.sl true 0 [])]))⟩,
  ⟨none, none, .sto 8 (.t 6) (.t 34)⟩]
noncomputable def r27_6 : List AO := [⟨some 35, none, .ld true 8 (.t 6)⟩,
  ⟨some 36, none, .mv (.t 1)⟩,
  ⟨some 37, none, .mv (.t 36)⟩,
  ⟨some 38, some (37, false), .fad 0 (.t 2)⟩,
  ⟨some 39, some (37, false), .ld false 1 (.t 38)⟩,
  ⟨some 40, some (37, false), .eq false 1 (.t 39) (.c (.it .i64 8))⟩,
  ⟨some 41, none, .pick (.t 37) (.c (.bl true)) (.t 40)⟩,
  ⟨some 42, none, .call 27 [(.t 35), (.t 41)]⟩,
  ⟨some 43, none, .un .not (.t 42)⟩]
noncomputable def r27_7 : List AO := [⟨some 4, none, .mv (.c (.bl false))⟩]
noncomputable def r27_8 : List AO := [⟨some 44, none, .bin .add (.t 31) (.c (.it .i64 1))⟩,
  ⟨some 31, none, .mv (.t 44)⟩]
noncomputable def r27_9 : List AO := [⟨some 4, none, .mv (.c (.bl true))⟩]
set_option maxRecDepth 1000000 in
noncomputable def c27 : AFn := ⟨45, [(4, none)],
  (.seq (.ops r27_0)
  (.seq (.seq (.ops r27_1)
  (.cond (.t 27) (.seq (.ops r27_2)
  .ret)
  .skip))
  (.seq (.seq (.ops r27_3)
  (.block 0 (.loop (.seq (.ops r27_4)
  (.seq (.cond (.t 32) .skip
  (.exit 0))
  (.seq (.block 1 (.seq (.ops r27_5)
  (.seq (.ops r27_6)
  (.cond (.t 43) (.seq (.ops r27_7)
  .ret)
  .skip))))
  (.ops r27_8)))))))
  (.seq (.ops r27_9)
  .ret))))⟩
set_option maxRecDepth 1000000 in
theorem t27 : trF Tryd.prog 27 = some c27 := by kernel_rfl
/-- (regrater/expr.Expr).show (0 e, 1 e) -/
noncomputable def r28_0 : List AO := [⟨some 1, none, .box 34 8 (.t 0)⟩,
  ⟨some 2, none, .mv (.c (.st []))⟩]
noncomputable def r28_1 : List AO := [⟨some 3, none, .fad 0 (.t 1)⟩,
  ⟨some 4, none, .ld false 1 (.t 3)⟩]
noncomputable def r28_2 : List AO := [⟨some 6, none, .eq false 1 (.t 4) (.c (.it .i64 1))⟩,
  ⟨some 5, none, .mv (.t 6)⟩]
noncomputable def r28_3 : List AO := [⟨some 7, none, .fad 2 (.t 1)⟩,
  ⟨some 8, none, .ld true 3 (.t 7)⟩,
  ⟨some 9, none, .call 48 [(.t 8)]⟩,
  ⟨some 2, none, .mv (.t 9)⟩]
noncomputable def r28_4 : List AO := [⟨some 11, none, .eq false 1 (.t 4) (.c (.it .i64 2))⟩,
  ⟨some 10, none, .mv (.t 11)⟩]
noncomputable def r28_5 : List AO := [⟨some 12, none, .fad 5 (.t 1)⟩,
  ⟨some 13, none, .ld false 1 (.t 12)⟩,
  ⟨some 14, none, .eq true 2 (.t 13) (.c (.st []))⟩]
noncomputable def r28_6 : List AO := [⟨some 15, none, .fad 5 (.t 1)⟩,
  ⟨some 16, none, .ld false 1 (.t 15)⟩,
  ⟨some 17, none, .bin .add (.t 16) (.c (.st [46]))⟩,
  ⟨some 18, none, .fad 6 (.t 1)⟩,
  ⟨some 19, none, .ld false 1 (.t 18)⟩,
  ⟨some 20, none, .bin .add (.t 17) (.t 19)⟩,
  ⟨some 2, none, .mv (.t 20)⟩]
noncomputable def r28_7 : List AO := [⟨some 21, none, .fad 6 (.t 1)⟩,
  ⟨some 22, none, .ld false 1 (.t 21)⟩,
  ⟨some 2, none, .mv (.t 22)⟩]
noncomputable def r28_8 : List AO := [⟨some 24, none, .eq false 1 (.t 4) (.c (.it .i64 3))⟩,
  ⟨some 23, none, .mv (.t 24)⟩]
noncomputable def r28_9 : List (AO × List Nat) := [(⟨some 25, none, .fad 7 (.t 1)⟩, []),
  (⟨some 26, none, .ld false 1 (.t 25)⟩, []),
  (⟨some 27, none, .iad 8 (.t 26) (.c (.it .i64 0))⟩, []),
  (⟨some 28, none, .ld true 8 (.t 27)⟩, []),
  (⟨some 29, none, .call 28 [(.t 28)]⟩, []),
  (⟨some 30, none, .bin .add (.c (.st [40])) (.t 29)⟩, []),
  (⟨some 31, none, .bin .add (.t 30) (.c (.st [32]))⟩, []),
  (⟨some 32, none, .fad 1 (.t 1)⟩, [4]),
  (⟨some 33, none, .ld false 1 (.t 32)⟩, [4]),
  (⟨some 34, none, .iada 15 1 (.c (.ep [(.st []), (.st [61]), (.st [60, 62]), (.st [60]), (.st [60, 61]), (.st [62]), (.st [62, 61]), (.st [43]), (.st [45]), (.st [42]), (.st [47]), (.st [37]), (.st [124, 124]), (.st [65, 78, 68]), (.st [79, 82])] 0)) (.t 33)⟩, [4]),
  (⟨some 35, none, .ld false 1 (.t 34)⟩, [4]),
  (⟨some 36, none, .bin .add (.t 31) (.t 35)⟩, []),
  (⟨some 37, none, .bin .add (.t 36) (.c (.st [32]))⟩, []),
  (⟨some 38, none, .fad 7 (.t 1)⟩, [4]),
  (⟨some 39, none, .ld false 1 (.t 38)⟩, [4]),
  (⟨some 40, none, .iad 8 (.t 39) (.c (.it .i64 1))⟩, [4]),
  (⟨some 41, none, .ld true 8 (.t 40)⟩, [4]),
  (⟨some 42, none, .call 28 [(.t 41)]⟩, [5, 6, 7, 8, 9, 10, 11, 12]),
  (⟨some 43, none, .bin .add (.t 37) (.t 42)⟩, []),
  (⟨some 44, none, .bin .add (.t 43) (.c (.st [41]))⟩, []),
  (⟨some 2, none, .mv (.t 44)⟩, [])]
noncomputable def r28_10 : List AO := [⟨some 46, none, .eq false 1 (.t 4) (.c (.it .i64 4))⟩,
  ⟨some 45, none, .mv (.t 46)⟩]
noncomputable def r28_11 : List AO := [⟨some 47, none, .fad 7 (.t 1)⟩,
  ⟨some 48, none, .ld false 1 (.t 47)⟩,
  ⟨some 49, none, .iad 8 (.t 48) (.c (.it .i64 0))⟩,
  ⟨some 50, none, .ld true 8 (.t 49)⟩,
  ⟨some 51, none, .call 28 [(.t 50)]⟩,
  ⟨some 52, none, .bin .add (.c (.st [40, 78, 79, 84, 32])) (.t 51)⟩,
  ⟨some 53, none, .bin .add (.t 52) (.c (.st [41]))⟩,
  ⟨some 2, none, .mv (.t 53)⟩]
noncomputable def r28_12 : List AO := [⟨some 55, none, .eq false 1 (.t 4) (.c (.it .i64 5))⟩,
  ⟨some 54, none, .mv (.t 55)⟩]
noncomputable def r28_13 : List AO := [⟨some 56, none, .fad 7 (.t 1)⟩,
  ⟨some 57, none, .ld false 1 (.t 56)⟩,
  ⟨some 58, none, .iad 8 (.t 57) (.c (.it .i64 0))⟩,
  ⟨some 59, none, .ld true 8 (.t 58)⟩,
  ⟨some 60, none, .call 28 [(.t 59)]⟩,
  ⟨some 61, none, .bin .add (.c (.st [40, 45, 32])) (.t 60)⟩,
  ⟨some 62, none, .bin .add (.t 61) (.c (.st [41]))⟩,
  ⟨some 2, none, .mv (.t 62)⟩]
noncomputable def r28_14 : List AO := [⟨some 64, none, .eq false 1 (.t 4) (.c (.it .i64 6))⟩,
  ⟨some 63, none, .mv (.t 64)⟩]
noncomputable def r28_15 : List AO := [⟨some 65, none, .fad 7 (.t 1)⟩,
  ⟨some 66, none, .ld false 1 (.t 65)⟩,
  ⟨some 67, none, .iad 8 (.t 66) (.c (.it .i64 0))⟩,
  ⟨some 68, none, .ld true 8 (.t 67)⟩,
  ⟨some 69, none, .call 28 [(.t 68)]⟩,
  ⟨some 70, none, .bin .add (.c (.st [40])) (.t 69)⟩,
  ⟨some 71, none, .bin .add (.t 70) (.c (.st [32, 73, 83, 32, 78, 85, 76, 76, 41]))⟩,
  ⟨some 2, none, .mv (.t 71)⟩]
noncomputable def r28_16 : List AO := [⟨some 73, none, .eq false 1 (.t 4) (.c (.it .i64 7))⟩,
  ⟨some 72, none, .mv (.t 73)⟩]
noncomputable def r28_17 : List AO := [⟨some 74, none, .fad 7 (.t 1)⟩,
  ⟨some 75, none, .ld false 1 (.t 74)⟩,
  ⟨some 76, none, .iad 8 (.t 75) (.c (.it .i64 0))⟩,
  ⟨some 77, none, .ld true 8 (.t 76)⟩,
  ⟨some 78, none, .call 28 [(.t 77)]⟩,
  ⟨some 79, none, .bin .add (.c (.st [40])) (.t 78)⟩,
  ⟨some 80, none, .bin .add (.t 79) (.c (.st [32, 73, 83, 32, 78, 79, 84, 32, 78, 85, 76, 76, 41]))⟩,
  ⟨some 2, none, .mv (.t 80)⟩]
noncomputable def r28_18 : List AO := [⟨some 81, none, .fad 7 (.t 1)⟩,
  ⟨some 82, none, .ld false 1 (.t 81)⟩,
  ⟨some 83, none, .len (.t 82)⟩,
  ⟨some 84, none, .eq false 1 (.t 83) (.c (.it .i64 0))⟩]
noncomputable def r28_19 : List AO := [⟨some 85, none, .fad 1 (.t 1)⟩,
  ⟨some 86, none, .ld false 1 (.t 85)⟩,
  ⟨some 87, none, .iada 5 1 (.c (.ep [(.st []), (.st [67, 79, 85, 78, 84]), (.st [83, 85, 77]), (.st [77, 73, 78]), (.st [77, 65, 88])] 0)) (.t 86)⟩,
  ⟨some 88, none, .ld false 1 (.t 87)⟩,
  ⟨some 89, none, .bin .add (.t 88) (.c (.st [40, 42, 41]))⟩,
  ⟨some 2, none, .mv (.t 89)⟩]
noncomputable def r28_20 : List (AO × List Nat) := [(⟨some 90, none, .fad 1 (.t 1)⟩, []),
  (⟨some 91, none, .ld false 1 (.t 90)⟩, []),
  (⟨some 92, none, .iada 5 1 (.c (.ep [(.st []), (.st [67, 79, 85, 78, 84]), (.st [83, 85, 77]), (.st [77, 73, 78]), (.st [77, 65, 88])] 0)) (.t 91)⟩, []),
  (⟨some 93, none, .ld false 1 (.t 92)⟩, []),
  (⟨some 94, none, .bin .add (.t 93) (.c (.st [40]))⟩, []),
  (⟨some 95, none, .fad 7 (.t 1)⟩, []),
  (⟨some 96, none, .ld false 1 (.t 95)⟩, []),
  (⟨some 97, none, .iad 8 (.t 96) (.c (.it .i64 0))⟩, []),
  (⟨some 98, none, .ld true 8 (.t 97)⟩, []),
  (⟨some 99, none, .call 28 [(.t 98)]⟩, [0, 1, 2, 3, 4]),
  (⟨some 100, none, .bin .add (.t 94) (.t 99)⟩, []),
  (⟨some 101, none, .bin .add (.t 100) (.c (.st [41]))⟩, []),
  (⟨some 2, none, .mv (.t 101)⟩, [])]
set_option maxRecDepth 1000000 in
noncomputable def c28 : AFn := ⟨102, [(2, none)],
  (.seq (.ops r28_0)
  (.seq (.seq (.ops r28_1)
  (.block 0 (.seq (.ops r28_2)
  (.cond (.t 5) (.seq (.ops r28_3)
  .ret)
  (.seq (.ops r28_4)
  (.cond (.t 10) (.seq (.seq (.ops r28_5)
  (.cond (.t 14) (.seq (.ops r28_6)
  .ret)
  .skip))
  (.seq (.ops r28_7)
  .ret))
  (.seq (.ops r28_8)
  (.cond (.t 23) (.seq (.drw r28_9)
  .ret)
  (.seq (.ops r28_10)
  (.cond (.t 45) (.seq (.ops r28_11)
  .ret)
  (.seq (.ops r28_12)
  (.cond (.t 54) (.seq (.ops r28_13)
  .ret)
  (.seq (.ops r28_14)
  (.cond (.t 63) (.seq (.ops r28_15)
  .ret)
  (.seq (.ops r28_16)
  (.cond (.t 72) (.seq (.ops r28_17)
  .ret)
  .skip))))))))))))))))
  (.seq (.seq (.ops r28_18)
  (.cond (.t 84) (.seq (.ops r28_19)
  .ret)
  .skip))
  (.seq (.drw r28_20)
  .ret))))⟩
set_option maxRecDepth 1000000 in
theorem t28 : trF Tryd.prog 28 = some c28 := by kernel_rfl
/-- slices.EqualFunc[[]regrater/expr.Expr,[]regrater/expr.Expr,regrater/expr.Expr,regrater/expr.Expr] (0 s1, 1 s2, 2 eq, 3 s1, 4 s2, 5 eq, 7 i, 8 v1, 9 v2) -/
noncomputable def r29_0 : List AO := [⟨some 6, none, .mv (.c (.bl false))⟩]
noncomputable def r29_1 : List AO := [⟨some 10, none, .mv (.t 0)⟩,
  ⟨some 11, none, .len (.t 10)⟩,
  ⟨some 12, none, .mv (.t 1)⟩,
  ⟨some 13, none, .len (.t 12)⟩,
  ⟨some 14, none, .eq true 1 (.t 11) (.t 13)⟩]
noncomputable def r29_2 : List AO := [⟨some 6, none, .mv (.c (.bl false))⟩]
noncomputable def r29_3 : List AO := [⟨some 15, none, .mv (.t 0)⟩,
  ⟨some 16, none, .len (.t 15)⟩,
  ⟨some 17, none, .mv (.c (.it .i64 0))⟩]
noncomputable def r29_4 : List AO := [⟨some 18, none, .bin .lss (.t 17) (.t 16)⟩]
noncomputable def r29_5 : List AO := [⟨some 19, none, .mv (.t 17)⟩,
  ⟨some 20, none, .iad 8 (.t 15) (.t 17)⟩,
  ⟨some 21, none, .ld true 8 (.t 20)⟩,
  ⟨some 8, none, .box 34 8 (.c (.agg [(.it .i64 0), (.it .i64 0), (.it .i64 0), (.it .i64 0), (.st []), (.st []), (.st []), (.sl true 0 [])]))⟩,
  ⟨some 7, none, .mv (.t 19)⟩,
  ⟨none, none, .sto 8 (.t 8) (.t 21)⟩]
noncomputable def r29_6 : List AO := [⟨some 22, none, .mv (.t 1)⟩,
  ⟨some 23, none, .mv (.t 7)⟩,
  ⟨some 24, none, .iad 8 (.t 22) (.t 23)⟩,
  ⟨some 25, none, .ld true 8 (.t 24)⟩,
  ⟨some 9, none, .box 34 8 (.c (.agg [(.it .i64 0), (.it .i64 0), (.it .i64 0), (.it .i64 0), (.st []), (.st []), (.st []), (.sl true 0 [])]))⟩,
  ⟨none, none, .sto 8 (.t 9) (.t 25)⟩]
noncomputable def r29_7 : List AO := [⟨some 26, none, .mv (.t 2)⟩,
  ⟨some 27, none, .ld true 8 (.t 8)⟩,
  ⟨some 28, none, .ld true 8 (.t 9)⟩,
  ⟨some 29, none, .calv (.t 26) [(.t 27), (.t 28)]⟩,
  ⟨some 30, none, .un .not (.t 29)⟩]
noncomputable def r29_8 : List AO := [⟨some 6, none, .mv (.c (.bl false))⟩]
noncomputable def r29_9 : List AO := [⟨some 31, none, .bin .add (.t 17) (.c (.it .i64 1))⟩,
  ⟨some 17, none, .mv (.t 31)⟩]
noncomputable def r29_10 : List AO := [⟨some 6, none, .mv (.c (.bl true))⟩]
set_option maxRecDepth 1000000 in
noncomputable def c29 : AFn := ⟨32, [(6, none)],
  (.seq (.ops r29_0)
  (.seq (.seq (.ops r29_1)
  (.cond (.t 14) (.seq (.ops r29_2)
  .ret)
  .skip))
  (.seq (.seq (.ops r29_3)
  (.block 0 (.loop (.seq (.ops r29_4)
  (.seq (.cond (.t 18) .skip
  (.exit 0))
  (.seq (.block 1 (.seq (.ops r29_5)
  (.seq (.ops r29_6)
  (.seq (.ops r29_7)
  (.cond (.t 30) (.seq (.ops r29_8)
  .ret)
  .skip)))))
  (.ops r29_9)))))))
  (.seq (.ops r29_10)
  .ret))))⟩
set_option maxRecDepth 1000000 in
theorem t29 : trF Tryd.prog 29 = some c29 := by kernel_rfl
/-- regrater/lex.small (0 c, 1 c) -/
noncomputable def r35_0 : List AO := [⟨some 2, none, .mv (.c (.bl false))⟩]
noncomputable def r35_1 : List AO := [⟨some 3, none, .mv (.t 0)⟩,
  ⟨some 4, none, .bin .geq (.t 3) (.c (.it .u8 97))⟩,
  ⟨some 5, none, .mv (.t 4)⟩,
  ⟨some 6, some (5, true), .mv (.t 0)⟩,
  ⟨some 7, some (5, true), .bin .leq (.t 6) (.c (.it .u8 122))⟩,
  ⟨some 8, none, .pick (.t 5) (.t 7) (.c (.bl false))⟩,
  ⟨some 2, none, .mv (.t 8)⟩]
set_option maxRecDepth 1000000 in
noncomputable def c35 : AFn := ⟨9, [(2, none)],
  (.seq (.ops r35_0)
  (.seq (.ops r35_1)
  .ret))⟩
set_option maxRecDepth 1000000 in
theorem t35 : trF Tryd.prog 35 = some c35 := by kernel_rfl
/-- regrater/lex.span (0 s, 1 is, 2 s, 3 is, 5 n) -/
noncomputable def r36_0 : List AO := [⟨some 4, none, .mv (.c (.st []))⟩]
noncomputable def r36_1 : List AO := [⟨some 5, none, .mv (.c (.it .i64 0))⟩]
noncomputable def r36_2 : List AO := [⟨some 6, none, .mv (.t 5)⟩,
  ⟨some 7, none, .mv (.t 0)⟩,
  ⟨some 8, none, .lens (.t 7)⟩,
  ⟨some 9, none, .bin .lss (.t 6) (.t 8)⟩,
  ⟨some 10, none, .mv (.t 9)⟩,
  ⟨some 11, some (10, true), .mv (.t 1)⟩,
  ⟨some 12, some (10, true), .mv (.t 0)⟩,
  ⟨some 13, some (10, true), .mv (.t 5)⟩,
  ⟨some 14, some (10, true), .idxs (.t 12) (.t 13)⟩,
  ⟨some 15, some (10, true), .calv (.t 11) [(.t 14)]⟩,
  ⟨some 16, none, .pick (.t 10) (.t 15) (.c (.bl false))⟩]
noncomputable def r36_3 : List AO := [⟨some 17, none, .mv (.t 5)⟩,
  ⟨some 18, none, .bin .add (.t 17) (.c (.it .i64 1))⟩,
  ⟨some 5, none, .mv (.t 18)⟩]
noncomputable def r36_4 : List AO := [⟨some 19, none, .mv (.t 0)⟩,
  ⟨some 20, none, .mv (.t 5)⟩,
  ⟨some 21, none, .sls (.t 19) none (some (.t 20))⟩,
  ⟨some 4, none, .mv (.t 21)⟩]
set_option maxRecDepth 1000000 in
noncomputable def c36 : AFn := ⟨22, [(4, none)],
  (.seq (.ops r36_0)
  (.seq (.ops r36_1)
  (.seq (.block 0 (.loop (.seq (.seq (.ops r36_2)
  (.cond (.t 16) .skip
  (.exit 0)))
  (.block 1 (.ops r36_3)))))
  (.seq (.ops r36_4)
  .ret))))⟩
set_option maxRecDepth 1000000 in
theorem t36 : trF Tryd.prog 36 = some c36 := by kernel_rfl
/-- regrater/lex.rest (0 c, 1 c) -/
noncomputable def r37_0 : List AO := [⟨some 2, none, .mv (.c (.bl false))⟩]
noncomputable def r37_1 : List AO := [⟨some 3, none, .mv (.t 0)⟩,
  ⟨some 4, none, .call 35 [(.t 3)]⟩,
  ⟨some 5, none, .mv (.t 4)⟩,
  ⟨some 6, some (5, false), .mv (.t 0)⟩,
  ⟨some 7, some (5, false), .call 51 [(.t 6)]⟩,
  ⟨some 8, none, .pick (.t 5) (.c (.bl true)) (.t 7)⟩,
  ⟨some 9, none, .mv (.t 8)⟩,
  ⟨some 10, some (9, false), .mv (.t 0)⟩,
  ⟨some 11, some (9, false), .eq false 1 (.t 10) (.c (.it .u8 95))⟩,
  ⟨some 12, none, .pick (.t 9) (.c (.bl true)) (.t 11)⟩,
  ⟨some 2, none, .mv (.t 12)⟩]
set_option maxRecDepth 1000000 in
noncomputable def c37 : AFn := ⟨13, [(2, none)],
  (.seq (.ops r37_0)
  (.seq (.ops r37_1)
  .ret))⟩
set_option maxRecDepth 1000000 in
theorem t37 : trF Tryd.prog 37 = some c37 := by kernel_rfl
/-- (regrater/expr.Expr).parts (0 e, 1 e) -/
noncomputable def r45_0 : List AO := [⟨some 1, none, .box 34 8 (.t 0)⟩,
  ⟨some 2, none, .mv (.c (.bl false))⟩]
noncomputable def r45_1 : List AO := [⟨some 3, none, .fad 0 (.t 1)⟩,
  ⟨some 4, none, .ld false 1 (.t 3)⟩]
noncomputable def r45_2 : List AO := [⟨some 6, none, .eq false 1 (.t 4) (.c (.it .i64 1))⟩,
  ⟨some 5, none, .mv (.t 6)⟩]
noncomputable def r45_3 : List AO := [⟨some 7, none, .eq false 1 (.t 4) (.c (.it .i64 2))⟩,
  ⟨some 5, none, .mv (.t 7)⟩]
noncomputable def r45_4 : List AO := [⟨some 8, none, .fad 7 (.t 1)⟩,
  ⟨some 9, none, .ld false 1 (.t 8)⟩,
  ⟨some 10, none, .len (.t 9)⟩,
  ⟨some 11, none, .eq false 1 (.t 10) (.c (.it .i64 0))⟩,
  ⟨some 2, none, .mv (.t 11)⟩]
noncomputable def r45_5 : List AO := [⟨some 13, none, .eq false 1 (.t 4) (.c (.it .i64 3))⟩,
  ⟨some 12, none, .mv (.t 13)⟩]
noncomputable def r45_6 : List AO := [⟨some 14, none, .fad 7 (.t 1)⟩,
  ⟨some 15, none, .ld false 1 (.t 14)⟩,
  ⟨some 16, none, .len (.t 15)⟩,
  ⟨some 17, none, .eq false 1 (.t 16) (.c (.it .i64 2))⟩,
  ⟨some 2, none, .mv (.t 17)⟩]
noncomputable def r45_7 : List AO := [⟨some 19, none, .eq false 1 (.t 4) (.c (.it .i64 8))⟩,
  ⟨some 18, none, .mv (.t 19)⟩]
noncomputable def r45_8 : List AO := [⟨some 20, none, .fad 7 (.t 1)⟩,
  ⟨some 21, none, .ld false 1 (.t 20)⟩,
  ⟨some 22, none, .len (.t 21)⟩,
  ⟨some 23, none, .eq false 1 (.t 22) (.c (.it .i64 1))⟩,
  ⟨some 24, none, .mv (.t 23)⟩,
  ⟨some 25, some (24, false), .fad 1 (.t 1)⟩,
  ⟨some 26, some (24, false), .ld false 1 (.t 25)⟩,
  ⟨some 27, some (24, false), .eq false 1 (.t 26) (.c (.it .i64 1))⟩,
  ⟨some 28, some (24, false), .mv (.t 27)⟩,
  ⟨some 29, some (28, true), .fad 7 (.t 1)⟩,
  ⟨some 30, some (28, true), .ld false 1 (.t 29)⟩,
  ⟨some 31, some (28, true), .len (.t 30)⟩,
  ⟨some 32, some (28, true), .eq false 1 (.t 31) (.c (.it .i64 0))⟩,
  ⟨some 33, some (24, false), .pick (.t 28) (.t 32) (.c (.bl false))⟩,
  ⟨some 34, none, .pick (.t 24) (.c (.bl true)) (.t 33)⟩,
  ⟨some 2, none, .mv (.t 34)⟩]
noncomputable def r45_9 : List AO := [⟨some 35, none, .fad 0 (.t 1)⟩,
  ⟨some 36, none, .ld false 1 (.t 35)⟩,
  ⟨some 37, none, .bin .geq (.t 36) (.c (.it .i64 4))⟩,
  ⟨some 38, none, .mv (.t 37)⟩,
  ⟨some 39, some (38, true), .fad 0 (.t 1)⟩,
  ⟨some 40, some (38, true), .ld false 1 (.t 39)⟩,
  ⟨some 41, some (38, true), .bin .leq (.t 40) (.c (.it .i64 7))⟩,
  ⟨some 42, none, .pick (.t 38) (.t 41) (.c (.bl false))⟩,
  ⟨some 43, none, .mv (.t 42)⟩,
  ⟨some 44, some (43, true), .fad 7 (.t 1)⟩,
  ⟨some 45, some (43, true), .ld false 1 (.t 44)⟩,
  ⟨some 46, some (43, true), .len (.t 45)⟩,
  ⟨some 47, some (43, true), .eq false 1 (.t 46) (.c (.it .i64 1))⟩,
  ⟨some 48, none, .pick (.t 43) (.t 47) (.c (.bl false))⟩,
  ⟨some 2, none, .mv (.t 48)⟩]
set_option maxRecDepth 1000000 in
noncomputable def c45 : AFn := ⟨49, [(2, none)],
  (.seq (.ops r45_0)
  (.seq (.seq (.ops r45_1)
  (.block 0 (.seq (.seq (.ops r45_2)
  (.cond (.t 5) .skip
  (.ops r45_3)))
  (.cond (.t 5) (.seq (.ops r45_4)
  .ret)
  (.seq (.ops r45_5)
  (.cond (.t 12) (.seq (.ops r45_6)
  .ret)
  (.seq (.ops r45_7)
  (.cond (.t 18) (.seq (.ops r45_8)
  .ret)
  .skip))))))))
  (.seq (.ops r45_9)
  .ret)))⟩
set_option maxRecDepth 1000000 in
theorem t45 : trF Tryd.prog 45 = some c45 := by kernel_rfl
/-- (regrater/expr.Expr).bare (0 e, 1 e, 3 x) -/
noncomputable def r46_0 : List AO := [⟨some 1, none, .box 34 8 (.t 0)⟩,
  ⟨some 2, none, .mv (.c (.bl false))⟩]
noncomputable def r46_1 : List AO := [⟨some 4, none, .fad 0 (.t 1)⟩,
  ⟨some 5, none, .ld false 1 (.t 4)⟩,
  ⟨some 6, none, .fad 7 (.t 1)⟩,
  ⟨some 7, none, .ld false 1 (.t 6)⟩,
  ⟨some 8, none, .bld [(.it .i64 0), (.it .i64 0), (.it .i64 0), (.it .i64 0), (.st []), (.st []), (.st []), (.sl true 0 [])] [(0, 1, (.t 5)), (7, 1, (.t 7))]⟩,
  ⟨some 3, none, .box 34 8 (.c (.agg [(.it .i64 0), (.it .i64 0), (.it .i64 0), (.it .i64 0), (.st []), (.st []), (.st []), (.sl true 0 [])]))⟩,
  ⟨none, none, .sto 8 (.t 3) (.t 8)⟩]
noncomputable def r46_2 : List AO := [⟨some 9, none, .fad 0 (.t 1)⟩,
  ⟨some 10, none, .ld false 1 (.t 9)⟩]
noncomputable def r46_3 : List AO := [⟨some 12, none, .eq false 1 (.t 10) (.c (.it .i64 1))⟩,
  ⟨some 11, none, .mv (.t 12)⟩]
noncomputable def r46_4 : List AO := [⟨some 13, none, .fad 2 (.t 1)⟩,
  ⟨some 14, none, .ld true 3 (.t 13)⟩,
  ⟨some 15, none, .fad 2 (.t 3)⟩,
  ⟨none, none, .sto 3 (.t 15) (.t 14)⟩]
noncomputable def r46_5 : List AO := [⟨some 17, none, .eq false 1 (.t 10) (.c (.it .i64 2))⟩,
  ⟨some 16, none, .mv (.t 17)⟩]
noncomputable def r46_6 : List (AO × List Nat) := [(⟨some 18, none, .fad 5 (.t 1)⟩, []),
  (⟨some 19, none, .ld false 1 (.t 18)⟩, []),
  (⟨some 20, none, .fad 6 (.t 1)⟩, []),
  (⟨some 21, none, .ld false 1 (.t 20)⟩, []),
  (⟨some 22, none, .fad 5 (.t 3)⟩, []),
  (⟨none, none, .sto 1 (.t 22) (.t 19)⟩, [2, 3]),
  (⟨some 23, none, .fad 6 (.t 3)⟩, []),
  (⟨none, none, .sto 1 (.t 23) (.t 21)⟩, [])]
noncomputable def r46_7 : List AO := [⟨some 25, none, .eq false 1 (.t 10) (.c (.it .i64 3))⟩,
  ⟨some 24, none, .mv (.t 25)⟩]
noncomputable def r46_8 : List AO := [⟨some 26, none, .eq false 1 (.t 10) (.c (.it .i64 8))⟩,
  ⟨some 24, none, .mv (.t 26)⟩]
noncomputable def r46_9 : List AO := [⟨some 27, none, .fad 1 (.t 1)⟩,
  ⟨some 28, none, .ld false 1 (.t 27)⟩,
  ⟨some 29, none, .fad 1 (.t 3)⟩,
  ⟨none, none, .sto 1 (.t 29) (.t 28)⟩]
noncomputable def r46_10 : List AO := [⟨some 30, none, .fad 1 (.t 3)⟩,
  ⟨some 31, none, .ld false 1 (.t 30)⟩,
  ⟨some 32, none, .fad 1 (.t 1)⟩,
  ⟨some 33, none, .ld false 1 (.t 32)⟩,
  ⟨some 34, none, .eq false 1 (.t 31) (.t 33)⟩,
  ⟨some 35, none, .mv (.t 34)⟩,
  ⟨some 36, some (35, true), .fad 2 (.t 3)⟩,
  ⟨some 37, some (35, true), .ld true 3 (.t 36)⟩,
  ⟨some 38, some (35, true), .fad 2 (.t 1)⟩,
  ⟨some 39, some (35, true), .ld true 3 (.t 38)⟩,
  ⟨some 40, some (35, true), .eqs false [1, 1, 2] (.t 37) (.t 39)⟩,
  ⟨some 41, none, .pick (.t 35) (.t 40) (.c (.bl false))⟩,
  ⟨some 42, none, .mv (.t 41)⟩,
  ⟨some 43, some (42, true), .fad 5 (.t 3)⟩,
  ⟨some 44, some (42, true), .ld false 1 (.t 43)⟩,
  ⟨some 45, some (42, true), .fad 5 (.t 1)⟩,
  ⟨some 46, some (42, true), .ld false 1 (.t 45)⟩,
  ⟨some 47, some (42, true), .eq false 2 (.t 44) (.t 46)⟩,
  ⟨some 48, none, .pick (.t 42) (.t 47) (.c (.bl false))⟩,
  ⟨some 49, none, .mv (.t 48)⟩,
  ⟨some 50, some (49, true), .fad 6 (.t 3)⟩,
  ⟨some 51, some (49, true), .ld false 1 (.t 50)⟩,
  ⟨some 52, some (49, true), .fad 6 (.t 1)⟩,
  ⟨some 53, some (49, true), .ld false 1 (.t 52)⟩,
  ⟨some 54, some (49, true), .eq false 2 (.t 51) (.t 53)⟩,
  ⟨some 55, none, .pick (.t 49) (.t 54) (.c (.bl false))⟩,
  ⟨some 2, none, .mv (.t 55)⟩]
set_option maxRecDepth 1000000 in
noncomputable def c46 : AFn := ⟨56, [(2, none)],
  (.seq (.ops r46_0)
  (.seq (.ops r46_1)
  (.seq (.seq (.ops r46_2)
  (.block 0 (.seq (.ops r46_3)
  (.cond (.t 11) (.ops r46_4)
  (.seq (.ops r46_5)
  (.cond (.t 16) (.drw r46_6)
  (.seq (.seq (.ops r46_7)
  (.cond (.t 24) .skip
  (.ops r46_8)))
  (.cond (.t 24) (.ops r46_9)
  .skip))))))))
  (.seq (.ops r46_10)
  .ret))))⟩
set_option maxRecDepth 1000000 in
theorem t46 : trF Tryd.prog 46 = some c46 := by kernel_rfl
/-- (regrater/expr.Expr).field (0 e, 1 e) -/
noncomputable def r47_0 : List AO := [⟨some 1, none, .box 34 8 (.t 0)⟩,
  ⟨some 2, none, .mv (.c (.bl false))⟩]
noncomputable def r47_1 : List AO := [⟨some 3, none, .fad 0 (.t 1)⟩,
  ⟨some 4, none, .ld false 1 (.t 3)⟩]
noncomputable def r47_2 : List AO := [⟨some 6, none, .eq false 1 (.t 4) (.c (.it .i64 1))⟩,
  ⟨some 5, none, .mv (.t 6)⟩]
noncomputable def r47_3 : List AO := [⟨some 7, none, .fad 2 (.t 1)⟩,
  ⟨some 8, none, .ld true 3 (.t 7)⟩,
  ⟨some 9, none, .call 62 [(.t 8)]⟩,
  ⟨some 10, none, .mv (.t 9)⟩,
  ⟨some 11, some (10, true), .fad 2 (.t 1)⟩,
  ⟨some 12, some (10, true), .fad 0 (.t 11)⟩,
  ⟨some 13, some (10, true), .ld false 1 (.t 12)⟩,
  ⟨some 14, some (10, true), .eq true 1 (.t 13) (.c (.it .i64 2))⟩,
  ⟨some 15, some (10, true), .mv (.t 14)⟩,
  ⟨some 16, some (15, false), .fad 2 (.t 1)⟩,
  ⟨some 17, some (15, false), .fad 1 (.t 16)⟩,
  ⟨some 18, some (15, false), .ld false 1 (.t 17)⟩,
  ⟨some 19, some (15, false), .bin .geq (.t 18) (.c (.it .i64 0))⟩,
  ⟨some 20, some (10, true), .pick (.t 15) (.c (.bl true)) (.t 19)⟩,
  ⟨some 21, none, .pick (.t 10) (.t 20) (.c (.bl false))⟩,
  ⟨some 2, none, .mv (.t 21)⟩]
noncomputable def r47_4 : List AO := [⟨some 23, none, .eq false 1 (.t 4) (.c (.it .i64 2))⟩,
  ⟨some 22, none, .mv (.t 23)⟩]
noncomputable def r47_5 : List AO := [⟨some 24, none, .fad 6 (.t 1)⟩,
  ⟨some 25, none, .ld false 1 (.t 24)⟩,
  ⟨some 26, none, .call 21 [(.t 25)]⟩,
  ⟨some 27, none, .mv (.t 26)⟩,
  ⟨some 28, some (27, true), .fad 5 (.t 1)⟩,
  ⟨some 29, some (27, true), .ld false 1 (.t 28)⟩,
  ⟨some 30, some (27, true), .eq false 2 (.t 29) (.c (.st []))⟩,
  ⟨some 31, some (27, true), .mv (.t 30)⟩,
  ⟨some 32, some (31, false), .fad 5 (.t 1)⟩,
  ⟨some 33, some (31, false), .ld false 1 (.t 32)⟩,
  ⟨some 34, some (31, false), .call 21 [(.t 33)]⟩,
  ⟨some 35, some (27, true), .pick (.t 31) (.c (.bl true)) (.t 34)⟩,
  ⟨some 36, none, .pick (.t 27) (.t 35) (.c (.bl false))⟩,
  ⟨some 2, none, .mv (.t 36)⟩]
noncomputable def r47_6 : List AO := [⟨some 38, none, .eq false 1 (.t 4) (.c (.it .i64 3))⟩,
  ⟨some 37, none, .mv (.t 38)⟩]
noncomputable def r47_7 : List AO := [⟨some 39, none, .fad 1 (.t 1)⟩,
  ⟨some 40, none, .ld false 1 (.t 39)⟩,
  ⟨some 41, none, .bin .geq (.t 40) (.c (.it .i64 1))⟩,
  ⟨some 42, none, .mv (.t 41)⟩,
  ⟨some 43, some (42, true), .fad 1 (.t 1)⟩,
  ⟨some 44, some (42, true), .ld false 1 (.t 43)⟩,
  ⟨some 45, some (42, true), .bin .leq (.t 44) (.c (.it .i64 14))⟩,
  ⟨some 46, none, .pick (.t 42) (.t 45) (.c (.bl false))⟩,
  ⟨some 2, none, .mv (.t 46)⟩]
noncomputable def r47_8 : List AO := [⟨some 48, none, .eq false 1 (.t 4) (.c (.it .i64 8))⟩,
  ⟨some 47, none, .mv (.t 48)⟩]
noncomputable def r47_9 : List AO := [⟨some 49, none, .fad 1 (.t 1)⟩,
  ⟨some 50, none, .ld false 1 (.t 49)⟩,
  ⟨some 51, none, .bin .geq (.t 50) (.c (.it .i64 1))⟩,
  ⟨some 52, none, .mv (.t 51)⟩,
  ⟨some 53, some (52, true), .fad 1 (.t 1)⟩,
  ⟨some 54, some (52, true), .ld false 1 (.t 53)⟩,
  ⟨some 55, some (52, true), .bin .leq (.t 54) (.c (.it .i64 4))⟩,
  ⟨some 56, none, .pick (.t 52) (.t 55) (.c (.bl false))⟩,
  ⟨some 2, none, .mv (.t 56)⟩]
noncomputable def r47_10 : List AO := [⟨some 2, none, .mv (.c (.bl true))⟩]
set_option maxRecDepth 1000000 in
noncomputable def c47 : AFn := ⟨57, [(2, none)],
  (.seq (.ops r47_0)
  (.seq (.seq (.ops r47_1)
  (.block 0 (.seq (.ops r47_2)
  (.cond (.t 5) (.seq (.ops r47_3)
  .ret)
  (.seq (.ops r47_4)
  (.cond (.t 22) (.seq (.ops r47_5)
  .ret)
  (.seq (.ops r47_6)
  (.cond (.t 37) (.seq (.ops r47_7)
  .ret)
  (.seq (.ops r47_8)
  (.cond (.t 47) (.seq (.ops r47_9)
  .ret)
  .skip))))))))))
  (.seq (.ops r47_10)
  .ret)))⟩
set_option maxRecDepth 1000000 in
theorem t47 : trF Tryd.prog 47 = some c47 := by kernel_rfl
/-- (regrater/value.Value).Show (0 v, 1 v) -/
noncomputable def r48_0 : List AO := [⟨some 1, none, .box 31 3 (.t 0)⟩,
  ⟨some 2, none, .mv (.c (.st []))⟩]
noncomputable def r48_1 : List AO := [⟨some 4, none, .ld true 3 (.t 1)⟩,
  ⟨some 5, none, .call 62 [(.t 4)]⟩,
  ⟨some 6, none, .un .not (.t 5)⟩,
  ⟨some 7, none, .mv (.t 6)⟩,
  ⟨some 8, some (7, false), .ld true 3 (.t 1)⟩,
  ⟨some 9, some (7, false), .call 63 [(.t 8)]⟩,
  ⟨some 10, none, .pick (.t 7) (.c (.bl true)) (.t 9)⟩,
  ⟨some 3, none, .mv (.t 10)⟩]
noncomputable def r48_2 : List AO := [⟨some 2, none, .mv (.c (.st [78, 85, 76, 76]))⟩]
noncomputable def r48_3 : List AO := [⟨some 12, none, .ld true 3 (.t 1)⟩,
  ⟨some 13, none, .call 64 [(.t 12)]⟩,
  ⟨some 11, none, .mv (.t 13)⟩]
noncomputable def r48_4 : List AO := [⟨some 2, none, .mv (.c (.st [84, 82, 85, 69]))⟩]
noncomputable def r48_5 : List AO := [⟨some 15, none, .fad 0 (.t 1)⟩,
  ⟨some 16, none, .ld false 1 (.t 15)⟩,
  ⟨some 17, none, .eq false 1 (.t 16) (.c (.it .i64 1))⟩,
  ⟨some 14, none, .mv (.t 17)⟩]
noncomputable def r48_6 : List AO := [⟨some 2, none, .mv (.c (.st [70, 65, 76, 83, 69]))⟩]
noncomputable def r48_7 : List AO := [⟨some 19, none, .fad 0 (.t 1)⟩,
  ⟨some 20, none, .ld false 1 (.t 19)⟩,
  ⟨some 21, none, .eq false 1 (.t 20) (.c (.it .i64 2))⟩,
  ⟨some 18, none, .mv (.t 21)⟩]
noncomputable def r48_8 : List AO := [⟨some 22, none, .fad 1 (.t 1)⟩,
  ⟨some 23, none, .ld false 1 (.t 22)⟩,
  ⟨some 24, none, .call 57 [(.t 23), (.c (.it .i64 10))]⟩,
  ⟨some 2, none, .mv (.t 24)⟩]
noncomputable def r48_9 : List AO := [⟨some 25, none, .fad 2 (.t 1)⟩,
  ⟨some 26, none, .ld false 1 (.t 25)⟩,
  ⟨some 27, none, .call 58 [(.t 26), (.c (.st [39])), (.c (.st [39, 39]))]⟩,
  ⟨some 28, none, .bin .add (.c (.st [39])) (.t 27)⟩,
  ⟨some 29, none, .bin .add (.t 28) (.c (.st [39]))⟩,
  ⟨some 2, none, .mv (.t 29)⟩]
set_option maxRecDepth 1000000 in
noncomputable def c48 : AFn := ⟨30, [(2, none)],
  (.seq (.ops r48_0)
  (.seq (.block 0 (.seq (.ops r48_1)
  (.cond (.t 3) (.seq (.ops r48_2)
  .ret)
  (.seq (.ops r48_3)
  (.cond (.t 11) (.seq (.ops r48_4)
  .ret)
  (.seq (.ops r48_5)
  (.cond (.t 14) (.seq (.ops r48_6)
  .ret)
  (.seq (.ops r48_7)
  (.cond (.t 18) (.seq (.ops r48_8)
  .ret)
  .skip)))))))))
  (.seq (.ops r48_9)
  .ret)))⟩
set_option maxRecDepth 1000000 in
theorem t48 : trF Tryd.prog 48 = some c48 := by kernel_rfl
/-- regrater/lex.digit (0 c, 1 c) -/
noncomputable def r51_0 : List AO := [⟨some 2, none, .mv (.c (.bl false))⟩]
noncomputable def r51_1 : List AO := [⟨some 3, none, .mv (.t 0)⟩,
  ⟨some 4, none, .bin .geq (.t 3) (.c (.it .u8 48))⟩,
  ⟨some 5, none, .mv (.t 4)⟩,
  ⟨some 6, some (5, true), .mv (.t 0)⟩,
  ⟨some 7, some (5, true), .bin .leq (.t 6) (.c (.it .u8 57))⟩,
  ⟨some 8, none, .pick (.t 5) (.t 7) (.c (.bl false))⟩,
  ⟨some 2, none, .mv (.t 8)⟩]
set_option maxRecDepth 1000000 in
noncomputable def c51 : AFn := ⟨9, [(2, none)],
  (.seq (.ops r51_0)
  (.seq (.ops r51_1)
  .ret))⟩
set_option maxRecDepth 1000000 in
theorem t51 : trF Tryd.prog 51 = some c51 := by kernel_rfl
/-- strconv.FormatInt (0 i, 1 base, 2 i, 3 base) -/
noncomputable def r57_0 : List AO := [⟨some 4, none, .mv (.c (.st []))⟩]
noncomputable def r57_1 : List AO := [⟨some 5, none, .mv (.t 0)⟩,
  ⟨some 6, none, .mv (.t 1)⟩,
  ⟨some 7, none, .call 67 [(.t 5), (.t 6)]⟩,
  ⟨some 4, none, .mv (.t 7)⟩]
set_option maxRecDepth 1000000 in
noncomputable def c57 : AFn := ⟨8, [(4, none)],
  (.seq (.ops r57_0)
  (.seq (.ops r57_1)
  .ret))⟩
set_option maxRecDepth 1000000 in
theorem t57 : trF Tryd.prog 57 = some c57 := by kernel_rfl
/-- strings.ReplaceAll (0 s, 1 old, 2 new, 3 s, 4 old, 5 new) -/
noncomputable def r58_0 : List AO := [⟨some 6, none, .mv (.c (.st []))⟩]
noncomputable def r58_1 : List AO := [⟨some 7, none, .mv (.t 0)⟩,
  ⟨some 8, none, .mv (.t 1)⟩,
  ⟨some 9, none, .mv (.t 2)⟩,
  ⟨some 10, none, .call 68 [(.t 7), (.t 8), (.t 9), (.c (.it .i64 (-1)))]⟩,
  ⟨some 6, none, .mv (.t 10)⟩]
set_option maxRecDepth 1000000 in
noncomputable def c58 : AFn := ⟨11, [(6, none)],
  (.seq (.ops r58_0)
  (.seq (.ops r58_1)
  .ret))⟩
set_option maxRecDepth 1000000 in
theorem t58 : trF Tryd.prog 58 = some c58 := by kernel_rfl
/-- (regrater/value.Value).Good (0 v, 1 v) -/
noncomputable def r62_0 : List AO := [⟨some 1, none, .box 31 3 (.t 0)⟩,
  ⟨some 2, none, .mv (.c (.bl false))⟩]
noncomputable def r62_1 : List AO := [⟨some 3, none, .fad 0 (.t 1)⟩,
  ⟨some 4, none, .ld false 1 (.t 3)⟩]
noncomputable def r62_2 : List AO := [⟨some 6, none, .eq false 1 (.t 4) (.c (.it .i64 0))⟩,
  ⟨some 5, none, .mv (.t 6)⟩]
noncomputable def r62_3 : List AO := [⟨some 7, none, .ld true 3 (.t 1)⟩,
  ⟨some 8, none, .bld [(.it .i64 0), (.it .i64 0), (.st [])] []⟩,
  ⟨some 9, none, .eqs false [1, 1, 2] (.t 7) (.t 8)⟩,
  ⟨some 2, none, .mv (.t 9)⟩]
noncomputable def r62_4 : List AO := [⟨some 11, none, .eq false 1 (.t 4) (.c (.it .i64 1))⟩,
  ⟨some 10, none, .mv (.t 11)⟩]
noncomputable def r62_5 : List AO := [⟨some 12, none, .fad 1 (.t 1)⟩,
  ⟨some 13, none, .ld false 1 (.t 12)⟩,
  ⟨some 14, none, .eq false 1 (.t 13) (.c (.it .i64 0))⟩,
  ⟨some 15, none, .mv (.t 14)⟩,
  ⟨some 16, some (15, false), .fad 1 (.t 1)⟩,
  ⟨some 17, some (15, false), .ld false 1 (.t 16)⟩,
  ⟨some 18, some (15, false), .eq false 1 (.t 17) (.c (.it .i64 1))⟩,
  ⟨some 19, none, .pick (.t 15) (.c (.bl true)) (.t 18)⟩,
  ⟨some 20, none, .mv (.t 19)⟩,
  ⟨some 21, some (20, true), .fad 2 (.t 1)⟩,
  ⟨some 22, some (20, true), .ld false 1 (.t 21)⟩,
  ⟨some 23, some (20, true), .eq false 2 (.t 22) (.c (.st []))⟩,
  ⟨some 24, none, .pick (.t 20) (.t 23) (.c (.bl false))⟩,
  ⟨some 2, none, .mv (.t 24)⟩]
noncomputable def r62_6 : List AO := [⟨some 26, none, .eq false 1 (.t 4) (.c (.it .i64 2))⟩,
  ⟨some 25, none, .mv (.t 26)⟩]
noncomputable def r62_7 : List AO := [⟨some 27, none, .fad 2 (.t 1)⟩,
  ⟨some 28, none, .ld false 1 (.t 27)⟩,
  ⟨some 29, none, .eq false 2 (.t 28) (.c (.st []))⟩,
  ⟨some 2, none, .mv (.t 29)⟩]
noncomputable def r62_8 : List AO := [⟨some 31, none, .eq false 1 (.t 4) (.c (.it .i64 3))⟩,
  ⟨some 30, none, .mv (.t 31)⟩]
noncomputable def r62_9 : List AO := [⟨some 32, none, .fad 1 (.t 1)⟩,
  ⟨some 33, none, .ld false 1 (.t 32)⟩,
  ⟨some 34, none, .eq false 1 (.t 33) (.c (.it .i64 0))⟩,
  ⟨some 35, none, .mv (.t 34)⟩,
  ⟨some 36, some (35, true), .fad 2 (.t 1)⟩,
  ⟨some 37, some (35, true), .ld false 1 (.t 36)⟩,
  ⟨some 38, some (35, true), .lens (.t 37)⟩,
  ⟨some 39, some (35, true), .bin .leq (.t 38) (.c (.it .i64 64))⟩,
  ⟨some 40, none, .pick (.t 35) (.t 39) (.c (.bl false))⟩,
  ⟨some 2, none, .mv (.t 40)⟩]
noncomputable def r62_10 : List AO := [⟨some 2, none, .mv (.c (.bl false))⟩]
set_option maxRecDepth 1000000 in
noncomputable def c62 : AFn := ⟨41, [(2, none)],
  (.seq (.ops r62_0)
  (.seq (.seq (.ops r62_1)
  (.block 0 (.seq (.ops r62_2)
  (.cond (.t 5) (.seq (.ops r62_3)
  .ret)
  (.seq (.ops r62_4)
  (.cond (.t 10) (.seq (.ops r62_5)
  .ret)
  (.seq (.ops r62_6)
  (.cond (.t 25) (.seq (.ops r62_7)
  .ret)
  (.seq (.ops r62_8)
  (.cond (.t 30) (.seq (.ops r62_9)
  .ret)
  .skip))))))))))
  (.seq (.ops r62_10)
  .ret)))⟩
set_option maxRecDepth 1000000 in
theorem t62 : trF Tryd.prog 62 = some c62 := by kernel_rfl
/-- (regrater/value.Value).none (0 v, 1 v) -/
noncomputable def r63_0 : List AO := [⟨some 1, none, .box 31 3 (.t 0)⟩,
  ⟨some 2, none, .mv (.c (.bl false))⟩]
noncomputable def r63_1 : List AO := [⟨some 3, none, .fad 0 (.t 1)⟩,
  ⟨some 4, none, .ld false 1 (.t 3)⟩,
  ⟨some 5, none, .eq false 1 (.t 4) (.c (.it .i64 0))⟩,
  ⟨some 2, none, .mv (.t 5)⟩]
set_option maxRecDepth 1000000 in
noncomputable def c63 : AFn := ⟨6, [(2, none)],
  (.seq (.ops r63_0)
  (.seq (.ops r63_1)
  .ret))⟩
set_option maxRecDepth 1000000 in
theorem t63 : trF Tryd.prog 63 = some c63 := by kernel_rfl
/-- (regrater/value.Value).True (0 v, 1 v) -/
noncomputable def r64_0 : List AO := [⟨some 1, none, .box 31 3 (.t 0)⟩,
  ⟨some 2, none, .mv (.c (.bl false))⟩]
noncomputable def r64_1 : List (AO × List Nat) := [(⟨some 3, none, .ld true 3 (.t 1)⟩, []),
  (⟨some 4, none, .call 71 [(.c (.bl true))]⟩, [0]),
  (⟨some 5, none, .eqs false [1, 1, 2] (.t 3) (.t 4)⟩, []),
  (⟨some 2, none, .mv (.t 5)⟩, [])]
set_option maxRecDepth 1000000 in
noncomputable def c64 : AFn := ⟨6, [(2, none)],
  (.seq (.ops r64_0)
  (.seq (.drw r64_1)
  .ret))⟩
set_option maxRecDepth 1000000 in
theorem t64 : trF Tryd.prog 64 = some c64 := by kernel_rfl
/-- regrater/value.OfBool (0 b, 1 b) -/
noncomputable def r71_0 : List AO := [⟨some 2, none, .box 31 3 (.c (.agg [(.it .i64 0), (.it .i64 0), (.st [])]))⟩]
noncomputable def r71_1 : List AO := [⟨some 3, none, .mv (.t 0)⟩]
noncomputable def r71_2 : List AO := [⟨some 4, none, .bld [(.it .i64 0), (.it .i64 0), (.st [])] [(0, 1, (.c (.it .i64 1))), (1, 1, (.c (.it .i64 1)))]⟩,
  ⟨none, none, .sto 3 (.t 2) (.t 4)⟩]
noncomputable def r71_3 : List AO := [⟨some 5, none, .bld [(.it .i64 0), (.it .i64 0), (.st [])] [(0, 1, (.c (.it .i64 1)))]⟩,
  ⟨none, none, .sto 3 (.t 2) (.t 5)⟩]
set_option maxRecDepth 1000000 in
noncomputable def c71 : AFn := ⟨6, [(2, some 3)],
  (.seq (.ops r71_0)
  (.seq (.seq (.ops r71_1)
  (.cond (.t 3) (.seq (.ops r71_2)
  .ret)
  .skip))
  (.seq (.ops r71_3)
  .ret)))⟩
set_option maxRecDepth 1000000 in
theorem t71 : trF Tryd.prog 71 = some c71 := by kernel_rfl
end Go.Proofs.YteoohihaibgplaaDoor
