/-
  The resolved code of the functions, each held against the program by the kernel.
-/
import Derived.Test.YtkmehmgocelkiaaAv
import Derived.Test.YtkmehmgocelkiaaRows
import Derived.KernelRfl
namespace Go.Proofs.Ytkmehmgocelkiaa
open Go.AV
/-- regrater/regraterlaw08.BagTurns (0 l, 1 m, 2 n, 3 l, 4 m, 5 n, 7 a, 8 _, 9 b, 10 _, 11 c, 12 _, 13 back, 14 i, 15 x, 16 y, 17 z) -/
noncomputable def r3_0 : List AO := [⟨some 6, none, .mv (.c (.bl false))⟩]
noncomputable def r3_1 : List AO := [⟨some 18, none, .call 8 []⟩,
  ⟨some 19, none, .un .not (.t 18)⟩]
noncomputable def r3_2 : List AO := [⟨some 6, none, .mv (.c (.bl false))⟩]
noncomputable def r3_3 : List AO := [⟨some 21, none, .mv (.t 0)⟩,
  ⟨some 22, none, .call 9 [(.t 21)]⟩,
  ⟨some 20, none, .mv (.t 22)⟩,
  ⟨some 23, none, .ext (.t 20) 0⟩,
  ⟨some 24, none, .ext (.t 20) 1⟩,
  ⟨some 7, none, .mv (.t 23)⟩,
  ⟨some 8, none, .mv (.t 24)⟩]
noncomputable def r3_4 : List AO := [⟨some 26, none, .mv (.t 1)⟩,
  ⟨some 27, none, .call 9 [(.t 26)]⟩,
  ⟨some 25, none, .mv (.t 27)⟩,
  ⟨some 28, none, .ext (.t 25) 0⟩,
  ⟨some 29, none, .ext (.t 25) 1⟩,
  ⟨some 9, none, .mv (.t 28)⟩,
  ⟨some 10, none, .mv (.t 29)⟩]
noncomputable def r3_5 : List AO := [⟨some 31, none, .mv (.t 2)⟩,
  ⟨some 32, none, .call 9 [(.t 31)]⟩,
  ⟨some 30, none, .mv (.t 32)⟩,
  ⟨some 33, none, .ext (.t 30) 0⟩,
  ⟨some 34, none, .ext (.t 30) 1⟩,
  ⟨some 11, none, .mv (.t 33)⟩,
  ⟨some 12, none, .mv (.t 34)⟩]
noncomputable def r3_6 : List AO := [⟨some 13, none, .mv (.c (.sl true 0 []))⟩]
noncomputable def r3_7 : List AO := [⟨some 35, none, .mv (.t 7)⟩,
  ⟨some 36, none, .len (.t 35)⟩,
  ⟨some 37, none, .bin .sub (.t 36) (.c (.it .i64 1))⟩,
  ⟨some 14, none, .mv (.t 37)⟩]
noncomputable def r3_8 : List AO := [⟨some 38, none, .mv (.t 14)⟩,
  ⟨some 39, none, .bin .geq (.t 38) (.c (.it .i64 0))⟩]
noncomputable def r3_9 : List AO := [⟨some 42, none, .mv (.t 13)⟩,
  ⟨some 43, none, .mv (.t 7)⟩,
  ⟨some 44, none, .mv (.t 14)⟩,
  ⟨some 45, none, .iad 1 (.t 43) (.t 44)⟩,
  ⟨some 46, none, .ld false 1 (.t 45)⟩,
  ⟨some 47, none, .bsl 29 1 1 [(.sl true 0 [])] [(0, 1, (.t 46))]⟩,
  ⟨some 48, none, .app 29 1 24 (.t 42) (.t 47)⟩,
  ⟨some 13, none, .mv (.t 48)⟩]
noncomputable def r3_10 : List AO := [⟨some 40, none, .mv (.t 14)⟩,
  ⟨some 41, none, .bin .sub (.t 40) (.c (.it .i64 1))⟩,
  ⟨some 14, none, .mv (.t 41)⟩]
noncomputable def r3_11 : List AO := [⟨some 49, none, .mv (.t 7)⟩,
  ⟨some 50, none, .call 10 [(.t 49)]⟩,
  ⟨some 51, none, .mv (.t 9)⟩,
  ⟨some 52, none, .call 10 [(.t 51)]⟩,
  ⟨some 53, none, .mv (.t 11)⟩,
  ⟨some 54, none, .call 10 [(.t 53)]⟩,
  ⟨some 15, none, .box 31 1 (.c (.agg [(.sl true 0 [])]))⟩,
  ⟨some 16, none, .box 31 1 (.c (.agg [(.sl true 0 [])]))⟩,
  ⟨some 17, none, .box 31 1 (.c (.agg [(.sl true 0 [])]))⟩,
  ⟨none, none, .sto 1 (.t 15) (.t 50)⟩,
  ⟨none, none, .sto 1 (.t 16) (.t 52)⟩,
  ⟨none, none, .sto 1 (.t 17) (.t 54)⟩]
noncomputable def r3_12 : List (AO × List Nat) := [(⟨some 55, none, .ld true 1 (.t 15)⟩, []),
  (⟨some 56, none, .mv (.t 13)⟩, []),
  (⟨some 57, none, .call 10 [(.t 56)]⟩, [0]),
  (⟨some 58, none, .call 11 [(.t 55), (.t 57)]⟩, []),
  (⟨some 59, none, .mv (.t 58)⟩, []),
  (⟨some 60, some (59, true), .ld true 1 (.t 15)⟩, []),
  (⟨some 61, some (59, true), .ld true 1 (.t 16)⟩, []),
  (⟨some 62, some (59, true), .bsl 31 1 2 [(.sl true 0 [])] [(0, 1, (.t 60)), (1, 1, (.t 61))]⟩, []),
  (⟨some 63, some (59, true), .call 12 [(.t 62)]⟩, []),
  (⟨some 64, some (59, true), .ld true 1 (.t 17)⟩, [7, 8]),
  (⟨some 65, some (59, true), .bsl 31 1 2 [(.sl true 0 [])] [(0, 1, (.t 63)), (1, 1, (.t 64))]⟩, []),
  (⟨some 66, some (59, true), .call 12 [(.t 65)]⟩, []),
  (⟨some 67, some (59, true), .ld true 1 (.t 17)⟩, [7, 8, 10, 11]),
  (⟨some 68, some (59, true), .ld true 1 (.t 16)⟩, [7, 8, 10, 11]),
  (⟨some 69, some (59, true), .ld true 1 (.t 15)⟩, [7, 8, 10, 11]),
  (⟨some 70, some (59, true), .bsl 31 1 2 [(.sl true 0 [])] [(0, 1, (.t 68)), (1, 1, (.t 69))]⟩, [5, 6, 7, 8, 9, 10, 11, 12]),
  (⟨some 71, some (59, true), .call 12 [(.t 70)]⟩, [12]),
  (⟨some 72, some (59, true), .bsl 31 1 2 [(.sl true 0 [])] [(0, 1, (.t 67)), (1, 1, (.t 71))]⟩, []),
  (⟨some 73, some (59, true), .call 12 [(.t 72)]⟩, []),
  (⟨some 74, some (59, true), .call 11 [(.t 66), (.t 73)]⟩, []),
  (⟨some 75, none, .pick (.t 59) (.t 74) (.c (.bl false))⟩, []),
  (⟨some 76, none, .mv (.t 75)⟩, []),
  (⟨some 77, some (76, true), .ld true 1 (.t 15)⟩, []),
  (⟨some 78, some (76, true), .bld [(.sl true 0 [])] []⟩, []),
  (⟨some 79, some (76, true), .bsl 31 1 2 [(.sl true 0 [])] [(0, 1, (.t 77)), (1, 1, (.t 78))]⟩, []),
  (⟨some 80, some (76, true), .call 12 [(.t 79)]⟩, []),
  (⟨some 81, some (76, true), .ld true 1 (.t 15)⟩, [24, 25]),
  (⟨some 82, some (76, true), .call 11 [(.t 80), (.t 81)]⟩, []),
  (⟨some 83, none, .pick (.t 76) (.t 82) (.c (.bl false))⟩, []),
  (⟨some 84, none, .mv (.t 83)⟩, []),
  (⟨some 85, some (84, true), .ld true 1 (.t 15)⟩, []),
  (⟨some 86, some (84, true), .ld true 1 (.t 16)⟩, []),
  (⟨some 87, some (84, true), .ld true 1 (.t 17)⟩, []),
  (⟨some 88, some (84, true), .bsl 31 1 3 [(.sl true 0 [])] [(0, 1, (.t 85)), (1, 1, (.t 86)), (2, 1, (.t 87))]⟩, []),
  (⟨some 89, some (84, true), .call 12 [(.t 88)]⟩, []),
  (⟨some 90, some (84, true), .call 13 [(.t 89)]⟩, []),
  (⟨some 91, some (84, true), .mv (.t 7)⟩, [33, 34, 35]),
  (⟨some 92, some (84, true), .len (.t 91)⟩, [33, 34, 35]),
  (⟨some 93, some (84, true), .mv (.t 9)⟩, [33, 34, 35]),
  (⟨some 94, some (84, true), .len (.t 93)⟩, [33, 34, 35]),
  (⟨some 95, some (84, true), .bin .add (.t 92) (.t 94)⟩, [33, 34, 35]),
  (⟨some 96, some (84, true), .mv (.t 11)⟩, [33, 34, 35]),
  (⟨some 97, some (84, true), .len (.t 96)⟩, [33, 34, 35]),
  (⟨some 98, some (84, true), .bin .add (.t 95) (.t 97)⟩, [33, 34, 35]),
  (⟨some 99, some (84, true), .eq false 1 (.t 90) (.t 98)⟩, []),
  (⟨some 100, none, .pick (.t 84) (.t 99) (.c (.bl false))⟩, []),
  (⟨some 6, none, .mv (.t 100)⟩, [])]
set_option maxRecDepth 1000000 in
noncomputable def c3 : AFn := ⟨101, [(6, none)],
  (.seq (.ops r3_0)
  (.seq (.seq (.ops r3_1)
  (.cond (.t 19) (.seq (.ops r3_2)
  .ret)
  .skip))
  (.seq (.ops r3_3)
  (.seq (.ops r3_4)
  (.seq (.ops r3_5)
  (.seq (.ops r3_6)
  (.seq (.seq (.ops r3_7)
  (.block 0 (.loop (.seq (.seq (.ops r3_8)
  (.cond (.t 39) .skip
  (.exit 0)))
  (.seq (.block 1 (.ops r3_9))
  (.ops r3_10))))))
  (.seq (.ops r3_11)
  (.seq (.drw r3_12)
  .ret)))))))))⟩
set_option maxRecDepth 1000000 in
theorem t3 : trF Try.prog 3 = some c3 := by kernel_rfl
/-- regrater/regraterlaw08.BagReads (0 l, 1 sorted, 2 l, 3 sorted, 5 i, 6 k, 7 s, 8 b, 9 e, 10 all, 11 i, 12 r, 13 f, 14 i, 15 c, 16 f) -/
noncomputable def r4_0 : List AO := [⟨some 4, none, .mv (.c (.bl false))⟩]
noncomputable def r4_1 : List AO := [⟨some 17, none, .call 8 []⟩,
  ⟨some 18, none, .un .not (.t 17)⟩]
noncomputable def r4_2 : List AO := [⟨some 4, none, .mv (.c (.bl false))⟩]
noncomputable def r4_3 : List AO := [⟨some 19, none, .bsl 9 1 0 [(.st [])] []⟩,
  ⟨some 20, none, .mv (.t 0)⟩,
  ⟨some 21, none, .mv (.t 0)⟩,
  ⟨some 22, none, .len (.t 21)⟩,
  ⟨some 23, none, .mnx false [(.t 22), (.c (.it .i64 8))]⟩,
  ⟨some 24, none, .sll 1 (.t 20) none (some (.t 23))⟩,
  ⟨some 25, none, .app 9 1 16 (.t 19) (.t 24)⟩,
  ⟨some 0, none, .mv (.t 25)⟩]
noncomputable def r4_4 : List AO := [⟨some 26, none, .mv (.t 1)⟩]
noncomputable def r4_5 : List AO := [⟨some 5, none, .mv (.c (.it .i64 0))⟩]
noncomputable def r4_6 : List AO := [⟨some 27, none, .mv (.t 5)⟩,
  ⟨some 28, none, .mv (.t 0)⟩,
  ⟨some 29, none, .len (.t 28)⟩,
  ⟨some 30, none, .bin .lss (.t 27) (.t 29)⟩]
noncomputable def r4_7 : List AO := [⟨some 33, none, .mv (.t 5)⟩,
  ⟨some 6, none, .mv (.t 33)⟩]
noncomputable def r4_8 : List (AO × List Nat) := [(⟨some 34, none, .mv (.t 6)⟩, []),
  (⟨some 35, none, .bin .gtr (.t 34) (.c (.it .i64 0))⟩, []),
  (⟨some 36, none, .mv (.t 35)⟩, []),
  (⟨some 37, some (36, true), .mv (.t 0)⟩, []),
  (⟨some 38, some (36, true), .mv (.t 6)⟩, []),
  (⟨some 39, some (36, true), .iad 1 (.t 37) (.t 38)⟩, []),
  (⟨some 40, some (36, true), .ld false 1 (.t 39)⟩, []),
  (⟨some 41, some (36, true), .mv (.t 0)⟩, []),
  (⟨some 42, some (36, true), .mv (.t 6)⟩, []),
  (⟨some 43, some (36, true), .bin .sub (.t 42) (.c (.it .i64 1))⟩, []),
  (⟨some 44, some (36, true), .iad 1 (.t 41) (.t 43)⟩, []),
  (⟨some 45, some (36, true), .ld false 1 (.t 44)⟩, []),
  (⟨some 46, some (36, true), .bin .lss (.t 40) (.t 45)⟩, []),
  (⟨some 47, none, .pick (.t 36) (.t 46) (.c (.bl false))⟩, [])]
noncomputable def r4_9 : List (AO × List Nat) := [(⟨some 50, none, .mv (.t 0)⟩, []),
  (⟨some 51, none, .mv (.t 6)⟩, []),
  (⟨some 52, none, .mv (.t 0)⟩, []),
  (⟨some 53, none, .mv (.t 6)⟩, []),
  (⟨some 54, none, .bin .sub (.t 53) (.c (.it .i64 1))⟩, []),
  (⟨some 55, none, .mv (.t 0)⟩, []),
  (⟨some 56, none, .mv (.t 6)⟩, []),
  (⟨some 57, none, .bin .sub (.t 56) (.c (.it .i64 1))⟩, []),
  (⟨some 58, none, .iad 1 (.t 55) (.t 57)⟩, []),
  (⟨some 59, none, .ld false 1 (.t 58)⟩, []),
  (⟨some 60, none, .mv (.t 0)⟩, []),
  (⟨some 61, none, .mv (.t 6)⟩, []),
  (⟨some 62, none, .iad 1 (.t 60) (.t 61)⟩, []),
  (⟨some 63, none, .ld false 1 (.t 62)⟩, []),
  (⟨some 64, none, .iad 1 (.t 50) (.t 51)⟩, []),
  (⟨none, none, .sto 1 (.t 64) (.t 59)⟩, [2, 3, 4]),
  (⟨some 65, none, .iad 1 (.t 52) (.t 54)⟩, []),
  (⟨none, none, .sto 1 (.t 65) (.t 63)⟩, [])]
noncomputable def r4_10 : List AO := [⟨some 48, none, .mv (.t 6)⟩,
  ⟨some 49, none, .bin .sub (.t 48) (.c (.it .i64 1))⟩,
  ⟨some 6, none, .mv (.t 49)⟩]
noncomputable def r4_11 : List AO := [⟨some 31, none, .mv (.t 5)⟩,
  ⟨some 32, none, .bin .add (.t 31) (.c (.it .i64 1))⟩,
  ⟨some 5, none, .mv (.t 32)⟩]
noncomputable def r4_12 : List AO := [⟨some 66, none, .mv (.t 0)⟩,
  ⟨some 67, none, .call 14 [(.t 66)]⟩,
  ⟨some 7, none, .mv (.t 67)⟩]
noncomputable def r4_13 : List AO := [⟨some 69, none, .mv (.t 7)⟩,
  ⟨some 70, none, .call 15 [(.t 69)]⟩,
  ⟨some 68, none, .mv (.t 70)⟩,
  ⟨some 71, none, .ext (.t 68) 0⟩,
  ⟨some 72, none, .ext (.t 68) 1⟩,
  ⟨some 8, none, .box 31 1 (.c (.agg [(.sl true 0 [])]))⟩,
  ⟨none, none, .sto 1 (.t 8) (.t 71)⟩,
  ⟨some 9, none, .mv (.t 72)⟩]
noncomputable def r4_14 : List AO := [⟨some 10, none, .mv (.c (.sl true 0 []))⟩]
noncomputable def r4_15 : List AO := [⟨some 11, none, .mv (.c (.it .i64 0))⟩]
noncomputable def r4_16 : List AO := [⟨some 73, none, .mv (.t 11)⟩,
  ⟨some 74, none, .mv (.t 0)⟩,
  ⟨some 75, none, .len (.t 74)⟩,
  ⟨some 76, none, .bin .lss (.t 73) (.t 75)⟩]
noncomputable def r4_17 : List AO := [⟨some 80, none, .mv (.t 0)⟩,
  ⟨some 81, none, .mv (.t 11)⟩,
  ⟨some 82, none, .iad 1 (.t 80) (.t 81)⟩,
  ⟨some 83, none, .ld false 1 (.t 82)⟩,
  ⟨some 84, none, .call 16 [(.t 83)]⟩,
  ⟨some 79, none, .mv (.t 84)⟩,
  ⟨some 85, none, .ext (.t 79) 0⟩,
  ⟨some 86, none, .ext (.t 79) 1⟩,
  ⟨some 12, none, .mv (.t 85)⟩,
  ⟨some 13, none, .mv (.t 86)⟩]
noncomputable def r4_18 : List AO := [⟨some 87, none, .mv (.t 13)⟩,
  ⟨some 88, none, .eq true 1 (.t 87) (.c (.it .i64 0))⟩]
noncomputable def r4_19 : List AO := [⟨some 89, none, .mv (.t 9)⟩,
  ⟨some 90, none, .mv (.t 13)⟩,
  ⟨some 91, none, .eq false 1 (.t 89) (.t 90)⟩,
  ⟨some 92, none, .mv (.t 91)⟩,
  ⟨some 93, some (92, true), .ld true 1 (.t 8)⟩,
  ⟨some 94, some (92, true), .call 13 [(.t 93)]⟩,
  ⟨some 95, some (92, true), .eq false 1 (.t 94) (.c (.it .i64 0))⟩,
  ⟨some 96, none, .pick (.t 92) (.t 95) (.c (.bl false))⟩,
  ⟨some 4, none, .mv (.t 96)⟩]
noncomputable def r4_20 : List AO := [⟨some 97, none, .mv (.t 10)⟩,
  ⟨some 98, none, .mv (.t 12)⟩,
  ⟨some 99, none, .bsl 29 1 1 [(.sl true 0 [])] [(0, 1, (.t 98))]⟩,
  ⟨some 100, none, .app 29 1 24 (.t 97) (.t 99)⟩,
  ⟨some 10, none, .mv (.t 100)⟩]
noncomputable def r4_21 : List AO := [⟨some 77, none, .mv (.t 11)⟩,
  ⟨some 78, none, .bin .add (.t 77) (.c (.it .i64 1))⟩,
  ⟨some 11, none, .mv (.t 78)⟩]
noncomputable def r4_22 : List AO := [⟨some 14, none, .mv (.c (.it .i64 1))⟩]
noncomputable def r4_23 : List AO := [⟨some 101, none, .mv (.t 14)⟩,
  ⟨some 102, none, .mv (.t 10)⟩,
  ⟨some 103, none, .len (.t 102)⟩,
  ⟨some 104, none, .bin .lss (.t 101) (.t 103)⟩]
noncomputable def r4_24 : List (AO × List Nat) := [(⟨some 107, none, .mv (.t 10)⟩, []),
  (⟨some 108, none, .mv (.t 14)⟩, []),
  (⟨some 109, none, .bin .sub (.t 108) (.c (.it .i64 1))⟩, []),
  (⟨some 110, none, .iad 1 (.t 107) (.t 109)⟩, []),
  (⟨some 111, none, .ld false 1 (.t 110)⟩, []),
  (⟨some 112, none, .mv (.t 10)⟩, []),
  (⟨some 113, none, .mv (.t 14)⟩, []),
  (⟨some 114, none, .iad 1 (.t 112) (.t 113)⟩, []),
  (⟨some 115, none, .ld false 1 (.t 114)⟩, []),
  (⟨some 116, none, .call 17 [(.t 111), (.t 115)]⟩, []),
  (⟨some 117, none, .bin .gtr (.t 116) (.c (.it .i64 0))⟩, [])]
noncomputable def r4_25 : List AO := [⟨some 118, none, .mv (.t 9)⟩,
  ⟨some 119, none, .eq false 1 (.t 118) (.c (.it .i64 4))⟩,
  ⟨some 120, none, .mv (.t 119)⟩,
  ⟨some 121, some (120, true), .ld true 1 (.t 8)⟩,
  ⟨some 122, some (120, true), .call 13 [(.t 121)]⟩,
  ⟨some 123, some (120, true), .eq false 1 (.t 122) (.c (.it .i64 0))⟩,
  ⟨some 124, none, .pick (.t 120) (.t 123) (.c (.bl false))⟩,
  ⟨some 4, none, .mv (.t 124)⟩]
noncomputable def r4_26 : List AO := [⟨some 105, none, .mv (.t 14)⟩,
  ⟨some 106, none, .bin .add (.t 105) (.c (.it .i64 1))⟩,
  ⟨some 14, none, .mv (.t 106)⟩]
noncomputable def r4_27 : List AO := [⟨some 126, none, .mv (.t 7)⟩,
  ⟨some 127, none, .bin .add (.t 126) (.c (.st [0]))⟩,
  ⟨some 128, none, .call 15 [(.t 127)]⟩,
  ⟨some 125, none, .mv (.t 128)⟩,
  ⟨some 129, none, .ext (.t 125) 0⟩,
  ⟨some 130, none, .ext (.t 125) 1⟩,
  ⟨some 15, none, .box 31 1 (.c (.agg [(.sl true 0 [])]))⟩,
  ⟨none, none, .sto 1 (.t 15) (.t 129)⟩,
  ⟨some 16, none, .mv (.t 130)⟩]
noncomputable def r4_28 : List (AO × List Nat) := [(⟨some 131, none, .mv (.t 9)⟩, []),
  (⟨some 132, none, .eq false 1 (.t 131) (.c (.it .i64 0))⟩, []),
  (⟨some 133, none, .mv (.t 132)⟩, []),
  (⟨some 134, some (133, true), .ld true 1 (.t 8)⟩, []),
  (⟨some 135, some (133, true), .call 18 [(.t 134)]⟩, []),
  (⟨some 136, some (133, true), .mv (.t 7)⟩, [4]),
  (⟨some 137, some (133, true), .eq false 2 (.t 135) (.t 136)⟩, []),
  (⟨some 138, none, .pick (.t 133) (.t 137) (.c (.bl false))⟩, []),
  (⟨some 139, none, .mv (.t 138)⟩, []),
  (⟨some 140, some (139, true), .ld true 1 (.t 8)⟩, []),
  (⟨some 141, some (139, true), .mv (.t 10)⟩, []),
  (⟨some 142, some (139, true), .call 10 [(.t 141)]⟩, [9]),
  (⟨some 143, some (139, true), .call 11 [(.t 140), (.t 142)]⟩, []),
  (⟨some 144, none, .pick (.t 139) (.t 143) (.c (.bl false))⟩, []),
  (⟨some 145, none, .mv (.t 144)⟩, []),
  (⟨some 146, some (145, true), .mv (.t 16)⟩, []),
  (⟨some 147, some (145, true), .eq false 1 (.t 146) (.c (.it .i64 2))⟩, []),
  (⟨some 148, none, .pick (.t 145) (.t 147) (.c (.bl false))⟩, []),
  (⟨some 149, none, .mv (.t 148)⟩, []),
  (⟨some 150, some (149, true), .ld true 1 (.t 15)⟩, []),
  (⟨some 151, some (149, true), .call 13 [(.t 150)]⟩, []),
  (⟨some 152, some (149, true), .eq false 1 (.t 151) (.c (.it .i64 0))⟩, []),
  (⟨some 153, none, .pick (.t 149) (.t 152) (.c (.bl false))⟩, []),
  (⟨some 4, none, .mv (.t 153)⟩, [])]
set_option maxRecDepth 1000000 in
noncomputable def c4 : AFn := ⟨154, [(4, none)],
  (.seq (.ops r4_0)
  (.seq (.seq (.ops r4_1)
  (.cond (.t 18) (.seq (.ops r4_2)
  .ret)
  .skip))
  (.seq (.ops r4_3)
  (.seq (.seq (.ops r4_4)
  (.cond (.t 26) (.seq (.ops r4_5)
  (.block 0 (.loop (.seq (.seq (.ops r4_6)
  (.cond (.t 30) .skip
  (.exit 0)))
  (.seq (.block 1 (.seq (.ops r4_7)
  (.block 2 (.loop (.seq (.seq (.drw r4_8)
  (.cond (.t 47) .skip
  (.exit 2)))
  (.seq (.block 3 (.drw r4_9))
  (.ops r4_10)))))))
  (.ops r4_11))))))
  .skip))
  (.seq (.ops r4_12)
  (.seq (.ops r4_13)
  (.seq (.ops r4_14)
  (.seq (.seq (.ops r4_15)
  (.block 4 (.loop (.seq (.seq (.ops r4_16)
  (.cond (.t 76) .skip
  (.exit 4)))
  (.seq (.block 5 (.seq (.ops r4_17)
  (.seq (.seq (.ops r4_18)
  (.cond (.t 88) (.seq (.ops r4_19)
  .ret)
  .skip))
  (.ops r4_20))))
  (.ops r4_21))))))
  (.seq (.seq (.ops r4_22)
  (.block 6 (.loop (.seq (.seq (.ops r4_23)
  (.cond (.t 104) .skip
  (.exit 6)))
  (.seq (.block 7 (.seq (.drw r4_24)
  (.cond (.t 117) (.seq (.ops r4_25)
  .ret)
  .skip)))
  (.ops r4_26))))))
  (.seq (.ops r4_27)
  (.seq (.drw r4_28)
  .ret)))))))))))⟩
set_option maxRecDepth 1000000 in
theorem t4 : trF Try.prog 4 = some c4 := by kernel_rfl
/-- regrater/regraterlaw08.BagHolds (0 l, 1 m, 2 l, 3 m, 5 a, 6 p, 7 b, 8 q, 9 x, 10 y, 11 all, 12 once, 13 s, 14 i, 15 back, 16 e) -/
noncomputable def r5_0 : List AO := [⟨some 4, none, .mv (.c (.bl false))⟩]
noncomputable def r5_1 : List AO := [⟨some 17, none, .call 8 []⟩,
  ⟨some 18, none, .un .not (.t 17)⟩]
noncomputable def r5_2 : List AO := [⟨some 4, none, .mv (.c (.bl false))⟩]
noncomputable def r5_3 : List AO := [⟨some 20, none, .mv (.t 0)⟩,
  ⟨some 21, none, .call 9 [(.t 20)]⟩,
  ⟨some 19, none, .mv (.t 21)⟩,
  ⟨some 22, none, .ext (.t 19) 0⟩,
  ⟨some 23, none, .ext (.t 19) 1⟩,
  ⟨some 5, none, .mv (.t 22)⟩,
  ⟨some 6, none, .mv (.t 23)⟩]
noncomputable def r5_4 : List AO := [⟨some 25, none, .mv (.t 1)⟩,
  ⟨some 26, none, .call 9 [(.t 25)]⟩,
  ⟨some 24, none, .mv (.t 26)⟩,
  ⟨some 27, none, .ext (.t 24) 0⟩,
  ⟨some 28, none, .ext (.t 24) 1⟩,
  ⟨some 7, none, .mv (.t 27)⟩,
  ⟨some 8, none, .mv (.t 28)⟩]
noncomputable def r5_5 : List AO := [⟨some 29, none, .mv (.t 5)⟩,
  ⟨some 30, none, .call 10 [(.t 29)]⟩,
  ⟨some 31, none, .mv (.t 7)⟩,
  ⟨some 32, none, .call 10 [(.t 31)]⟩,
  ⟨some 9, none, .box 31 1 (.c (.agg [(.sl true 0 [])]))⟩,
  ⟨some 10, none, .box 31 1 (.c (.agg [(.sl true 0 [])]))⟩,
  ⟨none, none, .sto 1 (.t 9) (.t 30)⟩,
  ⟨none, none, .sto 1 (.t 10) (.t 32)⟩]
noncomputable def r5_6 : List AO := [⟨some 33, none, .bsl 50 1 0 [(.sl true 0 [])] []⟩,
  ⟨some 34, none, .mv (.t 6)⟩,
  ⟨some 35, none, .app 50 1 24 (.t 33) (.t 34)⟩,
  ⟨some 36, none, .mv (.t 8)⟩,
  ⟨some 37, none, .app 50 1 24 (.t 35) (.t 36)⟩,
  ⟨some 11, none, .mv (.t 37)⟩]
noncomputable def r5_7 : List AO := [⟨some 12, none, .mv (.c (.sl true 0 []))⟩]
noncomputable def r5_8 : List AO := [⟨some 38, none, .mv (.t 6)⟩,
  ⟨some 39, none, .call 19 [(.t 38)]⟩,
  ⟨some 13, none, .mv (.t 39)⟩]
noncomputable def r5_9 : List AO := [⟨some 14, none, .mv (.c (.it .i64 0))⟩]
noncomputable def r5_10 : List AO := [⟨some 40, none, .mv (.t 14)⟩,
  ⟨some 41, none, .mv (.t 13)⟩,
  ⟨some 42, none, .len (.t 41)⟩,
  ⟨some 43, none, .bin .lss (.t 40) (.t 42)⟩]
noncomputable def r5_11 : List (AO × List Nat) := [(⟨some 46, none, .mv (.t 14)⟩, []),
  (⟨some 47, none, .eq false 1 (.t 46) (.c (.it .i64 0))⟩, []),
  (⟨some 48, none, .mv (.t 47)⟩, []),
  (⟨some 49, some (48, false), .mv (.t 13)⟩, []),
  (⟨some 50, some (48, false), .mv (.t 14)⟩, []),
  (⟨some 51, some (48, false), .iad 1 (.t 49) (.t 50)⟩, []),
  (⟨some 52, some (48, false), .ld false 1 (.t 51)⟩, []),
  (⟨some 53, some (48, false), .mv (.t 13)⟩, []),
  (⟨some 54, some (48, false), .mv (.t 14)⟩, []),
  (⟨some 55, some (48, false), .bin .sub (.t 54) (.c (.it .i64 1))⟩, []),
  (⟨some 56, some (48, false), .iad 1 (.t 53) (.t 55)⟩, []),
  (⟨some 57, some (48, false), .ld false 1 (.t 56)⟩, []),
  (⟨some 58, some (48, false), .call 20 [(.t 52), (.t 57)]⟩, []),
  (⟨some 59, some (48, false), .un .not (.t 58)⟩, []),
  (⟨some 60, none, .pick (.t 48) (.c (.bl true)) (.t 59)⟩, [])]
noncomputable def r5_12 : List AO := [⟨some 61, none, .mv (.t 12)⟩,
  ⟨some 62, none, .mv (.t 13)⟩,
  ⟨some 63, none, .mv (.t 14)⟩,
  ⟨some 64, none, .iad 1 (.t 62) (.t 63)⟩,
  ⟨some 65, none, .ld false 1 (.t 64)⟩,
  ⟨some 66, none, .bsl 50 1 1 [(.sl true 0 [])] [(0, 1, (.t 65))]⟩,
  ⟨some 67, none, .app 50 1 24 (.t 61) (.t 66)⟩,
  ⟨some 12, none, .mv (.t 67)⟩]
noncomputable def r5_13 : List AO := [⟨some 44, none, .mv (.t 14)⟩,
  ⟨some 45, none, .bin .add (.t 44) (.c (.it .i64 1))⟩,
  ⟨some 14, none, .mv (.t 45)⟩]
noncomputable def r5_14 : List AO := [⟨some 69, none, .ld true 1 (.t 9)⟩,
  ⟨some 70, none, .call 18 [(.t 69)]⟩,
  ⟨some 71, none, .call 15 [(.t 70)]⟩,
  ⟨some 68, none, .mv (.t 71)⟩,
  ⟨some 72, none, .ext (.t 68) 0⟩,
  ⟨some 73, none, .ext (.t 68) 1⟩,
  ⟨some 15, none, .box 31 1 (.c (.agg [(.sl true 0 [])]))⟩,
  ⟨none, none, .sto 1 (.t 15) (.t 72)⟩,
  ⟨some 16, none, .mv (.t 73)⟩]
noncomputable def r5_15 : List AO := [⟨some 74, none, .ld true 1 (.t 9)⟩,
  ⟨some 75, none, .mv (.t 6)⟩,
  ⟨some 76, none, .call 21 [(.t 74), (.t 75)]⟩,
  ⟨some 77, none, .mv (.t 76)⟩,
  ⟨some 78, some (77, true), .ld true 1 (.t 9)⟩,
  ⟨some 79, some (77, true), .ld true 1 (.t 10)⟩,
  ⟨some 80, some (77, true), .bsl 31 1 2 [(.sl true 0 [])] [(0, 1, (.t 78)), (1, 1, (.t 79))]⟩,
  ⟨some 81, some (77, true), .call 12 [(.t 80)]⟩,
  ⟨some 82, some (77, true), .mv (.t 11)⟩,
  ⟨some 83, some (77, true), .call 21 [(.t 81), (.t 82)]⟩,
  ⟨some 84, none, .pick (.t 77) (.t 83) (.c (.bl false))⟩,
  ⟨some 85, none, .mv (.t 84)⟩,
  ⟨some 86, some (85, true), .call 12 [(.c (.sl true 0 []))]⟩,
  ⟨some 87, some (85, true), .call 21 [(.t 86), (.c (.sl true 0 []))]⟩,
  ⟨some 88, none, .pick (.t 85) (.t 87) (.c (.bl false))⟩,
  ⟨some 89, none, .mv (.t 88)⟩,
  ⟨some 90, some (89, true), .ld true 1 (.t 9)⟩,
  ⟨some 91, some (89, true), .call 22 [(.t 90)]⟩,
  ⟨some 92, some (89, true), .mv (.t 12)⟩,
  ⟨some 93, some (89, true), .call 21 [(.t 91), (.t 92)]⟩,
  ⟨some 94, none, .pick (.t 89) (.t 93) (.c (.bl false))⟩,
  ⟨some 95, none, .mv (.t 94)⟩,
  ⟨some 96, some (95, true), .mv (.t 16)⟩,
  ⟨some 97, some (95, true), .eq false 1 (.t 96) (.c (.it .i64 0))⟩,
  ⟨some 98, none, .pick (.t 95) (.t 97) (.c (.bl false))⟩,
  ⟨some 99, none, .mv (.t 98)⟩,
  ⟨some 100, some (99, true), .ld true 1 (.t 15)⟩,
  ⟨some 101, some (99, true), .ld true 1 (.t 9)⟩,
  ⟨some 102, some (99, true), .call 11 [(.t 100), (.t 101)]⟩,
  ⟨some 103, none, .pick (.t 99) (.t 102) (.c (.bl false))⟩,
  ⟨some 104, none, .mv (.t 103)⟩,
  ⟨some 105, some (104, true), .ld true 1 (.t 9)⟩,
  ⟨some 106, some (104, true), .ld true 1 (.t 10)⟩,
  ⟨some 107, some (104, true), .call 11 [(.t 105), (.t 106)]⟩,
  ⟨some 108, some (104, true), .mv (.t 6)⟩,
  ⟨some 109, some (104, true), .call 23 [(.t 108)]⟩,
  ⟨some 110, some (104, true), .mv (.t 8)⟩,
  ⟨some 111, some (104, true), .call 23 [(.t 110)]⟩,
  ⟨some 112, some (104, true), .eq false 2 (.t 109) (.t 111)⟩,
  ⟨some 113, some (104, true), .eq false 0 (.t 107) (.t 112)⟩,
  ⟨some 114, none, .pick (.t 104) (.t 113) (.c (.bl false))⟩,
  ⟨some 115, none, .mv (.t 114)⟩,
  ⟨some 116, some (115, true), .ld true 1 (.t 9)⟩,
  ⟨some 117, some (115, true), .mv (.t 6)⟩,
  ⟨some 118, some (115, true), .call 21 [(.t 116), (.t 117)]⟩,
  ⟨some 119, none, .pick (.t 115) (.t 118) (.c (.bl false))⟩,
  ⟨some 4, none, .mv (.t 119)⟩]
set_option maxRecDepth 1000000 in
noncomputable def c5 : AFn := ⟨120, [(4, none)],
  (.seq (.ops r5_0)
  (.seq (.seq (.ops r5_1)
  (.cond (.t 18) (.seq (.ops r5_2)
  .ret)
  .skip))
  (.seq (.ops r5_3)
  (.seq (.ops r5_4)
  (.seq (.ops r5_5)
  (.seq (.ops r5_6)
  (.seq (.ops r5_7)
  (.seq (.ops r5_8)
  (.seq (.seq (.ops r5_9)
  (.block 0 (.loop (.seq (.seq (.ops r5_10)
  (.cond (.t 43) .skip
  (.exit 0)))
  (.seq (.block 1 (.seq (.drw r5_11)
  (.cond (.t 60) (.ops r5_12)
  .skip)))
  (.ops r5_13))))))
  (.seq (.ops r5_14)
  (.seq (.ops r5_15)
  .ret)))))))))))⟩
set_option maxRecDepth 1000000 in
theorem t5 : trF Try.prog 5 = some c5 := by kernel_rfl
/-- regrater/regraterlaw23.AggTurns (0 l, 1 l, 3 a, 4 b, 5 i, 6 x, 7 _, 8 y, 9 _, 10 c, 11 one) -/
noncomputable def r6_0 : List AO := [⟨some 2, none, .mv (.c (.bl false))⟩]
noncomputable def r6_1 : List AO := [⟨some 12, none, .call 24 []⟩,
  ⟨some 13, none, .un .not (.t 12)⟩]
noncomputable def r6_2 : List AO := [⟨some 2, none, .mv (.c (.bl false))⟩]
noncomputable def r6_3 : List AO := [⟨some 14, none, .call 25 [(.c (.it .i64 2))]⟩,
  ⟨some 15, none, .call 25 [(.c (.it .i64 2))]⟩,
  ⟨some 3, none, .box 58 2 (.c (.agg [(.it .i64 0), (.sl true 0 [])]))⟩,
  ⟨some 4, none, .box 58 2 (.c (.agg [(.it .i64 0), (.sl true 0 [])]))⟩,
  ⟨none, none, .sto 2 (.t 3) (.t 14)⟩,
  ⟨none, none, .sto 2 (.t 4) (.t 15)⟩]
noncomputable def r6_4 : List AO := [⟨some 5, none, .mv (.c (.it .i64 0))⟩]
noncomputable def r6_5 : List AO := [⟨some 16, none, .mv (.t 5)⟩,
  ⟨some 17, none, .mv (.t 0)⟩,
  ⟨some 18, none, .len (.t 17)⟩,
  ⟨some 19, none, .bin .lss (.t 16) (.t 18)⟩,
  ⟨some 20, none, .mv (.t 19)⟩,
  ⟨some 21, some (20, true), .mv (.t 5)⟩,
  ⟨some 22, some (20, true), .bin .lss (.t 21) (.c (.it .i64 30))⟩,
  ⟨some 23, none, .pick (.t 20) (.t 22) (.c (.bl false))⟩]
noncomputable def r6_6 : List AO := [⟨some 27, none, .mv (.t 0)⟩,
  ⟨some 28, none, .mv (.t 5)⟩,
  ⟨some 29, none, .iad 7 (.t 27) (.t 28)⟩,
  ⟨some 30, none, .ld true 7 (.t 29)⟩,
  ⟨some 31, none, .call 26 [(.t 30)]⟩,
  ⟨some 26, none, .mv (.t 31)⟩,
  ⟨some 32, none, .ext (.t 26) 0⟩,
  ⟨some 33, none, .ext (.t 26) 1⟩,
  ⟨some 6, none, .box 61 3 (.c (.agg [(.sl true 0 []), (.it .i64 0), (.sl true 0 [])]))⟩,
  ⟨some 7, none, .box 63 2 (.c (.agg [(.sl true 0 []), (.sl true 0 [])]))⟩,
  ⟨none, none, .sto 3 (.t 6) (.t 32)⟩,
  ⟨none, none, .sto 2 (.t 7) (.t 33)⟩]
noncomputable def r6_7 : List AO := [⟨some 35, none, .mv (.t 0)⟩,
  ⟨some 36, none, .mv (.t 0)⟩,
  ⟨some 37, none, .len (.t 36)⟩,
  ⟨some 38, none, .mnx false [(.t 37), (.c (.it .i64 30))]⟩,
  ⟨some 39, none, .bin .sub (.t 38) (.c (.it .i64 1))⟩,
  ⟨some 40, none, .mv (.t 5)⟩,
  ⟨some 41, none, .bin .sub (.t 39) (.t 40)⟩,
  ⟨some 42, none, .iad 7 (.t 35) (.t 41)⟩,
  ⟨some 43, none, .ld true 7 (.t 42)⟩,
  ⟨some 44, none, .call 26 [(.t 43)]⟩,
  ⟨some 34, none, .mv (.t 44)⟩,
  ⟨some 45, none, .ext (.t 34) 0⟩,
  ⟨some 46, none, .ext (.t 34) 1⟩,
  ⟨some 8, none, .box 61 3 (.c (.agg [(.sl true 0 []), (.it .i64 0), (.sl true 0 [])]))⟩,
  ⟨some 9, none, .box 63 2 (.c (.agg [(.sl true 0 []), (.sl true 0 [])]))⟩,
  ⟨none, none, .sto 3 (.t 8) (.t 45)⟩,
  ⟨none, none, .sto 2 (.t 9) (.t 46)⟩]
noncomputable def r6_8 : List (AO × List Nat) := [(⟨some 47, none, .ld true 2 (.t 3)⟩, []),
  (⟨some 48, none, .fad 1 (.t 6)⟩, []),
  (⟨some 49, none, .ld true 2 (.t 48)⟩, []),
  (⟨some 50, none, .call 27 [(.t 47), (.t 49)]⟩, []),
  (⟨some 51, none, .fad 1 (.t 8)⟩, [3]),
  (⟨some 52, none, .ld true 2 (.t 51)⟩, [3]),
  (⟨some 53, none, .ld true 2 (.t 4)⟩, [3]),
  (⟨some 54, none, .call 27 [(.t 52), (.t 53)]⟩, []),
  (⟨none, none, .sto 2 (.t 3) (.t 50)⟩, []),
  (⟨none, none, .sto 2 (.t 4) (.t 54)⟩, [])]
noncomputable def r6_9 : List AO := [⟨some 24, none, .mv (.t 5)⟩,
  ⟨some 25, none, .bin .add (.t 24) (.c (.it .i64 1))⟩,
  ⟨some 5, none, .mv (.t 25)⟩]
noncomputable def r6_10 : List (AO × List Nat) := [(⟨some 55, none, .ld true 2 (.t 3)⟩, []),
  (⟨some 56, none, .call 25 [(.c (.it .i64 2))]⟩, [0]),
  (⟨some 57, none, .call 27 [(.t 55), (.t 56)]⟩, []),
  (⟨some 10, none, .box 58 2 (.c (.agg [(.it .i64 0), (.sl true 0 [])]))⟩, [0, 1, 2]),
  (⟨none, none, .sto 2 (.t 10) (.t 57)⟩, [])]
noncomputable def r6_11 : List AO := [⟨some 11, none, .mv (.c (.fn (.func 28) [] []))⟩]
noncomputable def r6_12 : List (AO × List Nat) := [(⟨some 58, none, .mv (.t 11)⟩, []),
  (⟨some 59, none, .ld true 2 (.t 3)⟩, []),
  (⟨some 60, none, .calv (.t 58) [(.t 59)]⟩, []),
  (⟨some 61, none, .mv (.t 11)⟩, [2]),
  (⟨some 62, none, .ld true 2 (.t 4)⟩, [2]),
  (⟨some 63, none, .calv (.t 61) [(.t 62)]⟩, []),
  (⟨some 64, none, .eq false 2 (.t 60) (.t 63)⟩, []),
  (⟨some 65, none, .mv (.t 64)⟩, []),
  (⟨some 66, some (65, true), .mv (.t 11)⟩, []),
  (⟨some 67, some (65, true), .ld true 2 (.t 10)⟩, []),
  (⟨some 68, some (65, true), .calv (.t 66) [(.t 67)]⟩, []),
  (⟨some 69, some (65, true), .mv (.t 11)⟩, [10]),
  (⟨some 70, some (65, true), .ld true 2 (.t 3)⟩, [10]),
  (⟨some 71, some (65, true), .calv (.t 69) [(.t 70)]⟩, []),
  (⟨some 72, some (65, true), .eq false 2 (.t 68) (.t 71)⟩, []),
  (⟨some 73, none, .pick (.t 65) (.t 72) (.c (.bl false))⟩, []),
  (⟨some 74, none, .mv (.t 73)⟩, []),
  (⟨some 75, some (74, true), .fad 0 (.t 3)⟩, []),
  (⟨some 76, some (74, true), .ld false 1 (.t 75)⟩, []),
  (⟨some 77, some (74, true), .mv (.t 0)⟩, []),
  (⟨some 78, some (74, true), .len (.t 77)⟩, []),
  (⟨some 79, some (74, true), .mnx false [(.t 78), (.c (.it .i64 30))]⟩, []),
  (⟨some 80, some (74, true), .eq false 1 (.t 76) (.t 79)⟩, []),
  (⟨some 81, none, .pick (.t 74) (.t 80) (.c (.bl false))⟩, []),
  (⟨some 2, none, .mv (.t 81)⟩, [])]
set_option maxRecDepth 1000000 in
noncomputable def c6 : AFn := ⟨82, [(2, none)],
  (.seq (.ops r6_0)
  (.seq (.seq (.ops r6_1)
  (.cond (.t 13) (.seq (.ops r6_2)
  .ret)
  .skip))
  (.seq (.ops r6_3)
  (.seq (.seq (.ops r6_4)
  (.block 0 (.loop (.seq (.seq (.ops r6_5)
  (.cond (.t 23) .skip
  (.exit 0)))
  (.seq (.block 1 (.seq (.ops r6_6)
  (.seq (.ops r6_7)
  (.drw r6_8))))
  (.ops r6_9))))))
  (.seq (.drw r6_10)
  (.seq (.ops r6_11)
  (.seq (.drw r6_12)
  .ret)))))))⟩
set_option maxRecDepth 1000000 in
theorem t6 : trF Try.prog 6 = some c6 := by kernel_rfl
/-- regrater/regraterlaw23.AggGroups (0 l, 1 cuts, 2 l, 3 cuts, 5 bunches, 6 bunch, 7 m, 8 i, 9 a, 10 b, 11 got, 12 want, 13 i, 14 s, 15 back, 16 e, 17 i) -/
noncomputable def r7_0 : List AO := [⟨some 4, none, .mv (.c (.bl false))⟩]
noncomputable def r7_1 : List AO := [⟨some 18, none, .call 24 []⟩,
  ⟨some 19, none, .un .not (.t 18)⟩]
noncomputable def r7_2 : List AO := [⟨some 4, none, .mv (.c (.bl false))⟩]
noncomputable def r7_3 : List AO := [⟨some 5, none, .mv (.c (.sl true 0 []))⟩]
noncomputable def r7_4 : List AO := [⟨some 6, none, .mv (.c (.sl true 0 []))⟩]
noncomputable def r7_5 : List AO := [⟨some 7, none, .mv (.c (.sl true 0 []))⟩]
noncomputable def r7_6 : List AO := [⟨some 8, none, .mv (.c (.it .i64 0))⟩]
noncomputable def r7_7 : List AO := [⟨some 20, none, .mv (.t 8)⟩,
  ⟨some 21, none, .mv (.t 0)⟩,
  ⟨some 22, none, .len (.t 21)⟩,
  ⟨some 23, none, .bin .lss (.t 20) (.t 22)⟩,
  ⟨some 24, none, .mv (.t 23)⟩,
  ⟨some 25, some (24, true), .mv (.t 8)⟩,
  ⟨some 26, some (24, true), .bin .lss (.t 25) (.c (.it .i64 30))⟩,
  ⟨some 27, none, .pick (.t 24) (.t 26) (.c (.bl false))⟩]
noncomputable def r7_8 : List AO := [⟨some 31, none, .mv (.t 0)⟩,
  ⟨some 32, none, .mv (.t 8)⟩,
  ⟨some 33, none, .iad 7 (.t 31) (.t 32)⟩,
  ⟨some 34, none, .ld true 7 (.t 33)⟩,
  ⟨some 35, none, .call 26 [(.t 34)]⟩,
  ⟨some 30, none, .mv (.t 35)⟩,
  ⟨some 36, none, .ext (.t 30) 0⟩,
  ⟨some 37, none, .ext (.t 30) 1⟩,
  ⟨some 9, none, .box 61 3 (.c (.agg [(.sl true 0 []), (.it .i64 0), (.sl true 0 [])]))⟩,
  ⟨some 10, none, .box 63 2 (.c (.agg [(.sl true 0 []), (.sl true 0 [])]))⟩,
  ⟨none, none, .sto 3 (.t 9) (.t 36)⟩,
  ⟨none, none, .sto 2 (.t 10) (.t 37)⟩]
noncomputable def r7_9 : List (AO × List Nat) := [(⟨some 38, none, .mv (.t 6)⟩, []),
  (⟨some 39, none, .ld true 3 (.t 9)⟩, []),
  (⟨some 40, none, .bsl 61 3 1 [(.sl true 0 []), (.it .i64 0), (.sl true 0 [])] [(0, 3, (.t 39))]⟩, [0]),
  (⟨some 41, none, .app 61 3 56 (.t 38) (.t 40)⟩, []),
  (⟨some 42, none, .mv (.t 7)⟩, [2, 3]),
  (⟨some 43, none, .ld true 2 (.t 10)⟩, [2, 3]),
  (⟨some 44, none, .bsl 63 2 1 [(.sl true 0 []), (.sl true 0 [])] [(0, 2, (.t 43))]⟩, [0, 1, 2, 3, 4]),
  (⟨some 45, none, .app 63 2 48 (.t 42) (.t 44)⟩, []),
  (⟨some 6, none, .mv (.t 41)⟩, []),
  (⟨some 7, none, .mv (.t 45)⟩, [])]
noncomputable def r7_10 : List AO := [⟨some 46, none, .mv (.t 1)⟩,
  ⟨some 47, none, .len (.t 46)⟩,
  ⟨some 48, none, .bin .gtr (.t 47) (.c (.it .i64 0))⟩,
  ⟨some 49, none, .mv (.t 48)⟩,
  ⟨some 50, some (49, true), .mv (.t 1)⟩,
  ⟨some 51, some (49, true), .mv (.t 8)⟩,
  ⟨some 52, some (49, true), .mv (.t 1)⟩,
  ⟨some 53, some (49, true), .len (.t 52)⟩,
  ⟨some 54, some (49, true), .bin .rem (.t 51) (.t 53)⟩,
  ⟨some 55, some (49, true), .iad 1 (.t 50) (.t 54)⟩,
  ⟨some 56, some (49, true), .ld false 1 (.t 55)⟩,
  ⟨some 57, some (49, true), .cvi .i64 (.t 56)⟩,
  ⟨some 58, some (49, true), .bin .rem (.t 57) (.c (.it .i64 3))⟩,
  ⟨some 59, some (49, true), .eq false 1 (.t 58) (.c (.it .i64 0))⟩,
  ⟨some 60, none, .pick (.t 49) (.t 59) (.c (.bl false))⟩]
noncomputable def r7_11 : List AO := [⟨some 61, none, .mv (.t 5)⟩,
  ⟨some 62, none, .mv (.t 6)⟩,
  ⟨some 63, none, .bsl 72 1 1 [(.sl true 0 [])] [(0, 1, (.t 62))]⟩,
  ⟨some 64, none, .call 30 [(.t 63)]⟩,
  ⟨some 65, none, .bsl 72 1 1 [(.sl true 0 [])] [(0, 1, (.t 64))]⟩,
  ⟨some 66, none, .app 72 1 24 (.t 61) (.t 65)⟩,
  ⟨some 5, none, .mv (.t 66)⟩,
  ⟨some 6, none, .mv (.c (.sl true 0 []))⟩]
noncomputable def r7_12 : List AO := [⟨some 28, none, .mv (.t 8)⟩,
  ⟨some 29, none, .bin .add (.t 28) (.c (.it .i64 1))⟩,
  ⟨some 8, none, .mv (.t 29)⟩]
noncomputable def r7_13 : List AO := [⟨some 67, none, .mv (.t 5)⟩,
  ⟨some 68, none, .mv (.t 6)⟩,
  ⟨some 69, none, .bsl 72 1 1 [(.sl true 0 [])] [(0, 1, (.t 68))]⟩,
  ⟨some 70, none, .app 72 1 24 (.t 67) (.t 69)⟩,
  ⟨some 5, none, .mv (.t 70)⟩]
noncomputable def r7_14 : List AO := [⟨some 71, none, .mv (.t 5)⟩,
  ⟨some 72, none, .call 30 [(.t 71)]⟩,
  ⟨some 73, none, .mv (.t 7)⟩,
  ⟨some 74, none, .call 31 [(.t 73)]⟩,
  ⟨some 11, none, .mv (.t 72)⟩,
  ⟨some 12, none, .mv (.t 74)⟩]
noncomputable def r7_15 : List AO := [⟨some 75, none, .mv (.t 11)⟩,
  ⟨some 76, none, .len (.t 75)⟩,
  ⟨some 77, none, .mv (.t 12)⟩,
  ⟨some 78, none, .len (.t 77)⟩,
  ⟨some 79, none, .eq true 1 (.t 76) (.t 78)⟩]
noncomputable def r7_16 : List AO := [⟨some 4, none, .mv (.c (.bl false))⟩]
noncomputable def r7_17 : List AO := [⟨some 13, none, .mv (.c (.it .i64 0))⟩]
noncomputable def r7_18 : List AO := [⟨some 80, none, .mv (.t 13)⟩,
  ⟨some 81, none, .mv (.t 11)⟩,
  ⟨some 82, none, .len (.t 81)⟩,
  ⟨some 83, none, .bin .lss (.t 80) (.t 82)⟩]
noncomputable def r7_19 : List (AO × List Nat) := [(⟨some 86, none, .mv (.t 11)⟩, []),
  (⟨some 87, none, .mv (.t 13)⟩, []),
  (⟨some 88, none, .iad 3 (.t 86) (.t 87)⟩, []),
  (⟨some 89, none, .fad 0 (.t 88)⟩, []),
  (⟨some 90, none, .ld false 1 (.t 89)⟩, []),
  (⟨some 91, none, .call 32 [(.t 90)]⟩, []),
  (⟨some 92, none, .mv (.t 12)⟩, [5]),
  (⟨some 93, none, .mv (.t 13)⟩, [5]),
  (⟨some 94, none, .iad 1 (.t 92) (.t 93)⟩, [5]),
  (⟨some 95, none, .ld false 1 (.t 94)⟩, [5]),
  (⟨some 96, none, .iad 2 (.t 95) (.c (.it .i64 0))⟩, [5]),
  (⟨some 97, none, .fad 0 (.t 96)⟩, [5]),
  (⟨some 98, none, .ld false 1 (.t 97)⟩, [5]),
  (⟨some 99, none, .call 33 [(.t 98)]⟩, []),
  (⟨some 100, none, .eq true 2 (.t 91) (.t 99)⟩, []),
  (⟨some 101, none, .mv (.t 100)⟩, []),
  (⟨some 102, some (101, false), .mv (.t 11)⟩, []),
  (⟨some 103, some (101, false), .mv (.t 13)⟩, []),
  (⟨some 104, some (101, false), .iad 3 (.t 102) (.t 103)⟩, []),
  (⟨some 105, some (101, false), .fad 1 (.t 104)⟩, []),
  (⟨some 106, some (101, false), .ld true 2 (.t 105)⟩, []),
  (⟨some 107, some (101, false), .mv (.t 12)⟩, []),
  (⟨some 108, some (101, false), .mv (.t 13)⟩, []),
  (⟨some 109, some (101, false), .iad 1 (.t 107) (.t 108)⟩, []),
  (⟨some 110, some (101, false), .ld false 1 (.t 109)⟩, []),
  (⟨some 111, some (101, false), .call 34 [(.t 106), (.t 110)]⟩, []),
  (⟨some 112, some (101, false), .un .not (.t 111)⟩, []),
  (⟨some 113, none, .pick (.t 101) (.c (.bl true)) (.t 112)⟩, [])]
noncomputable def r7_20 : List AO := [⟨some 4, none, .mv (.c (.bl false))⟩]
noncomputable def r7_21 : List AO := [⟨some 84, none, .mv (.t 13)⟩,
  ⟨some 85, none, .bin .add (.t 84) (.c (.it .i64 1))⟩,
  ⟨some 13, none, .mv (.t 85)⟩]
noncomputable def r7_22 : List AO := [⟨some 114, none, .mv (.t 11)⟩,
  ⟨some 115, none, .call 29 [(.t 114)]⟩,
  ⟨some 14, none, .mv (.t 115)⟩]
noncomputable def r7_23 : List AO := [⟨some 117, none, .mv (.t 14)⟩,
  ⟨some 118, none, .call 35 [(.t 117)]⟩,
  ⟨some 116, none, .mv (.t 118)⟩,
  ⟨some 119, none, .ext (.t 116) 0⟩,
  ⟨some 120, none, .ext (.t 116) 1⟩,
  ⟨some 15, none, .mv (.t 119)⟩,
  ⟨some 16, none, .mv (.t 120)⟩]
noncomputable def r7_24 : List AO := [⟨some 121, none, .mv (.t 16)⟩,
  ⟨some 122, none, .eq true 1 (.t 121) (.c (.it .i64 0))⟩,
  ⟨some 123, none, .mv (.t 122)⟩,
  ⟨some 124, some (123, false), .mv (.t 15)⟩,
  ⟨some 125, some (123, false), .len (.t 124)⟩,
  ⟨some 126, some (123, false), .mv (.t 11)⟩,
  ⟨some 127, some (123, false), .len (.t 126)⟩,
  ⟨some 128, some (123, false), .eq true 1 (.t 125) (.t 127)⟩,
  ⟨some 129, none, .pick (.t 123) (.c (.bl true)) (.t 128)⟩,
  ⟨some 130, none, .mv (.t 129)⟩,
  ⟨some 131, some (130, false), .mv (.t 15)⟩,
  ⟨some 132, some (130, false), .call 29 [(.t 131)]⟩,
  ⟨some 133, some (130, false), .mv (.t 14)⟩,
  ⟨some 134, some (130, false), .eq true 2 (.t 132) (.t 133)⟩,
  ⟨some 135, none, .pick (.t 130) (.c (.bl true)) (.t 134)⟩]
noncomputable def r7_25 : List AO := [⟨some 4, none, .mv (.c (.bl false))⟩]
noncomputable def r7_26 : List AO := [⟨some 17, none, .mv (.c (.it .i64 0))⟩]
noncomputable def r7_27 : List AO := [⟨some 136, none, .mv (.t 17)⟩,
  ⟨some 137, none, .mv (.t 15)⟩,
  ⟨some 138, none, .len (.t 137)⟩,
  ⟨some 139, none, .bin .lss (.t 136) (.t 138)⟩]
noncomputable def r7_28 : List (AO × List Nat) := [(⟨some 142, none, .mv (.t 15)⟩, []),
  (⟨some 143, none, .mv (.t 17)⟩, []),
  (⟨some 144, none, .iad 3 (.t 142) (.t 143)⟩, []),
  (⟨some 145, none, .fad 0 (.t 144)⟩, []),
  (⟨some 146, none, .ld false 1 (.t 145)⟩, []),
  (⟨some 147, none, .mv (.t 11)⟩, []),
  (⟨some 148, none, .mv (.t 17)⟩, []),
  (⟨some 149, none, .iad 3 (.t 147) (.t 148)⟩, []),
  (⟨some 150, none, .fad 0 (.t 149)⟩, []),
  (⟨some 151, none, .ld false 1 (.t 150)⟩, []),
  (⟨some 152, none, .call 17 [(.t 146), (.t 151)]⟩, []),
  (⟨some 153, none, .eq true 1 (.t 152) (.c (.it .i64 0))⟩, []),
  (⟨some 154, none, .mv (.t 153)⟩, []),
  (⟨some 155, some (154, false), .mv (.t 15)⟩, []),
  (⟨some 156, some (154, false), .mv (.t 17)⟩, []),
  (⟨some 157, some (154, false), .iad 3 (.t 155) (.t 156)⟩, []),
  (⟨some 158, some (154, false), .fad 1 (.t 157)⟩, []),
  (⟨some 159, some (154, false), .ld true 2 (.t 158)⟩, []),
  (⟨some 160, some (154, false), .mv (.t 12)⟩, []),
  (⟨some 161, some (154, false), .mv (.t 17)⟩, []),
  (⟨some 162, some (154, false), .iad 1 (.t 160) (.t 161)⟩, []),
  (⟨some 163, some (154, false), .ld false 1 (.t 162)⟩, []),
  (⟨some 164, some (154, false), .call 34 [(.t 159), (.t 163)]⟩, []),
  (⟨some 165, some (154, false), .un .not (.t 164)⟩, []),
  (⟨some 166, none, .pick (.t 154) (.c (.bl true)) (.t 165)⟩, [])]
noncomputable def r7_29 : List AO := [⟨some 4, none, .mv (.c (.bl false))⟩]
noncomputable def r7_30 : List AO := [⟨some 140, none, .mv (.t 17)⟩,
  ⟨some 141, none, .bin .add (.t 140) (.c (.it .i64 1))⟩,
  ⟨some 17, none, .mv (.t 141)⟩]
noncomputable def r7_31 : List AO := [⟨some 167, none, .call 25 [(.c (.it .i64 2))]⟩,
  ⟨some 168, none, .call 34 [(.t 167), (.c (.sl true 0 []))]⟩,
  ⟨some 169, none, .mv (.t 168)⟩,
  ⟨some 170, some (169, true), .call 25 [(.c (.it .i64 2))]⟩,
  ⟨some 171, some (169, true), .call 25 [(.c (.it .i64 2))]⟩,
  ⟨some 172, some (169, true), .call 27 [(.t 170), (.t 171)]⟩,
  ⟨some 173, some (169, true), .call 34 [(.t 172), (.c (.sl true 0 []))]⟩,
  ⟨some 174, none, .pick (.t 169) (.t 173) (.c (.bl false))⟩,
  ⟨some 4, none, .mv (.t 174)⟩]
set_option maxRecDepth 1000000 in
noncomputable def c7 : AFn := ⟨175, [(4, none)],
  (.seq (.ops r7_0)
  (.seq (.seq (.ops r7_1)
  (.cond (.t 19) (.seq (.ops r7_2)
  .ret)
  .skip))
  (.seq (.ops r7_3)
  (.seq (.ops r7_4)
  (.seq (.ops r7_5)
  (.seq (.seq (.ops r7_6)
  (.block 0 (.loop (.seq (.seq (.ops r7_7)
  (.cond (.t 27) .skip
  (.exit 0)))
  (.seq (.block 1 (.seq (.ops r7_8)
  (.seq (.drw r7_9)
  (.seq (.ops r7_10)
  (.cond (.t 60) (.ops r7_11)
  .skip)))))
  (.ops r7_12))))))
  (.seq (.ops r7_13)
  (.seq (.ops r7_14)
  (.seq (.seq (.ops r7_15)
  (.cond (.t 79) (.seq (.ops r7_16)
  .ret)
  .skip))
  (.seq (.seq (.ops r7_17)
  (.block 2 (.loop (.seq (.seq (.ops r7_18)
  (.cond (.t 83) .skip
  (.exit 2)))
  (.seq (.block 3 (.seq (.drw r7_19)
  (.cond (.t 113) (.seq (.ops r7_20)
  .ret)
  .skip)))
  (.ops r7_21))))))
  (.seq (.ops r7_22)
  (.seq (.ops r7_23)
  (.seq (.seq (.ops r7_24)
  (.cond (.t 135) (.seq (.ops r7_25)
  .ret)
  .skip))
  (.seq (.seq (.ops r7_26)
  (.block 4 (.loop (.seq (.seq (.ops r7_27)
  (.cond (.t 139) .skip
  (.exit 4)))
  (.seq (.block 5 (.seq (.drw r7_28)
  (.cond (.t 166) (.seq (.ops r7_29)
  .ret)
  .skip)))
  (.ops r7_30))))))
  (.seq (.ops r7_31)
  .ret)))))))))))))))⟩
set_option maxRecDepth 1000000 in
theorem t7 : trF Try.prog 7 = some c7 := by kernel_rfl
/-- regrater/regraterlaw08.speaks (1 one, 2 b, 3 l) -/
noncomputable def r8_0 : List AO := [⟨some 0, none, .mv (.c (.bl false))⟩]
noncomputable def r8_1 : List AO := [⟨some 4, none, .call 36 [(.c (.it .i64 1))]⟩,
  ⟨some 5, none, .bsl 88 3 1 [(.it .i64 0), (.it .i64 0), (.st [])] [(0, 3, (.t 4))]⟩,
  ⟨some 1, none, .mv (.t 5)⟩]
noncomputable def r8_2 : List AO := [⟨some 6, none, .mv (.t 1)⟩,
  ⟨some 7, none, .call 36 [(.c (.it .i64 0))]⟩,
  ⟨some 8, none, .bsl 88 3 1 [(.it .i64 0), (.it .i64 0), (.st [])] [(0, 3, (.t 7))]⟩,
  ⟨some 9, none, .mv (.t 1)⟩,
  ⟨some 10, none, .bsl 29 1 3 [(.sl true 0 [])] [(0, 1, (.t 6)), (1, 1, (.t 8)), (2, 1, (.t 9))]⟩,
  ⟨some 11, none, .call 10 [(.t 10)]⟩,
  ⟨some 2, none, .box 31 1 (.c (.agg [(.sl true 0 [])]))⟩,
  ⟨none, none, .sto 1 (.t 2) (.t 11)⟩]
noncomputable def r8_3 : List AO := [⟨some 12, none, .ld true 1 (.t 2)⟩,
  ⟨some 13, none, .call 37 [(.t 12)]⟩,
  ⟨some 3, none, .mv (.t 13)⟩]
noncomputable def r8_4 : List (AO × List Nat) := [(⟨some 14, none, .ld true 1 (.t 2)⟩, []),
  (⟨some 15, none, .call 13 [(.t 14)]⟩, []),
  (⟨some 16, none, .eq false 1 (.t 15) (.c (.it .i64 3))⟩, []),
  (⟨some 17, none, .mv (.t 16)⟩, []),
  (⟨some 18, some (17, true), .ld true 1 (.t 2)⟩, []),
  (⟨some 19, some (17, true), .call 22 [(.t 18)]⟩, []),
  (⟨some 20, some (17, true), .call 13 [(.t 19)]⟩, []),
  (⟨some 21, some (17, true), .eq false 1 (.t 20) (.c (.it .i64 2))⟩, []),
  (⟨some 22, none, .pick (.t 17) (.t 21) (.c (.bl false))⟩, []),
  (⟨some 23, none, .mv (.t 22)⟩, []),
  (⟨some 24, some (23, true), .mv (.t 3)⟩, []),
  (⟨some 25, some (23, true), .len (.t 24)⟩, []),
  (⟨some 26, some (23, true), .eq false 1 (.t 25) (.c (.it .i64 3))⟩, []),
  (⟨some 27, none, .pick (.t 23) (.t 26) (.c (.bl false))⟩, []),
  (⟨some 28, none, .mv (.t 27)⟩, []),
  (⟨some 29, some (28, true), .mv (.t 3)⟩, []),
  (⟨some 30, some (28, true), .iad 1 (.t 29) (.c (.it .i64 0))⟩, []),
  (⟨some 31, some (28, true), .ld false 1 (.t 30)⟩, []),
  (⟨some 32, some (28, true), .iad 3 (.t 31) (.c (.it .i64 0))⟩, []),
  (⟨some 33, some (28, true), .ld true 3 (.t 32)⟩, []),
  (⟨some 34, some (28, true), .call 36 [(.c (.it .i64 0))]⟩, [15, 16, 17, 18, 19]),
  (⟨some 35, some (28, true), .eqs false [1, 1, 2] (.t 33) (.t 34)⟩, []),
  (⟨some 36, none, .pick (.t 28) (.t 35) (.c (.bl false))⟩, []),
  (⟨some 37, none, .mv (.t 36)⟩, []),
  (⟨some 38, some (37, true), .mv (.t 3)⟩, []),
  (⟨some 39, some (37, true), .iad 1 (.t 38) (.c (.it .i64 2))⟩, []),
  (⟨some 40, some (37, true), .ld false 1 (.t 39)⟩, []),
  (⟨some 41, some (37, true), .iad 3 (.t 40) (.c (.it .i64 0))⟩, []),
  (⟨some 42, some (37, true), .ld true 3 (.t 41)⟩, []),
  (⟨some 43, some (37, true), .call 36 [(.c (.it .i64 1))]⟩, [24, 25, 26, 27, 28]),
  (⟨some 44, some (37, true), .eqs false [1, 1, 2] (.t 42) (.t 43)⟩, []),
  (⟨some 45, none, .pick (.t 37) (.t 44) (.c (.bl false))⟩, []),
  (⟨some 0, none, .mv (.t 45)⟩, [])]
set_option maxRecDepth 1000000 in
noncomputable def c8 : AFn := ⟨46, [(0, none)],
  (.seq (.ops r8_0)
  (.seq (.ops r8_1)
  (.seq (.ops r8_2)
  (.seq (.ops r8_3)
  (.seq (.drw r8_4)
  .ret)))))⟩
set_option maxRecDepth 1000000 in
theorem t8 : trF Try.prog 8 = some c8 := by kernel_rfl
/-- regrater/regraterlaw08.rows (0 l, 1 l, 4 a, 5 b, 6 i, 7 x, 8 y) -/
noncomputable def r9_0 : List AO := [⟨some 2, none, .mv (.c (.sl true 0 []))⟩,
  ⟨some 3, none, .mv (.c (.sl true 0 []))⟩]
noncomputable def r9_1 : List AO := [⟨some 4, none, .mv (.c (.sl true 0 []))⟩]
noncomputable def r9_2 : List AO := [⟨some 5, none, .mv (.c (.sl true 0 []))⟩]
noncomputable def r9_3 : List AO := [⟨some 6, none, .mv (.c (.it .i64 0))⟩]
noncomputable def r9_4 : List AO := [⟨some 9, none, .mv (.t 6)⟩,
  ⟨some 10, none, .mv (.t 0)⟩,
  ⟨some 11, none, .len (.t 10)⟩,
  ⟨some 12, none, .bin .lss (.t 9) (.t 11)⟩,
  ⟨some 13, none, .mv (.t 12)⟩,
  ⟨some 14, some (13, true), .mv (.t 6)⟩,
  ⟨some 15, some (13, true), .bin .lss (.t 14) (.c (.it .i64 12))⟩,
  ⟨some 16, none, .pick (.t 13) (.t 15) (.c (.bl false))⟩]
noncomputable def r9_5 : List AO := [⟨some 20, none, .mv (.t 0)⟩,
  ⟨some 21, none, .mv (.t 6)⟩,
  ⟨some 22, none, .iad 1 (.t 20) (.t 21)⟩,
  ⟨some 23, none, .ld false 1 (.t 22)⟩,
  ⟨some 24, none, .call 38 [(.t 23)]⟩,
  ⟨some 19, none, .mv (.t 24)⟩,
  ⟨some 25, none, .ext (.t 19) 0⟩,
  ⟨some 26, none, .ext (.t 19) 1⟩,
  ⟨some 7, none, .mv (.t 25)⟩,
  ⟨some 8, none, .mv (.t 26)⟩]
noncomputable def r9_6 : List AO := [⟨some 27, none, .mv (.t 4)⟩,
  ⟨some 28, none, .mv (.t 7)⟩,
  ⟨some 29, none, .bsl 29 1 1 [(.sl true 0 [])] [(0, 1, (.t 28))]⟩,
  ⟨some 30, none, .app 29 1 24 (.t 27) (.t 29)⟩,
  ⟨some 31, none, .mv (.t 5)⟩,
  ⟨some 32, none, .mv (.t 8)⟩,
  ⟨some 33, none, .bsl 50 1 1 [(.sl true 0 [])] [(0, 1, (.t 32))]⟩,
  ⟨some 34, none, .app 50 1 24 (.t 31) (.t 33)⟩,
  ⟨some 4, none, .mv (.t 30)⟩,
  ⟨some 5, none, .mv (.t 34)⟩]
noncomputable def r9_7 : List AO := [⟨some 17, none, .mv (.t 6)⟩,
  ⟨some 18, none, .bin .add (.t 17) (.c (.it .i64 1))⟩,
  ⟨some 6, none, .mv (.t 18)⟩]
noncomputable def r9_8 : List AO := [⟨some 35, none, .mv (.t 4)⟩,
  ⟨some 36, none, .mv (.t 5)⟩,
  ⟨some 2, none, .mv (.t 35)⟩,
  ⟨some 3, none, .mv (.t 36)⟩]
set_option maxRecDepth 1000000 in
noncomputable def c9 : AFn := ⟨37, [(2, none), (3, none)],
  (.seq (.ops r9_0)
  (.seq (.ops r9_1)
  (.seq (.ops r9_2)
  (.seq (.seq (.ops r9_3)
  (.block 0 (.loop (.seq (.seq (.ops r9_4)
  (.cond (.t 16) .skip
  (.exit 0)))
  (.seq (.block 1 (.seq (.ops r9_5)
  (.ops r9_6)))
  (.ops r9_7))))))
  (.seq (.ops r9_8)
  .ret)))))⟩
set_option maxRecDepth 1000000 in
theorem t9 : trF Try.prog 9 = some c9 := by kernel_rfl
/-- regrater/bag.Of (0 l, 1 l) -/
noncomputable def r10_0 : List AO := [⟨some 2, none, .box 31 1 (.c (.agg [(.sl true 0 [])]))⟩]
noncomputable def r10_1 : List AO := [⟨some 3, none, .mv (.t 0)⟩,
  ⟨some 4, none, .call 39 [(.t 3)]⟩,
  ⟨some 5, none, .bld [(.sl true 0 [])] [(0, 1, (.t 4))]⟩,
  ⟨none, none, .sto 1 (.t 2) (.t 5)⟩]
set_option maxRecDepth 1000000 in
noncomputable def c10 : AFn := ⟨6, [(2, some 1)],
  (.seq (.ops r10_0)
  (.seq (.ops r10_1)
  .ret))⟩
set_option maxRecDepth 1000000 in
theorem t10 : trF Try.prog 10 = some c10 := by kernel_rfl
/-- regrater/bag.Same (0 a, 1 b, 2 a, 3 b) -/
noncomputable def r11_0 : List AO := [⟨some 2, none, .box 31 1 (.t 0)⟩,
  ⟨some 3, none, .box 31 1 (.t 1)⟩,
  ⟨some 4, none, .mv (.c (.bl false))⟩]
noncomputable def r11_1 : List AO := [⟨some 5, none, .fad 0 (.t 2)⟩,
  ⟨some 6, none, .ld false 1 (.t 5)⟩,
  ⟨some 7, none, .fad 0 (.t 3)⟩,
  ⟨some 8, none, .ld false 1 (.t 7)⟩,
  ⟨some 9, none, .call 40 [(.t 6), (.t 8), (.c (.fn (.func 41) [] []))]⟩,
  ⟨some 4, none, .mv (.t 9)⟩]
set_option maxRecDepth 1000000 in
noncomputable def c11 : AFn := ⟨10, [(4, none)],
  (.seq (.ops r11_0)
  (.seq (.ops r11_1)
  .ret))⟩
set_option maxRecDepth 1000000 in
theorem t11 : trF Try.prog 11 = some c11 := by kernel_rfl
/-- regrater/bag.Plus (0 l, 1 l, 3 all, 4 _, 5 b) -/
noncomputable def r12_0 : List AO := [⟨some 2, none, .box 31 1 (.c (.agg [(.sl true 0 [])]))⟩]
noncomputable def r12_1 : List AO := [⟨some 3, none, .mv (.c (.sl true 0 []))⟩]
noncomputable def r12_2 : List AO := [⟨some 6, none, .mv (.t 0)⟩,
  ⟨some 7, none, .len (.t 6)⟩,
  ⟨some 8, none, .mv (.c (.it .i64 0))⟩]
noncomputable def r12_3 : List AO := [⟨some 9, none, .bin .lss (.t 8) (.t 7)⟩]
noncomputable def r12_4 : List AO := [⟨some 10, none, .iad 1 (.t 6) (.t 8)⟩,
  ⟨some 11, none, .ld true 1 (.t 10)⟩,
  ⟨some 5, none, .box 31 1 (.c (.agg [(.sl true 0 [])]))⟩,
  ⟨none, none, .sto 1 (.t 5) (.t 11)⟩]
noncomputable def r12_5 : List AO := [⟨some 12, none, .mv (.t 3)⟩,
  ⟨some 13, none, .fad 0 (.t 5)⟩,
  ⟨some 14, none, .ld false 1 (.t 13)⟩,
  ⟨some 15, none, .app 29 1 24 (.t 12) (.t 14)⟩,
  ⟨some 3, none, .mv (.t 15)⟩]
noncomputable def r12_6 : List AO := [⟨some 16, none, .bin .add (.t 8) (.c (.it .i64 1))⟩,
  ⟨some 8, none, .mv (.t 16)⟩]
noncomputable def r12_7 : List AO := [⟨some 17, none, .mv (.t 3)⟩,
  ⟨some 18, none, .call 10 [(.t 17)]⟩,
  ⟨none, none, .sto 1 (.t 2) (.t 18)⟩]
set_option maxRecDepth 1000000 in
noncomputable def c12 : AFn := ⟨19, [(2, some 1)],
  (.seq (.ops r12_0)
  (.seq (.ops r12_1)
  (.seq (.seq (.ops r12_2)
  (.block 0 (.loop (.seq (.ops r12_3)
  (.seq (.cond (.t 9) .skip
  (.exit 0))
  (.seq (.block 1 (.seq (.ops r12_4)
  (.ops r12_5)))
  (.ops r12_6)))))))
  (.seq (.ops r12_7)
  .ret))))⟩
set_option maxRecDepth 1000000 in
theorem t12 : trF Try.prog 12 = some c12 := by kernel_rfl
/-- (regrater/bag.Bag).Len (0 b, 1 b) -/
noncomputable def r13_0 : List AO := [⟨some 1, none, .box 31 1 (.t 0)⟩,
  ⟨some 2, none, .mv (.c (.it .i64 0))⟩]
noncomputable def r13_1 : List AO := [⟨some 3, none, .fad 0 (.t 1)⟩,
  ⟨some 4, none, .ld false 1 (.t 3)⟩,
  ⟨some 5, none, .len (.t 4)⟩,
  ⟨some 2, none, .mv (.t 5)⟩]
set_option maxRecDepth 1000000 in
noncomputable def c13 : AFn := ⟨6, [(2, none)],
  (.seq (.ops r13_0)
  (.seq (.ops r13_1)
  .ret))⟩
set_option maxRecDepth 1000000 in
theorem t13 : trF Try.prog 13 = some c13 := by kernel_rfl
/-- regrater/regraterref04.Pack (0 l, 1 l, 3 out, 4 i, 5 n) -/
noncomputable def r14_0 : List AO := [⟨some 2, none, .mv (.c (.st []))⟩]
noncomputable def r14_1 : List AO := [⟨some 3, none, .mv (.c (.st []))⟩]
noncomputable def r14_2 : List AO := [⟨some 4, none, .mv (.c (.it .i64 0))⟩]
noncomputable def r14_3 : List AO := [⟨some 6, none, .mv (.t 4)⟩,
  ⟨some 7, none, .mv (.t 0)⟩,
  ⟨some 8, none, .len (.t 7)⟩,
  ⟨some 9, none, .bin .lss (.t 6) (.t 8)⟩]
noncomputable def r14_4 : List AO := [⟨some 12, none, .mv (.t 0)⟩,
  ⟨some 13, none, .mv (.t 4)⟩,
  ⟨some 14, none, .iad 1 (.t 12) (.t 13)⟩,
  ⟨some 15, none, .ld false 1 (.t 14)⟩,
  ⟨some 16, none, .lens (.t 15)⟩,
  ⟨some 5, none, .mv (.t 16)⟩]
noncomputable def r14_5 : List (AO × List Nat) := [(⟨some 17, none, .mv (.t 3)⟩, []),
  (⟨some 18, none, .mv (.t 5)⟩, []),
  (⟨some 19, none, .bin .quo (.t 18) (.c (.it .i64 16777216))⟩, []),
  (⟨some 20, none, .bin .rem (.t 19) (.c (.it .i64 256))⟩, []),
  (⟨some 21, none, .cvi .u8 (.t 20)⟩, []),
  (⟨some 22, none, .mv (.t 5)⟩, []),
  (⟨some 23, none, .bin .quo (.t 22) (.c (.it .i64 65536))⟩, []),
  (⟨some 24, none, .bin .rem (.t 23) (.c (.it .i64 256))⟩, []),
  (⟨some 25, none, .cvi .u8 (.t 24)⟩, []),
  (⟨some 26, none, .mv (.t 5)⟩, []),
  (⟨some 27, none, .bin .quo (.t 26) (.c (.it .i64 256))⟩, []),
  (⟨some 28, none, .bin .rem (.t 27) (.c (.it .i64 256))⟩, []),
  (⟨some 29, none, .cvi .u8 (.t 28)⟩, []),
  (⟨some 30, none, .mv (.t 5)⟩, []),
  (⟨some 31, none, .bin .rem (.t 30) (.c (.it .i64 256))⟩, []),
  (⟨some 32, none, .cvi .u8 (.t 31)⟩, []),
  (⟨some 33, none, .bsl 5 1 4 [(.it .u8 0)] [(0, 1, (.t 21)), (1, 1, (.t 25)), (2, 1, (.t 29)), (3, 1, (.t 32))]⟩, [0]),
  (⟨some 34, none, .b2s (.t 33)⟩, []),
  (⟨some 35, none, .mv (.t 0)⟩, [16]),
  (⟨some 36, none, .mv (.t 4)⟩, [16]),
  (⟨some 37, none, .iad 1 (.t 35) (.t 36)⟩, [16]),
  (⟨some 38, none, .ld false 1 (.t 37)⟩, [16]),
  (⟨some 39, none, .bin .add (.t 34) (.t 38)⟩, []),
  (⟨some 40, none, .bin .add (.t 17) (.t 39)⟩, []),
  (⟨some 3, none, .mv (.t 40)⟩, [])]
noncomputable def r14_6 : List AO := [⟨some 10, none, .mv (.t 4)⟩,
  ⟨some 11, none, .bin .add (.t 10) (.c (.it .i64 1))⟩,
  ⟨some 4, none, .mv (.t 11)⟩]
noncomputable def r14_7 : List AO := [⟨some 41, none, .mv (.t 3)⟩,
  ⟨some 2, none, .mv (.t 41)⟩]
set_option maxRecDepth 1000000 in
noncomputable def c14 : AFn := ⟨42, [(2, none)],
  (.seq (.ops r14_0)
  (.seq (.ops r14_1)
  (.seq (.seq (.ops r14_2)
  (.block 0 (.loop (.seq (.seq (.ops r14_3)
  (.cond (.t 9) .skip
  (.exit 0)))
  (.seq (.block 1 (.seq (.ops r14_4)
  (.drw r14_5)))
  (.ops r14_6))))))
  (.seq (.ops r14_7)
  .ret))))⟩
set_option maxRecDepth 1000000 in
theorem t14 : trF Try.prog 14 = some c14 := by kernel_rfl
/-- regrater/bag.Get (0 s, 1 s, 4 l, 5 e, 6 out, 7 _, 8 t, 9 r, 10 e) -/
noncomputable def r15_0 : List AO := [⟨some 2, none, .box 31 1 (.c (.agg [(.sl true 0 [])]))⟩,
  ⟨some 3, none, .mv (.c (.it .i64 0))⟩]
noncomputable def r15_1 : List AO := [⟨some 12, none, .mv (.t 0)⟩,
  ⟨some 13, none, .call 42 [(.t 12)]⟩,
  ⟨some 11, none, .mv (.t 13)⟩,
  ⟨some 14, none, .ext (.t 11) 0⟩,
  ⟨some 15, none, .ext (.t 11) 1⟩,
  ⟨some 4, none, .mv (.t 14)⟩,
  ⟨some 5, none, .mv (.t 15)⟩]
noncomputable def r15_2 : List AO := [⟨some 16, none, .mv (.t 5)⟩,
  ⟨some 17, none, .eq true 1 (.t 16) (.c (.it .i64 0))⟩]
noncomputable def r15_3 : List AO := [⟨some 18, none, .bld [(.sl true 0 [])] []⟩,
  ⟨some 19, none, .mv (.t 5)⟩,
  ⟨none, none, .sto 1 (.t 2) (.t 18)⟩,
  ⟨some 3, none, .mv (.t 19)⟩]
noncomputable def r15_4 : List AO := [⟨some 6, none, .mv (.c (.sl true 0 []))⟩]
noncomputable def r15_5 : List AO := [⟨some 20, none, .mv (.t 4)⟩,
  ⟨some 21, none, .len (.t 20)⟩,
  ⟨some 22, none, .mv (.c (.it .i64 0))⟩]
noncomputable def r15_6 : List AO := [⟨some 23, none, .bin .lss (.t 22) (.t 21)⟩]
noncomputable def r15_7 : List AO := [⟨some 24, none, .iad 1 (.t 20) (.t 22)⟩,
  ⟨some 25, none, .ld false 1 (.t 24)⟩,
  ⟨some 8, none, .mv (.t 25)⟩]
noncomputable def r15_8 : List AO := [⟨some 27, none, .mv (.t 8)⟩,
  ⟨some 28, none, .call 16 [(.t 27)]⟩,
  ⟨some 26, none, .mv (.t 28)⟩,
  ⟨some 29, none, .ext (.t 26) 0⟩,
  ⟨some 30, none, .ext (.t 26) 1⟩,
  ⟨some 9, none, .mv (.t 29)⟩,
  ⟨some 10, none, .mv (.t 30)⟩]
noncomputable def r15_9 : List AO := [⟨some 31, none, .mv (.t 10)⟩,
  ⟨some 32, none, .eq true 1 (.t 31) (.c (.it .i64 0))⟩]
noncomputable def r15_10 : List AO := [⟨some 33, none, .bld [(.sl true 0 [])] []⟩,
  ⟨some 34, none, .mv (.t 10)⟩,
  ⟨none, none, .sto 1 (.t 2) (.t 33)⟩,
  ⟨some 3, none, .mv (.t 34)⟩]
noncomputable def r15_11 : List AO := [⟨some 35, none, .mv (.t 6)⟩,
  ⟨some 36, none, .mv (.t 9)⟩,
  ⟨some 37, none, .bsl 29 1 1 [(.sl true 0 [])] [(0, 1, (.t 36))]⟩,
  ⟨some 38, none, .app 29 1 24 (.t 35) (.t 37)⟩,
  ⟨some 6, none, .mv (.t 38)⟩]
noncomputable def r15_12 : List AO := [⟨some 39, none, .bin .add (.t 22) (.c (.it .i64 1))⟩,
  ⟨some 22, none, .mv (.t 39)⟩]
noncomputable def r15_13 : List AO := [⟨some 40, none, .mv (.t 6)⟩,
  ⟨some 41, none, .call 43 [(.t 40), (.c (.fn (.func 17) [] []))]⟩,
  ⟨some 42, none, .un .not (.t 41)⟩]
noncomputable def r15_14 : List AO := [⟨some 43, none, .bld [(.sl true 0 [])] []⟩,
  ⟨none, none, .sto 1 (.t 2) (.t 43)⟩,
  ⟨some 3, none, .mv (.c (.it .i64 4))⟩]
noncomputable def r15_15 : List AO := [⟨some 44, none, .mv (.t 6)⟩,
  ⟨some 45, none, .bld [(.sl true 0 [])] [(0, 1, (.t 44))]⟩,
  ⟨none, none, .sto 1 (.t 2) (.t 45)⟩,
  ⟨some 3, none, .mv (.c (.it .i64 0))⟩]
set_option maxRecDepth 1000000 in
noncomputable def c15 : AFn := ⟨46, [(2, some 1), (3, none)],
  (.seq (.ops r15_0)
  (.seq (.ops r15_1)
  (.seq (.seq (.ops r15_2)
  (.cond (.t 17) (.seq (.ops r15_3)
  .ret)
  .skip))
  (.seq (.ops r15_4)
  (.seq (.seq (.ops r15_5)
  (.block 0 (.loop (.seq (.ops r15_6)
  (.seq (.cond (.t 23) .skip
  (.exit 0))
  (.seq (.block 1 (.seq (.ops r15_7)
  (.seq (.ops r15_8)
  (.seq (.seq (.ops r15_9)
  (.cond (.t 32) (.seq (.ops r15_10)
  .ret)
  .skip))
  (.ops r15_11)))))
  (.ops r15_12)))))))
  (.seq (.seq (.ops r15_13)
  (.cond (.t 42) (.seq (.ops r15_14)
  .ret)
  .skip))
  (.seq (.ops r15_15)
  .ret)))))))⟩
set_option maxRecDepth 1000000 in
theorem t15 : trF Try.prog 15 = some c15 := by kernel_rfl
/-- regrater/row.Get (0 s, 1 s, 4 l, 5 e, 6 out, 7 _, 8 t, 9 v, 10 ok) -/
noncomputable def r16_0 : List AO := [⟨some 2, none, .mv (.c (.sl true 0 []))⟩,
  ⟨some 3, none, .mv (.c (.it .i64 0))⟩]
noncomputable def r16_1 : List AO := [⟨some 12, none, .mv (.t 0)⟩,
  ⟨some 13, none, .call 42 [(.t 12)]⟩,
  ⟨some 11, none, .mv (.t 13)⟩,
  ⟨some 14, none, .ext (.t 11) 0⟩,
  ⟨some 15, none, .ext (.t 11) 1⟩,
  ⟨some 4, none, .mv (.t 14)⟩,
  ⟨some 5, none, .mv (.t 15)⟩]
noncomputable def r16_2 : List AO := [⟨some 16, none, .mv (.t 5)⟩,
  ⟨some 17, none, .eq true 1 (.t 16) (.c (.it .i64 0))⟩]
noncomputable def r16_3 : List AO := [⟨some 18, none, .mv (.t 5)⟩,
  ⟨some 2, none, .mv (.c (.sl true 0 []))⟩,
  ⟨some 3, none, .mv (.t 18)⟩]
noncomputable def r16_4 : List AO := [⟨some 6, none, .mv (.c (.sl true 0 []))⟩]
noncomputable def r16_5 : List AO := [⟨some 19, none, .mv (.t 4)⟩,
  ⟨some 20, none, .len (.t 19)⟩,
  ⟨some 21, none, .mv (.c (.it .i64 0))⟩]
noncomputable def r16_6 : List AO := [⟨some 22, none, .bin .lss (.t 21) (.t 20)⟩]
noncomputable def r16_7 : List AO := [⟨some 23, none, .iad 1 (.t 19) (.t 21)⟩,
  ⟨some 24, none, .ld false 1 (.t 23)⟩,
  ⟨some 8, none, .mv (.t 24)⟩]
noncomputable def r16_8 : List AO := [⟨some 26, none, .mv (.t 8)⟩,
  ⟨some 27, none, .call 44 [(.t 26)]⟩,
  ⟨some 25, none, .mv (.t 27)⟩,
  ⟨some 28, none, .ext (.t 25) 0⟩,
  ⟨some 29, none, .ext (.t 25) 1⟩,
  ⟨some 9, none, .box 88 3 (.c (.agg [(.it .i64 0), (.it .i64 0), (.st [])]))⟩,
  ⟨none, none, .sto 3 (.t 9) (.t 28)⟩,
  ⟨some 10, none, .mv (.t 29)⟩]
noncomputable def r16_9 : List AO := [⟨some 30, none, .mv (.t 10)⟩,
  ⟨some 31, none, .un .not (.t 30)⟩]
noncomputable def r16_10 : List AO := [⟨some 2, none, .mv (.c (.sl true 0 []))⟩,
  ⟨some 3, none, .mv (.c (.it .i64 4))⟩]
noncomputable def r16_11 : List AO := [⟨some 32, none, .mv (.t 6)⟩,
  ⟨some 33, none, .ld true 3 (.t 9)⟩,
  ⟨some 34, none, .bsl 88 3 1 [(.it .i64 0), (.it .i64 0), (.st [])] [(0, 3, (.t 33))]⟩,
  ⟨some 35, none, .app 88 3 32 (.t 32) (.t 34)⟩,
  ⟨some 6, none, .mv (.t 35)⟩]
noncomputable def r16_12 : List AO := [⟨some 36, none, .bin .add (.t 21) (.c (.it .i64 1))⟩,
  ⟨some 21, none, .mv (.t 36)⟩]
noncomputable def r16_13 : List AO := [⟨some 37, none, .mv (.t 6)⟩,
  ⟨some 2, none, .mv (.t 37)⟩,
  ⟨some 3, none, .mv (.c (.it .i64 0))⟩]
set_option maxRecDepth 1000000 in
noncomputable def c16 : AFn := ⟨38, [(2, none), (3, none)],
  (.seq (.ops r16_0)
  (.seq (.ops r16_1)
  (.seq (.seq (.ops r16_2)
  (.cond (.t 17) (.seq (.ops r16_3)
  .ret)
  .skip))
  (.seq (.ops r16_4)
  (.seq (.seq (.ops r16_5)
  (.block 0 (.loop (.seq (.ops r16_6)
  (.seq (.cond (.t 22) .skip
  (.exit 0))
  (.seq (.block 1 (.seq (.ops r16_7)
  (.seq (.ops r16_8)
  (.seq (.seq (.ops r16_9)
  (.cond (.t 31) (.seq (.ops r16_10)
  .ret)
  .skip))
  (.ops r16_11)))))
  (.ops r16_12)))))))
  (.seq (.ops r16_13)
  .ret))))))⟩
set_option maxRecDepth 1000000 in
theorem t16 : trF Try.prog 16 = some c16 := by kernel_rfl
/-- regrater/row.Compare (0 a, 1 b, 2 a, 3 b) -/
noncomputable def r17_0 : List AO := [⟨some 4, none, .mv (.c (.it .i64 0))⟩]
noncomputable def r17_1 : List AO := [⟨some 5, none, .mv (.t 0)⟩,
  ⟨some 6, none, .mv (.t 1)⟩,
  ⟨some 7, none, .call 45 [(.t 5), (.t 6), (.c (.fn (.func 46) [] []))]⟩,
  ⟨some 4, none, .mv (.t 7)⟩]
set_option maxRecDepth 1000000 in
noncomputable def c17 : AFn := ⟨8, [(4, none)],
  (.seq (.ops r17_0)
  (.seq (.ops r17_1)
  .ret))⟩
set_option maxRecDepth 1000000 in
theorem t17 : trF Try.prog 17 = some c17 := by kernel_rfl
/-- (regrater/bag.Bag).Key (0 b, 1 b, 3 l, 4 _, 5 r) -/
noncomputable def r18_0 : List AO := [⟨some 1, none, .box 31 1 (.t 0)⟩,
  ⟨some 2, none, .mv (.c (.st []))⟩]
noncomputable def r18_1 : List AO := [⟨some 3, none, .mv (.c (.sl true 0 []))⟩]
noncomputable def r18_2 : List AO := [⟨some 6, none, .fad 0 (.t 1)⟩,
  ⟨some 7, none, .ld false 1 (.t 6)⟩,
  ⟨some 8, none, .len (.t 7)⟩,
  ⟨some 9, none, .mv (.c (.it .i64 0))⟩]
noncomputable def r18_3 : List AO := [⟨some 10, none, .bin .lss (.t 9) (.t 8)⟩]
noncomputable def r18_4 : List AO := [⟨some 11, none, .iad 1 (.t 7) (.t 9)⟩,
  ⟨some 12, none, .ld false 1 (.t 11)⟩,
  ⟨some 5, none, .mv (.t 12)⟩]
noncomputable def r18_5 : List AO := [⟨some 13, none, .mv (.t 3)⟩,
  ⟨some 14, none, .mv (.t 5)⟩,
  ⟨some 15, none, .call 32 [(.t 14)]⟩,
  ⟨some 16, none, .bsl 9 1 1 [(.st [])] [(0, 1, (.t 15))]⟩,
  ⟨some 17, none, .app 9 1 16 (.t 13) (.t 16)⟩,
  ⟨some 3, none, .mv (.t 17)⟩]
noncomputable def r18_6 : List AO := [⟨some 18, none, .bin .add (.t 9) (.c (.it .i64 1))⟩,
  ⟨some 9, none, .mv (.t 18)⟩]
noncomputable def r18_7 : List AO := [⟨some 19, none, .mv (.t 3)⟩,
  ⟨some 20, none, .call 47 [(.t 19)]⟩,
  ⟨some 2, none, .mv (.t 20)⟩]
set_option maxRecDepth 1000000 in
noncomputable def c18 : AFn := ⟨21, [(2, none)],
  (.seq (.ops r18_0)
  (.seq (.ops r18_1)
  (.seq (.seq (.ops r18_2)
  (.block 0 (.loop (.seq (.ops r18_3)
  (.seq (.cond (.t 10) .skip
  (.exit 0))
  (.seq (.block 1 (.seq (.ops r18_4)
  (.ops r18_5)))
  (.ops r18_6)))))))
  (.seq (.ops r18_7)
  .ret))))⟩
set_option maxRecDepth 1000000 in
theorem t18 : trF Try.prog 18 = some c18 := by kernel_rfl
/-- regrater/regraterref07.Sort (0 l, 1 l, 3 out, 4 i, 5 k) -/
noncomputable def r19_0 : List AO := [⟨some 2, none, .mv (.c (.sl true 0 []))⟩]
noncomputable def r19_1 : List AO := [⟨some 3, none, .mv (.c (.sl true 0 []))⟩]
noncomputable def r19_2 : List AO := [⟨some 4, none, .mv (.c (.it .i64 0))⟩]
noncomputable def r19_3 : List AO := [⟨some 6, none, .mv (.t 4)⟩,
  ⟨some 7, none, .mv (.t 0)⟩,
  ⟨some 8, none, .len (.t 7)⟩,
  ⟨some 9, none, .bin .lss (.t 6) (.t 8)⟩]
noncomputable def r19_4 : List AO := [⟨some 12, none, .mv (.t 3)⟩,
  ⟨some 13, none, .len (.t 12)⟩,
  ⟨some 5, none, .mv (.t 13)⟩]
noncomputable def r19_5 : List (AO × List Nat) := [(⟨some 14, none, .mv (.t 5)⟩, []),
  (⟨some 15, none, .bin .gtr (.t 14) (.c (.it .i64 0))⟩, []),
  (⟨some 16, none, .mv (.t 15)⟩, []),
  (⟨some 17, some (16, true), .mv (.t 0)⟩, []),
  (⟨some 18, some (16, true), .mv (.t 4)⟩, []),
  (⟨some 19, some (16, true), .iad 1 (.t 17) (.t 18)⟩, []),
  (⟨some 20, some (16, true), .ld false 1 (.t 19)⟩, []),
  (⟨some 21, some (16, true), .mv (.t 3)⟩, []),
  (⟨some 22, some (16, true), .mv (.t 5)⟩, []),
  (⟨some 23, some (16, true), .bin .sub (.t 22) (.c (.it .i64 1))⟩, []),
  (⟨some 24, some (16, true), .iad 1 (.t 21) (.t 23)⟩, []),
  (⟨some 25, some (16, true), .ld false 1 (.t 24)⟩, []),
  (⟨some 26, some (16, true), .call 48 [(.t 20), (.t 25)]⟩, []),
  (⟨some 27, none, .pick (.t 16) (.t 26) (.c (.bl false))⟩, [])]
noncomputable def r19_6 : List AO := [⟨some 28, none, .mv (.t 5)⟩,
  ⟨some 29, none, .bin .sub (.t 28) (.c (.it .i64 1))⟩,
  ⟨some 5, none, .mv (.t 29)⟩]
noncomputable def r19_7 : List (AO × List Nat) := [(⟨some 30, none, .bsl 50 1 0 [(.sl true 0 [])] []⟩, []),
  (⟨some 31, none, .mv (.t 3)⟩, [0]),
  (⟨some 32, none, .mv (.t 5)⟩, [0]),
  (⟨some 33, none, .sll 1 (.t 31) none (some (.t 32))⟩, [0]),
  (⟨some 34, none, .app 50 1 24 (.t 30) (.t 33)⟩, []),
  (⟨some 35, none, .mv (.t 0)⟩, [0, 3, 4]),
  (⟨some 36, none, .mv (.t 4)⟩, [0, 3, 4]),
  (⟨some 37, none, .iad 1 (.t 35) (.t 36)⟩, [0, 3, 4]),
  (⟨some 38, none, .ld false 1 (.t 37)⟩, [0, 3, 4]),
  (⟨some 39, none, .bsl 50 1 1 [(.sl true 0 [])] [(0, 1, (.t 38))]⟩, [0, 1, 2, 3, 4]),
  (⟨some 40, none, .app 50 1 24 (.t 34) (.t 39)⟩, []),
  (⟨some 41, none, .mv (.t 3)⟩, [0, 3, 4, 9, 10]),
  (⟨some 42, none, .mv (.t 5)⟩, [0, 3, 4, 9, 10]),
  (⟨some 43, none, .sll 1 (.t 41) (some (.t 42)) none⟩, [0, 1, 2, 3, 4, 5, 6, 7, 8, 9, 10]),
  (⟨some 44, none, .app 50 1 24 (.t 40) (.t 43)⟩, []),
  (⟨some 3, none, .mv (.t 44)⟩, [])]
noncomputable def r19_8 : List AO := [⟨some 10, none, .mv (.t 4)⟩,
  ⟨some 11, none, .bin .add (.t 10) (.c (.it .i64 1))⟩,
  ⟨some 4, none, .mv (.t 11)⟩]
noncomputable def r19_9 : List AO := [⟨some 45, none, .mv (.t 3)⟩,
  ⟨some 2, none, .mv (.t 45)⟩]
set_option maxRecDepth 1000000 in
noncomputable def c19 : AFn := ⟨46, [(2, none)],
  (.seq (.ops r19_0)
  (.seq (.ops r19_1)
  (.seq (.seq (.ops r19_2)
  (.block 0 (.loop (.seq (.seq (.ops r19_3)
  (.cond (.t 9) .skip
  (.exit 0)))
  (.seq (.block 1 (.seq (.ops r19_4)
  (.seq (.block 2 (.loop (.seq (.seq (.drw r19_5)
  (.cond (.t 27) .skip
  (.exit 2)))
  (.block 3 (.ops r19_6)))))
  (.drw r19_7))))
  (.ops r19_8))))))
  (.seq (.ops r19_9)
  .ret))))⟩
set_option maxRecDepth 1000000 in
theorem t19 : trF Try.prog 19 = some c19 := by kernel_rfl
/-- regrater/regraterref07.Same (0 a, 1 b, 2 a, 3 b) -/
noncomputable def r20_0 : List AO := [⟨some 4, none, .mv (.c (.bl false))⟩]
noncomputable def r20_1 : List AO := [⟨some 5, none, .mv (.t 0)⟩,
  ⟨some 6, none, .mv (.t 1)⟩,
  ⟨some 7, none, .call 48 [(.t 5), (.t 6)]⟩,
  ⟨some 8, none, .un .not (.t 7)⟩,
  ⟨some 9, none, .mv (.t 8)⟩,
  ⟨some 10, some (9, true), .mv (.t 1)⟩,
  ⟨some 11, some (9, true), .mv (.t 0)⟩,
  ⟨some 12, some (9, true), .call 48 [(.t 10), (.t 11)]⟩,
  ⟨some 13, some (9, true), .un .not (.t 12)⟩,
  ⟨some 14, none, .pick (.t 9) (.t 13) (.c (.bl false))⟩,
  ⟨some 4, none, .mv (.t 14)⟩]
set_option maxRecDepth 1000000 in
noncomputable def c20 : AFn := ⟨15, [(4, none)],
  (.seq (.ops r20_0)
  (.seq (.ops r20_1)
  .ret))⟩
set_option maxRecDepth 1000000 in
theorem t20 : trF Try.prog 20 = some c20 := by kernel_rfl
/-- regrater/regraterlaw08.same (0 b, 1 l, 2 b, 3 l, 5 s, 6 got, 7 i, 8 at, 9 r, 10 n, 11 k) -/
noncomputable def r21_0 : List AO := [⟨some 2, none, .box 31 1 (.t 0)⟩,
  ⟨some 4, none, .box 4 1 (.c (.bl false))⟩]
noncomputable def r21_1 : List AO := [⟨some 12, none, .mv (.t 1)⟩,
  ⟨some 13, none, .call 19 [(.t 12)]⟩,
  ⟨some 5, none, .box 25 1 (.c (.sl true 0 []))⟩,
  ⟨none, none, .sto 1 (.t 5) (.t 13)⟩]
noncomputable def r21_2 : List AO := [⟨some 14, none, .ld true 1 (.t 2)⟩,
  ⟨some 15, none, .call 37 [(.t 14)]⟩,
  ⟨some 6, none, .mv (.t 15)⟩]
noncomputable def r21_3 : List (AO × List Nat) := [(⟨some 16, none, .ld true 1 (.t 2)⟩, []),
  (⟨some 17, none, .call 13 [(.t 16)]⟩, []),
  (⟨some 18, none, .ld false 1 (.t 5)⟩, [1]),
  (⟨some 19, none, .len (.t 18)⟩, [1]),
  (⟨some 20, none, .eq true 1 (.t 17) (.t 19)⟩, []),
  (⟨some 21, none, .mv (.t 20)⟩, []),
  (⟨some 22, some (21, false), .mv (.t 6)⟩, []),
  (⟨some 23, some (21, false), .len (.t 22)⟩, []),
  (⟨some 24, some (21, false), .ld false 1 (.t 5)⟩, []),
  (⟨some 25, some (21, false), .len (.t 24)⟩, []),
  (⟨some 26, some (21, false), .eq true 1 (.t 23) (.t 25)⟩, []),
  (⟨some 27, none, .pick (.t 21) (.c (.bl true)) (.t 26)⟩, []),
  (⟨some 28, none, .mv (.t 27)⟩, []),
  (⟨some 29, some (28, false), .ld true 1 (.t 2)⟩, []),
  (⟨some 30, some (28, false), .call 18 [(.t 29)]⟩, []),
  (⟨some 31, some (28, false), .mv (.t 1)⟩, [14]),
  (⟨some 32, some (28, false), .call 23 [(.t 31)]⟩, []),
  (⟨some 33, some (28, false), .eq true 2 (.t 30) (.t 32)⟩, []),
  (⟨some 34, none, .pick (.t 28) (.c (.bl true)) (.t 33)⟩, [])]
noncomputable def r21_4 : List AO := [⟨none, none, .sto 1 (.t 4) (.c (.bl false))⟩]
noncomputable def r21_5 : List AO := [⟨some 7, none, .mv (.c (.it .i64 0))⟩]
noncomputable def r21_6 : List AO := [⟨some 35, none, .mv (.t 7)⟩,
  ⟨some 36, none, .ld false 1 (.t 5)⟩,
  ⟨some 37, none, .len (.t 36)⟩,
  ⟨some 38, none, .bin .lss (.t 35) (.t 37)⟩]
noncomputable def r21_7 : List (AO × List Nat) := [(⟨some 41, none, .mv (.t 6)⟩, []),
  (⟨some 42, none, .mv (.t 7)⟩, []),
  (⟨some 43, none, .iad 1 (.t 41) (.t 42)⟩, []),
  (⟨some 44, none, .ld false 1 (.t 43)⟩, []),
  (⟨some 45, none, .call 32 [(.t 44)]⟩, []),
  (⟨some 46, none, .ld false 1 (.t 5)⟩, [4]),
  (⟨some 47, none, .mv (.t 7)⟩, [4]),
  (⟨some 48, none, .iad 1 (.t 46) (.t 47)⟩, [4]),
  (⟨some 49, none, .ld false 1 (.t 48)⟩, [4]),
  (⟨some 50, none, .call 33 [(.t 49)]⟩, []),
  (⟨some 51, none, .eq true 2 (.t 45) (.t 50)⟩, [])]
noncomputable def r21_8 : List AO := [⟨none, none, .sto 1 (.t 4) (.c (.bl false))⟩]
noncomputable def r21_9 : List AO := [⟨some 39, none, .mv (.t 7)⟩,
  ⟨some 40, none, .bin .add (.t 39) (.c (.it .i64 1))⟩,
  ⟨some 7, none, .mv (.t 40)⟩]
noncomputable def r21_10 : List AO := [⟨some 8, none, .box 3 1 (.c (.it .i64 0))⟩,
  ⟨none, none, .sto 1 (.t 8) (.c (.it .i64 0))⟩]
noncomputable def r21_11 : List AO := [⟨some 52, none, .ld true 1 (.t 2)⟩,
  ⟨some 53, none, .call 49 [(.t 52)]⟩]
noncomputable def r21_12 : List AO := [⟨some 98, none, .ld false 1 (.t 8)⟩,
  ⟨some 99, none, .ld false 1 (.t 5)⟩,
  ⟨some 100, none, .len (.t 99)⟩,
  ⟨some 101, none, .eq false 1 (.t 98) (.t 100)⟩,
  ⟨none, none, .sto 1 (.t 4) (.t 101)⟩]
set_option maxRecDepth 1000000 in
noncomputable def c21 : AFn := ⟨102, [(4, some 0)],
  (.seq (.ops r21_0)
  (.seq (.ops r21_1)
  (.seq (.ops r21_2)
  (.seq (.seq (.drw r21_3)
  (.cond (.t 34) (.seq (.ops r21_4)
  .ret)
  .skip))
  (.seq (.seq (.ops r21_5)
  (.block 0 (.loop (.seq (.seq (.ops r21_6)
  (.cond (.t 38) .skip
  (.exit 0)))
  (.seq (.block 1 (.seq (.drw r21_7)
  (.cond (.t 51) (.seq (.ops r21_8)
  .ret)
  .skip)))
  (.ops r21_9))))))
  (.seq (.ops r21_10)
  (.seq (.seq (.ops r21_11)
  (.block 2 (.rng 102 (.t 53) (rngX Try.prog 21 0).1 (rngX Try.prog 21 0).2.1 (rngX Try.prog 21 0).2.2)))
  (.seq (.ops r21_12)
  .ret))))))))⟩
set_option maxRecDepth 1000000 in
theorem t21 : trF Try.prog 21 = some c21 := by kernel_rfl
noncomputable def r21_0a_0 : List AO := [⟨some 9, none, .mv (.t 54)⟩]
noncomputable def r21_0a_1 : List AO := [⟨some 10, none, .mv (.t 55)⟩]
noncomputable def c21_0a : ACode := (.seq (.ops r21_0a_0)
  (.ops r21_0a_1))
theorem t21_0a : trC Try.prog 102 (rngX Try.prog 21 0).2.1 = some c21_0a := by kernel_rfl
noncomputable def r21_0b_0 : List AO := [⟨some 56, none, .mv (.t 10)⟩,
  ⟨some 57, none, .bin .lss (.t 56) (.c (.it .i64 1))⟩,
  ⟨some 58, none, .mv (.t 57)⟩,
  ⟨some 59, some (58, false), .ld false 1 (.t 8)⟩,
  ⟨some 60, some (58, false), .mv (.t 10)⟩,
  ⟨some 61, some (58, false), .bin .add (.t 59) (.t 60)⟩,
  ⟨some 62, some (58, false), .ld false 1 (.t 5)⟩,
  ⟨some 63, some (58, false), .len (.t 62)⟩,
  ⟨some 64, some (58, false), .bin .gtr (.t 61) (.t 63)⟩,
  ⟨some 65, none, .pick (.t 58) (.c (.bl true)) (.t 64)⟩]
noncomputable def r21_0b_1 : List AO := [⟨none, none, .sto 1 (.t 4) (.c (.bl false))⟩]
noncomputable def r21_0b_2 : List AO := [⟨some 11, none, .mv (.c (.it .i64 0))⟩]
noncomputable def r21_0b_3 : List AO := [⟨some 66, none, .mv (.t 11)⟩,
  ⟨some 67, none, .mv (.t 10)⟩,
  ⟨some 68, none, .bin .lss (.t 66) (.t 67)⟩]
noncomputable def r21_0b_4 : List (AO × List Nat) := [(⟨some 71, none, .mv (.t 9)⟩, []),
  (⟨some 72, none, .call 32 [(.t 71)]⟩, []),
  (⟨some 73, none, .ld false 1 (.t 5)⟩, [1]),
  (⟨some 74, none, .ld false 1 (.t 8)⟩, [1]),
  (⟨some 75, none, .mv (.t 11)⟩, [1]),
  (⟨some 76, none, .bin .add (.t 74) (.t 75)⟩, [1]),
  (⟨some 77, none, .iad 1 (.t 73) (.t 76)⟩, [1]),
  (⟨some 78, none, .ld false 1 (.t 77)⟩, [1]),
  (⟨some 79, none, .call 33 [(.t 78)]⟩, []),
  (⟨some 80, none, .eq true 2 (.t 72) (.t 79)⟩, [])]
noncomputable def r21_0b_5 : List AO := [⟨none, none, .sto 1 (.t 4) (.c (.bl false))⟩]
noncomputable def r21_0b_6 : List AO := [⟨some 69, none, .mv (.t 11)⟩,
  ⟨some 70, none, .bin .add (.t 69) (.c (.it .i64 1))⟩,
  ⟨some 11, none, .mv (.t 70)⟩]
noncomputable def r21_0b_7 : List AO := [⟨some 81, none, .ld false 1 (.t 8)⟩,
  ⟨some 82, none, .mv (.t 10)⟩,
  ⟨some 83, none, .bin .add (.t 81) (.t 82)⟩,
  ⟨none, none, .sto 1 (.t 8) (.t 83)⟩]
noncomputable def r21_0b_8 : List (AO × List Nat) := [(⟨some 84, none, .ld false 1 (.t 8)⟩, []),
  (⟨some 85, none, .ld false 1 (.t 5)⟩, []),
  (⟨some 86, none, .len (.t 85)⟩, []),
  (⟨some 87, none, .bin .lss (.t 84) (.t 86)⟩, []),
  (⟨some 88, none, .mv (.t 87)⟩, []),
  (⟨some 89, some (88, true), .mv (.t 9)⟩, []),
  (⟨some 90, some (88, true), .call 32 [(.t 89)]⟩, []),
  (⟨some 91, some (88, true), .ld false 1 (.t 5)⟩, [6]),
  (⟨some 92, some (88, true), .ld false 1 (.t 8)⟩, [6]),
  (⟨some 93, some (88, true), .iad 1 (.t 91) (.t 92)⟩, [6]),
  (⟨some 94, some (88, true), .ld false 1 (.t 93)⟩, [6]),
  (⟨some 95, some (88, true), .call 33 [(.t 94)]⟩, []),
  (⟨some 96, some (88, true), .eq false 2 (.t 90) (.t 95)⟩, []),
  (⟨some 97, none, .pick (.t 88) (.t 96) (.c (.bl false))⟩, [])]
noncomputable def r21_0b_9 : List AO := [⟨none, none, .sto 1 (.t 4) (.c (.bl false))⟩]
noncomputable def c21_0b : ACode := (.block 3 (.seq (.seq (.ops r21_0b_0)
  (.cond (.t 65) (.seq (.ops r21_0b_1)
  .ret)
  .skip))
  (.seq (.seq (.ops r21_0b_2)
  (.block 4 (.loop (.seq (.seq (.ops r21_0b_3)
  (.cond (.t 68) .skip
  (.exit 4)))
  (.seq (.block 5 (.seq (.drw r21_0b_4)
  (.cond (.t 80) (.seq (.ops r21_0b_5)
  .ret)
  .skip)))
  (.ops r21_0b_6))))))
  (.seq (.ops r21_0b_7)
  (.seq (.drw r21_0b_8)
  (.cond (.t 97) (.seq (.ops r21_0b_9)
  .ret)
  .skip))))))
theorem t21_0b : trC Try.prog 102 (rngX Try.prog 21 0).2.2 = some c21_0b := by kernel_rfl
/-- (regrater/bag.Bag).Distinct (0 b, 1 b, 3 out, 4 r) -/
noncomputable def r22_0 : List AO := [⟨some 1, none, .box 31 1 (.t 0)⟩,
  ⟨some 2, none, .box 31 1 (.c (.agg [(.sl true 0 [])]))⟩]
noncomputable def r22_1 : List AO := [⟨some 3, none, .box 24 1 (.c (.sl true 0 []))⟩]
noncomputable def r22_2 : List AO := [⟨some 5, none, .ld true 1 (.t 1)⟩,
  ⟨some 6, none, .call 49 [(.t 5)]⟩]
noncomputable def r22_3 : List AO := [⟨some 13, none, .ld false 1 (.t 3)⟩,
  ⟨some 14, none, .bld [(.sl true 0 [])] [(0, 1, (.t 13))]⟩,
  ⟨none, none, .sto 1 (.t 2) (.t 14)⟩]
set_option maxRecDepth 1000000 in
noncomputable def c22 : AFn := ⟨15, [(2, some 1)],
  (.seq (.ops r22_0)
  (.seq (.ops r22_1)
  (.seq (.seq (.ops r22_2)
  (.block 0 (.rng 15 (.t 6) (rngX Try.prog 22 0).1 (rngX Try.prog 22 0).2.1 (rngX Try.prog 22 0).2.2)))
  (.seq (.ops r22_3)
  .ret))))⟩
set_option maxRecDepth 1000000 in
theorem t22 : trF Try.prog 22 = some c22 := by kernel_rfl
noncomputable def r22_0a_0 : List AO := [⟨some 4, none, .mv (.t 7)⟩]
noncomputable def c22_0a : ACode := (.ops r22_0a_0)
theorem t22_0a : trC Try.prog 15 (rngX Try.prog 22 0).2.1 = some c22_0a := by kernel_rfl
noncomputable def r22_0b_0 : List AO := [⟨some 9, none, .ld false 1 (.t 3)⟩,
  ⟨some 10, none, .mv (.t 4)⟩,
  ⟨some 11, none, .bsl 29 1 1 [(.sl true 0 [])] [(0, 1, (.t 10))]⟩,
  ⟨some 12, none, .app 29 1 24 (.t 9) (.t 11)⟩,
  ⟨none, none, .sto 1 (.t 3) (.t 12)⟩]
noncomputable def c22_0b : ACode := (.block 1 (.ops r22_0b_0))
theorem t22_0b : trC Try.prog 15 (rngX Try.prog 22 0).2.2 = some c22_0b := by kernel_rfl
/-- regrater/regraterlaw08.key (0 l, 1 l, 3 out, 4 s, 5 i) -/
noncomputable def r23_0 : List AO := [⟨some 2, none, .mv (.c (.st []))⟩]
noncomputable def r23_1 : List AO := [⟨some 3, none, .mv (.c (.sl true 0 []))⟩]
noncomputable def r23_2 : List AO := [⟨some 6, none, .mv (.t 0)⟩,
  ⟨some 7, none, .call 19 [(.t 6)]⟩,
  ⟨some 4, none, .mv (.t 7)⟩]
noncomputable def r23_3 : List AO := [⟨some 5, none, .mv (.c (.it .i64 0))⟩]
noncomputable def r23_4 : List AO := [⟨some 8, none, .mv (.t 5)⟩,
  ⟨some 9, none, .mv (.t 4)⟩,
  ⟨some 10, none, .len (.t 9)⟩,
  ⟨some 11, none, .bin .lss (.t 8) (.t 10)⟩]
noncomputable def r23_5 : List AO := [⟨some 14, none, .mv (.t 3)⟩,
  ⟨some 15, none, .mv (.t 4)⟩,
  ⟨some 16, none, .mv (.t 5)⟩,
  ⟨some 17, none, .iad 1 (.t 15) (.t 16)⟩,
  ⟨some 18, none, .ld false 1 (.t 17)⟩,
  ⟨some 19, none, .call 33 [(.t 18)]⟩,
  ⟨some 20, none, .bsl 9 1 1 [(.st [])] [(0, 1, (.t 19))]⟩,
  ⟨some 21, none, .app 9 1 16 (.t 14) (.t 20)⟩,
  ⟨some 3, none, .mv (.t 21)⟩]
noncomputable def r23_6 : List AO := [⟨some 12, none, .mv (.t 5)⟩,
  ⟨some 13, none, .bin .add (.t 12) (.c (.it .i64 1))⟩,
  ⟨some 5, none, .mv (.t 13)⟩]
noncomputable def r23_7 : List AO := [⟨some 22, none, .mv (.t 3)⟩,
  ⟨some 23, none, .call 14 [(.t 22)]⟩,
  ⟨some 2, none, .mv (.t 23)⟩]
set_option maxRecDepth 1000000 in
noncomputable def c23 : AFn := ⟨24, [(2, none)],
  (.seq (.ops r23_0)
  (.seq (.ops r23_1)
  (.seq (.ops r23_2)
  (.seq (.seq (.ops r23_3)
  (.block 0 (.loop (.seq (.seq (.ops r23_4)
  (.cond (.t 11) .skip
  (.exit 0)))
  (.seq (.block 1 (.ops r23_5))
  (.ops r23_6))))))
  (.seq (.ops r23_7)
  .ret)))))⟩
set_option maxRecDepth 1000000 in
theorem t23 : trF Try.prog 23 = some c23 := by kernel_rfl
/-- regrater/regraterlaw23.speaks (1 p, 2 v, 3 e, 4 n, 5 f) -/
noncomputable def r24_0 : List AO := [⟨some 0, none, .mv (.c (.bl false))⟩]
noncomputable def r24_1 : List AO := [⟨some 6, none, .call 36 [(.c (.it .i64 1))]⟩,
  ⟨some 7, none, .bsl 88 3 1 [(.it .i64 0), (.it .i64 0), (.st [])] [(0, 3, (.t 6))]⟩,
  ⟨some 8, none, .call 50 [(.t 7)]⟩,
  ⟨some 9, none, .bld [(.it .i64 0), (.it .i64 0), (.st [])] []⟩,
  ⟨some 10, none, .bsl 88 3 1 [(.it .i64 0), (.it .i64 0), (.st [])] [(0, 3, (.t 9))]⟩,
  ⟨some 11, none, .call 50 [(.t 10)]⟩,
  ⟨some 12, none, .call 27 [(.t 8), (.t 11)]⟩,
  ⟨some 1, none, .box 58 2 (.c (.agg [(.it .i64 0), (.sl true 0 [])]))⟩,
  ⟨none, none, .sto 2 (.t 1) (.t 12)⟩]
noncomputable def r24_2 : List AO := [⟨some 14, none, .ld true 2 (.t 1)⟩,
  ⟨some 15, none, .call 51 [(.t 14), (.c (.it .i64 2)), (.c (.it .i64 0))]⟩,
  ⟨some 13, none, .mv (.t 15)⟩,
  ⟨some 16, none, .ext (.t 13) 0⟩,
  ⟨some 17, none, .ext (.t 13) 1⟩,
  ⟨some 2, none, .box 88 3 (.c (.agg [(.it .i64 0), (.it .i64 0), (.st [])]))⟩,
  ⟨none, none, .sto 3 (.t 2) (.t 16)⟩,
  ⟨some 3, none, .mv (.t 17)⟩]
noncomputable def r24_3 : List AO := [⟨some 19, none, .ld true 2 (.t 1)⟩,
  ⟨some 20, none, .call 51 [(.t 19), (.c (.it .i64 1)), (.c (.it .i64 (-1)))]⟩,
  ⟨some 18, none, .mv (.t 20)⟩,
  ⟨some 21, none, .ext (.t 18) 0⟩,
  ⟨some 22, none, .ext (.t 18) 1⟩,
  ⟨some 4, none, .box 88 3 (.c (.agg [(.it .i64 0), (.it .i64 0), (.st [])]))⟩,
  ⟨none, none, .sto 3 (.t 4) (.t 21)⟩,
  ⟨some 5, none, .mv (.t 22)⟩]
noncomputable def r24_4 : List (AO × List Nat) := [(⟨some 23, none, .mv (.t 3)⟩, []),
  (⟨some 24, none, .eq false 1 (.t 23) (.c (.it .i64 0))⟩, []),
  (⟨some 25, none, .mv (.t 24)⟩, []),
  (⟨some 26, some (25, true), .mv (.t 5)⟩, []),
  (⟨some 27, some (25, true), .eq false 1 (.t 26) (.c (.it .i64 0))⟩, []),
  (⟨some 28, none, .pick (.t 25) (.t 27) (.c (.bl false))⟩, []),
  (⟨some 29, none, .mv (.t 28)⟩, []),
  (⟨some 30, some (29, true), .ld true 3 (.t 2)⟩, []),
  (⟨some 31, some (29, true), .call 36 [(.c (.it .i64 1))]⟩, [7]),
  (⟨some 32, some (29, true), .eqs false [1, 1, 2] (.t 30) (.t 31)⟩, []),
  (⟨some 33, none, .pick (.t 29) (.t 32) (.c (.bl false))⟩, []),
  (⟨some 34, none, .mv (.t 33)⟩, []),
  (⟨some 35, some (34, true), .fad 0 (.t 2)⟩, []),
  (⟨some 36, some (34, true), .ld false 1 (.t 35)⟩, []),
  (⟨some 37, some (34, true), .eq false 1 (.t 36) (.c (.it .i64 2))⟩, []),
  (⟨some 38, none, .pick (.t 34) (.t 37) (.c (.bl false))⟩, []),
  (⟨some 39, none, .mv (.t 38)⟩, []),
  (⟨some 40, some (39, true), .ld true 3 (.t 4)⟩, []),
  (⟨some 41, some (39, true), .call 36 [(.c (.it .i64 2))]⟩, [17]),
  (⟨some 42, some (39, true), .eqs false [1, 1, 2] (.t 40) (.t 41)⟩, []),
  (⟨some 43, none, .pick (.t 39) (.t 42) (.c (.bl false))⟩, []),
  (⟨some 44, none, .mv (.t 43)⟩, []),
  (⟨some 45, some (44, true), .fad 1 (.t 1)⟩, []),
  (⟨some 46, some (44, true), .ld false 1 (.t 45)⟩, []),
  (⟨some 47, some (44, true), .iad 9 (.t 46) (.c (.it .i64 0))⟩, []),
  (⟨some 48, some (44, true), .fad 0 (.t 47)⟩, []),
  (⟨some 49, some (44, true), .ld false 1 (.t 48)⟩, []),
  (⟨some 50, some (44, true), .eq false 1 (.t 49) (.c (.it .i64 1))⟩, []),
  (⟨some 51, none, .pick (.t 44) (.t 50) (.c (.bl false))⟩, []),
  (⟨some 0, none, .mv (.t 51)⟩, [])]
set_option maxRecDepth 1000000 in
noncomputable def c24 : AFn := ⟨52, [(0, none)],
  (.seq (.ops r24_0)
  (.seq (.ops r24_1)
  (.seq (.ops r24_2)
  (.seq (.ops r24_3)
  (.seq (.drw r24_4)
  .ret)))))⟩
set_option maxRecDepth 1000000 in
theorem t24 : trF Try.prog 24 = some c24 := by kernel_rfl
/-- regrater/agg.None (0 n, 1 n) -/
noncomputable def r25_0 : List AO := [⟨some 2, none, .box 58 2 (.c (.agg [(.it .i64 0), (.sl true 0 [])]))⟩]
noncomputable def r25_1 : List AO := [⟨some 3, none, .mv (.t 0)⟩,
  ⟨some 4, none, .mks 115 9 88 [(.it .i64 0), (.it .i64 0), (.it .u64 0), (.it .i64 0), (.it .i64 0), (.st []), (.it .i64 0), (.it .i64 0), (.st [])] (.t 3) (.t 3)⟩,
  ⟨some 5, none, .bld [(.it .i64 0), (.sl true 0 [])] [(1, 1, (.t 4))]⟩,
  ⟨none, none, .sto 2 (.t 2) (.t 5)⟩]
set_option maxRecDepth 1000000 in
noncomputable def c25 : AFn := ⟨6, [(2, some 2)],
  (.seq (.ops r25_0)
  (.seq (.ops r25_1)
  .ret))⟩
set_option maxRecDepth 1000000 in
theorem t25 : trF Try.prog 25 = some c25 := by kernel_rfl
/-- regrater/regraterlaw23.told (0 x, 1 x, 4 a, 5 m, 6 b, 7 n, 8 g) -/
noncomputable def r26_0 : List AO := [⟨some 1, none, .box 69 7 (.t 0)⟩,
  ⟨some 2, none, .box 61 3 (.c (.agg [(.sl true 0 []), (.it .i64 0), (.sl true 0 [])]))⟩,
  ⟨some 3, none, .box 63 2 (.c (.agg [(.sl true 0 []), (.sl true 0 [])]))⟩]
noncomputable def r26_1 : List AO := [⟨some 10, none, .fad 1 (.t 1)⟩,
  ⟨some 11, none, .ld true 3 (.t 10)⟩,
  ⟨some 12, none, .call 52 [(.t 11)]⟩,
  ⟨some 9, none, .mv (.t 12)⟩,
  ⟨some 13, none, .ext (.t 9) 0⟩,
  ⟨some 14, none, .ext (.t 9) 1⟩,
  ⟨some 4, none, .box 88 3 (.c (.agg [(.it .i64 0), (.it .i64 0), (.st [])]))⟩,
  ⟨some 5, none, .box 116 3 (.c (.agg [(.it .i64 0), (.it .i64 0), (.st [])]))⟩,
  ⟨none, none, .sto 3 (.t 4) (.t 13)⟩,
  ⟨none, none, .sto 3 (.t 5) (.t 14)⟩]
noncomputable def r26_2 : List AO := [⟨some 16, none, .fad 4 (.t 1)⟩,
  ⟨some 17, none, .ld true 3 (.t 16)⟩,
  ⟨some 18, none, .call 52 [(.t 17)]⟩,
  ⟨some 15, none, .mv (.t 18)⟩,
  ⟨some 19, none, .ext (.t 15) 0⟩,
  ⟨some 20, none, .ext (.t 15) 1⟩,
  ⟨some 6, none, .box 88 3 (.c (.agg [(.it .i64 0), (.it .i64 0), (.st [])]))⟩,
  ⟨some 7, none, .box 116 3 (.c (.agg [(.it .i64 0), (.it .i64 0), (.st [])]))⟩,
  ⟨none, none, .sto 3 (.t 6) (.t 19)⟩,
  ⟨none, none, .sto 3 (.t 7) (.t 20)⟩]
noncomputable def r26_3 : List AO := [⟨some 21, none, .fad 0 (.t 1)⟩,
  ⟨some 22, none, .ld false 1 (.t 21)⟩,
  ⟨some 23, none, .bin .rem (.t 22) (.c (.it .u8 4))⟩,
  ⟨some 24, none, .cvi .i64 (.t 23)⟩,
  ⟨some 8, none, .mv (.t 24)⟩]
noncomputable def r26_4 : List (AO × List Nat) := [(⟨some 25, none, .mv (.t 8)⟩, []),
  (⟨some 26, none, .call 36 [(.t 25)]⟩, []),
  (⟨some 27, none, .bsl 88 3 1 [(.it .i64 0), (.it .i64 0), (.st [])] [(0, 3, (.t 26))]⟩, []),
  (⟨some 28, none, .ld true 3 (.t 4)⟩, [1, 2]),
  (⟨some 29, none, .ld true 3 (.t 6)⟩, [1, 2]),
  (⟨some 30, none, .bsl 88 3 2 [(.it .i64 0), (.it .i64 0), (.st [])] [(0, 3, (.t 28)), (3, 3, (.t 29))]⟩, [0, 1, 2]),
  (⟨some 31, none, .call 50 [(.t 30)]⟩, [2]),
  (⟨some 32, none, .bld [(.sl true 0 []), (.it .i64 0), (.sl true 0 [])] [(0, 1, (.t 27)), (1, 2, (.t 31))]⟩, []),
  (⟨some 33, none, .mv (.t 8)⟩, [1, 2, 5, 6]),
  (⟨some 34, none, .bld [(.it .i64 0), (.it .i64 0), (.st [])] [(0, 1, (.c (.it .i64 2))), (1, 1, (.t 33))]⟩, [1, 2, 5, 6]),
  (⟨some 35, none, .bsl 116 3 1 [(.it .i64 0), (.it .i64 0), (.st [])] [(0, 3, (.t 34))]⟩, [0, 1, 2, 3, 4, 5, 6, 7]),
  (⟨some 36, none, .ld true 3 (.t 5)⟩, [1, 2, 5, 6, 10]),
  (⟨some 37, none, .ld true 3 (.t 7)⟩, [1, 2, 5, 6, 10]),
  (⟨some 38, none, .bsl 116 3 2 [(.it .i64 0), (.it .i64 0), (.st [])] [(0, 3, (.t 36)), (3, 3, (.t 37))]⟩, [0, 1, 2, 3, 4, 5, 6, 7, 8, 9, 10]),
  (⟨some 39, none, .bld [(.sl true 0 []), (.sl true 0 [])] [(0, 1, (.t 35)), (1, 1, (.t 38))]⟩, [1, 2, 5, 6]),
  (⟨none, none, .sto 3 (.t 2) (.t 32)⟩, [8, 9, 10, 11, 12, 13, 14]),
  (⟨none, none, .sto 2 (.t 3) (.t 39)⟩, [])]
set_option maxRecDepth 1000000 in
noncomputable def c26 : AFn := ⟨40, [(2, some 3), (3, some 2)],
  (.seq (.ops r26_0)
  (.seq (.ops r26_1)
  (.seq (.ops r26_2)
  (.seq (.ops r26_3)
  (.seq (.drw r26_4)
  .ret)))))⟩
set_option maxRecDepth 1000000 in
theorem t26 : trF Try.prog 26 = some c26 := by kernel_rfl
/-- regrater/agg.Plus (0 a, 1 b, 2 a, 3 b, 5 out, 6 i) -/
noncomputable def r27_0 : List AO := [⟨some 2, none, .box 58 2 (.t 0)⟩,
  ⟨some 3, none, .box 58 2 (.t 1)⟩,
  ⟨some 4, none, .box 58 2 (.c (.agg [(.it .i64 0), (.sl true 0 [])]))⟩]
noncomputable def r27_1 : List AO := [⟨some 7, none, .fad 0 (.t 2)⟩,
  ⟨some 8, none, .ld false 1 (.t 7)⟩,
  ⟨some 9, none, .fad 0 (.t 3)⟩,
  ⟨some 10, none, .ld false 1 (.t 9)⟩,
  ⟨some 11, none, .bin .add (.t 8) (.t 10)⟩,
  ⟨some 12, none, .bld [(.it .i64 0), (.sl true 0 [])] [(0, 1, (.t 11))]⟩,
  ⟨some 5, none, .box 58 2 (.c (.agg [(.it .i64 0), (.sl true 0 [])]))⟩,
  ⟨none, none, .sto 2 (.t 5) (.t 12)⟩]
noncomputable def r27_2 : List AO := [⟨some 13, none, .fad 1 (.t 2)⟩,
  ⟨some 14, none, .ld false 1 (.t 13)⟩,
  ⟨some 15, none, .len (.t 14)⟩,
  ⟨some 16, none, .fad 1 (.t 3)⟩,
  ⟨some 17, none, .ld false 1 (.t 16)⟩,
  ⟨some 18, none, .len (.t 17)⟩,
  ⟨some 19, none, .mnx false [(.t 15), (.t 18)]⟩,
  ⟨some 20, none, .mv (.c (.it .i64 0))⟩]
noncomputable def r27_3 : List AO := [⟨some 21, none, .bin .lss (.t 20) (.t 19)⟩]
noncomputable def r27_4 : List AO := [⟨some 22, none, .mv (.t 20)⟩,
  ⟨some 6, none, .mv (.t 22)⟩]
noncomputable def r27_5 : List (AO × List Nat) := [(⟨some 23, none, .fad 1 (.t 5)⟩, []),
  (⟨some 24, none, .ld false 1 (.t 23)⟩, []),
  (⟨some 25, none, .fad 1 (.t 2)⟩, []),
  (⟨some 26, none, .ld false 1 (.t 25)⟩, []),
  (⟨some 27, none, .mv (.t 6)⟩, []),
  (⟨some 28, none, .iad 9 (.t 26) (.t 27)⟩, []),
  (⟨some 29, none, .ld true 9 (.t 28)⟩, []),
  (⟨some 30, none, .fad 1 (.t 3)⟩, []),
  (⟨some 31, none, .ld false 1 (.t 30)⟩, []),
  (⟨some 32, none, .mv (.t 6)⟩, []),
  (⟨some 33, none, .iad 9 (.t 31) (.t 32)⟩, []),
  (⟨some 34, none, .ld true 9 (.t 33)⟩, []),
  (⟨some 35, none, .call 53 [(.t 29), (.t 34)]⟩, [0, 1]),
  (⟨some 36, none, .bsl 115 9 1 [(.it .i64 0), (.it .i64 0), (.it .u64 0), (.it .i64 0), (.it .i64 0), (.st []), (.it .i64 0), (.it .i64 0), (.st [])] [(0, 9, (.t 35))]⟩, [0, 1]),
  (⟨some 37, none, .app 115 9 88 (.t 24) (.t 36)⟩, []),
  (⟨some 38, none, .fad 1 (.t 5)⟩, []),
  (⟨none, none, .sto 1 (.t 38) (.t 37)⟩, [])]
noncomputable def r27_6 : List AO := [⟨some 39, none, .bin .add (.t 20) (.c (.it .i64 1))⟩,
  ⟨some 20, none, .mv (.t 39)⟩]
noncomputable def r27_7 : List AO := [⟨some 40, none, .ld true 2 (.t 5)⟩,
  ⟨none, none, .sto 2 (.t 4) (.t 40)⟩]
set_option maxRecDepth 1000000 in
noncomputable def c27 : AFn := ⟨41, [(4, some 2)],
  (.seq (.ops r27_0)
  (.seq (.ops r27_1)
  (.seq (.seq (.ops r27_2)
  (.block 0 (.loop (.seq (.ops r27_3)
  (.seq (.cond (.t 21) .skip
  (.exit 0))
  (.seq (.block 1 (.seq (.ops r27_4)
  (.drw r27_5)))
  (.ops r27_6)))))))
  (.seq (.ops r27_7)
  .ret))))⟩
set_option maxRecDepth 1000000 in
theorem t27 : trF Try.prog 27 = some c27 := by kernel_rfl
/-- regrater/regraterlaw23.AggTurns$1 (0 p, 1 p) -/
noncomputable def r28_0 : List AO := [⟨some 1, none, .box 58 2 (.t 0)⟩,
  ⟨some 2, none, .mv (.c (.st []))⟩]
noncomputable def r28_1 : List AO := [⟨some 3, none, .ld true 2 (.t 1)⟩,
  ⟨some 4, none, .bld [(.sl true 0 []), (.it .i64 0), (.sl true 0 [])] [(1, 2, (.t 3))]⟩,
  ⟨some 5, none, .bsl 61 3 1 [(.sl true 0 []), (.it .i64 0), (.sl true 0 [])] [(0, 3, (.t 4))]⟩,
  ⟨some 6, none, .call 29 [(.t 5)]⟩,
  ⟨some 2, none, .mv (.t 6)⟩]
set_option maxRecDepth 1000000 in
noncomputable def c28 : AFn := ⟨7, [(2, none)],
  (.seq (.ops r28_0)
  (.seq (.ops r28_1)
  .ret))⟩
set_option maxRecDepth 1000000 in
theorem t28 : trF Try.prog 28 = some c28 := by kernel_rfl
/-- regrater/agg.Pack (0 l, 1 l, 3 out, 4 _, 5 g) -/
noncomputable def r29_0 : List AO := [⟨some 2, none, .mv (.c (.st []))⟩]
noncomputable def r29_1 : List AO := [⟨some 3, none, .mv (.c (.sl true 0 []))⟩]
noncomputable def r29_2 : List AO := [⟨some 6, none, .mv (.t 0)⟩,
  ⟨some 7, none, .len (.t 6)⟩,
  ⟨some 8, none, .mv (.c (.it .i64 0))⟩]
noncomputable def r29_3 : List AO := [⟨some 9, none, .bin .lss (.t 8) (.t 7)⟩]
noncomputable def r29_4 : List AO := [⟨some 10, none, .iad 3 (.t 6) (.t 8)⟩,
  ⟨some 11, none, .ld true 3 (.t 10)⟩,
  ⟨some 5, none, .box 61 3 (.c (.agg [(.sl true 0 []), (.it .i64 0), (.sl true 0 [])]))⟩,
  ⟨none, none, .sto 3 (.t 5) (.t 11)⟩]
noncomputable def r29_5 : List (AO × List Nat) := [(⟨some 12, none, .mv (.t 3)⟩, []),
  (⟨some 13, none, .fad 0 (.t 5)⟩, []),
  (⟨some 14, none, .ld false 1 (.t 13)⟩, []),
  (⟨some 15, none, .call 32 [(.t 14)]⟩, [0]),
  (⟨some 16, none, .fad 1 (.t 5)⟩, [3]),
  (⟨some 17, none, .ld true 2 (.t 16)⟩, [3]),
  (⟨some 18, none, .call 54 [(.t 17)]⟩, [0]),
  (⟨some 19, none, .bsl 9 1 2 [(.st [])] [(0, 1, (.t 15)), (1, 1, (.t 18))]⟩, [0]),
  (⟨some 20, none, .app 9 1 16 (.t 12) (.t 19)⟩, []),
  (⟨some 3, none, .mv (.t 20)⟩, [])]
noncomputable def r29_6 : List AO := [⟨some 21, none, .bin .add (.t 8) (.c (.it .i64 1))⟩,
  ⟨some 8, none, .mv (.t 21)⟩]
noncomputable def r29_7 : List AO := [⟨some 22, none, .mv (.t 3)⟩,
  ⟨some 23, none, .call 47 [(.t 22)]⟩,
  ⟨some 2, none, .mv (.t 23)⟩]
set_option maxRecDepth 1000000 in
noncomputable def c29 : AFn := ⟨24, [(2, none)],
  (.seq (.ops r29_0)
  (.seq (.ops r29_1)
  (.seq (.seq (.ops r29_2)
  (.block 0 (.loop (.seq (.ops r29_3)
  (.seq (.cond (.t 9) .skip
  (.exit 0))
  (.seq (.block 1 (.seq (.ops r29_4)
  (.drw r29_5)))
  (.ops r29_6)))))))
  (.seq (.ops r29_7)
  .ret))))⟩
set_option maxRecDepth 1000000 in
theorem t29 : trF Try.prog 29 = some c29 := by kernel_rfl
/-- regrater/agg.Merge (0 l, 1 l, 3 all, 4 out, 5 _, 6 g, 7 n) -/
noncomputable def r30_0 : List AO := [⟨some 2, none, .mv (.c (.sl true 0 []))⟩]
noncomputable def r30_1 : List AO := [⟨some 8, none, .mv (.t 0)⟩,
  ⟨some 9, none, .call 55 [(.t 8)]⟩,
  ⟨some 3, none, .mv (.t 9)⟩]
noncomputable def r30_2 : List AO := [⟨some 10, none, .mv (.t 3)⟩,
  ⟨some 11, none, .call 56 [(.t 10), (.c (.fn (.func 57) [] []))]⟩]
noncomputable def r30_3 : List AO := [⟨some 4, none, .mv (.c (.sl true 0 []))⟩]
noncomputable def r30_4 : List AO := [⟨some 12, none, .mv (.t 3)⟩,
  ⟨some 13, none, .len (.t 12)⟩,
  ⟨some 14, none, .mv (.c (.it .i64 0))⟩]
noncomputable def r30_5 : List AO := [⟨some 15, none, .bin .lss (.t 14) (.t 13)⟩]
noncomputable def r30_6 : List AO := [⟨some 16, none, .iad 3 (.t 12) (.t 14)⟩,
  ⟨some 17, none, .ld true 3 (.t 16)⟩,
  ⟨some 6, none, .box 61 3 (.c (.agg [(.sl true 0 []), (.it .i64 0), (.sl true 0 [])]))⟩,
  ⟨none, none, .sto 3 (.t 6) (.t 17)⟩]
noncomputable def r30_7 : List AO := [⟨some 18, none, .mv (.t 4)⟩,
  ⟨some 19, none, .len (.t 18)⟩,
  ⟨some 20, none, .bin .sub (.t 19) (.c (.it .i64 1))⟩,
  ⟨some 7, none, .mv (.t 20)⟩]
noncomputable def r30_8 : List (AO × List Nat) := [(⟨some 21, none, .mv (.t 7)⟩, []),
  (⟨some 22, none, .bin .geq (.t 21) (.c (.it .i64 0))⟩, []),
  (⟨some 23, none, .mv (.t 22)⟩, []),
  (⟨some 24, some (23, true), .mv (.t 4)⟩, []),
  (⟨some 25, some (23, true), .mv (.t 7)⟩, []),
  (⟨some 26, some (23, true), .iad 3 (.t 24) (.t 25)⟩, []),
  (⟨some 27, some (23, true), .fad 0 (.t 26)⟩, []),
  (⟨some 28, some (23, true), .ld false 1 (.t 27)⟩, []),
  (⟨some 29, some (23, true), .fad 0 (.t 6)⟩, []),
  (⟨some 30, some (23, true), .ld false 1 (.t 29)⟩, []),
  (⟨some 31, some (23, true), .call 17 [(.t 28), (.t 30)]⟩, []),
  (⟨some 32, some (23, true), .eq false 1 (.t 31) (.c (.it .i64 0))⟩, []),
  (⟨some 33, none, .pick (.t 23) (.t 32) (.c (.bl false))⟩, [])]
noncomputable def r30_9 : List (AO × List Nat) := [(⟨some 34, none, .mv (.t 4)⟩, []),
  (⟨some 35, none, .mv (.t 7)⟩, []),
  (⟨some 36, none, .mv (.t 4)⟩, []),
  (⟨some 37, none, .mv (.t 7)⟩, []),
  (⟨some 38, none, .iad 3 (.t 36) (.t 37)⟩, []),
  (⟨some 39, none, .fad 1 (.t 38)⟩, []),
  (⟨some 40, none, .ld true 2 (.t 39)⟩, []),
  (⟨some 41, none, .fad 1 (.t 6)⟩, []),
  (⟨some 42, none, .ld true 2 (.t 41)⟩, []),
  (⟨some 43, none, .call 27 [(.t 40), (.t 42)]⟩, [0, 1]),
  (⟨some 44, none, .iad 3 (.t 34) (.t 35)⟩, []),
  (⟨some 45, none, .fad 1 (.t 44)⟩, []),
  (⟨none, none, .sto 2 (.t 45) (.t 43)⟩, [])]
noncomputable def r30_10 : List AO := [⟨some 46, none, .mv (.t 4)⟩,
  ⟨some 47, none, .ld true 3 (.t 6)⟩,
  ⟨some 48, none, .bsl 61 3 1 [(.sl true 0 []), (.it .i64 0), (.sl true 0 [])] [(0, 3, (.t 47))]⟩,
  ⟨some 49, none, .app 61 3 56 (.t 46) (.t 48)⟩,
  ⟨some 4, none, .mv (.t 49)⟩]
noncomputable def r30_11 : List AO := [⟨some 50, none, .bin .add (.t 14) (.c (.it .i64 1))⟩,
  ⟨some 14, none, .mv (.t 50)⟩]
noncomputable def r30_12 : List AO := [⟨some 51, none, .mv (.t 4)⟩,
  ⟨some 2, none, .mv (.t 51)⟩]
set_option maxRecDepth 1000000 in
noncomputable def c30 : AFn := ⟨52, [(2, none)],
  (.seq (.ops r30_0)
  (.seq (.ops r30_1)
  (.seq (.ops r30_2)
  (.seq (.ops r30_3)
  (.seq (.seq (.ops r30_4)
  (.block 0 (.loop (.seq (.ops r30_5)
  (.seq (.cond (.t 15) .skip
  (.exit 0))
  (.seq (.block 1 (.seq (.ops r30_6)
  (.seq (.seq (.ops r30_7)
  (.seq (.drw r30_8)
  (.cond (.t 33) (.seq (.drw r30_9)
  (.exit 1))
  .skip)))
  (.ops r30_10))))
  (.ops r30_11)))))))
  (.seq (.ops r30_12)
  .ret))))))⟩
set_option maxRecDepth 1000000 in
theorem t30 : trF Try.prog 30 = some c30 := by kernel_rfl
/-- regrater/regraterref23.Groups (0 l, 1 l, 3 out, 4 i, 5 k) -/
noncomputable def r31_0 : List AO := [⟨some 2, none, .mv (.c (.sl true 0 []))⟩]
noncomputable def r31_1 : List AO := [⟨some 3, none, .mv (.c (.sl true 0 []))⟩]
noncomputable def r31_2 : List AO := [⟨some 4, none, .mv (.c (.it .i64 0))⟩]
noncomputable def r31_3 : List AO := [⟨some 6, none, .mv (.t 4)⟩,
  ⟨some 7, none, .mv (.t 0)⟩,
  ⟨some 8, none, .len (.t 7)⟩,
  ⟨some 9, none, .bin .lss (.t 6) (.t 8)⟩]
noncomputable def r31_4 : List AO := [⟨some 5, none, .mv (.c (.it .i64 0))⟩]
noncomputable def r31_5 : List (AO × List Nat) := [(⟨some 12, none, .mv (.t 5)⟩, []),
  (⟨some 13, none, .mv (.t 3)⟩, []),
  (⟨some 14, none, .len (.t 13)⟩, []),
  (⟨some 15, none, .bin .lss (.t 12) (.t 14)⟩, []),
  (⟨some 16, none, .mv (.t 15)⟩, []),
  (⟨some 17, some (16, true), .mv (.t 3)⟩, []),
  (⟨some 18, some (16, true), .mv (.t 5)⟩, []),
  (⟨some 19, some (16, true), .iad 1 (.t 17) (.t 18)⟩, []),
  (⟨some 20, some (16, true), .ld false 1 (.t 19)⟩, []),
  (⟨some 21, some (16, true), .iad 2 (.t 20) (.c (.it .i64 0))⟩, []),
  (⟨some 22, some (16, true), .fad 0 (.t 21)⟩, []),
  (⟨some 23, some (16, true), .ld false 1 (.t 22)⟩, []),
  (⟨some 24, some (16, true), .mv (.t 0)⟩, []),
  (⟨some 25, some (16, true), .mv (.t 4)⟩, []),
  (⟨some 26, some (16, true), .iad 2 (.t 24) (.t 25)⟩, []),
  (⟨some 27, some (16, true), .fad 0 (.t 26)⟩, []),
  (⟨some 28, some (16, true), .ld false 1 (.t 27)⟩, []),
  (⟨some 29, some (16, true), .call 48 [(.t 23), (.t 28)]⟩, []),
  (⟨some 30, none, .pick (.t 16) (.t 29) (.c (.bl false))⟩, [])]
noncomputable def r31_6 : List AO := [⟨some 31, none, .mv (.t 5)⟩,
  ⟨some 32, none, .bin .add (.t 31) (.c (.it .i64 1))⟩,
  ⟨some 5, none, .mv (.t 32)⟩]
noncomputable def r31_7 : List (AO × List Nat) := [(⟨some 33, none, .mv (.t 5)⟩, []),
  (⟨some 34, none, .mv (.t 3)⟩, []),
  (⟨some 35, none, .len (.t 34)⟩, []),
  (⟨some 36, none, .bin .lss (.t 33) (.t 35)⟩, []),
  (⟨some 37, none, .mv (.t 36)⟩, []),
  (⟨some 38, some (37, true), .mv (.t 3)⟩, []),
  (⟨some 39, some (37, true), .mv (.t 5)⟩, []),
  (⟨some 40, some (37, true), .iad 1 (.t 38) (.t 39)⟩, []),
  (⟨some 41, some (37, true), .ld false 1 (.t 40)⟩, []),
  (⟨some 42, some (37, true), .iad 2 (.t 41) (.c (.it .i64 0))⟩, []),
  (⟨some 43, some (37, true), .fad 0 (.t 42)⟩, []),
  (⟨some 44, some (37, true), .ld false 1 (.t 43)⟩, []),
  (⟨some 45, some (37, true), .mv (.t 0)⟩, []),
  (⟨some 46, some (37, true), .mv (.t 4)⟩, []),
  (⟨some 47, some (37, true), .iad 2 (.t 45) (.t 46)⟩, []),
  (⟨some 48, some (37, true), .fad 0 (.t 47)⟩, []),
  (⟨some 49, some (37, true), .ld false 1 (.t 48)⟩, []),
  (⟨some 50, some (37, true), .call 20 [(.t 44), (.t 49)]⟩, []),
  (⟨some 51, none, .pick (.t 37) (.t 50) (.c (.bl false))⟩, [])]
noncomputable def r31_8 : List (AO × List Nat) := [(⟨some 52, none, .mv (.t 3)⟩, []),
  (⟨some 53, none, .mv (.t 5)⟩, []),
  (⟨some 54, none, .bsl 63 2 0 [(.sl true 0 []), (.sl true 0 [])] []⟩, [0, 1]),
  (⟨some 55, none, .mv (.t 3)⟩, [2]),
  (⟨some 56, none, .mv (.t 5)⟩, [2]),
  (⟨some 57, none, .iad 1 (.t 55) (.t 56)⟩, [2]),
  (⟨some 58, none, .ld false 1 (.t 57)⟩, [2]),
  (⟨some 59, none, .app 63 2 48 (.t 54) (.t 58)⟩, [0, 1]),
  (⟨some 60, none, .mv (.t 0)⟩, [2, 7]),
  (⟨some 61, none, .mv (.t 4)⟩, [2, 7]),
  (⟨some 62, none, .iad 2 (.t 60) (.t 61)⟩, [2, 7]),
  (⟨some 63, none, .ld true 2 (.t 62)⟩, [2, 7]),
  (⟨some 64, none, .bsl 63 2 1 [(.sl true 0 []), (.sl true 0 [])] [(0, 2, (.t 63))]⟩, [0, 1, 2, 3, 4, 5, 6, 7]),
  (⟨some 65, none, .app 63 2 48 (.t 59) (.t 64)⟩, [0, 1]),
  (⟨some 66, none, .iad 1 (.t 52) (.t 53)⟩, []),
  (⟨none, none, .sto 1 (.t 66) (.t 65)⟩, [])]
noncomputable def r31_9 : List (AO × List Nat) := [(⟨some 67, none, .bsl 77 1 0 [(.sl true 0 [])] []⟩, []),
  (⟨some 68, none, .mv (.t 3)⟩, [0]),
  (⟨some 69, none, .mv (.t 5)⟩, [0]),
  (⟨some 70, none, .sll 1 (.t 68) none (some (.t 69))⟩, [0]),
  (⟨some 71, none, .app 77 1 24 (.t 67) (.t 70)⟩, []),
  (⟨some 72, none, .mv (.t 0)⟩, [0, 3, 4]),
  (⟨some 73, none, .mv (.t 4)⟩, [0, 3, 4]),
  (⟨some 74, none, .iad 2 (.t 72) (.t 73)⟩, [0, 3, 4]),
  (⟨some 75, none, .ld true 2 (.t 74)⟩, [0, 3, 4]),
  (⟨some 76, none, .bsl 63 2 1 [(.sl true 0 []), (.sl true 0 [])] [(0, 2, (.t 75))]⟩, [0, 1, 2, 3, 4]),
  (⟨some 77, none, .bsl 77 1 1 [(.sl true 0 [])] [(0, 1, (.t 76))]⟩, [0, 1, 2, 3, 4]),
  (⟨some 78, none, .app 77 1 24 (.t 71) (.t 77)⟩, []),
  (⟨some 79, none, .mv (.t 3)⟩, [0, 3, 4, 9, 10, 11]),
  (⟨some 80, none, .mv (.t 5)⟩, [0, 3, 4, 9, 10, 11]),
  (⟨some 81, none, .sll 1 (.t 79) (some (.t 80)) none⟩, [0, 1, 2, 3, 4, 5, 6, 7, 8, 9, 10, 11]),
  (⟨some 82, none, .app 77 1 24 (.t 78) (.t 81)⟩, []),
  (⟨some 3, none, .mv (.t 82)⟩, [])]
noncomputable def r31_10 : List AO := [⟨some 10, none, .mv (.t 4)⟩,
  ⟨some 11, none, .bin .add (.t 10) (.c (.it .i64 1))⟩,
  ⟨some 4, none, .mv (.t 11)⟩]
noncomputable def r31_11 : List AO := [⟨some 83, none, .mv (.t 3)⟩,
  ⟨some 2, none, .mv (.t 83)⟩]
set_option maxRecDepth 1000000 in
noncomputable def c31 : AFn := ⟨84, [(2, none)],
  (.seq (.ops r31_0)
  (.seq (.ops r31_1)
  (.seq (.seq (.ops r31_2)
  (.block 0 (.loop (.seq (.seq (.ops r31_3)
  (.cond (.t 9) .skip
  (.exit 0)))
  (.seq (.block 1 (.seq (.ops r31_4)
  (.seq (.block 2 (.loop (.seq (.seq (.drw r31_5)
  (.cond (.t 30) .skip
  (.exit 2)))
  (.block 3 (.ops r31_6)))))
  (.seq (.seq (.drw r31_7)
  (.cond (.t 51) (.seq (.drw r31_8)
  (.exit 1))
  .skip))
  (.drw r31_9)))))
  (.ops r31_10))))))
  (.seq (.ops r31_11)
  .ret))))⟩
set_option maxRecDepth 1000000 in
theorem t31 : trF Try.prog 31 = some c31 := by kernel_rfl
/-- regrater/row.Key (0 r, 1 r, 3 l, 4 _, 5 v) -/
noncomputable def r32_0 : List AO := [⟨some 2, none, .mv (.c (.st []))⟩]
noncomputable def r32_1 : List AO := [⟨some 3, none, .mv (.c (.sl true 0 []))⟩]
noncomputable def r32_2 : List AO := [⟨some 6, none, .mv (.t 0)⟩,
  ⟨some 7, none, .len (.t 6)⟩,
  ⟨some 8, none, .mv (.c (.it .i64 0))⟩]
noncomputable def r32_3 : List AO := [⟨some 9, none, .bin .lss (.t 8) (.t 7)⟩]
noncomputable def r32_4 : List AO := [⟨some 10, none, .iad 3 (.t 6) (.t 8)⟩,
  ⟨some 11, none, .ld true 3 (.t 10)⟩,
  ⟨some 5, none, .box 88 3 (.c (.agg [(.it .i64 0), (.it .i64 0), (.st [])]))⟩,
  ⟨none, none, .sto 3 (.t 5) (.t 11)⟩]
noncomputable def r32_5 : List AO := [⟨some 12, none, .mv (.t 3)⟩,
  ⟨some 13, none, .ld true 3 (.t 5)⟩,
  ⟨some 14, none, .call 58 [(.t 13)]⟩,
  ⟨some 15, none, .bsl 9 1 1 [(.st [])] [(0, 1, (.t 14))]⟩,
  ⟨some 16, none, .app 9 1 16 (.t 12) (.t 15)⟩,
  ⟨some 3, none, .mv (.t 16)⟩]
noncomputable def r32_6 : List AO := [⟨some 17, none, .bin .add (.t 8) (.c (.it .i64 1))⟩,
  ⟨some 8, none, .mv (.t 17)⟩]
noncomputable def r32_7 : List AO := [⟨some 18, none, .mv (.t 3)⟩,
  ⟨some 19, none, .call 47 [(.t 18)]⟩,
  ⟨some 2, none, .mv (.t 19)⟩]
set_option maxRecDepth 1000000 in
noncomputable def c32 : AFn := ⟨20, [(2, none)],
  (.seq (.ops r32_0)
  (.seq (.ops r32_1)
  (.seq (.seq (.ops r32_2)
  (.block 0 (.loop (.seq (.ops r32_3)
  (.seq (.cond (.t 9) .skip
  (.exit 0))
  (.seq (.block 1 (.seq (.ops r32_4)
  (.ops r32_5)))
  (.ops r32_6)))))))
  (.seq (.ops r32_7)
  .ret))))⟩
set_option maxRecDepth 1000000 in
theorem t32 : trF Try.prog 32 = some c32 := by kernel_rfl
/-- regrater/regraterref07.Key (0 r, 1 r, 3 l, 4 i, 5 s) -/
noncomputable def r33_0 : List AO := [⟨some 2, none, .mv (.c (.st []))⟩]
noncomputable def r33_1 : List AO := [⟨some 3, none, .mv (.c (.sl true 0 []))⟩]
noncomputable def r33_2 : List AO := [⟨some 4, none, .mv (.c (.it .i64 0))⟩]
noncomputable def r33_3 : List AO := [⟨some 6, none, .mv (.t 4)⟩,
  ⟨some 7, none, .mv (.t 0)⟩,
  ⟨some 8, none, .len (.t 7)⟩,
  ⟨some 9, none, .bin .lss (.t 6) (.t 8)⟩]
noncomputable def r33_4 : List AO := [⟨some 12, none, .mv (.t 0)⟩,
  ⟨some 13, none, .mv (.t 4)⟩,
  ⟨some 14, none, .iad 3 (.t 12) (.t 13)⟩,
  ⟨some 15, none, .fad 0 (.t 14)⟩,
  ⟨some 16, none, .ld false 1 (.t 15)⟩,
  ⟨some 17, none, .cvi .u8 (.t 16)⟩,
  ⟨some 18, none, .bsl 5 1 1 [(.it .u8 0)] [(0, 1, (.t 17))]⟩,
  ⟨some 19, none, .b2s (.t 18)⟩,
  ⟨some 5, none, .mv (.t 19)⟩]
noncomputable def r33_5 : List AO := [⟨some 20, none, .mv (.t 0)⟩,
  ⟨some 21, none, .mv (.t 4)⟩,
  ⟨some 22, none, .iad 3 (.t 20) (.t 21)⟩,
  ⟨some 23, none, .fad 0 (.t 22)⟩,
  ⟨some 24, none, .ld false 1 (.t 23)⟩,
  ⟨some 25, none, .eq false 1 (.t 24) (.c (.it .i64 1))⟩]
noncomputable def r33_6 : List AO := [⟨some 26, none, .mv (.t 5)⟩,
  ⟨some 27, none, .mv (.t 0)⟩,
  ⟨some 28, none, .mv (.t 4)⟩,
  ⟨some 29, none, .iad 3 (.t 27) (.t 28)⟩,
  ⟨some 30, none, .fad 1 (.t 29)⟩,
  ⟨some 31, none, .ld false 1 (.t 30)⟩,
  ⟨some 32, none, .cvi .u8 (.t 31)⟩,
  ⟨some 33, none, .bsl 5 1 1 [(.it .u8 0)] [(0, 1, (.t 32))]⟩,
  ⟨some 34, none, .b2s (.t 33)⟩,
  ⟨some 35, none, .bin .add (.t 26) (.t 34)⟩,
  ⟨some 5, none, .mv (.t 35)⟩]
noncomputable def r33_7 : List AO := [⟨some 36, none, .mv (.t 0)⟩,
  ⟨some 37, none, .mv (.t 4)⟩,
  ⟨some 38, none, .iad 3 (.t 36) (.t 37)⟩,
  ⟨some 39, none, .fad 0 (.t 38)⟩,
  ⟨some 40, none, .ld false 1 (.t 39)⟩,
  ⟨some 41, none, .eq false 1 (.t 40) (.c (.it .i64 2))⟩]
noncomputable def r33_8 : List AO := [⟨some 42, none, .mv (.t 5)⟩,
  ⟨some 43, none, .mv (.t 0)⟩,
  ⟨some 44, none, .mv (.t 4)⟩,
  ⟨some 45, none, .iad 3 (.t 43) (.t 44)⟩,
  ⟨some 46, none, .fad 1 (.t 45)⟩,
  ⟨some 47, none, .ld false 1 (.t 46)⟩,
  ⟨some 48, none, .call 59 [(.t 47)]⟩,
  ⟨some 49, none, .bin .add (.t 42) (.t 48)⟩,
  ⟨some 5, none, .mv (.t 49)⟩]
noncomputable def r33_9 : List AO := [⟨some 50, none, .mv (.t 3)⟩,
  ⟨some 51, none, .mv (.t 5)⟩,
  ⟨some 52, none, .mv (.t 0)⟩,
  ⟨some 53, none, .mv (.t 4)⟩,
  ⟨some 54, none, .iad 3 (.t 52) (.t 53)⟩,
  ⟨some 55, none, .fad 2 (.t 54)⟩,
  ⟨some 56, none, .ld false 1 (.t 55)⟩,
  ⟨some 57, none, .bin .add (.t 51) (.t 56)⟩,
  ⟨some 58, none, .bsl 9 1 1 [(.st [])] [(0, 1, (.t 57))]⟩,
  ⟨some 59, none, .app 9 1 16 (.t 50) (.t 58)⟩,
  ⟨some 3, none, .mv (.t 59)⟩]
noncomputable def r33_10 : List AO := [⟨some 10, none, .mv (.t 4)⟩,
  ⟨some 11, none, .bin .add (.t 10) (.c (.it .i64 1))⟩,
  ⟨some 4, none, .mv (.t 11)⟩]
noncomputable def r33_11 : List AO := [⟨some 60, none, .mv (.t 3)⟩,
  ⟨some 61, none, .call 14 [(.t 60)]⟩,
  ⟨some 2, none, .mv (.t 61)⟩]
set_option maxRecDepth 1000000 in
noncomputable def c33 : AFn := ⟨62, [(2, none)],
  (.seq (.ops r33_0)
  (.seq (.ops r33_1)
  (.seq (.seq (.ops r33_2)
  (.block 0 (.loop (.seq (.seq (.ops r33_3)
  (.cond (.t 9) .skip
  (.exit 0)))
  (.seq (.block 1 (.seq (.ops r33_4)
  (.seq (.seq (.ops r33_5)
  (.cond (.t 25) (.ops r33_6)
  .skip))
  (.seq (.seq (.ops r33_7)
  (.cond (.t 41) (.ops r33_8)
  .skip))
  (.ops r33_9)))))
  (.ops r33_10))))))
  (.seq (.ops r33_11)
  .ret))))⟩
set_option maxRecDepth 1000000 in
theorem t33 : trF Try.prog 33 = some c33 := by kernel_rfl
/-- regrater/regraterlaw23.finals (0 p, 1 l, 2 p, 3 l, 5 op, 6 i, 7 v, 8 e, 9 w, 10 f, 11 v, 12 e) -/
noncomputable def r34_0 : List AO := [⟨some 2, none, .box 58 2 (.t 0)⟩,
  ⟨some 4, none, .mv (.c (.bl false))⟩]
noncomputable def r34_1 : List AO := [⟨some 5, none, .mv (.c (.it .i64 1))⟩]
noncomputable def r34_2 : List AO := [⟨some 13, none, .mv (.t 5)⟩,
  ⟨some 14, none, .bin .leq (.t 13) (.c (.it .i64 4))⟩]
noncomputable def r34_3 : List AO := [⟨some 6, none, .mv (.c (.it .i64 0))⟩]
noncomputable def r34_4 : List AO := [⟨some 17, none, .mv (.t 6)⟩,
  ⟨some 18, none, .bin .lss (.t 17) (.c (.it .i64 2))⟩]
noncomputable def r34_5 : List AO := [⟨some 22, none, .ld true 2 (.t 2)⟩,
  ⟨some 23, none, .mv (.t 5)⟩,
  ⟨some 24, none, .mv (.t 6)⟩,
  ⟨some 25, none, .call 51 [(.t 22), (.t 23), (.t 24)]⟩,
  ⟨some 21, none, .mv (.t 25)⟩,
  ⟨some 26, none, .ext (.t 21) 0⟩,
  ⟨some 27, none, .ext (.t 21) 1⟩,
  ⟨some 7, none, .box 88 3 (.c (.agg [(.it .i64 0), (.it .i64 0), (.st [])]))⟩,
  ⟨none, none, .sto 3 (.t 7) (.t 26)⟩,
  ⟨some 8, none, .mv (.t 27)⟩]
noncomputable def r34_6 : List AO := [⟨some 29, none, .mv (.t 1)⟩,
  ⟨some 30, none, .mv (.t 5)⟩,
  ⟨some 31, none, .mv (.t 6)⟩,
  ⟨some 32, none, .call 60 [(.t 29), (.t 30), (.t 31)]⟩,
  ⟨some 28, none, .mv (.t 32)⟩,
  ⟨some 33, none, .ext (.t 28) 0⟩,
  ⟨some 34, none, .ext (.t 28) 1⟩,
  ⟨some 9, none, .box 116 3 (.c (.agg [(.it .i64 0), (.it .i64 0), (.st [])]))⟩,
  ⟨none, none, .sto 3 (.t 9) (.t 33)⟩,
  ⟨some 10, none, .mv (.t 34)⟩]
noncomputable def r34_7 : List AO := [⟨some 35, none, .mv (.t 8)⟩,
  ⟨some 36, none, .mv (.t 10)⟩,
  ⟨some 37, none, .eq true 1 (.t 35) (.t 36)⟩,
  ⟨some 38, none, .mv (.t 37)⟩,
  ⟨some 39, some (38, false), .ld true 3 (.t 7)⟩,
  ⟨some 40, some (38, false), .ld true 3 (.t 9)⟩,
  ⟨some 41, some (38, false), .eqs true [1, 1, 2] (.t 39) (.t 40)⟩,
  ⟨some 42, none, .pick (.t 38) (.c (.bl true)) (.t 41)⟩]
noncomputable def r34_8 : List AO := [⟨some 4, none, .mv (.c (.bl false))⟩]
noncomputable def r34_9 : List AO := [⟨some 19, none, .mv (.t 6)⟩,
  ⟨some 20, none, .bin .add (.t 19) (.c (.it .i64 1))⟩,
  ⟨some 6, none, .mv (.t 20)⟩]
noncomputable def r34_10 : List AO := [⟨some 15, none, .mv (.t 5)⟩,
  ⟨some 16, none, .bin .add (.t 15) (.c (.it .i64 1))⟩,
  ⟨some 5, none, .mv (.t 16)⟩]
noncomputable def r34_11 : List AO := [⟨some 44, none, .ld true 2 (.t 2)⟩,
  ⟨some 45, none, .call 51 [(.t 44), (.c (.it .i64 1)), (.c (.it .i64 (-1)))]⟩,
  ⟨some 43, none, .mv (.t 45)⟩,
  ⟨some 46, none, .ext (.t 43) 0⟩,
  ⟨some 47, none, .ext (.t 43) 1⟩,
  ⟨some 11, none, .box 88 3 (.c (.agg [(.it .i64 0), (.it .i64 0), (.st [])]))⟩,
  ⟨none, none, .sto 3 (.t 11) (.t 46)⟩,
  ⟨some 12, none, .mv (.t 47)⟩]
noncomputable def r34_12 : List (AO × List Nat) := [(⟨some 48, none, .mv (.t 12)⟩, []),
  (⟨some 49, none, .eq false 1 (.t 48) (.c (.it .i64 0))⟩, []),
  (⟨some 50, none, .mv (.t 49)⟩, []),
  (⟨some 51, some (50, true), .ld true 3 (.t 11)⟩, []),
  (⟨some 52, some (50, true), .mv (.t 1)⟩, []),
  (⟨some 53, some (50, true), .len (.t 52)⟩, []),
  (⟨some 54, some (50, true), .call 36 [(.t 53)]⟩, [3]),
  (⟨some 55, some (50, true), .eqs false [1, 1, 2] (.t 51) (.t 54)⟩, []),
  (⟨some 56, none, .pick (.t 50) (.t 55) (.c (.bl false))⟩, []),
  (⟨some 57, none, .mv (.t 56)⟩, []),
  (⟨some 58, some (57, true), .fad 0 (.t 2)⟩, []),
  (⟨some 59, some (57, true), .ld false 1 (.t 58)⟩, []),
  (⟨some 60, some (57, true), .mv (.t 1)⟩, []),
  (⟨some 61, some (57, true), .len (.t 60)⟩, []),
  (⟨some 62, some (57, true), .eq false 1 (.t 59) (.t 61)⟩, []),
  (⟨some 63, none, .pick (.t 57) (.t 62) (.c (.bl false))⟩, []),
  (⟨some 64, none, .mv (.t 63)⟩, []),
  (⟨some 65, some (64, true), .fad 1 (.t 2)⟩, []),
  (⟨some 66, some (64, true), .ld false 1 (.t 65)⟩, []),
  (⟨some 67, some (64, true), .len (.t 66)⟩, []),
  (⟨some 68, some (64, true), .eq false 1 (.t 67) (.c (.it .i64 2))⟩, []),
  (⟨some 69, none, .pick (.t 64) (.t 68) (.c (.bl false))⟩, []),
  (⟨some 4, none, .mv (.t 69)⟩, [])]
set_option maxRecDepth 1000000 in
noncomputable def c34 : AFn := ⟨70, [(4, none)],
  (.seq (.ops r34_0)
  (.seq (.seq (.ops r34_1)
  (.block 0 (.loop (.seq (.seq (.ops r34_2)
  (.cond (.t 14) .skip
  (.exit 0)))
  (.seq (.block 1 (.seq (.ops r34_3)
  (.block 2 (.loop (.seq (.seq (.ops r34_4)
  (.cond (.t 18) .skip
  (.exit 2)))
  (.seq (.block 3 (.seq (.ops r34_5)
  (.seq (.ops r34_6)
  (.seq (.ops r34_7)
  (.cond (.t 42) (.seq (.ops r34_8)
  .ret)
  .skip)))))
  (.ops r34_9)))))))
  (.ops r34_10))))))
  (.seq (.ops r34_11)
  (.seq (.drw r34_12)
  .ret))))⟩
set_option maxRecDepth 1000000 in
theorem t34 : trF Try.prog 34 = some c34 := by kernel_rfl
/-- regrater/agg.Unpack (0 s, 1 s, 4 l, 5 e, 6 out, 7 i, 8 r, 9 e, 10 parts, 11 f, 12 p, 13 ok) -/
noncomputable def r35_0 : List AO := [⟨some 2, none, .mv (.c (.sl true 0 []))⟩,
  ⟨some 3, none, .mv (.c (.it .i64 0))⟩]
noncomputable def r35_1 : List AO := [⟨some 15, none, .mv (.t 0)⟩,
  ⟨some 16, none, .call 42 [(.t 15)]⟩,
  ⟨some 14, none, .mv (.t 16)⟩,
  ⟨some 17, none, .ext (.t 14) 0⟩,
  ⟨some 18, none, .ext (.t 14) 1⟩,
  ⟨some 4, none, .mv (.t 17)⟩,
  ⟨some 5, none, .mv (.t 18)⟩]
noncomputable def r35_2 : List AO := [⟨some 19, none, .mv (.t 5)⟩,
  ⟨some 20, none, .eq true 1 (.t 19) (.c (.it .i64 0))⟩]
noncomputable def r35_3 : List AO := [⟨some 21, none, .mv (.t 5)⟩,
  ⟨some 2, none, .mv (.c (.sl true 0 []))⟩,
  ⟨some 3, none, .mv (.t 21)⟩]
noncomputable def r35_4 : List AO := [⟨some 22, none, .mv (.t 4)⟩,
  ⟨some 23, none, .len (.t 22)⟩,
  ⟨some 24, none, .bin .rem (.t 23) (.c (.it .i64 2))⟩,
  ⟨some 25, none, .eq true 1 (.t 24) (.c (.it .i64 0))⟩]
noncomputable def r35_5 : List AO := [⟨some 2, none, .mv (.c (.sl true 0 []))⟩,
  ⟨some 3, none, .mv (.c (.it .i64 4))⟩]
noncomputable def r35_6 : List AO := [⟨some 6, none, .mv (.c (.sl true 0 []))⟩]
noncomputable def r35_7 : List AO := [⟨some 7, none, .mv (.c (.it .i64 0))⟩]
noncomputable def r35_8 : List AO := [⟨some 26, none, .mv (.t 7)⟩,
  ⟨some 27, none, .mv (.t 4)⟩,
  ⟨some 28, none, .len (.t 27)⟩,
  ⟨some 29, none, .bin .lss (.t 26) (.t 28)⟩]
noncomputable def r35_9 : List AO := [⟨some 33, none, .mv (.t 4)⟩,
  ⟨some 34, none, .mv (.t 7)⟩,
  ⟨some 35, none, .iad 1 (.t 33) (.t 34)⟩,
  ⟨some 36, none, .ld false 1 (.t 35)⟩,
  ⟨some 37, none, .call 16 [(.t 36)]⟩,
  ⟨some 32, none, .mv (.t 37)⟩,
  ⟨some 38, none, .ext (.t 32) 0⟩,
  ⟨some 39, none, .ext (.t 32) 1⟩,
  ⟨some 8, none, .mv (.t 38)⟩,
  ⟨some 9, none, .mv (.t 39)⟩]
noncomputable def r35_10 : List AO := [⟨some 41, none, .mv (.t 4)⟩,
  ⟨some 42, none, .mv (.t 7)⟩,
  ⟨some 43, none, .bin .add (.t 42) (.c (.it .i64 1))⟩,
  ⟨some 44, none, .iad 1 (.t 41) (.t 43)⟩,
  ⟨some 45, none, .ld false 1 (.t 44)⟩,
  ⟨some 46, none, .call 42 [(.t 45)]⟩,
  ⟨some 40, none, .mv (.t 46)⟩,
  ⟨some 47, none, .ext (.t 40) 0⟩,
  ⟨some 48, none, .ext (.t 40) 1⟩,
  ⟨some 10, none, .mv (.t 47)⟩,
  ⟨some 11, none, .mv (.t 48)⟩]
noncomputable def r35_11 : List AO := [⟨some 50, none, .mv (.t 10)⟩,
  ⟨some 51, none, .call 61 [(.t 50)]⟩,
  ⟨some 49, none, .mv (.t 51)⟩,
  ⟨some 52, none, .ext (.t 49) 0⟩,
  ⟨some 53, none, .ext (.t 49) 1⟩,
  ⟨some 12, none, .box 58 2 (.c (.agg [(.it .i64 0), (.sl true 0 [])]))⟩,
  ⟨none, none, .sto 2 (.t 12) (.t 52)⟩,
  ⟨some 13, none, .mv (.t 53)⟩]
noncomputable def r35_12 : List AO := [⟨some 54, none, .mv (.t 9)⟩,
  ⟨some 55, none, .eq true 1 (.t 54) (.c (.it .i64 0))⟩,
  ⟨some 56, none, .mv (.t 55)⟩,
  ⟨some 57, some (56, false), .mv (.t 11)⟩,
  ⟨some 58, some (56, false), .eq true 1 (.t 57) (.c (.it .i64 0))⟩,
  ⟨some 59, none, .pick (.t 56) (.c (.bl true)) (.t 58)⟩,
  ⟨some 60, none, .mv (.t 59)⟩,
  ⟨some 61, some (60, false), .mv (.t 13)⟩,
  ⟨some 62, some (60, false), .un .not (.t 61)⟩,
  ⟨some 63, none, .pick (.t 60) (.c (.bl true)) (.t 62)⟩]
noncomputable def r35_13 : List AO := [⟨some 2, none, .mv (.c (.sl true 0 []))⟩,
  ⟨some 3, none, .mv (.c (.it .i64 4))⟩]
noncomputable def r35_14 : List AO := [⟨some 64, none, .mv (.t 6)⟩,
  ⟨some 65, none, .mv (.t 8)⟩,
  ⟨some 66, none, .ld true 2 (.t 12)⟩,
  ⟨some 67, none, .bld [(.sl true 0 []), (.it .i64 0), (.sl true 0 [])] [(0, 1, (.t 65)), (1, 2, (.t 66))]⟩,
  ⟨some 68, none, .bsl 61 3 1 [(.sl true 0 []), (.it .i64 0), (.sl true 0 [])] [(0, 3, (.t 67))]⟩,
  ⟨some 69, none, .app 61 3 56 (.t 64) (.t 68)⟩,
  ⟨some 6, none, .mv (.t 69)⟩]
noncomputable def r35_15 : List AO := [⟨some 30, none, .mv (.t 7)⟩,
  ⟨some 31, none, .bin .add (.t 30) (.c (.it .i64 2))⟩,
  ⟨some 7, none, .mv (.t 31)⟩]
noncomputable def r35_16 : List AO := [⟨some 70, none, .mv (.t 6)⟩,
  ⟨some 2, none, .mv (.t 70)⟩,
  ⟨some 3, none, .mv (.c (.it .i64 0))⟩]
set_option maxRecDepth 1000000 in
noncomputable def c35 : AFn := ⟨71, [(2, none), (3, none)],
  (.seq (.ops r35_0)
  (.seq (.ops r35_1)
  (.seq (.seq (.ops r35_2)
  (.cond (.t 20) (.seq (.ops r35_3)
  .ret)
  .skip))
  (.seq (.seq (.ops r35_4)
  (.cond (.t 25) (.seq (.ops r35_5)
  .ret)
  .skip))
  (.seq (.ops r35_6)
  (.seq (.seq (.ops r35_7)
  (.block 0 (.loop (.seq (.seq (.ops r35_8)
  (.cond (.t 29) .skip
  (.exit 0)))
  (.seq (.block 1 (.seq (.ops r35_9)
  (.seq (.ops r35_10)
  (.seq (.ops r35_11)
  (.seq (.seq (.ops r35_12)
  (.cond (.t 63) (.seq (.ops r35_13)
  .ret)
  .skip))
  (.ops r35_14))))))
  (.ops r35_15))))))
  (.seq (.ops r35_16)
  .ret)))))))⟩
set_option maxRecDepth 1000000 in
theorem t35 : trF Try.prog 35 = some c35 := by kernel_rfl
/-- regrater/value.OfInt (0 n, 1 n) -/
noncomputable def r36_0 : List AO := [⟨some 2, none, .box 88 3 (.c (.agg [(.it .i64 0), (.it .i64 0), (.st [])]))⟩]
noncomputable def r36_1 : List AO := [⟨some 3, none, .mv (.t 0)⟩,
  ⟨some 4, none, .bld [(.it .i64 0), (.it .i64 0), (.st [])] [(0, 1, (.c (.it .i64 2))), (1, 1, (.t 3))]⟩,
  ⟨none, none, .sto 3 (.t 2) (.t 4)⟩]
set_option maxRecDepth 1000000 in
noncomputable def c36 : AFn := ⟨5, [(2, some 3)],
  (.seq (.ops r36_0)
  (.seq (.ops r36_1)
  .ret))⟩
set_option maxRecDepth 1000000 in
theorem t36 : trF Try.prog 36 = some c36 := by kernel_rfl
/-- (regrater/bag.Bag).Rows (0 b, 1 b, 3 out, 4 _, 5 r) -/
noncomputable def r37_0 : List AO := [⟨some 1, none, .box 31 1 (.t 0)⟩,
  ⟨some 2, none, .mv (.c (.sl true 0 []))⟩]
noncomputable def r37_1 : List AO := [⟨some 3, none, .mv (.c (.sl true 0 []))⟩]
noncomputable def r37_2 : List AO := [⟨some 6, none, .fad 0 (.t 1)⟩,
  ⟨some 7, none, .ld false 1 (.t 6)⟩,
  ⟨some 8, none, .len (.t 7)⟩,
  ⟨some 9, none, .mv (.c (.it .i64 0))⟩]
noncomputable def r37_3 : List AO := [⟨some 10, none, .bin .lss (.t 9) (.t 8)⟩]
noncomputable def r37_4 : List AO := [⟨some 11, none, .iad 1 (.t 7) (.t 9)⟩,
  ⟨some 12, none, .ld false 1 (.t 11)⟩,
  ⟨some 5, none, .mv (.t 12)⟩]
noncomputable def r37_5 : List AO := [⟨some 13, none, .mv (.t 3)⟩,
  ⟨some 14, none, .mv (.t 5)⟩,
  ⟨some 15, none, .call 62 [(.t 14)]⟩,
  ⟨some 16, none, .bsl 29 1 1 [(.sl true 0 [])] [(0, 1, (.t 15))]⟩,
  ⟨some 17, none, .app 29 1 24 (.t 13) (.t 16)⟩,
  ⟨some 3, none, .mv (.t 17)⟩]
noncomputable def r37_6 : List AO := [⟨some 18, none, .bin .add (.t 9) (.c (.it .i64 1))⟩,
  ⟨some 9, none, .mv (.t 18)⟩]
noncomputable def r37_7 : List AO := [⟨some 19, none, .mv (.t 3)⟩,
  ⟨some 2, none, .mv (.t 19)⟩]
set_option maxRecDepth 1000000 in
noncomputable def c37 : AFn := ⟨20, [(2, none)],
  (.seq (.ops r37_0)
  (.seq (.ops r37_1)
  (.seq (.seq (.ops r37_2)
  (.block 0 (.loop (.seq (.ops r37_3)
  (.seq (.cond (.t 10) .skip
  (.exit 0))
  (.seq (.block 1 (.seq (.ops r37_4)
  (.ops r37_5)))
  (.ops r37_6)))))))
  (.seq (.ops r37_7)
  .ret))))⟩
set_option maxRecDepth 1000000 in
theorem t37 : trF Try.prog 37 = some c37 := by kernel_rfl
/-- regrater/regraterlaw08.told (0 l, 1 l, 4 a, 5 b, 6 i, 7 v) -/
noncomputable def r38_0 : List AO := [⟨some 2, none, .mv (.c (.sl true 0 []))⟩,
  ⟨some 3, none, .mv (.c (.sl true 0 []))⟩]
noncomputable def r38_1 : List AO := [⟨some 4, none, .mv (.c (.sl true 0 []))⟩]
noncomputable def r38_2 : List AO := [⟨some 5, none, .mv (.c (.sl true 0 []))⟩]
noncomputable def r38_3 : List AO := [⟨some 6, none, .mv (.c (.it .i64 0))⟩]
noncomputable def r38_4 : List AO := [⟨some 8, none, .mv (.t 6)⟩,
  ⟨some 9, none, .mv (.t 0)⟩,
  ⟨some 10, none, .len (.t 9)⟩,
  ⟨some 11, none, .bin .lss (.t 8) (.t 10)⟩,
  ⟨some 12, none, .mv (.t 11)⟩,
  ⟨some 13, some (12, true), .mv (.t 6)⟩,
  ⟨some 14, some (12, true), .bin .lss (.t 13) (.c (.it .i64 4))⟩,
  ⟨some 15, none, .pick (.t 12) (.t 14) (.c (.bl false))⟩]
noncomputable def r38_5 : List AO := [⟨some 18, none, .mv (.t 0)⟩,
  ⟨some 19, none, .mv (.t 6)⟩,
  ⟨some 20, none, .iad 3 (.t 18) (.t 19)⟩,
  ⟨some 21, none, .fad 0 (.t 20)⟩,
  ⟨some 22, none, .ld false 1 (.t 21)⟩,
  ⟨some 23, none, .bin .rem (.t 22) (.c (.it .u8 4))⟩,
  ⟨some 24, none, .cvi .i64 (.t 23)⟩,
  ⟨some 25, none, .bld [(.it .i64 0), (.it .i64 0), (.st [])] [(0, 1, (.t 24))]⟩,
  ⟨some 7, none, .box 116 3 (.c (.agg [(.it .i64 0), (.it .i64 0), (.st [])]))⟩,
  ⟨none, none, .sto 3 (.t 7) (.t 25)⟩]
noncomputable def r38_6 : List AO := [⟨some 26, none, .fad 0 (.t 7)⟩,
  ⟨some 27, none, .ld false 1 (.t 26)⟩]
noncomputable def r38_7 : List AO := [⟨some 29, none, .eq false 1 (.t 27) (.c (.it .i64 1))⟩,
  ⟨some 28, none, .mv (.t 29)⟩]
noncomputable def r38_8 : List AO := [⟨some 30, none, .mv (.t 0)⟩,
  ⟨some 31, none, .mv (.t 6)⟩,
  ⟨some 32, none, .iad 3 (.t 30) (.t 31)⟩,
  ⟨some 33, none, .fad 1 (.t 32)⟩,
  ⟨some 34, none, .ld false 1 (.t 33)⟩,
  ⟨some 35, none, .bin .and (.t 34) (.c (.it .u8 1))⟩,
  ⟨some 36, none, .cvi .i64 (.t 35)⟩,
  ⟨some 37, none, .fad 1 (.t 7)⟩,
  ⟨none, none, .sto 1 (.t 37) (.t 36)⟩]
noncomputable def r38_9 : List AO := [⟨some 39, none, .eq false 1 (.t 27) (.c (.it .i64 2))⟩,
  ⟨some 38, none, .mv (.t 39)⟩]
noncomputable def r38_10 : List AO := [⟨some 40, none, .mv (.t 0)⟩,
  ⟨some 41, none, .mv (.t 6)⟩,
  ⟨some 42, none, .iad 3 (.t 40) (.t 41)⟩,
  ⟨some 43, none, .fad 1 (.t 42)⟩,
  ⟨some 44, none, .ld false 1 (.t 43)⟩,
  ⟨some 45, none, .cvi .i64 (.t 44)⟩,
  ⟨some 46, none, .fad 1 (.t 7)⟩,
  ⟨none, none, .sto 1 (.t 46) (.t 45)⟩]
noncomputable def r38_11 : List AO := [⟨some 48, none, .eq false 1 (.t 27) (.c (.it .i64 3))⟩,
  ⟨some 47, none, .mv (.t 48)⟩]
noncomputable def r38_12 : List (AO × List Nat) := [(⟨some 49, none, .mv (.t 0)⟩, []),
  (⟨some 50, none, .mv (.t 6)⟩, []),
  (⟨some 51, none, .iad 3 (.t 49) (.t 50)⟩, []),
  (⟨some 52, none, .fad 2 (.t 51)⟩, []),
  (⟨some 53, none, .ld false 1 (.t 52)⟩, []),
  (⟨some 54, none, .mv (.t 0)⟩, []),
  (⟨some 55, none, .mv (.t 6)⟩, []),
  (⟨some 56, none, .iad 3 (.t 54) (.t 55)⟩, []),
  (⟨some 57, none, .fad 2 (.t 56)⟩, []),
  (⟨some 58, none, .ld false 1 (.t 57)⟩, []),
  (⟨some 59, none, .lens (.t 58)⟩, []),
  (⟨some 60, none, .mnx false [(.t 59), (.c (.it .i64 64))]⟩, []),
  (⟨some 61, none, .sls (.t 53) none (some (.t 60))⟩, []),
  (⟨some 62, none, .fad 2 (.t 7)⟩, []),
  (⟨none, none, .sto 1 (.t 62) (.t 61)⟩, [])]
noncomputable def r38_13 : List (AO × List Nat) := [(⟨some 63, none, .mv (.t 4)⟩, []),
  (⟨some 64, none, .ld true 3 (.t 7)⟩, []),
  (⟨some 65, none, .bsl 88 3 1 [(.it .i64 0), (.it .i64 0), (.st [])] [(0, 3, (.t 64))]⟩, [0]),
  (⟨some 66, none, .app 88 3 32 (.t 63) (.t 65)⟩, []),
  (⟨some 67, none, .mv (.t 5)⟩, [2, 3]),
  (⟨some 68, none, .ld true 3 (.t 7)⟩, [2, 3]),
  (⟨some 69, none, .bsl 116 3 1 [(.it .i64 0), (.it .i64 0), (.st [])] [(0, 3, (.t 68))]⟩, [0, 1, 2, 3, 4]),
  (⟨some 70, none, .app 116 3 32 (.t 67) (.t 69)⟩, []),
  (⟨some 4, none, .mv (.t 66)⟩, []),
  (⟨some 5, none, .mv (.t 70)⟩, [])]
noncomputable def r38_14 : List AO := [⟨some 16, none, .mv (.t 6)⟩,
  ⟨some 17, none, .bin .add (.t 16) (.c (.it .i64 1))⟩,
  ⟨some 6, none, .mv (.t 17)⟩]
noncomputable def r38_15 : List AO := [⟨some 71, none, .mv (.t 4)⟩,
  ⟨some 72, none, .mv (.t 5)⟩,
  ⟨some 2, none, .mv (.t 71)⟩,
  ⟨some 3, none, .mv (.t 72)⟩]
set_option maxRecDepth 1000000 in
noncomputable def c38 : AFn := ⟨73, [(2, none), (3, none)],
  (.seq (.ops r38_0)
  (.seq (.ops r38_1)
  (.seq (.ops r38_2)
  (.seq (.seq (.ops r38_3)
  (.block 0 (.loop (.seq (.seq (.ops r38_4)
  (.cond (.t 15) .skip
  (.exit 0)))
  (.seq (.block 1 (.seq (.ops r38_5)
  (.seq (.seq (.ops r38_6)
  (.block 2 (.seq (.ops r38_7)
  (.cond (.t 28) (.ops r38_8)
  (.seq (.ops r38_9)
  (.cond (.t 38) (.ops r38_10)
  (.seq (.ops r38_11)
  (.cond (.t 47) (.drw r38_12)
  .skip))))))))
  (.drw r38_13))))
  (.ops r38_14))))))
  (.seq (.ops r38_15)
  .ret)))))⟩
set_option maxRecDepth 1000000 in
theorem t38 : trF Try.prog 38 = some c38 := by kernel_rfl
/-- regrater/row.Sort (0 l, 1 l) -/
noncomputable def r39_0 : List AO := [⟨some 2, none, .mv (.c (.sl true 0 []))⟩]
noncomputable def r39_1 : List AO := [⟨some 3, none, .mv (.t 0)⟩,
  ⟨some 4, none, .call 64 [(.t 3)]⟩,
  ⟨some 5, none, .call 63 [(.t 4), (.c (.fn (.func 17) [] []))]⟩,
  ⟨some 2, none, .mv (.t 5)⟩]
set_option maxRecDepth 1000000 in
noncomputable def c39 : AFn := ⟨6, [(2, none)],
  (.seq (.ops r39_0)
  (.seq (.ops r39_1)
  .ret))⟩
set_option maxRecDepth 1000000 in
theorem t39 : trF Try.prog 39 = some c39 := by kernel_rfl
/-- slices.EqualFunc[[]regrater/row.Row,[]regrater/row.Row,regrater/row.Row,regrater/row.Row] (0 s1, 1 s2, 2 eq, 3 s1, 4 s2, 5 eq, 7 i, 8 v1, 9 v2) -/
noncomputable def r40_0 : List AO := [⟨some 6, none, .mv (.c (.bl false))⟩]
noncomputable def r40_1 : List AO := [⟨some 10, none, .mv (.t 0)⟩,
  ⟨some 11, none, .len (.t 10)⟩,
  ⟨some 12, none, .mv (.t 1)⟩,
  ⟨some 13, none, .len (.t 12)⟩,
  ⟨some 14, none, .eq true 1 (.t 11) (.t 13)⟩]
noncomputable def r40_2 : List AO := [⟨some 6, none, .mv (.c (.bl false))⟩]
noncomputable def r40_3 : List AO := [⟨some 15, none, .mv (.t 0)⟩,
  ⟨some 16, none, .len (.t 15)⟩,
  ⟨some 17, none, .mv (.c (.it .i64 0))⟩]
noncomputable def r40_4 : List AO := [⟨some 18, none, .bin .lss (.t 17) (.t 16)⟩]
noncomputable def r40_5 : List AO := [⟨some 19, none, .mv (.t 17)⟩,
  ⟨some 20, none, .iad 1 (.t 15) (.t 17)⟩,
  ⟨some 21, none, .ld false 1 (.t 20)⟩,
  ⟨some 7, none, .mv (.t 19)⟩,
  ⟨some 8, none, .mv (.t 21)⟩]
noncomputable def r40_6 : List AO := [⟨some 22, none, .mv (.t 1)⟩,
  ⟨some 23, none, .mv (.t 7)⟩,
  ⟨some 24, none, .iad 1 (.t 22) (.t 23)⟩,
  ⟨some 25, none, .ld false 1 (.t 24)⟩,
  ⟨some 9, none, .mv (.t 25)⟩]
noncomputable def r40_7 : List AO := [⟨some 26, none, .mv (.t 2)⟩,
  ⟨some 27, none, .mv (.t 8)⟩,
  ⟨some 28, none, .mv (.t 9)⟩,
  ⟨some 29, none, .calv (.t 26) [(.t 27), (.t 28)]⟩,
  ⟨some 30, none, .un .not (.t 29)⟩]
noncomputable def r40_8 : List AO := [⟨some 6, none, .mv (.c (.bl false))⟩]
noncomputable def r40_9 : List AO := [⟨some 31, none, .bin .add (.t 17) (.c (.it .i64 1))⟩,
  ⟨some 17, none, .mv (.t 31)⟩]
noncomputable def r40_10 : List AO := [⟨some 6, none, .mv (.c (.bl true))⟩]
set_option maxRecDepth 1000000 in
noncomputable def c40 : AFn := ⟨32, [(6, none)],
  (.seq (.ops r40_0)
  (.seq (.seq (.ops r40_1)
  (.cond (.t 14) (.seq (.ops r40_2)
  .ret)
  .skip))
  (.seq (.seq (.ops r40_3)
  (.block 0 (.loop (.seq (.ops r40_4)
  (.seq (.cond (.t 18) .skip
  (.exit 0))
  (.seq (.block 1 (.seq (.ops r40_5)
  (.seq (.ops r40_6)
  (.seq (.ops r40_7)
  (.cond (.t 30) (.seq (.ops r40_8)
  .ret)
  .skip)))))
  (.ops r40_9)))))))
  (.seq (.ops r40_10)
  .ret))))⟩
set_option maxRecDepth 1000000 in
theorem t40 : trF Try.prog 40 = some c40 := by kernel_rfl
/-- regrater/bag.Same$1 (0 x, 1 y, 2 x, 3 y) -/
noncomputable def r41_0 : List AO := [⟨some 4, none, .mv (.c (.bl false))⟩]
noncomputable def r41_1 : List AO := [⟨some 5, none, .mv (.t 0)⟩,
  ⟨some 6, none, .mv (.t 1)⟩,
  ⟨some 7, none, .call 17 [(.t 5), (.t 6)]⟩,
  ⟨some 8, none, .eq false 1 (.t 7) (.c (.it .i64 0))⟩,
  ⟨some 4, none, .mv (.t 8)⟩]
set_option maxRecDepth 1000000 in
noncomputable def c41 : AFn := ⟨9, [(4, none)],
  (.seq (.ops r41_0)
  (.seq (.ops r41_1)
  .ret))⟩
set_option maxRecDepth 1000000 in
theorem t41 : trF Try.prog 41 = some c41 := by kernel_rfl
/-- regrater/pack.Split (0 s, 1 s, 4 out, 5 text, 6 rest, 7 ok) -/
noncomputable def r42_0 : List AO := [⟨some 2, none, .mv (.c (.sl true 0 []))⟩,
  ⟨some 3, none, .mv (.c (.it .i64 0))⟩]
noncomputable def r42_1 : List AO := [⟨some 4, none, .mv (.c (.sl true 0 []))⟩]
noncomputable def r42_2 : List AO := [⟨some 8, none, .mv (.t 0)⟩,
  ⟨some 9, none, .eq true 2 (.t 8) (.c (.st []))⟩]
noncomputable def r42_3 : List AO := [⟨some 11, none, .mv (.t 0)⟩,
  ⟨some 12, none, .call 65 [(.t 11)]⟩,
  ⟨some 10, none, .mv (.t 12)⟩,
  ⟨some 13, none, .ext (.t 10) 0⟩,
  ⟨some 14, none, .ext (.t 10) 1⟩,
  ⟨some 15, none, .ext (.t 10) 2⟩,
  ⟨some 5, none, .mv (.t 13)⟩,
  ⟨some 6, none, .mv (.t 14)⟩,
  ⟨some 7, none, .mv (.t 15)⟩]
noncomputable def r42_4 : List AO := [⟨some 16, none, .mv (.t 7)⟩,
  ⟨some 17, none, .un .not (.t 16)⟩]
noncomputable def r42_5 : List AO := [⟨some 2, none, .mv (.c (.sl true 0 []))⟩,
  ⟨some 3, none, .mv (.c (.it .i64 2))⟩]
noncomputable def r42_6 : List AO := [⟨some 18, none, .mv (.t 4)⟩,
  ⟨some 19, none, .mv (.t 5)⟩,
  ⟨some 20, none, .bsl 9 1 1 [(.st [])] [(0, 1, (.t 19))]⟩,
  ⟨some 21, none, .app 9 1 16 (.t 18) (.t 20)⟩,
  ⟨some 22, none, .mv (.t 6)⟩,
  ⟨some 4, none, .mv (.t 21)⟩,
  ⟨some 0, none, .mv (.t 22)⟩]
noncomputable def r42_7 : List AO := [⟨some 23, none, .mv (.t 4)⟩,
  ⟨some 2, none, .mv (.t 23)⟩,
  ⟨some 3, none, .mv (.c (.it .i64 0))⟩]
set_option maxRecDepth 1000000 in
noncomputable def c42 : AFn := ⟨24, [(2, none), (3, none)],
  (.seq (.ops r42_0)
  (.seq (.ops r42_1)
  (.seq (.block 0 (.loop (.seq (.seq (.ops r42_2)
  (.cond (.t 9) .skip
  (.exit 0)))
  (.block 1 (.seq (.ops r42_3)
  (.seq (.seq (.ops r42_4)
  (.cond (.t 17) (.seq (.ops r42_5)
  .ret)
  .skip))
  (.ops r42_6)))))))
  (.seq (.ops r42_7)
  .ret))))⟩
set_option maxRecDepth 1000000 in
theorem t42 : trF Try.prog 42 = some c42 := by kernel_rfl
/-- slices.IsSortedFunc[[]regrater/row.Row,regrater/row.Row] (0 x, 1 cmp, 2 x, 3 cmp, 5 i) -/
noncomputable def r43_0 : List AO := [⟨some 4, none, .mv (.c (.bl false))⟩]
noncomputable def r43_1 : List AO := [⟨some 6, none, .mv (.t 0)⟩,
  ⟨some 7, none, .len (.t 6)⟩,
  ⟨some 8, none, .bin .sub (.t 7) (.c (.it .i64 1))⟩,
  ⟨some 5, none, .mv (.t 8)⟩]
noncomputable def r43_2 : List AO := [⟨some 9, none, .mv (.t 5)⟩,
  ⟨some 10, none, .bin .gtr (.t 9) (.c (.it .i64 0))⟩]
noncomputable def r43_3 : List (AO × List Nat) := [(⟨some 13, none, .mv (.t 1)⟩, []),
  (⟨some 14, none, .mv (.t 0)⟩, []),
  (⟨some 15, none, .mv (.t 5)⟩, []),
  (⟨some 16, none, .iad 1 (.t 14) (.t 15)⟩, []),
  (⟨some 17, none, .ld false 1 (.t 16)⟩, []),
  (⟨some 18, none, .mv (.t 0)⟩, []),
  (⟨some 19, none, .mv (.t 5)⟩, []),
  (⟨some 20, none, .bin .sub (.t 19) (.c (.it .i64 1))⟩, []),
  (⟨some 21, none, .iad 1 (.t 18) (.t 20)⟩, []),
  (⟨some 22, none, .ld false 1 (.t 21)⟩, []),
  (⟨some 23, none, .calv (.t 13) [(.t 17), (.t 22)]⟩, []),
  (⟨some 24, none, .bin .lss (.t 23) (.c (.it .i64 0))⟩, [])]
noncomputable def r43_4 : List AO := [⟨some 4, none, .mv (.c (.bl false))⟩]
noncomputable def r43_5 : List AO := [⟨some 11, none, .mv (.t 5)⟩,
  ⟨some 12, none, .bin .sub (.t 11) (.c (.it .i64 1))⟩,
  ⟨some 5, none, .mv (.t 12)⟩]
noncomputable def r43_6 : List AO := [⟨some 4, none, .mv (.c (.bl true))⟩]
set_option maxRecDepth 1000000 in
noncomputable def c43 : AFn := ⟨25, [(4, none)],
  (.seq (.ops r43_0)
  (.seq (.seq (.ops r43_1)
  (.block 0 (.loop (.seq (.seq (.ops r43_2)
  (.cond (.t 10) .skip
  (.exit 0)))
  (.seq (.block 1 (.seq (.drw r43_3)
  (.cond (.t 24) (.seq (.ops r43_4)
  .ret)
  .skip)))
  (.ops r43_5))))))
  (.seq (.ops r43_6)
  .ret)))⟩
set_option maxRecDepth 1000000 in
theorem t43 : trF Try.prog 43 = some c43 := by kernel_rfl
/-- regrater/row.read (0 s, 1 s, 4 rest, 5 v, 6 n, 7 ok) -/
noncomputable def r44_0 : List AO := [⟨some 2, none, .box 88 3 (.c (.agg [(.it .i64 0), (.it .i64 0), (.st [])]))⟩,
  ⟨some 3, none, .mv (.c (.bl false))⟩]
noncomputable def r44_1 : List AO := [⟨some 8, none, .mv (.t 0)⟩,
  ⟨some 9, none, .eq false 2 (.t 8) (.c (.st []))⟩]
noncomputable def r44_2 : List AO := [⟨some 10, none, .bld [(.it .i64 0), (.it .i64 0), (.st [])] []⟩,
  ⟨none, none, .sto 3 (.t 2) (.t 10)⟩,
  ⟨some 3, none, .mv (.c (.bl false))⟩]
noncomputable def r44_3 : List AO := [⟨some 11, none, .mv (.t 0)⟩,
  ⟨some 12, none, .sls (.t 11) (some (.c (.it .i64 1))) none⟩,
  ⟨some 4, none, .mv (.t 12)⟩]
noncomputable def r44_4 : List AO := [⟨some 13, none, .mv (.t 0)⟩,
  ⟨some 14, none, .idxs (.t 13) (.c (.it .i64 0))⟩,
  ⟨some 15, none, .cvi .i64 (.t 14)⟩,
  ⟨some 16, none, .bld [(.it .i64 0), (.it .i64 0), (.st [])] [(0, 1, (.t 15))]⟩,
  ⟨some 5, none, .box 88 3 (.c (.agg [(.it .i64 0), (.it .i64 0), (.st [])]))⟩,
  ⟨none, none, .sto 3 (.t 5) (.t 16)⟩]
noncomputable def r44_5 : List AO := [⟨some 17, none, .fad 0 (.t 5)⟩,
  ⟨some 18, none, .ld false 1 (.t 17)⟩]
noncomputable def r44_6 : List AO := [⟨some 22, none, .eq false 1 (.t 18) (.c (.it .i64 0))⟩,
  ⟨some 21, none, .mv (.t 22)⟩]
noncomputable def r44_7 : List AO := [⟨some 23, none, .ld true 3 (.t 5)⟩,
  ⟨some 24, none, .mv (.t 4)⟩,
  ⟨some 25, none, .eq false 2 (.t 24) (.c (.st []))⟩,
  ⟨none, none, .sto 3 (.t 2) (.t 23)⟩,
  ⟨some 3, none, .mv (.t 25)⟩]
noncomputable def r44_8 : List AO := [⟨some 27, none, .eq false 1 (.t 18) (.c (.it .i64 1))⟩,
  ⟨some 26, none, .mv (.t 27)⟩]
noncomputable def r44_9 : List AO := [⟨some 28, none, .mv (.t 4)⟩,
  ⟨some 29, none, .lens (.t 28)⟩,
  ⟨some 30, none, .eq true 1 (.t 29) (.c (.it .i64 1))⟩]
noncomputable def r44_10 : List AO := [⟨some 31, none, .ld true 3 (.t 5)⟩,
  ⟨none, none, .sto 3 (.t 2) (.t 31)⟩,
  ⟨some 3, none, .mv (.c (.bl false))⟩]
noncomputable def r44_11 : List AO := [⟨some 32, none, .mv (.t 4)⟩,
  ⟨some 33, none, .idxs (.t 32) (.c (.it .i64 0))⟩,
  ⟨some 34, none, .cvi .i64 (.t 33)⟩,
  ⟨some 35, none, .fad 1 (.t 5)⟩,
  ⟨none, none, .sto 1 (.t 35) (.t 34)⟩]
noncomputable def r44_12 : List AO := [⟨some 37, none, .eq false 1 (.t 18) (.c (.it .i64 2))⟩,
  ⟨some 36, none, .mv (.t 37)⟩]
noncomputable def r44_13 : List AO := [⟨some 39, none, .mv (.t 4)⟩,
  ⟨some 40, none, .call 66 [(.t 39)]⟩,
  ⟨some 38, none, .mv (.t 40)⟩,
  ⟨some 41, none, .ext (.t 38) 0⟩,
  ⟨some 42, none, .ext (.t 38) 1⟩,
  ⟨some 6, none, .mv (.t 41)⟩,
  ⟨some 7, none, .mv (.t 42)⟩]
noncomputable def r44_14 : List AO := [⟨some 43, none, .mv (.t 7)⟩,
  ⟨some 44, none, .un .not (.t 43)⟩]
noncomputable def r44_15 : List AO := [⟨some 45, none, .ld true 3 (.t 5)⟩,
  ⟨none, none, .sto 3 (.t 2) (.t 45)⟩,
  ⟨some 3, none, .mv (.c (.bl false))⟩]
noncomputable def r44_16 : List AO := [⟨some 46, none, .mv (.t 6)⟩,
  ⟨some 47, none, .fad 1 (.t 5)⟩,
  ⟨none, none, .sto 1 (.t 47) (.t 46)⟩]
noncomputable def r44_17 : List AO := [⟨some 19, none, .mv (.t 4)⟩,
  ⟨some 20, none, .fad 2 (.t 5)⟩,
  ⟨none, none, .sto 1 (.t 20) (.t 19)⟩]
noncomputable def r44_18 : List (AO × List Nat) := [(⟨some 48, none, .ld true 3 (.t 5)⟩, []),
  (⟨some 49, none, .ld true 3 (.t 5)⟩, []),
  (⟨some 50, none, .call 67 [(.t 49)]⟩, [0]),
  (⟨none, none, .sto 3 (.t 2) (.t 48)⟩, []),
  (⟨some 3, none, .mv (.t 50)⟩, [])]
set_option maxRecDepth 1000000 in
noncomputable def c44 : AFn := ⟨51, [(2, some 3), (3, none)],
  (.seq (.ops r44_0)
  (.seq (.seq (.ops r44_1)
  (.cond (.t 9) (.seq (.ops r44_2)
  .ret)
  .skip))
  (.seq (.ops r44_3)
  (.seq (.ops r44_4)
  (.seq (.seq (.ops r44_5)
  (.block 0 (.seq (.ops r44_6)
  (.cond (.t 21) (.seq (.ops r44_7)
  .ret)
  (.seq (.ops r44_8)
  (.cond (.t 26) (.seq (.seq (.ops r44_9)
  (.cond (.t 30) (.seq (.ops r44_10)
  .ret)
  .skip))
  (.ops r44_11))
  (.seq (.ops r44_12)
  (.cond (.t 36) (.seq (.ops r44_13)
  (.seq (.seq (.ops r44_14)
  (.cond (.t 44) (.seq (.ops r44_15)
  .ret)
  .skip))
  (.ops r44_16)))
  (.ops r44_17)))))))))
  (.seq (.drw r44_18)
  .ret))))))⟩
set_option maxRecDepth 1000000 in
theorem t44 : trF Try.prog 44 = some c44 := by kernel_rfl
/-- slices.CompareFunc[regrater/row.Row,regrater/row.Row,regrater/value.Value,regrater/value.Value] (0 s1, 1 s2, 2 cmp, 3 s1, 4 s2, 5 cmp, 7 i, 8 v1, 9 v2, 10 c) -/
noncomputable def r45_0 : List AO := [⟨some 6, none, .mv (.c (.it .i64 0))⟩]
noncomputable def r45_1 : List AO := [⟨some 11, none, .mv (.t 0)⟩,
  ⟨some 12, none, .len (.t 11)⟩,
  ⟨some 13, none, .mv (.c (.it .i64 0))⟩]
noncomputable def r45_2 : List AO := [⟨some 14, none, .bin .lss (.t 13) (.t 12)⟩]
noncomputable def r45_3 : List AO := [⟨some 15, none, .mv (.t 13)⟩,
  ⟨some 16, none, .iad 3 (.t 11) (.t 13)⟩,
  ⟨some 17, none, .ld true 3 (.t 16)⟩,
  ⟨some 8, none, .box 88 3 (.c (.agg [(.it .i64 0), (.it .i64 0), (.st [])]))⟩,
  ⟨some 7, none, .mv (.t 15)⟩,
  ⟨none, none, .sto 3 (.t 8) (.t 17)⟩]
noncomputable def r45_4 : List AO := [⟨some 18, none, .mv (.t 7)⟩,
  ⟨some 19, none, .mv (.t 1)⟩,
  ⟨some 20, none, .len (.t 19)⟩,
  ⟨some 21, none, .bin .geq (.t 18) (.t 20)⟩]
noncomputable def r45_5 : List AO := [⟨some 6, none, .mv (.c (.it .i64 1))⟩]
noncomputable def r45_6 : List AO := [⟨some 22, none, .mv (.t 1)⟩,
  ⟨some 23, none, .mv (.t 7)⟩,
  ⟨some 24, none, .iad 3 (.t 22) (.t 23)⟩,
  ⟨some 25, none, .ld true 3 (.t 24)⟩,
  ⟨some 9, none, .box 88 3 (.c (.agg [(.it .i64 0), (.it .i64 0), (.st [])]))⟩,
  ⟨none, none, .sto 3 (.t 9) (.t 25)⟩]
noncomputable def r45_7 : List AO := [⟨some 26, none, .mv (.t 2)⟩,
  ⟨some 27, none, .ld true 3 (.t 8)⟩,
  ⟨some 28, none, .ld true 3 (.t 9)⟩,
  ⟨some 29, none, .calv (.t 26) [(.t 27), (.t 28)]⟩,
  ⟨some 10, none, .mv (.t 29)⟩]
noncomputable def r45_8 : List AO := [⟨some 30, none, .mv (.t 10)⟩,
  ⟨some 31, none, .eq true 1 (.t 30) (.c (.it .i64 0))⟩]
noncomputable def r45_9 : List AO := [⟨some 32, none, .mv (.t 10)⟩,
  ⟨some 6, none, .mv (.t 32)⟩]
noncomputable def r45_10 : List AO := [⟨some 33, none, .bin .add (.t 13) (.c (.it .i64 1))⟩,
  ⟨some 13, none, .mv (.t 33)⟩]
noncomputable def r45_11 : List AO := [⟨some 34, none, .mv (.t 0)⟩,
  ⟨some 35, none, .len (.t 34)⟩,
  ⟨some 36, none, .mv (.t 1)⟩,
  ⟨some 37, none, .len (.t 36)⟩,
  ⟨some 38, none, .bin .lss (.t 35) (.t 37)⟩]
noncomputable def r45_12 : List AO := [⟨some 6, none, .mv (.c (.it .i64 (-1)))⟩]
noncomputable def r45_13 : List AO := [⟨some 6, none, .mv (.c (.it .i64 0))⟩]
set_option maxRecDepth 1000000 in
noncomputable def c45 : AFn := ⟨39, [(6, none)],
  (.seq (.ops r45_0)
  (.seq (.seq (.ops r45_1)
  (.block 0 (.loop (.seq (.ops r45_2)
  (.seq (.cond (.t 14) .skip
  (.exit 0))
  (.seq (.block 1 (.seq (.ops r45_3)
  (.seq (.seq (.ops r45_4)
  (.cond (.t 21) (.seq (.ops r45_5)
  .ret)
  .skip))
  (.seq (.ops r45_6)
  (.seq (.ops r45_7)
  (.seq (.ops r45_8)
  (.cond (.t 31) (.seq (.ops r45_9)
  .ret)
  .skip)))))))
  (.ops r45_10)))))))
  (.seq (.seq (.ops r45_11)
  (.cond (.t 38) (.seq (.ops r45_12)
  .ret)
  .skip))
  (.seq (.ops r45_13)
  .ret))))⟩
set_option maxRecDepth 1000000 in
theorem t45 : trF Try.prog 45 = some c45 := by kernel_rfl
/-- regrater/value.Compare (0 a, 1 b, 2 a, 3 b) -/
noncomputable def r46_0 : List AO := [⟨some 2, none, .box 88 3 (.t 0)⟩,
  ⟨some 3, none, .box 88 3 (.t 1)⟩,
  ⟨some 4, none, .mv (.c (.it .i64 0))⟩]
noncomputable def r46_1 : List (AO × List Nat) := [(⟨some 5, none, .fad 0 (.t 2)⟩, []),
  (⟨some 6, none, .ld false 1 (.t 5)⟩, []),
  (⟨some 7, none, .fad 0 (.t 3)⟩, []),
  (⟨some 8, none, .ld false 1 (.t 7)⟩, []),
  (⟨some 9, none, .call 69 [(.t 6), (.t 8)]⟩, []),
  (⟨some 10, none, .fad 1 (.t 2)⟩, [4]),
  (⟨some 11, none, .ld false 1 (.t 10)⟩, [4]),
  (⟨some 12, none, .fad 1 (.t 3)⟩, [4]),
  (⟨some 13, none, .ld false 1 (.t 12)⟩, [4]),
  (⟨some 14, none, .call 70 [(.t 11), (.t 13)]⟩, []),
  (⟨some 15, none, .fad 2 (.t 2)⟩, [4, 9]),
  (⟨some 16, none, .ld false 1 (.t 15)⟩, [4, 9]),
  (⟨some 17, none, .fad 2 (.t 3)⟩, [4, 9]),
  (⟨some 18, none, .ld false 1 (.t 17)⟩, [4, 9]),
  (⟨some 19, none, .call 71 [(.t 16), (.t 18)]⟩, []),
  (⟨some 20, none, .bsl 3 1 3 [(.it .i64 0)] [(0, 1, (.t 9)), (1, 1, (.t 14)), (2, 1, (.t 19))]⟩, []),
  (⟨some 21, none, .call 68 [(.t 20)]⟩, []),
  (⟨some 4, none, .mv (.t 21)⟩, [])]
set_option maxRecDepth 1000000 in
noncomputable def c46 : AFn := ⟨22, [(4, none)],
  (.seq (.ops r46_0)
  (.seq (.drw r46_1)
  .ret))⟩
set_option maxRecDepth 1000000 in
theorem t46 : trF Try.prog 46 = some c46 := by kernel_rfl
/-- regrater/pack.Pack (0 l, 1 l, 3 b, 4 _, 5 s) -/
noncomputable def r47_0 : List AO := [⟨some 2, none, .mv (.c (.st []))⟩]
noncomputable def r47_1 : List AO := [⟨some 3, none, .mv (.c (.sl true 0 []))⟩]
noncomputable def r47_2 : List AO := [⟨some 6, none, .mv (.t 0)⟩,
  ⟨some 7, none, .len (.t 6)⟩,
  ⟨some 8, none, .mv (.c (.it .i64 0))⟩]
noncomputable def r47_3 : List AO := [⟨some 9, none, .bin .lss (.t 8) (.t 7)⟩]
noncomputable def r47_4 : List AO := [⟨some 10, none, .iad 1 (.t 6) (.t 8)⟩,
  ⟨some 11, none, .ld false 1 (.t 10)⟩,
  ⟨some 5, none, .mv (.t 11)⟩]
noncomputable def r47_5 : List AO := [⟨some 12, none, .mv (.t 3)⟩,
  ⟨some 13, none, .mv (.t 5)⟩,
  ⟨some 14, none, .lens (.t 13)⟩,
  ⟨some 15, none, .cvi .u64 (.t 14)⟩,
  ⟨some 16, none, .call 72 [(.t 15), (.c (.it .i64 4))]⟩,
  ⟨some 17, none, .app 5 1 1 (.t 12) (.t 16)⟩,
  ⟨some 3, none, .mv (.t 17)⟩]
noncomputable def r47_6 : List AO := [⟨some 18, none, .mv (.t 3)⟩,
  ⟨some 19, none, .mv (.t 5)⟩,
  ⟨some 20, none, .apps 5 (.t 18) (.t 19)⟩,
  ⟨some 3, none, .mv (.t 20)⟩]
noncomputable def r47_7 : List AO := [⟨some 21, none, .bin .add (.t 8) (.c (.it .i64 1))⟩,
  ⟨some 8, none, .mv (.t 21)⟩]
noncomputable def r47_8 : List AO := [⟨some 22, none, .mv (.t 3)⟩,
  ⟨some 23, none, .b2s (.t 22)⟩,
  ⟨some 2, none, .mv (.t 23)⟩]
set_option maxRecDepth 1000000 in
noncomputable def c47 : AFn := ⟨24, [(2, none)],
  (.seq (.ops r47_0)
  (.seq (.ops r47_1)
  (.seq (.seq (.ops r47_2)
  (.block 0 (.loop (.seq (.ops r47_3)
  (.seq (.cond (.t 9) .skip
  (.exit 0))
  (.seq (.block 1 (.seq (.ops r47_4)
  (.seq (.ops r47_5)
  (.ops r47_6))))
  (.ops r47_7)))))))
  (.seq (.ops r47_8)
  .ret))))⟩
set_option maxRecDepth 1000000 in
theorem t47 : trF Try.prog 47 = some c47 := by kernel_rfl
/-- regrater/regraterref07.Before (0 a, 1 b, 2 a, 3 b, 5 i) -/
noncomputable def r48_0 : List AO := [⟨some 4, none, .mv (.c (.bl false))⟩]
noncomputable def r48_1 : List AO := [⟨some 5, none, .mv (.c (.it .i64 0))⟩]
noncomputable def r48_2 : List AO := [⟨some 6, none, .mv (.t 5)⟩,
  ⟨some 7, none, .mv (.t 0)⟩,
  ⟨some 8, none, .len (.t 7)⟩,
  ⟨some 9, none, .bin .lss (.t 6) (.t 8)⟩,
  ⟨some 10, none, .mv (.t 9)⟩,
  ⟨some 11, some (10, true), .mv (.t 5)⟩,
  ⟨some 12, some (10, true), .mv (.t 1)⟩,
  ⟨some 13, some (10, true), .len (.t 12)⟩,
  ⟨some 14, some (10, true), .bin .lss (.t 11) (.t 13)⟩,
  ⟨some 15, none, .pick (.t 10) (.t 14) (.c (.bl false))⟩]
noncomputable def r48_3 : List (AO × List Nat) := [(⟨some 18, none, .mv (.t 0)⟩, []),
  (⟨some 19, none, .mv (.t 5)⟩, []),
  (⟨some 20, none, .iad 3 (.t 18) (.t 19)⟩, []),
  (⟨some 21, none, .ld true 3 (.t 20)⟩, []),
  (⟨some 22, none, .mv (.t 1)⟩, []),
  (⟨some 23, none, .mv (.t 5)⟩, []),
  (⟨some 24, none, .iad 3 (.t 22) (.t 23)⟩, []),
  (⟨some 25, none, .ld true 3 (.t 24)⟩, []),
  (⟨some 26, none, .eqs true [1, 1, 2] (.t 21) (.t 25)⟩, [])]
noncomputable def r48_4 : List (AO × List Nat) := [(⟨some 27, none, .mv (.t 0)⟩, []),
  (⟨some 28, none, .mv (.t 5)⟩, []),
  (⟨some 29, none, .iad 3 (.t 27) (.t 28)⟩, []),
  (⟨some 30, none, .ld true 3 (.t 29)⟩, []),
  (⟨some 31, none, .mv (.t 1)⟩, []),
  (⟨some 32, none, .mv (.t 5)⟩, []),
  (⟨some 33, none, .iad 3 (.t 31) (.t 32)⟩, []),
  (⟨some 34, none, .ld true 3 (.t 33)⟩, []),
  (⟨some 35, none, .call 73 [(.t 30), (.t 34)]⟩, []),
  (⟨some 4, none, .mv (.t 35)⟩, [])]
noncomputable def r48_5 : List AO := [⟨some 16, none, .mv (.t 5)⟩,
  ⟨some 17, none, .bin .add (.t 16) (.c (.it .i64 1))⟩,
  ⟨some 5, none, .mv (.t 17)⟩]
noncomputable def r48_6 : List AO := [⟨some 36, none, .mv (.t 0)⟩,
  ⟨some 37, none, .len (.t 36)⟩,
  ⟨some 38, none, .mv (.t 1)⟩,
  ⟨some 39, none, .len (.t 38)⟩,
  ⟨some 40, none, .bin .lss (.t 37) (.t 39)⟩,
  ⟨some 4, none, .mv (.t 40)⟩]
set_option maxRecDepth 1000000 in
noncomputable def c48 : AFn := ⟨41, [(4, none)],
  (.seq (.ops r48_0)
  (.seq (.seq (.ops r48_1)
  (.block 0 (.loop (.seq (.seq (.ops r48_2)
  (.cond (.t 15) .skip
  (.exit 0)))
  (.seq (.block 1 (.seq (.drw r48_3)
  (.cond (.t 26) (.seq (.drw r48_4)
  .ret)
  .skip)))
  (.ops r48_5))))))
  (.seq (.ops r48_6)
  .ret)))⟩
set_option maxRecDepth 1000000 in
theorem t48 : trF Try.prog 48 = some c48 := by kernel_rfl
/-- (regrater/bag.Bag).All (0 b, 1 b) -/
noncomputable def r49_0 : List AO := [⟨some 1, none, .box 31 1 (.t 0)⟩,
  ⟨some 2, none, .mv (.c .nfn)⟩]
noncomputable def r49_1 : List AO := [⟨some 3, none, .mkf (.func 74) [] [(.t 1)]⟩,
  ⟨some 2, none, .mv (.t 3)⟩]
set_option maxRecDepth 1000000 in
noncomputable def c49 : AFn := ⟨4, [(2, none)],
  (.seq (.ops r49_0)
  (.seq (.ops r49_1)
  .ret))⟩
set_option maxRecDepth 1000000 in
theorem t49 : trF Try.prog 49 = some c49 := by kernel_rfl
/-- regrater/agg.Of (0 l, 1 l, 3 p, 4 _, 5 v, 6 x) -/
noncomputable def r50_0 : List AO := [⟨some 2, none, .box 58 2 (.c (.agg [(.it .i64 0), (.sl true 0 [])]))⟩]
noncomputable def r50_1 : List AO := [⟨some 7, none, .bld [(.it .i64 0), (.sl true 0 [])] [(0, 1, (.c (.it .i64 1)))]⟩,
  ⟨some 3, none, .box 58 2 (.c (.agg [(.it .i64 0), (.sl true 0 [])]))⟩,
  ⟨none, none, .sto 2 (.t 3) (.t 7)⟩]
noncomputable def r50_2 : List AO := [⟨some 8, none, .mv (.t 0)⟩,
  ⟨some 9, none, .len (.t 8)⟩,
  ⟨some 10, none, .mv (.c (.it .i64 0))⟩]
noncomputable def r50_3 : List AO := [⟨some 11, none, .bin .lss (.t 10) (.t 9)⟩]
noncomputable def r50_4 : List AO := [⟨some 12, none, .iad 3 (.t 8) (.t 10)⟩,
  ⟨some 13, none, .ld true 3 (.t 12)⟩,
  ⟨some 5, none, .box 88 3 (.c (.agg [(.it .i64 0), (.it .i64 0), (.st [])]))⟩,
  ⟨none, none, .sto 3 (.t 5) (.t 13)⟩]
noncomputable def r50_5 : List AO := [⟨some 6, none, .box 115 9 (.c (.agg [(.it .i64 0), (.it .i64 0), (.it .u64 0), (.it .i64 0), (.it .i64 0), (.st []), (.it .i64 0), (.it .i64 0), (.st [])]))⟩]
noncomputable def r50_6 : List AO := [⟨some 14, none, .fad 0 (.t 5)⟩,
  ⟨some 15, none, .ld false 1 (.t 14)⟩,
  ⟨some 16, none, .eq true 1 (.t 15) (.c (.it .i64 0))⟩]
noncomputable def r50_7 : List AO := [⟨some 17, none, .ld true 3 (.t 5)⟩,
  ⟨some 18, none, .ld true 3 (.t 5)⟩,
  ⟨some 19, none, .bld [(.it .i64 0), (.it .i64 0), (.it .u64 0), (.it .i64 0), (.it .i64 0), (.st []), (.it .i64 0), (.it .i64 0), (.st [])] [(0, 1, (.c (.it .i64 1))), (3, 3, (.t 17)), (6, 3, (.t 18))]⟩,
  ⟨none, none, .sto 9 (.t 6) (.t 19)⟩]
noncomputable def r50_8 : List AO := [⟨some 20, none, .fad 0 (.t 5)⟩,
  ⟨some 21, none, .ld false 1 (.t 20)⟩,
  ⟨some 22, none, .eq false 1 (.t 21) (.c (.it .i64 2))⟩]
noncomputable def r50_9 : List AO := [⟨some 23, none, .fad 1 (.t 5)⟩,
  ⟨some 24, none, .ld false 1 (.t 23)⟩,
  ⟨some 25, none, .call 75 [(.t 24)]⟩,
  ⟨some 26, none, .fad 1 (.t 6)⟩,
  ⟨none, none, .sto 2 (.t 26) (.t 25)⟩]
noncomputable def r50_10 : List AO := [⟨some 27, none, .fad 1 (.t 3)⟩,
  ⟨some 28, none, .ld false 1 (.t 27)⟩,
  ⟨some 29, none, .ld true 9 (.t 6)⟩,
  ⟨some 30, none, .bsl 115 9 1 [(.it .i64 0), (.it .i64 0), (.it .u64 0), (.it .i64 0), (.it .i64 0), (.st []), (.it .i64 0), (.it .i64 0), (.st [])] [(0, 9, (.t 29))]⟩,
  ⟨some 31, none, .app 115 9 88 (.t 28) (.t 30)⟩,
  ⟨some 32, none, .fad 1 (.t 3)⟩,
  ⟨none, none, .sto 1 (.t 32) (.t 31)⟩]
noncomputable def r50_11 : List AO := [⟨some 33, none, .bin .add (.t 10) (.c (.it .i64 1))⟩,
  ⟨some 10, none, .mv (.t 33)⟩]
noncomputable def r50_12 : List AO := [⟨some 34, none, .ld true 2 (.t 3)⟩,
  ⟨none, none, .sto 2 (.t 2) (.t 34)⟩]
set_option maxRecDepth 1000000 in
noncomputable def c50 : AFn := ⟨35, [(2, some 2)],
  (.seq (.ops r50_0)
  (.seq (.ops r50_1)
  (.seq (.seq (.ops r50_2)
  (.block 0 (.loop (.seq (.ops r50_3)
  (.seq (.cond (.t 11) .skip
  (.exit 0))
  (.seq (.block 1 (.seq (.ops r50_4)
  (.seq (.ops r50_5)
  (.seq (.seq (.ops r50_6)
  (.cond (.t 16) (.ops r50_7)
  .skip))
  (.seq (.seq (.ops r50_8)
  (.cond (.t 22) (.ops r50_9)
  .skip))
  (.ops r50_10))))))
  (.ops r50_11)))))))
  (.seq (.ops r50_12)
  .ret))))⟩
set_option maxRecDepth 1000000 in
theorem t50 : trF Try.prog 50 = some c50 := by kernel_rfl
/-- (regrater/agg.Part).Final (0 p, 1 op, 2 i, 3 p, 4 op, 5 i, 8 x, 9 n, 10 ok) -/
noncomputable def r51_0 : List AO := [⟨some 3, none, .box 58 2 (.t 0)⟩,
  ⟨some 6, none, .box 88 3 (.c (.agg [(.it .i64 0), (.it .i64 0), (.st [])]))⟩,
  ⟨some 7, none, .mv (.c (.it .i64 0))⟩]
noncomputable def r51_1 : List AO := [⟨some 11, none, .mv (.t 2)⟩,
  ⟨some 12, none, .bin .lss (.t 11) (.c (.it .i64 0))⟩]
noncomputable def r51_2 : List AO := [⟨some 13, none, .fad 0 (.t 3)⟩,
  ⟨some 14, none, .ld false 1 (.t 13)⟩,
  ⟨some 15, none, .call 36 [(.t 14)]⟩,
  ⟨none, none, .sto 3 (.t 6) (.t 15)⟩,
  ⟨some 7, none, .mv (.c (.it .i64 0))⟩]
noncomputable def r51_3 : List AO := [⟨some 16, none, .fad 1 (.t 3)⟩,
  ⟨some 17, none, .ld false 1 (.t 16)⟩,
  ⟨some 18, none, .mv (.t 2)⟩,
  ⟨some 19, none, .iad 9 (.t 17) (.t 18)⟩,
  ⟨some 20, none, .ld true 9 (.t 19)⟩,
  ⟨some 8, none, .box 115 9 (.c (.agg [(.it .i64 0), (.it .i64 0), (.it .u64 0), (.it .i64 0), (.it .i64 0), (.st []), (.it .i64 0), (.it .i64 0), (.st [])]))⟩,
  ⟨none, none, .sto 9 (.t 8) (.t 20)⟩]
noncomputable def r51_4 : List AO := [⟨some 21, none, .mv (.t 1)⟩]
noncomputable def r51_5 : List AO := [⟨some 23, none, .eq false 1 (.t 21) (.c (.it .i64 1))⟩,
  ⟨some 22, none, .mv (.t 23)⟩]
noncomputable def r51_6 : List AO := [⟨some 24, none, .fad 0 (.t 8)⟩,
  ⟨some 25, none, .ld false 1 (.t 24)⟩,
  ⟨some 26, none, .call 36 [(.t 25)]⟩,
  ⟨none, none, .sto 3 (.t 6) (.t 26)⟩,
  ⟨some 7, none, .mv (.c (.it .i64 0))⟩]
noncomputable def r51_7 : List AO := [⟨some 28, none, .eq false 1 (.t 21) (.c (.it .i64 3))⟩,
  ⟨some 27, none, .mv (.t 28)⟩]
noncomputable def r51_8 : List AO := [⟨some 29, none, .fad 3 (.t 8)⟩,
  ⟨some 30, none, .ld true 3 (.t 29)⟩,
  ⟨none, none, .sto 3 (.t 6) (.t 30)⟩,
  ⟨some 7, none, .mv (.c (.it .i64 0))⟩]
noncomputable def r51_9 : List AO := [⟨some 32, none, .eq false 1 (.t 21) (.c (.it .i64 4))⟩,
  ⟨some 31, none, .mv (.t 32)⟩]
noncomputable def r51_10 : List AO := [⟨some 33, none, .fad 6 (.t 8)⟩,
  ⟨some 34, none, .ld true 3 (.t 33)⟩,
  ⟨none, none, .sto 3 (.t 6) (.t 34)⟩,
  ⟨some 7, none, .mv (.c (.it .i64 0))⟩]
noncomputable def r51_11 : List AO := [⟨some 35, none, .fad 0 (.t 8)⟩,
  ⟨some 36, none, .ld false 1 (.t 35)⟩,
  ⟨some 37, none, .eq false 1 (.t 36) (.c (.it .i64 0))⟩]
noncomputable def r51_12 : List AO := [⟨some 38, none, .bld [(.it .i64 0), (.it .i64 0), (.st [])] []⟩,
  ⟨none, none, .sto 3 (.t 6) (.t 38)⟩,
  ⟨some 7, none, .mv (.c (.it .i64 0))⟩]
noncomputable def r51_13 : List AO := [⟨some 40, none, .fad 1 (.t 8)⟩,
  ⟨some 41, none, .ld true 2 (.t 40)⟩,
  ⟨some 42, none, .call 76 [(.t 41)]⟩,
  ⟨some 39, none, .mv (.t 42)⟩,
  ⟨some 43, none, .ext (.t 39) 0⟩,
  ⟨some 44, none, .ext (.t 39) 1⟩,
  ⟨some 9, none, .mv (.t 43)⟩,
  ⟨some 10, none, .mv (.t 44)⟩]
noncomputable def r51_14 : List AO := [⟨some 45, none, .mv (.t 10)⟩,
  ⟨some 46, none, .un .not (.t 45)⟩]
noncomputable def r51_15 : List AO := [⟨some 47, none, .bld [(.it .i64 0), (.it .i64 0), (.st [])] []⟩,
  ⟨none, none, .sto 3 (.t 6) (.t 47)⟩,
  ⟨some 7, none, .mv (.c (.it .i64 8))⟩]
noncomputable def r51_16 : List AO := [⟨some 48, none, .mv (.t 9)⟩,
  ⟨some 49, none, .call 36 [(.t 48)]⟩,
  ⟨none, none, .sto 3 (.t 6) (.t 49)⟩,
  ⟨some 7, none, .mv (.c (.it .i64 0))⟩]
set_option maxRecDepth 1000000 in
noncomputable def c51 : AFn := ⟨50, [(6, some 3), (7, none)],
  (.seq (.ops r51_0)
  (.seq (.seq (.ops r51_1)
  (.cond (.t 12) (.seq (.ops r51_2)
  .ret)
  .skip))
  (.seq (.ops r51_3)
  (.seq (.seq (.ops r51_4)
  (.block 0 (.seq (.ops r51_5)
  (.cond (.t 22) (.seq (.ops r51_6)
  .ret)
  (.seq (.ops r51_7)
  (.cond (.t 27) (.seq (.ops r51_8)
  .ret)
  (.seq (.ops r51_9)
  (.cond (.t 31) (.seq (.ops r51_10)
  .ret)
  .skip))))))))
  (.seq (.seq (.ops r51_11)
  (.cond (.t 37) (.seq (.ops r51_12)
  .ret)
  .skip))
  (.seq (.ops r51_13)
  (.seq (.seq (.ops r51_14)
  (.cond (.t 46) (.seq (.ops r51_15)
  .ret)
  .skip))
  (.seq (.ops r51_16)
  .ret))))))))⟩
set_option maxRecDepth 1000000 in
theorem t51 : trF Try.prog 51 = some c51 := by kernel_rfl
/-- regrater/regraterlaw23.of (0 x, 1 x, 4 v) -/
noncomputable def r52_0 : List AO := [⟨some 1, none, .box 67 3 (.t 0)⟩,
  ⟨some 2, none, .box 88 3 (.c (.agg [(.it .i64 0), (.it .i64 0), (.st [])]))⟩,
  ⟨some 3, none, .box 116 3 (.c (.agg [(.it .i64 0), (.it .i64 0), (.st [])]))⟩]
noncomputable def r52_1 : List AO := [⟨some 5, none, .fad 0 (.t 1)⟩,
  ⟨some 6, none, .ld false 1 (.t 5)⟩,
  ⟨some 7, none, .bin .rem (.t 6) (.c (.it .u8 4))⟩,
  ⟨some 8, none, .cvi .i64 (.t 7)⟩,
  ⟨some 9, none, .bld [(.it .i64 0), (.it .i64 0), (.st [])] [(0, 1, (.t 8))]⟩,
  ⟨some 4, none, .box 116 3 (.c (.agg [(.it .i64 0), (.it .i64 0), (.st [])]))⟩,
  ⟨none, none, .sto 3 (.t 4) (.t 9)⟩]
noncomputable def r52_2 : List AO := [⟨some 10, none, .fad 0 (.t 4)⟩,
  ⟨some 11, none, .ld false 1 (.t 10)⟩]
noncomputable def r52_3 : List AO := [⟨some 13, none, .eq false 1 (.t 11) (.c (.it .i64 1))⟩,
  ⟨some 12, none, .mv (.t 13)⟩]
noncomputable def r52_4 : List AO := [⟨some 14, none, .fad 1 (.t 1)⟩,
  ⟨some 15, none, .ld false 1 (.t 14)⟩,
  ⟨some 16, none, .bin .and (.t 15) (.c (.it .i64 1))⟩,
  ⟨some 17, none, .fad 1 (.t 4)⟩,
  ⟨none, none, .sto 1 (.t 17) (.t 16)⟩]
noncomputable def r52_5 : List AO := [⟨some 19, none, .eq false 1 (.t 11) (.c (.it .i64 2))⟩,
  ⟨some 18, none, .mv (.t 19)⟩]
noncomputable def r52_6 : List AO := [⟨some 20, none, .fad 1 (.t 1)⟩,
  ⟨some 21, none, .ld false 1 (.t 20)⟩,
  ⟨some 22, none, .fad 1 (.t 4)⟩,
  ⟨none, none, .sto 1 (.t 22) (.t 21)⟩]
noncomputable def r52_7 : List AO := [⟨some 24, none, .eq false 1 (.t 11) (.c (.it .i64 3))⟩,
  ⟨some 23, none, .mv (.t 24)⟩]
noncomputable def r52_8 : List AO := [⟨some 25, none, .fad 2 (.t 1)⟩,
  ⟨some 26, none, .ld false 1 (.t 25)⟩,
  ⟨some 27, none, .fad 2 (.t 1)⟩,
  ⟨some 28, none, .ld false 1 (.t 27)⟩,
  ⟨some 29, none, .lens (.t 28)⟩,
  ⟨some 30, none, .mnx false [(.t 29), (.c (.it .i64 64))]⟩,
  ⟨some 31, none, .sls (.t 26) none (some (.t 30))⟩,
  ⟨some 32, none, .fad 2 (.t 4)⟩,
  ⟨none, none, .sto 1 (.t 32) (.t 31)⟩]
noncomputable def r52_9 : List (AO × List Nat) := [(⟨some 33, none, .ld true 3 (.t 4)⟩, []),
  (⟨some 34, none, .ld true 3 (.t 4)⟩, []),
  (⟨none, none, .sto 3 (.t 2) (.t 33)⟩, [1]),
  (⟨none, none, .sto 3 (.t 3) (.t 34)⟩, [])]
set_option maxRecDepth 1000000 in
noncomputable def c52 : AFn := ⟨35, [(2, some 3), (3, some 3)],
  (.seq (.ops r52_0)
  (.seq (.ops r52_1)
  (.seq (.seq (.ops r52_2)
  (.block 0 (.seq (.ops r52_3)
  (.cond (.t 12) (.ops r52_4)
  (.seq (.ops r52_5)
  (.cond (.t 18) (.ops r52_6)
  (.seq (.ops r52_7)
  (.cond (.t 23) (.ops r52_8)
  .skip))))))))
  (.seq (.drw r52_9)
  .ret))))⟩
set_option maxRecDepth 1000000 in
theorem t52 : trF Try.prog 52 = some c52 := by kernel_rfl
/-- (regrater/agg.One).plus (0 x, 1 y, 2 x, 3 y, 5 out) -/
noncomputable def r53_0 : List AO := [⟨some 2, none, .box 115 9 (.t 0)⟩,
  ⟨some 3, none, .box 115 9 (.t 1)⟩,
  ⟨some 4, none, .box 115 9 (.c (.agg [(.it .i64 0), (.it .i64 0), (.it .u64 0), (.it .i64 0), (.it .i64 0), (.st []), (.it .i64 0), (.it .i64 0), (.st [])]))⟩]
noncomputable def r53_1 : List AO := [⟨some 7, none, .fad 0 (.t 2)⟩,
  ⟨some 8, none, .ld false 1 (.t 7)⟩,
  ⟨some 9, none, .eq false 1 (.t 8) (.c (.it .i64 0))⟩,
  ⟨some 6, none, .mv (.t 9)⟩]
noncomputable def r53_2 : List AO := [⟨some 10, none, .ld true 9 (.t 3)⟩,
  ⟨none, none, .sto 9 (.t 4) (.t 10)⟩]
noncomputable def r53_3 : List AO := [⟨some 12, none, .fad 0 (.t 3)⟩,
  ⟨some 13, none, .ld false 1 (.t 12)⟩,
  ⟨some 14, none, .eq false 1 (.t 13) (.c (.it .i64 0))⟩,
  ⟨some 11, none, .mv (.t 14)⟩]
noncomputable def r53_4 : List AO := [⟨some 15, none, .ld true 9 (.t 2)⟩,
  ⟨none, none, .sto 9 (.t 4) (.t 15)⟩]
noncomputable def r53_5 : List (AO × List Nat) := [(⟨some 16, none, .fad 0 (.t 2)⟩, []),
  (⟨some 17, none, .ld false 1 (.t 16)⟩, []),
  (⟨some 18, none, .fad 0 (.t 3)⟩, []),
  (⟨some 19, none, .ld false 1 (.t 18)⟩, []),
  (⟨some 20, none, .bin .add (.t 17) (.t 19)⟩, []),
  (⟨some 21, none, .fad 1 (.t 2)⟩, []),
  (⟨some 22, none, .ld true 2 (.t 21)⟩, []),
  (⟨some 23, none, .fad 1 (.t 3)⟩, []),
  (⟨some 24, none, .ld true 2 (.t 23)⟩, []),
  (⟨some 25, none, .bsl 113 2 2 [(.it .i64 0), (.it .u64 0)] [(0, 2, (.t 22)), (2, 2, (.t 24))]⟩, [0, 1, 2, 3, 4]),
  (⟨some 26, none, .call 77 [(.t 25)]⟩, [0, 1, 2, 3, 4]),
  (⟨some 27, none, .fad 3 (.t 2)⟩, [9, 10]),
  (⟨some 28, none, .ld true 3 (.t 27)⟩, [9, 10]),
  (⟨some 29, none, .fad 6 (.t 2)⟩, [9, 10]),
  (⟨some 30, none, .ld true 3 (.t 29)⟩, [9, 10]),
  (⟨some 31, none, .bld [(.it .i64 0), (.it .i64 0), (.it .u64 0), (.it .i64 0), (.it .i64 0), (.st []), (.it .i64 0), (.it .i64 0), (.st [])] [(0, 1, (.t 20)), (1, 2, (.t 26)), (3, 3, (.t 28)), (6, 3, (.t 30))]⟩, []),
  (⟨some 5, none, .box 115 9 (.c (.agg [(.it .i64 0), (.it .i64 0), (.it .u64 0), (.it .i64 0), (.it .i64 0), (.st []), (.it .i64 0), (.it .i64 0), (.st [])]))⟩, [0, 1, 2, 3, 4, 5, 6, 7, 8, 9, 10, 11, 12, 13, 14, 15]),
  (⟨none, none, .sto 9 (.t 5) (.t 31)⟩, [])]
noncomputable def r53_6 : List AO := [⟨some 32, none, .fad 3 (.t 3)⟩,
  ⟨some 33, none, .ld true 3 (.t 32)⟩,
  ⟨some 34, none, .fad 3 (.t 5)⟩,
  ⟨some 35, none, .ld true 3 (.t 34)⟩,
  ⟨some 36, none, .call 46 [(.t 33), (.t 35)]⟩,
  ⟨some 37, none, .bin .lss (.t 36) (.c (.it .i64 0))⟩]
noncomputable def r53_7 : List AO := [⟨some 38, none, .fad 3 (.t 3)⟩,
  ⟨some 39, none, .ld true 3 (.t 38)⟩,
  ⟨some 40, none, .fad 3 (.t 5)⟩,
  ⟨none, none, .sto 3 (.t 40) (.t 39)⟩]
noncomputable def r53_8 : List AO := [⟨some 41, none, .fad 6 (.t 3)⟩,
  ⟨some 42, none, .ld true 3 (.t 41)⟩,
  ⟨some 43, none, .fad 6 (.t 5)⟩,
  ⟨some 44, none, .ld true 3 (.t 43)⟩,
  ⟨some 45, none, .call 46 [(.t 42), (.t 44)]⟩,
  ⟨some 46, none, .bin .gtr (.t 45) (.c (.it .i64 0))⟩]
noncomputable def r53_9 : List AO := [⟨some 47, none, .fad 6 (.t 3)⟩,
  ⟨some 48, none, .ld true 3 (.t 47)⟩,
  ⟨some 49, none, .fad 6 (.t 5)⟩,
  ⟨none, none, .sto 3 (.t 49) (.t 48)⟩]
noncomputable def r53_10 : List AO := [⟨some 50, none, .ld true 9 (.t 5)⟩,
  ⟨none, none, .sto 9 (.t 4) (.t 50)⟩]
set_option maxRecDepth 1000000 in
noncomputable def c53 : AFn := ⟨51, [(4, some 9)],
  (.seq (.ops r53_0)
  (.seq (.block 0 (.seq (.ops r53_1)
  (.cond (.t 6) (.seq (.ops r53_2)
  .ret)
  (.seq (.ops r53_3)
  (.cond (.t 11) (.seq (.ops r53_4)
  .ret)
  .skip)))))
  (.seq (.drw r53_5)
  (.seq (.seq (.ops r53_6)
  (.cond (.t 37) (.ops r53_7)
  .skip))
  (.seq (.seq (.ops r53_8)
  (.cond (.t 46) (.ops r53_9)
  .skip))
  (.seq (.ops r53_10)
  .ret))))))⟩
set_option maxRecDepth 1000000 in
theorem t53 : trF Try.prog 53 = some c53 := by kernel_rfl
/-- (regrater/agg.Part).text (0 p, 1 p, 3 l, 4 _, 5 x) -/
noncomputable def r54_0 : List AO := [⟨some 1, none, .box 58 2 (.t 0)⟩,
  ⟨some 2, none, .mv (.c (.st []))⟩]
noncomputable def r54_1 : List AO := [⟨some 6, none, .fad 0 (.t 1)⟩,
  ⟨some 7, none, .ld false 1 (.t 6)⟩,
  ⟨some 8, none, .call 78 [(.t 7)]⟩,
  ⟨some 9, none, .bsl 9 1 1 [(.st [])] [(0, 1, (.t 8))]⟩,
  ⟨some 3, none, .mv (.t 9)⟩]
noncomputable def r54_2 : List AO := [⟨some 10, none, .fad 1 (.t 1)⟩,
  ⟨some 11, none, .ld false 1 (.t 10)⟩,
  ⟨some 12, none, .len (.t 11)⟩,
  ⟨some 13, none, .mv (.c (.it .i64 0))⟩]
noncomputable def r54_3 : List AO := [⟨some 14, none, .bin .lss (.t 13) (.t 12)⟩]
noncomputable def r54_4 : List AO := [⟨some 15, none, .iad 9 (.t 11) (.t 13)⟩,
  ⟨some 16, none, .ld true 9 (.t 15)⟩,
  ⟨some 5, none, .box 115 9 (.c (.agg [(.it .i64 0), (.it .i64 0), (.it .u64 0), (.it .i64 0), (.it .i64 0), (.st []), (.it .i64 0), (.it .i64 0), (.st [])]))⟩,
  ⟨none, none, .sto 9 (.t 5) (.t 16)⟩]
noncomputable def r54_5 : List (AO × List Nat) := [(⟨some 17, none, .mv (.t 3)⟩, []),
  (⟨some 18, none, .fad 0 (.t 5)⟩, []),
  (⟨some 19, none, .ld false 1 (.t 18)⟩, []),
  (⟨some 20, none, .call 78 [(.t 19)]⟩, [0]),
  (⟨some 21, none, .fad 1 (.t 5)⟩, [3]),
  (⟨some 22, none, .ld true 2 (.t 21)⟩, [3]),
  (⟨some 23, none, .call 79 [(.t 22)]⟩, [0]),
  (⟨some 24, none, .fad 3 (.t 5)⟩, [3, 6]),
  (⟨some 25, none, .ld true 3 (.t 24)⟩, [3, 6]),
  (⟨some 26, none, .bsl 88 3 1 [(.it .i64 0), (.it .i64 0), (.st [])] [(0, 3, (.t 25))]⟩, [0, 1, 2, 3, 4, 5, 6]),
  (⟨some 27, none, .call 32 [(.t 26)]⟩, [0]),
  (⟨some 28, none, .fad 6 (.t 5)⟩, [3, 6, 9, 10]),
  (⟨some 29, none, .ld true 3 (.t 28)⟩, [3, 6, 9, 10]),
  (⟨some 30, none, .bsl 88 3 1 [(.it .i64 0), (.it .i64 0), (.st [])] [(0, 3, (.t 29))]⟩, [0, 1, 2, 3, 4, 5, 6, 7, 8, 9, 10]),
  (⟨some 31, none, .call 32 [(.t 30)]⟩, [0]),
  (⟨some 32, none, .bsl 9 1 4 [(.st [])] [(0, 1, (.t 20)), (1, 1, (.t 23)), (2, 1, (.t 27)), (3, 1, (.t 31))]⟩, [0]),
  (⟨some 33, none, .app 9 1 16 (.t 17) (.t 32)⟩, []),
  (⟨some 3, none, .mv (.t 33)⟩, [])]
noncomputable def r54_6 : List AO := [⟨some 34, none, .bin .add (.t 13) (.c (.it .i64 1))⟩,
  ⟨some 13, none, .mv (.t 34)⟩]
noncomputable def r54_7 : List AO := [⟨some 35, none, .mv (.t 3)⟩,
  ⟨some 36, none, .call 47 [(.t 35)]⟩,
  ⟨some 2, none, .mv (.t 36)⟩]
set_option maxRecDepth 1000000 in
noncomputable def c54 : AFn := ⟨37, [(2, none)],
  (.seq (.ops r54_0)
  (.seq (.ops r54_1)
  (.seq (.seq (.ops r54_2)
  (.block 0 (.loop (.seq (.ops r54_3)
  (.seq (.cond (.t 14) .skip
  (.exit 0))
  (.seq (.block 1 (.seq (.ops r54_4)
  (.drw r54_5)))
  (.ops r54_6)))))))
  (.seq (.ops r54_7)
  .ret))))⟩
set_option maxRecDepth 1000000 in
theorem t54 : trF Try.prog 54 = some c54 := by kernel_rfl
-- NO 55 slices.Concat[[]regrater/agg.Group,regrater/agg.Group]: ['slices.go:496 makeInterface', 'slices.go:496 panic']
/-- slices.SortStableFunc[[]regrater/agg.Group,regrater/agg.Group] (0 x, 1 cmp, 2 x, 3 cmp) -/
noncomputable def r56_0 : List AO := [⟨some 4, none, .mv (.t 0)⟩,
  ⟨some 5, none, .mv (.t 0)⟩,
  ⟨some 6, none, .len (.t 5)⟩,
  ⟨some 7, none, .mv (.t 1)⟩,
  ⟨some 8, none, .call 81 [(.t 4), (.t 6), (.t 7)]⟩]
set_option maxRecDepth 1000000 in
noncomputable def c56 : AFn := ⟨9, [],
  (.ops r56_0)⟩
set_option maxRecDepth 1000000 in
theorem t56 : trF Try.prog 56 = some c56 := by kernel_rfl
/-- regrater/agg.Merge$1 (0 a, 1 b, 2 a, 3 b) -/
noncomputable def r57_0 : List AO := [⟨some 2, none, .box 61 3 (.t 0)⟩,
  ⟨some 3, none, .box 61 3 (.t 1)⟩,
  ⟨some 4, none, .mv (.c (.it .i64 0))⟩]
noncomputable def r57_1 : List AO := [⟨some 5, none, .fad 0 (.t 2)⟩,
  ⟨some 6, none, .ld false 1 (.t 5)⟩,
  ⟨some 7, none, .fad 0 (.t 3)⟩,
  ⟨some 8, none, .ld false 1 (.t 7)⟩,
  ⟨some 9, none, .call 17 [(.t 6), (.t 8)]⟩,
  ⟨some 4, none, .mv (.t 9)⟩]
set_option maxRecDepth 1000000 in
noncomputable def c57 : AFn := ⟨10, [(4, none)],
  (.seq (.ops r57_0)
  (.seq (.ops r57_1)
  .ret))⟩
set_option maxRecDepth 1000000 in
theorem t57 : trF Try.prog 57 = some c57 := by kernel_rfl
/-- regrater/row.text (0 v, 1 v, 3 s) -/
noncomputable def r58_0 : List AO := [⟨some 1, none, .box 88 3 (.t 0)⟩,
  ⟨some 2, none, .mv (.c (.st []))⟩]
noncomputable def r58_1 : List AO := [⟨some 4, none, .fad 0 (.t 1)⟩,
  ⟨some 5, none, .ld false 1 (.t 4)⟩,
  ⟨some 6, none, .cvi .u8 (.t 5)⟩,
  ⟨some 7, none, .bsl 5 1 1 [(.it .u8 0)] [(0, 1, (.t 6))]⟩,
  ⟨some 8, none, .b2s (.t 7)⟩,
  ⟨some 3, none, .mv (.t 8)⟩]
noncomputable def r58_2 : List AO := [⟨some 9, none, .fad 0 (.t 1)⟩,
  ⟨some 10, none, .ld false 1 (.t 9)⟩]
noncomputable def r58_3 : List AO := [⟨some 12, none, .eq false 1 (.t 10) (.c (.it .i64 1))⟩,
  ⟨some 11, none, .mv (.t 12)⟩]
noncomputable def r58_4 : List AO := [⟨some 13, none, .mv (.t 3)⟩,
  ⟨some 14, none, .fad 1 (.t 1)⟩,
  ⟨some 15, none, .ld false 1 (.t 14)⟩,
  ⟨some 16, none, .cvi .u8 (.t 15)⟩,
  ⟨some 17, none, .bsl 5 1 1 [(.it .u8 0)] [(0, 1, (.t 16))]⟩,
  ⟨some 18, none, .b2s (.t 17)⟩,
  ⟨some 19, none, .bin .add (.t 13) (.t 18)⟩,
  ⟨some 3, none, .mv (.t 19)⟩]
noncomputable def r58_5 : List AO := [⟨some 21, none, .eq false 1 (.t 10) (.c (.it .i64 2))⟩,
  ⟨some 20, none, .mv (.t 21)⟩]
noncomputable def r58_6 : List AO := [⟨some 22, none, .mv (.t 3)⟩,
  ⟨some 23, none, .fad 1 (.t 1)⟩,
  ⟨some 24, none, .ld false 1 (.t 23)⟩,
  ⟨some 25, none, .call 78 [(.t 24)]⟩,
  ⟨some 26, none, .bin .add (.t 22) (.t 25)⟩,
  ⟨some 3, none, .mv (.t 26)⟩]
noncomputable def r58_7 : List AO := [⟨some 28, none, .eq false 1 (.t 10) (.c (.it .i64 3))⟩,
  ⟨some 27, none, .mv (.t 28)⟩]
noncomputable def r58_8 : List AO := [⟨some 29, none, .mv (.t 3)⟩,
  ⟨some 30, none, .fad 2 (.t 1)⟩,
  ⟨some 31, none, .ld false 1 (.t 30)⟩,
  ⟨some 32, none, .bin .add (.t 29) (.t 31)⟩,
  ⟨some 3, none, .mv (.t 32)⟩]
noncomputable def r58_9 : List AO := [⟨some 33, none, .mv (.t 3)⟩,
  ⟨some 2, none, .mv (.t 33)⟩]
set_option maxRecDepth 1000000 in
noncomputable def c58 : AFn := ⟨34, [(2, none)],
  (.seq (.ops r58_0)
  (.seq (.ops r58_1)
  (.seq (.seq (.ops r58_2)
  (.block 0 (.seq (.ops r58_3)
  (.cond (.t 11) (.ops r58_4)
  (.seq (.ops r58_5)
  (.cond (.t 20) (.ops r58_6)
  (.seq (.ops r58_7)
  (.cond (.t 27) (.ops r58_8)
  .skip))))))))
  (.seq (.ops r58_9)
  .ret))))⟩
set_option maxRecDepth 1000000 in
theorem t58 : trF Try.prog 58 = some c58 := by kernel_rfl
/-- regrater/regraterref04.Int (0 n, 1 n, 3 u, 4 out, 5 i) -/
noncomputable def r59_0 : List AO := [⟨some 2, none, .mv (.c (.st []))⟩]
noncomputable def r59_1 : List AO := [⟨some 6, none, .mv (.t 0)⟩,
  ⟨some 7, none, .cvi .u64 (.t 6)⟩,
  ⟨some 8, none, .bin .add (.t 7) (.c (.it .u64 9223372036854775808))⟩,
  ⟨some 3, none, .mv (.t 8)⟩]
noncomputable def r59_2 : List AO := [⟨some 4, none, .mv (.c (.st []))⟩]
noncomputable def r59_3 : List AO := [⟨some 5, none, .mv (.c (.it .i64 0))⟩]
noncomputable def r59_4 : List AO := [⟨some 9, none, .mv (.t 5)⟩,
  ⟨some 10, none, .bin .lss (.t 9) (.c (.it .i64 8))⟩]
noncomputable def r59_5 : List AO := [⟨some 13, none, .mv (.t 3)⟩,
  ⟨some 14, none, .bin .rem (.t 13) (.c (.it .u64 256))⟩,
  ⟨some 15, none, .cvi .u8 (.t 14)⟩,
  ⟨some 16, none, .bsl 5 1 1 [(.it .u8 0)] [(0, 1, (.t 15))]⟩,
  ⟨some 17, none, .b2s (.t 16)⟩,
  ⟨some 18, none, .mv (.t 4)⟩,
  ⟨some 19, none, .bin .add (.t 17) (.t 18)⟩,
  ⟨some 4, none, .mv (.t 19)⟩]
noncomputable def r59_6 : List AO := [⟨some 20, none, .mv (.t 3)⟩,
  ⟨some 21, none, .bin .quo (.t 20) (.c (.it .u64 256))⟩,
  ⟨some 3, none, .mv (.t 21)⟩]
noncomputable def r59_7 : List AO := [⟨some 11, none, .mv (.t 5)⟩,
  ⟨some 12, none, .bin .add (.t 11) (.c (.it .i64 1))⟩,
  ⟨some 5, none, .mv (.t 12)⟩]
noncomputable def r59_8 : List AO := [⟨some 22, none, .mv (.t 4)⟩,
  ⟨some 2, none, .mv (.t 22)⟩]
set_option maxRecDepth 1000000 in
noncomputable def c59 : AFn := ⟨23, [(2, none)],
  (.seq (.ops r59_0)
  (.seq (.ops r59_1)
  (.seq (.ops r59_2)
  (.seq (.seq (.ops r59_3)
  (.block 0 (.loop (.seq (.seq (.ops r59_4)
  (.cond (.t 10) .skip
  (.exit 0)))
  (.seq (.block 1 (.seq (.ops r59_5)
  (.ops r59_6)))
  (.ops r59_7))))))
  (.seq (.ops r59_8)
  .ret)))))⟩
set_option maxRecDepth 1000000 in
theorem t59 : trF Try.prog 59 = some c59 := by kernel_rfl
/-- regrater/regraterref23.Final (0 l, 1 op, 2 i, 3 l, 4 op, 5 i, 8 v, 9 k, 10 out, 11 n, 12 ok, 13 k) -/
noncomputable def r60_0 : List AO := [⟨some 6, none, .box 116 3 (.c (.agg [(.it .i64 0), (.it .i64 0), (.st [])]))⟩,
  ⟨some 7, none, .mv (.c (.it .i64 0))⟩]
noncomputable def r60_1 : List AO := [⟨some 14, none, .mv (.t 2)⟩,
  ⟨some 15, none, .bin .lss (.t 14) (.c (.it .i64 0))⟩]
noncomputable def r60_2 : List AO := [⟨some 16, none, .mv (.t 0)⟩,
  ⟨some 17, none, .len (.t 16)⟩,
  ⟨some 18, none, .bld [(.it .i64 0), (.it .i64 0), (.st [])] [(0, 1, (.c (.it .i64 2))), (1, 1, (.t 17))]⟩,
  ⟨none, none, .sto 3 (.t 6) (.t 18)⟩,
  ⟨some 7, none, .mv (.c (.it .i64 0))⟩]
noncomputable def r60_3 : List AO := [⟨some 8, none, .mv (.c (.sl true 0 []))⟩]
noncomputable def r60_4 : List AO := [⟨some 9, none, .mv (.c (.it .i64 0))⟩]
noncomputable def r60_5 : List AO := [⟨some 19, none, .mv (.t 9)⟩,
  ⟨some 20, none, .mv (.t 0)⟩,
  ⟨some 21, none, .len (.t 20)⟩,
  ⟨some 22, none, .bin .lss (.t 19) (.t 21)⟩]
noncomputable def r60_6 : List AO := [⟨some 25, none, .mv (.t 0)⟩,
  ⟨some 26, none, .mv (.t 9)⟩,
  ⟨some 27, none, .iad 2 (.t 25) (.t 26)⟩,
  ⟨some 28, none, .fad 1 (.t 27)⟩,
  ⟨some 29, none, .ld false 1 (.t 28)⟩,
  ⟨some 30, none, .mv (.t 2)⟩,
  ⟨some 31, none, .iad 3 (.t 29) (.t 30)⟩,
  ⟨some 32, none, .fad 0 (.t 31)⟩,
  ⟨some 33, none, .ld false 1 (.t 32)⟩,
  ⟨some 34, none, .eq true 1 (.t 33) (.c (.it .i64 0))⟩]
noncomputable def r60_7 : List AO := [⟨some 35, none, .mv (.t 8)⟩,
  ⟨some 36, none, .mv (.t 0)⟩,
  ⟨some 37, none, .mv (.t 9)⟩,
  ⟨some 38, none, .iad 2 (.t 36) (.t 37)⟩,
  ⟨some 39, none, .fad 1 (.t 38)⟩,
  ⟨some 40, none, .ld false 1 (.t 39)⟩,
  ⟨some 41, none, .mv (.t 2)⟩,
  ⟨some 42, none, .iad 3 (.t 40) (.t 41)⟩,
  ⟨some 43, none, .ld true 3 (.t 42)⟩,
  ⟨some 44, none, .bsl 116 3 1 [(.it .i64 0), (.it .i64 0), (.st [])] [(0, 3, (.t 43))]⟩,
  ⟨some 45, none, .app 116 3 32 (.t 35) (.t 44)⟩,
  ⟨some 8, none, .mv (.t 45)⟩]
noncomputable def r60_8 : List AO := [⟨some 23, none, .mv (.t 9)⟩,
  ⟨some 24, none, .bin .add (.t 23) (.c (.it .i64 1))⟩,
  ⟨some 9, none, .mv (.t 24)⟩]
noncomputable def r60_9 : List AO := [⟨some 10, none, .box 116 3 (.c (.agg [(.it .i64 0), (.it .i64 0), (.st [])]))⟩]
noncomputable def r60_10 : List AO := [⟨some 46, none, .mv (.t 1)⟩]
noncomputable def r60_11 : List AO := [⟨some 48, none, .eq false 1 (.t 46) (.c (.it .i64 1))⟩,
  ⟨some 47, none, .mv (.t 48)⟩]
noncomputable def r60_12 : List AO := [⟨some 49, none, .mv (.t 8)⟩,
  ⟨some 50, none, .len (.t 49)⟩,
  ⟨some 51, none, .bld [(.it .i64 0), (.it .i64 0), (.st [])] [(0, 1, (.c (.it .i64 2))), (1, 1, (.t 50))]⟩,
  ⟨none, none, .sto 3 (.t 6) (.t 51)⟩,
  ⟨some 7, none, .mv (.c (.it .i64 0))⟩]
noncomputable def r60_13 : List AO := [⟨some 53, none, .eq false 1 (.t 46) (.c (.it .i64 2))⟩,
  ⟨some 52, none, .mv (.t 53)⟩]
noncomputable def r60_14 : List AO := [⟨some 54, none, .mv (.t 8)⟩,
  ⟨some 55, none, .len (.t 54)⟩,
  ⟨some 56, none, .eq false 1 (.t 55) (.c (.it .i64 0))⟩]
noncomputable def r60_15 : List AO := [⟨some 57, none, .ld true 3 (.t 10)⟩,
  ⟨none, none, .sto 3 (.t 6) (.t 57)⟩,
  ⟨some 7, none, .mv (.c (.it .i64 0))⟩]
noncomputable def r60_16 : List AO := [⟨some 59, none, .mv (.t 8)⟩,
  ⟨some 60, none, .call 83 [(.t 59)]⟩,
  ⟨some 61, none, .call 82 [(.t 60)]⟩,
  ⟨some 58, none, .mv (.t 61)⟩,
  ⟨some 62, none, .ext (.t 58) 0⟩,
  ⟨some 63, none, .ext (.t 58) 1⟩,
  ⟨some 11, none, .mv (.t 62)⟩,
  ⟨some 12, none, .mv (.t 63)⟩]
noncomputable def r60_17 : List AO := [⟨some 64, none, .mv (.t 12)⟩,
  ⟨some 65, none, .un .not (.t 64)⟩]
noncomputable def r60_18 : List AO := [⟨some 66, none, .ld true 3 (.t 10)⟩,
  ⟨none, none, .sto 3 (.t 6) (.t 66)⟩,
  ⟨some 7, none, .mv (.c (.it .i64 8))⟩]
noncomputable def r60_19 : List AO := [⟨some 67, none, .mv (.t 11)⟩,
  ⟨some 68, none, .bld [(.it .i64 0), (.it .i64 0), (.st [])] [(0, 1, (.c (.it .i64 2))), (1, 1, (.t 67))]⟩,
  ⟨none, none, .sto 3 (.t 6) (.t 68)⟩,
  ⟨some 7, none, .mv (.c (.it .i64 0))⟩]
noncomputable def r60_20 : List AO := [⟨some 13, none, .mv (.c (.it .i64 0))⟩]
noncomputable def r60_21 : List AO := [⟨some 69, none, .mv (.t 13)⟩,
  ⟨some 70, none, .mv (.t 8)⟩,
  ⟨some 71, none, .len (.t 70)⟩,
  ⟨some 72, none, .bin .lss (.t 69) (.t 71)⟩]
noncomputable def r60_22 : List (AO × List Nat) := [(⟨some 75, none, .mv (.t 13)⟩, []),
  (⟨some 76, none, .eq false 1 (.t 75) (.c (.it .i64 0))⟩, []),
  (⟨some 77, none, .mv (.t 76)⟩, []),
  (⟨some 78, some (77, false), .mv (.t 1)⟩, []),
  (⟨some 79, some (77, false), .eq false 1 (.t 78) (.c (.it .i64 3))⟩, []),
  (⟨some 80, some (77, false), .mv (.t 79)⟩, []),
  (⟨some 81, some (80, true), .mv (.t 8)⟩, []),
  (⟨some 82, some (80, true), .mv (.t 13)⟩, []),
  (⟨some 83, some (80, true), .iad 3 (.t 81) (.t 82)⟩, []),
  (⟨some 84, some (80, true), .ld true 3 (.t 83)⟩, []),
  (⟨some 85, some (80, true), .ld true 3 (.t 10)⟩, []),
  (⟨some 86, some (80, true), .call 73 [(.t 84), (.t 85)]⟩, []),
  (⟨some 87, some (77, false), .pick (.t 80) (.t 86) (.c (.bl false))⟩, []),
  (⟨some 88, none, .pick (.t 77) (.c (.bl true)) (.t 87)⟩, []),
  (⟨some 89, none, .mv (.t 88)⟩, []),
  (⟨some 90, some (89, false), .mv (.t 1)⟩, []),
  (⟨some 91, some (89, false), .eq false 1 (.t 90) (.c (.it .i64 4))⟩, []),
  (⟨some 92, some (89, false), .mv (.t 91)⟩, []),
  (⟨some 93, some (92, true), .ld true 3 (.t 10)⟩, []),
  (⟨some 94, some (92, true), .mv (.t 8)⟩, []),
  (⟨some 95, some (92, true), .mv (.t 13)⟩, []),
  (⟨some 96, some (92, true), .iad 3 (.t 94) (.t 95)⟩, []),
  (⟨some 97, some (92, true), .ld true 3 (.t 96)⟩, []),
  (⟨some 98, some (92, true), .call 73 [(.t 93), (.t 97)]⟩, []),
  (⟨some 99, some (89, false), .pick (.t 92) (.t 98) (.c (.bl false))⟩, []),
  (⟨some 100, none, .pick (.t 89) (.c (.bl true)) (.t 99)⟩, [])]
noncomputable def r60_23 : List AO := [⟨some 101, none, .mv (.t 8)⟩,
  ⟨some 102, none, .mv (.t 13)⟩,
  ⟨some 103, none, .iad 3 (.t 101) (.t 102)⟩,
  ⟨some 104, none, .ld true 3 (.t 103)⟩,
  ⟨none, none, .sto 3 (.t 10) (.t 104)⟩]
noncomputable def r60_24 : List AO := [⟨some 73, none, .mv (.t 13)⟩,
  ⟨some 74, none, .bin .add (.t 73) (.c (.it .i64 1))⟩,
  ⟨some 13, none, .mv (.t 74)⟩]
noncomputable def r60_25 : List AO := [⟨some 105, none, .ld true 3 (.t 10)⟩,
  ⟨none, none, .sto 3 (.t 6) (.t 105)⟩,
  ⟨some 7, none, .mv (.c (.it .i64 0))⟩]
set_option maxRecDepth 1000000 in
noncomputable def c60 : AFn := ⟨106, [(6, some 3), (7, none)],
  (.seq (.ops r60_0)
  (.seq (.seq (.ops r60_1)
  (.cond (.t 15) (.seq (.ops r60_2)
  .ret)
  .skip))
  (.seq (.ops r60_3)
  (.seq (.seq (.ops r60_4)
  (.block 0 (.loop (.seq (.seq (.ops r60_5)
  (.cond (.t 22) .skip
  (.exit 0)))
  (.seq (.block 1 (.seq (.ops r60_6)
  (.cond (.t 34) (.ops r60_7)
  .skip)))
  (.ops r60_8))))))
  (.seq (.ops r60_9)
  (.seq (.seq (.ops r60_10)
  (.block 2 (.seq (.ops r60_11)
  (.cond (.t 47) (.seq (.ops r60_12)
  .ret)
  (.seq (.ops r60_13)
  (.cond (.t 52) (.seq (.seq (.ops r60_14)
  (.cond (.t 56) (.seq (.ops r60_15)
  .ret)
  .skip))
  (.seq (.ops r60_16)
  (.seq (.seq (.ops r60_17)
  (.cond (.t 65) (.seq (.ops r60_18)
  .ret)
  .skip))
  (.seq (.ops r60_19)
  .ret))))
  .skip))))))
  (.seq (.seq (.ops r60_20)
  (.block 3 (.loop (.seq (.seq (.ops r60_21)
  (.cond (.t 72) .skip
  (.exit 3)))
  (.seq (.block 4 (.seq (.drw r60_22)
  (.cond (.t 100) (.ops r60_23)
  .skip)))
  (.ops r60_24))))))
  (.seq (.ops r60_25)
  .ret))))))))⟩
set_option maxRecDepth 1000000 in
theorem t60 : trF Try.prog 60 = some c60 := by kernel_rfl
/-- regrater/agg.part (0 l, 1 l, 4 n, 5 ok, 6 p, 7 i, 8 n, 9 a, 10 w, 11 e, 12 least, 13 b, 14 most, 15 c) -/
noncomputable def r61_0 : List AO := [⟨some 2, none, .box 58 2 (.c (.agg [(.it .i64 0), (.sl true 0 [])]))⟩,
  ⟨some 3, none, .mv (.c (.bl false))⟩]
noncomputable def r61_1 : List AO := [⟨some 16, none, .mv (.t 0)⟩,
  ⟨some 17, none, .len (.t 16)⟩,
  ⟨some 18, none, .bin .rem (.t 17) (.c (.it .i64 4))⟩,
  ⟨some 19, none, .eq true 1 (.t 18) (.c (.it .i64 1))⟩]
noncomputable def r61_2 : List AO := [⟨some 20, none, .bld [(.it .i64 0), (.sl true 0 [])] []⟩,
  ⟨none, none, .sto 2 (.t 2) (.t 20)⟩,
  ⟨some 3, none, .mv (.c (.bl false))⟩]
noncomputable def r61_3 : List AO := [⟨some 22, none, .mv (.t 0)⟩,
  ⟨some 23, none, .iad 1 (.t 22) (.c (.it .i64 0))⟩,
  ⟨some 24, none, .ld false 1 (.t 23)⟩,
  ⟨some 25, none, .call 66 [(.t 24)]⟩,
  ⟨some 21, none, .mv (.t 25)⟩,
  ⟨some 26, none, .ext (.t 21) 0⟩,
  ⟨some 27, none, .ext (.t 21) 1⟩,
  ⟨some 4, none, .mv (.t 26)⟩,
  ⟨some 5, none, .mv (.t 27)⟩]
noncomputable def r61_4 : List AO := [⟨some 28, none, .mv (.t 4)⟩,
  ⟨some 29, none, .bld [(.it .i64 0), (.sl true 0 [])] [(0, 1, (.t 28))]⟩,
  ⟨some 6, none, .box 58 2 (.c (.agg [(.it .i64 0), (.sl true 0 [])]))⟩,
  ⟨none, none, .sto 2 (.t 6) (.t 29)⟩]
noncomputable def r61_5 : List AO := [⟨some 7, none, .mv (.c (.it .i64 1))⟩]
noncomputable def r61_6 : List AO := [⟨some 30, none, .mv (.t 7)⟩,
  ⟨some 31, none, .mv (.t 0)⟩,
  ⟨some 32, none, .len (.t 31)⟩,
  ⟨some 33, none, .bin .lss (.t 30) (.t 32)⟩,
  ⟨some 34, none, .mv (.t 33)⟩,
  ⟨some 35, some (34, true), .mv (.t 5)⟩,
  ⟨some 36, none, .pick (.t 34) (.t 35) (.c (.bl false))⟩]
noncomputable def r61_7 : List AO := [⟨some 40, none, .mv (.t 0)⟩,
  ⟨some 41, none, .mv (.t 7)⟩,
  ⟨some 42, none, .iad 1 (.t 40) (.t 41)⟩,
  ⟨some 43, none, .ld false 1 (.t 42)⟩,
  ⟨some 44, none, .call 66 [(.t 43)]⟩,
  ⟨some 39, none, .mv (.t 44)⟩,
  ⟨some 45, none, .ext (.t 39) 0⟩,
  ⟨some 46, none, .ext (.t 39) 1⟩,
  ⟨some 8, none, .mv (.t 45)⟩,
  ⟨some 9, none, .mv (.t 46)⟩]
noncomputable def r61_8 : List AO := [⟨some 48, none, .mv (.t 0)⟩,
  ⟨some 49, none, .mv (.t 7)⟩,
  ⟨some 50, none, .bin .add (.t 49) (.c (.it .i64 1))⟩,
  ⟨some 51, none, .iad 1 (.t 48) (.t 50)⟩,
  ⟨some 52, none, .ld false 1 (.t 51)⟩,
  ⟨some 53, none, .call 84 [(.t 52)]⟩,
  ⟨some 47, none, .mv (.t 53)⟩,
  ⟨some 54, none, .ext (.t 47) 0⟩,
  ⟨some 55, none, .ext (.t 47) 1⟩,
  ⟨some 10, none, .box 113 2 (.c (.agg [(.it .i64 0), (.it .u64 0)]))⟩,
  ⟨none, none, .sto 2 (.t 10) (.t 54)⟩,
  ⟨some 11, none, .mv (.t 55)⟩]
noncomputable def r61_9 : List AO := [⟨some 57, none, .mv (.t 0)⟩,
  ⟨some 58, none, .mv (.t 7)⟩,
  ⟨some 59, none, .bin .add (.t 58) (.c (.it .i64 2))⟩,
  ⟨some 60, none, .iad 1 (.t 57) (.t 59)⟩,
  ⟨some 61, none, .ld false 1 (.t 60)⟩,
  ⟨some 62, none, .call 85 [(.t 61)]⟩,
  ⟨some 56, none, .mv (.t 62)⟩,
  ⟨some 63, none, .ext (.t 56) 0⟩,
  ⟨some 64, none, .ext (.t 56) 1⟩,
  ⟨some 12, none, .box 88 3 (.c (.agg [(.it .i64 0), (.it .i64 0), (.st [])]))⟩,
  ⟨none, none, .sto 3 (.t 12) (.t 63)⟩,
  ⟨some 13, none, .mv (.t 64)⟩]
noncomputable def r61_10 : List AO := [⟨some 66, none, .mv (.t 0)⟩,
  ⟨some 67, none, .mv (.t 7)⟩,
  ⟨some 68, none, .bin .add (.t 67) (.c (.it .i64 3))⟩,
  ⟨some 69, none, .iad 1 (.t 66) (.t 68)⟩,
  ⟨some 70, none, .ld false 1 (.t 69)⟩,
  ⟨some 71, none, .call 85 [(.t 70)]⟩,
  ⟨some 65, none, .mv (.t 71)⟩,
  ⟨some 72, none, .ext (.t 65) 0⟩,
  ⟨some 73, none, .ext (.t 65) 1⟩,
  ⟨some 14, none, .box 88 3 (.c (.agg [(.it .i64 0), (.it .i64 0), (.st [])]))⟩,
  ⟨none, none, .sto 3 (.t 14) (.t 72)⟩,
  ⟨some 15, none, .mv (.t 73)⟩]
noncomputable def r61_11 : List AO := [⟨some 74, none, .mv (.t 9)⟩,
  ⟨some 75, none, .mv (.t 74)⟩,
  ⟨some 76, some (75, true), .mv (.t 13)⟩,
  ⟨some 77, none, .pick (.t 75) (.t 76) (.c (.bl false))⟩,
  ⟨some 78, none, .mv (.t 77)⟩,
  ⟨some 79, some (78, true), .mv (.t 15)⟩,
  ⟨some 80, none, .pick (.t 78) (.t 79) (.c (.bl false))⟩,
  ⟨some 81, none, .mv (.t 80)⟩,
  ⟨some 82, some (81, true), .mv (.t 11)⟩,
  ⟨some 83, some (81, true), .eq false 1 (.t 82) (.c (.it .i64 0))⟩,
  ⟨some 84, none, .pick (.t 81) (.t 83) (.c (.bl false))⟩,
  ⟨some 5, none, .mv (.t 84)⟩]
noncomputable def r61_12 : List AO := [⟨some 85, none, .fad 1 (.t 6)⟩,
  ⟨some 86, none, .ld false 1 (.t 85)⟩,
  ⟨some 87, none, .mv (.t 8)⟩,
  ⟨some 88, none, .ld true 2 (.t 10)⟩,
  ⟨some 89, none, .ld true 3 (.t 12)⟩,
  ⟨some 90, none, .ld true 3 (.t 14)⟩,
  ⟨some 91, none, .bld [(.it .i64 0), (.it .i64 0), (.it .u64 0), (.it .i64 0), (.it .i64 0), (.st []), (.it .i64 0), (.it .i64 0), (.st [])] [(0, 1, (.t 87)), (1, 2, (.t 88)), (3, 3, (.t 89)), (6, 3, (.t 90))]⟩,
  ⟨some 92, none, .bsl 115 9 1 [(.it .i64 0), (.it .i64 0), (.it .u64 0), (.it .i64 0), (.it .i64 0), (.st []), (.it .i64 0), (.it .i64 0), (.st [])] [(0, 9, (.t 91))]⟩,
  ⟨some 93, none, .app 115 9 88 (.t 86) (.t 92)⟩,
  ⟨some 94, none, .fad 1 (.t 6)⟩,
  ⟨none, none, .sto 1 (.t 94) (.t 93)⟩]
noncomputable def r61_13 : List AO := [⟨some 37, none, .mv (.t 7)⟩,
  ⟨some 38, none, .bin .add (.t 37) (.c (.it .i64 4))⟩,
  ⟨some 7, none, .mv (.t 38)⟩]
noncomputable def r61_14 : List AO := [⟨some 95, none, .ld true 2 (.t 6)⟩,
  ⟨some 96, none, .mv (.t 5)⟩,
  ⟨none, none, .sto 2 (.t 2) (.t 95)⟩,
  ⟨some 3, none, .mv (.t 96)⟩]
set_option maxRecDepth 1000000 in
noncomputable def c61 : AFn := ⟨97, [(2, some 2), (3, none)],
  (.seq (.ops r61_0)
  (.seq (.seq (.ops r61_1)
  (.cond (.t 19) (.seq (.ops r61_2)
  .ret)
  .skip))
  (.seq (.ops r61_3)
  (.seq (.ops r61_4)
  (.seq (.seq (.ops r61_5)
  (.block 0 (.loop (.seq (.seq (.ops r61_6)
  (.cond (.t 36) .skip
  (.exit 0)))
  (.seq (.block 1 (.seq (.ops r61_7)
  (.seq (.ops r61_8)
  (.seq (.ops r61_9)
  (.seq (.ops r61_10)
  (.seq (.ops r61_11)
  (.ops r61_12)))))))
  (.ops r61_13))))))
  (.seq (.ops r61_14)
  .ret))))))⟩
set_option maxRecDepth 1000000 in
theorem t61 : trF Try.prog 61 = some c61 := by kernel_rfl
/-- slices.Clone[regrater/row.Row,regrater/value.Value] (0 s, 1 s) -/
noncomputable def r62_0 : List AO := [⟨some 2, none, .mv (.c (.sl true 0 []))⟩]
noncomputable def r62_1 : List AO := [⟨some 3, none, .mv (.t 0)⟩,
  ⟨some 4, none, .eq false 4 (.t 3) (.c (.sl true 0 []))⟩]
noncomputable def r62_2 : List AO := [⟨some 2, none, .mv (.c (.sl true 0 []))⟩]
noncomputable def r62_3 : List AO := [⟨some 5, none, .bsl 88 3 0 [(.it .i64 0), (.it .i64 0), (.st [])] []⟩,
  ⟨some 6, none, .mv (.t 0)⟩,
  ⟨some 7, none, .app 88 3 32 (.t 5) (.t 6)⟩,
  ⟨some 2, none, .mv (.t 7)⟩]
set_option maxRecDepth 1000000 in
noncomputable def c62 : AFn := ⟨8, [(2, none)],
  (.seq (.ops r62_0)
  (.seq (.seq (.ops r62_1)
  (.cond (.t 4) (.seq (.ops r62_2)
  .ret)
  .skip))
  (.seq (.ops r62_3)
  .ret)))⟩
set_option maxRecDepth 1000000 in
theorem t62 : trF Try.prog 62 = some c62 := by kernel_rfl
/-- slices.SortedStableFunc[regrater/row.Row] (0 seq, 1 cmp, 2 seq, 3 cmp, 5 s) -/
noncomputable def r63_0 : List AO := [⟨some 4, none, .mv (.c (.sl true 0 []))⟩]
noncomputable def r63_1 : List AO := [⟨some 6, none, .mv (.t 0)⟩,
  ⟨some 7, none, .call 86 [(.t 6)]⟩,
  ⟨some 5, none, .mv (.t 7)⟩]
noncomputable def r63_2 : List AO := [⟨some 8, none, .mv (.t 5)⟩,
  ⟨some 9, none, .mv (.t 1)⟩,
  ⟨some 10, none, .call 87 [(.t 8), (.t 9)]⟩]
noncomputable def r63_3 : List AO := [⟨some 11, none, .mv (.t 5)⟩,
  ⟨some 4, none, .mv (.t 11)⟩]
set_option maxRecDepth 1000000 in
noncomputable def c63 : AFn := ⟨12, [(4, none)],
  (.seq (.ops r63_0)
  (.seq (.ops r63_1)
  (.seq (.ops r63_2)
  (.seq (.ops r63_3)
  .ret))))⟩
set_option maxRecDepth 1000000 in
theorem t63 : trF Try.prog 63 = some c63 := by kernel_rfl
/-- slices.Values[[]regrater/row.Row,regrater/row.Row] (0 s, 1 s) -/
noncomputable def r64_0 : List AO := [⟨some 1, none, .box 24 1 (.t 0)⟩,
  ⟨some 2, none, .mv (.c .nfn)⟩]
noncomputable def r64_1 : List AO := [⟨some 3, none, .mkf (.func 88) [] [(.t 1)]⟩,
  ⟨some 2, none, .mv (.t 3)⟩]
set_option maxRecDepth 1000000 in
noncomputable def c64 : AFn := ⟨4, [(2, none)],
  (.seq (.ops r64_0)
  (.seq (.ops r64_1)
  .ret))⟩
set_option maxRecDepth 1000000 in
theorem t64 : trF Try.prog 64 = some c64 := by kernel_rfl
/-- regrater/pack.first (0 s, 1 s, 2 text, 3 rest, 4 ok, 5 n, 6 end) -/
noncomputable def r65_0 : List AO := [⟨some 2, none, .mv (.c (.st []))⟩,
  ⟨some 3, none, .mv (.c (.st []))⟩,
  ⟨some 4, none, .mv (.c (.bl false))⟩]
noncomputable def r65_1 : List AO := [⟨some 7, none, .mv (.t 0)⟩,
  ⟨some 8, none, .lens (.t 7)⟩,
  ⟨some 9, none, .bin .lss (.t 8) (.c (.it .i64 4))⟩]
noncomputable def r65_2 : List AO := [⟨some 10, none, .mv (.t 0)⟩,
  ⟨some 2, none, .mv (.c (.st []))⟩,
  ⟨some 3, none, .mv (.t 10)⟩,
  ⟨some 4, none, .mv (.c (.bl false))⟩]
noncomputable def r65_3 : List AO := [⟨some 11, none, .mv (.t 0)⟩,
  ⟨some 12, none, .sls (.t 11) none (some (.c (.it .i64 4)))⟩,
  ⟨some 13, none, .call 89 [(.t 12)]⟩,
  ⟨some 5, none, .mv (.t 13)⟩]
noncomputable def r65_4 : List AO := [⟨some 14, none, .mv (.t 5)⟩,
  ⟨some 15, none, .mv (.t 0)⟩,
  ⟨some 16, none, .lens (.t 15)⟩,
  ⟨some 17, none, .bin .sub (.t 16) (.c (.it .i64 4))⟩,
  ⟨some 18, none, .cvi .u64 (.t 17)⟩,
  ⟨some 19, none, .bin .gtr (.t 14) (.t 18)⟩]
noncomputable def r65_5 : List AO := [⟨some 20, none, .mv (.t 0)⟩,
  ⟨some 2, none, .mv (.c (.st []))⟩,
  ⟨some 3, none, .mv (.t 20)⟩,
  ⟨some 4, none, .mv (.c (.bl false))⟩]
noncomputable def r65_6 : List AO := [⟨some 21, none, .mv (.t 5)⟩,
  ⟨some 22, none, .cvi .i64 (.t 21)⟩,
  ⟨some 23, none, .bin .add (.c (.it .i64 4)) (.t 22)⟩,
  ⟨some 6, none, .mv (.t 23)⟩]
noncomputable def r65_7 : List (AO × List Nat) := [(⟨some 24, none, .mv (.t 0)⟩, []),
  (⟨some 25, none, .mv (.t 6)⟩, []),
  (⟨some 26, none, .sls (.t 24) (some (.c (.it .i64 4))) (some (.t 25))⟩, []),
  (⟨some 27, none, .mv (.t 0)⟩, []),
  (⟨some 28, none, .mv (.t 6)⟩, []),
  (⟨some 29, none, .sls (.t 27) (some (.t 28)) none⟩, []),
  (⟨some 2, none, .mv (.t 26)⟩, []),
  (⟨some 3, none, .mv (.t 29)⟩, []),
  (⟨some 4, none, .mv (.c (.bl true))⟩, [])]
set_option maxRecDepth 1000000 in
noncomputable def c65 : AFn := ⟨30, [(2, none), (3, none), (4, none)],
  (.seq (.ops r65_0)
  (.seq (.seq (.ops r65_1)
  (.cond (.t 9) (.seq (.ops r65_2)
  .ret)
  .skip))
  (.seq (.ops r65_3)
  (.seq (.seq (.ops r65_4)
  (.cond (.t 19) (.seq (.ops r65_5)
  .ret)
  .skip))
  (.seq (.ops r65_6)
  (.seq (.drw r65_7)
  .ret))))))⟩
set_option maxRecDepth 1000000 in
theorem t65 : trF Try.prog 65 = some c65 := by kernel_rfl
/-- regrater/pack.GetInt (0 s, 1 s) -/
noncomputable def r66_0 : List AO := [⟨some 2, none, .mv (.c (.it .i64 0))⟩,
  ⟨some 3, none, .mv (.c (.bl false))⟩]
noncomputable def r66_1 : List AO := [⟨some 4, none, .mv (.t 0)⟩,
  ⟨some 5, none, .lens (.t 4)⟩,
  ⟨some 6, none, .eq true 1 (.t 5) (.c (.it .i64 8))⟩]
noncomputable def r66_2 : List AO := [⟨some 2, none, .mv (.c (.it .i64 0))⟩,
  ⟨some 3, none, .mv (.c (.bl false))⟩]
noncomputable def r66_3 : List AO := [⟨some 7, none, .mv (.t 0)⟩,
  ⟨some 8, none, .call 89 [(.t 7)]⟩,
  ⟨some 9, none, .bin .xor (.t 8) (.c (.it .u64 9223372036854775808))⟩,
  ⟨some 10, none, .cvi .i64 (.t 9)⟩,
  ⟨some 2, none, .mv (.t 10)⟩,
  ⟨some 3, none, .mv (.c (.bl true))⟩]
set_option maxRecDepth 1000000 in
noncomputable def c66 : AFn := ⟨11, [(2, none), (3, none)],
  (.seq (.ops r66_0)
  (.seq (.seq (.ops r66_1)
  (.cond (.t 6) (.seq (.ops r66_2)
  .ret)
  .skip))
  (.seq (.ops r66_3)
  .ret)))⟩
set_option maxRecDepth 1000000 in
theorem t66 : trF Try.prog 66 = some c66 := by kernel_rfl
/-- (regrater/value.Value).Good (0 v, 1 v) -/
noncomputable def r67_0 : List AO := [⟨some 1, none, .box 88 3 (.t 0)⟩,
  ⟨some 2, none, .mv (.c (.bl false))⟩]
noncomputable def r67_1 : List AO := [⟨some 3, none, .fad 0 (.t 1)⟩,
  ⟨some 4, none, .ld false 1 (.t 3)⟩]
noncomputable def r67_2 : List AO := [⟨some 6, none, .eq false 1 (.t 4) (.c (.it .i64 0))⟩,
  ⟨some 5, none, .mv (.t 6)⟩]
noncomputable def r67_3 : List AO := [⟨some 7, none, .ld true 3 (.t 1)⟩,
  ⟨some 8, none, .bld [(.it .i64 0), (.it .i64 0), (.st [])] []⟩,
  ⟨some 9, none, .eqs false [1, 1, 2] (.t 7) (.t 8)⟩,
  ⟨some 2, none, .mv (.t 9)⟩]
noncomputable def r67_4 : List AO := [⟨some 11, none, .eq false 1 (.t 4) (.c (.it .i64 1))⟩,
  ⟨some 10, none, .mv (.t 11)⟩]
noncomputable def r67_5 : List AO := [⟨some 12, none, .fad 1 (.t 1)⟩,
  ⟨some 13, none, .ld false 1 (.t 12)⟩,
  ⟨some 14, none, .eq false 1 (.t 13) (.c (.it .i64 0))⟩,
  ⟨some 15, none, .mv (.t 14)⟩,
  ⟨some 16, some (15, false), .fad 1 (.t 1)⟩,
  ⟨some 17, some (15, false), .ld false 1 (.t 16)⟩,
  ⟨some 18, some (15, false), .eq false 1 (.t 17) (.c (.it .i64 1))⟩,
  ⟨some 19, none, .pick (.t 15) (.c (.bl true)) (.t 18)⟩,
  ⟨some 20, none, .mv (.t 19)⟩,
  ⟨some 21, some (20, true), .fad 2 (.t 1)⟩,
  ⟨some 22, some (20, true), .ld false 1 (.t 21)⟩,
  ⟨some 23, some (20, true), .eq false 2 (.t 22) (.c (.st []))⟩,
  ⟨some 24, none, .pick (.t 20) (.t 23) (.c (.bl false))⟩,
  ⟨some 2, none, .mv (.t 24)⟩]
noncomputable def r67_6 : List AO := [⟨some 26, none, .eq false 1 (.t 4) (.c (.it .i64 2))⟩,
  ⟨some 25, none, .mv (.t 26)⟩]
noncomputable def r67_7 : List AO := [⟨some 27, none, .fad 2 (.t 1)⟩,
  ⟨some 28, none, .ld false 1 (.t 27)⟩,
  ⟨some 29, none, .eq false 2 (.t 28) (.c (.st []))⟩,
  ⟨some 2, none, .mv (.t 29)⟩]
noncomputable def r67_8 : List AO := [⟨some 31, none, .eq false 1 (.t 4) (.c (.it .i64 3))⟩,
  ⟨some 30, none, .mv (.t 31)⟩]
noncomputable def r67_9 : List AO := [⟨some 32, none, .fad 1 (.t 1)⟩,
  ⟨some 33, none, .ld false 1 (.t 32)⟩,
  ⟨some 34, none, .eq false 1 (.t 33) (.c (.it .i64 0))⟩,
  ⟨some 35, none, .mv (.t 34)⟩,
  ⟨some 36, some (35, true), .fad 2 (.t 1)⟩,
  ⟨some 37, some (35, true), .ld false 1 (.t 36)⟩,
  ⟨some 38, some (35, true), .lens (.t 37)⟩,
  ⟨some 39, some (35, true), .bin .leq (.t 38) (.c (.it .i64 64))⟩,
  ⟨some 40, none, .pick (.t 35) (.t 39) (.c (.bl false))⟩,
  ⟨some 2, none, .mv (.t 40)⟩]
noncomputable def r67_10 : List AO := [⟨some 2, none, .mv (.c (.bl false))⟩]
set_option maxRecDepth 1000000 in
noncomputable def c67 : AFn := ⟨41, [(2, none)],
  (.seq (.ops r67_0)
  (.seq (.seq (.ops r67_1)
  (.block 0 (.seq (.ops r67_2)
  (.cond (.t 5) (.seq (.ops r67_3)
  .ret)
  (.seq (.ops r67_4)
  (.cond (.t 10) (.seq (.ops r67_5)
  .ret)
  (.seq (.ops r67_6)
  (.cond (.t 25) (.seq (.ops r67_7)
  .ret)
  (.seq (.ops r67_8)
  (.cond (.t 30) (.seq (.ops r67_9)
  .ret)
  .skip))))))))))
  (.seq (.ops r67_10)
  .ret)))⟩
set_option maxRecDepth 1000000 in
theorem t67 : trF Try.prog 67 = some c67 := by kernel_rfl
/-- cmp.Or[int] (0 vals, 1 vals, 3 zero, 4 _, 5 val) -/
noncomputable def r68_0 : List AO := [⟨some 2, none, .mv (.c (.it .i64 0))⟩]
noncomputable def r68_1 : List AO := [⟨some 3, none, .mv (.c (.it .i64 0))⟩]
noncomputable def r68_2 : List AO := [⟨some 6, none, .mv (.t 0)⟩,
  ⟨some 7, none, .len (.t 6)⟩,
  ⟨some 8, none, .mv (.c (.it .i64 0))⟩]
noncomputable def r68_3 : List AO := [⟨some 9, none, .bin .lss (.t 8) (.t 7)⟩]
noncomputable def r68_4 : List AO := [⟨some 10, none, .iad 1 (.t 6) (.t 8)⟩,
  ⟨some 11, none, .ld false 1 (.t 10)⟩,
  ⟨some 5, none, .mv (.t 11)⟩]
noncomputable def r68_5 : List AO := [⟨some 12, none, .mv (.t 5)⟩,
  ⟨some 13, none, .mv (.t 3)⟩,
  ⟨some 14, none, .eq true 1 (.t 12) (.t 13)⟩]
noncomputable def r68_6 : List AO := [⟨some 15, none, .mv (.t 5)⟩,
  ⟨some 2, none, .mv (.t 15)⟩]
noncomputable def r68_7 : List AO := [⟨some 16, none, .bin .add (.t 8) (.c (.it .i64 1))⟩,
  ⟨some 8, none, .mv (.t 16)⟩]
noncomputable def r68_8 : List AO := [⟨some 17, none, .mv (.t 3)⟩,
  ⟨some 2, none, .mv (.t 17)⟩]
set_option maxRecDepth 1000000 in
noncomputable def c68 : AFn := ⟨18, [(2, none)],
  (.seq (.ops r68_0)
  (.seq (.ops r68_1)
  (.seq (.seq (.ops r68_2)
  (.block 0 (.loop (.seq (.ops r68_3)
  (.seq (.cond (.t 9) .skip
  (.exit 0))
  (.seq (.block 1 (.seq (.ops r68_4)
  (.seq (.ops r68_5)
  (.cond (.t 14) (.seq (.ops r68_6)
  .ret)
  .skip))))
  (.ops r68_7)))))))
  (.seq (.ops r68_8)
  .ret))))⟩
set_option maxRecDepth 1000000 in
theorem t68 : trF Try.prog 68 = some c68 := by kernel_rfl
/-- cmp.Compare[int] (0 x, 1 y, 2 x, 3 y, 5 xNaN, 6 yNaN) -/
noncomputable def r69_0 : List AO := [⟨some 4, none, .mv (.c (.it .i64 0))⟩]
noncomputable def r69_1 : List AO := [⟨some 7, none, .mv (.t 0)⟩,
  ⟨some 8, none, .call 90 [(.t 7)]⟩,
  ⟨some 5, none, .mv (.t 8)⟩]
noncomputable def r69_2 : List AO := [⟨some 9, none, .mv (.t 1)⟩,
  ⟨some 10, none, .call 90 [(.t 9)]⟩,
  ⟨some 6, none, .mv (.t 10)⟩]
noncomputable def r69_3 : List AO := [⟨some 11, none, .mv (.t 5)⟩]
noncomputable def r69_4 : List AO := [⟨some 12, none, .mv (.t 6)⟩]
noncomputable def r69_5 : List AO := [⟨some 4, none, .mv (.c (.it .i64 0))⟩]
noncomputable def r69_6 : List AO := [⟨some 4, none, .mv (.c (.it .i64 (-1)))⟩]
noncomputable def r69_7 : List AO := [⟨some 13, none, .mv (.t 6)⟩]
noncomputable def r69_8 : List AO := [⟨some 4, none, .mv (.c (.it .i64 1))⟩]
noncomputable def r69_9 : List AO := [⟨some 14, none, .mv (.t 0)⟩,
  ⟨some 15, none, .mv (.t 1)⟩,
  ⟨some 16, none, .bin .lss (.t 14) (.t 15)⟩]
noncomputable def r69_10 : List AO := [⟨some 4, none, .mv (.c (.it .i64 (-1)))⟩]
noncomputable def r69_11 : List AO := [⟨some 17, none, .mv (.t 0)⟩,
  ⟨some 18, none, .mv (.t 1)⟩,
  ⟨some 19, none, .bin .gtr (.t 17) (.t 18)⟩]
noncomputable def r69_12 : List AO := [⟨some 4, none, .mv (.c (.it .i64 1))⟩]
noncomputable def r69_13 : List AO := [⟨some 4, none, .mv (.c (.it .i64 0))⟩]
set_option maxRecDepth 1000000 in
noncomputable def c69 : AFn := ⟨20, [(4, none)],
  (.seq (.ops r69_0)
  (.seq (.ops r69_1)
  (.seq (.ops r69_2)
  (.seq (.seq (.ops r69_3)
  (.cond (.t 11) (.seq (.seq (.ops r69_4)
  (.cond (.t 12) (.seq (.ops r69_5)
  .ret)
  .skip))
  (.seq (.ops r69_6)
  .ret))
  .skip))
  (.seq (.seq (.ops r69_7)
  (.cond (.t 13) (.seq (.ops r69_8)
  .ret)
  .skip))
  (.seq (.seq (.ops r69_9)
  (.cond (.t 16) (.seq (.ops r69_10)
  .ret)
  .skip))
  (.seq (.seq (.ops r69_11)
  (.cond (.t 19) (.seq (.ops r69_12)
  .ret)
  .skip))
  (.seq (.ops r69_13)
  .ret))))))))⟩
set_option maxRecDepth 1000000 in
theorem t69 : trF Try.prog 69 = some c69 := by kernel_rfl
/-- cmp.Compare[int64] (0 x, 1 y, 2 x, 3 y, 5 xNaN, 6 yNaN) -/
noncomputable def r70_0 : List AO := [⟨some 4, none, .mv (.c (.it .i64 0))⟩]
noncomputable def r70_1 : List AO := [⟨some 7, none, .mv (.t 0)⟩,
  ⟨some 8, none, .call 91 [(.t 7)]⟩,
  ⟨some 5, none, .mv (.t 8)⟩]
noncomputable def r70_2 : List AO := [⟨some 9, none, .mv (.t 1)⟩,
  ⟨some 10, none, .call 91 [(.t 9)]⟩,
  ⟨some 6, none, .mv (.t 10)⟩]
noncomputable def r70_3 : List AO := [⟨some 11, none, .mv (.t 5)⟩]
noncomputable def r70_4 : List AO := [⟨some 12, none, .mv (.t 6)⟩]
noncomputable def r70_5 : List AO := [⟨some 4, none, .mv (.c (.it .i64 0))⟩]
noncomputable def r70_6 : List AO := [⟨some 4, none, .mv (.c (.it .i64 (-1)))⟩]
noncomputable def r70_7 : List AO := [⟨some 13, none, .mv (.t 6)⟩]
noncomputable def r70_8 : List AO := [⟨some 4, none, .mv (.c (.it .i64 1))⟩]
noncomputable def r70_9 : List AO := [⟨some 14, none, .mv (.t 0)⟩,
  ⟨some 15, none, .mv (.t 1)⟩,
  ⟨some 16, none, .bin .lss (.t 14) (.t 15)⟩]
noncomputable def r70_10 : List AO := [⟨some 4, none, .mv (.c (.it .i64 (-1)))⟩]
noncomputable def r70_11 : List AO := [⟨some 17, none, .mv (.t 0)⟩,
  ⟨some 18, none, .mv (.t 1)⟩,
  ⟨some 19, none, .bin .gtr (.t 17) (.t 18)⟩]
noncomputable def r70_12 : List AO := [⟨some 4, none, .mv (.c (.it .i64 1))⟩]
noncomputable def r70_13 : List AO := [⟨some 4, none, .mv (.c (.it .i64 0))⟩]
set_option maxRecDepth 1000000 in
noncomputable def c70 : AFn := ⟨20, [(4, none)],
  (.seq (.ops r70_0)
  (.seq (.ops r70_1)
  (.seq (.ops r70_2)
  (.seq (.seq (.ops r70_3)
  (.cond (.t 11) (.seq (.seq (.ops r70_4)
  (.cond (.t 12) (.seq (.ops r70_5)
  .ret)
  .skip))
  (.seq (.ops r70_6)
  .ret))
  .skip))
  (.seq (.seq (.ops r70_7)
  (.cond (.t 13) (.seq (.ops r70_8)
  .ret)
  .skip))
  (.seq (.seq (.ops r70_9)
  (.cond (.t 16) (.seq (.ops r70_10)
  .ret)
  .skip))
  (.seq (.seq (.ops r70_11)
  (.cond (.t 19) (.seq (.ops r70_12)
  .ret)
  .skip))
  (.seq (.ops r70_13)
  .ret))))))))⟩
set_option maxRecDepth 1000000 in
theorem t70 : trF Try.prog 70 = some c70 := by kernel_rfl
/-- cmp.Compare[string] (0 x, 1 y, 2 x, 3 y, 5 xNaN, 6 yNaN) -/
noncomputable def r71_0 : List AO := [⟨some 4, none, .mv (.c (.it .i64 0))⟩]
noncomputable def r71_1 : List AO := [⟨some 7, none, .mv (.t 0)⟩,
  ⟨some 8, none, .call 92 [(.t 7)]⟩,
  ⟨some 5, none, .mv (.t 8)⟩]
noncomputable def r71_2 : List AO := [⟨some 9, none, .mv (.t 1)⟩,
  ⟨some 10, none, .call 92 [(.t 9)]⟩,
  ⟨some 6, none, .mv (.t 10)⟩]
noncomputable def r71_3 : List AO := [⟨some 11, none, .mv (.t 5)⟩]
noncomputable def r71_4 : List AO := [⟨some 12, none, .mv (.t 6)⟩]
noncomputable def r71_5 : List AO := [⟨some 4, none, .mv (.c (.it .i64 0))⟩]
noncomputable def r71_6 : List AO := [⟨some 4, none, .mv (.c (.it .i64 (-1)))⟩]
noncomputable def r71_7 : List AO := [⟨some 13, none, .mv (.t 6)⟩]
noncomputable def r71_8 : List AO := [⟨some 4, none, .mv (.c (.it .i64 1))⟩]
noncomputable def r71_9 : List AO := [⟨some 14, none, .mv (.t 0)⟩,
  ⟨some 15, none, .mv (.t 1)⟩,
  ⟨some 16, none, .bin .lss (.t 14) (.t 15)⟩]
noncomputable def r71_10 : List AO := [⟨some 4, none, .mv (.c (.it .i64 (-1)))⟩]
noncomputable def r71_11 : List AO := [⟨some 17, none, .mv (.t 0)⟩,
  ⟨some 18, none, .mv (.t 1)⟩,
  ⟨some 19, none, .bin .gtr (.t 17) (.t 18)⟩]
noncomputable def r71_12 : List AO := [⟨some 4, none, .mv (.c (.it .i64 1))⟩]
noncomputable def r71_13 : List AO := [⟨some 4, none, .mv (.c (.it .i64 0))⟩]
set_option maxRecDepth 1000000 in
noncomputable def c71 : AFn := ⟨20, [(4, none)],
  (.seq (.ops r71_0)
  (.seq (.ops r71_1)
  (.seq (.ops r71_2)
  (.seq (.seq (.ops r71_3)
  (.cond (.t 11) (.seq (.seq (.ops r71_4)
  (.cond (.t 12) (.seq (.ops r71_5)
  .ret)
  .skip))
  (.seq (.ops r71_6)
  .ret))
  .skip))
  (.seq (.seq (.ops r71_7)
  (.cond (.t 13) (.seq (.ops r71_8)
  .ret)
  .skip))
  (.seq (.seq (.ops r71_9)
  (.cond (.t 16) (.seq (.ops r71_10)
  .ret)
  .skip))
  (.seq (.seq (.ops r71_11)
  (.cond (.t 19) (.seq (.ops r71_12)
  .ret)
  .skip))
  (.seq (.ops r71_13)
  .ret))))))))⟩
set_option maxRecDepth 1000000 in
theorem t71 : trF Try.prog 71 = some c71 := by kernel_rfl
/-- regrater/pack.wide (0 n, 1 size, 2 n, 3 size, 5 b, 6 i) -/
noncomputable def r72_0 : List AO := [⟨some 4, none, .mv (.c (.sl true 0 []))⟩]
noncomputable def r72_1 : List AO := [⟨some 7, none, .mv (.t 1)⟩,
  ⟨some 8, none, .mks 5 1 1 [(.it .u8 0)] (.t 7) (.t 7)⟩,
  ⟨some 5, none, .mv (.t 8)⟩]
noncomputable def r72_2 : List AO := [⟨some 9, none, .mv (.t 5)⟩,
  ⟨some 10, none, .len (.t 9)⟩,
  ⟨some 11, none, .mv (.c (.it .i64 0))⟩]
noncomputable def r72_3 : List AO := [⟨some 12, none, .bin .lss (.t 11) (.t 10)⟩]
noncomputable def r72_4 : List AO := [⟨some 13, none, .mv (.t 11)⟩,
  ⟨some 6, none, .mv (.t 13)⟩]
noncomputable def r72_5 : List AO := [⟨some 14, none, .mv (.t 5)⟩,
  ⟨some 15, none, .mv (.t 1)⟩,
  ⟨some 16, none, .bin .sub (.t 15) (.c (.it .i64 1))⟩,
  ⟨some 17, none, .mv (.t 6)⟩,
  ⟨some 18, none, .bin .sub (.t 16) (.t 17)⟩,
  ⟨some 19, none, .mv (.t 0)⟩,
  ⟨some 20, none, .mv (.t 6)⟩,
  ⟨some 21, none, .bin .mul (.c (.it .i64 8)) (.t 20)⟩,
  ⟨some 22, none, .bin .shr (.t 19) (.t 21)⟩,
  ⟨some 23, none, .cvi .u8 (.t 22)⟩,
  ⟨some 24, none, .iad 1 (.t 14) (.t 18)⟩,
  ⟨none, none, .sto 1 (.t 24) (.t 23)⟩]
noncomputable def r72_6 : List AO := [⟨some 25, none, .bin .add (.t 11) (.c (.it .i64 1))⟩,
  ⟨some 11, none, .mv (.t 25)⟩]
noncomputable def r72_7 : List AO := [⟨some 26, none, .mv (.t 5)⟩,
  ⟨some 4, none, .mv (.t 26)⟩]
set_option maxRecDepth 1000000 in
noncomputable def c72 : AFn := ⟨27, [(4, none)],
  (.seq (.ops r72_0)
  (.seq (.ops r72_1)
  (.seq (.seq (.ops r72_2)
  (.block 0 (.loop (.seq (.ops r72_3)
  (.seq (.cond (.t 12) .skip
  (.exit 0))
  (.seq (.block 1 (.seq (.ops r72_4)
  (.ops r72_5)))
  (.ops r72_6)))))))
  (.seq (.ops r72_7)
  .ret))))⟩
set_option maxRecDepth 1000000 in
theorem t72 : trF Try.prog 72 = some c72 := by kernel_rfl
/-- regrater/regraterref06.Before (0 a, 1 b, 2 a, 3 b, 5 i) -/
noncomputable def r73_0 : List AO := [⟨some 2, none, .box 116 3 (.t 0)⟩,
  ⟨some 3, none, .box 116 3 (.t 1)⟩,
  ⟨some 4, none, .mv (.c (.bl false))⟩]
noncomputable def r73_1 : List AO := [⟨some 6, none, .fad 0 (.t 2)⟩,
  ⟨some 7, none, .ld false 1 (.t 6)⟩,
  ⟨some 8, none, .fad 0 (.t 3)⟩,
  ⟨some 9, none, .ld false 1 (.t 8)⟩,
  ⟨some 10, none, .eq true 1 (.t 7) (.t 9)⟩]
noncomputable def r73_2 : List AO := [⟨some 11, none, .fad 0 (.t 2)⟩,
  ⟨some 12, none, .ld false 1 (.t 11)⟩,
  ⟨some 13, none, .fad 0 (.t 3)⟩,
  ⟨some 14, none, .ld false 1 (.t 13)⟩,
  ⟨some 15, none, .bin .lss (.t 12) (.t 14)⟩,
  ⟨some 4, none, .mv (.t 15)⟩]
noncomputable def r73_3 : List AO := [⟨some 16, none, .fad 0 (.t 2)⟩,
  ⟨some 17, none, .ld false 1 (.t 16)⟩,
  ⟨some 18, none, .eq false 1 (.t 17) (.c (.it .i64 3))⟩]
noncomputable def r73_4 : List AO := [⟨some 5, none, .mv (.c (.it .i64 0))⟩]
noncomputable def r73_5 : List AO := [⟨some 19, none, .mv (.t 5)⟩,
  ⟨some 20, none, .fad 2 (.t 2)⟩,
  ⟨some 21, none, .ld false 1 (.t 20)⟩,
  ⟨some 22, none, .lens (.t 21)⟩,
  ⟨some 23, none, .bin .lss (.t 19) (.t 22)⟩,
  ⟨some 24, none, .mv (.t 23)⟩,
  ⟨some 25, some (24, true), .mv (.t 5)⟩,
  ⟨some 26, some (24, true), .fad 2 (.t 3)⟩,
  ⟨some 27, some (24, true), .ld false 1 (.t 26)⟩,
  ⟨some 28, some (24, true), .lens (.t 27)⟩,
  ⟨some 29, some (24, true), .bin .lss (.t 25) (.t 28)⟩,
  ⟨some 30, none, .pick (.t 24) (.t 29) (.c (.bl false))⟩]
noncomputable def r73_6 : List (AO × List Nat) := [(⟨some 33, none, .fad 2 (.t 2)⟩, []),
  (⟨some 34, none, .ld false 1 (.t 33)⟩, []),
  (⟨some 35, none, .mv (.t 5)⟩, []),
  (⟨some 36, none, .idxs (.t 34) (.t 35)⟩, []),
  (⟨some 37, none, .fad 2 (.t 3)⟩, []),
  (⟨some 38, none, .ld false 1 (.t 37)⟩, []),
  (⟨some 39, none, .mv (.t 5)⟩, []),
  (⟨some 40, none, .idxs (.t 38) (.t 39)⟩, []),
  (⟨some 41, none, .eq true 1 (.t 36) (.t 40)⟩, [])]
noncomputable def r73_7 : List (AO × List Nat) := [(⟨some 42, none, .fad 2 (.t 2)⟩, []),
  (⟨some 43, none, .ld false 1 (.t 42)⟩, []),
  (⟨some 44, none, .mv (.t 5)⟩, []),
  (⟨some 45, none, .idxs (.t 43) (.t 44)⟩, []),
  (⟨some 46, none, .fad 2 (.t 3)⟩, []),
  (⟨some 47, none, .ld false 1 (.t 46)⟩, []),
  (⟨some 48, none, .mv (.t 5)⟩, []),
  (⟨some 49, none, .idxs (.t 47) (.t 48)⟩, []),
  (⟨some 50, none, .bin .lss (.t 45) (.t 49)⟩, []),
  (⟨some 4, none, .mv (.t 50)⟩, [])]
noncomputable def r73_8 : List AO := [⟨some 31, none, .mv (.t 5)⟩,
  ⟨some 32, none, .bin .add (.t 31) (.c (.it .i64 1))⟩,
  ⟨some 5, none, .mv (.t 32)⟩]
noncomputable def r73_9 : List AO := [⟨some 51, none, .fad 2 (.t 2)⟩,
  ⟨some 52, none, .ld false 1 (.t 51)⟩,
  ⟨some 53, none, .lens (.t 52)⟩,
  ⟨some 54, none, .fad 2 (.t 3)⟩,
  ⟨some 55, none, .ld false 1 (.t 54)⟩,
  ⟨some 56, none, .lens (.t 55)⟩,
  ⟨some 57, none, .bin .lss (.t 53) (.t 56)⟩,
  ⟨some 4, none, .mv (.t 57)⟩]
noncomputable def r73_10 : List AO := [⟨some 58, none, .fad 1 (.t 2)⟩,
  ⟨some 59, none, .ld false 1 (.t 58)⟩,
  ⟨some 60, none, .fad 1 (.t 3)⟩,
  ⟨some 61, none, .ld false 1 (.t 60)⟩,
  ⟨some 62, none, .bin .lss (.t 59) (.t 61)⟩,
  ⟨some 4, none, .mv (.t 62)⟩]
set_option maxRecDepth 1000000 in
noncomputable def c73 : AFn := ⟨63, [(4, none)],
  (.seq (.ops r73_0)
  (.seq (.seq (.ops r73_1)
  (.cond (.t 10) (.seq (.ops r73_2)
  .ret)
  .skip))
  (.seq (.seq (.ops r73_3)
  (.cond (.t 18) (.seq (.seq (.ops r73_4)
  (.block 0 (.loop (.seq (.seq (.ops r73_5)
  (.cond (.t 30) .skip
  (.exit 0)))
  (.seq (.block 1 (.seq (.drw r73_6)
  (.cond (.t 41) (.seq (.drw r73_7)
  .ret)
  .skip)))
  (.ops r73_8))))))
  (.seq (.ops r73_9)
  .ret))
  .skip))
  (.seq (.ops r73_10)
  .ret))))⟩
set_option maxRecDepth 1000000 in
theorem t73 : trF Try.prog 73 = some c73 := by kernel_rfl
/-- (regrater/bag.Bag).All$1 (0 yield, 2 yield, 3 i, 4 n) -/
noncomputable def r74_0 : List AO := [⟨some 3, none, .mv (.c (.it .i64 0))⟩]
noncomputable def r74_1 : List AO := [⟨some 5, none, .mv (.t 3)⟩,
  ⟨some 6, none, .fad 0 (.t 1)⟩,
  ⟨some 7, none, .ld false 1 (.t 6)⟩,
  ⟨some 8, none, .len (.t 7)⟩,
  ⟨some 9, none, .bin .lss (.t 5) (.t 8)⟩]
noncomputable def r74_2 : List AO := [⟨some 4, none, .mv (.c (.it .i64 1))⟩]
noncomputable def r74_3 : List (AO × List Nat) := [(⟨some 10, none, .mv (.t 3)⟩, []),
  (⟨some 11, none, .mv (.t 4)⟩, []),
  (⟨some 12, none, .bin .add (.t 10) (.t 11)⟩, []),
  (⟨some 13, none, .fad 0 (.t 1)⟩, []),
  (⟨some 14, none, .ld false 1 (.t 13)⟩, []),
  (⟨some 15, none, .len (.t 14)⟩, []),
  (⟨some 16, none, .bin .lss (.t 12) (.t 15)⟩, []),
  (⟨some 17, none, .mv (.t 16)⟩, []),
  (⟨some 18, some (17, true), .fad 0 (.t 1)⟩, []),
  (⟨some 19, some (17, true), .ld false 1 (.t 18)⟩, []),
  (⟨some 20, some (17, true), .mv (.t 3)⟩, []),
  (⟨some 21, some (17, true), .iad 1 (.t 19) (.t 20)⟩, []),
  (⟨some 22, some (17, true), .ld false 1 (.t 21)⟩, []),
  (⟨some 23, some (17, true), .fad 0 (.t 1)⟩, []),
  (⟨some 24, some (17, true), .ld false 1 (.t 23)⟩, []),
  (⟨some 25, some (17, true), .mv (.t 3)⟩, []),
  (⟨some 26, some (17, true), .mv (.t 4)⟩, []),
  (⟨some 27, some (17, true), .bin .add (.t 25) (.t 26)⟩, []),
  (⟨some 28, some (17, true), .iad 1 (.t 24) (.t 27)⟩, []),
  (⟨some 29, some (17, true), .ld false 1 (.t 28)⟩, []),
  (⟨some 30, some (17, true), .call 17 [(.t 22), (.t 29)]⟩, []),
  (⟨some 31, some (17, true), .eq false 1 (.t 30) (.c (.it .i64 0))⟩, []),
  (⟨some 32, none, .pick (.t 17) (.t 31) (.c (.bl false))⟩, [])]
noncomputable def r74_4 : List AO := [⟨some 33, none, .mv (.t 4)⟩,
  ⟨some 34, none, .bin .add (.t 33) (.c (.it .i64 1))⟩,
  ⟨some 4, none, .mv (.t 34)⟩]
noncomputable def r74_5 : List AO := [⟨some 35, none, .mv (.t 0)⟩,
  ⟨some 36, none, .fad 0 (.t 1)⟩,
  ⟨some 37, none, .ld false 1 (.t 36)⟩,
  ⟨some 38, none, .mv (.t 3)⟩,
  ⟨some 39, none, .iad 1 (.t 37) (.t 38)⟩,
  ⟨some 40, none, .ld false 1 (.t 39)⟩,
  ⟨some 41, none, .call 62 [(.t 40)]⟩,
  ⟨some 42, none, .mv (.t 4)⟩,
  ⟨some 43, none, .calv (.t 35) [(.t 41), (.t 42)]⟩,
  ⟨some 44, none, .un .not (.t 43)⟩]
noncomputable def r74_6 : List AO := [⟨some 45, none, .mv (.t 3)⟩,
  ⟨some 46, none, .mv (.t 4)⟩,
  ⟨some 47, none, .bin .add (.t 45) (.t 46)⟩,
  ⟨some 3, none, .mv (.t 47)⟩]
set_option maxRecDepth 1000000 in
noncomputable def c74 : AFn := ⟨48, [],
  (.seq (.ops r74_0)
  (.block 0 (.loop (.seq (.seq (.ops r74_1)
  (.cond (.t 9) .skip
  (.exit 0)))
  (.block 1 (.seq (.ops r74_2)
  (.seq (.block 2 (.loop (.seq (.seq (.drw r74_3)
  (.cond (.t 32) .skip
  (.exit 2)))
  (.block 3 (.ops r74_4)))))
  (.seq (.seq (.ops r74_5)
  (.cond (.t 44) .ret
  .skip))
  (.ops r74_6)))))))))⟩
set_option maxRecDepth 1000000 in
theorem t74 : trF Try.prog 74 = some c74 := by kernel_rfl
/-- regrater/wide.Of (0 n, 1 n) -/
noncomputable def r75_0 : List AO := [⟨some 2, none, .box 113 2 (.c (.agg [(.it .i64 0), (.it .u64 0)]))⟩]
noncomputable def r75_1 : List AO := [⟨some 3, none, .mv (.t 0)⟩,
  ⟨some 4, none, .bin .shr (.t 3) (.c (.it .u64 63))⟩,
  ⟨some 5, none, .mv (.t 0)⟩,
  ⟨some 6, none, .cvi .u64 (.t 5)⟩,
  ⟨some 7, none, .bld [(.it .i64 0), (.it .u64 0)] [(0, 1, (.t 4)), (1, 1, (.t 6))]⟩,
  ⟨none, none, .sto 2 (.t 2) (.t 7)⟩]
set_option maxRecDepth 1000000 in
noncomputable def c75 : AFn := ⟨8, [(2, some 2)],
  (.seq (.ops r75_0)
  (.seq (.ops r75_1)
  .ret))⟩
set_option maxRecDepth 1000000 in
theorem t75 : trF Try.prog 75 = some c75 := by kernel_rfl
/-- (regrater/wide.Wide).Int (0 w, 1 w, 4 n) -/
noncomputable def r76_0 : List AO := [⟨some 1, none, .box 113 2 (.t 0)⟩,
  ⟨some 2, none, .mv (.c (.it .i64 0))⟩,
  ⟨some 3, none, .mv (.c (.bl false))⟩]
noncomputable def r76_1 : List AO := [⟨some 5, none, .fad 1 (.t 1)⟩,
  ⟨some 6, none, .ld false 1 (.t 5)⟩,
  ⟨some 7, none, .cvi .i64 (.t 6)⟩,
  ⟨some 4, none, .mv (.t 7)⟩]
noncomputable def r76_2 : List (AO × List Nat) := [(⟨some 8, none, .mv (.t 4)⟩, []),
  (⟨some 9, none, .call 75 [(.t 8)]⟩, []),
  (⟨some 10, none, .ld true 2 (.t 1)⟩, [1]),
  (⟨some 11, none, .eqs true [1, 1] (.t 9) (.t 10)⟩, [])]
noncomputable def r76_3 : List AO := [⟨some 2, none, .mv (.c (.it .i64 0))⟩,
  ⟨some 3, none, .mv (.c (.bl false))⟩]
noncomputable def r76_4 : List AO := [⟨some 12, none, .mv (.t 4)⟩,
  ⟨some 2, none, .mv (.t 12)⟩,
  ⟨some 3, none, .mv (.c (.bl true))⟩]
set_option maxRecDepth 1000000 in
noncomputable def c76 : AFn := ⟨13, [(2, none), (3, none)],
  (.seq (.ops r76_0)
  (.seq (.ops r76_1)
  (.seq (.seq (.drw r76_2)
  (.cond (.t 11) (.seq (.ops r76_3)
  .ret)
  .skip))
  (.seq (.ops r76_4)
  .ret))))⟩
set_option maxRecDepth 1000000 in
theorem t76 : trF Try.prog 76 = some c76 := by kernel_rfl
/-- regrater/wide.Plus (0 l, 1 l, 3 out, 4 _, 5 w, 6 lo, 7 carry) -/
noncomputable def r77_0 : List AO := [⟨some 2, none, .box 113 2 (.c (.agg [(.it .i64 0), (.it .u64 0)]))⟩]
noncomputable def r77_1 : List AO := [⟨some 3, none, .box 113 2 (.c (.agg [(.it .i64 0), (.it .u64 0)]))⟩]
noncomputable def r77_2 : List AO := [⟨some 8, none, .mv (.t 0)⟩,
  ⟨some 9, none, .len (.t 8)⟩,
  ⟨some 10, none, .mv (.c (.it .i64 0))⟩]
noncomputable def r77_3 : List AO := [⟨some 11, none, .bin .lss (.t 10) (.t 9)⟩]
noncomputable def r77_4 : List AO := [⟨some 12, none, .iad 2 (.t 8) (.t 10)⟩,
  ⟨some 13, none, .ld true 2 (.t 12)⟩,
  ⟨some 5, none, .box 113 2 (.c (.agg [(.it .i64 0), (.it .u64 0)]))⟩,
  ⟨none, none, .sto 2 (.t 5) (.t 13)⟩]
noncomputable def r77_5 : List AO := [⟨some 15, none, .fad 1 (.t 3)⟩,
  ⟨some 16, none, .ld false 1 (.t 15)⟩,
  ⟨some 17, none, .fad 1 (.t 5)⟩,
  ⟨some 18, none, .ld false 1 (.t 17)⟩,
  ⟨some 19, none, .call 93 [(.t 16), (.t 18), (.c (.it .u64 0))]⟩,
  ⟨some 14, none, .mv (.t 19)⟩,
  ⟨some 20, none, .ext (.t 14) 0⟩,
  ⟨some 21, none, .ext (.t 14) 1⟩,
  ⟨some 6, none, .mv (.t 20)⟩,
  ⟨some 7, none, .mv (.t 21)⟩]
noncomputable def r77_6 : List AO := [⟨some 22, none, .fad 0 (.t 3)⟩,
  ⟨some 23, none, .ld false 1 (.t 22)⟩,
  ⟨some 24, none, .fad 0 (.t 5)⟩,
  ⟨some 25, none, .ld false 1 (.t 24)⟩,
  ⟨some 26, none, .bin .add (.t 23) (.t 25)⟩,
  ⟨some 27, none, .mv (.t 7)⟩,
  ⟨some 28, none, .cvi .i64 (.t 27)⟩,
  ⟨some 29, none, .bin .add (.t 26) (.t 28)⟩,
  ⟨some 30, none, .mv (.t 6)⟩,
  ⟨some 31, none, .bld [(.it .i64 0), (.it .u64 0)] [(0, 1, (.t 29)), (1, 1, (.t 30))]⟩,
  ⟨none, none, .sto 2 (.t 3) (.t 31)⟩]
noncomputable def r77_7 : List AO := [⟨some 32, none, .bin .add (.t 10) (.c (.it .i64 1))⟩,
  ⟨some 10, none, .mv (.t 32)⟩]
noncomputable def r77_8 : List AO := [⟨some 33, none, .ld true 2 (.t 3)⟩,
  ⟨none, none, .sto 2 (.t 2) (.t 33)⟩]
set_option maxRecDepth 1000000 in
noncomputable def c77 : AFn := ⟨34, [(2, some 2)],
  (.seq (.ops r77_0)
  (.seq (.ops r77_1)
  (.seq (.seq (.ops r77_2)
  (.block 0 (.loop (.seq (.ops r77_3)
  (.seq (.cond (.t 11) .skip
  (.exit 0))
  (.seq (.block 1 (.seq (.ops r77_4)
  (.seq (.ops r77_5)
  (.ops r77_6))))
  (.ops r77_7)))))))
  (.seq (.ops r77_8)
  .ret))))⟩
set_option maxRecDepth 1000000 in
theorem t77 : trF Try.prog 77 = some c77 := by kernel_rfl
/-- regrater/pack.Int (0 n, 1 n) -/
noncomputable def r78_0 : List AO := [⟨some 2, none, .mv (.c (.st []))⟩]
noncomputable def r78_1 : List AO := [⟨some 3, none, .mv (.t 0)⟩,
  ⟨some 4, none, .cvi .u64 (.t 3)⟩,
  ⟨some 5, none, .bin .xor (.t 4) (.c (.it .u64 9223372036854775808))⟩,
  ⟨some 6, none, .call 72 [(.t 5), (.c (.it .i64 8))]⟩,
  ⟨some 7, none, .b2s (.t 6)⟩,
  ⟨some 2, none, .mv (.t 7)⟩]
set_option maxRecDepth 1000000 in
noncomputable def c78 : AFn := ⟨8, [(2, none)],
  (.seq (.ops r78_0)
  (.seq (.ops r78_1)
  .ret))⟩
set_option maxRecDepth 1000000 in
theorem t78 : trF Try.prog 78 = some c78 := by kernel_rfl
/-- (regrater/wide.Wide).Key (0 w, 1 w) -/
noncomputable def r79_0 : List AO := [⟨some 1, none, .box 113 2 (.t 0)⟩,
  ⟨some 2, none, .mv (.c (.st []))⟩]
noncomputable def r79_1 : List (AO × List Nat) := [(⟨some 3, none, .fad 0 (.t 1)⟩, []),
  (⟨some 4, none, .ld false 1 (.t 3)⟩, []),
  (⟨some 5, none, .cvi .u64 (.t 4)⟩, []),
  (⟨some 6, none, .call 94 [(.t 5)]⟩, []),
  (⟨some 7, none, .fad 1 (.t 1)⟩, [3]),
  (⟨some 8, none, .ld false 1 (.t 7)⟩, [3]),
  (⟨some 9, none, .call 94 [(.t 8)]⟩, []),
  (⟨some 10, none, .bin .add (.t 6) (.t 9)⟩, []),
  (⟨some 2, none, .mv (.t 10)⟩, [])]
set_option maxRecDepth 1000000 in
noncomputable def c79 : AFn := ⟨11, [(2, none)],
  (.seq (.ops r79_0)
  (.seq (.drw r79_1)
  .ret))⟩
set_option maxRecDepth 1000000 in
theorem t79 : trF Try.prog 79 = some c79 := by kernel_rfl
-- NO 80 slices.Grow[[]regrater/agg.Group,regrater/agg.Group]: ['slices.go:424 makeInterface', 'slices.go:424 panic', 'slices.go:426 builtin Go.Builtin.cap', 'slices.go:428 builtin Go.Builtin.cap', 'slices.go:428 builtin Go.Builtin.append']
/-- slices.stableCmpFunc[regrater/agg.Group] (0 data, 1 n, 2 cmp, 3 data, 4 n, 5 cmp, 6 blockSize, 7 a, 8 b, 9 m) -/
noncomputable def r81_0 : List AO := [⟨some 6, none, .mv (.c (.it .i64 20))⟩]
noncomputable def r81_1 : List AO := [⟨some 10, none, .mv (.t 6)⟩,
  ⟨some 7, none, .mv (.c (.it .i64 0))⟩,
  ⟨some 8, none, .mv (.t 10)⟩]
noncomputable def r81_2 : List AO := [⟨some 11, none, .mv (.t 8)⟩,
  ⟨some 12, none, .mv (.t 1)⟩,
  ⟨some 13, none, .bin .leq (.t 11) (.t 12)⟩]
noncomputable def r81_3 : List AO := [⟨some 14, none, .mv (.t 0)⟩,
  ⟨some 15, none, .mv (.t 7)⟩,
  ⟨some 16, none, .mv (.t 8)⟩,
  ⟨some 17, none, .mv (.t 2)⟩,
  ⟨some 18, none, .call 95 [(.t 14), (.t 15), (.t 16), (.t 17)]⟩]
noncomputable def r81_4 : List AO := [⟨some 19, none, .mv (.t 8)⟩,
  ⟨some 7, none, .mv (.t 19)⟩]
noncomputable def r81_5 : List AO := [⟨some 20, none, .mv (.t 8)⟩,
  ⟨some 21, none, .mv (.t 6)⟩,
  ⟨some 22, none, .bin .add (.t 20) (.t 21)⟩,
  ⟨some 8, none, .mv (.t 22)⟩]
noncomputable def r81_6 : List AO := [⟨some 23, none, .mv (.t 0)⟩,
  ⟨some 24, none, .mv (.t 7)⟩,
  ⟨some 25, none, .mv (.t 1)⟩,
  ⟨some 26, none, .mv (.t 2)⟩,
  ⟨some 27, none, .call 95 [(.t 23), (.t 24), (.t 25), (.t 26)]⟩]
noncomputable def r81_7 : List AO := [⟨some 28, none, .mv (.t 6)⟩,
  ⟨some 29, none, .mv (.t 1)⟩,
  ⟨some 30, none, .bin .lss (.t 28) (.t 29)⟩]
noncomputable def r81_8 : List AO := [⟨some 31, none, .mv (.t 6)⟩,
  ⟨some 32, none, .bin .mul (.c (.it .i64 2)) (.t 31)⟩,
  ⟨some 7, none, .mv (.c (.it .i64 0))⟩,
  ⟨some 8, none, .mv (.t 32)⟩]
noncomputable def r81_9 : List AO := [⟨some 33, none, .mv (.t 8)⟩,
  ⟨some 34, none, .mv (.t 1)⟩,
  ⟨some 35, none, .bin .leq (.t 33) (.t 34)⟩]
noncomputable def r81_10 : List AO := [⟨some 36, none, .mv (.t 0)⟩,
  ⟨some 37, none, .mv (.t 7)⟩,
  ⟨some 38, none, .mv (.t 7)⟩,
  ⟨some 39, none, .mv (.t 6)⟩,
  ⟨some 40, none, .bin .add (.t 38) (.t 39)⟩,
  ⟨some 41, none, .mv (.t 8)⟩,
  ⟨some 42, none, .mv (.t 2)⟩,
  ⟨some 43, none, .call 96 [(.t 36), (.t 37), (.t 40), (.t 41), (.t 42)]⟩]
noncomputable def r81_11 : List AO := [⟨some 44, none, .mv (.t 8)⟩,
  ⟨some 7, none, .mv (.t 44)⟩]
noncomputable def r81_12 : List AO := [⟨some 45, none, .mv (.t 8)⟩,
  ⟨some 46, none, .mv (.t 6)⟩,
  ⟨some 47, none, .bin .mul (.c (.it .i64 2)) (.t 46)⟩,
  ⟨some 48, none, .bin .add (.t 45) (.t 47)⟩,
  ⟨some 8, none, .mv (.t 48)⟩]
noncomputable def r81_13 : List AO := [⟨some 49, none, .mv (.t 7)⟩,
  ⟨some 50, none, .mv (.t 6)⟩,
  ⟨some 51, none, .bin .add (.t 49) (.t 50)⟩,
  ⟨some 9, none, .mv (.t 51)⟩]
noncomputable def r81_14 : List AO := [⟨some 52, none, .mv (.t 9)⟩,
  ⟨some 53, none, .mv (.t 1)⟩,
  ⟨some 54, none, .bin .lss (.t 52) (.t 53)⟩]
noncomputable def r81_15 : List AO := [⟨some 55, none, .mv (.t 0)⟩,
  ⟨some 56, none, .mv (.t 7)⟩,
  ⟨some 57, none, .mv (.t 9)⟩,
  ⟨some 58, none, .mv (.t 1)⟩,
  ⟨some 59, none, .mv (.t 2)⟩,
  ⟨some 60, none, .call 96 [(.t 55), (.t 56), (.t 57), (.t 58), (.t 59)]⟩]
noncomputable def r81_16 : List AO := [⟨some 61, none, .mv (.t 6)⟩,
  ⟨some 62, none, .bin .mul (.t 61) (.c (.it .i64 2))⟩,
  ⟨some 6, none, .mv (.t 62)⟩]
set_option maxRecDepth 1000000 in
noncomputable def c81 : AFn := ⟨63, [],
  (.seq (.ops r81_0)
  (.seq (.ops r81_1)
  (.seq (.block 0 (.loop (.seq (.seq (.ops r81_2)
  (.cond (.t 13) .skip
  (.exit 0)))
  (.block 1 (.seq (.ops r81_3)
  (.seq (.ops r81_4)
  (.ops r81_5)))))))
  (.seq (.ops r81_6)
  (.block 2 (.loop (.seq (.seq (.ops r81_7)
  (.cond (.t 30) .skip
  (.exit 2)))
  (.block 3 (.seq (.ops r81_8)
  (.seq (.block 4 (.loop (.seq (.seq (.ops r81_9)
  (.cond (.t 35) .skip
  (.exit 4)))
  (.block 5 (.seq (.ops r81_10)
  (.seq (.ops r81_11)
  (.ops r81_12)))))))
  (.seq (.seq (.ops r81_13)
  (.seq (.ops r81_14)
  (.cond (.t 54) (.ops r81_15)
  .skip)))
  (.ops r81_16))))))))))))⟩
set_option maxRecDepth 1000000 in
theorem t81 : trF Try.prog 81 = some c81 := by kernel_rfl
/-- regrater/regraterref21.Int (0 w, 1 w, 4 i, 5 _, 6 lo) -/
noncomputable def r82_0 : List AO := [⟨some 1, none, .box 153 128 (.t 0)⟩,
  ⟨some 2, none, .mv (.c (.it .i64 0))⟩,
  ⟨some 3, none, .mv (.c (.bl false))⟩]
noncomputable def r82_1 : List AO := [⟨some 4, none, .mv (.c (.it .i64 64))⟩]
noncomputable def r82_2 : List AO := [⟨some 7, none, .mv (.t 4)⟩,
  ⟨some 8, none, .bin .lss (.t 7) (.c (.it .i64 128))⟩]
noncomputable def r82_3 : List (AO × List Nat) := [(⟨some 11, none, .mv (.t 4)⟩, []),
  (⟨some 12, none, .iada 128 1 (.t 1) (.t 11)⟩, []),
  (⟨some 13, none, .ld false 1 (.t 12)⟩, []),
  (⟨some 14, none, .iada 128 1 (.t 1) (.c (.it .i64 63))⟩, []),
  (⟨some 15, none, .ld false 1 (.t 14)⟩, []),
  (⟨some 16, none, .eq true 0 (.t 13) (.t 15)⟩, [])]
noncomputable def r82_4 : List AO := [⟨some 2, none, .mv (.c (.it .i64 0))⟩,
  ⟨some 3, none, .mv (.c (.bl false))⟩]
noncomputable def r82_5 : List AO := [⟨some 9, none, .mv (.t 4)⟩,
  ⟨some 10, none, .bin .add (.t 9) (.c (.it .i64 1))⟩,
  ⟨some 4, none, .mv (.t 10)⟩]
noncomputable def r82_6 : List AO := [⟨some 18, none, .ld true 128 (.t 1)⟩,
  ⟨some 19, none, .call 97 [(.t 18)]⟩,
  ⟨some 17, none, .mv (.t 19)⟩,
  ⟨some 20, none, .ext (.t 17) 0⟩,
  ⟨some 21, none, .ext (.t 17) 1⟩,
  ⟨some 5, none, .mv (.t 20)⟩,
  ⟨some 6, none, .mv (.t 21)⟩]
noncomputable def r82_7 : List AO := [⟨some 22, none, .mv (.t 6)⟩,
  ⟨some 23, none, .cvi .i64 (.t 22)⟩,
  ⟨some 2, none, .mv (.t 23)⟩,
  ⟨some 3, none, .mv (.c (.bl true))⟩]
set_option maxRecDepth 1000000 in
noncomputable def c82 : AFn := ⟨24, [(2, none), (3, none)],
  (.seq (.ops r82_0)
  (.seq (.seq (.ops r82_1)
  (.block 0 (.loop (.seq (.seq (.ops r82_2)
  (.cond (.t 8) .skip
  (.exit 0)))
  (.seq (.block 1 (.seq (.drw r82_3)
  (.cond (.t 16) (.seq (.ops r82_4)
  .ret)
  .skip)))
  (.ops r82_5))))))
  (.seq (.ops r82_6)
  (.seq (.ops r82_7)
  .ret))))⟩
set_option maxRecDepth 1000000 in
theorem t82 : trF Try.prog 82 = some c82 := by kernel_rfl
/-- regrater/regraterref23.Sum (0 l, 1 l, 3 w, 4 i, 5 hi) -/
noncomputable def r83_0 : List AO := [⟨some 2, none, .box 153 128 (.c (.agg [(.bl false), (.bl false), (.bl false), (.bl false), (.bl false), (.bl false), (.bl false), (.bl false), (.bl false), (.bl false), (.bl false), (.bl false), (.bl false), (.bl false), (.bl false), (.bl false), (.bl false), (.bl false), (.bl false), (.bl false), (.bl false), (.bl false), (.bl false), (.bl false), (.bl false), (.bl false), (.bl false), (.bl false), (.bl false), (.bl false), (.bl false), (.bl false), (.bl false), (.bl false), (.bl false), (.bl false), (.bl false), (.bl false), (.bl false), (.bl false), (.bl false), (.bl false), (.bl false), (.bl false), (.bl false), (.bl false), (.bl false), (.bl false), (.bl false), (.bl false), (.bl false), (.bl false), (.bl false), (.bl false), (.bl false), (.bl false), (.bl false), (.bl false), (.bl false), (.bl false), (.bl false), (.bl false), (.bl false), (.bl false), (.bl false), (.bl false), (.bl false), (.bl false), (.bl false), (.bl false), (.bl false), (.bl false), (.bl false), (.bl false), (.bl false), (.bl false), (.bl false), (.bl false), (.bl false), (.bl false), (.bl false), (.bl false), (.bl false), (.bl false), (.bl false), (.bl false), (.bl false), (.bl false), (.bl false), (.bl false), (.bl false), (.bl false), (.bl false), (.bl false), (.bl false), (.bl false), (.bl false), (.bl false), (.bl false), (.bl false), (.bl false), (.bl false), (.bl false), (.bl false), (.bl false), (.bl false), (.bl false), (.bl false), (.bl false), (.bl false), (.bl false), (.bl false), (.bl false), (.bl false), (.bl false), (.bl false), (.bl false), (.bl false), (.bl false), (.bl false), (.bl false), (.bl false), (.bl false), (.bl false), (.bl false), (.bl false), (.bl false), (.bl false)]))⟩]
noncomputable def r83_1 : List AO := [⟨some 3, none, .box 153 128 (.c (.agg [(.bl false), (.bl false), (.bl false), (.bl false), (.bl false), (.bl false), (.bl false), (.bl false), (.bl false), (.bl false), (.bl false), (.bl false), (.bl false), (.bl false), (.bl false), (.bl false), (.bl false), (.bl false), (.bl false), (.bl false), (.bl false), (.bl false), (.bl false), (.bl false), (.bl false), (.bl false), (.bl false), (.bl false), (.bl false), (.bl false), (.bl false), (.bl false), (.bl false), (.bl false), (.bl false), (.bl false), (.bl false), (.bl false), (.bl false), (.bl false), (.bl false), (.bl false), (.bl false), (.bl false), (.bl false), (.bl false), (.bl false), (.bl false), (.bl false), (.bl false), (.bl false), (.bl false), (.bl false), (.bl false), (.bl false), (.bl false), (.bl false), (.bl false), (.bl false), (.bl false), (.bl false), (.bl false), (.bl false), (.bl false), (.bl false), (.bl false), (.bl false), (.bl false), (.bl false), (.bl false), (.bl false), (.bl false), (.bl false), (.bl false), (.bl false), (.bl false), (.bl false), (.bl false), (.bl false), (.bl false), (.bl false), (.bl false), (.bl false), (.bl false), (.bl false), (.bl false), (.bl false), (.bl false), (.bl false), (.bl false), (.bl false), (.bl false), (.bl false), (.bl false), (.bl false), (.bl false), (.bl false), (.bl false), (.bl false), (.bl false), (.bl false), (.bl false), (.bl false), (.bl false), (.bl false), (.bl false), (.bl false), (.bl false), (.bl false), (.bl false), (.bl false), (.bl false), (.bl false), (.bl false), (.bl false), (.bl false), (.bl false), (.bl false), (.bl false), (.bl false), (.bl false), (.bl false), (.bl false), (.bl false), (.bl false), (.bl false), (.bl false), (.bl false)]))⟩]
noncomputable def r83_2 : List AO := [⟨some 4, none, .mv (.c (.it .i64 0))⟩]
noncomputable def r83_3 : List AO := [⟨some 6, none, .mv (.t 4)⟩,
  ⟨some 7, none, .mv (.t 0)⟩,
  ⟨some 8, none, .len (.t 7)⟩,
  ⟨some 9, none, .bin .lss (.t 6) (.t 8)⟩]
noncomputable def r83_4 : List AO := [⟨some 12, none, .mv (.t 0)⟩,
  ⟨some 13, none, .mv (.t 4)⟩,
  ⟨some 14, none, .iad 3 (.t 12) (.t 13)⟩,
  ⟨some 15, none, .fad 0 (.t 14)⟩,
  ⟨some 16, none, .ld false 1 (.t 15)⟩,
  ⟨some 17, none, .eq false 1 (.t 16) (.c (.it .i64 2))⟩]
noncomputable def r83_5 : List AO := [⟨some 5, none, .mv (.c (.it .i64 0))⟩]
noncomputable def r83_6 : List AO := [⟨some 18, none, .mv (.t 0)⟩,
  ⟨some 19, none, .mv (.t 4)⟩,
  ⟨some 20, none, .iad 3 (.t 18) (.t 19)⟩,
  ⟨some 21, none, .fad 1 (.t 20)⟩,
  ⟨some 22, none, .ld false 1 (.t 21)⟩,
  ⟨some 23, none, .bin .lss (.t 22) (.c (.it .i64 0))⟩]
noncomputable def r83_7 : List AO := [⟨some 5, none, .mv (.c (.it .i64 (-1)))⟩]
noncomputable def r83_8 : List (AO × List Nat) := [(⟨some 24, none, .ld true 128 (.t 3)⟩, []),
  (⟨some 25, none, .mv (.t 5)⟩, []),
  (⟨some 26, none, .mv (.t 0)⟩, []),
  (⟨some 27, none, .mv (.t 4)⟩, []),
  (⟨some 28, none, .iad 3 (.t 26) (.t 27)⟩, []),
  (⟨some 29, none, .fad 1 (.t 28)⟩, []),
  (⟨some 30, none, .ld false 1 (.t 29)⟩, []),
  (⟨some 31, none, .cvi .u64 (.t 30)⟩, []),
  (⟨some 32, none, .call 99 [(.t 25), (.t 31)]⟩, [0]),
  (⟨some 33, none, .call 98 [(.t 24), (.t 32)]⟩, []),
  (⟨none, none, .sto 128 (.t 3) (.t 33)⟩, [])]
noncomputable def r83_9 : List AO := [⟨some 10, none, .mv (.t 4)⟩,
  ⟨some 11, none, .bin .add (.t 10) (.c (.it .i64 1))⟩,
  ⟨some 4, none, .mv (.t 11)⟩]
noncomputable def r83_10 : List AO := [⟨some 34, none, .ld true 128 (.t 3)⟩,
  ⟨none, none, .sto 128 (.t 2) (.t 34)⟩]
set_option maxRecDepth 1000000 in
noncomputable def c83 : AFn := ⟨35, [(2, some 128)],
  (.seq (.ops r83_0)
  (.seq (.ops r83_1)
  (.seq (.seq (.ops r83_2)
  (.block 0 (.loop (.seq (.seq (.ops r83_3)
  (.cond (.t 9) .skip
  (.exit 0)))
  (.seq (.block 1 (.seq (.ops r83_4)
  (.cond (.t 17) (.seq (.ops r83_5)
  (.seq (.seq (.ops r83_6)
  (.cond (.t 23) (.ops r83_7)
  .skip))
  (.drw r83_8)))
  .skip)))
  (.ops r83_9))))))
  (.seq (.ops r83_10)
  .ret))))⟩
set_option maxRecDepth 1000000 in
theorem t83 : trF Try.prog 83 = some c83 := by kernel_rfl
/-- regrater/wide.Get (0 s, 1 s) -/
noncomputable def r84_0 : List AO := [⟨some 2, none, .box 113 2 (.c (.agg [(.it .i64 0), (.it .u64 0)]))⟩,
  ⟨some 3, none, .mv (.c (.it .i64 0))⟩]
noncomputable def r84_1 : List AO := [⟨some 5, none, .mv (.t 0)⟩,
  ⟨some 6, none, .lens (.t 5)⟩,
  ⟨some 7, none, .bin .lss (.t 6) (.c (.it .i64 16))⟩,
  ⟨some 4, none, .mv (.t 7)⟩]
noncomputable def r84_2 : List AO := [⟨some 8, none, .bld [(.it .i64 0), (.it .u64 0)] []⟩,
  ⟨none, none, .sto 2 (.t 2) (.t 8)⟩,
  ⟨some 3, none, .mv (.c (.it .i64 2))⟩]
noncomputable def r84_3 : List AO := [⟨some 10, none, .mv (.t 0)⟩,
  ⟨some 11, none, .lens (.t 10)⟩,
  ⟨some 12, none, .bin .gtr (.t 11) (.c (.it .i64 16))⟩,
  ⟨some 9, none, .mv (.t 12)⟩]
noncomputable def r84_4 : List AO := [⟨some 13, none, .bld [(.it .i64 0), (.it .u64 0)] []⟩,
  ⟨none, none, .sto 2 (.t 2) (.t 13)⟩,
  ⟨some 3, none, .mv (.c (.it .i64 3))⟩]
noncomputable def r84_5 : List (AO × List Nat) := [(⟨some 14, none, .mv (.t 0)⟩, []),
  (⟨some 15, none, .sls (.t 14) none (some (.c (.it .i64 8)))⟩, []),
  (⟨some 16, none, .call 100 [(.t 15)]⟩, []),
  (⟨some 17, none, .cvi .i64 (.t 16)⟩, []),
  (⟨some 18, none, .mv (.t 0)⟩, [2]),
  (⟨some 19, none, .sls (.t 18) (some (.c (.it .i64 8))) none⟩, [2]),
  (⟨some 20, none, .call 100 [(.t 19)]⟩, [3]),
  (⟨some 21, none, .bld [(.it .i64 0), (.it .u64 0)] [(0, 1, (.t 17)), (1, 1, (.t 20))]⟩, []),
  (⟨none, none, .sto 2 (.t 2) (.t 21)⟩, []),
  (⟨some 3, none, .mv (.c (.it .i64 0))⟩, [])]
set_option maxRecDepth 1000000 in
noncomputable def c84 : AFn := ⟨22, [(2, some 2), (3, none)],
  (.seq (.ops r84_0)
  (.seq (.block 0 (.seq (.ops r84_1)
  (.cond (.t 4) (.seq (.ops r84_2)
  .ret)
  (.seq (.ops r84_3)
  (.cond (.t 9) (.seq (.ops r84_4)
  .ret)
  .skip)))))
  (.seq (.drw r84_5)
  .ret)))⟩
set_option maxRecDepth 1000000 in
theorem t84 : trF Try.prog 84 = some c84 := by kernel_rfl
/-- regrater/agg.one (0 s, 1 s, 4 r, 5 e) -/
noncomputable def r85_0 : List AO := [⟨some 2, none, .box 88 3 (.c (.agg [(.it .i64 0), (.it .i64 0), (.st [])]))⟩,
  ⟨some 3, none, .mv (.c (.bl false))⟩]
noncomputable def r85_1 : List AO := [⟨some 7, none, .mv (.t 0)⟩,
  ⟨some 8, none, .call 16 [(.t 7)]⟩,
  ⟨some 6, none, .mv (.t 8)⟩,
  ⟨some 9, none, .ext (.t 6) 0⟩,
  ⟨some 10, none, .ext (.t 6) 1⟩,
  ⟨some 4, none, .mv (.t 9)⟩,
  ⟨some 5, none, .mv (.t 10)⟩]
noncomputable def r85_2 : List AO := [⟨some 11, none, .mv (.t 5)⟩,
  ⟨some 12, none, .eq true 1 (.t 11) (.c (.it .i64 0))⟩,
  ⟨some 13, none, .mv (.t 12)⟩,
  ⟨some 14, some (13, false), .mv (.t 4)⟩,
  ⟨some 15, some (13, false), .len (.t 14)⟩,
  ⟨some 16, some (13, false), .eq true 1 (.t 15) (.c (.it .i64 1))⟩,
  ⟨some 17, none, .pick (.t 13) (.c (.bl true)) (.t 16)⟩]
noncomputable def r85_3 : List AO := [⟨some 18, none, .bld [(.it .i64 0), (.it .i64 0), (.st [])] []⟩,
  ⟨none, none, .sto 3 (.t 2) (.t 18)⟩,
  ⟨some 3, none, .mv (.c (.bl false))⟩]
noncomputable def r85_4 : List AO := [⟨some 19, none, .mv (.t 4)⟩,
  ⟨some 20, none, .iad 3 (.t 19) (.c (.it .i64 0))⟩,
  ⟨some 21, none, .ld true 3 (.t 20)⟩,
  ⟨none, none, .sto 3 (.t 2) (.t 21)⟩,
  ⟨some 3, none, .mv (.c (.bl true))⟩]
set_option maxRecDepth 1000000 in
noncomputable def c85 : AFn := ⟨22, [(2, some 3), (3, none)],
  (.seq (.ops r85_0)
  (.seq (.ops r85_1)
  (.seq (.seq (.ops r85_2)
  (.cond (.t 17) (.seq (.ops r85_3)
  .ret)
  .skip))
  (.seq (.ops r85_4)
  .ret))))⟩
set_option maxRecDepth 1000000 in
theorem t85 : trF Try.prog 85 = some c85 := by kernel_rfl
/-- slices.Collect[regrater/row.Row] (0 seq, 1 seq) -/
noncomputable def r86_0 : List AO := [⟨some 2, none, .mv (.c (.sl true 0 []))⟩]
noncomputable def r86_1 : List AO := [⟨some 3, none, .mv (.t 0)⟩,
  ⟨some 4, none, .call 101 [(.c (.sl true 0 [])), (.t 3)]⟩,
  ⟨some 2, none, .mv (.t 4)⟩]
set_option maxRecDepth 1000000 in
noncomputable def c86 : AFn := ⟨5, [(2, none)],
  (.seq (.ops r86_0)
  (.seq (.ops r86_1)
  .ret))⟩
set_option maxRecDepth 1000000 in
theorem t86 : trF Try.prog 86 = some c86 := by kernel_rfl
/-- slices.SortStableFunc[[]regrater/row.Row,regrater/row.Row] (0 x, 1 cmp, 2 x, 3 cmp) -/
noncomputable def r87_0 : List AO := [⟨some 4, none, .mv (.t 0)⟩,
  ⟨some 5, none, .mv (.t 0)⟩,
  ⟨some 6, none, .len (.t 5)⟩,
  ⟨some 7, none, .mv (.t 1)⟩,
  ⟨some 8, none, .call 102 [(.t 4), (.t 6), (.t 7)]⟩]
set_option maxRecDepth 1000000 in
noncomputable def c87 : AFn := ⟨9, [],
  (.ops r87_0)⟩
set_option maxRecDepth 1000000 in
theorem t87 : trF Try.prog 87 = some c87 := by kernel_rfl
/-- slices.Values[[]regrater/row.Row,regrater/row.Row]$1 (0 yield, 2 yield, 3 _, 4 v) -/
noncomputable def r88_0 : List AO := [⟨some 5, none, .ld false 1 (.t 1)⟩,
  ⟨some 6, none, .len (.t 5)⟩,
  ⟨some 7, none, .mv (.c (.it .i64 0))⟩]
noncomputable def r88_1 : List AO := [⟨some 8, none, .bin .lss (.t 7) (.t 6)⟩]
noncomputable def r88_2 : List AO := [⟨some 9, none, .iad 1 (.t 5) (.t 7)⟩,
  ⟨some 10, none, .ld false 1 (.t 9)⟩,
  ⟨some 4, none, .mv (.t 10)⟩]
noncomputable def r88_3 : List AO := [⟨some 11, none, .mv (.t 0)⟩,
  ⟨some 12, none, .mv (.t 4)⟩,
  ⟨some 13, none, .calv (.t 11) [(.t 12)]⟩,
  ⟨some 14, none, .un .not (.t 13)⟩]
noncomputable def r88_4 : List AO := [⟨some 15, none, .bin .add (.t 7) (.c (.it .i64 1))⟩,
  ⟨some 7, none, .mv (.t 15)⟩]
set_option maxRecDepth 1000000 in
noncomputable def c88 : AFn := ⟨16, [],
  (.seq (.ops r88_0)
  (.block 0 (.loop (.seq (.ops r88_1)
  (.seq (.cond (.t 8) .skip
  (.exit 0))
  (.seq (.block 1 (.seq (.ops r88_2)
  (.seq (.ops r88_3)
  (.cond (.t 14) .ret
  .skip))))
  (.ops r88_4)))))))⟩
set_option maxRecDepth 1000000 in
theorem t88 : trF Try.prog 88 = some c88 := by kernel_rfl
/-- regrater/pack.number (0 s, 1 s, 3 n, 4 i) -/
noncomputable def r89_0 : List AO := [⟨some 2, none, .mv (.c (.it .u64 0))⟩]
noncomputable def r89_1 : List AO := [⟨some 3, none, .mv (.c (.it .u64 0))⟩]
noncomputable def r89_2 : List AO := [⟨some 5, none, .mv (.t 0)⟩,
  ⟨some 6, none, .lens (.t 5)⟩,
  ⟨some 7, none, .mv (.c (.it .i64 0))⟩]
noncomputable def r89_3 : List AO := [⟨some 8, none, .bin .lss (.t 7) (.t 6)⟩]
noncomputable def r89_4 : List AO := [⟨some 9, none, .mv (.t 7)⟩,
  ⟨some 4, none, .mv (.t 9)⟩]
noncomputable def r89_5 : List AO := [⟨some 10, none, .mv (.t 3)⟩,
  ⟨some 11, none, .bin .shl (.t 10) (.c (.it .u64 8))⟩,
  ⟨some 12, none, .mv (.t 0)⟩,
  ⟨some 13, none, .mv (.t 4)⟩,
  ⟨some 14, none, .idxs (.t 12) (.t 13)⟩,
  ⟨some 15, none, .cvi .u64 (.t 14)⟩,
  ⟨some 16, none, .bin .or (.t 11) (.t 15)⟩,
  ⟨some 3, none, .mv (.t 16)⟩]
noncomputable def r89_6 : List AO := [⟨some 17, none, .bin .add (.t 7) (.c (.it .i64 1))⟩,
  ⟨some 7, none, .mv (.t 17)⟩]
noncomputable def r89_7 : List AO := [⟨some 18, none, .mv (.t 3)⟩,
  ⟨some 2, none, .mv (.t 18)⟩]
set_option maxRecDepth 1000000 in
noncomputable def c89 : AFn := ⟨19, [(2, none)],
  (.seq (.ops r89_0)
  (.seq (.ops r89_1)
  (.seq (.seq (.ops r89_2)
  (.block 0 (.loop (.seq (.ops r89_3)
  (.seq (.cond (.t 8) .skip
  (.exit 0))
  (.seq (.block 1 (.seq (.ops r89_4)
  (.ops r89_5)))
  (.ops r89_6)))))))
  (.seq (.ops r89_7)
  .ret))))⟩
set_option maxRecDepth 1000000 in
theorem t89 : trF Try.prog 89 = some c89 := by kernel_rfl
/-- cmp.isNaN[int] (0 x, 1 x) -/
noncomputable def r90_0 : List AO := [⟨some 2, none, .mv (.c (.bl false))⟩]
noncomputable def r90_1 : List AO := [⟨some 3, none, .mv (.t 0)⟩,
  ⟨some 4, none, .mv (.t 0)⟩,
  ⟨some 5, none, .eq true 1 (.t 3) (.t 4)⟩,
  ⟨some 2, none, .mv (.t 5)⟩]
set_option maxRecDepth 1000000 in
noncomputable def c90 : AFn := ⟨6, [(2, none)],
  (.seq (.ops r90_0)
  (.seq (.ops r90_1)
  .ret))⟩
set_option maxRecDepth 1000000 in
theorem t90 : trF Try.prog 90 = some c90 := by kernel_rfl
/-- cmp.isNaN[int64] (0 x, 1 x) -/
noncomputable def r91_0 : List AO := [⟨some 2, none, .mv (.c (.bl false))⟩]
noncomputable def r91_1 : List AO := [⟨some 3, none, .mv (.t 0)⟩,
  ⟨some 4, none, .mv (.t 0)⟩,
  ⟨some 5, none, .eq true 1 (.t 3) (.t 4)⟩,
  ⟨some 2, none, .mv (.t 5)⟩]
set_option maxRecDepth 1000000 in
noncomputable def c91 : AFn := ⟨6, [(2, none)],
  (.seq (.ops r91_0)
  (.seq (.ops r91_1)
  .ret))⟩
set_option maxRecDepth 1000000 in
theorem t91 : trF Try.prog 91 = some c91 := by kernel_rfl
/-- cmp.isNaN[string] (0 x, 1 x) -/
noncomputable def r92_0 : List AO := [⟨some 2, none, .mv (.c (.bl false))⟩]
noncomputable def r92_1 : List AO := [⟨some 3, none, .mv (.t 0)⟩,
  ⟨some 4, none, .mv (.t 0)⟩,
  ⟨some 5, none, .eq true 2 (.t 3) (.t 4)⟩,
  ⟨some 2, none, .mv (.t 5)⟩]
set_option maxRecDepth 1000000 in
noncomputable def c92 : AFn := ⟨6, [(2, none)],
  (.seq (.ops r92_0)
  (.seq (.ops r92_1)
  .ret))⟩
set_option maxRecDepth 1000000 in
theorem t92 : trF Try.prog 92 = some c92 := by kernel_rfl
/-- regrater/wide.eight (0 n, 1 n, 3 b, 4 i) -/
noncomputable def r94_0 : List AO := [⟨some 2, none, .mv (.c (.st []))⟩]
noncomputable def r94_1 : List AO := [⟨some 5, none, .mks 5 1 1 [(.it .u8 0)] (.c (.it .i64 8)) (.c (.it .i64 8))⟩,
  ⟨some 3, none, .mv (.t 5)⟩]
noncomputable def r94_2 : List AO := [⟨some 6, none, .mv (.t 3)⟩,
  ⟨some 7, none, .len (.t 6)⟩,
  ⟨some 8, none, .mv (.c (.it .i64 0))⟩]
noncomputable def r94_3 : List AO := [⟨some 9, none, .bin .lss (.t 8) (.t 7)⟩]
noncomputable def r94_4 : List AO := [⟨some 10, none, .mv (.t 8)⟩,
  ⟨some 4, none, .mv (.t 10)⟩]
noncomputable def r94_5 : List AO := [⟨some 11, none, .mv (.t 3)⟩,
  ⟨some 12, none, .mv (.t 4)⟩,
  ⟨some 13, none, .bin .sub (.c (.it .i64 7)) (.t 12)⟩,
  ⟨some 14, none, .mv (.t 0)⟩,
  ⟨some 15, none, .mv (.t 4)⟩,
  ⟨some 16, none, .bin .mul (.c (.it .i64 8)) (.t 15)⟩,
  ⟨some 17, none, .bin .shr (.t 14) (.t 16)⟩,
  ⟨some 18, none, .cvi .u8 (.t 17)⟩,
  ⟨some 19, none, .iad 1 (.t 11) (.t 13)⟩,
  ⟨none, none, .sto 1 (.t 19) (.t 18)⟩]
noncomputable def r94_6 : List AO := [⟨some 20, none, .bin .add (.t 8) (.c (.it .i64 1))⟩,
  ⟨some 8, none, .mv (.t 20)⟩]
noncomputable def r94_7 : List AO := [⟨some 21, none, .mv (.t 3)⟩,
  ⟨some 22, none, .b2s (.t 21)⟩,
  ⟨some 2, none, .mv (.t 22)⟩]
set_option maxRecDepth 1000000 in
noncomputable def c94 : AFn := ⟨23, [(2, none)],
  (.seq (.ops r94_0)
  (.seq (.ops r94_1)
  (.seq (.seq (.ops r94_2)
  (.block 0 (.loop (.seq (.ops r94_3)
  (.seq (.cond (.t 9) .skip
  (.exit 0))
  (.seq (.block 1 (.seq (.ops r94_4)
  (.ops r94_5)))
  (.ops r94_6)))))))
  (.seq (.ops r94_7)
  .ret))))⟩
set_option maxRecDepth 1000000 in
theorem t94 : trF Try.prog 94 = some c94 := by kernel_rfl
/-- slices.insertionSortCmpFunc[regrater/agg.Group] (0 data, 1 a, 2 b, 3 cmp, 4 data, 5 a, 6 b, 7 cmp, 8 i, 9 j) -/
noncomputable def r95_0 : List AO := [⟨some 10, none, .mv (.t 1)⟩,
  ⟨some 11, none, .bin .add (.t 10) (.c (.it .i64 1))⟩,
  ⟨some 8, none, .mv (.t 11)⟩]
noncomputable def r95_1 : List AO := [⟨some 12, none, .mv (.t 8)⟩,
  ⟨some 13, none, .mv (.t 2)⟩,
  ⟨some 14, none, .bin .lss (.t 12) (.t 13)⟩]
noncomputable def r95_2 : List AO := [⟨some 17, none, .mv (.t 8)⟩,
  ⟨some 9, none, .mv (.t 17)⟩]
noncomputable def r95_3 : List (AO × List Nat) := [(⟨some 18, none, .mv (.t 9)⟩, []),
  (⟨some 19, none, .mv (.t 1)⟩, []),
  (⟨some 20, none, .bin .gtr (.t 18) (.t 19)⟩, []),
  (⟨some 21, none, .mv (.t 20)⟩, []),
  (⟨some 22, some (21, true), .mv (.t 3)⟩, []),
  (⟨some 23, some (21, true), .mv (.t 0)⟩, []),
  (⟨some 24, some (21, true), .mv (.t 9)⟩, []),
  (⟨some 25, some (21, true), .iad 3 (.t 23) (.t 24)⟩, []),
  (⟨some 26, some (21, true), .ld true 3 (.t 25)⟩, []),
  (⟨some 27, some (21, true), .mv (.t 0)⟩, []),
  (⟨some 28, some (21, true), .mv (.t 9)⟩, []),
  (⟨some 29, some (21, true), .bin .sub (.t 28) (.c (.it .i64 1))⟩, []),
  (⟨some 30, some (21, true), .iad 3 (.t 27) (.t 29)⟩, []),
  (⟨some 31, some (21, true), .ld true 3 (.t 30)⟩, []),
  (⟨some 32, some (21, true), .calv (.t 22) [(.t 26), (.t 31)]⟩, []),
  (⟨some 33, some (21, true), .bin .lss (.t 32) (.c (.it .i64 0))⟩, []),
  (⟨some 34, none, .pick (.t 21) (.t 33) (.c (.bl false))⟩, [])]
noncomputable def r95_4 : List (AO × List Nat) := [(⟨some 37, none, .mv (.t 0)⟩, []),
  (⟨some 38, none, .mv (.t 9)⟩, []),
  (⟨some 39, none, .mv (.t 0)⟩, []),
  (⟨some 40, none, .mv (.t 9)⟩, []),
  (⟨some 41, none, .bin .sub (.t 40) (.c (.it .i64 1))⟩, []),
  (⟨some 42, none, .mv (.t 0)⟩, []),
  (⟨some 43, none, .mv (.t 9)⟩, []),
  (⟨some 44, none, .bin .sub (.t 43) (.c (.it .i64 1))⟩, []),
  (⟨some 45, none, .iad 3 (.t 42) (.t 44)⟩, []),
  (⟨some 46, none, .ld true 3 (.t 45)⟩, []),
  (⟨some 47, none, .mv (.t 0)⟩, []),
  (⟨some 48, none, .mv (.t 9)⟩, []),
  (⟨some 49, none, .iad 3 (.t 47) (.t 48)⟩, []),
  (⟨some 50, none, .ld true 3 (.t 49)⟩, []),
  (⟨some 51, none, .iad 3 (.t 37) (.t 38)⟩, []),
  (⟨none, none, .sto 3 (.t 51) (.t 46)⟩, [2, 3, 4]),
  (⟨some 52, none, .iad 3 (.t 39) (.t 41)⟩, []),
  (⟨none, none, .sto 3 (.t 52) (.t 50)⟩, [])]
noncomputable def r95_5 : List AO := [⟨some 35, none, .mv (.t 9)⟩,
  ⟨some 36, none, .bin .sub (.t 35) (.c (.it .i64 1))⟩,
  ⟨some 9, none, .mv (.t 36)⟩]
noncomputable def r95_6 : List AO := [⟨some 15, none, .mv (.t 8)⟩,
  ⟨some 16, none, .bin .add (.t 15) (.c (.it .i64 1))⟩,
  ⟨some 8, none, .mv (.t 16)⟩]
set_option maxRecDepth 1000000 in
noncomputable def c95 : AFn := ⟨53, [],
  (.seq (.ops r95_0)
  (.block 0 (.loop (.seq (.seq (.ops r95_1)
  (.cond (.t 14) .skip
  (.exit 0)))
  (.seq (.block 1 (.seq (.ops r95_2)
  (.block 2 (.loop (.seq (.seq (.drw r95_3)
  (.cond (.t 34) .skip
  (.exit 2)))
  (.seq (.block 3 (.drw r95_4))
  (.ops r95_5)))))))
  (.ops r95_6))))))⟩
set_option maxRecDepth 1000000 in
theorem t95 : trF Try.prog 95 = some c95 := by kernel_rfl
end Go.Proofs.Ytkmehmgocelkiaa
