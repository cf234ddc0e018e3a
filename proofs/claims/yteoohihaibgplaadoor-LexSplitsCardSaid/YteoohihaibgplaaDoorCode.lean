/-
  The resolved code of the functions, each held against the program by the kernel.
-/
import Derived.Test.YteoohihaibgplaaDoorAv
import Derived.Test.YteoohihaibgplaaDoorRows
import Derived.KernelRfl
namespace Go.Proofs.YteoohihaibgplaaDoor
open Go.AV
/-- regrater/regraterlaw14.LexNames (0 s, 1 n, 2 s, 3 n, 5 good, 6 l, 7 _, 8 e, 9 one, 10 b, 11 i, 12 m, 13 at, 14 f) -/
noncomputable def r5_0 : List AO := [⟨some 4, none, .mv (.c (.bl false))⟩]
noncomputable def r5_1 : List AO := [⟨some 15, none, .call 20 []⟩,
  ⟨some 16, none, .un .not (.t 15)⟩]
noncomputable def r5_2 : List AO := [⟨some 4, none, .mv (.c (.bl false))⟩]
noncomputable def r5_3 : List AO := [⟨some 17, none, .mv (.t 0)⟩,
  ⟨some 18, none, .mv (.t 0)⟩,
  ⟨some 19, none, .lens (.t 18)⟩,
  ⟨some 20, none, .mnx false [(.t 19), (.c (.it .i64 30))]⟩,
  ⟨some 21, none, .sls (.t 17) none (some (.t 20))⟩,
  ⟨some 0, none, .mv (.t 21)⟩]
noncomputable def r5_4 : List AO := [⟨some 22, none, .mv (.t 0)⟩,
  ⟨some 23, none, .call 21 [(.t 22)]⟩,
  ⟨some 5, none, .mv (.t 23)⟩]
noncomputable def r5_5 : List AO := [⟨some 25, none, .mv (.t 0)⟩,
  ⟨some 26, none, .call 22 [(.t 25)]⟩,
  ⟨some 24, none, .mv (.t 26)⟩,
  ⟨some 27, none, .ext (.t 24) 0⟩,
  ⟨some 28, none, .ext (.t 24) 1⟩,
  ⟨some 29, none, .ext (.t 24) 2⟩,
  ⟨some 6, none, .mv (.t 27)⟩,
  ⟨some 7, none, .mv (.t 28)⟩,
  ⟨some 8, none, .mv (.t 29)⟩]
noncomputable def r5_6 : List AO := [⟨some 30, none, .mv (.t 8)⟩,
  ⟨some 31, none, .eq false 1 (.t 30) (.c (.it .i64 0))⟩,
  ⟨some 32, none, .mv (.t 31)⟩,
  ⟨some 33, some (32, true), .mv (.t 6)⟩,
  ⟨some 34, some (32, true), .len (.t 33)⟩,
  ⟨some 35, some (32, true), .eq false 1 (.t 34) (.c (.it .i64 1))⟩,
  ⟨some 36, none, .pick (.t 32) (.t 35) (.c (.bl false))⟩,
  ⟨some 37, none, .mv (.t 36)⟩,
  ⟨some 38, some (37, true), .mv (.t 6)⟩,
  ⟨some 39, some (37, true), .iad 4 (.t 38) (.c (.it .i64 0))⟩,
  ⟨some 40, some (37, true), .fad 0 (.t 39)⟩,
  ⟨some 41, some (37, true), .ld false 1 (.t 40)⟩,
  ⟨some 42, some (37, true), .eq false 1 (.t 41) (.c (.it .i64 1))⟩,
  ⟨some 43, none, .pick (.t 37) (.t 42) (.c (.bl false))⟩,
  ⟨some 44, none, .mv (.t 43)⟩,
  ⟨some 45, some (44, true), .mv (.t 6)⟩,
  ⟨some 46, some (44, true), .iad 4 (.t 45) (.c (.it .i64 0))⟩,
  ⟨some 47, some (44, true), .fad 1 (.t 46)⟩,
  ⟨some 48, some (44, true), .ld false 1 (.t 47)⟩,
  ⟨some 49, some (44, true), .mv (.t 0)⟩,
  ⟨some 50, some (44, true), .eq false 2 (.t 48) (.t 49)⟩,
  ⟨some 51, none, .pick (.t 44) (.t 50) (.c (.bl false))⟩,
  ⟨some 9, none, .mv (.t 51)⟩]
noncomputable def r5_7 : List AO := [⟨some 52, none, .mv (.t 1)⟩,
  ⟨some 53, none, .cvi .i64 (.t 52)⟩,
  ⟨some 54, none, .bin .rem (.t 53) (.c (.it .i64 4000))⟩,
  ⟨some 55, none, .mks 5 1 1 [(.it .u8 0)] (.t 54) (.t 54)⟩,
  ⟨some 10, none, .mv (.t 55)⟩]
noncomputable def r5_8 : List AO := [⟨some 11, none, .mv (.c (.it .i64 0))⟩]
noncomputable def r5_9 : List AO := [⟨some 56, none, .mv (.t 11)⟩,
  ⟨some 57, none, .mv (.t 10)⟩,
  ⟨some 58, none, .len (.t 57)⟩,
  ⟨some 59, none, .bin .lss (.t 56) (.t 58)⟩]
noncomputable def r5_10 : List AO := [⟨some 62, none, .mv (.t 10)⟩,
  ⟨some 63, none, .mv (.t 11)⟩,
  ⟨some 64, none, .iad 1 (.t 62) (.t 63)⟩,
  ⟨none, none, .sto 1 (.t 64) (.c (.it .u8 40))⟩]
noncomputable def r5_11 : List AO := [⟨some 60, none, .mv (.t 11)⟩,
  ⟨some 61, none, .bin .add (.t 60) (.c (.it .i64 1))⟩,
  ⟨some 11, none, .mv (.t 61)⟩]
noncomputable def r5_12 : List AO := [⟨some 66, none, .mv (.t 10)⟩,
  ⟨some 67, none, .b2s (.t 66)⟩,
  ⟨some 68, none, .call 22 [(.t 67)]⟩,
  ⟨some 65, none, .mv (.t 68)⟩,
  ⟨some 69, none, .ext (.t 65) 0⟩,
  ⟨some 70, none, .ext (.t 65) 1⟩,
  ⟨some 71, none, .ext (.t 65) 2⟩,
  ⟨some 12, none, .mv (.t 69)⟩,
  ⟨some 13, none, .mv (.t 70)⟩,
  ⟨some 14, none, .mv (.t 71)⟩]
noncomputable def r5_13 : List AO := [⟨some 72, none, .mv (.t 10)⟩,
  ⟨some 73, none, .len (.t 72)⟩,
  ⟨some 74, none, .bin .gtr (.t 73) (.c (.it .i64 2000))⟩]
noncomputable def r5_14 : List AO := [⟨some 75, none, .mv (.t 5)⟩,
  ⟨some 76, none, .mv (.t 0)⟩,
  ⟨some 77, none, .call 23 [(.t 76)]⟩,
  ⟨some 78, none, .eq false 0 (.t 75) (.t 77)⟩,
  ⟨some 79, none, .mv (.t 78)⟩,
  ⟨some 80, some (79, true), .mv (.t 9)⟩,
  ⟨some 81, some (79, true), .mv (.t 5)⟩,
  ⟨some 82, some (79, true), .eq false 0 (.t 80) (.t 81)⟩,
  ⟨some 83, none, .pick (.t 79) (.t 82) (.c (.bl false))⟩,
  ⟨some 84, none, .mv (.t 83)⟩,
  ⟨some 85, some (84, true), .mv (.t 14)⟩,
  ⟨some 86, some (84, true), .eq false 1 (.t 85) (.c (.it .i64 3))⟩,
  ⟨some 87, none, .pick (.t 84) (.t 86) (.c (.bl false))⟩,
  ⟨some 88, none, .mv (.t 87)⟩,
  ⟨some 89, some (88, true), .mv (.t 13)⟩,
  ⟨some 90, some (88, true), .eq false 1 (.t 89) (.c (.it .i64 0))⟩,
  ⟨some 91, none, .pick (.t 88) (.t 90) (.c (.bl false))⟩,
  ⟨some 92, none, .mv (.t 91)⟩,
  ⟨some 93, some (92, true), .mv (.t 12)⟩,
  ⟨some 94, some (92, true), .len (.t 93)⟩,
  ⟨some 95, some (92, true), .eq false 1 (.t 94) (.c (.it .i64 0))⟩,
  ⟨some 96, none, .pick (.t 92) (.t 95) (.c (.bl false))⟩,
  ⟨some 4, none, .mv (.t 96)⟩]
noncomputable def r5_15 : List AO := [⟨some 97, none, .mv (.t 5)⟩,
  ⟨some 98, none, .mv (.t 0)⟩,
  ⟨some 99, none, .call 23 [(.t 98)]⟩,
  ⟨some 100, none, .eq false 0 (.t 97) (.t 99)⟩,
  ⟨some 101, none, .mv (.t 100)⟩,
  ⟨some 102, some (101, true), .mv (.t 9)⟩,
  ⟨some 103, some (101, true), .mv (.t 5)⟩,
  ⟨some 104, some (101, true), .eq false 0 (.t 102) (.t 103)⟩,
  ⟨some 105, none, .pick (.t 101) (.t 104) (.c (.bl false))⟩,
  ⟨some 106, none, .mv (.t 105)⟩,
  ⟨some 107, some (106, true), .mv (.t 14)⟩,
  ⟨some 108, some (106, true), .eq false 1 (.t 107) (.c (.it .i64 0))⟩,
  ⟨some 109, none, .pick (.t 106) (.t 108) (.c (.bl false))⟩,
  ⟨some 110, none, .mv (.t 109)⟩,
  ⟨some 111, some (110, true), .mv (.t 12)⟩,
  ⟨some 112, some (110, true), .len (.t 111)⟩,
  ⟨some 113, some (110, true), .mv (.t 10)⟩,
  ⟨some 114, some (110, true), .len (.t 113)⟩,
  ⟨some 115, some (110, true), .eq false 1 (.t 112) (.t 114)⟩,
  ⟨some 116, none, .pick (.t 110) (.t 115) (.c (.bl false))⟩,
  ⟨some 4, none, .mv (.t 116)⟩]
set_option maxRecDepth 1000000 in
noncomputable def c5 : AFn := ⟨117, [(4, none)],
  (.seq (.ops r5_0)
  (.seq (.seq (.ops r5_1)
  (.cond (.t 16) (.seq (.ops r5_2)
  .ret)
  .skip))
  (.seq (.ops r5_3)
  (.seq (.ops r5_4)
  (.seq (.ops r5_5)
  (.seq (.ops r5_6)
  (.seq (.ops r5_7)
  (.seq (.seq (.ops r5_8)
  (.block 0 (.loop (.seq (.seq (.ops r5_9)
  (.cond (.t 59) .skip
  (.exit 0)))
  (.seq (.block 1 (.ops r5_10))
  (.ops r5_11))))))
  (.seq (.ops r5_12)
  (.seq (.seq (.ops r5_13)
  (.cond (.t 74) (.seq (.ops r5_14)
  .ret)
  .skip))
  (.seq (.ops r5_15)
  .ret)))))))))))⟩
set_option maxRecDepth 1000000 in
theorem t5 : trF Tryd.prog 5 = some c5 := by kernel_rfl
/-- regrater/regraterlaw14.LexSplits (0 s, 1 s, 3 l, 4 at, 5 e, 6 m, 7 place, 8 want, 9 i, 10 again, 11 _, 12 f, 13 i) -/
noncomputable def r6_0 : List AO := [⟨some 2, none, .mv (.c (.bl false))⟩]
noncomputable def r6_1 : List AO := [⟨some 14, none, .call 20 []⟩,
  ⟨some 15, none, .un .not (.t 14)⟩]
noncomputable def r6_2 : List AO := [⟨some 2, none, .mv (.c (.bl false))⟩]
noncomputable def r6_3 : List AO := [⟨some 16, none, .mv (.t 0)⟩,
  ⟨some 17, none, .mv (.t 0)⟩,
  ⟨some 18, none, .lens (.t 17)⟩,
  ⟨some 19, none, .mnx false [(.t 18), (.c (.it .i64 300))]⟩,
  ⟨some 20, none, .sls (.t 16) none (some (.t 19))⟩,
  ⟨some 0, none, .mv (.t 20)⟩]
noncomputable def r6_4 : List AO := [⟨some 22, none, .mv (.t 0)⟩,
  ⟨some 23, none, .call 22 [(.t 22)]⟩,
  ⟨some 21, none, .mv (.t 23)⟩,
  ⟨some 24, none, .ext (.t 21) 0⟩,
  ⟨some 25, none, .ext (.t 21) 1⟩,
  ⟨some 26, none, .ext (.t 21) 2⟩,
  ⟨some 3, none, .mv (.t 24)⟩,
  ⟨some 4, none, .mv (.t 25)⟩,
  ⟨some 5, none, .mv (.t 26)⟩]
noncomputable def r6_5 : List AO := [⟨some 28, none, .mv (.t 0)⟩,
  ⟨some 29, none, .call 24 [(.t 28)]⟩,
  ⟨some 27, none, .mv (.t 29)⟩,
  ⟨some 30, none, .ext (.t 27) 0⟩,
  ⟨some 31, none, .ext (.t 27) 1⟩,
  ⟨some 32, none, .ext (.t 27) 2⟩,
  ⟨some 6, none, .mv (.t 30)⟩,
  ⟨some 7, none, .mv (.t 31)⟩,
  ⟨some 8, none, .mv (.t 32)⟩]
noncomputable def r6_6 : List AO := [⟨some 33, none, .mv (.t 5)⟩,
  ⟨some 34, none, .mv (.t 8)⟩,
  ⟨some 35, none, .eq true 1 (.t 33) (.t 34)⟩,
  ⟨some 36, none, .mv (.t 35)⟩,
  ⟨some 37, some (36, false), .mv (.t 4)⟩,
  ⟨some 38, some (36, false), .mv (.t 7)⟩,
  ⟨some 39, some (36, false), .eq true 1 (.t 37) (.t 38)⟩,
  ⟨some 40, none, .pick (.t 36) (.c (.bl true)) (.t 39)⟩,
  ⟨some 41, none, .mv (.t 40)⟩,
  ⟨some 42, some (41, false), .mv (.t 3)⟩,
  ⟨some 43, some (41, false), .len (.t 42)⟩,
  ⟨some 44, some (41, false), .mv (.t 6)⟩,
  ⟨some 45, some (41, false), .len (.t 44)⟩,
  ⟨some 46, some (41, false), .eq true 1 (.t 43) (.t 45)⟩,
  ⟨some 47, none, .pick (.t 41) (.c (.bl true)) (.t 46)⟩]
noncomputable def r6_7 : List AO := [⟨some 2, none, .mv (.c (.bl false))⟩]
noncomputable def r6_8 : List AO := [⟨some 9, none, .mv (.c (.it .i64 0))⟩]
noncomputable def r6_9 : List AO := [⟨some 48, none, .mv (.t 9)⟩,
  ⟨some 49, none, .mv (.t 3)⟩,
  ⟨some 50, none, .len (.t 49)⟩,
  ⟨some 51, none, .bin .lss (.t 48) (.t 50)⟩]
noncomputable def r6_10 : List (AO × List Nat) := [(⟨some 54, none, .mv (.t 3)⟩, []),
  (⟨some 55, none, .mv (.t 9)⟩, []),
  (⟨some 56, none, .iad 4 (.t 54) (.t 55)⟩, []),
  (⟨some 57, none, .ld true 4 (.t 56)⟩, []),
  (⟨some 58, none, .mv (.t 6)⟩, []),
  (⟨some 59, none, .mv (.t 9)⟩, []),
  (⟨some 60, none, .iad 4 (.t 58) (.t 59)⟩, []),
  (⟨some 61, none, .ld true 4 (.t 60)⟩, []),
  (⟨some 62, none, .eqs true [1, 2, 1, 1] (.t 57) (.t 61)⟩, [])]
noncomputable def r6_11 : List AO := [⟨some 2, none, .mv (.c (.bl false))⟩]
noncomputable def r6_12 : List AO := [⟨some 52, none, .mv (.t 9)⟩,
  ⟨some 53, none, .bin .add (.t 52) (.c (.it .i64 1))⟩,
  ⟨some 9, none, .mv (.t 53)⟩]
noncomputable def r6_13 : List AO := [⟨some 63, none, .mv (.t 5)⟩,
  ⟨some 64, none, .eq true 1 (.t 63) (.c (.it .i64 0))⟩]
noncomputable def r6_14 : List AO := [⟨some 2, none, .mv (.c (.bl true))⟩]
noncomputable def r6_15 : List AO := [⟨some 66, none, .mv (.t 3)⟩,
  ⟨some 67, none, .call 25 [(.t 66)]⟩,
  ⟨some 68, none, .call 22 [(.t 67)]⟩,
  ⟨some 65, none, .mv (.t 68)⟩,
  ⟨some 69, none, .ext (.t 65) 0⟩,
  ⟨some 70, none, .ext (.t 65) 1⟩,
  ⟨some 71, none, .ext (.t 65) 2⟩,
  ⟨some 10, none, .mv (.t 69)⟩,
  ⟨some 11, none, .mv (.t 70)⟩,
  ⟨some 12, none, .mv (.t 71)⟩]
noncomputable def r6_16 : List AO := [⟨some 72, none, .mv (.t 3)⟩,
  ⟨some 73, none, .call 25 [(.t 72)]⟩,
  ⟨some 74, none, .lens (.t 73)⟩,
  ⟨some 75, none, .bin .gtr (.t 74) (.c (.it .i64 2000))⟩]
noncomputable def r6_17 : List AO := [⟨some 76, none, .mv (.t 12)⟩,
  ⟨some 77, none, .eq false 1 (.t 76) (.c (.it .i64 3))⟩,
  ⟨some 2, none, .mv (.t 77)⟩]
noncomputable def r6_18 : List AO := [⟨some 78, none, .mv (.t 12)⟩,
  ⟨some 79, none, .eq true 1 (.t 78) (.c (.it .i64 0))⟩,
  ⟨some 80, none, .mv (.t 79)⟩,
  ⟨some 81, some (80, false), .mv (.t 10)⟩,
  ⟨some 82, some (80, false), .len (.t 81)⟩,
  ⟨some 83, some (80, false), .mv (.t 3)⟩,
  ⟨some 84, some (80, false), .len (.t 83)⟩,
  ⟨some 85, some (80, false), .eq true 1 (.t 82) (.t 84)⟩,
  ⟨some 86, none, .pick (.t 80) (.c (.bl true)) (.t 85)⟩]
noncomputable def r6_19 : List AO := [⟨some 2, none, .mv (.c (.bl false))⟩]
noncomputable def r6_20 : List AO := [⟨some 13, none, .mv (.c (.it .i64 0))⟩]
noncomputable def r6_21 : List AO := [⟨some 87, none, .mv (.t 13)⟩,
  ⟨some 88, none, .mv (.t 3)⟩,
  ⟨some 89, none, .len (.t 88)⟩,
  ⟨some 90, none, .bin .lss (.t 87) (.t 89)⟩]
noncomputable def r6_22 : List (AO × List Nat) := [(⟨some 93, none, .mv (.t 10)⟩, []),
  (⟨some 94, none, .mv (.t 13)⟩, []),
  (⟨some 95, none, .iad 4 (.t 93) (.t 94)⟩, []),
  (⟨some 96, none, .fad 0 (.t 95)⟩, []),
  (⟨some 97, none, .ld false 1 (.t 96)⟩, []),
  (⟨some 98, none, .mv (.t 3)⟩, []),
  (⟨some 99, none, .mv (.t 13)⟩, []),
  (⟨some 100, none, .iad 4 (.t 98) (.t 99)⟩, []),
  (⟨some 101, none, .fad 0 (.t 100)⟩, []),
  (⟨some 102, none, .ld false 1 (.t 101)⟩, []),
  (⟨some 103, none, .eq true 1 (.t 97) (.t 102)⟩, []),
  (⟨some 104, none, .mv (.t 103)⟩, []),
  (⟨some 105, some (104, false), .mv (.t 10)⟩, []),
  (⟨some 106, some (104, false), .mv (.t 13)⟩, []),
  (⟨some 107, some (104, false), .iad 4 (.t 105) (.t 106)⟩, []),
  (⟨some 108, some (104, false), .fad 2 (.t 107)⟩, []),
  (⟨some 109, some (104, false), .ld false 1 (.t 108)⟩, []),
  (⟨some 110, some (104, false), .mv (.t 3)⟩, []),
  (⟨some 111, some (104, false), .mv (.t 13)⟩, []),
  (⟨some 112, some (104, false), .iad 4 (.t 110) (.t 111)⟩, []),
  (⟨some 113, some (104, false), .fad 2 (.t 112)⟩, []),
  (⟨some 114, some (104, false), .ld false 1 (.t 113)⟩, []),
  (⟨some 115, some (104, false), .eq true 1 (.t 109) (.t 114)⟩, []),
  (⟨some 116, none, .pick (.t 104) (.c (.bl true)) (.t 115)⟩, []),
  (⟨some 117, none, .mv (.t 116)⟩, []),
  (⟨some 118, some (117, false), .mv (.t 3)⟩, []),
  (⟨some 119, some (117, false), .mv (.t 13)⟩, []),
  (⟨some 120, some (117, false), .iad 4 (.t 118) (.t 119)⟩, []),
  (⟨some 121, some (117, false), .fad 0 (.t 120)⟩, []),
  (⟨some 122, some (117, false), .ld false 1 (.t 121)⟩, []),
  (⟨some 123, some (117, false), .eq true 1 (.t 122) (.c (.it .i64 3))⟩, []),
  (⟨some 124, some (117, false), .mv (.t 123)⟩, []),
  (⟨some 125, some (124, true), .mv (.t 10)⟩, []),
  (⟨some 126, some (124, true), .mv (.t 13)⟩, []),
  (⟨some 127, some (124, true), .iad 4 (.t 125) (.t 126)⟩, []),
  (⟨some 128, some (124, true), .fad 1 (.t 127)⟩, []),
  (⟨some 129, some (124, true), .ld false 1 (.t 128)⟩, []),
  (⟨some 130, some (124, true), .mv (.t 3)⟩, []),
  (⟨some 131, some (124, true), .mv (.t 13)⟩, []),
  (⟨some 132, some (124, true), .iad 4 (.t 130) (.t 131)⟩, []),
  (⟨some 133, some (124, true), .fad 1 (.t 132)⟩, []),
  (⟨some 134, some (124, true), .ld false 1 (.t 133)⟩, []),
  (⟨some 135, some (124, true), .eq true 2 (.t 129) (.t 134)⟩, []),
  (⟨some 136, some (117, false), .pick (.t 124) (.t 135) (.c (.bl false))⟩, []),
  (⟨some 137, none, .pick (.t 117) (.c (.bl true)) (.t 136)⟩, [])]
noncomputable def r6_23 : List AO := [⟨some 2, none, .mv (.c (.bl false))⟩]
noncomputable def r6_24 : List AO := [⟨some 91, none, .mv (.t 13)⟩,
  ⟨some 92, none, .bin .add (.t 91) (.c (.it .i64 1))⟩,
  ⟨some 13, none, .mv (.t 92)⟩]
noncomputable def r6_25 : List AO := [⟨some 2, none, .mv (.c (.bl true))⟩]
set_option maxRecDepth 1000000 in
noncomputable def c6 : AFn := ⟨138, [(2, none)],
  (.seq (.ops r6_0)
  (.seq (.seq (.ops r6_1)
  (.cond (.t 15) (.seq (.ops r6_2)
  .ret)
  .skip))
  (.seq (.ops r6_3)
  (.seq (.ops r6_4)
  (.seq (.ops r6_5)
  (.seq (.seq (.ops r6_6)
  (.cond (.t 47) (.seq (.ops r6_7)
  .ret)
  .skip))
  (.seq (.seq (.ops r6_8)
  (.block 0 (.loop (.seq (.seq (.ops r6_9)
  (.cond (.t 51) .skip
  (.exit 0)))
  (.seq (.block 1 (.seq (.drw r6_10)
  (.cond (.t 62) (.seq (.ops r6_11)
  .ret)
  .skip)))
  (.ops r6_12))))))
  (.seq (.seq (.ops r6_13)
  (.cond (.t 64) (.seq (.ops r6_14)
  .ret)
  .skip))
  (.seq (.ops r6_15)
  (.seq (.seq (.ops r6_16)
  (.cond (.t 75) (.seq (.ops r6_17)
  .ret)
  .skip))
  (.seq (.seq (.ops r6_18)
  (.cond (.t 86) (.seq (.ops r6_19)
  .ret)
  .skip))
  (.seq (.seq (.ops r6_20)
  (.block 2 (.loop (.seq (.seq (.ops r6_21)
  (.cond (.t 90) .skip
  (.exit 2)))
  (.seq (.block 3 (.seq (.drw r6_22)
  (.cond (.t 137) (.seq (.ops r6_23)
  .ret)
  .skip)))
  (.ops r6_24))))))
  (.seq (.ops r6_25)
  .ret)))))))))))))⟩
set_option maxRecDepth 1000000 in
theorem t6 : trF Tryd.prog 6 = some c6 := by kernel_rfl
/-- regrater/regraterlaw14.speaks (1 l, 2 _, 3 e) -/
noncomputable def r20_0 : List AO := [⟨some 0, none, .mv (.c (.bl false))⟩]
noncomputable def r20_1 : List AO := [⟨some 5, none, .call 22 [(.c (.st [97, 60, 61, 49]))]⟩,
  ⟨some 4, none, .mv (.t 5)⟩,
  ⟨some 6, none, .ext (.t 4) 0⟩,
  ⟨some 7, none, .ext (.t 4) 1⟩,
  ⟨some 8, none, .ext (.t 4) 2⟩,
  ⟨some 1, none, .mv (.t 6)⟩,
  ⟨some 2, none, .mv (.t 7)⟩,
  ⟨some 3, none, .mv (.t 8)⟩]
noncomputable def r20_2 : List AO := [⟨some 9, none, .mv (.t 3)⟩,
  ⟨some 10, none, .eq false 1 (.t 9) (.c (.it .i64 0))⟩,
  ⟨some 11, none, .mv (.t 10)⟩,
  ⟨some 12, some (11, true), .mv (.t 1)⟩,
  ⟨some 13, some (11, true), .len (.t 12)⟩,
  ⟨some 14, some (11, true), .eq false 1 (.t 13) (.c (.it .i64 3))⟩,
  ⟨some 15, none, .pick (.t 11) (.t 14) (.c (.bl false))⟩,
  ⟨some 16, none, .mv (.t 15)⟩,
  ⟨some 17, some (16, true), .mv (.t 1)⟩,
  ⟨some 18, some (16, true), .iad 4 (.t 17) (.c (.it .i64 0))⟩,
  ⟨some 19, some (16, true), .ld true 4 (.t 18)⟩,
  ⟨some 20, some (16, true), .bld [(.it .i64 0), (.st []), (.it .i64 0), (.it .i64 0)] [(0, 1, (.c (.it .i64 1))), (1, 1, (.c (.st [97])))]⟩,
  ⟨some 21, some (16, true), .eqs false [1, 2, 1, 1] (.t 19) (.t 20)⟩,
  ⟨some 22, none, .pick (.t 16) (.t 21) (.c (.bl false))⟩,
  ⟨some 23, none, .mv (.t 22)⟩,
  ⟨some 24, some (23, true), .mv (.t 1)⟩,
  ⟨some 25, some (23, true), .iad 4 (.t 24) (.c (.it .i64 1))⟩,
  ⟨some 26, some (23, true), .fad 1 (.t 25)⟩,
  ⟨some 27, some (23, true), .ld false 1 (.t 26)⟩,
  ⟨some 28, some (23, true), .eq false 2 (.t 27) (.c (.st [60, 61]))⟩,
  ⟨some 29, none, .pick (.t 23) (.t 28) (.c (.bl false))⟩,
  ⟨some 30, none, .mv (.t 29)⟩,
  ⟨some 31, some (30, true), .mv (.t 1)⟩,
  ⟨some 32, some (30, true), .iad 4 (.t 31) (.c (.it .i64 2))⟩,
  ⟨some 33, some (30, true), .fad 2 (.t 32)⟩,
  ⟨some 34, some (30, true), .ld false 1 (.t 33)⟩,
  ⟨some 35, some (30, true), .eq false 1 (.t 34) (.c (.it .i64 1))⟩,
  ⟨some 36, none, .pick (.t 30) (.t 35) (.c (.bl false))⟩,
  ⟨some 37, none, .mv (.t 36)⟩,
  ⟨some 38, some (37, true), .mv (.t 1)⟩,
  ⟨some 39, some (37, true), .iad 4 (.t 38) (.c (.it .i64 2))⟩,
  ⟨some 40, some (37, true), .fad 3 (.t 39)⟩,
  ⟨some 41, some (37, true), .ld false 1 (.t 40)⟩,
  ⟨some 42, some (37, true), .eq false 1 (.t 41) (.c (.it .i64 3))⟩,
  ⟨some 43, none, .pick (.t 37) (.t 42) (.c (.bl false))⟩,
  ⟨some 44, none, .mv (.t 43)⟩,
  ⟨some 45, some (44, true), .call 21 [(.c (.st [97, 95, 49]))]⟩,
  ⟨some 46, none, .pick (.t 44) (.t 45) (.c (.bl false))⟩,
  ⟨some 0, none, .mv (.t 46)⟩]
set_option maxRecDepth 1000000 in
noncomputable def c20 : AFn := ⟨47, [(0, none)],
  (.seq (.ops r20_0)
  (.seq (.ops r20_1)
  (.seq (.ops r20_2)
  .ret)))⟩
set_option maxRecDepth 1000000 in
theorem t20 : trF Tryd.prog 20 = some c20 := by kernel_rfl
/-- regrater/lex.Good (0 name, 1 name) -/
noncomputable def r21_0 : List AO := [⟨some 2, none, .mv (.c (.bl false))⟩]
noncomputable def r21_1 : List AO := [⟨some 3, none, .mv (.t 0)⟩,
  ⟨some 4, none, .eq true 2 (.t 3) (.c (.st []))⟩,
  ⟨some 5, none, .mv (.t 4)⟩,
  ⟨some 6, some (5, true), .mv (.t 0)⟩,
  ⟨some 7, some (5, true), .lens (.t 6)⟩,
  ⟨some 8, some (5, true), .bin .leq (.t 7) (.c (.it .i64 16))⟩,
  ⟨some 9, none, .pick (.t 5) (.t 8) (.c (.bl false))⟩,
  ⟨some 10, none, .mv (.t 9)⟩,
  ⟨some 11, some (10, true), .mv (.t 0)⟩,
  ⟨some 12, some (10, true), .idxs (.t 11) (.c (.it .i64 0))⟩,
  ⟨some 13, some (10, true), .call 35 [(.t 12)]⟩,
  ⟨some 14, none, .pick (.t 10) (.t 13) (.c (.bl false))⟩,
  ⟨some 15, none, .mv (.t 14)⟩,
  ⟨some 16, some (15, true), .mv (.t 0)⟩,
  ⟨some 17, some (15, true), .call 36 [(.t 16), (.c (.fn (.func 37) [] []))]⟩,
  ⟨some 18, some (15, true), .mv (.t 0)⟩,
  ⟨some 19, some (15, true), .eq false 2 (.t 17) (.t 18)⟩,
  ⟨some 20, none, .pick (.t 15) (.t 19) (.c (.bl false))⟩,
  ⟨some 2, none, .mv (.t 20)⟩]
set_option maxRecDepth 1000000 in
noncomputable def c21 : AFn := ⟨21, [(2, none)],
  (.seq (.ops r21_0)
  (.seq (.ops r21_1)
  .ret))⟩
set_option maxRecDepth 1000000 in
theorem t21 : trF Tryd.prog 21 = some c21 := by kernel_rfl
/-- regrater/lex.Split (0 s, 1 s, 5 out, 6 at, 7 t, 8 n, 9 e) -/
noncomputable def r22_0 : List AO := [⟨some 2, none, .mv (.c (.sl true 0 []))⟩,
  ⟨some 3, none, .mv (.c (.it .i64 0))⟩,
  ⟨some 4, none, .mv (.c (.it .i64 0))⟩]
noncomputable def r22_1 : List AO := [⟨some 10, none, .mv (.t 0)⟩,
  ⟨some 11, none, .lens (.t 10)⟩,
  ⟨some 12, none, .bin .gtr (.t 11) (.c (.it .i64 2000))⟩]
noncomputable def r22_2 : List AO := [⟨some 2, none, .mv (.c (.sl true 0 []))⟩,
  ⟨some 3, none, .mv (.c (.it .i64 0))⟩,
  ⟨some 4, none, .mv (.c (.it .i64 3))⟩]
noncomputable def r22_3 : List AO := [⟨some 5, none, .mv (.c (.sl true 0 []))⟩]
noncomputable def r22_4 : List AO := [⟨some 13, none, .mv (.t 0)⟩,
  ⟨some 14, none, .call 36 [(.t 13), (.c (.fn (.func 38) [] []))]⟩,
  ⟨some 15, none, .lens (.t 14)⟩,
  ⟨some 6, none, .mv (.t 15)⟩]
noncomputable def r22_5 : List AO := [⟨some 16, none, .mv (.t 6)⟩,
  ⟨some 17, none, .mv (.t 0)⟩,
  ⟨some 18, none, .lens (.t 17)⟩,
  ⟨some 19, none, .bin .lss (.t 16) (.t 18)⟩]
noncomputable def r22_6 : List AO := [⟨some 28, none, .mv (.t 0)⟩,
  ⟨some 29, none, .mv (.t 6)⟩,
  ⟨some 30, none, .sls (.t 28) (some (.t 29)) none⟩,
  ⟨some 31, none, .call 39 [(.t 30)]⟩,
  ⟨some 27, none, .mv (.t 31)⟩,
  ⟨some 32, none, .ext (.t 27) 0⟩,
  ⟨some 33, none, .ext (.t 27) 1⟩,
  ⟨some 34, none, .ext (.t 27) 2⟩,
  ⟨some 7, none, .box 55 4 (.c (.agg [(.it .i64 0), (.st []), (.it .i64 0), (.it .i64 0)]))⟩,
  ⟨none, none, .sto 4 (.t 7) (.t 32)⟩,
  ⟨some 8, none, .mv (.t 33)⟩,
  ⟨some 9, none, .mv (.t 34)⟩]
noncomputable def r22_7 : List AO := [⟨some 35, none, .mv (.t 9)⟩,
  ⟨some 36, none, .eq true 1 (.t 35) (.c (.it .i64 0))⟩]
noncomputable def r22_8 : List AO := [⟨some 37, none, .mv (.t 6)⟩,
  ⟨some 38, none, .mv (.t 9)⟩,
  ⟨some 2, none, .mv (.c (.sl true 0 []))⟩,
  ⟨some 3, none, .mv (.t 37)⟩,
  ⟨some 4, none, .mv (.t 38)⟩]
noncomputable def r22_9 : List AO := [⟨some 39, none, .mv (.t 6)⟩,
  ⟨some 40, none, .fad 3 (.t 7)⟩,
  ⟨none, none, .sto 1 (.t 40) (.t 39)⟩]
noncomputable def r22_10 : List AO := [⟨some 41, none, .mv (.t 5)⟩,
  ⟨some 42, none, .ld true 4 (.t 7)⟩,
  ⟨some 43, none, .bsl 55 4 1 [(.it .i64 0), (.st []), (.it .i64 0), (.it .i64 0)] [(0, 4, (.t 42))]⟩,
  ⟨some 44, none, .app 55 4 40 (.t 41) (.t 43)⟩,
  ⟨some 5, none, .mv (.t 44)⟩]
noncomputable def r22_11 : List AO := [⟨some 45, none, .mv (.t 6)⟩,
  ⟨some 46, none, .mv (.t 8)⟩,
  ⟨some 47, none, .bin .add (.t 45) (.t 46)⟩,
  ⟨some 6, none, .mv (.t 47)⟩]
noncomputable def r22_12 : List AO := [⟨some 20, none, .mv (.t 6)⟩,
  ⟨some 21, none, .mv (.t 0)⟩,
  ⟨some 22, none, .mv (.t 6)⟩,
  ⟨some 23, none, .sls (.t 21) (some (.t 22)) none⟩,
  ⟨some 24, none, .call 36 [(.t 23), (.c (.fn (.func 38) [] []))]⟩,
  ⟨some 25, none, .lens (.t 24)⟩,
  ⟨some 26, none, .bin .add (.t 20) (.t 25)⟩,
  ⟨some 6, none, .mv (.t 26)⟩]
noncomputable def r22_13 : List AO := [⟨some 48, none, .mv (.t 5)⟩,
  ⟨some 2, none, .mv (.t 48)⟩,
  ⟨some 3, none, .mv (.c (.it .i64 0))⟩,
  ⟨some 4, none, .mv (.c (.it .i64 0))⟩]
set_option maxRecDepth 1000000 in
noncomputable def c22 : AFn := ⟨49, [(2, none), (3, none), (4, none)],
  (.seq (.ops r22_0)
  (.seq (.seq (.ops r22_1)
  (.cond (.t 12) (.seq (.ops r22_2)
  .ret)
  .skip))
  (.seq (.ops r22_3)
  (.seq (.seq (.ops r22_4)
  (.block 0 (.loop (.seq (.seq (.ops r22_5)
  (.cond (.t 19) .skip
  (.exit 0)))
  (.seq (.block 1 (.seq (.ops r22_6)
  (.seq (.seq (.ops r22_7)
  (.cond (.t 36) (.seq (.ops r22_8)
  .ret)
  .skip))
  (.seq (.ops r22_9)
  (.seq (.ops r22_10)
  (.ops r22_11))))))
  (.ops r22_12))))))
  (.seq (.ops r22_13)
  .ret)))))⟩
set_option maxRecDepth 1000000 in
theorem t22 : trF Tryd.prog 22 = some c22 := by kernel_rfl
/-- regrater/regraterref14.Good (0 s, 1 s, 3 i, 4 k) -/
noncomputable def r23_0 : List AO := [⟨some 2, none, .mv (.c (.bl false))⟩]
noncomputable def r23_1 : List AO := [⟨some 5, none, .mv (.t 0)⟩,
  ⟨some 6, none, .lens (.t 5)⟩,
  ⟨some 7, none, .bin .lss (.t 6) (.c (.it .i64 1))⟩,
  ⟨some 8, none, .mv (.t 7)⟩,
  ⟨some 9, some (8, false), .mv (.t 0)⟩,
  ⟨some 10, some (8, false), .lens (.t 9)⟩,
  ⟨some 11, some (8, false), .bin .gtr (.t 10) (.c (.it .i64 16))⟩,
  ⟨some 12, none, .pick (.t 8) (.c (.bl true)) (.t 11)⟩,
  ⟨some 13, none, .mv (.t 12)⟩,
  ⟨some 14, some (13, false), .mv (.t 0)⟩,
  ⟨some 15, some (13, false), .idxs (.t 14) (.c (.it .i64 0))⟩,
  ⟨some 16, some (13, false), .call 40 [(.t 15)]⟩,
  ⟨some 17, some (13, false), .eq true 1 (.t 16) (.c (.it .i64 1))⟩,
  ⟨some 18, none, .pick (.t 13) (.c (.bl true)) (.t 17)⟩]
noncomputable def r23_2 : List AO := [⟨some 2, none, .mv (.c (.bl false))⟩]
noncomputable def r23_3 : List AO := [⟨some 3, none, .mv (.c (.it .i64 0))⟩]
noncomputable def r23_4 : List AO := [⟨some 19, none, .mv (.t 3)⟩,
  ⟨some 20, none, .mv (.t 0)⟩,
  ⟨some 21, none, .lens (.t 20)⟩,
  ⟨some 22, none, .bin .lss (.t 19) (.t 21)⟩]
noncomputable def r23_5 : List AO := [⟨some 25, none, .mv (.t 0)⟩,
  ⟨some 26, none, .mv (.t 3)⟩,
  ⟨some 27, none, .idxs (.t 25) (.t 26)⟩,
  ⟨some 28, none, .call 40 [(.t 27)]⟩,
  ⟨some 4, none, .mv (.t 28)⟩]
noncomputable def r23_6 : List AO := [⟨some 29, none, .mv (.t 4)⟩,
  ⟨some 30, none, .eq true 1 (.t 29) (.c (.it .i64 1))⟩,
  ⟨some 31, none, .mv (.t 30)⟩,
  ⟨some 32, some (31, true), .mv (.t 4)⟩,
  ⟨some 33, some (31, true), .eq true 1 (.t 32) (.c (.it .i64 3))⟩,
  ⟨some 34, none, .pick (.t 31) (.t 33) (.c (.bl false))⟩,
  ⟨some 35, none, .mv (.t 34)⟩,
  ⟨some 36, some (35, true), .mv (.t 4)⟩,
  ⟨some 37, some (35, true), .eq true 1 (.t 36) (.c (.it .i64 4))⟩,
  ⟨some 38, none, .pick (.t 35) (.t 37) (.c (.bl false))⟩]
noncomputable def r23_7 : List AO := [⟨some 2, none, .mv (.c (.bl false))⟩]
noncomputable def r23_8 : List AO := [⟨some 23, none, .mv (.t 3)⟩,
  ⟨some 24, none, .bin .add (.t 23) (.c (.it .i64 1))⟩,
  ⟨some 3, none, .mv (.t 24)⟩]
noncomputable def r23_9 : List AO := [⟨some 2, none, .mv (.c (.bl true))⟩]
set_option maxRecDepth 1000000 in
noncomputable def c23 : AFn := ⟨39, [(2, none)],
  (.seq (.ops r23_0)
  (.seq (.seq (.ops r23_1)
  (.cond (.t 18) (.seq (.ops r23_2)
  .ret)
  .skip))
  (.seq (.seq (.ops r23_3)
  (.block 0 (.loop (.seq (.seq (.ops r23_4)
  (.cond (.t 22) .skip
  (.exit 0)))
  (.seq (.block 1 (.seq (.ops r23_5)
  (.seq (.ops r23_6)
  (.cond (.t 38) (.seq (.ops r23_7)
  .ret)
  .skip))))
  (.ops r23_8))))))
  (.seq (.ops r23_9)
  .ret))))⟩
set_option maxRecDepth 1000000 in
theorem t23 : trF Tryd.prog 23 = some c23 := by kernel_rfl
/-- regrater/regraterref14.Split (0 s, 1 s, 5 out, 6 at, 7 t, 8 n, 9 u, 10 i, 11 i, 12 x) -/
noncomputable def r24_0 : List AO := [⟨some 2, none, .mv (.c (.sl true 0 []))⟩,
  ⟨some 3, none, .mv (.c (.it .i64 0))⟩,
  ⟨some 4, none, .mv (.c (.it .i64 0))⟩]
noncomputable def r24_1 : List AO := [⟨some 13, none, .mv (.t 0)⟩,
  ⟨some 14, none, .lens (.t 13)⟩,
  ⟨some 15, none, .bin .gtr (.t 14) (.c (.it .i64 2000))⟩]
noncomputable def r24_2 : List AO := [⟨some 2, none, .mv (.c (.sl true 0 []))⟩,
  ⟨some 3, none, .mv (.c (.it .i64 0))⟩,
  ⟨some 4, none, .mv (.c (.it .i64 3))⟩]
noncomputable def r24_3 : List AO := [⟨some 5, none, .mv (.c (.sl true 0 []))⟩]
noncomputable def r24_4 : List AO := [⟨some 6, none, .mv (.c (.it .i64 0))⟩]
noncomputable def r24_5 : List AO := [⟨some 16, none, .mv (.t 6)⟩,
  ⟨some 17, none, .mv (.t 0)⟩,
  ⟨some 18, none, .lens (.t 17)⟩,
  ⟨some 19, none, .bin .lss (.t 16) (.t 18)⟩]
noncomputable def r24_6 : List AO := [⟨some 20, none, .mv (.t 6)⟩,
  ⟨some 21, none, .bld [(.it .i64 0), (.st []), (.it .i64 0), (.it .i64 0)] [(3, 1, (.t 20))]⟩,
  ⟨some 7, none, .box 61 4 (.c (.agg [(.it .i64 0), (.st []), (.it .i64 0), (.it .i64 0)]))⟩,
  ⟨none, none, .sto 4 (.t 7) (.t 21)⟩]
noncomputable def r24_7 : List AO := [⟨some 8, none, .mv (.c (.it .i64 0))⟩]
noncomputable def r24_8 : List AO := [⟨some 22, none, .mv (.t 0)⟩,
  ⟨some 23, none, .mv (.t 6)⟩,
  ⟨some 24, none, .idxs (.t 22) (.t 23)⟩,
  ⟨some 25, none, .call 40 [(.t 24)]⟩]
noncomputable def r24_9 : List AO := [⟨some 39, none, .eq false 1 (.t 25) (.c (.it .i64 6))⟩,
  ⟨some 38, none, .mv (.t 39)⟩]
noncomputable def r24_10 : List AO := [⟨some 40, none, .mv (.t 6)⟩,
  ⟨some 41, none, .bin .add (.t 40) (.c (.it .i64 1))⟩,
  ⟨some 6, none, .mv (.t 41)⟩]
noncomputable def r24_11 : List AO := [⟨some 43, none, .eq false 1 (.t 25) (.c (.it .i64 1))⟩,
  ⟨some 42, none, .mv (.t 43)⟩]
noncomputable def r24_12 : List AO := [⟨some 44, none, .mv (.t 0)⟩,
  ⟨some 45, none, .mv (.t 6)⟩,
  ⟨some 46, none, .call 41 [(.t 44), (.t 45), (.c (.it .i64 1)), (.c (.it .i64 3)), (.c (.it .i64 4))]⟩,
  ⟨some 8, none, .mv (.t 46)⟩]
noncomputable def r24_13 : List (AO × List Nat) := [(⟨some 47, none, .mv (.t 0)⟩, []),
  (⟨some 48, none, .mv (.t 6)⟩, []),
  (⟨some 49, none, .mv (.t 6)⟩, []),
  (⟨some 50, none, .mv (.t 8)⟩, []),
  (⟨some 51, none, .bin .add (.t 49) (.t 50)⟩, []),
  (⟨some 52, none, .sls (.t 47) (some (.t 48)) (some (.t 51))⟩, []),
  (⟨some 53, none, .fad 0 (.t 7)⟩, []),
  (⟨none, none, .sto 1 (.t 53) (.c (.it .i64 1))⟩, [0, 1, 2, 3, 4, 5]),
  (⟨some 54, none, .fad 1 (.t 7)⟩, []),
  (⟨none, none, .sto 1 (.t 54) (.t 52)⟩, [])]
noncomputable def r24_14 : List AO := [⟨some 55, none, .mv (.t 8)⟩,
  ⟨some 56, none, .bin .gtr (.t 55) (.c (.it .i64 16))⟩]
noncomputable def r24_15 : List AO := [⟨some 57, none, .mv (.t 6)⟩,
  ⟨some 2, none, .mv (.c (.sl true 0 []))⟩,
  ⟨some 3, none, .mv (.t 57)⟩,
  ⟨some 4, none, .mv (.c (.it .i64 8))⟩]
noncomputable def r24_16 : List AO := [⟨some 59, none, .eq false 1 (.t 25) (.c (.it .i64 2))⟩,
  ⟨some 58, none, .mv (.t 59)⟩]
noncomputable def r24_17 : List AO := [⟨some 60, none, .mv (.t 0)⟩,
  ⟨some 61, none, .mv (.t 6)⟩,
  ⟨some 62, none, .call 41 [(.t 60), (.t 61), (.c (.it .i64 2)), (.c (.it .i64 2)), (.c (.it .i64 2))]⟩,
  ⟨some 8, none, .mv (.t 62)⟩]
noncomputable def r24_18 : List (AO × List Nat) := [(⟨some 63, none, .mv (.t 0)⟩, []),
  (⟨some 64, none, .mv (.t 6)⟩, []),
  (⟨some 65, none, .mv (.t 6)⟩, []),
  (⟨some 66, none, .mv (.t 8)⟩, []),
  (⟨some 67, none, .bin .add (.t 65) (.t 66)⟩, []),
  (⟨some 68, none, .sls (.t 63) (some (.t 64)) (some (.t 67))⟩, []),
  (⟨some 69, none, .fad 0 (.t 7)⟩, []),
  (⟨none, none, .sto 1 (.t 69) (.c (.it .i64 2))⟩, [0, 1, 2, 3, 4, 5]),
  (⟨some 70, none, .fad 1 (.t 7)⟩, []),
  (⟨none, none, .sto 1 (.t 70) (.t 68)⟩, [])]
noncomputable def r24_19 : List AO := [⟨some 71, none, .mv (.t 8)⟩,
  ⟨some 72, none, .bin .gtr (.t 71) (.c (.it .i64 16))⟩]
noncomputable def r24_20 : List AO := [⟨some 73, none, .mv (.t 6)⟩,
  ⟨some 2, none, .mv (.c (.sl true 0 []))⟩,
  ⟨some 3, none, .mv (.t 73)⟩,
  ⟨some 4, none, .mv (.c (.it .i64 8))⟩]
noncomputable def r24_21 : List AO := [⟨some 75, none, .eq false 1 (.t 25) (.c (.it .i64 3))⟩,
  ⟨some 74, none, .mv (.t 75)⟩]
noncomputable def r24_22 : List AO := [⟨some 76, none, .mv (.t 0)⟩,
  ⟨some 77, none, .mv (.t 6)⟩,
  ⟨some 78, none, .call 41 [(.t 76), (.t 77), (.c (.it .i64 3)), (.c (.it .i64 3)), (.c (.it .i64 3))]⟩,
  ⟨some 8, none, .mv (.t 78)⟩]
noncomputable def r24_23 : List (AO × List Nat) := [(⟨some 79, none, .mv (.t 0)⟩, []),
  (⟨some 80, none, .mv (.t 6)⟩, []),
  (⟨some 81, none, .mv (.t 6)⟩, []),
  (⟨some 82, none, .mv (.t 8)⟩, []),
  (⟨some 83, none, .bin .add (.t 81) (.t 82)⟩, []),
  (⟨some 84, none, .sls (.t 79) (some (.t 80)) (some (.t 83))⟩, []),
  (⟨some 85, none, .fad 0 (.t 7)⟩, []),
  (⟨none, none, .sto 1 (.t 85) (.c (.it .i64 3))⟩, [0, 1, 2, 3, 4, 5]),
  (⟨some 86, none, .fad 1 (.t 7)⟩, []),
  (⟨none, none, .sto 1 (.t 86) (.t 84)⟩, [])]
noncomputable def r24_24 : List AO := [⟨some 87, none, .mv (.t 8)⟩,
  ⟨some 88, none, .bin .gtr (.t 87) (.c (.it .i64 19))⟩]
noncomputable def r24_25 : List AO := [⟨some 89, none, .mv (.t 6)⟩,
  ⟨some 2, none, .mv (.c (.sl true 0 []))⟩,
  ⟨some 3, none, .mv (.t 89)⟩,
  ⟨some 4, none, .mv (.c (.it .i64 8))⟩]
noncomputable def r24_26 : List AO := [⟨some 9, none, .mv (.c (.it .u64 0))⟩]
noncomputable def r24_27 : List AO := [⟨some 10, none, .mv (.c (.it .i64 0))⟩]
noncomputable def r24_28 : List AO := [⟨some 90, none, .mv (.t 10)⟩,
  ⟨some 91, none, .mv (.t 8)⟩,
  ⟨some 92, none, .bin .lss (.t 90) (.t 91)⟩]
noncomputable def r24_29 : List AO := [⟨some 95, none, .mv (.t 9)⟩,
  ⟨some 96, none, .bin .mul (.c (.it .u64 10)) (.t 95)⟩,
  ⟨some 97, none, .mv (.t 0)⟩,
  ⟨some 98, none, .mv (.t 6)⟩,
  ⟨some 99, none, .mv (.t 10)⟩,
  ⟨some 100, none, .bin .add (.t 98) (.t 99)⟩,
  ⟨some 101, none, .idxs (.t 97) (.t 100)⟩,
  ⟨some 102, none, .bin .sub (.t 101) (.c (.it .u8 48))⟩,
  ⟨some 103, none, .cvi .u64 (.t 102)⟩,
  ⟨some 104, none, .bin .add (.t 96) (.t 103)⟩,
  ⟨some 9, none, .mv (.t 104)⟩]
noncomputable def r24_30 : List AO := [⟨some 93, none, .mv (.t 10)⟩,
  ⟨some 94, none, .bin .add (.t 93) (.c (.it .i64 1))⟩,
  ⟨some 10, none, .mv (.t 94)⟩]
noncomputable def r24_31 : List AO := [⟨some 105, none, .mv (.t 9)⟩,
  ⟨some 106, none, .bin .gtr (.t 105) (.c (.it .u64 9223372036854775807))⟩]
noncomputable def r24_32 : List AO := [⟨some 107, none, .mv (.t 6)⟩,
  ⟨some 2, none, .mv (.c (.sl true 0 []))⟩,
  ⟨some 3, none, .mv (.t 107)⟩,
  ⟨some 4, none, .mv (.c (.it .i64 8))⟩]
noncomputable def r24_33 : List AO := [⟨some 108, none, .mv (.t 9)⟩,
  ⟨some 109, none, .cvi .i64 (.t 108)⟩,
  ⟨some 110, none, .fad 2 (.t 7)⟩,
  ⟨none, none, .sto 1 (.t 110) (.t 109)⟩]
noncomputable def r24_34 : List AO := [⟨some 112, none, .eq false 1 (.t 25) (.c (.it .i64 5))⟩,
  ⟨some 111, none, .mv (.t 112)⟩]
noncomputable def r24_35 : List AO := [⟨some 113, none, .fad 0 (.t 7)⟩,
  ⟨none, none, .sto 1 (.t 113) (.c (.it .i64 4))⟩]
noncomputable def r24_36 : List AO := [⟨some 114, none, .mv (.t 6)⟩,
  ⟨some 115, none, .bin .add (.t 114) (.c (.it .i64 1))⟩,
  ⟨some 11, none, .mv (.t 115)⟩]
noncomputable def r24_37 : List AO := [⟨some 116, none, .mv (.t 11)⟩,
  ⟨some 117, none, .mv (.t 0)⟩,
  ⟨some 118, none, .lens (.t 117)⟩,
  ⟨some 119, none, .bin .geq (.t 116) (.t 118)⟩]
noncomputable def r24_38 : List AO := [⟨some 120, none, .mv (.t 6)⟩,
  ⟨some 2, none, .mv (.c (.sl true 0 []))⟩,
  ⟨some 3, none, .mv (.t 120)⟩,
  ⟨some 4, none, .mv (.c (.it .i64 4))⟩]
noncomputable def r24_39 : List AO := [⟨some 121, none, .mv (.t 0)⟩,
  ⟨some 122, none, .mv (.t 11)⟩,
  ⟨some 123, none, .idxs (.t 121) (.t 122)⟩,
  ⟨some 124, none, .eq false 1 (.t 123) (.c (.it .u8 39))⟩]
noncomputable def r24_40 : List AO := [⟨some 125, none, .mv (.t 11)⟩,
  ⟨some 126, none, .bin .add (.t 125) (.c (.it .i64 1))⟩,
  ⟨some 127, none, .mv (.t 0)⟩,
  ⟨some 128, none, .lens (.t 127)⟩,
  ⟨some 129, none, .bin .geq (.t 126) (.t 128)⟩,
  ⟨some 130, none, .mv (.t 129)⟩,
  ⟨some 131, some (130, false), .mv (.t 0)⟩,
  ⟨some 132, some (130, false), .mv (.t 11)⟩,
  ⟨some 133, some (130, false), .bin .add (.t 132) (.c (.it .i64 1))⟩,
  ⟨some 134, some (130, false), .idxs (.t 131) (.t 133)⟩,
  ⟨some 135, some (130, false), .eq true 1 (.t 134) (.c (.it .u8 39))⟩,
  ⟨some 136, none, .pick (.t 130) (.c (.bl true)) (.t 135)⟩]
noncomputable def r24_41 : List AO := [⟨some 137, none, .mv (.t 11)⟩,
  ⟨some 138, none, .bin .add (.t 137) (.c (.it .i64 1))⟩,
  ⟨some 11, none, .mv (.t 138)⟩]
noncomputable def r24_42 : List (AO × List Nat) := [(⟨some 139, none, .fad 1 (.t 7)⟩, []),
  (⟨some 140, none, .ld false 1 (.t 139)⟩, []),
  (⟨some 141, none, .mv (.t 0)⟩, []),
  (⟨some 142, none, .mv (.t 11)⟩, []),
  (⟨some 143, none, .mv (.t 11)⟩, []),
  (⟨some 144, none, .bin .add (.t 143) (.c (.it .i64 1))⟩, []),
  (⟨some 145, none, .sls (.t 141) (some (.t 142)) (some (.t 144))⟩, []),
  (⟨some 146, none, .bin .add (.t 140) (.t 145)⟩, []),
  (⟨some 147, none, .fad 1 (.t 7)⟩, []),
  (⟨none, none, .sto 1 (.t 147) (.t 146)⟩, [])]
noncomputable def r24_43 : List AO := [⟨some 148, none, .mv (.t 11)⟩,
  ⟨some 149, none, .bin .add (.t 148) (.c (.it .i64 1))⟩,
  ⟨some 11, none, .mv (.t 149)⟩]
noncomputable def r24_44 : List AO := [⟨some 150, none, .mv (.t 11)⟩,
  ⟨some 151, none, .bin .add (.t 150) (.c (.it .i64 1))⟩,
  ⟨some 152, none, .mv (.t 6)⟩,
  ⟨some 153, none, .bin .sub (.t 151) (.t 152)⟩,
  ⟨some 8, none, .mv (.t 153)⟩]
noncomputable def r24_45 : List AO := [⟨some 154, none, .fad 1 (.t 7)⟩,
  ⟨some 155, none, .ld false 1 (.t 154)⟩,
  ⟨some 156, none, .lens (.t 155)⟩,
  ⟨some 157, none, .bin .gtr (.t 156) (.c (.it .i64 64))⟩]
noncomputable def r24_46 : List AO := [⟨some 158, none, .mv (.t 6)⟩,
  ⟨some 2, none, .mv (.c (.sl true 0 []))⟩,
  ⟨some 3, none, .mv (.t 158)⟩,
  ⟨some 4, none, .mv (.c (.it .i64 8))⟩]
noncomputable def r24_47 : List AO := [⟨some 26, none, .mv (.t 0)⟩,
  ⟨some 27, none, .mv (.t 6)⟩,
  ⟨some 28, none, .sls (.t 26) (some (.t 27)) none⟩,
  ⟨some 29, none, .call 42 [(.t 28)]⟩,
  ⟨some 12, none, .mv (.t 29)⟩]
noncomputable def r24_48 : List AO := [⟨some 30, none, .mv (.t 12)⟩,
  ⟨some 31, none, .eq false 2 (.t 30) (.c (.st []))⟩]
noncomputable def r24_49 : List AO := [⟨some 32, none, .mv (.t 6)⟩,
  ⟨some 2, none, .mv (.c (.sl true 0 []))⟩,
  ⟨some 3, none, .mv (.t 32)⟩,
  ⟨some 4, none, .mv (.c (.it .i64 4))⟩]
noncomputable def r24_50 : List AO := [⟨some 33, none, .mv (.t 12)⟩,
  ⟨some 34, none, .lens (.t 33)⟩,
  ⟨some 8, none, .mv (.t 34)⟩]
noncomputable def r24_51 : List AO := [⟨some 35, none, .mv (.t 12)⟩,
  ⟨some 36, none, .fad 0 (.t 7)⟩,
  ⟨none, none, .sto 1 (.t 36) (.c (.it .i64 5))⟩,
  ⟨some 37, none, .fad 1 (.t 7)⟩,
  ⟨none, none, .sto 1 (.t 37) (.t 35)⟩]
noncomputable def r24_52 : List AO := [⟨some 159, none, .mv (.t 5)⟩,
  ⟨some 160, none, .ld true 4 (.t 7)⟩,
  ⟨some 161, none, .bsl 61 4 1 [(.it .i64 0), (.st []), (.it .i64 0), (.it .i64 0)] [(0, 4, (.t 160))]⟩,
  ⟨some 162, none, .app 61 4 40 (.t 159) (.t 161)⟩,
  ⟨some 5, none, .mv (.t 162)⟩]
noncomputable def r24_53 : List AO := [⟨some 163, none, .mv (.t 6)⟩,
  ⟨some 164, none, .mv (.t 8)⟩,
  ⟨some 165, none, .bin .add (.t 163) (.t 164)⟩,
  ⟨some 6, none, .mv (.t 165)⟩]
noncomputable def r24_54 : List AO := [⟨some 166, none, .mv (.t 5)⟩,
  ⟨some 2, none, .mv (.t 166)⟩,
  ⟨some 3, none, .mv (.c (.it .i64 0))⟩,
  ⟨some 4, none, .mv (.c (.it .i64 0))⟩]
set_option maxRecDepth 1000000 in
noncomputable def c24 : AFn := ⟨167, [(2, none), (3, none), (4, none)],
  (.seq (.ops r24_0)
  (.seq (.seq (.ops r24_1)
  (.cond (.t 15) (.seq (.ops r24_2)
  .ret)
  .skip))
  (.seq (.ops r24_3)
  (.seq (.ops r24_4)
  (.seq (.block 0 (.loop (.seq (.seq (.ops r24_5)
  (.cond (.t 19) .skip
  (.exit 0)))
  (.block 1 (.seq (.ops r24_6)
  (.seq (.ops r24_7)
  (.seq (.seq (.ops r24_8)
  (.block 2 (.seq (.ops r24_9)
  (.cond (.t 38) (.seq (.ops r24_10)
  (.exit 1))
  (.seq (.ops r24_11)
  (.cond (.t 42) (.seq (.ops r24_12)
  (.seq (.drw r24_13)
  (.seq (.ops r24_14)
  (.cond (.t 56) (.seq (.ops r24_15)
  .ret)
  .skip))))
  (.seq (.ops r24_16)
  (.cond (.t 58) (.seq (.ops r24_17)
  (.seq (.drw r24_18)
  (.seq (.ops r24_19)
  (.cond (.t 72) (.seq (.ops r24_20)
  .ret)
  .skip))))
  (.seq (.ops r24_21)
  (.cond (.t 74) (.seq (.ops r24_22)
  (.seq (.drw r24_23)
  (.seq (.seq (.ops r24_24)
  (.cond (.t 88) (.seq (.ops r24_25)
  .ret)
  .skip))
  (.seq (.ops r24_26)
  (.seq (.seq (.ops r24_27)
  (.block 3 (.loop (.seq (.seq (.ops r24_28)
  (.cond (.t 92) .skip
  (.exit 3)))
  (.seq (.block 4 (.ops r24_29))
  (.ops r24_30))))))
  (.seq (.seq (.ops r24_31)
  (.cond (.t 106) (.seq (.ops r24_32)
  .ret)
  .skip))
  (.ops r24_33)))))))
  (.seq (.ops r24_34)
  (.cond (.t 111) (.seq (.ops r24_35)
  (.seq (.ops r24_36)
  (.seq (.block 5 (.loop (.block 6 (.seq (.seq (.ops r24_37)
  (.cond (.t 119) (.seq (.ops r24_38)
  .ret)
  .skip))
  (.seq (.seq (.ops r24_39)
  (.cond (.t 124) (.seq (.seq (.ops r24_40)
  (.cond (.t 136) (.exit 5)
  .skip))
  (.ops r24_41))
  .skip))
  (.seq (.drw r24_42)
  (.ops r24_43)))))))
  (.seq (.ops r24_44)
  (.seq (.ops r24_45)
  (.cond (.t 157) (.seq (.ops r24_46)
  .ret)
  .skip))))))
  (.seq (.ops r24_47)
  (.seq (.seq (.ops r24_48)
  (.cond (.t 31) (.seq (.ops r24_49)
  .ret)
  .skip))
  (.seq (.ops r24_50)
  (.ops r24_51))))))))))))))))
  (.seq (.ops r24_52)
  (.ops r24_53)))))))))
  (.seq (.ops r24_54)
  .ret))))))⟩
set_option maxRecDepth 1000000 in
theorem t24 : trF Tryd.prog 24 = some c24 := by kernel_rfl
/-- regrater/lex.Join (0 l, 1 l, 3 out, 4 _, 5 t) -/
noncomputable def r25_0 : List AO := [⟨some 2, none, .mv (.c (.st []))⟩]
noncomputable def r25_1 : List AO := [⟨some 3, none, .mv (.c (.sl true 0 []))⟩]
noncomputable def r25_2 : List AO := [⟨some 6, none, .mv (.t 0)⟩,
  ⟨some 7, none, .len (.t 6)⟩,
  ⟨some 8, none, .mv (.c (.it .i64 0))⟩]
noncomputable def r25_3 : List AO := [⟨some 9, none, .bin .lss (.t 8) (.t 7)⟩]
noncomputable def r25_4 : List AO := [⟨some 10, none, .iad 4 (.t 6) (.t 8)⟩,
  ⟨some 11, none, .ld true 4 (.t 10)⟩,
  ⟨some 5, none, .box 55 4 (.c (.agg [(.it .i64 0), (.st []), (.it .i64 0), (.it .i64 0)]))⟩,
  ⟨none, none, .sto 4 (.t 5) (.t 11)⟩]
noncomputable def r25_5 : List AO := [⟨some 12, none, .mv (.t 3)⟩,
  ⟨some 13, none, .ld true 4 (.t 5)⟩,
  ⟨some 14, none, .call 43 [(.t 13)]⟩,
  ⟨some 15, none, .bsl 9 1 1 [(.st [])] [(0, 1, (.t 14))]⟩,
  ⟨some 16, none, .app 9 1 16 (.t 12) (.t 15)⟩,
  ⟨some 3, none, .mv (.t 16)⟩]
noncomputable def r25_6 : List AO := [⟨some 17, none, .bin .add (.t 8) (.c (.it .i64 1))⟩,
  ⟨some 8, none, .mv (.t 17)⟩]
noncomputable def r25_7 : List AO := [⟨some 18, none, .mv (.t 3)⟩,
  ⟨some 19, none, .call 44 [(.t 18), (.c (.st [32]))]⟩,
  ⟨some 2, none, .mv (.t 19)⟩]
set_option maxRecDepth 1000000 in
noncomputable def c25 : AFn := ⟨20, [(2, none)],
  (.seq (.ops r25_0)
  (.seq (.ops r25_1)
  (.seq (.seq (.ops r25_2)
  (.block 0 (.loop (.seq (.ops r25_3)
  (.seq (.cond (.t 9) .skip
  (.exit 0))
  (.seq (.block 1 (.seq (.ops r25_4)
  (.ops r25_5)))
  (.ops r25_6)))))))
  (.seq (.ops r25_7)
  .ret))))⟩
set_option maxRecDepth 1000000 in
theorem t25 : trF Tryd.prog 25 = some c25 := by kernel_rfl
/-- regrater/lex.small (0 c, 1 c) -/
noncomputable def r35_0 : List AO := [⟨some 2, none, .mv (.c (.bl false))⟩]
noncomputable def r35_1 : List AO := [⟨some 3, none, .mv (.t 0)⟩,
  ⟨some 4, none, .bin .geq (.t 3) (.c (.it .u8 97))⟩,
  ⟨some 5, none, .mv (.t 4)⟩,
  ⟨some 6, some (5, true), .mv (.t 0)⟩,
  ⟨some 7, some (5, true), .bin .leq (.t 6) (.c (.it .u8 122))⟩,
  ⟨some 8, none, .pick (.t 5) (.t 7) (.c (.bl false))⟩,
  ⟨some 2, none, .mv (.t 8)⟩]
set_option maxRecDepth 1000000 in
noncomputable def c35 : AFn := ⟨9, [(2, none)],
  (.seq (.ops r35_0)
  (.seq (.ops r35_1)
  .ret))⟩
set_option maxRecDepth 1000000 in
theorem t35 : trF Tryd.prog 35 = some c35 := by kernel_rfl
/-- regrater/lex.span (0 s, 1 is, 2 s, 3 is, 5 n) -/
noncomputable def r36_0 : List AO := [⟨some 4, none, .mv (.c (.st []))⟩]
noncomputable def r36_1 : List AO := [⟨some 5, none, .mv (.c (.it .i64 0))⟩]
noncomputable def r36_2 : List AO := [⟨some 6, none, .mv (.t 5)⟩,
  ⟨some 7, none, .mv (.t 0)⟩,
  ⟨some 8, none, .lens (.t 7)⟩,
  ⟨some 9, none, .bin .lss (.t 6) (.t 8)⟩,
  ⟨some 10, none, .mv (.t 9)⟩,
  ⟨some 11, some (10, true), .mv (.t 1)⟩,
  ⟨some 12, some (10, true), .mv (.t 0)⟩,
  ⟨some 13, some (10, true), .mv (.t 5)⟩,
  ⟨some 14, some (10, true), .idxs (.t 12) (.t 13)⟩,
  ⟨some 15, some (10, true), .calv (.t 11) [(.t 14)]⟩,
  ⟨some 16, none, .pick (.t 10) (.t 15) (.c (.bl false))⟩]
noncomputable def r36_3 : List AO := [⟨some 17, none, .mv (.t 5)⟩,
  ⟨some 18, none, .bin .add (.t 17) (.c (.it .i64 1))⟩,
  ⟨some 5, none, .mv (.t 18)⟩]
noncomputable def r36_4 : List AO := [⟨some 19, none, .mv (.t 0)⟩,
  ⟨some 20, none, .mv (.t 5)⟩,
  ⟨some 21, none, .sls (.t 19) none (some (.t 20))⟩,
  ⟨some 4, none, .mv (.t 21)⟩]
set_option maxRecDepth 1000000 in
noncomputable def c36 : AFn := ⟨22, [(4, none)],
  (.seq (.ops r36_0)
  (.seq (.ops r36_1)
  (.seq (.block 0 (.loop (.seq (.seq (.ops r36_2)
  (.cond (.t 16) .skip
  (.exit 0)))
  (.block 1 (.ops r36_3)))))
  (.seq (.ops r36_4)
  .ret))))⟩
set_option maxRecDepth 1000000 in
theorem t36 : trF Tryd.prog 36 = some c36 := by kernel_rfl
/-- regrater/lex.rest (0 c, 1 c) -/
noncomputable def r37_0 : List AO := [⟨some 2, none, .mv (.c (.bl false))⟩]
noncomputable def r37_1 : List AO := [⟨some 3, none, .mv (.t 0)⟩,
  ⟨some 4, none, .call 35 [(.t 3)]⟩,
  ⟨some 5, none, .mv (.t 4)⟩,
  ⟨some 6, some (5, false), .mv (.t 0)⟩,
  ⟨some 7, some (5, false), .call 51 [(.t 6)]⟩,
  ⟨some 8, none, .pick (.t 5) (.c (.bl true)) (.t 7)⟩,
  ⟨some 9, none, .mv (.t 8)⟩,
  ⟨some 10, some (9, false), .mv (.t 0)⟩,
  ⟨some 11, some (9, false), .eq false 1 (.t 10) (.c (.it .u8 95))⟩,
  ⟨some 12, none, .pick (.t 9) (.c (.bl true)) (.t 11)⟩,
  ⟨some 2, none, .mv (.t 12)⟩]
set_option maxRecDepth 1000000 in
noncomputable def c37 : AFn := ⟨13, [(2, none)],
  (.seq (.ops r37_0)
  (.seq (.ops r37_1)
  .ret))⟩
set_option maxRecDepth 1000000 in
theorem t37 : trF Tryd.prog 37 = some c37 := by kernel_rfl
/-- regrater/lex.blank (0 c, 1 c) -/
noncomputable def r38_0 : List AO := [⟨some 2, none, .mv (.c (.bl false))⟩]
noncomputable def r38_1 : List AO := [⟨some 3, none, .mv (.t 0)⟩,
  ⟨some 4, none, .eq false 1 (.t 3) (.c (.it .u8 32))⟩,
  ⟨some 5, none, .mv (.t 4)⟩,
  ⟨some 6, some (5, false), .mv (.t 0)⟩,
  ⟨some 7, some (5, false), .eq false 1 (.t 6) (.c (.it .u8 10))⟩,
  ⟨some 8, none, .pick (.t 5) (.c (.bl true)) (.t 7)⟩,
  ⟨some 2, none, .mv (.t 8)⟩]
set_option maxRecDepth 1000000 in
noncomputable def c38 : AFn := ⟨9, [(2, none)],
  (.seq (.ops r38_0)
  (.seq (.ops r38_1)
  .ret))⟩
set_option maxRecDepth 1000000 in
theorem t38 : trF Tryd.prog 38 = some c38 := by kernel_rfl
/-- regrater/lex.first (0 s, 1 s, 5 c, 6 t, 7 n, 8 e, 9 _, 10 x) -/
noncomputable def r39_0 : List AO := [⟨some 2, none, .box 55 4 (.c (.agg [(.it .i64 0), (.st []), (.it .i64 0), (.it .i64 0)]))⟩,
  ⟨some 3, none, .mv (.c (.it .i64 0))⟩,
  ⟨some 4, none, .mv (.c (.it .i64 0))⟩]
noncomputable def r39_1 : List AO := [⟨some 11, none, .mv (.t 0)⟩,
  ⟨some 12, none, .idxs (.t 11) (.c (.it .i64 0))⟩,
  ⟨some 5, none, .mv (.t 12)⟩]
noncomputable def r39_2 : List AO := [⟨some 14, none, .mv (.t 5)⟩,
  ⟨some 15, none, .call 35 [(.t 14)]⟩,
  ⟨some 13, none, .mv (.t 15)⟩]
noncomputable def r39_3 : List AO := [⟨some 16, none, .mv (.t 0)⟩,
  ⟨some 17, none, .call 36 [(.t 16), (.c (.fn (.func 37) [] []))]⟩,
  ⟨some 18, none, .call 52 [(.c (.it .i64 1)), (.t 17)]⟩,
  ⟨some 19, none, .ext (.t 18) 0⟩,
  ⟨some 20, none, .ext (.t 18) 1⟩,
  ⟨some 21, none, .ext (.t 18) 2⟩,
  ⟨none, none, .sto 4 (.t 2) (.t 19)⟩,
  ⟨some 3, none, .mv (.t 20)⟩,
  ⟨some 4, none, .mv (.t 21)⟩]
noncomputable def r39_4 : List AO := [⟨some 23, none, .mv (.t 5)⟩,
  ⟨some 24, none, .call 53 [(.t 23)]⟩,
  ⟨some 22, none, .mv (.t 24)⟩]
noncomputable def r39_5 : List AO := [⟨some 25, none, .mv (.t 0)⟩,
  ⟨some 26, none, .call 36 [(.t 25), (.c (.fn (.func 53) [] []))]⟩,
  ⟨some 27, none, .call 52 [(.c (.it .i64 2)), (.t 26)]⟩,
  ⟨some 28, none, .ext (.t 27) 0⟩,
  ⟨some 29, none, .ext (.t 27) 1⟩,
  ⟨some 30, none, .ext (.t 27) 2⟩,
  ⟨none, none, .sto 4 (.t 2) (.t 28)⟩,
  ⟨some 3, none, .mv (.t 29)⟩,
  ⟨some 4, none, .mv (.t 30)⟩]
noncomputable def r39_6 : List AO := [⟨some 32, none, .mv (.t 5)⟩,
  ⟨some 33, none, .call 51 [(.t 32)]⟩,
  ⟨some 31, none, .mv (.t 33)⟩]
noncomputable def r39_7 : List AO := [⟨some 34, none, .mv (.t 0)⟩,
  ⟨some 35, none, .call 36 [(.t 34), (.c (.fn (.func 51) [] []))]⟩,
  ⟨some 36, none, .call 54 [(.t 35)]⟩,
  ⟨some 37, none, .ext (.t 36) 0⟩,
  ⟨some 38, none, .ext (.t 36) 1⟩,
  ⟨some 39, none, .ext (.t 36) 2⟩,
  ⟨none, none, .sto 4 (.t 2) (.t 37)⟩,
  ⟨some 3, none, .mv (.t 38)⟩,
  ⟨some 4, none, .mv (.t 39)⟩]
noncomputable def r39_8 : List AO := [⟨some 41, none, .mv (.t 5)⟩,
  ⟨some 42, none, .idxs (.c (.st [39])) (.c (.it .i64 0))⟩,
  ⟨some 43, none, .eq false 1 (.t 41) (.t 42)⟩,
  ⟨some 40, none, .mv (.t 43)⟩]
noncomputable def r39_9 : List AO := [⟨some 45, none, .mv (.t 0)⟩,
  ⟨some 46, none, .call 55 [(.t 45)]⟩,
  ⟨some 44, none, .mv (.t 46)⟩,
  ⟨some 47, none, .ext (.t 44) 0⟩,
  ⟨some 48, none, .ext (.t 44) 1⟩,
  ⟨some 49, none, .ext (.t 44) 2⟩,
  ⟨some 6, none, .mv (.t 47)⟩,
  ⟨some 7, none, .mv (.t 48)⟩,
  ⟨some 8, none, .mv (.t 49)⟩]
noncomputable def r39_10 : List AO := [⟨some 50, none, .mv (.t 6)⟩,
  ⟨some 51, none, .bld [(.it .i64 0), (.st []), (.it .i64 0), (.it .i64 0)] [(0, 1, (.c (.it .i64 4))), (1, 1, (.t 50))]⟩,
  ⟨some 52, none, .mv (.t 7)⟩,
  ⟨some 53, none, .mv (.t 8)⟩,
  ⟨none, none, .sto 4 (.t 2) (.t 51)⟩,
  ⟨some 3, none, .mv (.t 52)⟩,
  ⟨some 4, none, .mv (.t 53)⟩]
noncomputable def r39_11 : List AO := [⟨some 54, none, .ld true 16 (.c (.ep [(.st [60, 62]), (.st [60, 61]), (.st [62, 61]), (.st [124, 124]), (.st [40]), (.st [41]), (.st [44]), (.st [46]), (.st [42]), (.st [43]), (.st [45]), (.st [47]), (.st [37]), (.st [61]), (.st [60]), (.st [62])] 0))⟩,
  ⟨some 55, none, .mv (.c (.it .i64 0))⟩]
noncomputable def r39_12 : List AO := [⟨some 56, none, .bin .lss (.t 55) (.c (.it .i64 16))⟩]
noncomputable def r39_13 : List AO := [⟨some 57, none, .idxa false 16 1 (.t 54) (.t 55)⟩,
  ⟨some 10, none, .mv (.t 57)⟩]
noncomputable def r39_14 : List AO := [⟨some 58, none, .mv (.t 0)⟩,
  ⟨some 59, none, .mv (.t 10)⟩,
  ⟨some 60, none, .call 56 [(.t 58), (.t 59)]⟩]
noncomputable def r39_15 : List AO := [⟨some 61, none, .mv (.t 10)⟩,
  ⟨some 62, none, .bld [(.it .i64 0), (.st []), (.it .i64 0), (.it .i64 0)] [(0, 1, (.c (.it .i64 5))), (1, 1, (.t 61))]⟩,
  ⟨some 63, none, .mv (.t 10)⟩,
  ⟨some 64, none, .lens (.t 63)⟩,
  ⟨none, none, .sto 4 (.t 2) (.t 62)⟩,
  ⟨some 3, none, .mv (.t 64)⟩,
  ⟨some 4, none, .mv (.c (.it .i64 0))⟩]
noncomputable def r39_16 : List AO := [⟨some 65, none, .bin .add (.t 55) (.c (.it .i64 1))⟩,
  ⟨some 55, none, .mv (.t 65)⟩]
noncomputable def r39_17 : List AO := [⟨some 66, none, .bld [(.it .i64 0), (.st []), (.it .i64 0), (.it .i64 0)] []⟩,
  ⟨none, none, .sto 4 (.t 2) (.t 66)⟩,
  ⟨some 3, none, .mv (.c (.it .i64 0))⟩,
  ⟨some 4, none, .mv (.c (.it .i64 4))⟩]
set_option maxRecDepth 1000000 in
noncomputable def c39 : AFn := ⟨67, [(2, some 4), (3, none), (4, none)],
  (.seq (.ops r39_0)
  (.seq (.seq (.ops r39_1)
  (.block 0 (.seq (.ops r39_2)
  (.cond (.t 13) (.seq (.ops r39_3)
  .ret)
  (.seq (.ops r39_4)
  (.cond (.t 22) (.seq (.ops r39_5)
  .ret)
  (.seq (.ops r39_6)
  (.cond (.t 31) (.seq (.ops r39_7)
  .ret)
  (.seq (.ops r39_8)
  (.cond (.t 40) (.seq (.ops r39_9)
  (.seq (.ops r39_10)
  .ret))
  .skip))))))))))
  (.seq (.seq (.ops r39_11)
  (.block 1 (.loop (.seq (.ops r39_12)
  (.seq (.cond (.t 56) .skip
  (.exit 1))
  (.seq (.block 2 (.seq (.ops r39_13)
  (.seq (.ops r39_14)
  (.cond (.t 60) (.seq (.ops r39_15)
  .ret)
  .skip))))
  (.ops r39_16)))))))
  (.seq (.ops r39_17)
  .ret))))⟩
set_option maxRecDepth 1000000 in
theorem t39 : trF Tryd.prog 39 = some c39 := by kernel_rfl
/-- regrater/regraterref14.class (0 c, 1 c) -/
noncomputable def r40_0 : List AO := [⟨some 2, none, .mv (.c (.it .i64 0))⟩]
noncomputable def r40_1 : List AO := [⟨some 4, none, .mv (.t 0)⟩,
  ⟨some 5, none, .bin .geq (.t 4) (.c (.it .u8 97))⟩,
  ⟨some 6, none, .mv (.t 5)⟩,
  ⟨some 7, some (6, true), .mv (.t 0)⟩,
  ⟨some 8, some (6, true), .bin .leq (.t 7) (.c (.it .u8 122))⟩,
  ⟨some 9, none, .pick (.t 6) (.t 8) (.c (.bl false))⟩,
  ⟨some 3, none, .mv (.t 9)⟩]
noncomputable def r40_2 : List AO := [⟨some 2, none, .mv (.c (.it .i64 1))⟩]
noncomputable def r40_3 : List AO := [⟨some 11, none, .mv (.t 0)⟩,
  ⟨some 12, none, .bin .geq (.t 11) (.c (.it .u8 65))⟩,
  ⟨some 13, none, .mv (.t 12)⟩,
  ⟨some 14, some (13, true), .mv (.t 0)⟩,
  ⟨some 15, some (13, true), .bin .leq (.t 14) (.c (.it .u8 90))⟩,
  ⟨some 16, none, .pick (.t 13) (.t 15) (.c (.bl false))⟩,
  ⟨some 10, none, .mv (.t 16)⟩]
noncomputable def r40_4 : List AO := [⟨some 2, none, .mv (.c (.it .i64 2))⟩]
noncomputable def r40_5 : List AO := [⟨some 18, none, .mv (.t 0)⟩,
  ⟨some 19, none, .bin .geq (.t 18) (.c (.it .u8 48))⟩,
  ⟨some 20, none, .mv (.t 19)⟩,
  ⟨some 21, some (20, true), .mv (.t 0)⟩,
  ⟨some 22, some (20, true), .bin .leq (.t 21) (.c (.it .u8 57))⟩,
  ⟨some 23, none, .pick (.t 20) (.t 22) (.c (.bl false))⟩,
  ⟨some 17, none, .mv (.t 23)⟩]
noncomputable def r40_6 : List AO := [⟨some 2, none, .mv (.c (.it .i64 3))⟩]
noncomputable def r40_7 : List AO := [⟨some 25, none, .mv (.t 0)⟩,
  ⟨some 26, none, .eq false 1 (.t 25) (.c (.it .u8 95))⟩,
  ⟨some 24, none, .mv (.t 26)⟩]
noncomputable def r40_8 : List AO := [⟨some 2, none, .mv (.c (.it .i64 4))⟩]
noncomputable def r40_9 : List AO := [⟨some 28, none, .mv (.t 0)⟩,
  ⟨some 29, none, .eq false 1 (.t 28) (.c (.it .u8 39))⟩,
  ⟨some 27, none, .mv (.t 29)⟩]
noncomputable def r40_10 : List AO := [⟨some 2, none, .mv (.c (.it .i64 5))⟩]
noncomputable def r40_11 : List AO := [⟨some 31, none, .mv (.t 0)⟩,
  ⟨some 32, none, .eq false 1 (.t 31) (.c (.it .u8 32))⟩,
  ⟨some 33, none, .mv (.t 32)⟩,
  ⟨some 34, some (33, false), .mv (.t 0)⟩,
  ⟨some 35, some (33, false), .eq false 1 (.t 34) (.c (.it .u8 10))⟩,
  ⟨some 36, none, .pick (.t 33) (.c (.bl true)) (.t 35)⟩,
  ⟨some 30, none, .mv (.t 36)⟩]
noncomputable def r40_12 : List AO := [⟨some 2, none, .mv (.c (.it .i64 6))⟩]
noncomputable def r40_13 : List AO := [⟨some 2, none, .mv (.c (.it .i64 0))⟩]
set_option maxRecDepth 1000000 in
noncomputable def c40 : AFn := ⟨37, [(2, none)],
  (.seq (.ops r40_0)
  (.seq (.block 0 (.seq (.ops r40_1)
  (.cond (.t 3) (.seq (.ops r40_2)
  .ret)
  (.seq (.ops r40_3)
  (.cond (.t 10) (.seq (.ops r40_4)
  .ret)
  (.seq (.ops r40_5)
  (.cond (.t 17) (.seq (.ops r40_6)
  .ret)
  (.seq (.ops r40_7)
  (.cond (.t 24) (.seq (.ops r40_8)
  .ret)
  (.seq (.ops r40_9)
  (.cond (.t 27) (.seq (.ops r40_10)
  .ret)
  (.seq (.ops r40_11)
  (.cond (.t 30) (.seq (.ops r40_12)
  .ret)
  .skip)))))))))))))
  (.seq (.ops r40_13)
  .ret)))⟩
set_option maxRecDepth 1000000 in
theorem t40 : trF Tryd.prog 40 = some c40 := by kernel_rfl
/-- regrater/regraterref14.run (0 s, 1 at, 2 a, 3 b, 4 c, 5 s, 6 at, 7 a, 8 b, 9 c, 11 n, 12 k) -/
noncomputable def r41_0 : List AO := [⟨some 10, none, .mv (.c (.it .i64 0))⟩]
noncomputable def r41_1 : List AO := [⟨some 11, none, .mv (.c (.it .i64 0))⟩]
noncomputable def r41_2 : List AO := [⟨some 13, none, .mv (.t 1)⟩,
  ⟨some 14, none, .mv (.t 11)⟩,
  ⟨some 15, none, .bin .add (.t 13) (.t 14)⟩,
  ⟨some 16, none, .mv (.t 0)⟩,
  ⟨some 17, none, .lens (.t 16)⟩,
  ⟨some 18, none, .bin .lss (.t 15) (.t 17)⟩]
noncomputable def r41_3 : List AO := [⟨some 19, none, .mv (.t 0)⟩,
  ⟨some 20, none, .mv (.t 1)⟩,
  ⟨some 21, none, .mv (.t 11)⟩,
  ⟨some 22, none, .bin .add (.t 20) (.t 21)⟩,
  ⟨some 23, none, .idxs (.t 19) (.t 22)⟩,
  ⟨some 24, none, .call 40 [(.t 23)]⟩,
  ⟨some 12, none, .mv (.t 24)⟩]
noncomputable def r41_4 : List AO := [⟨some 25, none, .mv (.t 12)⟩,
  ⟨some 26, none, .mv (.t 2)⟩,
  ⟨some 27, none, .eq true 1 (.t 25) (.t 26)⟩,
  ⟨some 28, none, .mv (.t 27)⟩,
  ⟨some 29, some (28, true), .mv (.t 12)⟩,
  ⟨some 30, some (28, true), .mv (.t 3)⟩,
  ⟨some 31, some (28, true), .eq true 1 (.t 29) (.t 30)⟩,
  ⟨some 32, none, .pick (.t 28) (.t 31) (.c (.bl false))⟩,
  ⟨some 33, none, .mv (.t 32)⟩,
  ⟨some 34, some (33, true), .mv (.t 12)⟩,
  ⟨some 35, some (33, true), .mv (.t 4)⟩,
  ⟨some 36, some (33, true), .eq true 1 (.t 34) (.t 35)⟩,
  ⟨some 37, none, .pick (.t 33) (.t 36) (.c (.bl false))⟩]
noncomputable def r41_5 : List AO := [⟨some 38, none, .mv (.t 11)⟩,
  ⟨some 39, none, .bin .add (.t 38) (.c (.it .i64 1))⟩,
  ⟨some 11, none, .mv (.t 39)⟩]
noncomputable def r41_6 : List AO := [⟨some 40, none, .mv (.t 11)⟩,
  ⟨some 10, none, .mv (.t 40)⟩]
set_option maxRecDepth 1000000 in
noncomputable def c41 : AFn := ⟨41, [(10, none)],
  (.seq (.ops r41_0)
  (.seq (.ops r41_1)
  (.seq (.block 0 (.loop (.seq (.seq (.ops r41_2)
  (.cond (.t 18) .skip
  (.exit 0)))
  (.block 1 (.seq (.ops r41_3)
  (.seq (.seq (.ops r41_4)
  (.cond (.t 37) (.exit 0)
  .skip))
  (.ops r41_5)))))))
  (.seq (.ops r41_6)
  .ret))))⟩
set_option maxRecDepth 1000000 in
theorem t41 : trF Tryd.prog 41 = some c41 := by kernel_rfl
/-- regrater/regraterref14.sign (0 s, 1 s) -/
noncomputable def r42_0 : List AO := [⟨some 2, none, .mv (.c (.st []))⟩]
noncomputable def r42_1 : List AO := [⟨some 3, none, .mv (.t 0)⟩,
  ⟨some 4, none, .lens (.t 3)⟩,
  ⟨some 5, none, .bin .geq (.t 4) (.c (.it .i64 2))⟩]
noncomputable def r42_2 : List AO := [⟨some 6, none, .mv (.t 0)⟩,
  ⟨some 7, none, .sls (.t 6) none (some (.c (.it .i64 2)))⟩]
noncomputable def r42_3 : List AO := [⟨some 9, none, .eq false 2 (.t 7) (.c (.st [60, 62]))⟩,
  ⟨some 8, none, .mv (.t 9)⟩]
noncomputable def r42_4 : List AO := [⟨some 10, none, .eq false 2 (.t 7) (.c (.st [60, 61]))⟩,
  ⟨some 8, none, .mv (.t 10)⟩]
noncomputable def r42_5 : List AO := [⟨some 11, none, .eq false 2 (.t 7) (.c (.st [62, 61]))⟩,
  ⟨some 8, none, .mv (.t 11)⟩]
noncomputable def r42_6 : List AO := [⟨some 12, none, .eq false 2 (.t 7) (.c (.st [124, 124]))⟩,
  ⟨some 8, none, .mv (.t 12)⟩]
noncomputable def r42_7 : List AO := [⟨some 13, none, .mv (.t 0)⟩,
  ⟨some 14, none, .sls (.t 13) none (some (.c (.it .i64 2)))⟩,
  ⟨some 2, none, .mv (.t 14)⟩]
noncomputable def r42_8 : List AO := [⟨some 15, none, .mv (.t 0)⟩,
  ⟨some 16, none, .idxs (.t 15) (.c (.it .i64 0))⟩]
noncomputable def r42_9 : List AO := [⟨some 18, none, .eq false 1 (.t 16) (.c (.it .u8 40))⟩,
  ⟨some 17, none, .mv (.t 18)⟩]
noncomputable def r42_10 : List AO := [⟨some 19, none, .eq false 1 (.t 16) (.c (.it .u8 41))⟩,
  ⟨some 17, none, .mv (.t 19)⟩]
noncomputable def r42_11 : List AO := [⟨some 20, none, .eq false 1 (.t 16) (.c (.it .u8 44))⟩,
  ⟨some 17, none, .mv (.t 20)⟩]
noncomputable def r42_12 : List AO := [⟨some 21, none, .eq false 1 (.t 16) (.c (.it .u8 46))⟩,
  ⟨some 17, none, .mv (.t 21)⟩]
noncomputable def r42_13 : List AO := [⟨some 22, none, .eq false 1 (.t 16) (.c (.it .u8 42))⟩,
  ⟨some 17, none, .mv (.t 22)⟩]
noncomputable def r42_14 : List AO := [⟨some 23, none, .eq false 1 (.t 16) (.c (.it .u8 43))⟩,
  ⟨some 17, none, .mv (.t 23)⟩]
noncomputable def r42_15 : List AO := [⟨some 24, none, .eq false 1 (.t 16) (.c (.it .u8 45))⟩,
  ⟨some 17, none, .mv (.t 24)⟩]
noncomputable def r42_16 : List AO := [⟨some 25, none, .eq false 1 (.t 16) (.c (.it .u8 47))⟩,
  ⟨some 17, none, .mv (.t 25)⟩]
noncomputable def r42_17 : List AO := [⟨some 26, none, .eq false 1 (.t 16) (.c (.it .u8 37))⟩,
  ⟨some 17, none, .mv (.t 26)⟩]
noncomputable def r42_18 : List AO := [⟨some 27, none, .eq false 1 (.t 16) (.c (.it .u8 61))⟩,
  ⟨some 17, none, .mv (.t 27)⟩]
noncomputable def r42_19 : List AO := [⟨some 28, none, .eq false 1 (.t 16) (.c (.it .u8 60))⟩,
  ⟨some 17, none, .mv (.t 28)⟩]
noncomputable def r42_20 : List AO := [⟨some 29, none, .eq false 1 (.t 16) (.c (.it .u8 62))⟩,
  ⟨some 17, none, .mv (.t 29)⟩]
noncomputable def r42_21 : List AO := [⟨some 30, none, .mv (.t 0)⟩,
  ⟨some 31, none, .sls (.t 30) none (some (.c (.it .i64 1)))⟩,
  ⟨some 2, none, .mv (.t 31)⟩]
noncomputable def r42_22 : List AO := [⟨some 2, none, .mv (.c (.st []))⟩]
set_option maxRecDepth 1000000 in
noncomputable def c42 : AFn := ⟨32, [(2, none)],
  (.seq (.ops r42_0)
  (.seq (.seq (.ops r42_1)
  (.cond (.t 5) (.seq (.ops r42_2)
  (.block 0 (.seq (.seq (.ops r42_3)
  (.cond (.t 8) .skip
  (.seq (.ops r42_4)
  (.cond (.t 8) .skip
  (.seq (.ops r42_5)
  (.cond (.t 8) .skip
  (.ops r42_6)))))))
  (.cond (.t 8) (.seq (.ops r42_7)
  .ret)
  .skip))))
  .skip))
  (.seq (.seq (.ops r42_8)
  (.block 1 (.seq (.seq (.ops r42_9)
  (.cond (.t 17) .skip
  (.seq (.ops r42_10)
  (.cond (.t 17) .skip
  (.seq (.ops r42_11)
  (.cond (.t 17) .skip
  (.seq (.ops r42_12)
  (.cond (.t 17) .skip
  (.seq (.ops r42_13)
  (.cond (.t 17) .skip
  (.seq (.ops r42_14)
  (.cond (.t 17) .skip
  (.seq (.ops r42_15)
  (.cond (.t 17) .skip
  (.seq (.ops r42_16)
  (.cond (.t 17) .skip
  (.seq (.ops r42_17)
  (.cond (.t 17) .skip
  (.seq (.ops r42_18)
  (.cond (.t 17) .skip
  (.seq (.ops r42_19)
  (.cond (.t 17) .skip
  (.ops r42_20)))))))))))))))))))))))
  (.cond (.t 17) (.seq (.ops r42_21)
  .ret)
  .skip))))
  (.seq (.ops r42_22)
  .ret))))⟩
set_option maxRecDepth 1000000 in
theorem t42 : trF Tryd.prog 42 = some c42 := by kernel_rfl
/-- (regrater/lex.Token).written (0 t, 1 t) -/
noncomputable def r43_0 : List AO := [⟨some 1, none, .box 55 4 (.t 0)⟩,
  ⟨some 2, none, .mv (.c (.st []))⟩]
noncomputable def r43_1 : List AO := [⟨some 3, none, .fad 0 (.t 1)⟩,
  ⟨some 4, none, .ld false 1 (.t 3)⟩]
noncomputable def r43_2 : List AO := [⟨some 6, none, .eq false 1 (.t 4) (.c (.it .i64 3))⟩,
  ⟨some 5, none, .mv (.t 6)⟩]
noncomputable def r43_3 : List AO := [⟨some 7, none, .fad 2 (.t 1)⟩,
  ⟨some 8, none, .ld false 1 (.t 7)⟩,
  ⟨some 9, none, .call 57 [(.t 8), (.c (.it .i64 10))]⟩,
  ⟨some 2, none, .mv (.t 9)⟩]
noncomputable def r43_4 : List AO := [⟨some 11, none, .eq false 1 (.t 4) (.c (.it .i64 4))⟩,
  ⟨some 10, none, .mv (.t 11)⟩]
noncomputable def r43_5 : List AO := [⟨some 12, none, .fad 1 (.t 1)⟩,
  ⟨some 13, none, .ld false 1 (.t 12)⟩,
  ⟨some 14, none, .call 58 [(.t 13), (.c (.st [39])), (.c (.st [39, 39]))]⟩,
  ⟨some 15, none, .bin .add (.c (.st [39])) (.t 14)⟩,
  ⟨some 16, none, .bin .add (.t 15) (.c (.st [39]))⟩,
  ⟨some 2, none, .mv (.t 16)⟩]
noncomputable def r43_6 : List AO := [⟨some 17, none, .fad 1 (.t 1)⟩,
  ⟨some 18, none, .ld false 1 (.t 17)⟩,
  ⟨some 2, none, .mv (.t 18)⟩]
set_option maxRecDepth 1000000 in
noncomputable def c43 : AFn := ⟨19, [(2, none)],
  (.seq (.ops r43_0)
  (.seq (.seq (.ops r43_1)
  (.block 0 (.seq (.ops r43_2)
  (.cond (.t 5) (.seq (.ops r43_3)
  .ret)
  (.seq (.ops r43_4)
  (.cond (.t 10) (.seq (.ops r43_5)
  .ret)
  .skip))))))
  (.seq (.ops r43_6)
  .ret)))⟩
set_option maxRecDepth 1000000 in
theorem t43 : trF Tryd.prog 43 = some c43 := by kernel_rfl
-- NO 44 strings.Join: ['strings.go:479 makeInterface', 'strings.go:479 panic', 'strings.go:485 makeInterface', 'strings.go:485 panic']
/-- regrater/lex.digit (0 c, 1 c) -/
noncomputable def r51_0 : List AO := [⟨some 2, none, .mv (.c (.bl false))⟩]
noncomputable def r51_1 : List AO := [⟨some 3, none, .mv (.t 0)⟩,
  ⟨some 4, none, .bin .geq (.t 3) (.c (.it .u8 48))⟩,
  ⟨some 5, none, .mv (.t 4)⟩,
  ⟨some 6, some (5, true), .mv (.t 0)⟩,
  ⟨some 7, some (5, true), .bin .leq (.t 6) (.c (.it .u8 57))⟩,
  ⟨some 8, none, .pick (.t 5) (.t 7) (.c (.bl false))⟩,
  ⟨some 2, none, .mv (.t 8)⟩]
set_option maxRecDepth 1000000 in
noncomputable def c51 : AFn := ⟨9, [(2, none)],
  (.seq (.ops r51_0)
  (.seq (.ops r51_1)
  .ret))⟩
set_option maxRecDepth 1000000 in
theorem t51 : trF Tryd.prog 51 = some c51 := by kernel_rfl
/-- regrater/lex.word (0 kind, 1 s, 2 kind, 3 s) -/
noncomputable def r52_0 : List AO := [⟨some 4, none, .box 55 4 (.c (.agg [(.it .i64 0), (.st []), (.it .i64 0), (.it .i64 0)]))⟩,
  ⟨some 5, none, .mv (.c (.it .i64 0))⟩,
  ⟨some 6, none, .mv (.c (.it .i64 0))⟩]
noncomputable def r52_1 : List AO := [⟨some 7, none, .mv (.t 1)⟩,
  ⟨some 8, none, .lens (.t 7)⟩,
  ⟨some 9, none, .bin .gtr (.t 8) (.c (.it .i64 16))⟩]
noncomputable def r52_2 : List AO := [⟨some 10, none, .bld [(.it .i64 0), (.st []), (.it .i64 0), (.it .i64 0)] []⟩,
  ⟨none, none, .sto 4 (.t 4) (.t 10)⟩,
  ⟨some 5, none, .mv (.c (.it .i64 0))⟩,
  ⟨some 6, none, .mv (.c (.it .i64 8))⟩]
noncomputable def r52_3 : List AO := [⟨some 11, none, .mv (.t 0)⟩,
  ⟨some 12, none, .mv (.t 1)⟩,
  ⟨some 13, none, .bld [(.it .i64 0), (.st []), (.it .i64 0), (.it .i64 0)] [(0, 1, (.t 11)), (1, 1, (.t 12))]⟩,
  ⟨some 14, none, .mv (.t 1)⟩,
  ⟨some 15, none, .lens (.t 14)⟩,
  ⟨none, none, .sto 4 (.t 4) (.t 13)⟩,
  ⟨some 5, none, .mv (.t 15)⟩,
  ⟨some 6, none, .mv (.c (.it .i64 0))⟩]
set_option maxRecDepth 1000000 in
noncomputable def c52 : AFn := ⟨16, [(4, some 4), (5, none), (6, none)],
  (.seq (.ops r52_0)
  (.seq (.seq (.ops r52_1)
  (.cond (.t 9) (.seq (.ops r52_2)
  .ret)
  .skip))
  (.seq (.ops r52_3)
  .ret)))⟩
set_option maxRecDepth 1000000 in
theorem t52 : trF Tryd.prog 52 = some c52 := by kernel_rfl
/-- regrater/lex.great (0 c, 1 c) -/
noncomputable def r53_0 : List AO := [⟨some 2, none, .mv (.c (.bl false))⟩]
noncomputable def r53_1 : List AO := [⟨some 3, none, .mv (.t 0)⟩,
  ⟨some 4, none, .bin .geq (.t 3) (.c (.it .u8 65))⟩,
  ⟨some 5, none, .mv (.t 4)⟩,
  ⟨some 6, some (5, true), .mv (.t 0)⟩,
  ⟨some 7, some (5, true), .bin .leq (.t 6) (.c (.it .u8 90))⟩,
  ⟨some 8, none, .pick (.t 5) (.t 7) (.c (.bl false))⟩,
  ⟨some 2, none, .mv (.t 8)⟩]
set_option maxRecDepth 1000000 in
noncomputable def c53 : AFn := ⟨9, [(2, none)],
  (.seq (.ops r53_0)
  (.seq (.ops r53_1)
  .ret))⟩
set_option maxRecDepth 1000000 in
theorem t53 : trF Tryd.prog 53 = some c53 := by kernel_rfl
-- NO 54 regrater/lex.number: ['lex.go:83 binOp neq 99']
/-- regrater/lex.text (0 s, 1 s, 5 out, 6 i) -/
noncomputable def r55_0 : List AO := [⟨some 2, none, .mv (.c (.st []))⟩,
  ⟨some 3, none, .mv (.c (.it .i64 0))⟩,
  ⟨some 4, none, .mv (.c (.it .i64 0))⟩]
noncomputable def r55_1 : List AO := [⟨some 5, none, .mv (.c (.sl true 0 []))⟩]
noncomputable def r55_2 : List AO := [⟨some 6, none, .mv (.c (.it .i64 1))⟩]
noncomputable def r55_3 : List AO := [⟨some 7, none, .mv (.t 6)⟩,
  ⟨some 8, none, .mv (.t 0)⟩,
  ⟨some 9, none, .lens (.t 8)⟩,
  ⟨some 10, none, .bin .lss (.t 7) (.t 9)⟩]
noncomputable def r55_4 : List (AO × List Nat) := [(⟨some 13, none, .mv (.t 0)⟩, []),
  (⟨some 14, none, .mv (.t 6)⟩, []),
  (⟨some 15, none, .idxs (.t 13) (.t 14)⟩, []),
  (⟨some 16, none, .idxs (.c (.st [39])) (.c (.it .i64 0))⟩, []),
  (⟨some 17, none, .eq true 1 (.t 15) (.t 16)⟩, [])]
noncomputable def r55_5 : List AO := [⟨some 18, none, .mv (.t 5)⟩,
  ⟨some 19, none, .mv (.t 0)⟩,
  ⟨some 20, none, .mv (.t 6)⟩,
  ⟨some 21, none, .idxs (.t 19) (.t 20)⟩,
  ⟨some 22, none, .bsl 5 1 1 [(.it .u8 0)] [(0, 1, (.t 21))]⟩,
  ⟨some 23, none, .app 5 1 1 (.t 18) (.t 22)⟩,
  ⟨some 5, none, .mv (.t 23)⟩]
noncomputable def r55_6 : List (AO × List Nat) := [(⟨some 24, none, .mv (.t 6)⟩, []),
  (⟨some 25, none, .bin .add (.t 24) (.c (.it .i64 1))⟩, []),
  (⟨some 26, none, .mv (.t 0)⟩, []),
  (⟨some 27, none, .lens (.t 26)⟩, []),
  (⟨some 28, none, .bin .lss (.t 25) (.t 27)⟩, []),
  (⟨some 29, none, .mv (.t 28)⟩, []),
  (⟨some 30, some (29, true), .mv (.t 0)⟩, []),
  (⟨some 31, some (29, true), .mv (.t 6)⟩, []),
  (⟨some 32, some (29, true), .bin .add (.t 31) (.c (.it .i64 1))⟩, []),
  (⟨some 33, some (29, true), .idxs (.t 30) (.t 32)⟩, []),
  (⟨some 34, some (29, true), .idxs (.c (.st [39])) (.c (.it .i64 0))⟩, []),
  (⟨some 35, some (29, true), .eq false 1 (.t 33) (.t 34)⟩, []),
  (⟨some 36, none, .pick (.t 29) (.t 35) (.c (.bl false))⟩, [])]
noncomputable def r55_7 : List AO := [⟨some 37, none, .mv (.t 5)⟩,
  ⟨some 38, none, .mv (.t 0)⟩,
  ⟨some 39, none, .mv (.t 6)⟩,
  ⟨some 40, none, .idxs (.t 38) (.t 39)⟩,
  ⟨some 41, none, .bsl 5 1 1 [(.it .u8 0)] [(0, 1, (.t 40))]⟩,
  ⟨some 42, none, .app 5 1 1 (.t 37) (.t 41)⟩,
  ⟨some 5, none, .mv (.t 42)⟩]
noncomputable def r55_8 : List AO := [⟨some 43, none, .mv (.t 6)⟩,
  ⟨some 44, none, .bin .add (.t 43) (.c (.it .i64 1))⟩,
  ⟨some 6, none, .mv (.t 44)⟩]
noncomputable def r55_9 : List AO := [⟨some 45, none, .mv (.t 5)⟩,
  ⟨some 46, none, .len (.t 45)⟩,
  ⟨some 47, none, .bin .gtr (.t 46) (.c (.it .i64 64))⟩]
noncomputable def r55_10 : List AO := [⟨some 2, none, .mv (.c (.st []))⟩,
  ⟨some 3, none, .mv (.c (.it .i64 0))⟩,
  ⟨some 4, none, .mv (.c (.it .i64 8))⟩]
noncomputable def r55_11 : List AO := [⟨some 48, none, .mv (.t 5)⟩,
  ⟨some 49, none, .b2s (.t 48)⟩,
  ⟨some 50, none, .mv (.t 6)⟩,
  ⟨some 51, none, .bin .add (.t 50) (.c (.it .i64 1))⟩,
  ⟨some 2, none, .mv (.t 49)⟩,
  ⟨some 3, none, .mv (.t 51)⟩,
  ⟨some 4, none, .mv (.c (.it .i64 0))⟩]
noncomputable def r55_12 : List AO := [⟨some 11, none, .mv (.t 6)⟩,
  ⟨some 12, none, .bin .add (.t 11) (.c (.it .i64 1))⟩,
  ⟨some 6, none, .mv (.t 12)⟩]
noncomputable def r55_13 : List AO := [⟨some 2, none, .mv (.c (.st []))⟩,
  ⟨some 3, none, .mv (.c (.it .i64 0))⟩,
  ⟨some 4, none, .mv (.c (.it .i64 4))⟩]
set_option maxRecDepth 1000000 in
noncomputable def c55 : AFn := ⟨52, [(2, none), (3, none), (4, none)],
  (.seq (.ops r55_0)
  (.seq (.ops r55_1)
  (.seq (.seq (.ops r55_2)
  (.block 0 (.loop (.seq (.seq (.ops r55_3)
  (.cond (.t 10) .skip
  (.exit 0)))
  (.seq (.block 1 (.seq (.seq (.drw r55_4)
  (.cond (.t 17) (.seq (.ops r55_5)
  (.exit 1))
  .skip))
  (.seq (.seq (.drw r55_6)
  (.cond (.t 36) (.seq (.ops r55_7)
  (.seq (.ops r55_8)
  (.exit 1)))
  .skip))
  (.seq (.seq (.ops r55_9)
  (.cond (.t 47) (.seq (.ops r55_10)
  .ret)
  .skip))
  (.seq (.ops r55_11)
  .ret)))))
  (.ops r55_12))))))
  (.seq (.ops r55_13)
  .ret))))⟩
set_option maxRecDepth 1000000 in
theorem t55 : trF Tryd.prog 55 = some c55 := by kernel_rfl
/-- strings.HasPrefix (0 s, 1 prefix, 2 s, 3 prefix) -/
noncomputable def r56_0 : List AO := [⟨some 4, none, .mv (.c (.bl false))⟩]
noncomputable def r56_1 : List AO := [⟨some 5, none, .mv (.t 0)⟩,
  ⟨some 6, none, .mv (.t 1)⟩,
  ⟨some 7, none, .call 66 [(.t 5), (.t 6)]⟩,
  ⟨some 4, none, .mv (.t 7)⟩]
set_option maxRecDepth 1000000 in
noncomputable def c56 : AFn := ⟨8, [(4, none)],
  (.seq (.ops r56_0)
  (.seq (.ops r56_1)
  .ret))⟩
set_option maxRecDepth 1000000 in
theorem t56 : trF Tryd.prog 56 = some c56 := by kernel_rfl
/-- strconv.FormatInt (0 i, 1 base, 2 i, 3 base) -/
noncomputable def r57_0 : List AO := [⟨some 4, none, .mv (.c (.st []))⟩]
noncomputable def r57_1 : List AO := [⟨some 5, none, .mv (.t 0)⟩,
  ⟨some 6, none, .mv (.t 1)⟩,
  ⟨some 7, none, .call 67 [(.t 5), (.t 6)]⟩,
  ⟨some 4, none, .mv (.t 7)⟩]
set_option maxRecDepth 1000000 in
noncomputable def c57 : AFn := ⟨8, [(4, none)],
  (.seq (.ops r57_0)
  (.seq (.ops r57_1)
  .ret))⟩
set_option maxRecDepth 1000000 in
theorem t57 : trF Tryd.prog 57 = some c57 := by kernel_rfl
/-- strings.ReplaceAll (0 s, 1 old, 2 new, 3 s, 4 old, 5 new) -/
noncomputable def r58_0 : List AO := [⟨some 6, none, .mv (.c (.st []))⟩]
noncomputable def r58_1 : List AO := [⟨some 7, none, .mv (.t 0)⟩,
  ⟨some 8, none, .mv (.t 1)⟩,
  ⟨some 9, none, .mv (.t 2)⟩,
  ⟨some 10, none, .call 68 [(.t 7), (.t 8), (.t 9), (.c (.it .i64 (-1)))]⟩,
  ⟨some 6, none, .mv (.t 10)⟩]
set_option maxRecDepth 1000000 in
noncomputable def c58 : AFn := ⟨11, [(6, none)],
  (.seq (.ops r58_0)
  (.seq (.ops r58_1)
  .ret))⟩
set_option maxRecDepth 1000000 in
theorem t58 : trF Tryd.prog 58 = some c58 := by kernel_rfl
/-- internal/stringslite.HasPrefix (0 s, 1 prefix, 2 s, 3 prefix) -/
noncomputable def r66_0 : List AO := [⟨some 4, none, .mv (.c (.bl false))⟩]
noncomputable def r66_1 : List AO := [⟨some 5, none, .mv (.t 0)⟩,
  ⟨some 6, none, .lens (.t 5)⟩,
  ⟨some 7, none, .mv (.t 1)⟩,
  ⟨some 8, none, .lens (.t 7)⟩,
  ⟨some 9, none, .bin .geq (.t 6) (.t 8)⟩,
  ⟨some 10, none, .mv (.t 9)⟩,
  ⟨some 11, some (10, true), .mv (.t 0)⟩,
  ⟨some 12, some (10, true), .mv (.t 1)⟩,
  ⟨some 13, some (10, true), .lens (.t 12)⟩,
  ⟨some 14, some (10, true), .sls (.t 11) none (some (.t 13))⟩,
  ⟨some 15, some (10, true), .mv (.t 1)⟩,
  ⟨some 16, some (10, true), .eq false 2 (.t 14) (.t 15)⟩,
  ⟨some 17, none, .pick (.t 10) (.t 16) (.c (.bl false))⟩,
  ⟨some 4, none, .mv (.t 17)⟩]
set_option maxRecDepth 1000000 in
noncomputable def c66 : AFn := ⟨18, [(4, none)],
  (.seq (.ops r66_0)
  (.seq (.ops r66_1)
  .ret))⟩
set_option maxRecDepth 1000000 in
theorem t66 : trF Tryd.prog 66 = some c66 := by kernel_rfl
end Go.Proofs.YteoohihaibgplaaDoor
