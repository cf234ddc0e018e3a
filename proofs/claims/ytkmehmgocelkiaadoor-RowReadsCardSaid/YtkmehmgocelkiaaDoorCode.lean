/-
  The resolved code of the functions, each held against the program by the kernel.
-/
import Derived.Test.YtkmehmgocelkiaaDoorAv
import Derived.Test.YtkmehmgocelkiaaDoorRows
import Derived.KernelRfl
namespace Go.Proofs.YtkmehmgocelkiaaDoor
open Go.AV
/-- regrater/regraterlaw07.RowKeys (0 x, 1 y, 2 x, 3 y, 5 a, 6 m, 7 b, 8 n, 9 s, 10 r, 11 e) -/
noncomputable def r7_0 : List AO := [⟨some 4, none, .mv (.c (.bl false))⟩]
noncomputable def r7_1 : List AO := [⟨some 12, none, .call 26 []⟩,
  ⟨some 13, none, .un .not (.t 12)⟩]
noncomputable def r7_2 : List AO := [⟨some 4, none, .mv (.c (.bl false))⟩]
noncomputable def r7_3 : List AO := [⟨some 15, none, .mv (.t 0)⟩,
  ⟨some 16, none, .call 27 [(.t 15)]⟩,
  ⟨some 14, none, .mv (.t 16)⟩,
  ⟨some 17, none, .ext (.t 14) 0⟩,
  ⟨some 18, none, .ext (.t 14) 1⟩,
  ⟨some 5, none, .mv (.t 17)⟩,
  ⟨some 6, none, .mv (.t 18)⟩]
noncomputable def r7_4 : List AO := [⟨some 20, none, .mv (.t 1)⟩,
  ⟨some 21, none, .call 27 [(.t 20)]⟩,
  ⟨some 19, none, .mv (.t 21)⟩,
  ⟨some 22, none, .ext (.t 19) 0⟩,
  ⟨some 23, none, .ext (.t 19) 1⟩,
  ⟨some 7, none, .mv (.t 22)⟩,
  ⟨some 8, none, .mv (.t 23)⟩]
noncomputable def r7_5 : List AO := [⟨some 24, none, .mv (.t 5)⟩,
  ⟨some 25, none, .call 28 [(.t 24)]⟩,
  ⟨some 9, none, .mv (.t 25)⟩]
noncomputable def r7_6 : List AO := [⟨some 27, none, .mv (.t 9)⟩,
  ⟨some 28, none, .call 29 [(.t 27)]⟩,
  ⟨some 26, none, .mv (.t 28)⟩,
  ⟨some 29, none, .ext (.t 26) 0⟩,
  ⟨some 30, none, .ext (.t 26) 1⟩,
  ⟨some 10, none, .mv (.t 29)⟩,
  ⟨some 11, none, .mv (.t 30)⟩]
noncomputable def r7_7 : List AO := [⟨some 31, none, .mv (.t 9)⟩,
  ⟨some 32, none, .mv (.t 6)⟩,
  ⟨some 33, none, .call 30 [(.t 32)]⟩,
  ⟨some 34, none, .eq false 2 (.t 31) (.t 33)⟩,
  ⟨some 35, none, .mv (.t 34)⟩,
  ⟨some 36, some (35, true), .mv (.t 11)⟩,
  ⟨some 37, some (35, true), .eq false 1 (.t 36) (.c (.it .i64 0))⟩,
  ⟨some 38, none, .pick (.t 35) (.t 37) (.c (.bl false))⟩,
  ⟨some 39, none, .mv (.t 38)⟩,
  ⟨some 40, some (39, true), .mv (.t 10)⟩,
  ⟨some 41, some (39, true), .mv (.t 5)⟩,
  ⟨some 42, some (39, true), .call 31 [(.t 40), (.t 41)]⟩,
  ⟨some 43, some (39, true), .eq false 1 (.t 42) (.c (.it .i64 0))⟩,
  ⟨some 44, none, .pick (.t 39) (.t 43) (.c (.bl false))⟩,
  ⟨some 45, none, .mv (.t 44)⟩,
  ⟨some 46, some (45, true), .mv (.t 10)⟩,
  ⟨some 47, some (45, true), .len (.t 46)⟩,
  ⟨some 48, some (45, true), .mv (.t 5)⟩,
  ⟨some 49, some (45, true), .len (.t 48)⟩,
  ⟨some 50, some (45, true), .eq false 1 (.t 47) (.t 49)⟩,
  ⟨some 51, none, .pick (.t 45) (.t 50) (.c (.bl false))⟩,
  ⟨some 52, none, .mv (.t 51)⟩,
  ⟨some 53, some (52, true), .mv (.t 9)⟩,
  ⟨some 54, some (52, true), .mv (.t 7)⟩,
  ⟨some 55, some (52, true), .call 28 [(.t 54)]⟩,
  ⟨some 56, some (52, true), .eq false 2 (.t 53) (.t 55)⟩,
  ⟨some 57, some (52, true), .mv (.t 6)⟩,
  ⟨some 58, some (52, true), .mv (.t 8)⟩,
  ⟨some 59, some (52, true), .call 32 [(.t 57), (.t 58)]⟩,
  ⟨some 60, some (52, true), .eq false 0 (.t 56) (.t 59)⟩,
  ⟨some 61, none, .pick (.t 52) (.t 60) (.c (.bl false))⟩,
  ⟨some 4, none, .mv (.t 61)⟩]
set_option maxRecDepth 1000000 in
noncomputable def c7 : AFn := ⟨62, [(4, none)],
  (.seq (.ops r7_0)
  (.seq (.seq (.ops r7_1)
  (.cond (.t 13) (.seq (.ops r7_2)
  .ret)
  .skip))
  (.seq (.ops r7_3)
  (.seq (.ops r7_4)
  (.seq (.ops r7_5)
  (.seq (.ops r7_6)
  (.seq (.ops r7_7)
  .ret)))))))⟩
set_option maxRecDepth 1000000 in
theorem t7 : trF Tryd.prog 7 = some c7 := by kernel_rfl
/-- regrater/regraterlaw07.RowReads (0 l, 1 tail, 2 l, 3 tail, 5 short, 6 i, 7 s, 8 r, 9 e, 10 texts, 11 whole, 12 good, 13 i, 14 t, 15 ok) -/
noncomputable def r8_0 : List AO := [⟨some 4, none, .mv (.c (.bl false))⟩]
noncomputable def r8_1 : List AO := [⟨some 16, none, .call 26 []⟩,
  ⟨some 17, none, .un .not (.t 16)⟩]
noncomputable def r8_2 : List AO := [⟨some 4, none, .mv (.c (.bl false))⟩]
noncomputable def r8_3 : List AO := [⟨some 5, none, .mv (.c (.sl true 0 []))⟩]
noncomputable def r8_4 : List AO := [⟨some 6, none, .mv (.c (.it .i64 0))⟩]
noncomputable def r8_5 : List AO := [⟨some 18, none, .mv (.t 6)⟩,
  ⟨some 19, none, .mv (.t 0)⟩,
  ⟨some 20, none, .len (.t 19)⟩,
  ⟨some 21, none, .bin .lss (.t 18) (.t 20)⟩,
  ⟨some 22, none, .mv (.t 21)⟩,
  ⟨some 23, some (22, true), .mv (.t 6)⟩,
  ⟨some 24, some (22, true), .bin .lss (.t 23) (.c (.it .i64 9))⟩,
  ⟨some 25, none, .pick (.t 22) (.t 24) (.c (.bl false))⟩]
noncomputable def r8_6 : List (AO × List Nat) := [(⟨some 28, none, .mv (.t 5)⟩, []),
  (⟨some 29, none, .mv (.t 0)⟩, []),
  (⟨some 30, none, .mv (.t 6)⟩, []),
  (⟨some 31, none, .iad 1 (.t 29) (.t 30)⟩, []),
  (⟨some 32, none, .ld false 1 (.t 31)⟩, []),
  (⟨some 33, none, .mv (.t 0)⟩, []),
  (⟨some 34, none, .mv (.t 6)⟩, []),
  (⟨some 35, none, .iad 1 (.t 33) (.t 34)⟩, []),
  (⟨some 36, none, .ld false 1 (.t 35)⟩, []),
  (⟨some 37, none, .lens (.t 36)⟩, []),
  (⟨some 38, none, .mnx false [(.t 37), (.c (.it .i64 80))]⟩, []),
  (⟨some 39, none, .sls (.t 32) none (some (.t 38))⟩, []),
  (⟨some 40, none, .bsl 9 1 1 [(.st [])] [(0, 1, (.t 39))]⟩, [0]),
  (⟨some 41, none, .app 9 1 16 (.t 28) (.t 40)⟩, []),
  (⟨some 5, none, .mv (.t 41)⟩, [])]
noncomputable def r8_7 : List AO := [⟨some 26, none, .mv (.t 6)⟩,
  ⟨some 27, none, .bin .add (.t 26) (.c (.it .i64 1))⟩,
  ⟨some 6, none, .mv (.t 27)⟩]
noncomputable def r8_8 : List (AO × List Nat) := [(⟨some 42, none, .mv (.t 5)⟩, []),
  (⟨some 43, none, .call 33 [(.t 42)]⟩, []),
  (⟨some 44, none, .mv (.t 1)⟩, [1]),
  (⟨some 45, none, .mv (.t 1)⟩, [1]),
  (⟨some 46, none, .lens (.t 45)⟩, [1]),
  (⟨some 47, none, .mnx false [(.t 46), (.c (.it .i64 20))]⟩, [1]),
  (⟨some 48, none, .sls (.t 44) none (some (.t 47))⟩, [1]),
  (⟨some 49, none, .bin .add (.t 43) (.t 48)⟩, []),
  (⟨some 7, none, .mv (.t 49)⟩, [])]
noncomputable def r8_9 : List AO := [⟨some 51, none, .mv (.t 7)⟩,
  ⟨some 52, none, .call 29 [(.t 51)]⟩,
  ⟨some 50, none, .mv (.t 52)⟩,
  ⟨some 53, none, .ext (.t 50) 0⟩,
  ⟨some 54, none, .ext (.t 50) 1⟩,
  ⟨some 8, none, .mv (.t 53)⟩,
  ⟨some 9, none, .mv (.t 54)⟩]
noncomputable def r8_10 : List AO := [⟨some 56, none, .mv (.t 7)⟩,
  ⟨some 57, none, .call 34 [(.t 56)]⟩,
  ⟨some 55, none, .mv (.t 57)⟩,
  ⟨some 58, none, .ext (.t 55) 0⟩,
  ⟨some 59, none, .ext (.t 55) 1⟩,
  ⟨some 10, none, .mv (.t 58)⟩,
  ⟨some 11, none, .mv (.t 59)⟩]
noncomputable def r8_11 : List AO := [⟨some 60, none, .mv (.t 11)⟩,
  ⟨some 61, none, .un .not (.t 60)⟩]
noncomputable def r8_12 : List AO := [⟨some 62, none, .mv (.t 9)⟩,
  ⟨some 63, none, .eq false 1 (.t 62) (.c (.it .i64 2))⟩,
  ⟨some 64, none, .mv (.t 63)⟩,
  ⟨some 65, some (64, true), .mv (.t 8)⟩,
  ⟨some 66, some (64, true), .len (.t 65)⟩,
  ⟨some 67, some (64, true), .eq false 1 (.t 66) (.c (.it .i64 0))⟩,
  ⟨some 68, none, .pick (.t 64) (.t 67) (.c (.bl false))⟩,
  ⟨some 4, none, .mv (.t 68)⟩]
noncomputable def r8_13 : List AO := [⟨some 12, none, .mv (.c (.bl true))⟩]
noncomputable def r8_14 : List AO := [⟨some 13, none, .mv (.c (.it .i64 0))⟩]
noncomputable def r8_15 : List AO := [⟨some 69, none, .mv (.t 13)⟩,
  ⟨some 70, none, .mv (.t 10)⟩,
  ⟨some 71, none, .len (.t 70)⟩,
  ⟨some 72, none, .bin .lss (.t 69) (.t 71)⟩]
noncomputable def r8_16 : List AO := [⟨some 75, none, .mv (.t 10)⟩,
  ⟨some 76, none, .mv (.t 13)⟩,
  ⟨some 77, none, .iad 1 (.t 75) (.t 76)⟩,
  ⟨some 78, none, .ld false 1 (.t 77)⟩,
  ⟨some 14, none, .mv (.t 78)⟩]
noncomputable def r8_17 : List AO := [⟨some 15, none, .mv (.c (.bl false))⟩]
noncomputable def r8_18 : List AO := [⟨some 79, none, .mv (.t 14)⟩,
  ⟨some 80, none, .lens (.t 79)⟩,
  ⟨some 81, none, .bin .gtr (.t 80) (.c (.it .i64 0))⟩]
noncomputable def r8_19 : List AO := [⟨some 82, none, .mv (.t 14)⟩,
  ⟨some 83, none, .idxs (.t 82) (.c (.it .i64 0))⟩,
  ⟨some 84, none, .eq false 1 (.t 83) (.c (.it .u8 0))⟩,
  ⟨some 85, none, .mv (.t 84)⟩,
  ⟨some 86, some (85, true), .mv (.t 14)⟩,
  ⟨some 87, some (85, true), .lens (.t 86)⟩,
  ⟨some 88, some (85, true), .eq false 1 (.t 87) (.c (.it .i64 1))⟩,
  ⟨some 89, none, .pick (.t 85) (.t 88) (.c (.bl false))⟩,
  ⟨some 90, none, .mv (.t 89)⟩,
  ⟨some 91, some (90, false), .mv (.t 14)⟩,
  ⟨some 92, some (90, false), .idxs (.t 91) (.c (.it .i64 0))⟩,
  ⟨some 93, some (90, false), .eq false 1 (.t 92) (.c (.it .u8 1))⟩,
  ⟨some 94, some (90, false), .mv (.t 93)⟩,
  ⟨some 95, some (94, true), .mv (.t 14)⟩,
  ⟨some 96, some (94, true), .lens (.t 95)⟩,
  ⟨some 97, some (94, true), .eq false 1 (.t 96) (.c (.it .i64 2))⟩,
  ⟨some 98, some (90, false), .pick (.t 94) (.t 97) (.c (.bl false))⟩,
  ⟨some 99, some (90, false), .mv (.t 98)⟩,
  ⟨some 100, some (99, true), .mv (.t 14)⟩,
  ⟨some 101, some (99, true), .idxs (.t 100) (.c (.it .i64 1))⟩,
  ⟨some 102, some (99, true), .bin .lss (.t 101) (.c (.it .u8 2))⟩,
  ⟨some 103, some (90, false), .pick (.t 99) (.t 102) (.c (.bl false))⟩,
  ⟨some 104, none, .pick (.t 90) (.c (.bl true)) (.t 103)⟩,
  ⟨some 105, none, .mv (.t 104)⟩,
  ⟨some 106, some (105, false), .mv (.t 14)⟩,
  ⟨some 107, some (105, false), .idxs (.t 106) (.c (.it .i64 0))⟩,
  ⟨some 108, some (105, false), .eq false 1 (.t 107) (.c (.it .u8 2))⟩,
  ⟨some 109, some (105, false), .mv (.t 108)⟩,
  ⟨some 110, some (109, true), .mv (.t 14)⟩,
  ⟨some 111, some (109, true), .lens (.t 110)⟩,
  ⟨some 112, some (109, true), .eq false 1 (.t 111) (.c (.it .i64 9))⟩,
  ⟨some 113, some (105, false), .pick (.t 109) (.t 112) (.c (.bl false))⟩,
  ⟨some 114, none, .pick (.t 105) (.c (.bl true)) (.t 113)⟩,
  ⟨some 115, none, .mv (.t 114)⟩,
  ⟨some 116, some (115, false), .mv (.t 14)⟩,
  ⟨some 117, some (115, false), .idxs (.t 116) (.c (.it .i64 0))⟩,
  ⟨some 118, some (115, false), .eq false 1 (.t 117) (.c (.it .u8 3))⟩,
  ⟨some 119, some (115, false), .mv (.t 118)⟩,
  ⟨some 120, some (119, true), .mv (.t 14)⟩,
  ⟨some 121, some (119, true), .lens (.t 120)⟩,
  ⟨some 122, some (119, true), .bin .leq (.t 121) (.c (.it .i64 65))⟩,
  ⟨some 123, some (115, false), .pick (.t 119) (.t 122) (.c (.bl false))⟩,
  ⟨some 124, none, .pick (.t 115) (.c (.bl true)) (.t 123)⟩,
  ⟨some 15, none, .mv (.t 124)⟩]
noncomputable def r8_20 : List AO := [⟨some 125, none, .mv (.t 12)⟩,
  ⟨some 126, none, .mv (.t 125)⟩,
  ⟨some 127, some (126, true), .mv (.t 15)⟩,
  ⟨some 128, none, .pick (.t 126) (.t 127) (.c (.bl false))⟩,
  ⟨some 12, none, .mv (.t 128)⟩]
noncomputable def r8_21 : List AO := [⟨some 73, none, .mv (.t 13)⟩,
  ⟨some 74, none, .bin .add (.t 73) (.c (.it .i64 1))⟩,
  ⟨some 13, none, .mv (.t 74)⟩]
noncomputable def r8_22 : List AO := [⟨some 129, none, .mv (.t 12)⟩,
  ⟨some 130, none, .un .not (.t 129)⟩]
noncomputable def r8_23 : List AO := [⟨some 131, none, .mv (.t 9)⟩,
  ⟨some 132, none, .eq false 1 (.t 131) (.c (.it .i64 4))⟩,
  ⟨some 133, none, .mv (.t 132)⟩,
  ⟨some 134, some (133, true), .mv (.t 8)⟩,
  ⟨some 135, some (133, true), .len (.t 134)⟩,
  ⟨some 136, some (133, true), .eq false 1 (.t 135) (.c (.it .i64 0))⟩,
  ⟨some 137, none, .pick (.t 133) (.t 136) (.c (.bl false))⟩,
  ⟨some 4, none, .mv (.t 137)⟩]
noncomputable def r8_24 : List AO := [⟨some 138, none, .mv (.t 9)⟩,
  ⟨some 139, none, .eq false 1 (.t 138) (.c (.it .i64 0))⟩,
  ⟨some 140, none, .mv (.t 139)⟩,
  ⟨some 141, some (140, true), .mv (.t 8)⟩,
  ⟨some 142, some (140, true), .len (.t 141)⟩,
  ⟨some 143, some (140, true), .mv (.t 10)⟩,
  ⟨some 144, some (140, true), .len (.t 143)⟩,
  ⟨some 145, some (140, true), .eq false 1 (.t 142) (.t 144)⟩,
  ⟨some 146, none, .pick (.t 140) (.t 145) (.c (.bl false))⟩,
  ⟨some 147, none, .mv (.t 146)⟩,
  ⟨some 148, some (147, true), .mv (.t 8)⟩,
  ⟨some 149, some (147, true), .call 28 [(.t 148)]⟩,
  ⟨some 150, some (147, true), .mv (.t 7)⟩,
  ⟨some 151, some (147, true), .eq false 2 (.t 149) (.t 150)⟩,
  ⟨some 152, none, .pick (.t 147) (.t 151) (.c (.bl false))⟩,
  ⟨some 4, none, .mv (.t 152)⟩]
set_option maxRecDepth 1000000 in
noncomputable def c8 : AFn := ⟨153, [(4, none)],
  (.seq (.ops r8_0)
  (.seq (.seq (.ops r8_1)
  (.cond (.t 17) (.seq (.ops r8_2)
  .ret)
  .skip))
  (.seq (.ops r8_3)
  (.seq (.seq (.ops r8_4)
  (.block 0 (.loop (.seq (.seq (.ops r8_5)
  (.cond (.t 25) .skip
  (.exit 0)))
  (.seq (.block 1 (.drw r8_6))
  (.ops r8_7))))))
  (.seq (.drw r8_8)
  (.seq (.ops r8_9)
  (.seq (.ops r8_10)
  (.seq (.seq (.ops r8_11)
  (.cond (.t 61) (.seq (.ops r8_12)
  .ret)
  .skip))
  (.seq (.ops r8_13)
  (.seq (.seq (.ops r8_14)
  (.block 2 (.loop (.seq (.seq (.ops r8_15)
  (.cond (.t 72) .skip
  (.exit 2)))
  (.seq (.block 3 (.seq (.ops r8_16)
  (.seq (.ops r8_17)
  (.seq (.seq (.ops r8_18)
  (.cond (.t 81) (.ops r8_19)
  .skip))
  (.ops r8_20)))))
  (.ops r8_21))))))
  (.seq (.seq (.ops r8_22)
  (.cond (.t 130) (.seq (.ops r8_23)
  .ret)
  .skip))
  (.seq (.ops r8_24)
  .ret))))))))))))⟩
set_option maxRecDepth 1000000 in
theorem t8 : trF Tryd.prog 8 = some c8 := by kernel_rfl
/-- regrater/regraterref06.Before (0 a, 1 b, 2 a, 3 b, 5 i) -/
noncomputable def r14_0 : List AO := [⟨some 2, none, .box 27 3 (.t 0)⟩,
  ⟨some 3, none, .box 27 3 (.t 1)⟩,
  ⟨some 4, none, .mv (.c (.bl false))⟩]
noncomputable def r14_1 : List AO := [⟨some 6, none, .fad 0 (.t 2)⟩,
  ⟨some 7, none, .ld false 1 (.t 6)⟩,
  ⟨some 8, none, .fad 0 (.t 3)⟩,
  ⟨some 9, none, .ld false 1 (.t 8)⟩,
  ⟨some 10, none, .eq true 1 (.t 7) (.t 9)⟩]
noncomputable def r14_2 : List AO := [⟨some 11, none, .fad 0 (.t 2)⟩,
  ⟨some 12, none, .ld false 1 (.t 11)⟩,
  ⟨some 13, none, .fad 0 (.t 3)⟩,
  ⟨some 14, none, .ld false 1 (.t 13)⟩,
  ⟨some 15, none, .bin .lss (.t 12) (.t 14)⟩,
  ⟨some 4, none, .mv (.t 15)⟩]
noncomputable def r14_3 : List AO := [⟨some 16, none, .fad 0 (.t 2)⟩,
  ⟨some 17, none, .ld false 1 (.t 16)⟩,
  ⟨some 18, none, .eq false 1 (.t 17) (.c (.it .i64 3))⟩]
noncomputable def r14_4 : List AO := [⟨some 5, none, .mv (.c (.it .i64 0))⟩]
noncomputable def r14_5 : List AO := [⟨some 19, none, .mv (.t 5)⟩,
  ⟨some 20, none, .fad 2 (.t 2)⟩,
  ⟨some 21, none, .ld false 1 (.t 20)⟩,
  ⟨some 22, none, .lens (.t 21)⟩,
  ⟨some 23, none, .bin .lss (.t 19) (.t 22)⟩,
  ⟨some 24, none, .mv (.t 23)⟩,
  ⟨some 25, some (24, true), .mv (.t 5)⟩,
  ⟨some 26, some (24, true), .fad 2 (.t 3)⟩,
  ⟨some 27, some (24, true), .ld false 1 (.t 26)⟩,
  ⟨some 28, some (24, true), .lens (.t 27)⟩,
  ⟨some 29, some (24, true), .bin .lss (.t 25) (.t 28)⟩,
  ⟨some 30, none, .pick (.t 24) (.t 29) (.c (.bl false))⟩]
noncomputable def r14_6 : List (AO × List Nat) := [(⟨some 33, none, .fad 2 (.t 2)⟩, []),
  (⟨some 34, none, .ld false 1 (.t 33)⟩, []),
  (⟨some 35, none, .mv (.t 5)⟩, []),
  (⟨some 36, none, .idxs (.t 34) (.t 35)⟩, []),
  (⟨some 37, none, .fad 2 (.t 3)⟩, []),
  (⟨some 38, none, .ld false 1 (.t 37)⟩, []),
  (⟨some 39, none, .mv (.t 5)⟩, []),
  (⟨some 40, none, .idxs (.t 38) (.t 39)⟩, []),
  (⟨some 41, none, .eq true 1 (.t 36) (.t 40)⟩, [])]
noncomputable def r14_7 : List (AO × List Nat) := [(⟨some 42, none, .fad 2 (.t 2)⟩, []),
  (⟨some 43, none, .ld false 1 (.t 42)⟩, []),
  (⟨some 44, none, .mv (.t 5)⟩, []),
  (⟨some 45, none, .idxs (.t 43) (.t 44)⟩, []),
  (⟨some 46, none, .fad 2 (.t 3)⟩, []),
  (⟨some 47, none, .ld false 1 (.t 46)⟩, []),
  (⟨some 48, none, .mv (.t 5)⟩, []),
  (⟨some 49, none, .idxs (.t 47) (.t 48)⟩, []),
  (⟨some 50, none, .bin .lss (.t 45) (.t 49)⟩, []),
  (⟨some 4, none, .mv (.t 50)⟩, [])]
noncomputable def r14_8 : List AO := [⟨some 31, none, .mv (.t 5)⟩,
  ⟨some 32, none, .bin .add (.t 31) (.c (.it .i64 1))⟩,
  ⟨some 5, none, .mv (.t 32)⟩]
noncomputable def r14_9 : List AO := [⟨some 51, none, .fad 2 (.t 2)⟩,
  ⟨some 52, none, .ld false 1 (.t 51)⟩,
  ⟨some 53, none, .lens (.t 52)⟩,
  ⟨some 54, none, .fad 2 (.t 3)⟩,
  ⟨some 55, none, .ld false 1 (.t 54)⟩,
  ⟨some 56, none, .lens (.t 55)⟩,
  ⟨some 57, none, .bin .lss (.t 53) (.t 56)⟩,
  ⟨some 4, none, .mv (.t 57)⟩]
noncomputable def r14_10 : List AO := [⟨some 58, none, .fad 1 (.t 2)⟩,
  ⟨some 59, none, .ld false 1 (.t 58)⟩,
  ⟨some 60, none, .fad 1 (.t 3)⟩,
  ⟨some 61, none, .ld false 1 (.t 60)⟩,
  ⟨some 62, none, .bin .lss (.t 59) (.t 61)⟩,
  ⟨some 4, none, .mv (.t 62)⟩]
set_option maxRecDepth 1000000 in
noncomputable def c14 : AFn := ⟨63, [(4, none)],
  (.seq (.ops r14_0)
  (.seq (.seq (.ops r14_1)
  (.cond (.t 10) (.seq (.ops r14_2)
  .ret)
  .skip))
  (.seq (.seq (.ops r14_3)
  (.cond (.t 18) (.seq (.seq (.ops r14_4)
  (.block 0 (.loop (.seq (.seq (.ops r14_5)
  (.cond (.t 30) .skip
  (.exit 0)))
  (.seq (.block 1 (.seq (.drw r14_6)
  (.cond (.t 41) (.seq (.drw r14_7)
  .ret)
  .skip)))
  (.ops r14_8))))))
  (.seq (.ops r14_9)
  .ret))
  .skip))
  (.seq (.ops r14_10)
  .ret))))⟩
set_option maxRecDepth 1000000 in
theorem t14 : trF Tryd.prog 14 = some c14 := by kernel_rfl
/-- regrater/value.Compare (0 a, 1 b, 2 a, 3 b) -/
noncomputable def r15_0 : List AO := [⟨some 2, none, .box 26 3 (.t 0)⟩,
  ⟨some 3, none, .box 26 3 (.t 1)⟩,
  ⟨some 4, none, .mv (.c (.it .i64 0))⟩]
noncomputable def r15_1 : List (AO × List Nat) := [(⟨some 5, none, .fad 0 (.t 2)⟩, []),
  (⟨some 6, none, .ld false 1 (.t 5)⟩, []),
  (⟨some 7, none, .fad 0 (.t 3)⟩, []),
  (⟨some 8, none, .ld false 1 (.t 7)⟩, []),
  (⟨some 9, none, .call 49 [(.t 6), (.t 8)]⟩, []),
  (⟨some 10, none, .fad 1 (.t 2)⟩, [4]),
  (⟨some 11, none, .ld false 1 (.t 10)⟩, [4]),
  (⟨some 12, none, .fad 1 (.t 3)⟩, [4]),
  (⟨some 13, none, .ld false 1 (.t 12)⟩, [4]),
  (⟨some 14, none, .call 50 [(.t 11), (.t 13)]⟩, []),
  (⟨some 15, none, .fad 2 (.t 2)⟩, [4, 9]),
  (⟨some 16, none, .ld false 1 (.t 15)⟩, [4, 9]),
  (⟨some 17, none, .fad 2 (.t 3)⟩, [4, 9]),
  (⟨some 18, none, .ld false 1 (.t 17)⟩, [4, 9]),
  (⟨some 19, none, .call 51 [(.t 16), (.t 18)]⟩, []),
  (⟨some 20, none, .bsl 3 1 3 [(.it .i64 0)] [(0, 1, (.t 9)), (1, 1, (.t 14)), (2, 1, (.t 19))]⟩, []),
  (⟨some 21, none, .call 48 [(.t 20)]⟩, []),
  (⟨some 4, none, .mv (.t 21)⟩, [])]
set_option maxRecDepth 1000000 in
noncomputable def c15 : AFn := ⟨22, [(4, none)],
  (.seq (.ops r15_0)
  (.seq (.drw r15_1)
  .ret))⟩
set_option maxRecDepth 1000000 in
theorem t15 : trF Tryd.prog 15 = some c15 := by kernel_rfl
/-- regrater/value.OfBool (0 b, 1 b) -/
noncomputable def r16_0 : List AO := [⟨some 2, none, .box 26 3 (.c (.agg [(.it .i64 0), (.it .i64 0), (.st [])]))⟩]
noncomputable def r16_1 : List AO := [⟨some 3, none, .mv (.t 0)⟩]
noncomputable def r16_2 : List AO := [⟨some 4, none, .bld [(.it .i64 0), (.it .i64 0), (.st [])] [(0, 1, (.c (.it .i64 1))), (1, 1, (.c (.it .i64 1)))]⟩,
  ⟨none, none, .sto 3 (.t 2) (.t 4)⟩]
noncomputable def r16_3 : List AO := [⟨some 5, none, .bld [(.it .i64 0), (.it .i64 0), (.st [])] [(0, 1, (.c (.it .i64 1)))]⟩,
  ⟨none, none, .sto 3 (.t 2) (.t 5)⟩]
set_option maxRecDepth 1000000 in
noncomputable def c16 : AFn := ⟨6, [(2, some 3)],
  (.seq (.ops r16_0)
  (.seq (.seq (.ops r16_1)
  (.cond (.t 3) (.seq (.ops r16_2)
  .ret)
  .skip))
  (.seq (.ops r16_3)
  .ret)))⟩
set_option maxRecDepth 1000000 in
theorem t16 : trF Tryd.prog 16 = some c16 := by kernel_rfl
/-- regrater/value.OfInt (0 n, 1 n) -/
noncomputable def r18_0 : List AO := [⟨some 2, none, .box 26 3 (.c (.agg [(.it .i64 0), (.it .i64 0), (.st [])]))⟩]
noncomputable def r18_1 : List AO := [⟨some 3, none, .mv (.t 0)⟩,
  ⟨some 4, none, .bld [(.it .i64 0), (.it .i64 0), (.st [])] [(0, 1, (.c (.it .i64 2))), (1, 1, (.t 3))]⟩,
  ⟨none, none, .sto 3 (.t 2) (.t 4)⟩]
set_option maxRecDepth 1000000 in
noncomputable def c18 : AFn := ⟨5, [(2, some 3)],
  (.seq (.ops r18_0)
  (.seq (.ops r18_1)
  .ret))⟩
set_option maxRecDepth 1000000 in
theorem t18 : trF Tryd.prog 18 = some c18 := by kernel_rfl
/-- (regrater/value.Value).Good (0 v, 1 v) -/
noncomputable def r19_0 : List AO := [⟨some 1, none, .box 26 3 (.t 0)⟩,
  ⟨some 2, none, .mv (.c (.bl false))⟩]
noncomputable def r19_1 : List AO := [⟨some 3, none, .fad 0 (.t 1)⟩,
  ⟨some 4, none, .ld false 1 (.t 3)⟩]
noncomputable def r19_2 : List AO := [⟨some 6, none, .eq false 1 (.t 4) (.c (.it .i64 0))⟩,
  ⟨some 5, none, .mv (.t 6)⟩]
noncomputable def r19_3 : List AO := [⟨some 7, none, .ld true 3 (.t 1)⟩,
  ⟨some 8, none, .bld [(.it .i64 0), (.it .i64 0), (.st [])] []⟩,
  ⟨some 9, none, .eqs false [1, 1, 2] (.t 7) (.t 8)⟩,
  ⟨some 2, none, .mv (.t 9)⟩]
noncomputable def r19_4 : List AO := [⟨some 11, none, .eq false 1 (.t 4) (.c (.it .i64 1))⟩,
  ⟨some 10, none, .mv (.t 11)⟩]
noncomputable def r19_5 : List AO := [⟨some 12, none, .fad 1 (.t 1)⟩,
  ⟨some 13, none, .ld false 1 (.t 12)⟩,
  ⟨some 14, none, .eq false 1 (.t 13) (.c (.it .i64 0))⟩,
  ⟨some 15, none, .mv (.t 14)⟩,
  ⟨some 16, some (15, false), .fad 1 (.t 1)⟩,
  ⟨some 17, some (15, false), .ld false 1 (.t 16)⟩,
  ⟨some 18, some (15, false), .eq false 1 (.t 17) (.c (.it .i64 1))⟩,
  ⟨some 19, none, .pick (.t 15) (.c (.bl true)) (.t 18)⟩,
  ⟨some 20, none, .mv (.t 19)⟩,
  ⟨some 21, some (20, true), .fad 2 (.t 1)⟩,
  ⟨some 22, some (20, true), .ld false 1 (.t 21)⟩,
  ⟨some 23, some (20, true), .eq false 2 (.t 22) (.c (.st []))⟩,
  ⟨some 24, none, .pick (.t 20) (.t 23) (.c (.bl false))⟩,
  ⟨some 2, none, .mv (.t 24)⟩]
noncomputable def r19_6 : List AO := [⟨some 26, none, .eq false 1 (.t 4) (.c (.it .i64 2))⟩,
  ⟨some 25, none, .mv (.t 26)⟩]
noncomputable def r19_7 : List AO := [⟨some 27, none, .fad 2 (.t 1)⟩,
  ⟨some 28, none, .ld false 1 (.t 27)⟩,
  ⟨some 29, none, .eq false 2 (.t 28) (.c (.st []))⟩,
  ⟨some 2, none, .mv (.t 29)⟩]
noncomputable def r19_8 : List AO := [⟨some 31, none, .eq false 1 (.t 4) (.c (.it .i64 3))⟩,
  ⟨some 30, none, .mv (.t 31)⟩]
noncomputable def r19_9 : List AO := [⟨some 32, none, .fad 1 (.t 1)⟩,
  ⟨some 33, none, .ld false 1 (.t 32)⟩,
  ⟨some 34, none, .eq false 1 (.t 33) (.c (.it .i64 0))⟩,
  ⟨some 35, none, .mv (.t 34)⟩,
  ⟨some 36, some (35, true), .fad 2 (.t 1)⟩,
  ⟨some 37, some (35, true), .ld false 1 (.t 36)⟩,
  ⟨some 38, some (35, true), .lens (.t 37)⟩,
  ⟨some 39, some (35, true), .bin .leq (.t 38) (.c (.it .i64 64))⟩,
  ⟨some 40, none, .pick (.t 35) (.t 39) (.c (.bl false))⟩,
  ⟨some 2, none, .mv (.t 40)⟩]
noncomputable def r19_10 : List AO := [⟨some 2, none, .mv (.c (.bl false))⟩]
set_option maxRecDepth 1000000 in
noncomputable def c19 : AFn := ⟨41, [(2, none)],
  (.seq (.ops r19_0)
  (.seq (.seq (.ops r19_1)
  (.block 0 (.seq (.ops r19_2)
  (.cond (.t 5) (.seq (.ops r19_3)
  .ret)
  (.seq (.ops r19_4)
  (.cond (.t 10) (.seq (.ops r19_5)
  .ret)
  (.seq (.ops r19_6)
  (.cond (.t 25) (.seq (.ops r19_7)
  .ret)
  (.seq (.ops r19_8)
  (.cond (.t 30) (.seq (.ops r19_9)
  .ret)
  .skip))))))))))
  (.seq (.ops r19_10)
  .ret)))⟩
set_option maxRecDepth 1000000 in
theorem t19 : trF Tryd.prog 19 = some c19 := by kernel_rfl
/-- (regrater/value.Value).Show (0 v, 1 v) -/
noncomputable def r21_0 : List AO := [⟨some 1, none, .box 26 3 (.t 0)⟩,
  ⟨some 2, none, .mv (.c (.st []))⟩]
noncomputable def r21_1 : List AO := [⟨some 4, none, .ld true 3 (.t 1)⟩,
  ⟨some 5, none, .call 19 [(.t 4)]⟩,
  ⟨some 6, none, .un .not (.t 5)⟩,
  ⟨some 7, none, .mv (.t 6)⟩,
  ⟨some 8, some (7, false), .ld true 3 (.t 1)⟩,
  ⟨some 9, some (7, false), .call 42 [(.t 8)]⟩,
  ⟨some 10, none, .pick (.t 7) (.c (.bl true)) (.t 9)⟩,
  ⟨some 3, none, .mv (.t 10)⟩]
noncomputable def r21_2 : List AO := [⟨some 2, none, .mv (.c (.st [78, 85, 76, 76]))⟩]
noncomputable def r21_3 : List AO := [⟨some 12, none, .ld true 3 (.t 1)⟩,
  ⟨some 13, none, .call 23 [(.t 12)]⟩,
  ⟨some 11, none, .mv (.t 13)⟩]
noncomputable def r21_4 : List AO := [⟨some 2, none, .mv (.c (.st [84, 82, 85, 69]))⟩]
noncomputable def r21_5 : List AO := [⟨some 15, none, .fad 0 (.t 1)⟩,
  ⟨some 16, none, .ld false 1 (.t 15)⟩,
  ⟨some 17, none, .eq false 1 (.t 16) (.c (.it .i64 1))⟩,
  ⟨some 14, none, .mv (.t 17)⟩]
noncomputable def r21_6 : List AO := [⟨some 2, none, .mv (.c (.st [70, 65, 76, 83, 69]))⟩]
noncomputable def r21_7 : List AO := [⟨some 19, none, .fad 0 (.t 1)⟩,
  ⟨some 20, none, .ld false 1 (.t 19)⟩,
  ⟨some 21, none, .eq false 1 (.t 20) (.c (.it .i64 2))⟩,
  ⟨some 18, none, .mv (.t 21)⟩]
noncomputable def r21_8 : List AO := [⟨some 22, none, .fad 1 (.t 1)⟩,
  ⟨some 23, none, .ld false 1 (.t 22)⟩,
  ⟨some 24, none, .call 52 [(.t 23), (.c (.it .i64 10))]⟩,
  ⟨some 2, none, .mv (.t 24)⟩]
noncomputable def r21_9 : List AO := [⟨some 25, none, .fad 2 (.t 1)⟩,
  ⟨some 26, none, .ld false 1 (.t 25)⟩,
  ⟨some 27, none, .call 53 [(.t 26), (.c (.st [39])), (.c (.st [39, 39]))]⟩,
  ⟨some 28, none, .bin .add (.c (.st [39])) (.t 27)⟩,
  ⟨some 29, none, .bin .add (.t 28) (.c (.st [39]))⟩,
  ⟨some 2, none, .mv (.t 29)⟩]
set_option maxRecDepth 1000000 in
noncomputable def c21 : AFn := ⟨30, [(2, none)],
  (.seq (.ops r21_0)
  (.seq (.block 0 (.seq (.ops r21_1)
  (.cond (.t 3) (.seq (.ops r21_2)
  .ret)
  (.seq (.ops r21_3)
  (.cond (.t 11) (.seq (.ops r21_4)
  .ret)
  (.seq (.ops r21_5)
  (.cond (.t 14) (.seq (.ops r21_6)
  .ret)
  (.seq (.ops r21_7)
  (.cond (.t 18) (.seq (.ops r21_8)
  .ret)
  .skip)))))))))
  (.seq (.ops r21_9)
  .ret)))⟩
set_option maxRecDepth 1000000 in
theorem t21 : trF Tryd.prog 21 = some c21 := by kernel_rfl
/-- (regrater/value.Value).True (0 v, 1 v) -/
noncomputable def r23_0 : List AO := [⟨some 1, none, .box 26 3 (.t 0)⟩,
  ⟨some 2, none, .mv (.c (.bl false))⟩]
noncomputable def r23_1 : List (AO × List Nat) := [(⟨some 3, none, .ld true 3 (.t 1)⟩, []),
  (⟨some 4, none, .call 16 [(.c (.bl true))]⟩, [0]),
  (⟨some 5, none, .eqs false [1, 1, 2] (.t 3) (.t 4)⟩, []),
  (⟨some 2, none, .mv (.t 5)⟩, [])]
set_option maxRecDepth 1000000 in
noncomputable def c23 : AFn := ⟨6, [(2, none)],
  (.seq (.ops r23_0)
  (.seq (.drw r23_1)
  .ret))⟩
set_option maxRecDepth 1000000 in
theorem t23 : trF Tryd.prog 23 = some c23 := by kernel_rfl
/-- regrater/regraterlaw07.speaks (1 r, 2 s, 3 e) -/
noncomputable def r26_0 : List AO := [⟨some 0, none, .mv (.c (.bl false))⟩]
noncomputable def r26_1 : List AO := [⟨some 4, none, .call 18 [(.c (.it .i64 1))]⟩,
  ⟨some 5, none, .bld [(.it .i64 0), (.it .i64 0), (.st [])] []⟩,
  ⟨some 6, none, .bsl 26 3 2 [(.it .i64 0), (.it .i64 0), (.st [])] [(0, 3, (.t 4)), (3, 3, (.t 5))]⟩,
  ⟨some 1, none, .mv (.t 6)⟩]
noncomputable def r26_2 : List AO := [⟨some 8, none, .mv (.t 1)⟩,
  ⟨some 9, none, .call 28 [(.t 8)]⟩,
  ⟨some 10, none, .call 29 [(.t 9)]⟩,
  ⟨some 7, none, .mv (.t 10)⟩,
  ⟨some 11, none, .ext (.t 7) 0⟩,
  ⟨some 12, none, .ext (.t 7) 1⟩,
  ⟨some 2, none, .mv (.t 11)⟩,
  ⟨some 3, none, .mv (.t 12)⟩]
noncomputable def r26_3 : List (AO × List Nat) := [(⟨some 13, none, .mv (.t 1)⟩, []),
  (⟨some 14, none, .call 35 [(.t 13)]⟩, []),
  (⟨some 15, none, .eq false 2 (.t 14) (.c (.st [40, 49, 44, 32, 78, 85, 76, 76, 41]))⟩, []),
  (⟨some 16, none, .mv (.t 15)⟩, []),
  (⟨some 17, some (16, true), .mv (.t 3)⟩, []),
  (⟨some 18, some (16, true), .eq false 1 (.t 17) (.c (.it .i64 0))⟩, []),
  (⟨some 19, none, .pick (.t 16) (.t 18) (.c (.bl false))⟩, []),
  (⟨some 20, none, .mv (.t 19)⟩, []),
  (⟨some 21, some (20, true), .mv (.t 2)⟩, []),
  (⟨some 22, some (20, true), .len (.t 21)⟩, []),
  (⟨some 23, some (20, true), .eq false 1 (.t 22) (.c (.it .i64 2))⟩, []),
  (⟨some 24, none, .pick (.t 20) (.t 23) (.c (.bl false))⟩, []),
  (⟨some 25, none, .mv (.t 24)⟩, []),
  (⟨some 26, some (25, true), .mv (.t 2)⟩, []),
  (⟨some 27, some (25, true), .iad 3 (.t 26) (.c (.it .i64 0))⟩, []),
  (⟨some 28, some (25, true), .ld true 3 (.t 27)⟩, []),
  (⟨some 29, some (25, true), .call 18 [(.c (.it .i64 1))]⟩, [13, 14, 15]),
  (⟨some 30, some (25, true), .eqs false [1, 1, 2] (.t 28) (.t 29)⟩, []),
  (⟨some 31, none, .pick (.t 25) (.t 30) (.c (.bl false))⟩, []),
  (⟨some 32, none, .mv (.t 31)⟩, []),
  (⟨some 33, some (32, true), .mv (.t 1)⟩, []),
  (⟨some 34, some (32, true), .mv (.t 2)⟩, []),
  (⟨some 35, some (32, true), .call 31 [(.t 33), (.t 34)]⟩, []),
  (⟨some 36, some (32, true), .eq false 1 (.t 35) (.c (.it .i64 0))⟩, []),
  (⟨some 37, none, .pick (.t 32) (.t 36) (.c (.bl false))⟩, []),
  (⟨some 0, none, .mv (.t 37)⟩, [])]
set_option maxRecDepth 1000000 in
noncomputable def c26 : AFn := ⟨38, [(0, none)],
  (.seq (.ops r26_0)
  (.seq (.ops r26_1)
  (.seq (.ops r26_2)
  (.seq (.drw r26_3)
  .ret))))⟩
set_option maxRecDepth 1000000 in
theorem t26 : trF Tryd.prog 26 = some c26 := by kernel_rfl
/-- regrater/regraterlaw07.told (0 l, 1 l, 4 a, 5 b, 6 i, 7 v) -/
noncomputable def r27_0 : List AO := [⟨some 2, none, .mv (.c (.sl true 0 []))⟩,
  ⟨some 3, none, .mv (.c (.sl true 0 []))⟩]
noncomputable def r27_1 : List AO := [⟨some 4, none, .mv (.c (.sl true 0 []))⟩]
noncomputable def r27_2 : List AO := [⟨some 5, none, .mv (.c (.sl true 0 []))⟩]
noncomputable def r27_3 : List AO := [⟨some 6, none, .mv (.c (.it .i64 0))⟩]
noncomputable def r27_4 : List AO := [⟨some 8, none, .mv (.t 6)⟩,
  ⟨some 9, none, .mv (.t 0)⟩,
  ⟨some 10, none, .len (.t 9)⟩,
  ⟨some 11, none, .bin .lss (.t 8) (.t 10)⟩,
  ⟨some 12, none, .mv (.t 11)⟩,
  ⟨some 13, some (12, true), .mv (.t 6)⟩,
  ⟨some 14, some (12, true), .bin .lss (.t 13) (.c (.it .i64 9))⟩,
  ⟨some 15, none, .pick (.t 12) (.t 14) (.c (.bl false))⟩]
noncomputable def r27_5 : List AO := [⟨some 18, none, .mv (.t 0)⟩,
  ⟨some 19, none, .mv (.t 6)⟩,
  ⟨some 20, none, .iad 3 (.t 18) (.t 19)⟩,
  ⟨some 21, none, .fad 0 (.t 20)⟩,
  ⟨some 22, none, .ld false 1 (.t 21)⟩,
  ⟨some 23, none, .bin .rem (.t 22) (.c (.it .u8 4))⟩,
  ⟨some 24, none, .cvi .i64 (.t 23)⟩,
  ⟨some 25, none, .bld [(.it .i64 0), (.it .i64 0), (.st [])] [(0, 1, (.t 24))]⟩,
  ⟨some 7, none, .box 27 3 (.c (.agg [(.it .i64 0), (.it .i64 0), (.st [])]))⟩,
  ⟨none, none, .sto 3 (.t 7) (.t 25)⟩]
noncomputable def r27_6 : List AO := [⟨some 26, none, .fad 0 (.t 7)⟩,
  ⟨some 27, none, .ld false 1 (.t 26)⟩]
noncomputable def r27_7 : List AO := [⟨some 29, none, .eq false 1 (.t 27) (.c (.it .i64 1))⟩,
  ⟨some 28, none, .mv (.t 29)⟩]
noncomputable def r27_8 : List AO := [⟨some 30, none, .mv (.t 0)⟩,
  ⟨some 31, none, .mv (.t 6)⟩,
  ⟨some 32, none, .iad 3 (.t 30) (.t 31)⟩,
  ⟨some 33, none, .fad 1 (.t 32)⟩,
  ⟨some 34, none, .ld false 1 (.t 33)⟩,
  ⟨some 35, none, .bin .and (.t 34) (.c (.it .i64 1))⟩,
  ⟨some 36, none, .fad 1 (.t 7)⟩,
  ⟨none, none, .sto 1 (.t 36) (.t 35)⟩]
noncomputable def r27_9 : List AO := [⟨some 38, none, .eq false 1 (.t 27) (.c (.it .i64 2))⟩,
  ⟨some 37, none, .mv (.t 38)⟩]
noncomputable def r27_10 : List AO := [⟨some 39, none, .mv (.t 0)⟩,
  ⟨some 40, none, .mv (.t 6)⟩,
  ⟨some 41, none, .iad 3 (.t 39) (.t 40)⟩,
  ⟨some 42, none, .fad 1 (.t 41)⟩,
  ⟨some 43, none, .ld false 1 (.t 42)⟩,
  ⟨some 44, none, .fad 1 (.t 7)⟩,
  ⟨none, none, .sto 1 (.t 44) (.t 43)⟩]
noncomputable def r27_11 : List AO := [⟨some 46, none, .eq false 1 (.t 27) (.c (.it .i64 3))⟩,
  ⟨some 45, none, .mv (.t 46)⟩]
noncomputable def r27_12 : List (AO × List Nat) := [(⟨some 47, none, .mv (.t 0)⟩, []),
  (⟨some 48, none, .mv (.t 6)⟩, []),
  (⟨some 49, none, .iad 3 (.t 47) (.t 48)⟩, []),
  (⟨some 50, none, .fad 2 (.t 49)⟩, []),
  (⟨some 51, none, .ld false 1 (.t 50)⟩, []),
  (⟨some 52, none, .mv (.t 0)⟩, []),
  (⟨some 53, none, .mv (.t 6)⟩, []),
  (⟨some 54, none, .iad 3 (.t 52) (.t 53)⟩, []),
  (⟨some 55, none, .fad 2 (.t 54)⟩, []),
  (⟨some 56, none, .ld false 1 (.t 55)⟩, []),
  (⟨some 57, none, .lens (.t 56)⟩, []),
  (⟨some 58, none, .mnx false [(.t 57), (.c (.it .i64 64))]⟩, []),
  (⟨some 59, none, .sls (.t 51) none (some (.t 58))⟩, []),
  (⟨some 60, none, .fad 2 (.t 7)⟩, []),
  (⟨none, none, .sto 1 (.t 60) (.t 59)⟩, [])]
noncomputable def r27_13 : List (AO × List Nat) := [(⟨some 61, none, .mv (.t 4)⟩, []),
  (⟨some 62, none, .ld true 3 (.t 7)⟩, []),
  (⟨some 63, none, .bsl 26 3 1 [(.it .i64 0), (.it .i64 0), (.st [])] [(0, 3, (.t 62))]⟩, [0]),
  (⟨some 64, none, .app 26 3 32 (.t 61) (.t 63)⟩, []),
  (⟨some 65, none, .mv (.t 5)⟩, [2, 3]),
  (⟨some 66, none, .ld true 3 (.t 7)⟩, [2, 3]),
  (⟨some 67, none, .bsl 27 3 1 [(.it .i64 0), (.it .i64 0), (.st [])] [(0, 3, (.t 66))]⟩, [0, 1, 2, 3, 4]),
  (⟨some 68, none, .app 27 3 32 (.t 65) (.t 67)⟩, []),
  (⟨some 4, none, .mv (.t 64)⟩, []),
  (⟨some 5, none, .mv (.t 68)⟩, [])]
noncomputable def r27_14 : List AO := [⟨some 16, none, .mv (.t 6)⟩,
  ⟨some 17, none, .bin .add (.t 16) (.c (.it .i64 1))⟩,
  ⟨some 6, none, .mv (.t 17)⟩]
noncomputable def r27_15 : List AO := [⟨some 69, none, .mv (.t 4)⟩,
  ⟨some 70, none, .mv (.t 5)⟩,
  ⟨some 2, none, .mv (.t 69)⟩,
  ⟨some 3, none, .mv (.t 70)⟩]
set_option maxRecDepth 1000000 in
noncomputable def c27 : AFn := ⟨71, [(2, none), (3, none)],
  (.seq (.ops r27_0)
  (.seq (.ops r27_1)
  (.seq (.ops r27_2)
  (.seq (.seq (.ops r27_3)
  (.block 0 (.loop (.seq (.seq (.ops r27_4)
  (.cond (.t 15) .skip
  (.exit 0)))
  (.seq (.block 1 (.seq (.ops r27_5)
  (.seq (.seq (.ops r27_6)
  (.block 2 (.seq (.ops r27_7)
  (.cond (.t 28) (.ops r27_8)
  (.seq (.ops r27_9)
  (.cond (.t 37) (.ops r27_10)
  (.seq (.ops r27_11)
  (.cond (.t 45) (.drw r27_12)
  .skip))))))))
  (.drw r27_13))))
  (.ops r27_14))))))
  (.seq (.ops r27_15)
  .ret)))))⟩
set_option maxRecDepth 1000000 in
theorem t27 : trF Tryd.prog 27 = some c27 := by kernel_rfl
/-- regrater/row.Key (0 r, 1 r, 3 l, 4 _, 5 v) -/
noncomputable def r28_0 : List AO := [⟨some 2, none, .mv (.c (.st []))⟩]
noncomputable def r28_1 : List AO := [⟨some 3, none, .mv (.c (.sl true 0 []))⟩]
noncomputable def r28_2 : List AO := [⟨some 6, none, .mv (.t 0)⟩,
  ⟨some 7, none, .len (.t 6)⟩,
  ⟨some 8, none, .mv (.c (.it .i64 0))⟩]
noncomputable def r28_3 : List AO := [⟨some 9, none, .bin .lss (.t 8) (.t 7)⟩]
noncomputable def r28_4 : List AO := [⟨some 10, none, .iad 3 (.t 6) (.t 8)⟩,
  ⟨some 11, none, .ld true 3 (.t 10)⟩,
  ⟨some 5, none, .box 26 3 (.c (.agg [(.it .i64 0), (.it .i64 0), (.st [])]))⟩,
  ⟨none, none, .sto 3 (.t 5) (.t 11)⟩]
noncomputable def r28_5 : List AO := [⟨some 12, none, .mv (.t 3)⟩,
  ⟨some 13, none, .ld true 3 (.t 5)⟩,
  ⟨some 14, none, .call 55 [(.t 13)]⟩,
  ⟨some 15, none, .bsl 9 1 1 [(.st [])] [(0, 1, (.t 14))]⟩,
  ⟨some 16, none, .app 9 1 16 (.t 12) (.t 15)⟩,
  ⟨some 3, none, .mv (.t 16)⟩]
noncomputable def r28_6 : List AO := [⟨some 17, none, .bin .add (.t 8) (.c (.it .i64 1))⟩,
  ⟨some 8, none, .mv (.t 17)⟩]
noncomputable def r28_7 : List AO := [⟨some 18, none, .mv (.t 3)⟩,
  ⟨some 19, none, .call 33 [(.t 18)]⟩,
  ⟨some 2, none, .mv (.t 19)⟩]
set_option maxRecDepth 1000000 in
noncomputable def c28 : AFn := ⟨20, [(2, none)],
  (.seq (.ops r28_0)
  (.seq (.ops r28_1)
  (.seq (.seq (.ops r28_2)
  (.block 0 (.loop (.seq (.ops r28_3)
  (.seq (.cond (.t 9) .skip
  (.exit 0))
  (.seq (.block 1 (.seq (.ops r28_4)
  (.ops r28_5)))
  (.ops r28_6)))))))
  (.seq (.ops r28_7)
  .ret))))⟩
set_option maxRecDepth 1000000 in
theorem t28 : trF Tryd.prog 28 = some c28 := by kernel_rfl
/-- regrater/row.Get (0 s, 1 s, 4 l, 5 e, 6 out, 7 _, 8 t, 9 v, 10 ok) -/
noncomputable def r29_0 : List AO := [⟨some 2, none, .mv (.c (.sl true 0 []))⟩,
  ⟨some 3, none, .mv (.c (.it .i64 0))⟩]
noncomputable def r29_1 : List AO := [⟨some 12, none, .mv (.t 0)⟩,
  ⟨some 13, none, .call 56 [(.t 12)]⟩,
  ⟨some 11, none, .mv (.t 13)⟩,
  ⟨some 14, none, .ext (.t 11) 0⟩,
  ⟨some 15, none, .ext (.t 11) 1⟩,
  ⟨some 4, none, .mv (.t 14)⟩,
  ⟨some 5, none, .mv (.t 15)⟩]
noncomputable def r29_2 : List AO := [⟨some 16, none, .mv (.t 5)⟩,
  ⟨some 17, none, .eq true 1 (.t 16) (.c (.it .i64 0))⟩]
noncomputable def r29_3 : List AO := [⟨some 18, none, .mv (.t 5)⟩,
  ⟨some 2, none, .mv (.c (.sl true 0 []))⟩,
  ⟨some 3, none, .mv (.t 18)⟩]
noncomputable def r29_4 : List AO := [⟨some 6, none, .mv (.c (.sl true 0 []))⟩]
noncomputable def r29_5 : List AO := [⟨some 19, none, .mv (.t 4)⟩,
  ⟨some 20, none, .len (.t 19)⟩,
  ⟨some 21, none, .mv (.c (.it .i64 0))⟩]
noncomputable def r29_6 : List AO := [⟨some 22, none, .bin .lss (.t 21) (.t 20)⟩]
noncomputable def r29_7 : List AO := [⟨some 23, none, .iad 1 (.t 19) (.t 21)⟩,
  ⟨some 24, none, .ld false 1 (.t 23)⟩,
  ⟨some 8, none, .mv (.t 24)⟩]
noncomputable def r29_8 : List AO := [⟨some 26, none, .mv (.t 8)⟩,
  ⟨some 27, none, .call 57 [(.t 26)]⟩,
  ⟨some 25, none, .mv (.t 27)⟩,
  ⟨some 28, none, .ext (.t 25) 0⟩,
  ⟨some 29, none, .ext (.t 25) 1⟩,
  ⟨some 9, none, .box 26 3 (.c (.agg [(.it .i64 0), (.it .i64 0), (.st [])]))⟩,
  ⟨none, none, .sto 3 (.t 9) (.t 28)⟩,
  ⟨some 10, none, .mv (.t 29)⟩]
noncomputable def r29_9 : List AO := [⟨some 30, none, .mv (.t 10)⟩,
  ⟨some 31, none, .un .not (.t 30)⟩]
noncomputable def r29_10 : List AO := [⟨some 2, none, .mv (.c (.sl true 0 []))⟩,
  ⟨some 3, none, .mv (.c (.it .i64 4))⟩]
noncomputable def r29_11 : List AO := [⟨some 32, none, .mv (.t 6)⟩,
  ⟨some 33, none, .ld true 3 (.t 9)⟩,
  ⟨some 34, none, .bsl 26 3 1 [(.it .i64 0), (.it .i64 0), (.st [])] [(0, 3, (.t 33))]⟩,
  ⟨some 35, none, .app 26 3 32 (.t 32) (.t 34)⟩,
  ⟨some 6, none, .mv (.t 35)⟩]
noncomputable def r29_12 : List AO := [⟨some 36, none, .bin .add (.t 21) (.c (.it .i64 1))⟩,
  ⟨some 21, none, .mv (.t 36)⟩]
noncomputable def r29_13 : List AO := [⟨some 37, none, .mv (.t 6)⟩,
  ⟨some 2, none, .mv (.t 37)⟩,
  ⟨some 3, none, .mv (.c (.it .i64 0))⟩]
set_option maxRecDepth 1000000 in
noncomputable def c29 : AFn := ⟨38, [(2, none), (3, none)],
  (.seq (.ops r29_0)
  (.seq (.ops r29_1)
  (.seq (.seq (.ops r29_2)
  (.cond (.t 17) (.seq (.ops r29_3)
  .ret)
  .skip))
  (.seq (.ops r29_4)
  (.seq (.seq (.ops r29_5)
  (.block 0 (.loop (.seq (.ops r29_6)
  (.seq (.cond (.t 22) .skip
  (.exit 0))
  (.seq (.block 1 (.seq (.ops r29_7)
  (.seq (.ops r29_8)
  (.seq (.seq (.ops r29_9)
  (.cond (.t 31) (.seq (.ops r29_10)
  .ret)
  .skip))
  (.ops r29_11)))))
  (.ops r29_12)))))))
  (.seq (.ops r29_13)
  .ret))))))⟩
set_option maxRecDepth 1000000 in
theorem t29 : trF Tryd.prog 29 = some c29 := by kernel_rfl
/-- regrater/regraterref07.Key (0 r, 1 r, 3 l, 4 i, 5 s) -/
noncomputable def r30_0 : List AO := [⟨some 2, none, .mv (.c (.st []))⟩]
noncomputable def r30_1 : List AO := [⟨some 3, none, .mv (.c (.sl true 0 []))⟩]
noncomputable def r30_2 : List AO := [⟨some 4, none, .mv (.c (.it .i64 0))⟩]
noncomputable def r30_3 : List AO := [⟨some 6, none, .mv (.t 4)⟩,
  ⟨some 7, none, .mv (.t 0)⟩,
  ⟨some 8, none, .len (.t 7)⟩,
  ⟨some 9, none, .bin .lss (.t 6) (.t 8)⟩]
noncomputable def r30_4 : List AO := [⟨some 12, none, .mv (.t 0)⟩,
  ⟨some 13, none, .mv (.t 4)⟩,
  ⟨some 14, none, .iad 3 (.t 12) (.t 13)⟩,
  ⟨some 15, none, .fad 0 (.t 14)⟩,
  ⟨some 16, none, .ld false 1 (.t 15)⟩,
  ⟨some 17, none, .cvi .u8 (.t 16)⟩,
  ⟨some 18, none, .bsl 5 1 1 [(.it .u8 0)] [(0, 1, (.t 17))]⟩,
  ⟨some 19, none, .b2s (.t 18)⟩,
  ⟨some 5, none, .mv (.t 19)⟩]
noncomputable def r30_5 : List AO := [⟨some 20, none, .mv (.t 0)⟩,
  ⟨some 21, none, .mv (.t 4)⟩,
  ⟨some 22, none, .iad 3 (.t 20) (.t 21)⟩,
  ⟨some 23, none, .fad 0 (.t 22)⟩,
  ⟨some 24, none, .ld false 1 (.t 23)⟩,
  ⟨some 25, none, .eq false 1 (.t 24) (.c (.it .i64 1))⟩]
noncomputable def r30_6 : List AO := [⟨some 26, none, .mv (.t 5)⟩,
  ⟨some 27, none, .mv (.t 0)⟩,
  ⟨some 28, none, .mv (.t 4)⟩,
  ⟨some 29, none, .iad 3 (.t 27) (.t 28)⟩,
  ⟨some 30, none, .fad 1 (.t 29)⟩,
  ⟨some 31, none, .ld false 1 (.t 30)⟩,
  ⟨some 32, none, .cvi .u8 (.t 31)⟩,
  ⟨some 33, none, .bsl 5 1 1 [(.it .u8 0)] [(0, 1, (.t 32))]⟩,
  ⟨some 34, none, .b2s (.t 33)⟩,
  ⟨some 35, none, .bin .add (.t 26) (.t 34)⟩,
  ⟨some 5, none, .mv (.t 35)⟩]
noncomputable def r30_7 : List AO := [⟨some 36, none, .mv (.t 0)⟩,
  ⟨some 37, none, .mv (.t 4)⟩,
  ⟨some 38, none, .iad 3 (.t 36) (.t 37)⟩,
  ⟨some 39, none, .fad 0 (.t 38)⟩,
  ⟨some 40, none, .ld false 1 (.t 39)⟩,
  ⟨some 41, none, .eq false 1 (.t 40) (.c (.it .i64 2))⟩]
noncomputable def r30_8 : List AO := [⟨some 42, none, .mv (.t 5)⟩,
  ⟨some 43, none, .mv (.t 0)⟩,
  ⟨some 44, none, .mv (.t 4)⟩,
  ⟨some 45, none, .iad 3 (.t 43) (.t 44)⟩,
  ⟨some 46, none, .fad 1 (.t 45)⟩,
  ⟨some 47, none, .ld false 1 (.t 46)⟩,
  ⟨some 48, none, .call 58 [(.t 47)]⟩,
  ⟨some 49, none, .bin .add (.t 42) (.t 48)⟩,
  ⟨some 5, none, .mv (.t 49)⟩]
noncomputable def r30_9 : List AO := [⟨some 50, none, .mv (.t 3)⟩,
  ⟨some 51, none, .mv (.t 5)⟩,
  ⟨some 52, none, .mv (.t 0)⟩,
  ⟨some 53, none, .mv (.t 4)⟩,
  ⟨some 54, none, .iad 3 (.t 52) (.t 53)⟩,
  ⟨some 55, none, .fad 2 (.t 54)⟩,
  ⟨some 56, none, .ld false 1 (.t 55)⟩,
  ⟨some 57, none, .bin .add (.t 51) (.t 56)⟩,
  ⟨some 58, none, .bsl 9 1 1 [(.st [])] [(0, 1, (.t 57))]⟩,
  ⟨some 59, none, .app 9 1 16 (.t 50) (.t 58)⟩,
  ⟨some 3, none, .mv (.t 59)⟩]
noncomputable def r30_10 : List AO := [⟨some 10, none, .mv (.t 4)⟩,
  ⟨some 11, none, .bin .add (.t 10) (.c (.it .i64 1))⟩,
  ⟨some 4, none, .mv (.t 11)⟩]
noncomputable def r30_11 : List AO := [⟨some 60, none, .mv (.t 3)⟩,
  ⟨some 61, none, .call 59 [(.t 60)]⟩,
  ⟨some 2, none, .mv (.t 61)⟩]
set_option maxRecDepth 1000000 in
noncomputable def c30 : AFn := ⟨62, [(2, none)],
  (.seq (.ops r30_0)
  (.seq (.ops r30_1)
  (.seq (.seq (.ops r30_2)
  (.block 0 (.loop (.seq (.seq (.ops r30_3)
  (.cond (.t 9) .skip
  (.exit 0)))
  (.seq (.block 1 (.seq (.ops r30_4)
  (.seq (.seq (.ops r30_5)
  (.cond (.t 25) (.ops r30_6)
  .skip))
  (.seq (.seq (.ops r30_7)
  (.cond (.t 41) (.ops r30_8)
  .skip))
  (.ops r30_9)))))
  (.ops r30_10))))))
  (.seq (.ops r30_11)
  .ret))))⟩
set_option maxRecDepth 1000000 in
theorem t30 : trF Tryd.prog 30 = some c30 := by kernel_rfl
/-- regrater/row.Compare (0 a, 1 b, 2 a, 3 b) -/
noncomputable def r31_0 : List AO := [⟨some 4, none, .mv (.c (.it .i64 0))⟩]
noncomputable def r31_1 : List AO := [⟨some 5, none, .mv (.t 0)⟩,
  ⟨some 6, none, .mv (.t 1)⟩,
  ⟨some 7, none, .call 60 [(.t 5), (.t 6), (.c (.fn (.func 15) [] []))]⟩,
  ⟨some 4, none, .mv (.t 7)⟩]
set_option maxRecDepth 1000000 in
noncomputable def c31 : AFn := ⟨8, [(4, none)],
  (.seq (.ops r31_0)
  (.seq (.ops r31_1)
  .ret))⟩
set_option maxRecDepth 1000000 in
theorem t31 : trF Tryd.prog 31 = some c31 := by kernel_rfl
/-- regrater/regraterref07.Same (0 a, 1 b, 2 a, 3 b) -/
noncomputable def r32_0 : List AO := [⟨some 4, none, .mv (.c (.bl false))⟩]
noncomputable def r32_1 : List AO := [⟨some 5, none, .mv (.t 0)⟩,
  ⟨some 6, none, .mv (.t 1)⟩,
  ⟨some 7, none, .call 37 [(.t 5), (.t 6)]⟩,
  ⟨some 8, none, .un .not (.t 7)⟩,
  ⟨some 9, none, .mv (.t 8)⟩,
  ⟨some 10, some (9, true), .mv (.t 1)⟩,
  ⟨some 11, some (9, true), .mv (.t 0)⟩,
  ⟨some 12, some (9, true), .call 37 [(.t 10), (.t 11)]⟩,
  ⟨some 13, some (9, true), .un .not (.t 12)⟩,
  ⟨some 14, none, .pick (.t 9) (.t 13) (.c (.bl false))⟩,
  ⟨some 4, none, .mv (.t 14)⟩]
set_option maxRecDepth 1000000 in
noncomputable def c32 : AFn := ⟨15, [(4, none)],
  (.seq (.ops r32_0)
  (.seq (.ops r32_1)
  .ret))⟩
set_option maxRecDepth 1000000 in
theorem t32 : trF Tryd.prog 32 = some c32 := by kernel_rfl
/-- regrater/pack.Pack (0 l, 1 l, 3 b, 4 _, 5 s) -/
noncomputable def r33_0 : List AO := [⟨some 2, none, .mv (.c (.st []))⟩]
noncomputable def r33_1 : List AO := [⟨some 3, none, .mv (.c (.sl true 0 []))⟩]
noncomputable def r33_2 : List AO := [⟨some 6, none, .mv (.t 0)⟩,
  ⟨some 7, none, .len (.t 6)⟩,
  ⟨some 8, none, .mv (.c (.it .i64 0))⟩]
noncomputable def r33_3 : List AO := [⟨some 9, none, .bin .lss (.t 8) (.t 7)⟩]
noncomputable def r33_4 : List AO := [⟨some 10, none, .iad 1 (.t 6) (.t 8)⟩,
  ⟨some 11, none, .ld false 1 (.t 10)⟩,
  ⟨some 5, none, .mv (.t 11)⟩]
noncomputable def r33_5 : List AO := [⟨some 12, none, .mv (.t 3)⟩,
  ⟨some 13, none, .mv (.t 5)⟩,
  ⟨some 14, none, .lens (.t 13)⟩,
  ⟨some 15, none, .cvi .u64 (.t 14)⟩,
  ⟨some 16, none, .call 61 [(.t 15), (.c (.it .i64 4))]⟩,
  ⟨some 17, none, .app 5 1 1 (.t 12) (.t 16)⟩,
  ⟨some 3, none, .mv (.t 17)⟩]
noncomputable def r33_6 : List AO := [⟨some 18, none, .mv (.t 3)⟩,
  ⟨some 19, none, .mv (.t 5)⟩,
  ⟨some 20, none, .apps 5 (.t 18) (.t 19)⟩,
  ⟨some 3, none, .mv (.t 20)⟩]
noncomputable def r33_7 : List AO := [⟨some 21, none, .bin .add (.t 8) (.c (.it .i64 1))⟩,
  ⟨some 8, none, .mv (.t 21)⟩]
noncomputable def r33_8 : List AO := [⟨some 22, none, .mv (.t 3)⟩,
  ⟨some 23, none, .b2s (.t 22)⟩,
  ⟨some 2, none, .mv (.t 23)⟩]
set_option maxRecDepth 1000000 in
noncomputable def c33 : AFn := ⟨24, [(2, none)],
  (.seq (.ops r33_0)
  (.seq (.ops r33_1)
  (.seq (.seq (.ops r33_2)
  (.block 0 (.loop (.seq (.ops r33_3)
  (.seq (.cond (.t 9) .skip
  (.exit 0))
  (.seq (.block 1 (.seq (.ops r33_4)
  (.seq (.ops r33_5)
  (.ops r33_6))))
  (.ops r33_7)))))))
  (.seq (.ops r33_8)
  .ret))))⟩
set_option maxRecDepth 1000000 in
theorem t33 : trF Tryd.prog 33 = some c33 := by kernel_rfl
/-- regrater/regraterref04.Split (0 s, 1 s, 4 out, 5 n) -/
noncomputable def r34_0 : List AO := [⟨some 2, none, .mv (.c (.sl true 0 []))⟩,
  ⟨some 3, none, .mv (.c (.bl false))⟩]
noncomputable def r34_1 : List AO := [⟨some 4, none, .mv (.c (.sl true 0 []))⟩]
noncomputable def r34_2 : List AO := [⟨some 6, none, .mv (.t 0)⟩,
  ⟨some 7, none, .lens (.t 6)⟩,
  ⟨some 8, none, .bin .geq (.t 7) (.c (.it .i64 4))⟩]
noncomputable def r34_3 : List (AO × List Nat) := [(⟨some 9, none, .mv (.t 0)⟩, []),
  (⟨some 10, none, .idxs (.t 9) (.c (.it .i64 0))⟩, []),
  (⟨some 11, none, .cvi .u64 (.t 10)⟩, []),
  (⟨some 12, none, .bin .mul (.t 11) (.c (.it .u64 16777216))⟩, []),
  (⟨some 13, none, .mv (.t 0)⟩, []),
  (⟨some 14, none, .idxs (.t 13) (.c (.it .i64 1))⟩, []),
  (⟨some 15, none, .cvi .u64 (.t 14)⟩, []),
  (⟨some 16, none, .bin .mul (.t 15) (.c (.it .u64 65536))⟩, []),
  (⟨some 17, none, .bin .add (.t 12) (.t 16)⟩, []),
  (⟨some 18, none, .mv (.t 0)⟩, []),
  (⟨some 19, none, .idxs (.t 18) (.c (.it .i64 2))⟩, []),
  (⟨some 20, none, .cvi .u64 (.t 19)⟩, []),
  (⟨some 21, none, .bin .mul (.t 20) (.c (.it .u64 256))⟩, []),
  (⟨some 22, none, .bin .add (.t 17) (.t 21)⟩, []),
  (⟨some 23, none, .mv (.t 0)⟩, []),
  (⟨some 24, none, .idxs (.t 23) (.c (.it .i64 3))⟩, []),
  (⟨some 25, none, .cvi .u64 (.t 24)⟩, []),
  (⟨some 26, none, .bin .add (.t 22) (.t 25)⟩, []),
  (⟨some 5, none, .mv (.t 26)⟩, [])]
noncomputable def r34_4 : List AO := [⟨some 27, none, .mv (.t 5)⟩,
  ⟨some 28, none, .mv (.t 0)⟩,
  ⟨some 29, none, .lens (.t 28)⟩,
  ⟨some 30, none, .bin .sub (.t 29) (.c (.it .i64 4))⟩,
  ⟨some 31, none, .cvi .u64 (.t 30)⟩,
  ⟨some 32, none, .bin .gtr (.t 27) (.t 31)⟩]
noncomputable def r34_5 : List AO := [⟨some 33, none, .mv (.t 4)⟩,
  ⟨some 2, none, .mv (.t 33)⟩,
  ⟨some 3, none, .mv (.c (.bl false))⟩]
noncomputable def r34_6 : List AO := [⟨some 34, none, .mv (.t 4)⟩,
  ⟨some 35, none, .mv (.t 0)⟩,
  ⟨some 36, none, .mv (.t 5)⟩,
  ⟨some 37, none, .cvi .i64 (.t 36)⟩,
  ⟨some 38, none, .bin .add (.c (.it .i64 4)) (.t 37)⟩,
  ⟨some 39, none, .sls (.t 35) (some (.c (.it .i64 4))) (some (.t 38))⟩,
  ⟨some 40, none, .bsl 9 1 1 [(.st [])] [(0, 1, (.t 39))]⟩,
  ⟨some 41, none, .app 9 1 16 (.t 34) (.t 40)⟩,
  ⟨some 4, none, .mv (.t 41)⟩]
noncomputable def r34_7 : List AO := [⟨some 42, none, .mv (.t 0)⟩,
  ⟨some 43, none, .mv (.t 5)⟩,
  ⟨some 44, none, .cvi .i64 (.t 43)⟩,
  ⟨some 45, none, .bin .add (.c (.it .i64 4)) (.t 44)⟩,
  ⟨some 46, none, .sls (.t 42) (some (.t 45)) none⟩,
  ⟨some 0, none, .mv (.t 46)⟩]
noncomputable def r34_8 : List AO := [⟨some 47, none, .mv (.t 4)⟩,
  ⟨some 48, none, .mv (.t 0)⟩,
  ⟨some 49, none, .eq false 2 (.t 48) (.c (.st []))⟩,
  ⟨some 2, none, .mv (.t 47)⟩,
  ⟨some 3, none, .mv (.t 49)⟩]
set_option maxRecDepth 1000000 in
noncomputable def c34 : AFn := ⟨50, [(2, none), (3, none)],
  (.seq (.ops r34_0)
  (.seq (.ops r34_1)
  (.seq (.block 0 (.loop (.seq (.seq (.ops r34_2)
  (.cond (.t 8) .skip
  (.exit 0)))
  (.block 1 (.seq (.drw r34_3)
  (.seq (.seq (.ops r34_4)
  (.cond (.t 32) (.seq (.ops r34_5)
  .ret)
  .skip))
  (.seq (.ops r34_6)
  (.ops r34_7))))))))
  (.seq (.ops r34_8)
  .ret))))⟩
set_option maxRecDepth 1000000 in
theorem t34 : trF Tryd.prog 34 = some c34 := by kernel_rfl
/-- regrater/row.Show (0 r, 1 r, 3 l, 4 _, 5 v) -/
noncomputable def r35_0 : List AO := [⟨some 2, none, .mv (.c (.st []))⟩]
noncomputable def r35_1 : List AO := [⟨some 3, none, .mv (.c (.sl true 0 []))⟩]
noncomputable def r35_2 : List AO := [⟨some 6, none, .mv (.t 0)⟩,
  ⟨some 7, none, .len (.t 6)⟩,
  ⟨some 8, none, .mv (.c (.it .i64 0))⟩]
noncomputable def r35_3 : List AO := [⟨some 9, none, .bin .lss (.t 8) (.t 7)⟩]
noncomputable def r35_4 : List AO := [⟨some 10, none, .iad 3 (.t 6) (.t 8)⟩,
  ⟨some 11, none, .ld true 3 (.t 10)⟩,
  ⟨some 5, none, .box 26 3 (.c (.agg [(.it .i64 0), (.it .i64 0), (.st [])]))⟩,
  ⟨none, none, .sto 3 (.t 5) (.t 11)⟩]
noncomputable def r35_5 : List AO := [⟨some 12, none, .mv (.t 3)⟩,
  ⟨some 13, none, .ld true 3 (.t 5)⟩,
  ⟨some 14, none, .call 21 [(.t 13)]⟩,
  ⟨some 15, none, .bsl 9 1 1 [(.st [])] [(0, 1, (.t 14))]⟩,
  ⟨some 16, none, .app 9 1 16 (.t 12) (.t 15)⟩,
  ⟨some 3, none, .mv (.t 16)⟩]
noncomputable def r35_6 : List AO := [⟨some 17, none, .bin .add (.t 8) (.c (.it .i64 1))⟩,
  ⟨some 8, none, .mv (.t 17)⟩]
noncomputable def r35_7 : List AO := [⟨some 18, none, .mv (.t 3)⟩,
  ⟨some 19, none, .call 62 [(.t 18), (.c (.st [44, 32]))]⟩,
  ⟨some 20, none, .bin .add (.c (.st [40])) (.t 19)⟩,
  ⟨some 21, none, .bin .add (.t 20) (.c (.st [41]))⟩,
  ⟨some 2, none, .mv (.t 21)⟩]
set_option maxRecDepth 1000000 in
noncomputable def c35 : AFn := ⟨22, [(2, none)],
  (.seq (.ops r35_0)
  (.seq (.ops r35_1)
  (.seq (.seq (.ops r35_2)
  (.block 0 (.loop (.seq (.ops r35_3)
  (.seq (.cond (.t 9) .skip
  (.exit 0))
  (.seq (.block 1 (.seq (.ops r35_4)
  (.ops r35_5)))
  (.ops r35_6)))))))
  (.seq (.ops r35_7)
  .ret))))⟩
set_option maxRecDepth 1000000 in
theorem t35 : trF Tryd.prog 35 = some c35 := by kernel_rfl
/-- regrater/regraterref07.Before (0 a, 1 b, 2 a, 3 b, 5 i) -/
noncomputable def r37_0 : List AO := [⟨some 4, none, .mv (.c (.bl false))⟩]
noncomputable def r37_1 : List AO := [⟨some 5, none, .mv (.c (.it .i64 0))⟩]
noncomputable def r37_2 : List AO := [⟨some 6, none, .mv (.t 5)⟩,
  ⟨some 7, none, .mv (.t 0)⟩,
  ⟨some 8, none, .len (.t 7)⟩,
  ⟨some 9, none, .bin .lss (.t 6) (.t 8)⟩,
  ⟨some 10, none, .mv (.t 9)⟩,
  ⟨some 11, some (10, true), .mv (.t 5)⟩,
  ⟨some 12, some (10, true), .mv (.t 1)⟩,
  ⟨some 13, some (10, true), .len (.t 12)⟩,
  ⟨some 14, some (10, true), .bin .lss (.t 11) (.t 13)⟩,
  ⟨some 15, none, .pick (.t 10) (.t 14) (.c (.bl false))⟩]
noncomputable def r37_3 : List (AO × List Nat) := [(⟨some 18, none, .mv (.t 0)⟩, []),
  (⟨some 19, none, .mv (.t 5)⟩, []),
  (⟨some 20, none, .iad 3 (.t 18) (.t 19)⟩, []),
  (⟨some 21, none, .ld true 3 (.t 20)⟩, []),
  (⟨some 22, none, .mv (.t 1)⟩, []),
  (⟨some 23, none, .mv (.t 5)⟩, []),
  (⟨some 24, none, .iad 3 (.t 22) (.t 23)⟩, []),
  (⟨some 25, none, .ld true 3 (.t 24)⟩, []),
  (⟨some 26, none, .eqs true [1, 1, 2] (.t 21) (.t 25)⟩, [])]
noncomputable def r37_4 : List (AO × List Nat) := [(⟨some 27, none, .mv (.t 0)⟩, []),
  (⟨some 28, none, .mv (.t 5)⟩, []),
  (⟨some 29, none, .iad 3 (.t 27) (.t 28)⟩, []),
  (⟨some 30, none, .ld true 3 (.t 29)⟩, []),
  (⟨some 31, none, .mv (.t 1)⟩, []),
  (⟨some 32, none, .mv (.t 5)⟩, []),
  (⟨some 33, none, .iad 3 (.t 31) (.t 32)⟩, []),
  (⟨some 34, none, .ld true 3 (.t 33)⟩, []),
  (⟨some 35, none, .call 14 [(.t 30), (.t 34)]⟩, []),
  (⟨some 4, none, .mv (.t 35)⟩, [])]
noncomputable def r37_5 : List AO := [⟨some 16, none, .mv (.t 5)⟩,
  ⟨some 17, none, .bin .add (.t 16) (.c (.it .i64 1))⟩,
  ⟨some 5, none, .mv (.t 17)⟩]
noncomputable def r37_6 : List AO := [⟨some 36, none, .mv (.t 0)⟩,
  ⟨some 37, none, .len (.t 36)⟩,
  ⟨some 38, none, .mv (.t 1)⟩,
  ⟨some 39, none, .len (.t 38)⟩,
  ⟨some 40, none, .bin .lss (.t 37) (.t 39)⟩,
  ⟨some 4, none, .mv (.t 40)⟩]
set_option maxRecDepth 1000000 in
noncomputable def c37 : AFn := ⟨41, [(4, none)],
  (.seq (.ops r37_0)
  (.seq (.seq (.ops r37_1)
  (.block 0 (.loop (.seq (.seq (.ops r37_2)
  (.cond (.t 15) .skip
  (.exit 0)))
  (.seq (.block 1 (.seq (.drw r37_3)
  (.cond (.t 26) (.seq (.drw r37_4)
  .ret)
  .skip)))
  (.ops r37_5))))))
  (.seq (.ops r37_6)
  .ret)))⟩
set_option maxRecDepth 1000000 in
theorem t37 : trF Tryd.prog 37 = some c37 := by kernel_rfl
/-- (regrater/value.Value).none (0 v, 1 v) -/
noncomputable def r42_0 : List AO := [⟨some 1, none, .box 26 3 (.t 0)⟩,
  ⟨some 2, none, .mv (.c (.bl false))⟩]
noncomputable def r42_1 : List AO := [⟨some 3, none, .fad 0 (.t 1)⟩,
  ⟨some 4, none, .ld false 1 (.t 3)⟩,
  ⟨some 5, none, .eq false 1 (.t 4) (.c (.it .i64 0))⟩,
  ⟨some 2, none, .mv (.t 5)⟩]
set_option maxRecDepth 1000000 in
noncomputable def c42 : AFn := ⟨6, [(2, none)],
  (.seq (.ops r42_0)
  (.seq (.ops r42_1)
  .ret))⟩
set_option maxRecDepth 1000000 in
theorem t42 : trF Tryd.prog 42 = some c42 := by kernel_rfl
/-- cmp.Or[int] (0 vals, 1 vals, 3 zero, 4 _, 5 val) -/
noncomputable def r48_0 : List AO := [⟨some 2, none, .mv (.c (.it .i64 0))⟩]
noncomputable def r48_1 : List AO := [⟨some 3, none, .mv (.c (.it .i64 0))⟩]
noncomputable def r48_2 : List AO := [⟨some 6, none, .mv (.t 0)⟩,
  ⟨some 7, none, .len (.t 6)⟩,
  ⟨some 8, none, .mv (.c (.it .i64 0))⟩]
noncomputable def r48_3 : List AO := [⟨some 9, none, .bin .lss (.t 8) (.t 7)⟩]
noncomputable def r48_4 : List AO := [⟨some 10, none, .iad 1 (.t 6) (.t 8)⟩,
  ⟨some 11, none, .ld false 1 (.t 10)⟩,
  ⟨some 5, none, .mv (.t 11)⟩]
noncomputable def r48_5 : List AO := [⟨some 12, none, .mv (.t 5)⟩,
  ⟨some 13, none, .mv (.t 3)⟩,
  ⟨some 14, none, .eq true 1 (.t 12) (.t 13)⟩]
noncomputable def r48_6 : List AO := [⟨some 15, none, .mv (.t 5)⟩,
  ⟨some 2, none, .mv (.t 15)⟩]
noncomputable def r48_7 : List AO := [⟨some 16, none, .bin .add (.t 8) (.c (.it .i64 1))⟩,
  ⟨some 8, none, .mv (.t 16)⟩]
noncomputable def r48_8 : List AO := [⟨some 17, none, .mv (.t 3)⟩,
  ⟨some 2, none, .mv (.t 17)⟩]
set_option maxRecDepth 1000000 in
noncomputable def c48 : AFn := ⟨18, [(2, none)],
  (.seq (.ops r48_0)
  (.seq (.ops r48_1)
  (.seq (.seq (.ops r48_2)
  (.block 0 (.loop (.seq (.ops r48_3)
  (.seq (.cond (.t 9) .skip
  (.exit 0))
  (.seq (.block 1 (.seq (.ops r48_4)
  (.seq (.ops r48_5)
  (.cond (.t 14) (.seq (.ops r48_6)
  .ret)
  .skip))))
  (.ops r48_7)))))))
  (.seq (.ops r48_8)
  .ret))))⟩
set_option maxRecDepth 1000000 in
theorem t48 : trF Tryd.prog 48 = some c48 := by kernel_rfl
/-- cmp.Compare[int] (0 x, 1 y, 2 x, 3 y, 5 xNaN, 6 yNaN) -/
noncomputable def r49_0 : List AO := [⟨some 4, none, .mv (.c (.it .i64 0))⟩]
noncomputable def r49_1 : List AO := [⟨some 7, none, .mv (.t 0)⟩,
  ⟨some 8, none, .call 67 [(.t 7)]⟩,
  ⟨some 5, none, .mv (.t 8)⟩]
noncomputable def r49_2 : List AO := [⟨some 9, none, .mv (.t 1)⟩,
  ⟨some 10, none, .call 67 [(.t 9)]⟩,
  ⟨some 6, none, .mv (.t 10)⟩]
noncomputable def r49_3 : List AO := [⟨some 11, none, .mv (.t 5)⟩]
noncomputable def r49_4 : List AO := [⟨some 12, none, .mv (.t 6)⟩]
noncomputable def r49_5 : List AO := [⟨some 4, none, .mv (.c (.it .i64 0))⟩]
noncomputable def r49_6 : List AO := [⟨some 4, none, .mv (.c (.it .i64 (-1)))⟩]
noncomputable def r49_7 : List AO := [⟨some 13, none, .mv (.t 6)⟩]
noncomputable def r49_8 : List AO := [⟨some 4, none, .mv (.c (.it .i64 1))⟩]
noncomputable def r49_9 : List AO := [⟨some 14, none, .mv (.t 0)⟩,
  ⟨some 15, none, .mv (.t 1)⟩,
  ⟨some 16, none, .bin .lss (.t 14) (.t 15)⟩]
noncomputable def r49_10 : List AO := [⟨some 4, none, .mv (.c (.it .i64 (-1)))⟩]
noncomputable def r49_11 : List AO := [⟨some 17, none, .mv (.t 0)⟩,
  ⟨some 18, none, .mv (.t 1)⟩,
  ⟨some 19, none, .bin .gtr (.t 17) (.t 18)⟩]
noncomputable def r49_12 : List AO := [⟨some 4, none, .mv (.c (.it .i64 1))⟩]
noncomputable def r49_13 : List AO := [⟨some 4, none, .mv (.c (.it .i64 0))⟩]
set_option maxRecDepth 1000000 in
noncomputable def c49 : AFn := ⟨20, [(4, none)],
  (.seq (.ops r49_0)
  (.seq (.ops r49_1)
  (.seq (.ops r49_2)
  (.seq (.seq (.ops r49_3)
  (.cond (.t 11) (.seq (.seq (.ops r49_4)
  (.cond (.t 12) (.seq (.ops r49_5)
  .ret)
  .skip))
  (.seq (.ops r49_6)
  .ret))
  .skip))
  (.seq (.seq (.ops r49_7)
  (.cond (.t 13) (.seq (.ops r49_8)
  .ret)
  .skip))
  (.seq (.seq (.ops r49_9)
  (.cond (.t 16) (.seq (.ops r49_10)
  .ret)
  .skip))
  (.seq (.seq (.ops r49_11)
  (.cond (.t 19) (.seq (.ops r49_12)
  .ret)
  .skip))
  (.seq (.ops r49_13)
  .ret))))))))⟩
set_option maxRecDepth 1000000 in
theorem t49 : trF Tryd.prog 49 = some c49 := by kernel_rfl
/-- cmp.Compare[int64] (0 x, 1 y, 2 x, 3 y, 5 xNaN, 6 yNaN) -/
noncomputable def r50_0 : List AO := [⟨some 4, none, .mv (.c (.it .i64 0))⟩]
noncomputable def r50_1 : List AO := [⟨some 7, none, .mv (.t 0)⟩,
  ⟨some 8, none, .call 68 [(.t 7)]⟩,
  ⟨some 5, none, .mv (.t 8)⟩]
noncomputable def r50_2 : List AO := [⟨some 9, none, .mv (.t 1)⟩,
  ⟨some 10, none, .call 68 [(.t 9)]⟩,
  ⟨some 6, none, .mv (.t 10)⟩]
noncomputable def r50_3 : List AO := [⟨some 11, none, .mv (.t 5)⟩]
noncomputable def r50_4 : List AO := [⟨some 12, none, .mv (.t 6)⟩]
noncomputable def r50_5 : List AO := [⟨some 4, none, .mv (.c (.it .i64 0))⟩]
noncomputable def r50_6 : List AO := [⟨some 4, none, .mv (.c (.it .i64 (-1)))⟩]
noncomputable def r50_7 : List AO := [⟨some 13, none, .mv (.t 6)⟩]
noncomputable def r50_8 : List AO := [⟨some 4, none, .mv (.c (.it .i64 1))⟩]
noncomputable def r50_9 : List AO := [⟨some 14, none, .mv (.t 0)⟩,
  ⟨some 15, none, .mv (.t 1)⟩,
  ⟨some 16, none, .bin .lss (.t 14) (.t 15)⟩]
noncomputable def r50_10 : List AO := [⟨some 4, none, .mv (.c (.it .i64 (-1)))⟩]
noncomputable def r50_11 : List AO := [⟨some 17, none, .mv (.t 0)⟩,
  ⟨some 18, none, .mv (.t 1)⟩,
  ⟨some 19, none, .bin .gtr (.t 17) (.t 18)⟩]
noncomputable def r50_12 : List AO := [⟨some 4, none, .mv (.c (.it .i64 1))⟩]
noncomputable def r50_13 : List AO := [⟨some 4, none, .mv (.c (.it .i64 0))⟩]
set_option maxRecDepth 1000000 in
noncomputable def c50 : AFn := ⟨20, [(4, none)],
  (.seq (.ops r50_0)
  (.seq (.ops r50_1)
  (.seq (.ops r50_2)
  (.seq (.seq (.ops r50_3)
  (.cond (.t 11) (.seq (.seq (.ops r50_4)
  (.cond (.t 12) (.seq (.ops r50_5)
  .ret)
  .skip))
  (.seq (.ops r50_6)
  .ret))
  .skip))
  (.seq (.seq (.ops r50_7)
  (.cond (.t 13) (.seq (.ops r50_8)
  .ret)
  .skip))
  (.seq (.seq (.ops r50_9)
  (.cond (.t 16) (.seq (.ops r50_10)
  .ret)
  .skip))
  (.seq (.seq (.ops r50_11)
  (.cond (.t 19) (.seq (.ops r50_12)
  .ret)
  .skip))
  (.seq (.ops r50_13)
  .ret))))))))⟩
set_option maxRecDepth 1000000 in
theorem t50 : trF Tryd.prog 50 = some c50 := by kernel_rfl
/-- cmp.Compare[string] (0 x, 1 y, 2 x, 3 y, 5 xNaN, 6 yNaN) -/
noncomputable def r51_0 : List AO := [⟨some 4, none, .mv (.c (.it .i64 0))⟩]
noncomputable def r51_1 : List AO := [⟨some 7, none, .mv (.t 0)⟩,
  ⟨some 8, none, .call 69 [(.t 7)]⟩,
  ⟨some 5, none, .mv (.t 8)⟩]
noncomputable def r51_2 : List AO := [⟨some 9, none, .mv (.t 1)⟩,
  ⟨some 10, none, .call 69 [(.t 9)]⟩,
  ⟨some 6, none, .mv (.t 10)⟩]
noncomputable def r51_3 : List AO := [⟨some 11, none, .mv (.t 5)⟩]
noncomputable def r51_4 : List AO := [⟨some 12, none, .mv (.t 6)⟩]
noncomputable def r51_5 : List AO := [⟨some 4, none, .mv (.c (.it .i64 0))⟩]
noncomputable def r51_6 : List AO := [⟨some 4, none, .mv (.c (.it .i64 (-1)))⟩]
noncomputable def r51_7 : List AO := [⟨some 13, none, .mv (.t 6)⟩]
noncomputable def r51_8 : List AO := [⟨some 4, none, .mv (.c (.it .i64 1))⟩]
noncomputable def r51_9 : List AO := [⟨some 14, none, .mv (.t 0)⟩,
  ⟨some 15, none, .mv (.t 1)⟩,
  ⟨some 16, none, .bin .lss (.t 14) (.t 15)⟩]
noncomputable def r51_10 : List AO := [⟨some 4, none, .mv (.c (.it .i64 (-1)))⟩]
noncomputable def r51_11 : List AO := [⟨some 17, none, .mv (.t 0)⟩,
  ⟨some 18, none, .mv (.t 1)⟩,
  ⟨some 19, none, .bin .gtr (.t 17) (.t 18)⟩]
noncomputable def r51_12 : List AO := [⟨some 4, none, .mv (.c (.it .i64 1))⟩]
noncomputable def r51_13 : List AO := [⟨some 4, none, .mv (.c (.it .i64 0))⟩]
set_option maxRecDepth 1000000 in
noncomputable def c51 : AFn := ⟨20, [(4, none)],
  (.seq (.ops r51_0)
  (.seq (.ops r51_1)
  (.seq (.ops r51_2)
  (.seq (.seq (.ops r51_3)
  (.cond (.t 11) (.seq (.seq (.ops r51_4)
  (.cond (.t 12) (.seq (.ops r51_5)
  .ret)
  .skip))
  (.seq (.ops r51_6)
  .ret))
  .skip))
  (.seq (.seq (.ops r51_7)
  (.cond (.t 13) (.seq (.ops r51_8)
  .ret)
  .skip))
  (.seq (.seq (.ops r51_9)
  (.cond (.t 16) (.seq (.ops r51_10)
  .ret)
  .skip))
  (.seq (.seq (.ops r51_11)
  (.cond (.t 19) (.seq (.ops r51_12)
  .ret)
  .skip))
  (.seq (.ops r51_13)
  .ret))))))))⟩
set_option maxRecDepth 1000000 in
theorem t51 : trF Tryd.prog 51 = some c51 := by kernel_rfl
/-- strconv.FormatInt (0 i, 1 base, 2 i, 3 base) -/
noncomputable def r52_0 : List AO := [⟨some 4, none, .mv (.c (.st []))⟩]
noncomputable def r52_1 : List AO := [⟨some 5, none, .mv (.t 0)⟩,
  ⟨some 6, none, .mv (.t 1)⟩,
  ⟨some 7, none, .call 70 [(.t 5), (.t 6)]⟩,
  ⟨some 4, none, .mv (.t 7)⟩]
set_option maxRecDepth 1000000 in
noncomputable def c52 : AFn := ⟨8, [(4, none)],
  (.seq (.ops r52_0)
  (.seq (.ops r52_1)
  .ret))⟩
set_option maxRecDepth 1000000 in
theorem t52 : trF Tryd.prog 52 = some c52 := by kernel_rfl
/-- strings.ReplaceAll (0 s, 1 old, 2 new, 3 s, 4 old, 5 new) -/
noncomputable def r53_0 : List AO := [⟨some 6, none, .mv (.c (.st []))⟩]
noncomputable def r53_1 : List AO := [⟨some 7, none, .mv (.t 0)⟩,
  ⟨some 8, none, .mv (.t 1)⟩,
  ⟨some 9, none, .mv (.t 2)⟩,
  ⟨some 10, none, .call 71 [(.t 7), (.t 8), (.t 9), (.c (.it .i64 (-1)))]⟩,
  ⟨some 6, none, .mv (.t 10)⟩]
set_option maxRecDepth 1000000 in
noncomputable def c53 : AFn := ⟨11, [(6, none)],
  (.seq (.ops r53_0)
  (.seq (.ops r53_1)
  .ret))⟩
set_option maxRecDepth 1000000 in
theorem t53 : trF Tryd.prog 53 = some c53 := by kernel_rfl
/-- regrater/row.text (0 v, 1 v, 3 s) -/
noncomputable def r55_0 : List AO := [⟨some 1, none, .box 26 3 (.t 0)⟩,
  ⟨some 2, none, .mv (.c (.st []))⟩]
noncomputable def r55_1 : List AO := [⟨some 4, none, .fad 0 (.t 1)⟩,
  ⟨some 5, none, .ld false 1 (.t 4)⟩,
  ⟨some 6, none, .cvi .u8 (.t 5)⟩,
  ⟨some 7, none, .bsl 5 1 1 [(.it .u8 0)] [(0, 1, (.t 6))]⟩,
  ⟨some 8, none, .b2s (.t 7)⟩,
  ⟨some 3, none, .mv (.t 8)⟩]
noncomputable def r55_2 : List AO := [⟨some 9, none, .fad 0 (.t 1)⟩,
  ⟨some 10, none, .ld false 1 (.t 9)⟩]
noncomputable def r55_3 : List AO := [⟨some 12, none, .eq false 1 (.t 10) (.c (.it .i64 1))⟩,
  ⟨some 11, none, .mv (.t 12)⟩]
noncomputable def r55_4 : List AO := [⟨some 13, none, .mv (.t 3)⟩,
  ⟨some 14, none, .fad 1 (.t 1)⟩,
  ⟨some 15, none, .ld false 1 (.t 14)⟩,
  ⟨some 16, none, .cvi .u8 (.t 15)⟩,
  ⟨some 17, none, .bsl 5 1 1 [(.it .u8 0)] [(0, 1, (.t 16))]⟩,
  ⟨some 18, none, .b2s (.t 17)⟩,
  ⟨some 19, none, .bin .add (.t 13) (.t 18)⟩,
  ⟨some 3, none, .mv (.t 19)⟩]
noncomputable def r55_5 : List AO := [⟨some 21, none, .eq false 1 (.t 10) (.c (.it .i64 2))⟩,
  ⟨some 20, none, .mv (.t 21)⟩]
noncomputable def r55_6 : List AO := [⟨some 22, none, .mv (.t 3)⟩,
  ⟨some 23, none, .fad 1 (.t 1)⟩,
  ⟨some 24, none, .ld false 1 (.t 23)⟩,
  ⟨some 25, none, .call 72 [(.t 24)]⟩,
  ⟨some 26, none, .bin .add (.t 22) (.t 25)⟩,
  ⟨some 3, none, .mv (.t 26)⟩]
noncomputable def r55_7 : List AO := [⟨some 28, none, .eq false 1 (.t 10) (.c (.it .i64 3))⟩,
  ⟨some 27, none, .mv (.t 28)⟩]
noncomputable def r55_8 : List AO := [⟨some 29, none, .mv (.t 3)⟩,
  ⟨some 30, none, .fad 2 (.t 1)⟩,
  ⟨some 31, none, .ld false 1 (.t 30)⟩,
  ⟨some 32, none, .bin .add (.t 29) (.t 31)⟩,
  ⟨some 3, none, .mv (.t 32)⟩]
noncomputable def r55_9 : List AO := [⟨some 33, none, .mv (.t 3)⟩,
  ⟨some 2, none, .mv (.t 33)⟩]
set_option maxRecDepth 1000000 in
noncomputable def c55 : AFn := ⟨34, [(2, none)],
  (.seq (.ops r55_0)
  (.seq (.ops r55_1)
  (.seq (.seq (.ops r55_2)
  (.block 0 (.seq (.ops r55_3)
  (.cond (.t 11) (.ops r55_4)
  (.seq (.ops r55_5)
  (.cond (.t 20) (.ops r55_6)
  (.seq (.ops r55_7)
  (.cond (.t 27) (.ops r55_8)
  .skip))))))))
  (.seq (.ops r55_9)
  .ret))))⟩
set_option maxRecDepth 1000000 in
theorem t55 : trF Tryd.prog 55 = some c55 := by kernel_rfl
/-- regrater/pack.Split (0 s, 1 s, 4 out, 5 text, 6 rest, 7 ok) -/
noncomputable def r56_0 : List AO := [⟨some 2, none, .mv (.c (.sl true 0 []))⟩,
  ⟨some 3, none, .mv (.c (.it .i64 0))⟩]
noncomputable def r56_1 : List AO := [⟨some 4, none, .mv (.c (.sl true 0 []))⟩]
noncomputable def r56_2 : List AO := [⟨some 8, none, .mv (.t 0)⟩,
  ⟨some 9, none, .eq true 2 (.t 8) (.c (.st []))⟩]
noncomputable def r56_3 : List AO := [⟨some 11, none, .mv (.t 0)⟩,
  ⟨some 12, none, .call 73 [(.t 11)]⟩,
  ⟨some 10, none, .mv (.t 12)⟩,
  ⟨some 13, none, .ext (.t 10) 0⟩,
  ⟨some 14, none, .ext (.t 10) 1⟩,
  ⟨some 15, none, .ext (.t 10) 2⟩,
  ⟨some 5, none, .mv (.t 13)⟩,
  ⟨some 6, none, .mv (.t 14)⟩,
  ⟨some 7, none, .mv (.t 15)⟩]
noncomputable def r56_4 : List AO := [⟨some 16, none, .mv (.t 7)⟩,
  ⟨some 17, none, .un .not (.t 16)⟩]
noncomputable def r56_5 : List AO := [⟨some 2, none, .mv (.c (.sl true 0 []))⟩,
  ⟨some 3, none, .mv (.c (.it .i64 2))⟩]
noncomputable def r56_6 : List AO := [⟨some 18, none, .mv (.t 4)⟩,
  ⟨some 19, none, .mv (.t 5)⟩,
  ⟨some 20, none, .bsl 9 1 1 [(.st [])] [(0, 1, (.t 19))]⟩,
  ⟨some 21, none, .app 9 1 16 (.t 18) (.t 20)⟩,
  ⟨some 22, none, .mv (.t 6)⟩,
  ⟨some 4, none, .mv (.t 21)⟩,
  ⟨some 0, none, .mv (.t 22)⟩]
noncomputable def r56_7 : List AO := [⟨some 23, none, .mv (.t 4)⟩,
  ⟨some 2, none, .mv (.t 23)⟩,
  ⟨some 3, none, .mv (.c (.it .i64 0))⟩]
set_option maxRecDepth 1000000 in
noncomputable def c56 : AFn := ⟨24, [(2, none), (3, none)],
  (.seq (.ops r56_0)
  (.seq (.ops r56_1)
  (.seq (.block 0 (.loop (.seq (.seq (.ops r56_2)
  (.cond (.t 9) .skip
  (.exit 0)))
  (.block 1 (.seq (.ops r56_3)
  (.seq (.seq (.ops r56_4)
  (.cond (.t 17) (.seq (.ops r56_5)
  .ret)
  .skip))
  (.ops r56_6)))))))
  (.seq (.ops r56_7)
  .ret))))⟩
set_option maxRecDepth 1000000 in
theorem t56 : trF Tryd.prog 56 = some c56 := by kernel_rfl
/-- regrater/row.read (0 s, 1 s, 4 rest, 5 v, 6 n, 7 ok) -/
noncomputable def r57_0 : List AO := [⟨some 2, none, .box 26 3 (.c (.agg [(.it .i64 0), (.it .i64 0), (.st [])]))⟩,
  ⟨some 3, none, .mv (.c (.bl false))⟩]
noncomputable def r57_1 : List AO := [⟨some 8, none, .mv (.t 0)⟩,
  ⟨some 9, none, .eq false 2 (.t 8) (.c (.st []))⟩]
noncomputable def r57_2 : List AO := [⟨some 10, none, .bld [(.it .i64 0), (.it .i64 0), (.st [])] []⟩,
  ⟨none, none, .sto 3 (.t 2) (.t 10)⟩,
  ⟨some 3, none, .mv (.c (.bl false))⟩]
noncomputable def r57_3 : List AO := [⟨some 11, none, .mv (.t 0)⟩,
  ⟨some 12, none, .sls (.t 11) (some (.c (.it .i64 1))) none⟩,
  ⟨some 4, none, .mv (.t 12)⟩]
noncomputable def r57_4 : List AO := [⟨some 13, none, .mv (.t 0)⟩,
  ⟨some 14, none, .idxs (.t 13) (.c (.it .i64 0))⟩,
  ⟨some 15, none, .cvi .i64 (.t 14)⟩,
  ⟨some 16, none, .bld [(.it .i64 0), (.it .i64 0), (.st [])] [(0, 1, (.t 15))]⟩,
  ⟨some 5, none, .box 26 3 (.c (.agg [(.it .i64 0), (.it .i64 0), (.st [])]))⟩,
  ⟨none, none, .sto 3 (.t 5) (.t 16)⟩]
noncomputable def r57_5 : List AO := [⟨some 17, none, .fad 0 (.t 5)⟩,
  ⟨some 18, none, .ld false 1 (.t 17)⟩]
noncomputable def r57_6 : List AO := [⟨some 22, none, .eq false 1 (.t 18) (.c (.it .i64 0))⟩,
  ⟨some 21, none, .mv (.t 22)⟩]
noncomputable def r57_7 : List AO := [⟨some 23, none, .ld true 3 (.t 5)⟩,
  ⟨some 24, none, .mv (.t 4)⟩,
  ⟨some 25, none, .eq false 2 (.t 24) (.c (.st []))⟩,
  ⟨none, none, .sto 3 (.t 2) (.t 23)⟩,
  ⟨some 3, none, .mv (.t 25)⟩]
noncomputable def r57_8 : List AO := [⟨some 27, none, .eq false 1 (.t 18) (.c (.it .i64 1))⟩,
  ⟨some 26, none, .mv (.t 27)⟩]
noncomputable def r57_9 : List AO := [⟨some 28, none, .mv (.t 4)⟩,
  ⟨some 29, none, .lens (.t 28)⟩,
  ⟨some 30, none, .eq true 1 (.t 29) (.c (.it .i64 1))⟩]
noncomputable def r57_10 : List AO := [⟨some 31, none, .ld true 3 (.t 5)⟩,
  ⟨none, none, .sto 3 (.t 2) (.t 31)⟩,
  ⟨some 3, none, .mv (.c (.bl false))⟩]
noncomputable def r57_11 : List AO := [⟨some 32, none, .mv (.t 4)⟩,
  ⟨some 33, none, .idxs (.t 32) (.c (.it .i64 0))⟩,
  ⟨some 34, none, .cvi .i64 (.t 33)⟩,
  ⟨some 35, none, .fad 1 (.t 5)⟩,
  ⟨none, none, .sto 1 (.t 35) (.t 34)⟩]
noncomputable def r57_12 : List AO := [⟨some 37, none, .eq false 1 (.t 18) (.c (.it .i64 2))⟩,
  ⟨some 36, none, .mv (.t 37)⟩]
noncomputable def r57_13 : List AO := [⟨some 39, none, .mv (.t 4)⟩,
  ⟨some 40, none, .call 74 [(.t 39)]⟩,
  ⟨some 38, none, .mv (.t 40)⟩,
  ⟨some 41, none, .ext (.t 38) 0⟩,
  ⟨some 42, none, .ext (.t 38) 1⟩,
  ⟨some 6, none, .mv (.t 41)⟩,
  ⟨some 7, none, .mv (.t 42)⟩]
noncomputable def r57_14 : List AO := [⟨some 43, none, .mv (.t 7)⟩,
  ⟨some 44, none, .un .not (.t 43)⟩]
noncomputable def r57_15 : List AO := [⟨some 45, none, .ld true 3 (.t 5)⟩,
  ⟨none, none, .sto 3 (.t 2) (.t 45)⟩,
  ⟨some 3, none, .mv (.c (.bl false))⟩]
noncomputable def r57_16 : List AO := [⟨some 46, none, .mv (.t 6)⟩,
  ⟨some 47, none, .fad 1 (.t 5)⟩,
  ⟨none, none, .sto 1 (.t 47) (.t 46)⟩]
noncomputable def r57_17 : List AO := [⟨some 19, none, .mv (.t 4)⟩,
  ⟨some 20, none, .fad 2 (.t 5)⟩,
  ⟨none, none, .sto 1 (.t 20) (.t 19)⟩]
noncomputable def r57_18 : List (AO × List Nat) := [(⟨some 48, none, .ld true 3 (.t 5)⟩, []),
  (⟨some 49, none, .ld true 3 (.t 5)⟩, []),
  (⟨some 50, none, .call 19 [(.t 49)]⟩, [0]),
  (⟨none, none, .sto 3 (.t 2) (.t 48)⟩, []),
  (⟨some 3, none, .mv (.t 50)⟩, [])]
set_option maxRecDepth 1000000 in
noncomputable def c57 : AFn := ⟨51, [(2, some 3), (3, none)],
  (.seq (.ops r57_0)
  (.seq (.seq (.ops r57_1)
  (.cond (.t 9) (.seq (.ops r57_2)
  .ret)
  .skip))
  (.seq (.ops r57_3)
  (.seq (.ops r57_4)
  (.seq (.seq (.ops r57_5)
  (.block 0 (.seq (.ops r57_6)
  (.cond (.t 21) (.seq (.ops r57_7)
  .ret)
  (.seq (.ops r57_8)
  (.cond (.t 26) (.seq (.seq (.ops r57_9)
  (.cond (.t 30) (.seq (.ops r57_10)
  .ret)
  .skip))
  (.ops r57_11))
  (.seq (.ops r57_12)
  (.cond (.t 36) (.seq (.ops r57_13)
  (.seq (.seq (.ops r57_14)
  (.cond (.t 44) (.seq (.ops r57_15)
  .ret)
  .skip))
  (.ops r57_16)))
  (.ops r57_17)))))))))
  (.seq (.drw r57_18)
  .ret))))))⟩
set_option maxRecDepth 1000000 in
theorem t57 : trF Tryd.prog 57 = some c57 := by kernel_rfl
/-- regrater/regraterref04.Int (0 n, 1 n, 3 u, 4 out, 5 i) -/
noncomputable def r58_0 : List AO := [⟨some 2, none, .mv (.c (.st []))⟩]
noncomputable def r58_1 : List AO := [⟨some 6, none, .mv (.t 0)⟩,
  ⟨some 7, none, .cvi .u64 (.t 6)⟩,
  ⟨some 8, none, .bin .add (.t 7) (.c (.it .u64 9223372036854775808))⟩,
  ⟨some 3, none, .mv (.t 8)⟩]
noncomputable def r58_2 : List AO := [⟨some 4, none, .mv (.c (.st []))⟩]
noncomputable def r58_3 : List AO := [⟨some 5, none, .mv (.c (.it .i64 0))⟩]
noncomputable def r58_4 : List AO := [⟨some 9, none, .mv (.t 5)⟩,
  ⟨some 10, none, .bin .lss (.t 9) (.c (.it .i64 8))⟩]
noncomputable def r58_5 : List AO := [⟨some 13, none, .mv (.t 3)⟩,
  ⟨some 14, none, .bin .rem (.t 13) (.c (.it .u64 256))⟩,
  ⟨some 15, none, .cvi .u8 (.t 14)⟩,
  ⟨some 16, none, .bsl 5 1 1 [(.it .u8 0)] [(0, 1, (.t 15))]⟩,
  ⟨some 17, none, .b2s (.t 16)⟩,
  ⟨some 18, none, .mv (.t 4)⟩,
  ⟨some 19, none, .bin .add (.t 17) (.t 18)⟩,
  ⟨some 4, none, .mv (.t 19)⟩]
noncomputable def r58_6 : List AO := [⟨some 20, none, .mv (.t 3)⟩,
  ⟨some 21, none, .bin .quo (.t 20) (.c (.it .u64 256))⟩,
  ⟨some 3, none, .mv (.t 21)⟩]
noncomputable def r58_7 : List AO := [⟨some 11, none, .mv (.t 5)⟩,
  ⟨some 12, none, .bin .add (.t 11) (.c (.it .i64 1))⟩,
  ⟨some 5, none, .mv (.t 12)⟩]
noncomputable def r58_8 : List AO := [⟨some 22, none, .mv (.t 4)⟩,
  ⟨some 2, none, .mv (.t 22)⟩]
set_option maxRecDepth 1000000 in
noncomputable def c58 : AFn := ⟨23, [(2, none)],
  (.seq (.ops r58_0)
  (.seq (.ops r58_1)
  (.seq (.ops r58_2)
  (.seq (.seq (.ops r58_3)
  (.block 0 (.loop (.seq (.seq (.ops r58_4)
  (.cond (.t 10) .skip
  (.exit 0)))
  (.seq (.block 1 (.seq (.ops r58_5)
  (.ops r58_6)))
  (.ops r58_7))))))
  (.seq (.ops r58_8)
  .ret)))))⟩
set_option maxRecDepth 1000000 in
theorem t58 : trF Tryd.prog 58 = some c58 := by kernel_rfl
/-- regrater/regraterref04.Pack (0 l, 1 l, 3 out, 4 i, 5 n) -/
noncomputable def r59_0 : List AO := [⟨some 2, none, .mv (.c (.st []))⟩]
noncomputable def r59_1 : List AO := [⟨some 3, none, .mv (.c (.st []))⟩]
noncomputable def r59_2 : List AO := [⟨some 4, none, .mv (.c (.it .i64 0))⟩]
noncomputable def r59_3 : List AO := [⟨some 6, none, .mv (.t 4)⟩,
  ⟨some 7, none, .mv (.t 0)⟩,
  ⟨some 8, none, .len (.t 7)⟩,
  ⟨some 9, none, .bin .lss (.t 6) (.t 8)⟩]
noncomputable def r59_4 : List AO := [⟨some 12, none, .mv (.t 0)⟩,
  ⟨some 13, none, .mv (.t 4)⟩,
  ⟨some 14, none, .iad 1 (.t 12) (.t 13)⟩,
  ⟨some 15, none, .ld false 1 (.t 14)⟩,
  ⟨some 16, none, .lens (.t 15)⟩,
  ⟨some 5, none, .mv (.t 16)⟩]
noncomputable def r59_5 : List (AO × List Nat) := [(⟨some 17, none, .mv (.t 3)⟩, []),
  (⟨some 18, none, .mv (.t 5)⟩, []),
  (⟨some 19, none, .bin .quo (.t 18) (.c (.it .i64 16777216))⟩, []),
  (⟨some 20, none, .bin .rem (.t 19) (.c (.it .i64 256))⟩, []),
  (⟨some 21, none, .cvi .u8 (.t 20)⟩, []),
  (⟨some 22, none, .mv (.t 5)⟩, []),
  (⟨some 23, none, .bin .quo (.t 22) (.c (.it .i64 65536))⟩, []),
  (⟨some 24, none, .bin .rem (.t 23) (.c (.it .i64 256))⟩, []),
  (⟨some 25, none, .cvi .u8 (.t 24)⟩, []),
  (⟨some 26, none, .mv (.t 5)⟩, []),
  (⟨some 27, none, .bin .quo (.t 26) (.c (.it .i64 256))⟩, []),
  (⟨some 28, none, .bin .rem (.t 27) (.c (.it .i64 256))⟩, []),
  (⟨some 29, none, .cvi .u8 (.t 28)⟩, []),
  (⟨some 30, none, .mv (.t 5)⟩, []),
  (⟨some 31, none, .bin .rem (.t 30) (.c (.it .i64 256))⟩, []),
  (⟨some 32, none, .cvi .u8 (.t 31)⟩, []),
  (⟨some 33, none, .bsl 5 1 4 [(.it .u8 0)] [(0, 1, (.t 21)), (1, 1, (.t 25)), (2, 1, (.t 29)), (3, 1, (.t 32))]⟩, [0]),
  (⟨some 34, none, .b2s (.t 33)⟩, []),
  (⟨some 35, none, .mv (.t 0)⟩, [16]),
  (⟨some 36, none, .mv (.t 4)⟩, [16]),
  (⟨some 37, none, .iad 1 (.t 35) (.t 36)⟩, [16]),
  (⟨some 38, none, .ld false 1 (.t 37)⟩, [16]),
  (⟨some 39, none, .bin .add (.t 34) (.t 38)⟩, []),
  (⟨some 40, none, .bin .add (.t 17) (.t 39)⟩, []),
  (⟨some 3, none, .mv (.t 40)⟩, [])]
noncomputable def r59_6 : List AO := [⟨some 10, none, .mv (.t 4)⟩,
  ⟨some 11, none, .bin .add (.t 10) (.c (.it .i64 1))⟩,
  ⟨some 4, none, .mv (.t 11)⟩]
noncomputable def r59_7 : List AO := [⟨some 41, none, .mv (.t 3)⟩,
  ⟨some 2, none, .mv (.t 41)⟩]
set_option maxRecDepth 1000000 in
noncomputable def c59 : AFn := ⟨42, [(2, none)],
  (.seq (.ops r59_0)
  (.seq (.ops r59_1)
  (.seq (.seq (.ops r59_2)
  (.block 0 (.loop (.seq (.seq (.ops r59_3)
  (.cond (.t 9) .skip
  (.exit 0)))
  (.seq (.block 1 (.seq (.ops r59_4)
  (.drw r59_5)))
  (.ops r59_6))))))
  (.seq (.ops r59_7)
  .ret))))⟩
set_option maxRecDepth 1000000 in
theorem t59 : trF Tryd.prog 59 = some c59 := by kernel_rfl
/-- slices.CompareFunc[regrater/row.Row,regrater/row.Row,regrater/value.Value,regrater/value.Value] (0 s1, 1 s2, 2 cmp, 3 s1, 4 s2, 5 cmp, 7 i, 8 v1, 9 v2, 10 c) -/
noncomputable def r60_0 : List AO := [⟨some 6, none, .mv (.c (.it .i64 0))⟩]
noncomputable def r60_1 : List AO := [⟨some 11, none, .mv (.t 0)⟩,
  ⟨some 12, none, .len (.t 11)⟩,
  ⟨some 13, none, .mv (.c (.it .i64 0))⟩]
noncomputable def r60_2 : List AO := [⟨some 14, none, .bin .lss (.t 13) (.t 12)⟩]
noncomputable def r60_3 : List AO := [⟨some 15, none, .mv (.t 13)⟩,
  ⟨some 16, none, .iad 3 (.t 11) (.t 13)⟩,
  ⟨some 17, none, .ld true 3 (.t 16)⟩,
  ⟨some 8, none, .box 26 3 (.c (.agg [(.it .i64 0), (.it .i64 0), (.st [])]))⟩,
  ⟨some 7, none, .mv (.t 15)⟩,
  ⟨none, none, .sto 3 (.t 8) (.t 17)⟩]
noncomputable def r60_4 : List AO := [⟨some 18, none, .mv (.t 7)⟩,
  ⟨some 19, none, .mv (.t 1)⟩,
  ⟨some 20, none, .len (.t 19)⟩,
  ⟨some 21, none, .bin .geq (.t 18) (.t 20)⟩]
noncomputable def r60_5 : List AO := [⟨some 6, none, .mv (.c (.it .i64 1))⟩]
noncomputable def r60_6 : List AO := [⟨some 22, none, .mv (.t 1)⟩,
  ⟨some 23, none, .mv (.t 7)⟩,
  ⟨some 24, none, .iad 3 (.t 22) (.t 23)⟩,
  ⟨some 25, none, .ld true 3 (.t 24)⟩,
  ⟨some 9, none, .box 26 3 (.c (.agg [(.it .i64 0), (.it .i64 0), (.st [])]))⟩,
  ⟨none, none, .sto 3 (.t 9) (.t 25)⟩]
noncomputable def r60_7 : List AO := [⟨some 26, none, .mv (.t 2)⟩,
  ⟨some 27, none, .ld true 3 (.t 8)⟩,
  ⟨some 28, none, .ld true 3 (.t 9)⟩,
  ⟨some 29, none, .calv (.t 26) [(.t 27), (.t 28)]⟩,
  ⟨some 10, none, .mv (.t 29)⟩]
noncomputable def r60_8 : List AO := [⟨some 30, none, .mv (.t 10)⟩,
  ⟨some 31, none, .eq true 1 (.t 30) (.c (.it .i64 0))⟩]
noncomputable def r60_9 : List AO := [⟨some 32, none, .mv (.t 10)⟩,
  ⟨some 6, none, .mv (.t 32)⟩]
noncomputable def r60_10 : List AO := [⟨some 33, none, .bin .add (.t 13) (.c (.it .i64 1))⟩,
  ⟨some 13, none, .mv (.t 33)⟩]
noncomputable def r60_11 : List AO := [⟨some 34, none, .mv (.t 0)⟩,
  ⟨some 35, none, .len (.t 34)⟩,
  ⟨some 36, none, .mv (.t 1)⟩,
  ⟨some 37, none, .len (.t 36)⟩,
  ⟨some 38, none, .bin .lss (.t 35) (.t 37)⟩]
noncomputable def r60_12 : List AO := [⟨some 6, none, .mv (.c (.it .i64 (-1)))⟩]
noncomputable def r60_13 : List AO := [⟨some 6, none, .mv (.c (.it .i64 0))⟩]
set_option maxRecDepth 1000000 in
noncomputable def c60 : AFn := ⟨39, [(6, none)],
  (.seq (.ops r60_0)
  (.seq (.seq (.ops r60_1)
  (.block 0 (.loop (.seq (.ops r60_2)
  (.seq (.cond (.t 14) .skip
  (.exit 0))
  (.seq (.block 1 (.seq (.ops r60_3)
  (.seq (.seq (.ops r60_4)
  (.cond (.t 21) (.seq (.ops r60_5)
  .ret)
  .skip))
  (.seq (.ops r60_6)
  (.seq (.ops r60_7)
  (.seq (.ops r60_8)
  (.cond (.t 31) (.seq (.ops r60_9)
  .ret)
  .skip)))))))
  (.ops r60_10)))))))
  (.seq (.seq (.ops r60_11)
  (.cond (.t 38) (.seq (.ops r60_12)
  .ret)
  .skip))
  (.seq (.ops r60_13)
  .ret))))⟩
set_option maxRecDepth 1000000 in
theorem t60 : trF Tryd.prog 60 = some c60 := by kernel_rfl
/-- regrater/pack.wide (0 n, 1 size, 2 n, 3 size, 5 b, 6 i) -/
noncomputable def r61_0 : List AO := [⟨some 4, none, .mv (.c (.sl true 0 []))⟩]
noncomputable def r61_1 : List AO := [⟨some 7, none, .mv (.t 1)⟩,
  ⟨some 8, none, .mks 5 1 1 [(.it .u8 0)] (.t 7) (.t 7)⟩,
  ⟨some 5, none, .mv (.t 8)⟩]
noncomputable def r61_2 : List AO := [⟨some 9, none, .mv (.t 5)⟩,
  ⟨some 10, none, .len (.t 9)⟩,
  ⟨some 11, none, .mv (.c (.it .i64 0))⟩]
noncomputable def r61_3 : List AO := [⟨some 12, none, .bin .lss (.t 11) (.t 10)⟩]
noncomputable def r61_4 : List AO := [⟨some 13, none, .mv (.t 11)⟩,
  ⟨some 6, none, .mv (.t 13)⟩]
noncomputable def r61_5 : List AO := [⟨some 14, none, .mv (.t 5)⟩,
  ⟨some 15, none, .mv (.t 1)⟩,
  ⟨some 16, none, .bin .sub (.t 15) (.c (.it .i64 1))⟩,
  ⟨some 17, none, .mv (.t 6)⟩,
  ⟨some 18, none, .bin .sub (.t 16) (.t 17)⟩,
  ⟨some 19, none, .mv (.t 0)⟩,
  ⟨some 20, none, .mv (.t 6)⟩,
  ⟨some 21, none, .bin .mul (.c (.it .i64 8)) (.t 20)⟩,
  ⟨some 22, none, .bin .shr (.t 19) (.t 21)⟩,
  ⟨some 23, none, .cvi .u8 (.t 22)⟩,
  ⟨some 24, none, .iad 1 (.t 14) (.t 18)⟩,
  ⟨none, none, .sto 1 (.t 24) (.t 23)⟩]
noncomputable def r61_6 : List AO := [⟨some 25, none, .bin .add (.t 11) (.c (.it .i64 1))⟩,
  ⟨some 11, none, .mv (.t 25)⟩]
noncomputable def r61_7 : List AO := [⟨some 26, none, .mv (.t 5)⟩,
  ⟨some 4, none, .mv (.t 26)⟩]
set_option maxRecDepth 1000000 in
noncomputable def c61 : AFn := ⟨27, [(4, none)],
  (.seq (.ops r61_0)
  (.seq (.ops r61_1)
  (.seq (.seq (.ops r61_2)
  (.block 0 (.loop (.seq (.ops r61_3)
  (.seq (.cond (.t 12) .skip
  (.exit 0))
  (.seq (.block 1 (.seq (.ops r61_4)
  (.ops r61_5)))
  (.ops r61_6)))))))
  (.seq (.ops r61_7)
  .ret))))⟩
set_option maxRecDepth 1000000 in
theorem t61 : trF Tryd.prog 61 = some c61 := by kernel_rfl
-- NO 62 strings.Join: ['strings.go:479 makeInterface', 'strings.go:479 panic', 'strings.go:485 makeInterface', 'strings.go:485 panic']
/-- cmp.isNaN[int] (0 x, 1 x) -/
noncomputable def r67_0 : List AO := [⟨some 2, none, .mv (.c (.bl false))⟩]
noncomputable def r67_1 : List AO := [⟨some 3, none, .mv (.t 0)⟩,
  ⟨some 4, none, .mv (.t 0)⟩,
  ⟨some 5, none, .eq true 1 (.t 3) (.t 4)⟩,
  ⟨some 2, none, .mv (.t 5)⟩]
set_option maxRecDepth 1000000 in
noncomputable def c67 : AFn := ⟨6, [(2, none)],
  (.seq (.ops r67_0)
  (.seq (.ops r67_1)
  .ret))⟩
set_option maxRecDepth 1000000 in
theorem t67 : trF Tryd.prog 67 = some c67 := by kernel_rfl
/-- cmp.isNaN[int64] (0 x, 1 x) -/
noncomputable def r68_0 : List AO := [⟨some 2, none, .mv (.c (.bl false))⟩]
noncomputable def r68_1 : List AO := [⟨some 3, none, .mv (.t 0)⟩,
  ⟨some 4, none, .mv (.t 0)⟩,
  ⟨some 5, none, .eq true 1 (.t 3) (.t 4)⟩,
  ⟨some 2, none, .mv (.t 5)⟩]
set_option maxRecDepth 1000000 in
noncomputable def c68 : AFn := ⟨6, [(2, none)],
  (.seq (.ops r68_0)
  (.seq (.ops r68_1)
  .ret))⟩
set_option maxRecDepth 1000000 in
theorem t68 : trF Tryd.prog 68 = some c68 := by kernel_rfl
/-- cmp.isNaN[string] (0 x, 1 x) -/
noncomputable def r69_0 : List AO := [⟨some 2, none, .mv (.c (.bl false))⟩]
noncomputable def r69_1 : List AO := [⟨some 3, none, .mv (.t 0)⟩,
  ⟨some 4, none, .mv (.t 0)⟩,
  ⟨some 5, none, .eq true 2 (.t 3) (.t 4)⟩,
  ⟨some 2, none, .mv (.t 5)⟩]
set_option maxRecDepth 1000000 in
noncomputable def c69 : AFn := ⟨6, [(2, none)],
  (.seq (.ops r69_0)
  (.seq (.ops r69_1)
  .ret))⟩
set_option maxRecDepth 1000000 in
theorem t69 : trF Tryd.prog 69 = some c69 := by kernel_rfl
/-- regrater/pack.Int (0 n, 1 n) -/
noncomputable def r72_0 : List AO := [⟨some 2, none, .mv (.c (.st []))⟩]
noncomputable def r72_1 : List AO := [⟨some 3, none, .mv (.t 0)⟩,
  ⟨some 4, none, .cvi .u64 (.t 3)⟩,
  ⟨some 5, none, .bin .xor (.t 4) (.c (.it .u64 9223372036854775808))⟩,
  ⟨some 6, none, .call 61 [(.t 5), (.c (.it .i64 8))]⟩,
  ⟨some 7, none, .b2s (.t 6)⟩,
  ⟨some 2, none, .mv (.t 7)⟩]
set_option maxRecDepth 1000000 in
noncomputable def c72 : AFn := ⟨8, [(2, none)],
  (.seq (.ops r72_0)
  (.seq (.ops r72_1)
  .ret))⟩
set_option maxRecDepth 1000000 in
theorem t72 : trF Tryd.prog 72 = some c72 := by kernel_rfl
/-- regrater/pack.first (0 s, 1 s, 2 text, 3 rest, 4 ok, 5 n, 6 end) -/
noncomputable def r73_0 : List AO := [⟨some 2, none, .mv (.c (.st []))⟩,
  ⟨some 3, none, .mv (.c (.st []))⟩,
  ⟨some 4, none, .mv (.c (.bl false))⟩]
noncomputable def r73_1 : List AO := [⟨some 7, none, .mv (.t 0)⟩,
  ⟨some 8, none, .lens (.t 7)⟩,
  ⟨some 9, none, .bin .lss (.t 8) (.c (.it .i64 4))⟩]
noncomputable def r73_2 : List AO := [⟨some 10, none, .mv (.t 0)⟩,
  ⟨some 2, none, .mv (.c (.st []))⟩,
  ⟨some 3, none, .mv (.t 10)⟩,
  ⟨some 4, none, .mv (.c (.bl false))⟩]
noncomputable def r73_3 : List AO := [⟨some 11, none, .mv (.t 0)⟩,
  ⟨some 12, none, .sls (.t 11) none (some (.c (.it .i64 4)))⟩,
  ⟨some 13, none, .call 89 [(.t 12)]⟩,
  ⟨some 5, none, .mv (.t 13)⟩]
noncomputable def r73_4 : List AO := [⟨some 14, none, .mv (.t 5)⟩,
  ⟨some 15, none, .mv (.t 0)⟩,
  ⟨some 16, none, .lens (.t 15)⟩,
  ⟨some 17, none, .bin .sub (.t 16) (.c (.it .i64 4))⟩,
  ⟨some 18, none, .cvi .u64 (.t 17)⟩,
  ⟨some 19, none, .bin .gtr (.t 14) (.t 18)⟩]
noncomputable def r73_5 : List AO := [⟨some 20, none, .mv (.t 0)⟩,
  ⟨some 2, none, .mv (.c (.st []))⟩,
  ⟨some 3, none, .mv (.t 20)⟩,
  ⟨some 4, none, .mv (.c (.bl false))⟩]
noncomputable def r73_6 : List AO := [⟨some 21, none, .mv (.t 5)⟩,
  ⟨some 22, none, .cvi .i64 (.t 21)⟩,
  ⟨some 23, none, .bin .add (.c (.it .i64 4)) (.t 22)⟩,
  ⟨some 6, none, .mv (.t 23)⟩]
noncomputable def r73_7 : List (AO × List Nat) := [(⟨some 24, none, .mv (.t 0)⟩, []),
  (⟨some 25, none, .mv (.t 6)⟩, []),
  (⟨some 26, none, .sls (.t 24) (some (.c (.it .i64 4))) (some (.t 25))⟩, []),
  (⟨some 27, none, .mv (.t 0)⟩, []),
  (⟨some 28, none, .mv (.t 6)⟩, []),
  (⟨some 29, none, .sls (.t 27) (some (.t 28)) none⟩, []),
  (⟨some 2, none, .mv (.t 26)⟩, []),
  (⟨some 3, none, .mv (.t 29)⟩, []),
  (⟨some 4, none, .mv (.c (.bl true))⟩, [])]
set_option maxRecDepth 1000000 in
noncomputable def c73 : AFn := ⟨30, [(2, none), (3, none), (4, none)],
  (.seq (.ops r73_0)
  (.seq (.seq (.ops r73_1)
  (.cond (.t 9) (.seq (.ops r73_2)
  .ret)
  .skip))
  (.seq (.ops r73_3)
  (.seq (.seq (.ops r73_4)
  (.cond (.t 19) (.seq (.ops r73_5)
  .ret)
  .skip))
  (.seq (.ops r73_6)
  (.seq (.drw r73_7)
  .ret))))))⟩
set_option maxRecDepth 1000000 in
theorem t73 : trF Tryd.prog 73 = some c73 := by kernel_rfl
/-- regrater/pack.GetInt (0 s, 1 s) -/
noncomputable def r74_0 : List AO := [⟨some 2, none, .mv (.c (.it .i64 0))⟩,
  ⟨some 3, none, .mv (.c (.bl false))⟩]
noncomputable def r74_1 : List AO := [⟨some 4, none, .mv (.t 0)⟩,
  ⟨some 5, none, .lens (.t 4)⟩,
  ⟨some 6, none, .eq true 1 (.t 5) (.c (.it .i64 8))⟩]
noncomputable def r74_2 : List AO := [⟨some 2, none, .mv (.c (.it .i64 0))⟩,
  ⟨some 3, none, .mv (.c (.bl false))⟩]
noncomputable def r74_3 : List AO := [⟨some 7, none, .mv (.t 0)⟩,
  ⟨some 8, none, .call 89 [(.t 7)]⟩,
  ⟨some 9, none, .bin .xor (.t 8) (.c (.it .u64 9223372036854775808))⟩,
  ⟨some 10, none, .cvi .i64 (.t 9)⟩,
  ⟨some 2, none, .mv (.t 10)⟩,
  ⟨some 3, none, .mv (.c (.bl true))⟩]
set_option maxRecDepth 1000000 in
noncomputable def c74 : AFn := ⟨11, [(2, none), (3, none)],
  (.seq (.ops r74_0)
  (.seq (.seq (.ops r74_1)
  (.cond (.t 6) (.seq (.ops r74_2)
  .ret)
  .skip))
  (.seq (.ops r74_3)
  .ret)))⟩
set_option maxRecDepth 1000000 in
theorem t74 : trF Tryd.prog 74 = some c74 := by kernel_rfl
/-- regrater/pack.number (0 s, 1 s, 3 n, 4 i) -/
noncomputable def r89_0 : List AO := [⟨some 2, none, .mv (.c (.it .u64 0))⟩]
noncomputable def r89_1 : List AO := [⟨some 3, none, .mv (.c (.it .u64 0))⟩]
noncomputable def r89_2 : List AO := [⟨some 5, none, .mv (.t 0)⟩,
  ⟨some 6, none, .lens (.t 5)⟩,
  ⟨some 7, none, .mv (.c (.it .i64 0))⟩]
noncomputable def r89_3 : List AO := [⟨some 8, none, .bin .lss (.t 7) (.t 6)⟩]
noncomputable def r89_4 : List AO := [⟨some 9, none, .mv (.t 7)⟩,
  ⟨some 4, none, .mv (.t 9)⟩]
noncomputable def r89_5 : List AO := [⟨some 10, none, .mv (.t 3)⟩,
  ⟨some 11, none, .bin .shl (.t 10) (.c (.it .u64 8))⟩,
  ⟨some 12, none, .mv (.t 0)⟩,
  ⟨some 13, none, .mv (.t 4)⟩,
  ⟨some 14, none, .idxs (.t 12) (.t 13)⟩,
  ⟨some 15, none, .cvi .u64 (.t 14)⟩,
  ⟨some 16, none, .bin .or (.t 11) (.t 15)⟩,
  ⟨some 3, none, .mv (.t 16)⟩]
noncomputable def r89_6 : List AO := [⟨some 17, none, .bin .add (.t 7) (.c (.it .i64 1))⟩,
  ⟨some 7, none, .mv (.t 17)⟩]
noncomputable def r89_7 : List AO := [⟨some 18, none, .mv (.t 3)⟩,
  ⟨some 2, none, .mv (.t 18)⟩]
set_option maxRecDepth 1000000 in
noncomputable def c89 : AFn := ⟨19, [(2, none)],
  (.seq (.ops r89_0)
  (.seq (.ops r89_1)
  (.seq (.seq (.ops r89_2)
  (.block 0 (.loop (.seq (.ops r89_3)
  (.seq (.cond (.t 8) .skip
  (.exit 0))
  (.seq (.block 1 (.seq (.ops r89_4)
  (.ops r89_5)))
  (.ops r89_6)))))))
  (.seq (.ops r89_7)
  .ret))))⟩
set_option maxRecDepth 1000000 in
theorem t89 : trF Tryd.prog 89 = some c89 := by kernel_rfl
end Go.Proofs.YtkmehmgocelkiaaDoor
