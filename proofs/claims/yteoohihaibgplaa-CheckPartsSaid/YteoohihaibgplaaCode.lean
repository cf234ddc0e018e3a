/-
  The resolved code of the functions, each held against the program by the kernel.
-/
import Derived.Test.YteoohihaibgplaaAv
import Derived.Test.YteoohihaibgplaaRows
import Derived.KernelRfl
namespace Go.Proofs.Yteoohihaibgplaa
open Go.AV
/-- regrater/regraterlaw20.CheckParts (0 l, 1 cells, 2 l, 3 cells, 5 m, 6 _, 7 e, 8 a, 9 _, 10 c, 11 _, 12 kind, 13 f, 14 _, 15 twice, 16 x, 17 k, 18 g, 19 fits, 20 v, 21 p, 22 w, 23 q) -/
noncomputable def r3_0 : List AO := [⟨some 4, none, .mv (.c (.bl false))⟩]
noncomputable def r3_1 : List AO := [⟨some 24, none, .call 6 []⟩,
  ⟨some 25, none, .un .not (.t 24)⟩]
noncomputable def r3_2 : List AO := [⟨some 4, none, .mv (.c (.bl false))⟩]
noncomputable def r3_3 : List AO := [⟨some 27, none, .mv (.t 0)⟩,
  ⟨some 28, none, .mv (.t 0)⟩,
  ⟨some 29, none, .len (.t 28)⟩,
  ⟨some 30, none, .mnx false [(.t 29), (.c (.it .i64 20))]⟩,
  ⟨some 31, none, .sll 7 (.t 27) none (some (.t 30))⟩,
  ⟨some 32, none, .call 7 [(.t 31), (.c (.it .i64 0)), (.c (.it .i64 0))]⟩,
  ⟨some 26, none, .mv (.t 32)⟩,
  ⟨some 33, none, .ext (.t 26) 0⟩,
  ⟨some 34, none, .ext (.t 26) 1⟩,
  ⟨some 5, none, .box 29 8 (.c (.agg [(.it .i64 0), (.it .i64 0), (.it .i64 0), (.it .i64 0), (.st []), (.st []), (.st []), (.sl true 0 [])]))⟩,
  ⟨none, none, .sto 8 (.t 5) (.t 33)⟩,
  ⟨some 6, none, .mv (.t 34)⟩]
noncomputable def r3_4 : List AO := [⟨some 35, none, .ld true 8 (.t 5)⟩,
  ⟨some 36, none, .call 8 [(.t 35)]⟩,
  ⟨some 37, none, .un .not (.t 36)⟩,
  ⟨some 38, none, .mv (.t 37)⟩,
  ⟨some 39, some (38, false), .ld true 8 (.t 5)⟩,
  ⟨some 40, some (38, false), .call 9 [(.t 39)]⟩,
  ⟨some 41, some (38, false), .bin .gtr (.t 40) (.c (.it .i64 17))⟩,
  ⟨some 42, none, .pick (.t 38) (.c (.bl true)) (.t 41)⟩,
  ⟨some 43, none, .mv (.t 42)⟩,
  ⟨some 44, some (43, false), .ld true 8 (.t 5)⟩,
  ⟨some 45, some (43, false), .call 10 [(.t 44)]⟩,
  ⟨some 46, some (43, false), .len (.t 45)⟩,
  ⟨some 47, some (43, false), .bin .gtr (.t 46) (.c (.it .i64 0))⟩,
  ⟨some 48, none, .pick (.t 43) (.c (.bl true)) (.t 47)⟩]
noncomputable def r3_5 : List AO := [⟨some 4, none, .mv (.c (.bl true))⟩]
noncomputable def r3_6 : List AO := [⟨some 49, none, .ld true 8 (.t 5)⟩,
  ⟨some 50, none, .call 11 [(.t 49)]⟩,
  ⟨some 7, none, .box 38 8 (.c (.agg [(.it .i64 0), (.it .i64 0), (.it .i64 0), (.it .i64 0), (.st []), (.st []), (.st []), (.sl true 0 [])]))⟩,
  ⟨none, none, .sto 8 (.t 7) (.t 50)⟩]
noncomputable def r3_7 : List AO := [⟨some 52, none, .mv (.t 1)⟩,
  ⟨some 53, none, .call 12 [(.t 52)]⟩,
  ⟨some 51, none, .mv (.t 53)⟩,
  ⟨some 54, none, .ext (.t 51) 0⟩,
  ⟨some 55, none, .ext (.t 51) 1⟩,
  ⟨some 56, none, .ext (.t 51) 2⟩,
  ⟨some 57, none, .ext (.t 51) 3⟩,
  ⟨some 8, none, .mv (.t 54)⟩,
  ⟨some 9, none, .mv (.t 55)⟩,
  ⟨some 10, none, .mv (.t 56)⟩,
  ⟨some 11, none, .mv (.t 57)⟩]
noncomputable def r3_8 : List AO := [⟨some 59, none, .ld true 8 (.t 7)⟩,
  ⟨some 60, none, .mv (.t 8)⟩,
  ⟨some 61, none, .call 13 [(.t 59), (.t 60), (.c (.bl false))]⟩,
  ⟨some 58, none, .mv (.t 61)⟩,
  ⟨some 62, none, .ext (.t 58) 0⟩,
  ⟨some 63, none, .ext (.t 58) 1⟩,
  ⟨some 12, none, .mv (.t 62)⟩,
  ⟨some 13, none, .mv (.t 63)⟩]
noncomputable def r3_9 : List AO := [⟨some 64, none, .mv (.t 13)⟩,
  ⟨some 65, none, .eq true 1 (.t 64) (.c (.it .i64 0))⟩]
noncomputable def r3_10 : List AO := [⟨some 66, none, .mv (.t 12)⟩,
  ⟨some 67, none, .eq false 1 (.t 66) (.c (.it .i64 0))⟩,
  ⟨some 4, none, .mv (.t 67)⟩]
noncomputable def r3_11 : List AO := [⟨some 68, none, .bld [(.it .i64 0), (.it .i64 0)] [(0, 1, (.c (.it .i64 4))), (1, 1, (.c (.it .i64 5)))]⟩,
  ⟨some 69, none, .mv (.c (.it .i64 0))⟩]
noncomputable def r3_12 : List AO := [⟨some 70, none, .bin .lss (.t 69) (.c (.it .i64 2))⟩]
noncomputable def r3_13 : List AO := [⟨some 71, none, .idxa false 2 1 (.t 68) (.t 69)⟩,
  ⟨some 15, none, .mv (.t 71)⟩]
noncomputable def r3_14 : List AO := [⟨some 72, none, .mv (.t 15)⟩,
  ⟨some 73, none, .mv (.t 15)⟩,
  ⟨some 74, none, .ld true 8 (.t 7)⟩,
  ⟨some 75, none, .bsl 38 8 1 [(.it .i64 0), (.it .i64 0), (.it .i64 0), (.it .i64 0), (.st []), (.st []), (.st []), (.sl true 0 [])] [(0, 8, (.t 74))]⟩,
  ⟨some 76, none, .bld [(.it .i64 0), (.it .i64 0), (.it .i64 0), (.it .i64 0), (.st []), (.st []), (.st []), (.sl true 0 [])] [(0, 1, (.t 73)), (7, 1, (.t 75))]⟩,
  ⟨some 77, none, .bsl 38 8 1 [(.it .i64 0), (.it .i64 0), (.it .i64 0), (.it .i64 0), (.st []), (.st []), (.st []), (.sl true 0 [])] [(0, 8, (.t 76))]⟩,
  ⟨some 78, none, .bld [(.it .i64 0), (.it .i64 0), (.it .i64 0), (.it .i64 0), (.st []), (.st []), (.st []), (.sl true 0 [])] [(0, 1, (.t 72)), (7, 1, (.t 77))]⟩,
  ⟨some 16, none, .box 38 8 (.c (.agg [(.it .i64 0), (.it .i64 0), (.it .i64 0), (.it .i64 0), (.st []), (.st []), (.st []), (.sl true 0 [])]))⟩,
  ⟨none, none, .sto 8 (.t 16) (.t 78)⟩]
noncomputable def r3_15 : List AO := [⟨some 80, none, .ld true 8 (.t 16)⟩,
  ⟨some 81, none, .mv (.t 8)⟩,
  ⟨some 82, none, .call 13 [(.t 80), (.t 81), (.c (.bl false))]⟩,
  ⟨some 79, none, .mv (.t 82)⟩,
  ⟨some 83, none, .ext (.t 79) 0⟩,
  ⟨some 84, none, .ext (.t 79) 1⟩,
  ⟨some 17, none, .mv (.t 83)⟩,
  ⟨some 18, none, .mv (.t 84)⟩]
noncomputable def r3_16 : List AO := [⟨some 85, none, .mv (.t 12)⟩,
  ⟨some 86, none, .eq false 1 (.t 85) (.c (.it .i64 0))⟩,
  ⟨some 87, none, .mv (.t 86)⟩,
  ⟨some 88, some (87, false), .mv (.t 15)⟩,
  ⟨some 89, some (87, false), .eq false 1 (.t 88) (.c (.it .i64 4))⟩,
  ⟨some 90, some (87, false), .mv (.t 89)⟩,
  ⟨some 91, some (90, true), .mv (.t 12)⟩,
  ⟨some 92, some (90, true), .eq false 1 (.t 91) (.c (.it .i64 1))⟩,
  ⟨some 93, some (87, false), .pick (.t 90) (.t 92) (.c (.bl false))⟩,
  ⟨some 94, none, .pick (.t 87) (.c (.bl true)) (.t 93)⟩,
  ⟨some 95, none, .mv (.t 94)⟩,
  ⟨some 96, some (95, false), .mv (.t 15)⟩,
  ⟨some 97, some (95, false), .eq false 1 (.t 96) (.c (.it .i64 5))⟩,
  ⟨some 98, some (95, false), .mv (.t 97)⟩,
  ⟨some 99, some (98, true), .mv (.t 12)⟩,
  ⟨some 100, some (98, true), .eq false 1 (.t 99) (.c (.it .i64 2))⟩,
  ⟨some 101, some (95, false), .pick (.t 98) (.t 100) (.c (.bl false))⟩,
  ⟨some 102, none, .pick (.t 95) (.c (.bl true)) (.t 101)⟩,
  ⟨some 19, none, .mv (.t 102)⟩]
noncomputable def r3_17 : List AO := [⟨some 103, none, .mv (.t 19)⟩,
  ⟨some 104, none, .mv (.t 18)⟩,
  ⟨some 105, none, .eq false 1 (.t 104) (.c (.it .i64 0))⟩,
  ⟨some 106, none, .eq true 0 (.t 103) (.t 105)⟩,
  ⟨some 107, none, .mv (.t 106)⟩,
  ⟨some 108, some (107, false), .mv (.t 18)⟩,
  ⟨some 109, some (107, false), .eq false 1 (.t 108) (.c (.it .i64 0))⟩,
  ⟨some 110, some (107, false), .mv (.t 109)⟩,
  ⟨some 111, some (110, true), .mv (.t 12)⟩,
  ⟨some 112, some (110, true), .eq true 1 (.t 111) (.c (.it .i64 0))⟩,
  ⟨some 113, some (107, false), .pick (.t 110) (.t 112) (.c (.bl false))⟩,
  ⟨some 114, some (107, false), .mv (.t 113)⟩,
  ⟨some 115, some (114, true), .mv (.t 17)⟩,
  ⟨some 116, some (114, true), .mv (.t 12)⟩,
  ⟨some 117, some (114, true), .eq true 1 (.t 115) (.t 116)⟩,
  ⟨some 118, some (107, false), .pick (.t 114) (.t 117) (.c (.bl false))⟩,
  ⟨some 119, none, .pick (.t 107) (.c (.bl true)) (.t 118)⟩]
noncomputable def r3_18 : List AO := [⟨some 4, none, .mv (.c (.bl false))⟩]
noncomputable def r3_19 : List AO := [⟨some 120, none, .mv (.t 18)⟩,
  ⟨some 121, none, .eq true 1 (.t 120) (.c (.it .i64 0))⟩]
noncomputable def r3_20 : List AO := [⟨some 123, none, .ld true 8 (.t 7)⟩,
  ⟨some 124, none, .mv (.t 8)⟩,
  ⟨some 125, none, .mv (.t 10)⟩,
  ⟨some 126, none, .call 14 [(.t 123), (.t 124), (.t 125)]⟩,
  ⟨some 122, none, .mv (.t 126)⟩,
  ⟨some 127, none, .ext (.t 122) 0⟩,
  ⟨some 128, none, .ext (.t 122) 1⟩,
  ⟨some 20, none, .box 35 3 (.c (.agg [(.it .i64 0), (.it .i64 0), (.st [])]))⟩,
  ⟨none, none, .sto 3 (.t 20) (.t 127)⟩,
  ⟨some 21, none, .mv (.t 128)⟩]
noncomputable def r3_21 : List AO := [⟨some 130, none, .ld true 8 (.t 16)⟩,
  ⟨some 131, none, .mv (.t 8)⟩,
  ⟨some 132, none, .mv (.t 10)⟩,
  ⟨some 133, none, .call 14 [(.t 130), (.t 131), (.t 132)]⟩,
  ⟨some 129, none, .mv (.t 133)⟩,
  ⟨some 134, none, .ext (.t 129) 0⟩,
  ⟨some 135, none, .ext (.t 129) 1⟩,
  ⟨some 22, none, .box 35 3 (.c (.agg [(.it .i64 0), (.it .i64 0), (.st [])]))⟩,
  ⟨none, none, .sto 3 (.t 22) (.t 134)⟩,
  ⟨some 23, none, .mv (.t 135)⟩]
noncomputable def r3_22 : List AO := [⟨some 136, none, .mv (.t 21)⟩,
  ⟨some 137, none, .mv (.t 23)⟩,
  ⟨some 138, none, .eq true 1 (.t 136) (.t 137)⟩,
  ⟨some 139, none, .mv (.t 138)⟩,
  ⟨some 140, some (139, true), .mv (.t 23)⟩,
  ⟨some 141, some (139, true), .eq true 1 (.t 140) (.c (.it .i64 8))⟩,
  ⟨some 142, none, .pick (.t 139) (.t 141) (.c (.bl false))⟩,
  ⟨some 143, none, .mv (.t 142)⟩,
  ⟨some 144, some (143, false), .mv (.t 21)⟩,
  ⟨some 145, some (143, false), .eq false 1 (.t 144) (.c (.it .i64 0))⟩,
  ⟨some 146, some (143, false), .mv (.t 145)⟩,
  ⟨some 147, some (146, true), .mv (.t 23)⟩,
  ⟨some 148, some (146, true), .eq false 1 (.t 147) (.c (.it .i64 0))⟩,
  ⟨some 149, some (143, false), .pick (.t 146) (.t 148) (.c (.bl false))⟩,
  ⟨some 150, some (143, false), .mv (.t 149)⟩,
  ⟨some 151, some (150, true), .ld true 3 (.t 20)⟩,
  ⟨some 152, some (150, true), .ld true 3 (.t 22)⟩,
  ⟨some 153, some (150, true), .eqs true [1, 1, 2] (.t 151) (.t 152)⟩,
  ⟨some 154, some (143, false), .pick (.t 150) (.t 153) (.c (.bl false))⟩,
  ⟨some 155, none, .pick (.t 143) (.c (.bl true)) (.t 154)⟩]
noncomputable def r3_23 : List AO := [⟨some 4, none, .mv (.c (.bl false))⟩]
noncomputable def r3_24 : List AO := [⟨some 156, none, .bin .add (.t 69) (.c (.it .i64 1))⟩,
  ⟨some 69, none, .mv (.t 156)⟩]
noncomputable def r3_25 : List AO := [⟨some 4, none, .mv (.c (.bl true))⟩]
set_option maxRecDepth 1000000 in
noncomputable def c3 : AFn := ⟨157, [(4, none)],
  (.seq (.ops r3_0)
  (.seq (.seq (.ops r3_1)
  (.cond (.t 25) (.seq (.ops r3_2)
  .ret)
  .skip))
  (.seq (.ops r3_3)
  (.seq (.seq (.ops r3_4)
  (.cond (.t 48) (.seq (.ops r3_5)
  .ret)
  .skip))
  (.seq (.ops r3_6)
  (.seq (.ops r3_7)
  (.seq (.ops r3_8)
  (.seq (.seq (.ops r3_9)
  (.cond (.t 65) (.seq (.ops r3_10)
  .ret)
  .skip))
  (.seq (.seq (.ops r3_11)
  (.block 0 (.loop (.seq (.ops r3_12)
  (.seq (.cond (.t 70) .skip
  (.exit 0))
  (.seq (.block 1 (.seq (.ops r3_13)
  (.seq (.ops r3_14)
  (.seq (.ops r3_15)
  (.seq (.ops r3_16)
  (.seq (.seq (.ops r3_17)
  (.cond (.t 119) (.seq (.ops r3_18)
  .ret)
  .skip))
  (.seq (.seq (.ops r3_19)
  (.cond (.t 121) (.exit 1)
  .skip))
  (.seq (.ops r3_20)
  (.seq (.ops r3_21)
  (.seq (.ops r3_22)
  (.cond (.t 155) (.seq (.ops r3_23)
  .ret)
  .skip)))))))))))
  (.ops r3_24)))))))
  (.seq (.ops r3_25)
  .ret))))))))))⟩
set_option maxRecDepth 1000000 in
theorem t3 : trF Try.prog 3 = some c3 := by kernel_rfl
/-- regrater/regraterlaw20.speaks (1 l, 2 e, 3 _, 4 f, 5 k, 6 g, 7 v, 8 h) -/
noncomputable def r6_0 : List AO := [⟨some 0, none, .mv (.c (.bl false))⟩]
noncomputable def r6_1 : List AO := [⟨some 9, none, .bld [(.st []), (.st []), (.it .i64 0)] [(0, 1, (.c (.st [116]))), (1, 1, (.c (.st [97]))), (2, 1, (.c (.it .i64 3)))]⟩,
  ⟨some 10, none, .bsl 105 3 1 [(.st []), (.st []), (.it .i64 0)] [(0, 3, (.t 9))]⟩,
  ⟨some 1, none, .mv (.t 10)⟩]
noncomputable def r6_2 : List AO := [⟨some 11, none, .bld [(.it .i64 0), (.it .i64 0), (.it .i64 0), (.it .i64 0), (.st []), (.st []), (.st []), (.sl true 0 [])] [(0, 1, (.c (.it .i64 2))), (6, 1, (.c (.st [97])))]⟩,
  ⟨some 12, none, .call 27 [(.c (.it .i64 1))]⟩,
  ⟨some 13, none, .bld [(.it .i64 0), (.it .i64 0), (.it .i64 0), (.it .i64 0), (.st []), (.st []), (.st []), (.sl true 0 [])] [(0, 1, (.c (.it .i64 1))), (2, 3, (.t 12))]⟩,
  ⟨some 14, none, .bsl 38 8 2 [(.it .i64 0), (.it .i64 0), (.it .i64 0), (.it .i64 0), (.st []), (.st []), (.st []), (.sl true 0 [])] [(0, 8, (.t 11)), (8, 8, (.t 13))]⟩,
  ⟨some 15, none, .bld [(.it .i64 0), (.it .i64 0), (.it .i64 0), (.it .i64 0), (.st []), (.st []), (.st []), (.sl true 0 [])] [(0, 1, (.c (.it .i64 3))), (1, 1, (.c (.it .i64 7))), (7, 1, (.t 14))]⟩,
  ⟨some 2, none, .box 38 8 (.c (.agg [(.it .i64 0), (.it .i64 0), (.it .i64 0), (.it .i64 0), (.st []), (.st []), (.st []), (.sl true 0 [])]))⟩,
  ⟨none, none, .sto 8 (.t 2) (.t 15)⟩]
noncomputable def r6_3 : List AO := [⟨some 17, none, .ld true 8 (.t 2)⟩,
  ⟨some 18, none, .mv (.t 1)⟩,
  ⟨some 19, none, .call 13 [(.t 17), (.t 18), (.c (.bl false))]⟩,
  ⟨some 16, none, .mv (.t 19)⟩,
  ⟨some 20, none, .ext (.t 16) 0⟩,
  ⟨some 21, none, .ext (.t 16) 1⟩,
  ⟨some 3, none, .mv (.t 20)⟩,
  ⟨some 4, none, .mv (.t 21)⟩]
noncomputable def r6_4 : List AO := [⟨some 22, none, .fad 1 (.t 2)⟩,
  ⟨none, none, .sto 1 (.t 22) (.c (.it .i64 12))⟩]
noncomputable def r6_5 : List (AO × List Nat) := [(⟨some 23, none, .fad 7 (.t 2)⟩, []),
  (⟨some 24, none, .ld false 1 (.t 23)⟩, []),
  (⟨some 25, none, .call 28 [(.c (.st [120]))]⟩, [0, 1]),
  (⟨some 26, none, .iad 8 (.t 24) (.c (.it .i64 1))⟩, []),
  (⟨some 27, none, .fad 2 (.t 26)⟩, []),
  (⟨none, none, .sto 3 (.t 27) (.t 25)⟩, [])]
noncomputable def r6_6 : List AO := [⟨some 29, none, .ld true 8 (.t 2)⟩,
  ⟨some 30, none, .mv (.t 1)⟩,
  ⟨some 31, none, .call 13 [(.t 29), (.t 30), (.c (.bl false))]⟩,
  ⟨some 28, none, .mv (.t 31)⟩,
  ⟨some 32, none, .ext (.t 28) 0⟩,
  ⟨some 33, none, .ext (.t 28) 1⟩,
  ⟨some 5, none, .mv (.t 32)⟩,
  ⟨some 6, none, .mv (.t 33)⟩]
noncomputable def r6_7 : List (AO × List Nat) := [(⟨some 35, none, .ld true 8 (.t 2)⟩, []),
  (⟨some 36, none, .mv (.t 1)⟩, []),
  (⟨some 37, none, .call 28 [(.c (.st [121]))]⟩, [0, 1]),
  (⟨some 38, none, .bsl 35 3 1 [(.it .i64 0), (.it .i64 0), (.st [])] [(0, 3, (.t 37))]⟩, [0, 1]),
  (⟨some 39, none, .call 14 [(.t 35), (.t 36), (.t 38)]⟩, []),
  (⟨some 34, none, .mv (.t 39)⟩, []),
  (⟨some 40, none, .ext (.t 34) 0⟩, []),
  (⟨some 41, none, .ext (.t 34) 1⟩, []),
  (⟨some 7, none, .box 35 3 (.c (.agg [(.it .i64 0), (.it .i64 0), (.st [])]))⟩, [0, 1, 2, 3, 4, 5, 6, 7]),
  (⟨none, none, .sto 3 (.t 7) (.t 40)⟩, [7]),
  (⟨some 8, none, .mv (.t 41)⟩, [])]
noncomputable def r6_8 : List (AO × List Nat) := [(⟨some 42, none, .mv (.t 4)⟩, []),
  (⟨some 43, none, .eq false 1 (.t 42) (.c (.it .i64 5))⟩, []),
  (⟨some 44, none, .mv (.t 43)⟩, []),
  (⟨some 45, some (44, true), .mv (.t 5)⟩, []),
  (⟨some 46, some (44, true), .eq false 1 (.t 45) (.c (.it .i64 3))⟩, []),
  (⟨some 47, none, .pick (.t 44) (.t 46) (.c (.bl false))⟩, []),
  (⟨some 48, none, .mv (.t 47)⟩, []),
  (⟨some 49, some (48, true), .mv (.t 6)⟩, []),
  (⟨some 50, some (48, true), .eq false 1 (.t 49) (.c (.it .i64 0))⟩, []),
  (⟨some 51, none, .pick (.t 48) (.t 50) (.c (.bl false))⟩, []),
  (⟨some 52, none, .mv (.t 51)⟩, []),
  (⟨some 53, some (52, true), .mv (.t 8)⟩, []),
  (⟨some 54, some (52, true), .eq false 1 (.t 53) (.c (.it .i64 0))⟩, []),
  (⟨some 55, none, .pick (.t 52) (.t 54) (.c (.bl false))⟩, []),
  (⟨some 56, none, .mv (.t 55)⟩, []),
  (⟨some 57, some (56, true), .ld true 3 (.t 7)⟩, []),
  (⟨some 58, some (56, true), .call 28 [(.c (.st [121, 120]))]⟩, [15]),
  (⟨some 59, some (56, true), .eqs false [1, 1, 2] (.t 57) (.t 58)⟩, []),
  (⟨some 60, none, .pick (.t 56) (.t 59) (.c (.bl false))⟩, []),
  (⟨some 0, none, .mv (.t 60)⟩, [])]
set_option maxRecDepth 1000000 in
noncomputable def c6 : AFn := ⟨61, [(0, none)],
  (.seq (.ops r6_0)
  (.seq (.ops r6_1)
  (.seq (.ops r6_2)
  (.seq (.ops r6_3)
  (.seq (.ops r6_4)
  (.seq (.drw r6_5)
  (.seq (.ops r6_6)
  (.seq (.drw r6_7)
  (.seq (.drw r6_8)
  .ret)))))))))⟩
set_option maxRecDepth 1000000 in
theorem t6 : trF Try.prog 6 = some c6 := by kernel_rfl
/-- regrater/regraterlaw15.Built (0 l, 1 at, 2 depth, 3 l, 4 at, 5 depth, 8 x, 9 e, 10 next, 11 n, 12 i, 13 p) -/
noncomputable def r7_0 : List AO := [⟨some 6, none, .box 29 8 (.c (.agg [(.it .i64 0), (.it .i64 0), (.it .i64 0), (.it .i64 0), (.st []), (.st []), (.st []), (.sl true 0 [])]))⟩,
  ⟨some 7, none, .mv (.c (.it .i64 0))⟩]
noncomputable def r7_1 : List AO := [⟨some 14, none, .mv (.t 1)⟩,
  ⟨some 15, none, .mv (.t 0)⟩,
  ⟨some 16, none, .len (.t 15)⟩,
  ⟨some 17, none, .bin .geq (.t 14) (.t 16)⟩,
  ⟨some 18, none, .mv (.t 17)⟩,
  ⟨some 19, some (18, false), .mv (.t 2)⟩,
  ⟨some 20, some (18, false), .bin .gtr (.t 19) (.c (.it .i64 24))⟩,
  ⟨some 21, none, .pick (.t 18) (.c (.bl true)) (.t 20)⟩]
noncomputable def r7_2 : List AO := [⟨some 22, none, .bld [(.it .i64 0), (.it .i64 0), (.it .i64 0), (.it .i64 0), (.st []), (.st []), (.st []), (.sl true 0 [])] [(0, 1, (.c (.it .i64 1)))]⟩,
  ⟨some 23, none, .mv (.t 1)⟩,
  ⟨some 24, none, .bin .add (.t 23) (.c (.it .i64 1))⟩,
  ⟨none, none, .sto 8 (.t 6) (.t 22)⟩,
  ⟨some 7, none, .mv (.t 24)⟩]
noncomputable def r7_3 : List AO := [⟨some 25, none, .mv (.t 0)⟩,
  ⟨some 26, none, .mv (.t 1)⟩,
  ⟨some 27, none, .iad 7 (.t 25) (.t 26)⟩,
  ⟨some 28, none, .ld true 7 (.t 27)⟩,
  ⟨some 8, none, .box 109 7 (.c (.agg [(.it .u8 0), (.it .u8 0), (.it .u8 0), (.it .u8 0), (.it .i64 0), (.st []), (.st [])]))⟩,
  ⟨none, none, .sto 7 (.t 8) (.t 28)⟩]
noncomputable def r7_4 : List AO := [⟨some 29, none, .fad 0 (.t 8)⟩,
  ⟨some 30, none, .ld false 1 (.t 29)⟩,
  ⟨some 31, none, .bin .rem (.t 30) (.c (.it .u8 10))⟩,
  ⟨some 32, none, .cvi .i64 (.t 31)⟩,
  ⟨some 33, none, .bld [(.it .i64 0), (.it .i64 0), (.it .i64 0), (.it .i64 0), (.st []), (.st []), (.st []), (.sl true 0 [])] [(0, 1, (.t 32))]⟩,
  ⟨some 9, none, .box 29 8 (.c (.agg [(.it .i64 0), (.it .i64 0), (.it .i64 0), (.it .i64 0), (.st []), (.st []), (.st []), (.sl true 0 [])]))⟩,
  ⟨none, none, .sto 8 (.t 9) (.t 33)⟩]
noncomputable def r7_5 : List AO := [⟨some 34, none, .mv (.t 1)⟩,
  ⟨some 35, none, .bin .add (.t 34) (.c (.it .i64 1))⟩,
  ⟨some 10, none, .mv (.t 35)⟩]
noncomputable def r7_6 : List AO := [⟨some 36, none, .fad 0 (.t 8)⟩,
  ⟨some 37, none, .ld false 1 (.t 36)⟩,
  ⟨some 38, none, .bin .rem (.t 37) (.c (.it .u8 10))⟩,
  ⟨some 39, none, .eq false 1 (.t 38) (.c (.it .u8 1))⟩,
  ⟨some 40, none, .mv (.t 39)⟩,
  ⟨some 41, some (40, false), .fad 0 (.t 8)⟩,
  ⟨some 42, some (40, false), .ld false 1 (.t 41)⟩,
  ⟨some 43, some (40, false), .bin .geq (.t 42) (.c (.it .u8 250))⟩,
  ⟨some 44, none, .pick (.t 40) (.c (.bl true)) (.t 43)⟩]
noncomputable def r7_7 : List AO := [⟨some 45, none, .fad 2 (.t 8)⟩,
  ⟨some 46, none, .ld false 1 (.t 45)⟩,
  ⟨some 47, none, .bin .rem (.t 46) (.c (.it .u8 5))⟩,
  ⟨some 48, none, .cvi .i64 (.t 47)⟩,
  ⟨some 49, none, .bld [(.it .i64 0), (.it .i64 0), (.st [])] [(0, 1, (.t 48))]⟩,
  ⟨some 50, none, .fad 2 (.t 9)⟩,
  ⟨none, none, .sto 3 (.t 50) (.t 49)⟩]
noncomputable def r7_8 : List AO := [⟨some 51, none, .fad 2 (.t 9)⟩,
  ⟨some 52, none, .fad 0 (.t 51)⟩,
  ⟨some 53, none, .ld false 1 (.t 52)⟩]
noncomputable def r7_9 : List AO := [⟨some 55, none, .eq false 1 (.t 53) (.c (.it .i64 1))⟩,
  ⟨some 54, none, .mv (.t 55)⟩]
noncomputable def r7_10 : List AO := [⟨some 56, none, .fad 4 (.t 8)⟩,
  ⟨some 57, none, .ld false 1 (.t 56)⟩,
  ⟨some 58, none, .bin .and (.t 57) (.c (.it .i64 1))⟩,
  ⟨some 59, none, .fad 2 (.t 9)⟩,
  ⟨some 60, none, .fad 1 (.t 59)⟩,
  ⟨none, none, .sto 1 (.t 60) (.t 58)⟩]
noncomputable def r7_11 : List AO := [⟨some 62, none, .eq false 1 (.t 53) (.c (.it .i64 2))⟩,
  ⟨some 61, none, .mv (.t 62)⟩]
noncomputable def r7_12 : List AO := [⟨some 63, none, .fad 4 (.t 8)⟩,
  ⟨some 64, none, .ld false 1 (.t 63)⟩,
  ⟨some 65, none, .fad 2 (.t 9)⟩,
  ⟨some 66, none, .fad 1 (.t 65)⟩,
  ⟨none, none, .sto 1 (.t 66) (.t 64)⟩]
noncomputable def r7_13 : List AO := [⟨some 68, none, .eq false 1 (.t 53) (.c (.it .i64 3))⟩,
  ⟨some 67, none, .mv (.t 68)⟩]
noncomputable def r7_14 : List AO := [⟨some 69, none, .fad 5 (.t 8)⟩,
  ⟨some 70, none, .ld false 1 (.t 69)⟩,
  ⟨some 71, none, .fad 5 (.t 8)⟩,
  ⟨some 72, none, .ld false 1 (.t 71)⟩,
  ⟨some 73, none, .lens (.t 72)⟩,
  ⟨some 74, none, .mnx false [(.t 73), (.c (.it .i64 70))]⟩,
  ⟨some 75, none, .sls (.t 70) none (some (.t 74))⟩,
  ⟨some 76, none, .fad 2 (.t 9)⟩,
  ⟨some 77, none, .fad 2 (.t 76)⟩,
  ⟨none, none, .sto 1 (.t 77) (.t 75)⟩]
noncomputable def r7_15 : List AO := [⟨some 78, none, .fad 0 (.t 8)⟩,
  ⟨some 79, none, .ld false 1 (.t 78)⟩,
  ⟨some 80, none, .bin .rem (.t 79) (.c (.it .u8 10))⟩,
  ⟨some 81, none, .eq false 1 (.t 80) (.c (.it .u8 2))⟩,
  ⟨some 82, none, .mv (.t 81)⟩,
  ⟨some 83, some (82, false), .fad 0 (.t 8)⟩,
  ⟨some 84, some (82, false), .ld false 1 (.t 83)⟩,
  ⟨some 85, some (82, false), .bin .geq (.t 84) (.c (.it .u8 250))⟩,
  ⟨some 86, none, .pick (.t 82) (.c (.bl true)) (.t 85)⟩]
noncomputable def r7_16 : List (AO × List Nat) := [(⟨some 87, none, .fad 5 (.t 8)⟩, []),
  (⟨some 88, none, .ld false 1 (.t 87)⟩, []),
  (⟨some 89, none, .fad 5 (.t 8)⟩, []),
  (⟨some 90, none, .ld false 1 (.t 89)⟩, []),
  (⟨some 91, none, .lens (.t 90)⟩, []),
  (⟨some 92, none, .mnx false [(.t 91), (.c (.it .i64 20))]⟩, []),
  (⟨some 93, none, .sls (.t 88) none (some (.t 92))⟩, []),
  (⟨some 94, none, .fad 6 (.t 8)⟩, []),
  (⟨some 95, none, .ld false 1 (.t 94)⟩, []),
  (⟨some 96, none, .fad 6 (.t 8)⟩, []),
  (⟨some 97, none, .ld false 1 (.t 96)⟩, []),
  (⟨some 98, none, .lens (.t 97)⟩, []),
  (⟨some 99, none, .mnx false [(.t 98), (.c (.it .i64 20))]⟩, []),
  (⟨some 100, none, .sls (.t 95) none (some (.t 99))⟩, []),
  (⟨some 101, none, .fad 6 (.t 9)⟩, []),
  (⟨none, none, .sto 1 (.t 101) (.t 93)⟩, [7, 8, 9, 10, 11, 12, 13]),
  (⟨some 102, none, .fad 5 (.t 9)⟩, []),
  (⟨none, none, .sto 1 (.t 102) (.t 100)⟩, [])]
noncomputable def r7_17 : List AO := [⟨some 103, none, .fad 3 (.t 8)⟩,
  ⟨some 104, none, .ld false 1 (.t 103)⟩,
  ⟨some 105, none, .bin .rem (.t 104) (.c (.it .u8 3))⟩,
  ⟨some 106, none, .cvi .i64 (.t 105)⟩,
  ⟨some 11, none, .mv (.t 106)⟩]
noncomputable def r7_18 : List AO := [⟨some 107, none, .fad 0 (.t 8)⟩,
  ⟨some 108, none, .ld false 1 (.t 107)⟩,
  ⟨some 109, none, .bin .rem (.t 108) (.c (.it .u8 10))⟩]
noncomputable def r7_19 : List AO := [⟨some 111, none, .eq false 1 (.t 109) (.c (.it .u8 3))⟩,
  ⟨some 110, none, .mv (.t 111)⟩]
noncomputable def r7_20 : List AO := [⟨some 112, none, .fad 1 (.t 8)⟩,
  ⟨some 113, none, .ld false 1 (.t 112)⟩,
  ⟨some 114, none, .bin .rem (.t 113) (.c (.it .u8 16))⟩,
  ⟨some 115, none, .cvi .i64 (.t 114)⟩,
  ⟨some 116, none, .fad 1 (.t 9)⟩,
  ⟨none, none, .sto 1 (.t 116) (.t 115)⟩,
  ⟨some 11, none, .mv (.c (.it .i64 2))⟩]
noncomputable def r7_21 : List AO := [⟨some 118, none, .eq false 1 (.t 109) (.c (.it .u8 4))⟩,
  ⟨some 117, none, .mv (.t 118)⟩]
noncomputable def r7_22 : List AO := [⟨some 119, none, .eq false 1 (.t 109) (.c (.it .u8 5))⟩,
  ⟨some 117, none, .mv (.t 119)⟩]
noncomputable def r7_23 : List AO := [⟨some 120, none, .eq false 1 (.t 109) (.c (.it .u8 6))⟩,
  ⟨some 117, none, .mv (.t 120)⟩]
noncomputable def r7_24 : List AO := [⟨some 121, none, .eq false 1 (.t 109) (.c (.it .u8 7))⟩,
  ⟨some 117, none, .mv (.t 121)⟩]
noncomputable def r7_25 : List AO := [⟨some 11, none, .mv (.c (.it .i64 1))⟩]
noncomputable def r7_26 : List AO := [⟨some 123, none, .eq false 1 (.t 109) (.c (.it .u8 8))⟩,
  ⟨some 122, none, .mv (.t 123)⟩]
noncomputable def r7_27 : List AO := [⟨some 124, none, .fad 1 (.t 8)⟩,
  ⟨some 125, none, .ld false 1 (.t 124)⟩,
  ⟨some 126, none, .bin .rem (.t 125) (.c (.it .u8 6))⟩,
  ⟨some 127, none, .cvi .i64 (.t 126)⟩,
  ⟨some 128, none, .fad 1 (.t 9)⟩,
  ⟨none, none, .sto 1 (.t 128) (.t 127)⟩]
noncomputable def r7_28 : List AO := [⟨some 129, none, .fad 3 (.t 8)⟩,
  ⟨some 130, none, .ld false 1 (.t 129)⟩,
  ⟨some 131, none, .bin .rem (.t 130) (.c (.it .u8 2))⟩,
  ⟨some 132, none, .cvi .i64 (.t 131)⟩,
  ⟨some 11, none, .mv (.t 132)⟩]
noncomputable def r7_29 : List AO := [⟨some 134, none, .eq false 1 (.t 109) (.c (.it .u8 1))⟩,
  ⟨some 133, none, .mv (.t 134)⟩]
noncomputable def r7_30 : List AO := [⟨some 135, none, .eq false 1 (.t 109) (.c (.it .u8 2))⟩,
  ⟨some 133, none, .mv (.t 135)⟩]
noncomputable def r7_31 : List AO := [⟨some 11, none, .mv (.c (.it .i64 0))⟩]
noncomputable def r7_32 : List AO := [⟨some 136, none, .fad 0 (.t 8)⟩,
  ⟨some 137, none, .ld false 1 (.t 136)⟩,
  ⟨some 138, none, .bin .geq (.t 137) (.c (.it .u8 240))⟩]
noncomputable def r7_33 : List AO := [⟨some 139, none, .fad 3 (.t 8)⟩,
  ⟨some 140, none, .ld false 1 (.t 139)⟩,
  ⟨some 141, none, .bin .rem (.t 140) (.c (.it .u8 4))⟩,
  ⟨some 142, none, .cvi .i64 (.t 141)⟩,
  ⟨some 11, none, .mv (.t 142)⟩]
noncomputable def r7_34 : List AO := [⟨some 12, none, .mv (.c (.it .i64 0))⟩]
noncomputable def r7_35 : List AO := [⟨some 143, none, .mv (.t 12)⟩,
  ⟨some 144, none, .mv (.t 11)⟩,
  ⟨some 145, none, .bin .lss (.t 143) (.t 144)⟩]
noncomputable def r7_36 : List AO := [⟨some 13, none, .box 29 8 (.c (.agg [(.it .i64 0), (.it .i64 0), (.it .i64 0), (.it .i64 0), (.st []), (.st []), (.st []), (.sl true 0 [])]))⟩]
noncomputable def r7_37 : List AO := [⟨some 149, none, .mv (.t 0)⟩,
  ⟨some 150, none, .mv (.t 10)⟩,
  ⟨some 151, none, .mv (.t 2)⟩,
  ⟨some 152, none, .bin .add (.t 151) (.c (.it .i64 1))⟩,
  ⟨some 153, none, .call 7 [(.t 149), (.t 150), (.t 152)]⟩,
  ⟨some 148, none, .mv (.t 153)⟩,
  ⟨some 154, none, .ext (.t 148) 0⟩,
  ⟨some 155, none, .ext (.t 148) 1⟩,
  ⟨none, none, .sto 8 (.t 13) (.t 154)⟩,
  ⟨some 10, none, .mv (.t 155)⟩]
noncomputable def r7_38 : List AO := [⟨some 156, none, .fad 7 (.t 9)⟩,
  ⟨some 157, none, .ld false 1 (.t 156)⟩,
  ⟨some 158, none, .ld true 8 (.t 13)⟩,
  ⟨some 159, none, .bsl 29 8 1 [(.it .i64 0), (.it .i64 0), (.it .i64 0), (.it .i64 0), (.st []), (.st []), (.st []), (.sl true 0 [])] [(0, 8, (.t 158))]⟩,
  ⟨some 160, none, .app 29 8 104 (.t 157) (.t 159)⟩,
  ⟨some 161, none, .fad 7 (.t 9)⟩,
  ⟨none, none, .sto 1 (.t 161) (.t 160)⟩]
noncomputable def r7_39 : List AO := [⟨some 146, none, .mv (.t 12)⟩,
  ⟨some 147, none, .bin .add (.t 146) (.c (.it .i64 1))⟩,
  ⟨some 12, none, .mv (.t 147)⟩]
noncomputable def r7_40 : List AO := [⟨some 162, none, .ld true 8 (.t 9)⟩,
  ⟨some 163, none, .mv (.t 10)⟩,
  ⟨none, none, .sto 8 (.t 6) (.t 162)⟩,
  ⟨some 7, none, .mv (.t 163)⟩]
set_option maxRecDepth 1000000 in
noncomputable def c7 : AFn := ⟨164, [(6, some 8), (7, none)],
  (.seq (.ops r7_0)
  (.seq (.seq (.ops r7_1)
  (.cond (.t 21) (.seq (.ops r7_2)
  .ret)
  .skip))
  (.seq (.ops r7_3)
  (.seq (.ops r7_4)
  (.seq (.ops r7_5)
  (.seq (.seq (.ops r7_6)
  (.cond (.t 44) (.seq (.ops r7_7)
  (.seq (.ops r7_8)
  (.block 0 (.seq (.ops r7_9)
  (.cond (.t 54) (.ops r7_10)
  (.seq (.ops r7_11)
  (.cond (.t 61) (.ops r7_12)
  (.seq (.ops r7_13)
  (.cond (.t 67) (.ops r7_14)
  .skip)))))))))
  .skip))
  (.seq (.seq (.ops r7_15)
  (.cond (.t 86) (.drw r7_16)
  .skip))
  (.seq (.ops r7_17)
  (.seq (.seq (.ops r7_18)
  (.block 1 (.seq (.ops r7_19)
  (.cond (.t 110) (.ops r7_20)
  (.seq (.seq (.ops r7_21)
  (.cond (.t 117) .skip
  (.seq (.ops r7_22)
  (.cond (.t 117) .skip
  (.seq (.ops r7_23)
  (.cond (.t 117) .skip
  (.ops r7_24)))))))
  (.cond (.t 117) (.ops r7_25)
  (.seq (.ops r7_26)
  (.cond (.t 122) (.seq (.ops r7_27)
  (.ops r7_28))
  (.seq (.seq (.ops r7_29)
  (.cond (.t 133) .skip
  (.ops r7_30)))
  (.cond (.t 133) (.ops r7_31)
  .skip))))))))))
  (.seq (.seq (.ops r7_32)
  (.cond (.t 138) (.ops r7_33)
  .skip))
  (.seq (.seq (.ops r7_34)
  (.block 2 (.loop (.seq (.seq (.ops r7_35)
  (.cond (.t 145) .skip
  (.exit 2)))
  (.seq (.block 3 (.seq (.ops r7_36)
  (.seq (.ops r7_37)
  (.ops r7_38))))
  (.ops r7_39))))))
  (.seq (.ops r7_40)
  .ret))))))))))))⟩
set_option maxRecDepth 1000000 in
theorem t7 : trF Try.prog 7 = some c7 := by kernel_rfl
/-- regrater/regraterref15.Good (0 e, 1 e) -/
noncomputable def r8_0 : List AO := [⟨some 1, none, .box 29 8 (.t 0)⟩,
  ⟨some 2, none, .mv (.c (.bl false))⟩]
noncomputable def r8_1 : List AO := [⟨some 3, none, .ld true 8 (.t 1)⟩,
  ⟨some 4, none, .call 9 [(.t 3)]⟩,
  ⟨some 5, none, .bin .leq (.t 4) (.c (.it .i64 20))⟩,
  ⟨some 6, none, .mv (.t 5)⟩,
  ⟨some 7, some (6, true), .ld true 8 (.t 1)⟩,
  ⟨some 8, some (6, true), .call 29 [(.t 7), (.c (.bl false))]⟩,
  ⟨some 9, none, .pick (.t 6) (.t 8) (.c (.bl false))⟩,
  ⟨some 2, none, .mv (.t 9)⟩]
set_option maxRecDepth 1000000 in
noncomputable def c8 : AFn := ⟨10, [(2, none)],
  (.seq (.ops r8_0)
  (.seq (.ops r8_1)
  .ret))⟩
set_option maxRecDepth 1000000 in
theorem t8 : trF Try.prog 8 = some c8 := by kernel_rfl
/-- regrater/regraterref15.Depth (0 e, 1 e, 3 d, 4 i, 5 n) -/
noncomputable def r9_0 : List AO := [⟨some 1, none, .box 29 8 (.t 0)⟩,
  ⟨some 2, none, .mv (.c (.it .i64 0))⟩]
noncomputable def r9_1 : List AO := [⟨some 3, none, .mv (.c (.it .i64 1))⟩]
noncomputable def r9_2 : List AO := [⟨some 4, none, .mv (.c (.it .i64 0))⟩]
noncomputable def r9_3 : List AO := [⟨some 6, none, .mv (.t 4)⟩,
  ⟨some 7, none, .fad 7 (.t 1)⟩,
  ⟨some 8, none, .ld false 1 (.t 7)⟩,
  ⟨some 9, none, .len (.t 8)⟩,
  ⟨some 10, none, .bin .lss (.t 6) (.t 9)⟩]
noncomputable def r9_4 : List AO := [⟨some 13, none, .fad 7 (.t 1)⟩,
  ⟨some 14, none, .ld false 1 (.t 13)⟩,
  ⟨some 15, none, .mv (.t 4)⟩,
  ⟨some 16, none, .iad 8 (.t 14) (.t 15)⟩,
  ⟨some 17, none, .ld true 8 (.t 16)⟩,
  ⟨some 18, none, .call 9 [(.t 17)]⟩,
  ⟨some 5, none, .mv (.t 18)⟩]
noncomputable def r9_5 : List AO := [⟨some 19, none, .mv (.t 5)⟩,
  ⟨some 20, none, .mv (.t 3)⟩,
  ⟨some 21, none, .bin .geq (.t 19) (.t 20)⟩]
noncomputable def r9_6 : List AO := [⟨some 22, none, .mv (.t 5)⟩,
  ⟨some 23, none, .bin .add (.t 22) (.c (.it .i64 1))⟩,
  ⟨some 3, none, .mv (.t 23)⟩]
noncomputable def r9_7 : List AO := [⟨some 11, none, .mv (.t 4)⟩,
  ⟨some 12, none, .bin .add (.t 11) (.c (.it .i64 1))⟩,
  ⟨some 4, none, .mv (.t 12)⟩]
noncomputable def r9_8 : List AO := [⟨some 24, none, .mv (.t 3)⟩,
  ⟨some 2, none, .mv (.t 24)⟩]
set_option maxRecDepth 1000000 in
noncomputable def c9 : AFn := ⟨25, [(2, none)],
  (.seq (.ops r9_0)
  (.seq (.ops r9_1)
  (.seq (.seq (.ops r9_2)
  (.block 0 (.loop (.seq (.seq (.ops r9_3)
  (.cond (.t 10) .skip
  (.exit 0)))
  (.seq (.block 1 (.seq (.ops r9_4)
  (.seq (.ops r9_5)
  (.cond (.t 21) (.ops r9_6)
  .skip))))
  (.ops r9_7))))))
  (.seq (.ops r9_8)
  .ret))))⟩
set_option maxRecDepth 1000000 in
theorem t9 : trF Try.prog 9 = some c9 := by kernel_rfl
/-- regrater/regraterref20.Aggregates (0 e, 1 e, 3 out, 4 i) -/
noncomputable def r10_0 : List AO := [⟨some 1, none, .box 29 8 (.t 0)⟩,
  ⟨some 2, none, .mv (.c (.sl true 0 []))⟩]
noncomputable def r10_1 : List AO := [⟨some 3, none, .mv (.c (.sl true 0 []))⟩]
noncomputable def r10_2 : List AO := [⟨some 5, none, .fad 0 (.t 1)⟩,
  ⟨some 6, none, .ld false 1 (.t 5)⟩,
  ⟨some 7, none, .eq false 1 (.t 6) (.c (.it .i64 8))⟩]
noncomputable def r10_3 : List AO := [⟨some 8, none, .mv (.t 3)⟩,
  ⟨some 9, none, .ld true 8 (.t 1)⟩,
  ⟨some 10, none, .bsl 29 8 1 [(.it .i64 0), (.it .i64 0), (.it .i64 0), (.it .i64 0), (.st []), (.st []), (.st []), (.sl true 0 [])] [(0, 8, (.t 9))]⟩,
  ⟨some 11, none, .app 29 8 104 (.t 8) (.t 10)⟩,
  ⟨some 3, none, .mv (.t 11)⟩]
noncomputable def r10_4 : List AO := [⟨some 4, none, .mv (.c (.it .i64 0))⟩]
noncomputable def r10_5 : List AO := [⟨some 12, none, .mv (.t 4)⟩,
  ⟨some 13, none, .fad 7 (.t 1)⟩,
  ⟨some 14, none, .ld false 1 (.t 13)⟩,
  ⟨some 15, none, .len (.t 14)⟩,
  ⟨some 16, none, .bin .lss (.t 12) (.t 15)⟩]
noncomputable def r10_6 : List AO := [⟨some 19, none, .mv (.t 3)⟩,
  ⟨some 20, none, .fad 7 (.t 1)⟩,
  ⟨some 21, none, .ld false 1 (.t 20)⟩,
  ⟨some 22, none, .mv (.t 4)⟩,
  ⟨some 23, none, .iad 8 (.t 21) (.t 22)⟩,
  ⟨some 24, none, .ld true 8 (.t 23)⟩,
  ⟨some 25, none, .call 10 [(.t 24)]⟩,
  ⟨some 26, none, .app 29 8 104 (.t 19) (.t 25)⟩,
  ⟨some 3, none, .mv (.t 26)⟩]
noncomputable def r10_7 : List AO := [⟨some 17, none, .mv (.t 4)⟩,
  ⟨some 18, none, .bin .add (.t 17) (.c (.it .i64 1))⟩,
  ⟨some 4, none, .mv (.t 18)⟩]
noncomputable def r10_8 : List AO := [⟨some 27, none, .mv (.t 3)⟩,
  ⟨some 2, none, .mv (.t 27)⟩]
set_option maxRecDepth 1000000 in
noncomputable def c10 : AFn := ⟨28, [(2, none)],
  (.seq (.ops r10_0)
  (.seq (.ops r10_1)
  (.seq (.seq (.ops r10_2)
  (.cond (.t 7) (.ops r10_3)
  .skip))
  (.seq (.seq (.ops r10_4)
  (.block 0 (.loop (.seq (.seq (.ops r10_5)
  (.cond (.t 16) .skip
  (.exit 0)))
  (.seq (.block 1 (.ops r10_6))
  (.ops r10_7))))))
  (.seq (.ops r10_8)
  .ret)))))⟩
set_option maxRecDepth 1000000 in
theorem t10 : trF Try.prog 10 = some c10 := by kernel_rfl
/-- regrater/regraterlaw17.Told (0 m, 1 m, 3 e, 4 i) -/
noncomputable def r11_0 : List AO := [⟨some 1, none, .box 29 8 (.t 0)⟩,
  ⟨some 2, none, .box 38 8 (.c (.agg [(.it .i64 0), (.it .i64 0), (.it .i64 0), (.it .i64 0), (.st []), (.st []), (.st []), (.sl true 0 [])]))⟩]
noncomputable def r11_1 : List AO := [⟨some 5, none, .fad 0 (.t 1)⟩,
  ⟨some 6, none, .ld false 1 (.t 5)⟩,
  ⟨some 7, none, .fad 1 (.t 1)⟩,
  ⟨some 8, none, .ld false 1 (.t 7)⟩,
  ⟨some 9, none, .fad 2 (.t 1)⟩,
  ⟨some 10, none, .ld true 3 (.t 9)⟩,
  ⟨some 11, none, .fad 5 (.t 1)⟩,
  ⟨some 12, none, .ld false 1 (.t 11)⟩,
  ⟨some 13, none, .fad 6 (.t 1)⟩,
  ⟨some 14, none, .ld false 1 (.t 13)⟩,
  ⟨some 15, none, .bld [(.it .i64 0), (.it .i64 0), (.it .i64 0), (.it .i64 0), (.st []), (.st []), (.st []), (.sl true 0 [])] [(0, 1, (.t 6)), (1, 1, (.t 8)), (2, 3, (.t 10)), (5, 1, (.t 12)), (6, 1, (.t 14))]⟩,
  ⟨some 3, none, .box 38 8 (.c (.agg [(.it .i64 0), (.it .i64 0), (.it .i64 0), (.it .i64 0), (.st []), (.st []), (.st []), (.sl true 0 [])]))⟩,
  ⟨none, none, .sto 8 (.t 3) (.t 15)⟩]
noncomputable def r11_2 : List AO := [⟨some 4, none, .mv (.c (.it .i64 0))⟩]
noncomputable def r11_3 : List AO := [⟨some 16, none, .mv (.t 4)⟩,
  ⟨some 17, none, .fad 7 (.t 1)⟩,
  ⟨some 18, none, .ld false 1 (.t 17)⟩,
  ⟨some 19, none, .len (.t 18)⟩,
  ⟨some 20, none, .bin .lss (.t 16) (.t 19)⟩]
noncomputable def r11_4 : List (AO × List Nat) := [(⟨some 23, none, .fad 7 (.t 3)⟩, []),
  (⟨some 24, none, .ld false 1 (.t 23)⟩, []),
  (⟨some 25, none, .fad 7 (.t 1)⟩, []),
  (⟨some 26, none, .ld false 1 (.t 25)⟩, []),
  (⟨some 27, none, .mv (.t 4)⟩, []),
  (⟨some 28, none, .iad 8 (.t 26) (.t 27)⟩, []),
  (⟨some 29, none, .ld true 8 (.t 28)⟩, []),
  (⟨some 30, none, .call 11 [(.t 29)]⟩, [0, 1]),
  (⟨some 31, none, .bsl 38 8 1 [(.it .i64 0), (.it .i64 0), (.it .i64 0), (.it .i64 0), (.st []), (.st []), (.st []), (.sl true 0 [])] [(0, 8, (.t 30))]⟩, [0, 1]),
  (⟨some 32, none, .app 38 8 104 (.t 24) (.t 31)⟩, []),
  (⟨some 33, none, .fad 7 (.t 3)⟩, []),
  (⟨none, none, .sto 1 (.t 33) (.t 32)⟩, [])]
noncomputable def r11_5 : List AO := [⟨some 21, none, .mv (.t 4)⟩,
  ⟨some 22, none, .bin .add (.t 21) (.c (.it .i64 1))⟩,
  ⟨some 4, none, .mv (.t 22)⟩]
noncomputable def r11_6 : List AO := [⟨some 34, none, .ld true 8 (.t 3)⟩,
  ⟨none, none, .sto 8 (.t 2) (.t 34)⟩]
set_option maxRecDepth 1000000 in
noncomputable def c11 : AFn := ⟨35, [(2, some 8)],
  (.seq (.ops r11_0)
  (.seq (.ops r11_1)
  (.seq (.seq (.ops r11_2)
  (.block 0 (.loop (.seq (.seq (.ops r11_3)
  (.cond (.t 20) .skip
  (.exit 0)))
  (.seq (.block 1 (.drw r11_4))
  (.ops r11_5))))))
  (.seq (.ops r11_6)
  .ret))))⟩
set_option maxRecDepth 1000000 in
theorem t11 : trF Try.prog 11 = some c11 := by kernel_rfl
/-- regrater/regraterlaw20.row (0 l, 1 l, 6 a, 7 b, 8 c, 9 d, 10 i, 11 x, 12 f, 13 v) -/
noncomputable def r12_0 : List AO := [⟨some 2, none, .mv (.c (.sl true 0 []))⟩,
  ⟨some 3, none, .mv (.c (.sl true 0 []))⟩,
  ⟨some 4, none, .mv (.c (.sl true 0 []))⟩,
  ⟨some 5, none, .mv (.c (.sl true 0 []))⟩]
noncomputable def r12_1 : List AO := [⟨some 6, none, .mv (.c (.sl true 0 []))⟩]
noncomputable def r12_2 : List AO := [⟨some 7, none, .mv (.c (.sl true 0 []))⟩]
noncomputable def r12_3 : List AO := [⟨some 8, none, .mv (.c (.sl true 0 []))⟩]
noncomputable def r12_4 : List AO := [⟨some 9, none, .mv (.c (.sl true 0 []))⟩]
noncomputable def r12_5 : List AO := [⟨some 10, none, .mv (.c (.it .i64 0))⟩]
noncomputable def r12_6 : List AO := [⟨some 14, none, .mv (.t 10)⟩,
  ⟨some 15, none, .mv (.t 0)⟩,
  ⟨some 16, none, .len (.t 15)⟩,
  ⟨some 17, none, .bin .lss (.t 14) (.t 16)⟩,
  ⟨some 18, none, .mv (.t 17)⟩,
  ⟨some 19, some (18, true), .mv (.t 10)⟩,
  ⟨some 20, some (18, true), .bin .lss (.t 19) (.c (.it .i64 6))⟩,
  ⟨some 21, none, .pick (.t 18) (.t 20) (.c (.bl false))⟩]
noncomputable def r12_7 : List AO := [⟨some 24, none, .mv (.t 0)⟩,
  ⟨some 25, none, .mv (.t 10)⟩,
  ⟨some 26, none, .iad 6 (.t 24) (.t 25)⟩,
  ⟨some 27, none, .ld true 6 (.t 26)⟩,
  ⟨some 11, none, .box 112 6 (.c (.agg [(.it .u8 0), (.it .u8 0), (.it .u8 0), (.bl false), (.it .i64 0), (.st [])]))⟩,
  ⟨none, none, .sto 6 (.t 11) (.t 27)⟩]
noncomputable def r12_8 : List (AO × List Nat) := [(⟨some 28, none, .bld [(.st []), (.st [])] [(0, 1, (.c (.st [116]))), (1, 1, (.c (.st [117])))]⟩, []),
  (⟨some 29, none, .fad 0 (.t 11)⟩, []),
  (⟨some 30, none, .ld false 1 (.t 29)⟩, []),
  (⟨some 31, none, .bin .rem (.t 30) (.c (.it .u8 2))⟩, []),
  (⟨some 32, none, .idxa false 2 1 (.t 28) (.t 31)⟩, []),
  (⟨some 33, none, .bld [(.st []), (.st []), (.st []), (.st [])] [(0, 1, (.c (.st [97]))), (1, 1, (.c (.st [98]))), (2, 1, (.c (.st [99, 49]))), (3, 1, (.c (.st [110])))]⟩, []),
  (⟨some 34, none, .fad 1 (.t 11)⟩, []),
  (⟨some 35, none, .ld false 1 (.t 34)⟩, []),
  (⟨some 36, none, .bin .rem (.t 35) (.c (.it .u8 4))⟩, []),
  (⟨some 37, none, .idxa false 4 1 (.t 33) (.t 36)⟩, []),
  (⟨some 38, none, .fad 2 (.t 11)⟩, []),
  (⟨some 39, none, .ld false 1 (.t 38)⟩, []),
  (⟨some 40, none, .bin .rem (.t 39) (.c (.it .u8 3))⟩, []),
  (⟨some 41, none, .cvi .i64 (.t 40)⟩, []),
  (⟨some 42, none, .bin .add (.c (.it .i64 1)) (.t 41)⟩, []),
  (⟨some 43, none, .bld [(.st []), (.st []), (.it .i64 0)] [(0, 1, (.t 32)), (1, 1, (.t 37)), (2, 1, (.t 42))]⟩, []),
  (⟨some 12, none, .box 115 3 (.c (.agg [(.st []), (.st []), (.it .i64 0)]))⟩, [0, 1, 2, 3, 4, 5, 6, 7, 8, 9, 10, 11, 12, 13, 14, 15]),
  (⟨none, none, .sto 3 (.t 12) (.t 43)⟩, [])]
noncomputable def r12_9 : List AO := [⟨some 44, none, .fad 2 (.t 12)⟩,
  ⟨some 45, none, .ld false 1 (.t 44)⟩,
  ⟨some 46, none, .bld [(.it .i64 0), (.it .i64 0), (.st [])] [(0, 1, (.t 45))]⟩,
  ⟨some 13, none, .box 26 3 (.c (.agg [(.it .i64 0), (.it .i64 0), (.st [])]))⟩,
  ⟨none, none, .sto 3 (.t 13) (.t 46)⟩]
noncomputable def r12_10 : List AO := [⟨some 47, none, .fad 2 (.t 12)⟩,
  ⟨some 48, none, .ld false 1 (.t 47)⟩]
noncomputable def r12_11 : List AO := [⟨some 50, none, .eq false 1 (.t 48) (.c (.it .i64 1))⟩,
  ⟨some 49, none, .mv (.t 50)⟩]
noncomputable def r12_12 : List AO := [⟨some 51, none, .fad 4 (.t 11)⟩,
  ⟨some 52, none, .ld false 1 (.t 51)⟩,
  ⟨some 53, none, .bin .and (.t 52) (.c (.it .i64 1))⟩,
  ⟨some 54, none, .fad 1 (.t 13)⟩,
  ⟨none, none, .sto 1 (.t 54) (.t 53)⟩]
noncomputable def r12_13 : List AO := [⟨some 56, none, .eq false 1 (.t 48) (.c (.it .i64 2))⟩,
  ⟨some 55, none, .mv (.t 56)⟩]
noncomputable def r12_14 : List AO := [⟨some 57, none, .fad 4 (.t 11)⟩,
  ⟨some 58, none, .ld false 1 (.t 57)⟩,
  ⟨some 59, none, .fad 1 (.t 13)⟩,
  ⟨none, none, .sto 1 (.t 59) (.t 58)⟩]
noncomputable def r12_15 : List AO := [⟨some 61, none, .eq false 1 (.t 48) (.c (.it .i64 3))⟩,
  ⟨some 60, none, .mv (.t 61)⟩]
noncomputable def r12_16 : List AO := [⟨some 62, none, .fad 5 (.t 11)⟩,
  ⟨some 63, none, .ld false 1 (.t 62)⟩,
  ⟨some 64, none, .fad 5 (.t 11)⟩,
  ⟨some 65, none, .ld false 1 (.t 64)⟩,
  ⟨some 66, none, .lens (.t 65)⟩,
  ⟨some 67, none, .mnx false [(.t 66), (.c (.it .i64 64))]⟩,
  ⟨some 68, none, .sls (.t 63) none (some (.t 67))⟩,
  ⟨some 69, none, .fad 2 (.t 13)⟩,
  ⟨none, none, .sto 1 (.t 69) (.t 68)⟩]
noncomputable def r12_17 : List AO := [⟨some 70, none, .fad 3 (.t 11)⟩,
  ⟨some 71, none, .ld false 1 (.t 70)⟩]
noncomputable def r12_18 : List AO := [⟨some 72, none, .bld [(.it .i64 0), (.it .i64 0), (.st [])] []⟩,
  ⟨none, none, .sto 3 (.t 13) (.t 72)⟩]
noncomputable def r12_19 : List (AO × List Nat) := [(⟨some 73, none, .mv (.t 6)⟩, []),
  (⟨some 74, none, .ld true 3 (.t 12)⟩, []),
  (⟨some 75, none, .bsl 105 3 1 [(.st []), (.st []), (.it .i64 0)] [(0, 3, (.t 74))]⟩, [0]),
  (⟨some 76, none, .app 105 3 40 (.t 73) (.t 75)⟩, []),
  (⟨some 77, none, .mv (.t 7)⟩, [2, 3]),
  (⟨some 78, none, .ld true 3 (.t 12)⟩, [2, 3]),
  (⟨some 79, none, .bsl 115 3 1 [(.st []), (.st []), (.it .i64 0)] [(0, 3, (.t 78))]⟩, [0, 1, 2, 3, 4]),
  (⟨some 80, none, .app 115 3 40 (.t 77) (.t 79)⟩, []),
  (⟨some 81, none, .mv (.t 8)⟩, [2, 3, 6, 7]),
  (⟨some 82, none, .ld true 3 (.t 13)⟩, [2, 3, 6, 7]),
  (⟨some 83, none, .bsl 35 3 1 [(.it .i64 0), (.it .i64 0), (.st [])] [(0, 3, (.t 82))]⟩, [0, 1, 2, 3, 4, 5, 6, 7, 8]),
  (⟨some 84, none, .app 35 3 32 (.t 81) (.t 83)⟩, []),
  (⟨some 85, none, .mv (.t 9)⟩, [2, 3, 6, 7, 10, 11]),
  (⟨some 86, none, .ld true 3 (.t 13)⟩, [2, 3, 6, 7, 10, 11]),
  (⟨some 87, none, .bsl 26 3 1 [(.it .i64 0), (.it .i64 0), (.st [])] [(0, 3, (.t 86))]⟩, [0, 1, 2, 3, 4, 5, 6, 7, 8, 9, 10, 11, 12]),
  (⟨some 88, none, .app 26 3 32 (.t 85) (.t 87)⟩, []),
  (⟨some 6, none, .mv (.t 76)⟩, []),
  (⟨some 7, none, .mv (.t 80)⟩, []),
  (⟨some 8, none, .mv (.t 84)⟩, []),
  (⟨some 9, none, .mv (.t 88)⟩, [])]
noncomputable def r12_20 : List AO := [⟨some 22, none, .mv (.t 10)⟩,
  ⟨some 23, none, .bin .add (.t 22) (.c (.it .i64 1))⟩,
  ⟨some 10, none, .mv (.t 23)⟩]
noncomputable def r12_21 : List AO := [⟨some 89, none, .mv (.t 6)⟩,
  ⟨some 90, none, .mv (.t 7)⟩,
  ⟨some 91, none, .mv (.t 8)⟩,
  ⟨some 92, none, .mv (.t 9)⟩,
  ⟨some 2, none, .mv (.t 89)⟩,
  ⟨some 3, none, .mv (.t 90)⟩,
  ⟨some 4, none, .mv (.t 91)⟩,
  ⟨some 5, none, .mv (.t 92)⟩]
set_option maxRecDepth 1000000 in
noncomputable def c12 : AFn := ⟨93, [(2, none), (3, none), (4, none), (5, none)],
  (.seq (.ops r12_0)
  (.seq (.ops r12_1)
  (.seq (.ops r12_2)
  (.seq (.ops r12_3)
  (.seq (.ops r12_4)
  (.seq (.seq (.ops r12_5)
  (.block 0 (.loop (.seq (.seq (.ops r12_6)
  (.cond (.t 21) .skip
  (.exit 0)))
  (.seq (.block 1 (.seq (.ops r12_7)
  (.seq (.drw r12_8)
  (.seq (.ops r12_9)
  (.seq (.seq (.ops r12_10)
  (.block 2 (.seq (.ops r12_11)
  (.cond (.t 49) (.ops r12_12)
  (.seq (.ops r12_13)
  (.cond (.t 55) (.ops r12_14)
  (.seq (.ops r12_15)
  (.cond (.t 60) (.ops r12_16)
  .skip))))))))
  (.seq (.seq (.ops r12_17)
  (.cond (.t 71) (.ops r12_18)
  .skip))
  (.drw r12_19)))))))
  (.ops r12_20))))))
  (.seq (.ops r12_21)
  .ret)))))))⟩
set_option maxRecDepth 1000000 in
theorem t12 : trF Try.prog 12 = some c12 := by kernel_rfl
/-- regrater/check.Type (0 e, 1 l, 2 aggregates, 3 e, 4 l, 5 aggregates, 8 parts, 9 _, 10 x, 11 k, 12 err) -/
noncomputable def r13_0 : List AO := [⟨some 3, none, .box 38 8 (.t 0)⟩,
  ⟨some 6, none, .mv (.c (.it .i64 0))⟩,
  ⟨some 7, none, .mv (.c (.it .i64 0))⟩]
noncomputable def r13_1 : List AO := [⟨some 13, none, .fad 0 (.t 3)⟩,
  ⟨some 14, none, .ld false 1 (.t 13)⟩,
  ⟨some 15, none, .eq false 1 (.t 14) (.c (.it .i64 8))⟩,
  ⟨some 16, none, .mv (.t 15)⟩,
  ⟨some 17, some (16, true), .mv (.t 2)⟩,
  ⟨some 18, some (16, true), .un .not (.t 17)⟩,
  ⟨some 19, none, .pick (.t 16) (.t 18) (.c (.bl false))⟩]
noncomputable def r13_2 : List AO := [⟨some 6, none, .mv (.c (.it .i64 0))⟩,
  ⟨some 7, none, .mv (.c (.it .i64 4))⟩]
noncomputable def r13_3 : List AO := [⟨some 8, none, .mv (.c (.sl true 0 []))⟩]
noncomputable def r13_4 : List AO := [⟨some 20, none, .fad 7 (.t 3)⟩,
  ⟨some 21, none, .ld false 1 (.t 20)⟩,
  ⟨some 22, none, .len (.t 21)⟩,
  ⟨some 23, none, .mv (.c (.it .i64 0))⟩]
noncomputable def r13_5 : List AO := [⟨some 24, none, .bin .lss (.t 23) (.t 22)⟩]
noncomputable def r13_6 : List AO := [⟨some 25, none, .iad 8 (.t 21) (.t 23)⟩,
  ⟨some 26, none, .ld true 8 (.t 25)⟩,
  ⟨some 10, none, .box 38 8 (.c (.agg [(.it .i64 0), (.it .i64 0), (.it .i64 0), (.it .i64 0), (.st []), (.st []), (.st []), (.sl true 0 [])]))⟩,
  ⟨none, none, .sto 8 (.t 10) (.t 26)⟩]
noncomputable def r13_7 : List AO := [⟨some 28, none, .ld true 8 (.t 10)⟩,
  ⟨some 29, none, .mv (.t 1)⟩,
  ⟨some 30, none, .mv (.t 2)⟩,
  ⟨some 31, none, .call 13 [(.t 28), (.t 29), (.t 30)]⟩,
  ⟨some 27, none, .mv (.t 31)⟩,
  ⟨some 32, none, .ext (.t 27) 0⟩,
  ⟨some 33, none, .ext (.t 27) 1⟩,
  ⟨some 11, none, .mv (.t 32)⟩,
  ⟨some 12, none, .mv (.t 33)⟩]
noncomputable def r13_8 : List AO := [⟨some 34, none, .mv (.t 12)⟩,
  ⟨some 35, none, .eq true 1 (.t 34) (.c (.it .i64 0))⟩]
noncomputable def r13_9 : List AO := [⟨some 36, none, .mv (.t 12)⟩,
  ⟨some 6, none, .mv (.c (.it .i64 0))⟩,
  ⟨some 7, none, .mv (.t 36)⟩]
noncomputable def r13_10 : List AO := [⟨some 37, none, .mv (.t 8)⟩,
  ⟨some 38, none, .mv (.t 11)⟩,
  ⟨some 39, none, .bsl 3 1 1 [(.it .i64 0)] [(0, 1, (.t 38))]⟩,
  ⟨some 40, none, .app 3 1 8 (.t 37) (.t 39)⟩,
  ⟨some 8, none, .mv (.t 40)⟩]
noncomputable def r13_11 : List AO := [⟨some 41, none, .bin .add (.t 23) (.c (.it .i64 1))⟩,
  ⟨some 23, none, .mv (.t 41)⟩]
noncomputable def r13_12 : List AO := [⟨some 42, none, .ld true 8 (.t 3)⟩,
  ⟨some 43, none, .mv (.t 1)⟩,
  ⟨some 44, none, .mv (.t 8)⟩,
  ⟨some 45, none, .call 30 [(.t 42), (.t 43), (.t 44)]⟩,
  ⟨some 46, none, .ext (.t 45) 0⟩,
  ⟨some 47, none, .ext (.t 45) 1⟩,
  ⟨some 6, none, .mv (.t 46)⟩,
  ⟨some 7, none, .mv (.t 47)⟩]
set_option maxRecDepth 1000000 in
noncomputable def c13 : AFn := ⟨48, [(6, none), (7, none)],
  (.seq (.ops r13_0)
  (.seq (.seq (.ops r13_1)
  (.cond (.t 19) (.seq (.ops r13_2)
  .ret)
  .skip))
  (.seq (.ops r13_3)
  (.seq (.seq (.ops r13_4)
  (.block 0 (.loop (.seq (.ops r13_5)
  (.seq (.cond (.t 24) .skip
  (.exit 0))
  (.seq (.block 1 (.seq (.ops r13_6)
  (.seq (.ops r13_7)
  (.seq (.seq (.ops r13_8)
  (.cond (.t 35) (.seq (.ops r13_9)
  .ret)
  .skip))
  (.ops r13_10)))))
  (.ops r13_11)))))))
  (.seq (.ops r13_12)
  .ret)))))⟩
set_option maxRecDepth 1000000 in
theorem t13 : trF Try.prog 13 = some c13 := by kernel_rfl
/-- regrater/check.Eval (0 e, 1 l, 2 row, 3 e, 4 l, 5 row, 8 parts, 9 _, 10 x, 11 v, 12 err, 13 i, 14 err, 15 null) -/
noncomputable def r14_0 : List AO := [⟨some 3, none, .box 38 8 (.t 0)⟩,
  ⟨some 6, none, .box 35 3 (.c (.agg [(.it .i64 0), (.it .i64 0), (.st [])]))⟩,
  ⟨some 7, none, .mv (.c (.it .i64 0))⟩]
noncomputable def r14_1 : List AO := [⟨some 8, none, .mv (.c (.sl true 0 []))⟩]
noncomputable def r14_2 : List AO := [⟨some 16, none, .fad 7 (.t 3)⟩,
  ⟨some 17, none, .ld false 1 (.t 16)⟩,
  ⟨some 18, none, .len (.t 17)⟩,
  ⟨some 19, none, .mv (.c (.it .i64 0))⟩]
noncomputable def r14_3 : List AO := [⟨some 20, none, .bin .lss (.t 19) (.t 18)⟩]
noncomputable def r14_4 : List AO := [⟨some 21, none, .iad 8 (.t 17) (.t 19)⟩,
  ⟨some 22, none, .ld true 8 (.t 21)⟩,
  ⟨some 10, none, .box 38 8 (.c (.agg [(.it .i64 0), (.it .i64 0), (.it .i64 0), (.it .i64 0), (.st []), (.st []), (.st []), (.sl true 0 [])]))⟩,
  ⟨none, none, .sto 8 (.t 10) (.t 22)⟩]
noncomputable def r14_5 : List AO := [⟨some 24, none, .ld true 8 (.t 10)⟩,
  ⟨some 25, none, .mv (.t 1)⟩,
  ⟨some 26, none, .mv (.t 2)⟩,
  ⟨some 27, none, .call 14 [(.t 24), (.t 25), (.t 26)]⟩,
  ⟨some 23, none, .mv (.t 27)⟩,
  ⟨some 28, none, .ext (.t 23) 0⟩,
  ⟨some 29, none, .ext (.t 23) 1⟩,
  ⟨some 11, none, .box 35 3 (.c (.agg [(.it .i64 0), (.it .i64 0), (.st [])]))⟩,
  ⟨none, none, .sto 3 (.t 11) (.t 28)⟩,
  ⟨some 12, none, .mv (.t 29)⟩]
noncomputable def r14_6 : List AO := [⟨some 30, none, .mv (.t 12)⟩,
  ⟨some 31, none, .eq true 1 (.t 30) (.c (.it .i64 0))⟩]
noncomputable def r14_7 : List AO := [⟨some 32, none, .bld [(.it .i64 0), (.it .i64 0), (.st [])] []⟩,
  ⟨some 33, none, .mv (.t 12)⟩,
  ⟨none, none, .sto 3 (.t 6) (.t 32)⟩,
  ⟨some 7, none, .mv (.t 33)⟩]
noncomputable def r14_8 : List AO := [⟨some 34, none, .mv (.t 8)⟩,
  ⟨some 35, none, .ld true 3 (.t 11)⟩,
  ⟨some 36, none, .bsl 35 3 1 [(.it .i64 0), (.it .i64 0), (.st [])] [(0, 3, (.t 35))]⟩,
  ⟨some 37, none, .app 35 3 32 (.t 34) (.t 36)⟩,
  ⟨some 8, none, .mv (.t 37)⟩]
noncomputable def r14_9 : List AO := [⟨some 38, none, .bin .add (.t 19) (.c (.it .i64 1))⟩,
  ⟨some 19, none, .mv (.t 38)⟩]
noncomputable def r14_10 : List AO := [⟨some 39, none, .fad 0 (.t 3)⟩,
  ⟨some 40, none, .ld false 1 (.t 39)⟩]
noncomputable def r14_11 : List AO := [⟨some 42, none, .eq false 1 (.t 40) (.c (.it .i64 1))⟩,
  ⟨some 41, none, .mv (.t 42)⟩]
noncomputable def r14_12 : List AO := [⟨some 43, none, .fad 2 (.t 3)⟩,
  ⟨some 44, none, .ld true 3 (.t 43)⟩,
  ⟨none, none, .sto 3 (.t 6) (.t 44)⟩,
  ⟨some 7, none, .mv (.c (.it .i64 0))⟩]
noncomputable def r14_13 : List AO := [⟨some 46, none, .eq false 1 (.t 40) (.c (.it .i64 2))⟩,
  ⟨some 45, none, .mv (.t 46)⟩]
noncomputable def r14_14 : List AO := [⟨some 48, none, .mv (.t 1)⟩,
  ⟨some 49, none, .ld true 8 (.t 3)⟩,
  ⟨some 50, none, .call 31 [(.t 48), (.t 49)]⟩,
  ⟨some 47, none, .mv (.t 50)⟩,
  ⟨some 51, none, .ext (.t 47) 0⟩,
  ⟨some 52, none, .ext (.t 47) 1⟩,
  ⟨some 13, none, .mv (.t 51)⟩,
  ⟨some 14, none, .mv (.t 52)⟩]
noncomputable def r14_15 : List AO := [⟨some 53, none, .mv (.t 14)⟩,
  ⟨some 54, none, .eq true 1 (.t 53) (.c (.it .i64 0))⟩]
noncomputable def r14_16 : List AO := [⟨some 55, none, .bld [(.it .i64 0), (.it .i64 0), (.st [])] []⟩,
  ⟨some 56, none, .mv (.t 14)⟩,
  ⟨none, none, .sto 3 (.t 6) (.t 55)⟩,
  ⟨some 7, none, .mv (.t 56)⟩]
noncomputable def r14_17 : List AO := [⟨some 57, none, .mv (.t 2)⟩,
  ⟨some 58, none, .mv (.t 13)⟩,
  ⟨some 59, none, .iad 3 (.t 57) (.t 58)⟩,
  ⟨some 60, none, .ld true 3 (.t 59)⟩,
  ⟨none, none, .sto 3 (.t 6) (.t 60)⟩,
  ⟨some 7, none, .mv (.c (.it .i64 0))⟩]
noncomputable def r14_18 : List AO := [⟨some 62, none, .eq false 1 (.t 40) (.c (.it .i64 3))⟩,
  ⟨some 61, none, .mv (.t 62)⟩]
noncomputable def r14_19 : List (AO × List Nat) := [(⟨some 63, none, .fad 1 (.t 3)⟩, []),
  (⟨some 64, none, .ld false 1 (.t 63)⟩, []),
  (⟨some 65, none, .mv (.t 8)⟩, []),
  (⟨some 66, none, .iad 3 (.t 65) (.c (.it .i64 0))⟩, []),
  (⟨some 67, none, .ld true 3 (.t 66)⟩, []),
  (⟨some 68, none, .mv (.t 8)⟩, []),
  (⟨some 69, none, .iad 3 (.t 68) (.c (.it .i64 1))⟩, []),
  (⟨some 70, none, .ld true 3 (.t 69)⟩, []),
  (⟨some 71, none, .call 32 [(.t 64), (.t 67), (.t 70)]⟩, []),
  (⟨some 72, none, .ext (.t 71) 0⟩, []),
  (⟨some 73, none, .ext (.t 71) 1⟩, []),
  (⟨none, none, .sto 3 (.t 6) (.t 72)⟩, []),
  (⟨some 7, none, .mv (.t 73)⟩, [])]
noncomputable def r14_20 : List AO := [⟨some 75, none, .eq false 1 (.t 40) (.c (.it .i64 4))⟩,
  ⟨some 74, none, .mv (.t 75)⟩]
noncomputable def r14_21 : List AO := [⟨some 76, none, .mv (.t 8)⟩,
  ⟨some 77, none, .iad 3 (.t 76) (.c (.it .i64 0))⟩,
  ⟨some 78, none, .ld true 3 (.t 77)⟩,
  ⟨some 79, none, .call 33 [(.t 78)]⟩,
  ⟨some 80, none, .ext (.t 79) 0⟩,
  ⟨some 81, none, .ext (.t 79) 1⟩,
  ⟨none, none, .sto 3 (.t 6) (.t 80)⟩,
  ⟨some 7, none, .mv (.t 81)⟩]
noncomputable def r14_22 : List AO := [⟨some 83, none, .eq false 1 (.t 40) (.c (.it .i64 5))⟩,
  ⟨some 82, none, .mv (.t 83)⟩]
noncomputable def r14_23 : List AO := [⟨some 84, none, .mv (.t 8)⟩,
  ⟨some 85, none, .iad 3 (.t 84) (.c (.it .i64 0))⟩,
  ⟨some 86, none, .ld true 3 (.t 85)⟩,
  ⟨some 87, none, .call 34 [(.t 86)]⟩,
  ⟨some 88, none, .ext (.t 87) 0⟩,
  ⟨some 89, none, .ext (.t 87) 1⟩,
  ⟨none, none, .sto 3 (.t 6) (.t 88)⟩,
  ⟨some 7, none, .mv (.t 89)⟩]
noncomputable def r14_24 : List AO := [⟨some 90, none, .mv (.t 8)⟩,
  ⟨some 91, none, .iad 3 (.t 90) (.c (.it .i64 0))⟩,
  ⟨some 92, none, .fad 0 (.t 91)⟩,
  ⟨some 93, none, .ld false 1 (.t 92)⟩,
  ⟨some 94, none, .eq false 1 (.t 93) (.c (.it .i64 0))⟩,
  ⟨some 15, none, .mv (.t 94)⟩]
noncomputable def r14_25 : List AO := [⟨some 95, none, .mv (.t 15)⟩,
  ⟨some 96, none, .fad 0 (.t 3)⟩,
  ⟨some 97, none, .ld false 1 (.t 96)⟩,
  ⟨some 98, none, .eq false 1 (.t 97) (.c (.it .i64 6))⟩,
  ⟨some 99, none, .eq false 0 (.t 95) (.t 98)⟩,
  ⟨some 100, none, .call 35 [(.t 99)]⟩,
  ⟨none, none, .sto 3 (.t 6) (.t 100)⟩,
  ⟨some 7, none, .mv (.c (.it .i64 0))⟩]
set_option maxRecDepth 1000000 in
noncomputable def c14 : AFn := ⟨101, [(6, some 3), (7, none)],
  (.seq (.ops r14_0)
  (.seq (.ops r14_1)
  (.seq (.seq (.ops r14_2)
  (.block 0 (.loop (.seq (.ops r14_3)
  (.seq (.cond (.t 20) .skip
  (.exit 0))
  (.seq (.block 1 (.seq (.ops r14_4)
  (.seq (.ops r14_5)
  (.seq (.seq (.ops r14_6)
  (.cond (.t 31) (.seq (.ops r14_7)
  .ret)
  .skip))
  (.ops r14_8)))))
  (.ops r14_9)))))))
  (.seq (.seq (.ops r14_10)
  (.block 2 (.seq (.ops r14_11)
  (.cond (.t 41) (.seq (.ops r14_12)
  .ret)
  (.seq (.ops r14_13)
  (.cond (.t 45) (.seq (.ops r14_14)
  (.seq (.seq (.ops r14_15)
  (.cond (.t 54) (.seq (.ops r14_16)
  .ret)
  .skip))
  (.seq (.ops r14_17)
  .ret)))
  (.seq (.ops r14_18)
  (.cond (.t 61) (.seq (.drw r14_19)
  .ret)
  (.seq (.ops r14_20)
  (.cond (.t 74) (.seq (.ops r14_21)
  .ret)
  (.seq (.ops r14_22)
  (.cond (.t 82) (.seq (.ops r14_23)
  .ret)
  .skip))))))))))))
  (.seq (.ops r14_24)
  (.seq (.ops r14_25)
  .ret))))))⟩
set_option maxRecDepth 1000000 in
theorem t14 : trF Try.prog 14 = some c14 := by kernel_rfl
/-- regrater/value.OfInt (0 n, 1 n) -/
noncomputable def r27_0 : List AO := [⟨some 2, none, .box 35 3 (.c (.agg [(.it .i64 0), (.it .i64 0), (.st [])]))⟩]
noncomputable def r27_1 : List AO := [⟨some 3, none, .mv (.t 0)⟩,
  ⟨some 4, none, .bld [(.it .i64 0), (.it .i64 0), (.st [])] [(0, 1, (.c (.it .i64 2))), (1, 1, (.t 3))]⟩,
  ⟨none, none, .sto 3 (.t 2) (.t 4)⟩]
set_option maxRecDepth 1000000 in
noncomputable def c27 : AFn := ⟨5, [(2, some 3)],
  (.seq (.ops r27_0)
  (.seq (.ops r27_1)
  .ret))⟩
set_option maxRecDepth 1000000 in
theorem t27 : trF Try.prog 27 = some c27 := by kernel_rfl
/-- regrater/value.OfText (0 s, 1 s) -/
noncomputable def r28_0 : List AO := [⟨some 2, none, .box 35 3 (.c (.agg [(.it .i64 0), (.it .i64 0), (.st [])]))⟩]
noncomputable def r28_1 : List AO := [⟨some 3, none, .mv (.t 0)⟩,
  ⟨some 4, none, .bld [(.it .i64 0), (.it .i64 0), (.st [])] [(0, 1, (.c (.it .i64 3))), (2, 1, (.t 3))]⟩,
  ⟨none, none, .sto 3 (.t 2) (.t 4)⟩]
set_option maxRecDepth 1000000 in
noncomputable def c28 : AFn := ⟨5, [(2, some 3)],
  (.seq (.ops r28_0)
  (.seq (.ops r28_1)
  .ret))⟩
set_option maxRecDepth 1000000 in
theorem t28 : trF Try.prog 28 = some c28 := by kernel_rfl
/-- regrater/regraterref15.may (0 e, 1 within, 2 e, 3 within, 5 none, 6 i) -/
noncomputable def r29_0 : List AO := [⟨some 2, none, .box 29 8 (.t 0)⟩,
  ⟨some 4, none, .mv (.c (.bl false))⟩]
noncomputable def r29_1 : List AO := [⟨some 7, none, .bld [(.it .i64 0), (.it .i64 0), (.st [])] []⟩,
  ⟨some 5, none, .box 26 3 (.c (.agg [(.it .i64 0), (.it .i64 0), (.st [])]))⟩,
  ⟨none, none, .sto 3 (.t 5) (.t 7)⟩]
noncomputable def r29_2 : List AO := [⟨some 6, none, .mv (.c (.it .i64 0))⟩]
noncomputable def r29_3 : List AO := [⟨some 8, none, .mv (.t 6)⟩,
  ⟨some 9, none, .fad 7 (.t 2)⟩,
  ⟨some 10, none, .ld false 1 (.t 9)⟩,
  ⟨some 11, none, .len (.t 10)⟩,
  ⟨some 12, none, .bin .lss (.t 8) (.t 11)⟩]
noncomputable def r29_4 : List (AO × List Nat) := [(⟨some 15, none, .fad 7 (.t 2)⟩, []),
  (⟨some 16, none, .ld false 1 (.t 15)⟩, []),
  (⟨some 17, none, .mv (.t 6)⟩, []),
  (⟨some 18, none, .iad 8 (.t 16) (.t 17)⟩, []),
  (⟨some 19, none, .ld true 8 (.t 18)⟩, []),
  (⟨some 20, none, .mv (.t 1)⟩, []),
  (⟨some 21, none, .mv (.t 20)⟩, []),
  (⟨some 22, some (21, false), .fad 0 (.t 2)⟩, []),
  (⟨some 23, some (21, false), .ld false 1 (.t 22)⟩, []),
  (⟨some 24, some (21, false), .eq false 1 (.t 23) (.c (.it .i64 8))⟩, []),
  (⟨some 25, none, .pick (.t 21) (.c (.bl true)) (.t 24)⟩, []),
  (⟨some 26, none, .call 29 [(.t 19), (.t 25)]⟩, []),
  (⟨some 27, none, .un .not (.t 26)⟩, [])]
noncomputable def r29_5 : List AO := [⟨some 4, none, .mv (.c (.bl false))⟩]
noncomputable def r29_6 : List AO := [⟨some 13, none, .mv (.t 6)⟩,
  ⟨some 14, none, .bin .add (.t 13) (.c (.it .i64 1))⟩,
  ⟨some 6, none, .mv (.t 14)⟩]
noncomputable def r29_7 : List AO := [⟨some 28, none, .fad 0 (.t 2)⟩,
  ⟨some 29, none, .ld false 1 (.t 28)⟩]
noncomputable def r29_8 : List AO := [⟨some 31, none, .eq false 1 (.t 29) (.c (.it .i64 1))⟩,
  ⟨some 30, none, .mv (.t 31)⟩]
noncomputable def r29_9 : List AO := [⟨some 32, none, .fad 7 (.t 2)⟩,
  ⟨some 33, none, .ld false 1 (.t 32)⟩,
  ⟨some 34, none, .len (.t 33)⟩,
  ⟨some 35, none, .eq false 1 (.t 34) (.c (.it .i64 0))⟩,
  ⟨some 36, none, .mv (.t 35)⟩,
  ⟨some 37, some (36, true), .fad 1 (.t 2)⟩,
  ⟨some 38, some (36, true), .ld false 1 (.t 37)⟩,
  ⟨some 39, some (36, true), .eq false 1 (.t 38) (.c (.it .i64 0))⟩,
  ⟨some 40, none, .pick (.t 36) (.t 39) (.c (.bl false))⟩,
  ⟨some 41, none, .mv (.t 40)⟩,
  ⟨some 42, some (41, true), .fad 5 (.t 2)⟩,
  ⟨some 43, some (41, true), .ld false 1 (.t 42)⟩,
  ⟨some 44, some (41, true), .eq false 2 (.t 43) (.c (.st []))⟩,
  ⟨some 45, none, .pick (.t 41) (.t 44) (.c (.bl false))⟩,
  ⟨some 46, none, .mv (.t 45)⟩,
  ⟨some 47, some (46, true), .fad 6 (.t 2)⟩,
  ⟨some 48, some (46, true), .ld false 1 (.t 47)⟩,
  ⟨some 49, some (46, true), .eq false 2 (.t 48) (.c (.st []))⟩,
  ⟨some 50, none, .pick (.t 46) (.t 49) (.c (.bl false))⟩,
  ⟨some 51, none, .mv (.t 50)⟩,
  ⟨some 52, some (51, true), .fad 2 (.t 2)⟩,
  ⟨some 53, some (51, true), .ld true 3 (.t 52)⟩,
  ⟨some 54, some (51, true), .call 55 [(.t 53)]⟩,
  ⟨some 55, none, .pick (.t 51) (.t 54) (.c (.bl false))⟩,
  ⟨some 56, none, .mv (.t 55)⟩,
  ⟨some 57, some (56, true), .fad 2 (.t 2)⟩,
  ⟨some 58, some (56, true), .fad 0 (.t 57)⟩,
  ⟨some 59, some (56, true), .ld false 1 (.t 58)⟩,
  ⟨some 60, some (56, true), .eq true 1 (.t 59) (.c (.it .i64 2))⟩,
  ⟨some 61, some (56, true), .mv (.t 60)⟩,
  ⟨some 62, some (61, false), .fad 2 (.t 2)⟩,
  ⟨some 63, some (61, false), .fad 1 (.t 62)⟩,
  ⟨some 64, some (61, false), .ld false 1 (.t 63)⟩,
  ⟨some 65, some (61, false), .bin .geq (.t 64) (.c (.it .i64 0))⟩,
  ⟨some 66, some (56, true), .pick (.t 61) (.c (.bl true)) (.t 65)⟩,
  ⟨some 67, none, .pick (.t 56) (.t 66) (.c (.bl false))⟩,
  ⟨some 4, none, .mv (.t 67)⟩]
noncomputable def r29_10 : List AO := [⟨some 69, none, .eq false 1 (.t 29) (.c (.it .i64 2))⟩,
  ⟨some 68, none, .mv (.t 69)⟩]
noncomputable def r29_11 : List AO := [⟨some 70, none, .fad 7 (.t 2)⟩,
  ⟨some 71, none, .ld false 1 (.t 70)⟩,
  ⟨some 72, none, .len (.t 71)⟩,
  ⟨some 73, none, .eq false 1 (.t 72) (.c (.it .i64 0))⟩,
  ⟨some 74, none, .mv (.t 73)⟩,
  ⟨some 75, some (74, true), .fad 1 (.t 2)⟩,
  ⟨some 76, some (74, true), .ld false 1 (.t 75)⟩,
  ⟨some 77, some (74, true), .eq false 1 (.t 76) (.c (.it .i64 0))⟩,
  ⟨some 78, none, .pick (.t 74) (.t 77) (.c (.bl false))⟩,
  ⟨some 79, none, .mv (.t 78)⟩,
  ⟨some 80, some (79, true), .fad 2 (.t 2)⟩,
  ⟨some 81, some (79, true), .ld true 3 (.t 80)⟩,
  ⟨some 82, some (79, true), .ld true 3 (.t 5)⟩,
  ⟨some 83, some (79, true), .eqs false [1, 1, 2] (.t 81) (.t 82)⟩,
  ⟨some 84, none, .pick (.t 79) (.t 83) (.c (.bl false))⟩,
  ⟨some 85, none, .mv (.t 84)⟩,
  ⟨some 86, some (85, true), .fad 6 (.t 2)⟩,
  ⟨some 87, some (85, true), .ld false 1 (.t 86)⟩,
  ⟨some 88, some (85, true), .call 56 [(.t 87)]⟩,
  ⟨some 89, none, .pick (.t 85) (.t 88) (.c (.bl false))⟩,
  ⟨some 90, none, .mv (.t 89)⟩,
  ⟨some 91, some (90, true), .fad 5 (.t 2)⟩,
  ⟨some 92, some (90, true), .ld false 1 (.t 91)⟩,
  ⟨some 93, some (90, true), .eq false 2 (.t 92) (.c (.st []))⟩,
  ⟨some 94, some (90, true), .mv (.t 93)⟩,
  ⟨some 95, some (94, false), .fad 5 (.t 2)⟩,
  ⟨some 96, some (94, false), .ld false 1 (.t 95)⟩,
  ⟨some 97, some (94, false), .call 56 [(.t 96)]⟩,
  ⟨some 98, some (90, true), .pick (.t 94) (.c (.bl true)) (.t 97)⟩,
  ⟨some 99, none, .pick (.t 90) (.t 98) (.c (.bl false))⟩,
  ⟨some 4, none, .mv (.t 99)⟩]
noncomputable def r29_12 : List AO := [⟨some 100, none, .fad 2 (.t 2)⟩,
  ⟨some 101, none, .ld true 3 (.t 100)⟩,
  ⟨some 102, none, .ld true 3 (.t 5)⟩,
  ⟨some 103, none, .eqs true [1, 1, 2] (.t 101) (.t 102)⟩,
  ⟨some 104, none, .mv (.t 103)⟩,
  ⟨some 105, some (104, false), .fad 5 (.t 2)⟩,
  ⟨some 106, some (104, false), .ld false 1 (.t 105)⟩,
  ⟨some 107, some (104, false), .eq true 2 (.t 106) (.c (.st []))⟩,
  ⟨some 108, none, .pick (.t 104) (.c (.bl true)) (.t 107)⟩,
  ⟨some 109, none, .mv (.t 108)⟩,
  ⟨some 110, some (109, false), .fad 6 (.t 2)⟩,
  ⟨some 111, some (109, false), .ld false 1 (.t 110)⟩,
  ⟨some 112, some (109, false), .eq true 2 (.t 111) (.c (.st []))⟩,
  ⟨some 113, none, .pick (.t 109) (.c (.bl true)) (.t 112)⟩]
noncomputable def r29_13 : List AO := [⟨some 4, none, .mv (.c (.bl false))⟩]
noncomputable def r29_14 : List AO := [⟨some 114, none, .fad 0 (.t 2)⟩,
  ⟨some 115, none, .ld false 1 (.t 114)⟩]
noncomputable def r29_15 : List AO := [⟨some 117, none, .eq false 1 (.t 115) (.c (.it .i64 3))⟩,
  ⟨some 116, none, .mv (.t 117)⟩]
noncomputable def r29_16 : List AO := [⟨some 118, none, .fad 7 (.t 2)⟩,
  ⟨some 119, none, .ld false 1 (.t 118)⟩,
  ⟨some 120, none, .len (.t 119)⟩,
  ⟨some 121, none, .eq false 1 (.t 120) (.c (.it .i64 2))⟩,
  ⟨some 122, none, .mv (.t 121)⟩,
  ⟨some 123, some (122, true), .fad 1 (.t 2)⟩,
  ⟨some 124, some (122, true), .ld false 1 (.t 123)⟩,
  ⟨some 125, some (122, true), .bin .geq (.t 124) (.c (.it .i64 1))⟩,
  ⟨some 126, none, .pick (.t 122) (.t 125) (.c (.bl false))⟩,
  ⟨some 127, none, .mv (.t 126)⟩,
  ⟨some 128, some (127, true), .fad 1 (.t 2)⟩,
  ⟨some 129, some (127, true), .ld false 1 (.t 128)⟩,
  ⟨some 130, some (127, true), .bin .leq (.t 129) (.c (.it .i64 14))⟩,
  ⟨some 131, none, .pick (.t 127) (.t 130) (.c (.bl false))⟩,
  ⟨some 4, none, .mv (.t 131)⟩]
noncomputable def r29_17 : List AO := [⟨some 133, none, .eq false 1 (.t 115) (.c (.it .i64 4))⟩,
  ⟨some 132, none, .mv (.t 133)⟩]
noncomputable def r29_18 : List AO := [⟨some 134, none, .eq false 1 (.t 115) (.c (.it .i64 5))⟩,
  ⟨some 132, none, .mv (.t 134)⟩]
noncomputable def r29_19 : List AO := [⟨some 135, none, .eq false 1 (.t 115) (.c (.it .i64 6))⟩,
  ⟨some 132, none, .mv (.t 135)⟩]
noncomputable def r29_20 : List AO := [⟨some 136, none, .eq false 1 (.t 115) (.c (.it .i64 7))⟩,
  ⟨some 132, none, .mv (.t 136)⟩]
noncomputable def r29_21 : List AO := [⟨some 137, none, .fad 7 (.t 2)⟩,
  ⟨some 138, none, .ld false 1 (.t 137)⟩,
  ⟨some 139, none, .len (.t 138)⟩,
  ⟨some 140, none, .eq false 1 (.t 139) (.c (.it .i64 1))⟩,
  ⟨some 141, none, .mv (.t 140)⟩,
  ⟨some 142, some (141, true), .fad 1 (.t 2)⟩,
  ⟨some 143, some (141, true), .ld false 1 (.t 142)⟩,
  ⟨some 144, some (141, true), .eq false 1 (.t 143) (.c (.it .i64 0))⟩,
  ⟨some 145, none, .pick (.t 141) (.t 144) (.c (.bl false))⟩,
  ⟨some 4, none, .mv (.t 145)⟩]
noncomputable def r29_22 : List AO := [⟨some 147, none, .eq false 1 (.t 115) (.c (.it .i64 8))⟩,
  ⟨some 146, none, .mv (.t 147)⟩]
noncomputable def r29_23 : List AO := [⟨some 148, none, .mv (.t 1)⟩,
  ⟨some 149, none, .un .not (.t 148)⟩,
  ⟨some 150, none, .mv (.t 149)⟩,
  ⟨some 151, some (150, true), .fad 1 (.t 2)⟩,
  ⟨some 152, some (150, true), .ld false 1 (.t 151)⟩,
  ⟨some 153, some (150, true), .bin .geq (.t 152) (.c (.it .i64 1))⟩,
  ⟨some 154, none, .pick (.t 150) (.t 153) (.c (.bl false))⟩,
  ⟨some 155, none, .mv (.t 154)⟩,
  ⟨some 156, some (155, true), .fad 1 (.t 2)⟩,
  ⟨some 157, some (155, true), .ld false 1 (.t 156)⟩,
  ⟨some 158, some (155, true), .bin .leq (.t 157) (.c (.it .i64 4))⟩,
  ⟨some 159, none, .pick (.t 155) (.t 158) (.c (.bl false))⟩,
  ⟨some 160, none, .mv (.t 159)⟩,
  ⟨some 161, some (160, true), .fad 7 (.t 2)⟩,
  ⟨some 162, some (160, true), .ld false 1 (.t 161)⟩,
  ⟨some 163, some (160, true), .len (.t 162)⟩,
  ⟨some 164, some (160, true), .eq false 1 (.t 163) (.c (.it .i64 1))⟩,
  ⟨some 165, some (160, true), .mv (.t 164)⟩,
  ⟨some 166, some (165, false), .fad 7 (.t 2)⟩,
  ⟨some 167, some (165, false), .ld false 1 (.t 166)⟩,
  ⟨some 168, some (165, false), .len (.t 167)⟩,
  ⟨some 169, some (165, false), .eq false 1 (.t 168) (.c (.it .i64 0))⟩,
  ⟨some 170, some (165, false), .mv (.t 169)⟩,
  ⟨some 171, some (170, true), .fad 1 (.t 2)⟩,
  ⟨some 172, some (170, true), .ld false 1 (.t 171)⟩,
  ⟨some 173, some (170, true), .eq false 1 (.t 172) (.c (.it .i64 1))⟩,
  ⟨some 174, some (165, false), .pick (.t 170) (.t 173) (.c (.bl false))⟩,
  ⟨some 175, some (160, true), .pick (.t 165) (.c (.bl true)) (.t 174)⟩,
  ⟨some 176, none, .pick (.t 160) (.t 175) (.c (.bl false))⟩,
  ⟨some 4, none, .mv (.t 176)⟩]
noncomputable def r29_24 : List AO := [⟨some 4, none, .mv (.c (.bl false))⟩]
set_option maxRecDepth 1000000 in
noncomputable def c29 : AFn := ⟨177, [(4, none)],
  (.seq (.ops r29_0)
  (.seq (.ops r29_1)
  (.seq (.seq (.ops r29_2)
  (.block 0 (.loop (.seq (.seq (.ops r29_3)
  (.cond (.t 12) .skip
  (.exit 0)))
  (.seq (.block 1 (.seq (.drw r29_4)
  (.cond (.t 27) (.seq (.ops r29_5)
  .ret)
  .skip)))
  (.ops r29_6))))))
  (.seq (.seq (.ops r29_7)
  (.block 2 (.seq (.ops r29_8)
  (.cond (.t 30) (.seq (.ops r29_9)
  .ret)
  (.seq (.ops r29_10)
  (.cond (.t 68) (.seq (.ops r29_11)
  .ret)
  .skip))))))
  (.seq (.seq (.ops r29_12)
  (.cond (.t 113) (.seq (.ops r29_13)
  .ret)
  .skip))
  (.seq (.seq (.ops r29_14)
  (.block 3 (.seq (.ops r29_15)
  (.cond (.t 116) (.seq (.ops r29_16)
  .ret)
  (.seq (.seq (.ops r29_17)
  (.cond (.t 132) .skip
  (.seq (.ops r29_18)
  (.cond (.t 132) .skip
  (.seq (.ops r29_19)
  (.cond (.t 132) .skip
  (.ops r29_20)))))))
  (.cond (.t 132) (.seq (.ops r29_21)
  .ret)
  (.seq (.ops r29_22)
  (.cond (.t 146) (.seq (.ops r29_23)
  .ret)
  .skip))))))))
  (.seq (.ops r29_24)
  .ret)))))))⟩
set_option maxRecDepth 1000000 in
theorem t29 : trF Try.prog 29 = some c29 := by kernel_rfl
/-- regrater/check.kindOf (0 e, 1 l, 2 parts, 3 e, 4 l, 5 parts, 8 i, 9 err) -/
noncomputable def r30_0 : List AO := [⟨some 3, none, .box 38 8 (.t 0)⟩,
  ⟨some 6, none, .mv (.c (.it .i64 0))⟩,
  ⟨some 7, none, .mv (.c (.it .i64 0))⟩]
noncomputable def r30_1 : List AO := [⟨some 10, none, .fad 0 (.t 3)⟩,
  ⟨some 11, none, .ld false 1 (.t 10)⟩]
noncomputable def r30_2 : List AO := [⟨some 13, none, .eq false 1 (.t 11) (.c (.it .i64 1))⟩,
  ⟨some 12, none, .mv (.t 13)⟩]
noncomputable def r30_3 : List AO := [⟨some 14, none, .fad 2 (.t 3)⟩,
  ⟨some 15, none, .fad 0 (.t 14)⟩,
  ⟨some 16, none, .ld false 1 (.t 15)⟩,
  ⟨some 6, none, .mv (.t 16)⟩,
  ⟨some 7, none, .mv (.c (.it .i64 0))⟩]
noncomputable def r30_4 : List AO := [⟨some 18, none, .eq false 1 (.t 11) (.c (.it .i64 2))⟩,
  ⟨some 17, none, .mv (.t 18)⟩]
noncomputable def r30_5 : List AO := [⟨some 20, none, .mv (.t 1)⟩,
  ⟨some 21, none, .ld true 8 (.t 3)⟩,
  ⟨some 22, none, .call 31 [(.t 20), (.t 21)]⟩,
  ⟨some 19, none, .mv (.t 22)⟩,
  ⟨some 23, none, .ext (.t 19) 0⟩,
  ⟨some 24, none, .ext (.t 19) 1⟩,
  ⟨some 8, none, .mv (.t 23)⟩,
  ⟨some 9, none, .mv (.t 24)⟩]
noncomputable def r30_6 : List AO := [⟨some 25, none, .mv (.t 9)⟩,
  ⟨some 26, none, .eq true 1 (.t 25) (.c (.it .i64 0))⟩]
noncomputable def r30_7 : List AO := [⟨some 27, none, .mv (.t 9)⟩,
  ⟨some 6, none, .mv (.c (.it .i64 0))⟩,
  ⟨some 7, none, .mv (.t 27)⟩]
noncomputable def r30_8 : List AO := [⟨some 28, none, .mv (.t 1)⟩,
  ⟨some 29, none, .mv (.t 8)⟩,
  ⟨some 30, none, .iad 3 (.t 28) (.t 29)⟩,
  ⟨some 31, none, .fad 2 (.t 30)⟩,
  ⟨some 32, none, .ld false 1 (.t 31)⟩,
  ⟨some 6, none, .mv (.t 32)⟩,
  ⟨some 7, none, .mv (.c (.it .i64 0))⟩]
noncomputable def r30_9 : List AO := [⟨some 34, none, .eq false 1 (.t 11) (.c (.it .i64 3))⟩,
  ⟨some 33, none, .mv (.t 34)⟩]
noncomputable def r30_10 : List (AO × List Nat) := [(⟨some 35, none, .fad 1 (.t 3)⟩, []),
  (⟨some 36, none, .ld false 1 (.t 35)⟩, []),
  (⟨some 37, none, .mv (.t 2)⟩, []),
  (⟨some 38, none, .iad 1 (.t 37) (.c (.it .i64 0))⟩, []),
  (⟨some 39, none, .ld false 1 (.t 38)⟩, []),
  (⟨some 40, none, .mv (.t 2)⟩, []),
  (⟨some 41, none, .iad 1 (.t 40) (.c (.it .i64 1))⟩, []),
  (⟨some 42, none, .ld false 1 (.t 41)⟩, []),
  (⟨some 43, none, .call 57 [(.t 36), (.t 39), (.t 42)]⟩, []),
  (⟨some 44, none, .ext (.t 43) 0⟩, []),
  (⟨some 45, none, .ext (.t 43) 1⟩, []),
  (⟨some 6, none, .mv (.t 44)⟩, []),
  (⟨some 7, none, .mv (.t 45)⟩, [])]
noncomputable def r30_11 : List AO := [⟨some 47, none, .eq false 1 (.t 11) (.c (.it .i64 4))⟩,
  ⟨some 46, none, .mv (.t 47)⟩]
noncomputable def r30_12 : List AO := [⟨some 48, none, .mv (.t 2)⟩,
  ⟨some 49, none, .iad 1 (.t 48) (.c (.it .i64 0))⟩,
  ⟨some 50, none, .ld false 1 (.t 49)⟩,
  ⟨some 51, none, .call 58 [(.t 50), (.c (.it .i64 1)), (.c (.it .i64 1))]⟩,
  ⟨some 52, none, .ext (.t 51) 0⟩,
  ⟨some 53, none, .ext (.t 51) 1⟩,
  ⟨some 6, none, .mv (.t 52)⟩,
  ⟨some 7, none, .mv (.t 53)⟩]
noncomputable def r30_13 : List AO := [⟨some 55, none, .eq false 1 (.t 11) (.c (.it .i64 5))⟩,
  ⟨some 54, none, .mv (.t 55)⟩]
noncomputable def r30_14 : List AO := [⟨some 56, none, .mv (.t 2)⟩,
  ⟨some 57, none, .iad 1 (.t 56) (.c (.it .i64 0))⟩,
  ⟨some 58, none, .ld false 1 (.t 57)⟩,
  ⟨some 59, none, .call 58 [(.t 58), (.c (.it .i64 2)), (.c (.it .i64 2))]⟩,
  ⟨some 60, none, .ext (.t 59) 0⟩,
  ⟨some 61, none, .ext (.t 59) 1⟩,
  ⟨some 6, none, .mv (.t 60)⟩,
  ⟨some 7, none, .mv (.t 61)⟩]
noncomputable def r30_15 : List AO := [⟨some 63, none, .eq false 1 (.t 11) (.c (.it .i64 6))⟩,
  ⟨some 62, none, .mv (.t 63)⟩]
noncomputable def r30_16 : List AO := [⟨some 64, none, .eq false 1 (.t 11) (.c (.it .i64 7))⟩,
  ⟨some 62, none, .mv (.t 64)⟩]
noncomputable def r30_17 : List AO := [⟨some 6, none, .mv (.c (.it .i64 1))⟩,
  ⟨some 7, none, .mv (.c (.it .i64 0))⟩]
noncomputable def r30_18 : List AO := [⟨some 65, none, .fad 1 (.t 3)⟩,
  ⟨some 66, none, .ld false 1 (.t 65)⟩]
noncomputable def r30_19 : List AO := [⟨some 68, none, .eq false 1 (.t 66) (.c (.it .i64 1))⟩,
  ⟨some 67, none, .mv (.t 68)⟩]
noncomputable def r30_20 : List AO := [⟨some 6, none, .mv (.c (.it .i64 2))⟩,
  ⟨some 7, none, .mv (.c (.it .i64 0))⟩]
noncomputable def r30_21 : List AO := [⟨some 70, none, .eq false 1 (.t 66) (.c (.it .i64 2))⟩,
  ⟨some 69, none, .mv (.t 70)⟩]
noncomputable def r30_22 : List AO := [⟨some 71, none, .mv (.t 2)⟩,
  ⟨some 72, none, .iad 1 (.t 71) (.c (.it .i64 0))⟩,
  ⟨some 73, none, .ld false 1 (.t 72)⟩,
  ⟨some 74, none, .call 58 [(.t 73), (.c (.it .i64 2)), (.c (.it .i64 2))]⟩,
  ⟨some 75, none, .ext (.t 74) 0⟩,
  ⟨some 76, none, .ext (.t 74) 1⟩,
  ⟨some 6, none, .mv (.t 75)⟩,
  ⟨some 7, none, .mv (.t 76)⟩]
noncomputable def r30_23 : List AO := [⟨some 77, none, .mv (.t 2)⟩,
  ⟨some 78, none, .iad 1 (.t 77) (.c (.it .i64 0))⟩,
  ⟨some 79, none, .ld false 1 (.t 78)⟩,
  ⟨some 6, none, .mv (.t 79)⟩,
  ⟨some 7, none, .mv (.c (.it .i64 0))⟩]
set_option maxRecDepth 1000000 in
noncomputable def c30 : AFn := ⟨80, [(6, none), (7, none)],
  (.seq (.ops r30_0)
  (.seq (.seq (.ops r30_1)
  (.block 0 (.seq (.ops r30_2)
  (.cond (.t 12) (.seq (.ops r30_3)
  .ret)
  (.seq (.ops r30_4)
  (.cond (.t 17) (.seq (.ops r30_5)
  (.seq (.seq (.ops r30_6)
  (.cond (.t 26) (.seq (.ops r30_7)
  .ret)
  .skip))
  (.seq (.ops r30_8)
  .ret)))
  (.seq (.ops r30_9)
  (.cond (.t 33) (.seq (.drw r30_10)
  .ret)
  (.seq (.ops r30_11)
  (.cond (.t 46) (.seq (.ops r30_12)
  .ret)
  (.seq (.ops r30_13)
  (.cond (.t 54) (.seq (.ops r30_14)
  .ret)
  (.seq (.seq (.ops r30_15)
  (.cond (.t 62) .skip
  (.ops r30_16)))
  (.cond (.t 62) (.seq (.ops r30_17)
  .ret)
  .skip))))))))))))))
  (.seq (.seq (.ops r30_18)
  (.block 1 (.seq (.ops r30_19)
  (.cond (.t 67) (.seq (.ops r30_20)
  .ret)
  (.seq (.ops r30_21)
  (.cond (.t 69) (.seq (.ops r30_22)
  .ret)
  .skip))))))
  (.seq (.ops r30_23)
  .ret))))⟩
set_option maxRecDepth 1000000 in
theorem t30 : trF Try.prog 30 = some c30 := by kernel_rfl
/-- regrater/check.Find (0 l, 1 c, 2 l, 3 c, 6 place, 7 n, 8 i, 9 f) -/
noncomputable def r31_0 : List AO := [⟨some 3, none, .box 38 8 (.t 1)⟩,
  ⟨some 4, none, .mv (.c (.it .i64 0))⟩,
  ⟨some 5, none, .mv (.c (.it .i64 0))⟩]
noncomputable def r31_1 : List AO := [⟨some 6, none, .mv (.c (.it .i64 0))⟩,
  ⟨some 7, none, .mv (.c (.it .i64 0))⟩]
noncomputable def r31_2 : List AO := [⟨some 10, none, .mv (.t 0)⟩,
  ⟨some 11, none, .len (.t 10)⟩,
  ⟨some 12, none, .mv (.c (.it .i64 0))⟩]
noncomputable def r31_3 : List AO := [⟨some 13, none, .bin .lss (.t 12) (.t 11)⟩]
noncomputable def r31_4 : List AO := [⟨some 14, none, .mv (.t 12)⟩,
  ⟨some 15, none, .iad 3 (.t 10) (.t 12)⟩,
  ⟨some 16, none, .ld true 3 (.t 15)⟩,
  ⟨some 9, none, .box 105 3 (.c (.agg [(.st []), (.st []), (.it .i64 0)]))⟩,
  ⟨some 8, none, .mv (.t 14)⟩,
  ⟨none, none, .sto 3 (.t 9) (.t 16)⟩]
noncomputable def r31_5 : List AO := [⟨some 17, none, .fad 1 (.t 9)⟩,
  ⟨some 18, none, .ld false 1 (.t 17)⟩,
  ⟨some 19, none, .fad 6 (.t 3)⟩,
  ⟨some 20, none, .ld false 1 (.t 19)⟩,
  ⟨some 21, none, .eq false 2 (.t 18) (.t 20)⟩,
  ⟨some 22, none, .mv (.t 21)⟩,
  ⟨some 23, some (22, true), .fad 5 (.t 3)⟩,
  ⟨some 24, some (22, true), .ld false 1 (.t 23)⟩,
  ⟨some 25, some (22, true), .eq false 2 (.t 24) (.c (.st []))⟩,
  ⟨some 26, some (22, true), .mv (.t 25)⟩,
  ⟨some 27, some (26, false), .fad 5 (.t 3)⟩,
  ⟨some 28, some (26, false), .ld false 1 (.t 27)⟩,
  ⟨some 29, some (26, false), .fad 0 (.t 9)⟩,
  ⟨some 30, some (26, false), .ld false 1 (.t 29)⟩,
  ⟨some 31, some (26, false), .eq false 2 (.t 28) (.t 30)⟩,
  ⟨some 32, some (22, true), .pick (.t 26) (.c (.bl true)) (.t 31)⟩,
  ⟨some 33, none, .pick (.t 22) (.t 32) (.c (.bl false))⟩]
noncomputable def r31_6 : List AO := [⟨some 34, none, .mv (.t 8)⟩,
  ⟨some 6, none, .mv (.t 34)⟩]
noncomputable def r31_7 : List AO := [⟨some 35, none, .mv (.t 7)⟩,
  ⟨some 36, none, .bin .add (.t 35) (.c (.it .i64 1))⟩,
  ⟨some 7, none, .mv (.t 36)⟩]
noncomputable def r31_8 : List AO := [⟨some 37, none, .bin .add (.t 12) (.c (.it .i64 1))⟩,
  ⟨some 12, none, .mv (.t 37)⟩]
noncomputable def r31_9 : List AO := [⟨some 38, none, .mv (.t 7)⟩]
noncomputable def r31_10 : List AO := [⟨some 40, none, .eq false 1 (.t 38) (.c (.it .i64 0))⟩,
  ⟨some 39, none, .mv (.t 40)⟩]
noncomputable def r31_11 : List AO := [⟨some 4, none, .mv (.c (.it .i64 0))⟩,
  ⟨some 5, none, .mv (.c (.it .i64 6))⟩]
noncomputable def r31_12 : List AO := [⟨some 42, none, .eq false 1 (.t 38) (.c (.it .i64 1))⟩,
  ⟨some 41, none, .mv (.t 42)⟩]
noncomputable def r31_13 : List AO := [⟨some 43, none, .mv (.t 6)⟩,
  ⟨some 4, none, .mv (.t 43)⟩,
  ⟨some 5, none, .mv (.c (.it .i64 0))⟩]
noncomputable def r31_14 : List AO := [⟨some 4, none, .mv (.c (.it .i64 0))⟩,
  ⟨some 5, none, .mv (.c (.it .i64 7))⟩]
set_option maxRecDepth 1000000 in
noncomputable def c31 : AFn := ⟨44, [(4, none), (5, none)],
  (.seq (.ops r31_0)
  (.seq (.ops r31_1)
  (.seq (.seq (.ops r31_2)
  (.block 0 (.loop (.seq (.ops r31_3)
  (.seq (.cond (.t 13) .skip
  (.exit 0))
  (.seq (.block 1 (.seq (.ops r31_4)
  (.seq (.ops r31_5)
  (.cond (.t 33) (.seq (.ops r31_6)
  (.ops r31_7))
  .skip))))
  (.ops r31_8)))))))
  (.seq (.seq (.ops r31_9)
  (.block 2 (.seq (.ops r31_10)
  (.cond (.t 39) (.seq (.ops r31_11)
  .ret)
  (.seq (.ops r31_12)
  (.cond (.t 41) (.seq (.ops r31_13)
  .ret)
  .skip))))))
  (.seq (.ops r31_14)
  .ret)))))⟩
set_option maxRecDepth 1000000 in
theorem t31 : trF Try.prog 31 = some c31 := by kernel_rfl
/-- regrater/value.Do (0 op, 1 a, 2 b, 3 op, 4 a, 5 b, 8 n, 9 e) -/
noncomputable def r32_0 : List AO := [⟨some 4, none, .box 35 3 (.t 1)⟩,
  ⟨some 5, none, .box 35 3 (.t 2)⟩,
  ⟨some 6, none, .box 35 3 (.c (.agg [(.it .i64 0), (.it .i64 0), (.st [])]))⟩,
  ⟨some 7, none, .mv (.c (.it .i64 0))⟩]
noncomputable def r32_1 : List AO := [⟨some 11, none, .mv (.t 0)⟩,
  ⟨some 12, none, .bin .lss (.t 11) (.c (.it .i64 1))⟩,
  ⟨some 13, none, .mv (.t 12)⟩,
  ⟨some 14, some (13, false), .mv (.t 0)⟩,
  ⟨some 15, some (13, false), .bin .gtr (.t 14) (.c (.it .i64 14))⟩,
  ⟨some 16, none, .pick (.t 13) (.c (.bl true)) (.t 15)⟩,
  ⟨some 10, none, .mv (.t 16)⟩]
noncomputable def r32_2 : List AO := [⟨some 17, none, .bld [(.it .i64 0), (.it .i64 0), (.st [])] []⟩,
  ⟨none, none, .sto 3 (.t 6) (.t 17)⟩,
  ⟨some 7, none, .mv (.c (.it .i64 1))⟩]
noncomputable def r32_3 : List AO := [⟨some 19, none, .mv (.t 0)⟩,
  ⟨some 20, none, .ld true 3 (.t 4)⟩,
  ⟨some 21, none, .ld true 3 (.t 5)⟩,
  ⟨some 22, none, .call 59 [(.t 19), (.t 20), (.t 21)]⟩,
  ⟨some 23, none, .un .not (.t 22)⟩,
  ⟨some 18, none, .mv (.t 23)⟩]
noncomputable def r32_4 : List AO := [⟨some 24, none, .bld [(.it .i64 0), (.it .i64 0), (.st [])] []⟩,
  ⟨none, none, .sto 3 (.t 6) (.t 24)⟩,
  ⟨some 7, none, .mv (.c (.it .i64 5))⟩]
noncomputable def r32_5 : List AO := [⟨some 26, none, .mv (.t 0)⟩,
  ⟨some 27, none, .bin .geq (.t 26) (.c (.it .i64 13))⟩,
  ⟨some 25, none, .mv (.t 27)⟩]
noncomputable def r32_6 : List AO := [⟨some 28, none, .mv (.t 0)⟩,
  ⟨some 29, none, .eq false 1 (.t 28) (.c (.it .i64 14))⟩,
  ⟨some 30, none, .ld true 3 (.t 4)⟩,
  ⟨some 31, none, .ld true 3 (.t 5)⟩,
  ⟨some 32, none, .call 60 [(.t 29), (.t 30), (.t 31)]⟩,
  ⟨none, none, .sto 3 (.t 6) (.t 32)⟩,
  ⟨some 7, none, .mv (.c (.it .i64 0))⟩]
noncomputable def r32_7 : List AO := [⟨some 34, none, .ld true 3 (.t 4)⟩,
  ⟨some 35, none, .call 61 [(.t 34)]⟩,
  ⟨some 36, none, .mv (.t 35)⟩,
  ⟨some 37, some (36, false), .ld true 3 (.t 5)⟩,
  ⟨some 38, some (36, false), .call 61 [(.t 37)]⟩,
  ⟨some 39, none, .pick (.t 36) (.c (.bl true)) (.t 38)⟩,
  ⟨some 33, none, .mv (.t 39)⟩]
noncomputable def r32_8 : List AO := [⟨some 40, none, .bld [(.it .i64 0), (.it .i64 0), (.st [])] []⟩,
  ⟨none, none, .sto 3 (.t 6) (.t 40)⟩,
  ⟨some 7, none, .mv (.c (.it .i64 0))⟩]
noncomputable def r32_9 : List AO := [⟨some 42, none, .mv (.t 0)⟩,
  ⟨some 43, none, .bin .leq (.t 42) (.c (.it .i64 6))⟩,
  ⟨some 41, none, .mv (.t 43)⟩]
noncomputable def r32_10 : List AO := [⟨some 44, none, .mv (.t 0)⟩,
  ⟨some 45, none, .ld true 3 (.t 4)⟩,
  ⟨some 46, none, .ld true 3 (.t 5)⟩,
  ⟨some 47, none, .call 63 [(.t 45), (.t 46)]⟩,
  ⟨some 48, none, .call 62 [(.t 44), (.t 47)]⟩,
  ⟨some 49, none, .call 35 [(.t 48)]⟩,
  ⟨none, none, .sto 3 (.t 6) (.t 49)⟩,
  ⟨some 7, none, .mv (.c (.it .i64 0))⟩]
noncomputable def r32_11 : List AO := [⟨some 51, none, .mv (.t 0)⟩,
  ⟨some 52, none, .eq false 1 (.t 51) (.c (.it .i64 12))⟩,
  ⟨some 50, none, .mv (.t 52)⟩]
noncomputable def r32_12 : List AO := [⟨some 53, none, .fad 2 (.t 4)⟩,
  ⟨some 54, none, .ld false 1 (.t 53)⟩,
  ⟨some 55, none, .lens (.t 54)⟩,
  ⟨some 56, none, .fad 2 (.t 5)⟩,
  ⟨some 57, none, .ld false 1 (.t 56)⟩,
  ⟨some 58, none, .lens (.t 57)⟩,
  ⟨some 59, none, .bin .add (.t 55) (.t 58)⟩,
  ⟨some 60, none, .bin .gtr (.t 59) (.c (.it .i64 64))⟩]
noncomputable def r32_13 : List AO := [⟨some 61, none, .bld [(.it .i64 0), (.it .i64 0), (.st [])] []⟩,
  ⟨none, none, .sto 3 (.t 6) (.t 61)⟩,
  ⟨some 7, none, .mv (.c (.it .i64 8))⟩]
noncomputable def r32_14 : List AO := [⟨some 62, none, .fad 2 (.t 4)⟩,
  ⟨some 63, none, .ld false 1 (.t 62)⟩,
  ⟨some 64, none, .fad 2 (.t 5)⟩,
  ⟨some 65, none, .ld false 1 (.t 64)⟩,
  ⟨some 66, none, .bin .add (.t 63) (.t 65)⟩,
  ⟨some 67, none, .call 28 [(.t 66)]⟩,
  ⟨none, none, .sto 3 (.t 6) (.t 67)⟩,
  ⟨some 7, none, .mv (.c (.it .i64 0))⟩]
noncomputable def r32_15 : List AO := [⟨some 69, none, .mv (.t 0)⟩,
  ⟨some 70, none, .fad 1 (.t 4)⟩,
  ⟨some 71, none, .ld false 1 (.t 70)⟩,
  ⟨some 72, none, .fad 1 (.t 5)⟩,
  ⟨some 73, none, .ld false 1 (.t 72)⟩,
  ⟨some 74, none, .call 64 [(.t 69), (.t 71), (.t 73)]⟩,
  ⟨some 68, none, .mv (.t 74)⟩,
  ⟨some 75, none, .ext (.t 68) 0⟩,
  ⟨some 76, none, .ext (.t 68) 1⟩,
  ⟨some 8, none, .mv (.t 75)⟩,
  ⟨some 9, none, .mv (.t 76)⟩]
noncomputable def r32_16 : List AO := [⟨some 77, none, .mv (.t 9)⟩,
  ⟨some 78, none, .eq true 1 (.t 77) (.c (.it .i64 0))⟩]
noncomputable def r32_17 : List AO := [⟨some 79, none, .bld [(.it .i64 0), (.it .i64 0), (.st [])] []⟩,
  ⟨some 80, none, .mv (.t 9)⟩,
  ⟨none, none, .sto 3 (.t 6) (.t 79)⟩,
  ⟨some 7, none, .mv (.t 80)⟩]
noncomputable def r32_18 : List AO := [⟨some 81, none, .mv (.t 8)⟩,
  ⟨some 82, none, .call 27 [(.t 81)]⟩,
  ⟨none, none, .sto 3 (.t 6) (.t 82)⟩,
  ⟨some 7, none, .mv (.c (.it .i64 0))⟩]
set_option maxRecDepth 1000000 in
noncomputable def c32 : AFn := ⟨83, [(6, some 3), (7, none)],
  (.seq (.ops r32_0)
  (.seq (.block 0 (.seq (.ops r32_1)
  (.cond (.t 10) (.seq (.ops r32_2)
  .ret)
  (.seq (.ops r32_3)
  (.cond (.t 18) (.seq (.ops r32_4)
  .ret)
  (.seq (.ops r32_5)
  (.cond (.t 25) (.seq (.ops r32_6)
  .ret)
  (.seq (.ops r32_7)
  (.cond (.t 33) (.seq (.ops r32_8)
  .ret)
  (.seq (.ops r32_9)
  (.cond (.t 41) (.seq (.ops r32_10)
  .ret)
  (.seq (.ops r32_11)
  (.cond (.t 50) (.seq (.seq (.ops r32_12)
  (.cond (.t 60) (.seq (.ops r32_13)
  .ret)
  .skip))
  (.seq (.ops r32_14)
  .ret))
  .skip)))))))))))))
  (.seq (.ops r32_15)
  (.seq (.seq (.ops r32_16)
  (.cond (.t 78) (.seq (.ops r32_17)
  .ret)
  .skip))
  (.seq (.ops r32_18)
  .ret)))))⟩
set_option maxRecDepth 1000000 in
theorem t32 : trF Try.prog 32 = some c32 := by kernel_rfl
/-- regrater/value.Not (0 v, 1 v) -/
noncomputable def r33_0 : List AO := [⟨some 1, none, .box 35 3 (.t 0)⟩,
  ⟨some 2, none, .box 35 3 (.c (.agg [(.it .i64 0), (.it .i64 0), (.st [])]))⟩,
  ⟨some 3, none, .mv (.c (.it .i64 0))⟩]
noncomputable def r33_1 : List AO := [⟨some 4, none, .fad 0 (.t 1)⟩,
  ⟨some 5, none, .ld false 1 (.t 4)⟩]
noncomputable def r33_2 : List AO := [⟨some 7, none, .eq false 1 (.t 5) (.c (.it .i64 0))⟩,
  ⟨some 6, none, .mv (.t 7)⟩]
noncomputable def r33_3 : List AO := [⟨some 8, none, .ld true 3 (.t 1)⟩,
  ⟨none, none, .sto 3 (.t 2) (.t 8)⟩,
  ⟨some 3, none, .mv (.c (.it .i64 0))⟩]
noncomputable def r33_4 : List AO := [⟨some 10, none, .eq false 1 (.t 5) (.c (.it .i64 1))⟩,
  ⟨some 9, none, .mv (.t 10)⟩]
noncomputable def r33_5 : List AO := [⟨some 11, none, .ld true 3 (.t 1)⟩,
  ⟨some 12, none, .call 65 [(.t 11)]⟩,
  ⟨some 13, none, .un .not (.t 12)⟩,
  ⟨some 14, none, .call 35 [(.t 13)]⟩,
  ⟨none, none, .sto 3 (.t 2) (.t 14)⟩,
  ⟨some 3, none, .mv (.c (.it .i64 0))⟩]
noncomputable def r33_6 : List AO := [⟨some 15, none, .bld [(.it .i64 0), (.it .i64 0), (.st [])] []⟩,
  ⟨none, none, .sto 3 (.t 2) (.t 15)⟩,
  ⟨some 3, none, .mv (.c (.it .i64 5))⟩]
set_option maxRecDepth 1000000 in
noncomputable def c33 : AFn := ⟨16, [(2, some 3), (3, none)],
  (.seq (.ops r33_0)
  (.seq (.seq (.ops r33_1)
  (.block 0 (.seq (.ops r33_2)
  (.cond (.t 6) (.seq (.ops r33_3)
  .ret)
  (.seq (.ops r33_4)
  (.cond (.t 9) (.seq (.ops r33_5)
  .ret)
  .skip))))))
  (.seq (.ops r33_6)
  .ret)))⟩
set_option maxRecDepth 1000000 in
theorem t33 : trF Try.prog 33 = some c33 := by kernel_rfl
/-- regrater/value.Neg (0 v, 1 v) -/
noncomputable def r34_0 : List AO := [⟨some 1, none, .box 35 3 (.t 0)⟩,
  ⟨some 2, none, .box 35 3 (.c (.agg [(.it .i64 0), (.it .i64 0), (.st [])]))⟩,
  ⟨some 3, none, .mv (.c (.it .i64 0))⟩]
noncomputable def r34_1 : List AO := [⟨some 5, none, .ld true 3 (.t 1)⟩,
  ⟨some 6, none, .call 61 [(.t 5)]⟩,
  ⟨some 4, none, .mv (.t 6)⟩]
noncomputable def r34_2 : List AO := [⟨some 7, none, .ld true 3 (.t 1)⟩,
  ⟨none, none, .sto 3 (.t 2) (.t 7)⟩,
  ⟨some 3, none, .mv (.c (.it .i64 0))⟩]
noncomputable def r34_3 : List AO := [⟨some 9, none, .fad 0 (.t 1)⟩,
  ⟨some 10, none, .ld false 1 (.t 9)⟩,
  ⟨some 11, none, .eq true 1 (.t 10) (.c (.it .i64 2))⟩,
  ⟨some 8, none, .mv (.t 11)⟩]
noncomputable def r34_4 : List AO := [⟨some 12, none, .bld [(.it .i64 0), (.it .i64 0), (.st [])] []⟩,
  ⟨none, none, .sto 3 (.t 2) (.t 12)⟩,
  ⟨some 3, none, .mv (.c (.it .i64 5))⟩]
noncomputable def r34_5 : List AO := [⟨some 14, none, .fad 1 (.t 1)⟩,
  ⟨some 15, none, .ld false 1 (.t 14)⟩,
  ⟨some 16, none, .eq false 1 (.t 15) (.c (.it .i64 (-9223372036854775808)))⟩,
  ⟨some 13, none, .mv (.t 16)⟩]
noncomputable def r34_6 : List AO := [⟨some 17, none, .bld [(.it .i64 0), (.it .i64 0), (.st [])] []⟩,
  ⟨none, none, .sto 3 (.t 2) (.t 17)⟩,
  ⟨some 3, none, .mv (.c (.it .i64 8))⟩]
noncomputable def r34_7 : List AO := [⟨some 18, none, .fad 1 (.t 1)⟩,
  ⟨some 19, none, .ld false 1 (.t 18)⟩,
  ⟨some 20, none, .un .neg (.t 19)⟩,
  ⟨some 21, none, .call 27 [(.t 20)]⟩,
  ⟨none, none, .sto 3 (.t 2) (.t 21)⟩,
  ⟨some 3, none, .mv (.c (.it .i64 0))⟩]
set_option maxRecDepth 1000000 in
noncomputable def c34 : AFn := ⟨22, [(2, some 3), (3, none)],
  (.seq (.ops r34_0)
  (.seq (.block 0 (.seq (.ops r34_1)
  (.cond (.t 4) (.seq (.ops r34_2)
  .ret)
  (.seq (.ops r34_3)
  (.cond (.t 8) (.seq (.ops r34_4)
  .ret)
  (.seq (.ops r34_5)
  (.cond (.t 13) (.seq (.ops r34_6)
  .ret)
  .skip)))))))
  (.seq (.ops r34_7)
  .ret)))⟩
set_option maxRecDepth 1000000 in
theorem t34 : trF Try.prog 34 = some c34 := by kernel_rfl
/-- regrater/value.OfBool (0 b, 1 b) -/
noncomputable def r35_0 : List AO := [⟨some 2, none, .box 35 3 (.c (.agg [(.it .i64 0), (.it .i64 0), (.st [])]))⟩]
noncomputable def r35_1 : List AO := [⟨some 3, none, .mv (.t 0)⟩]
noncomputable def r35_2 : List AO := [⟨some 4, none, .bld [(.it .i64 0), (.it .i64 0), (.st [])] [(0, 1, (.c (.it .i64 1))), (1, 1, (.c (.it .i64 1)))]⟩,
  ⟨none, none, .sto 3 (.t 2) (.t 4)⟩]
noncomputable def r35_3 : List AO := [⟨some 5, none, .bld [(.it .i64 0), (.it .i64 0), (.st [])] [(0, 1, (.c (.it .i64 1)))]⟩,
  ⟨none, none, .sto 3 (.t 2) (.t 5)⟩]
set_option maxRecDepth 1000000 in
noncomputable def c35 : AFn := ⟨6, [(2, some 3)],
  (.seq (.ops r35_0)
  (.seq (.seq (.ops r35_1)
  (.cond (.t 3) (.seq (.ops r35_2)
  .ret)
  .skip))
  (.seq (.ops r35_3)
  .ret)))⟩
set_option maxRecDepth 1000000 in
theorem t35 : trF Try.prog 35 = some c35 := by kernel_rfl
/-- regrater/regraterref06.Good (0 v, 1 v) -/
noncomputable def r55_0 : List AO := [⟨some 1, none, .box 26 3 (.t 0)⟩,
  ⟨some 2, none, .mv (.c (.bl false))⟩]
noncomputable def r55_1 : List AO := [⟨some 3, none, .fad 0 (.t 1)⟩,
  ⟨some 4, none, .ld false 1 (.t 3)⟩,
  ⟨some 5, none, .eq false 1 (.t 4) (.c (.it .i64 0))⟩]
noncomputable def r55_2 : List AO := [⟨some 6, none, .fad 1 (.t 1)⟩,
  ⟨some 7, none, .ld false 1 (.t 6)⟩,
  ⟨some 8, none, .eq false 1 (.t 7) (.c (.it .i64 0))⟩,
  ⟨some 9, none, .mv (.t 8)⟩,
  ⟨some 10, some (9, true), .fad 2 (.t 1)⟩,
  ⟨some 11, some (9, true), .ld false 1 (.t 10)⟩,
  ⟨some 12, some (9, true), .eq false 2 (.t 11) (.c (.st []))⟩,
  ⟨some 13, none, .pick (.t 9) (.t 12) (.c (.bl false))⟩,
  ⟨some 2, none, .mv (.t 13)⟩]
noncomputable def r55_3 : List AO := [⟨some 14, none, .fad 0 (.t 1)⟩,
  ⟨some 15, none, .ld false 1 (.t 14)⟩,
  ⟨some 16, none, .eq false 1 (.t 15) (.c (.it .i64 1))⟩]
noncomputable def r55_4 : List AO := [⟨some 17, none, .fad 1 (.t 1)⟩,
  ⟨some 18, none, .ld false 1 (.t 17)⟩,
  ⟨some 19, none, .eq false 1 (.t 18) (.c (.it .i64 0))⟩,
  ⟨some 20, none, .mv (.t 19)⟩,
  ⟨some 21, some (20, false), .fad 1 (.t 1)⟩,
  ⟨some 22, some (20, false), .ld false 1 (.t 21)⟩,
  ⟨some 23, some (20, false), .eq false 1 (.t 22) (.c (.it .i64 1))⟩,
  ⟨some 24, none, .pick (.t 20) (.c (.bl true)) (.t 23)⟩,
  ⟨some 25, none, .mv (.t 24)⟩,
  ⟨some 26, some (25, true), .fad 2 (.t 1)⟩,
  ⟨some 27, some (25, true), .ld false 1 (.t 26)⟩,
  ⟨some 28, some (25, true), .eq false 2 (.t 27) (.c (.st []))⟩,
  ⟨some 29, none, .pick (.t 25) (.t 28) (.c (.bl false))⟩,
  ⟨some 2, none, .mv (.t 29)⟩]
noncomputable def r55_5 : List AO := [⟨some 30, none, .fad 0 (.t 1)⟩,
  ⟨some 31, none, .ld false 1 (.t 30)⟩,
  ⟨some 32, none, .eq false 1 (.t 31) (.c (.it .i64 2))⟩]
noncomputable def r55_6 : List AO := [⟨some 33, none, .fad 2 (.t 1)⟩,
  ⟨some 34, none, .ld false 1 (.t 33)⟩,
  ⟨some 35, none, .eq false 2 (.t 34) (.c (.st []))⟩,
  ⟨some 2, none, .mv (.t 35)⟩]
noncomputable def r55_7 : List AO := [⟨some 36, none, .fad 0 (.t 1)⟩,
  ⟨some 37, none, .ld false 1 (.t 36)⟩,
  ⟨some 38, none, .eq false 1 (.t 37) (.c (.it .i64 3))⟩,
  ⟨some 39, none, .mv (.t 38)⟩,
  ⟨some 40, some (39, true), .fad 1 (.t 1)⟩,
  ⟨some 41, some (39, true), .ld false 1 (.t 40)⟩,
  ⟨some 42, some (39, true), .eq false 1 (.t 41) (.c (.it .i64 0))⟩,
  ⟨some 43, none, .pick (.t 39) (.t 42) (.c (.bl false))⟩,
  ⟨some 44, none, .mv (.t 43)⟩,
  ⟨some 45, some (44, true), .fad 2 (.t 1)⟩,
  ⟨some 46, some (44, true), .ld false 1 (.t 45)⟩,
  ⟨some 47, some (44, true), .lens (.t 46)⟩,
  ⟨some 48, some (44, true), .bin .leq (.t 47) (.c (.it .i64 64))⟩,
  ⟨some 49, none, .pick (.t 44) (.t 48) (.c (.bl false))⟩,
  ⟨some 2, none, .mv (.t 49)⟩]
set_option maxRecDepth 1000000 in
noncomputable def c55 : AFn := ⟨50, [(2, none)],
  (.seq (.ops r55_0)
  (.seq (.seq (.ops r55_1)
  (.cond (.t 5) (.seq (.ops r55_2)
  .ret)
  .skip))
  (.seq (.seq (.ops r55_3)
  (.cond (.t 16) (.seq (.ops r55_4)
  .ret)
  .skip))
  (.seq (.seq (.ops r55_5)
  (.cond (.t 32) (.seq (.ops r55_6)
  .ret)
  .skip))
  (.seq (.ops r55_7)
  .ret)))))⟩
set_option maxRecDepth 1000000 in
theorem t55 : trF Try.prog 55 = some c55 := by kernel_rfl
/-- regrater/regraterref14.Good (0 s, 1 s, 3 i, 4 k) -/
noncomputable def r56_0 : List AO := [⟨some 2, none, .mv (.c (.bl false))⟩]
noncomputable def r56_1 : List AO := [⟨some 5, none, .mv (.t 0)⟩,
  ⟨some 6, none, .lens (.t 5)⟩,
  ⟨some 7, none, .bin .lss (.t 6) (.c (.it .i64 1))⟩,
  ⟨some 8, none, .mv (.t 7)⟩,
  ⟨some 9, some (8, false), .mv (.t 0)⟩,
  ⟨some 10, some (8, false), .lens (.t 9)⟩,
  ⟨some 11, some (8, false), .bin .gtr (.t 10) (.c (.it .i64 16))⟩,
  ⟨some 12, none, .pick (.t 8) (.c (.bl true)) (.t 11)⟩,
  ⟨some 13, none, .mv (.t 12)⟩,
  ⟨some 14, some (13, false), .mv (.t 0)⟩,
  ⟨some 15, some (13, false), .idxs (.t 14) (.c (.it .i64 0))⟩,
  ⟨some 16, some (13, false), .call 88 [(.t 15)]⟩,
  ⟨some 17, some (13, false), .eq true 1 (.t 16) (.c (.it .i64 1))⟩,
  ⟨some 18, none, .pick (.t 13) (.c (.bl true)) (.t 17)⟩]
noncomputable def r56_2 : List AO := [⟨some 2, none, .mv (.c (.bl false))⟩]
noncomputable def r56_3 : List AO := [⟨some 3, none, .mv (.c (.it .i64 0))⟩]
noncomputable def r56_4 : List AO := [⟨some 19, none, .mv (.t 3)⟩,
  ⟨some 20, none, .mv (.t 0)⟩,
  ⟨some 21, none, .lens (.t 20)⟩,
  ⟨some 22, none, .bin .lss (.t 19) (.t 21)⟩]
noncomputable def r56_5 : List AO := [⟨some 25, none, .mv (.t 0)⟩,
  ⟨some 26, none, .mv (.t 3)⟩,
  ⟨some 27, none, .idxs (.t 25) (.t 26)⟩,
  ⟨some 28, none, .call 88 [(.t 27)]⟩,
  ⟨some 4, none, .mv (.t 28)⟩]
noncomputable def r56_6 : List AO := [⟨some 29, none, .mv (.t 4)⟩,
  ⟨some 30, none, .eq true 1 (.t 29) (.c (.it .i64 1))⟩,
  ⟨some 31, none, .mv (.t 30)⟩,
  ⟨some 32, some (31, true), .mv (.t 4)⟩,
  ⟨some 33, some (31, true), .eq true 1 (.t 32) (.c (.it .i64 3))⟩,
  ⟨some 34, none, .pick (.t 31) (.t 33) (.c (.bl false))⟩,
  ⟨some 35, none, .mv (.t 34)⟩,
  ⟨some 36, some (35, true), .mv (.t 4)⟩,
  ⟨some 37, some (35, true), .eq true 1 (.t 36) (.c (.it .i64 4))⟩,
  ⟨some 38, none, .pick (.t 35) (.t 37) (.c (.bl false))⟩]
noncomputable def r56_7 : List AO := [⟨some 2, none, .mv (.c (.bl false))⟩]
noncomputable def r56_8 : List AO := [⟨some 23, none, .mv (.t 3)⟩,
  ⟨some 24, none, .bin .add (.t 23) (.c (.it .i64 1))⟩,
  ⟨some 3, none, .mv (.t 24)⟩]
noncomputable def r56_9 : List AO := [⟨some 2, none, .mv (.c (.bl true))⟩]
set_option maxRecDepth 1000000 in
noncomputable def c56 : AFn := ⟨39, [(2, none)],
  (.seq (.ops r56_0)
  (.seq (.seq (.ops r56_1)
  (.cond (.t 18) (.seq (.ops r56_2)
  .ret)
  .skip))
  (.seq (.seq (.ops r56_3)
  (.block 0 (.loop (.seq (.seq (.ops r56_4)
  (.cond (.t 22) .skip
  (.exit 0)))
  (.seq (.block 1 (.seq (.ops r56_5)
  (.seq (.ops r56_6)
  (.cond (.t 38) (.seq (.ops r56_7)
  .ret)
  .skip))))
  (.ops r56_8))))))
  (.seq (.ops r56_9)
  .ret))))⟩
set_option maxRecDepth 1000000 in
theorem t56 : trF Try.prog 56 = some c56 := by kernel_rfl
/-- regrater/check.binary (0 op, 1 a, 2 b, 3 op, 4 a, 5 b, 8 want, 9 out) -/
noncomputable def r57_0 : List AO := [⟨some 6, none, .mv (.c (.it .i64 0))⟩,
  ⟨some 7, none, .mv (.c (.it .i64 0))⟩]
noncomputable def r57_1 : List AO := [⟨some 8, none, .mv (.c (.it .i64 0))⟩,
  ⟨some 9, none, .mv (.c (.it .i64 0))⟩]
noncomputable def r57_2 : List AO := [⟨some 11, none, .mv (.t 0)⟩,
  ⟨some 12, none, .bin .leq (.t 11) (.c (.it .i64 6))⟩,
  ⟨some 10, none, .mv (.t 12)⟩]
noncomputable def r57_3 : List AO := [⟨some 13, none, .mv (.t 1)⟩,
  ⟨some 14, none, .mv (.t 2)⟩,
  ⟨some 15, none, .eq true 1 (.t 13) (.t 14)⟩,
  ⟨some 16, none, .mv (.t 15)⟩,
  ⟨some 17, some (16, true), .mv (.t 1)⟩,
  ⟨some 18, some (16, true), .eq true 1 (.t 17) (.c (.it .i64 0))⟩,
  ⟨some 19, none, .pick (.t 16) (.t 18) (.c (.bl false))⟩,
  ⟨some 20, none, .mv (.t 19)⟩,
  ⟨some 21, some (20, true), .mv (.t 2)⟩,
  ⟨some 22, some (20, true), .eq true 1 (.t 21) (.c (.it .i64 0))⟩,
  ⟨some 23, none, .pick (.t 20) (.t 22) (.c (.bl false))⟩]
noncomputable def r57_4 : List AO := [⟨some 6, none, .mv (.c (.it .i64 0))⟩,
  ⟨some 7, none, .mv (.c (.it .i64 5))⟩]
noncomputable def r57_5 : List AO := [⟨some 6, none, .mv (.c (.it .i64 1))⟩,
  ⟨some 7, none, .mv (.c (.it .i64 0))⟩]
noncomputable def r57_6 : List AO := [⟨some 25, none, .mv (.t 0)⟩,
  ⟨some 26, none, .eq false 1 (.t 25) (.c (.it .i64 13))⟩,
  ⟨some 27, none, .mv (.t 26)⟩,
  ⟨some 28, some (27, false), .mv (.t 0)⟩,
  ⟨some 29, some (27, false), .eq false 1 (.t 28) (.c (.it .i64 14))⟩,
  ⟨some 30, none, .pick (.t 27) (.c (.bl true)) (.t 29)⟩,
  ⟨some 24, none, .mv (.t 30)⟩]
noncomputable def r57_7 : List AO := [⟨some 8, none, .mv (.c (.it .i64 1))⟩,
  ⟨some 9, none, .mv (.c (.it .i64 1))⟩]
noncomputable def r57_8 : List AO := [⟨some 32, none, .mv (.t 0)⟩,
  ⟨some 33, none, .eq false 1 (.t 32) (.c (.it .i64 12))⟩,
  ⟨some 31, none, .mv (.t 33)⟩]
noncomputable def r57_9 : List AO := [⟨some 8, none, .mv (.c (.it .i64 3))⟩,
  ⟨some 9, none, .mv (.c (.it .i64 3))⟩]
noncomputable def r57_10 : List AO := [⟨some 8, none, .mv (.c (.it .i64 2))⟩,
  ⟨some 9, none, .mv (.c (.it .i64 2))⟩]
noncomputable def r57_11 : List AO := [⟨some 34, none, .mv (.t 1)⟩,
  ⟨some 35, none, .mv (.t 8)⟩,
  ⟨some 36, none, .call 89 [(.t 34), (.t 35)]⟩,
  ⟨some 37, none, .un .not (.t 36)⟩,
  ⟨some 38, none, .mv (.t 37)⟩,
  ⟨some 39, some (38, false), .mv (.t 2)⟩,
  ⟨some 40, some (38, false), .mv (.t 8)⟩,
  ⟨some 41, some (38, false), .call 89 [(.t 39), (.t 40)]⟩,
  ⟨some 42, some (38, false), .un .not (.t 41)⟩,
  ⟨some 43, none, .pick (.t 38) (.c (.bl true)) (.t 42)⟩]
noncomputable def r57_12 : List AO := [⟨some 6, none, .mv (.c (.it .i64 0))⟩,
  ⟨some 7, none, .mv (.c (.it .i64 5))⟩]
noncomputable def r57_13 : List AO := [⟨some 44, none, .mv (.t 9)⟩,
  ⟨some 6, none, .mv (.t 44)⟩,
  ⟨some 7, none, .mv (.c (.it .i64 0))⟩]
set_option maxRecDepth 1000000 in
noncomputable def c57 : AFn := ⟨45, [(6, none), (7, none)],
  (.seq (.ops r57_0)
  (.seq (.ops r57_1)
  (.seq (.block 0 (.seq (.ops r57_2)
  (.cond (.t 10) (.seq (.seq (.ops r57_3)
  (.cond (.t 23) (.seq (.ops r57_4)
  .ret)
  .skip))
  (.seq (.ops r57_5)
  .ret))
  (.seq (.ops r57_6)
  (.cond (.t 24) (.ops r57_7)
  (.seq (.ops r57_8)
  (.cond (.t 31) (.ops r57_9)
  (.ops r57_10))))))))
  (.seq (.seq (.ops r57_11)
  (.cond (.t 43) (.seq (.ops r57_12)
  .ret)
  .skip))
  (.seq (.ops r57_13)
  .ret)))))⟩
set_option maxRecDepth 1000000 in
theorem t57 : trF Try.prog 57 = some c57 := by kernel_rfl
/-- regrater/check.unary (0 kind, 1 want, 2 out, 3 kind, 4 want, 5 out) -/
noncomputable def r58_0 : List AO := [⟨some 6, none, .mv (.c (.it .i64 0))⟩,
  ⟨some 7, none, .mv (.c (.it .i64 0))⟩]
noncomputable def r58_1 : List AO := [⟨some 8, none, .mv (.t 1)⟩,
  ⟨some 9, none, .eq true 1 (.t 8) (.c (.it .i64 0))⟩,
  ⟨some 10, none, .mv (.t 9)⟩,
  ⟨some 11, some (10, true), .mv (.t 0)⟩,
  ⟨some 12, some (10, true), .mv (.t 1)⟩,
  ⟨some 13, some (10, true), .call 89 [(.t 11), (.t 12)]⟩,
  ⟨some 14, some (10, true), .un .not (.t 13)⟩,
  ⟨some 15, none, .pick (.t 10) (.t 14) (.c (.bl false))⟩]
noncomputable def r58_2 : List AO := [⟨some 6, none, .mv (.c (.it .i64 0))⟩,
  ⟨some 7, none, .mv (.c (.it .i64 5))⟩]
noncomputable def r58_3 : List AO := [⟨some 16, none, .mv (.t 2)⟩,
  ⟨some 6, none, .mv (.t 16)⟩,
  ⟨some 7, none, .mv (.c (.it .i64 0))⟩]
set_option maxRecDepth 1000000 in
noncomputable def c58 : AFn := ⟨17, [(6, none), (7, none)],
  (.seq (.ops r58_0)
  (.seq (.seq (.ops r58_1)
  (.cond (.t 15) (.seq (.ops r58_2)
  .ret)
  .skip))
  (.seq (.ops r58_3)
  .ret)))⟩
set_option maxRecDepth 1000000 in
theorem t58 : trF Try.prog 58 = some c58 := by kernel_rfl
/-- regrater/value.fit (0 op, 1 a, 2 b, 3 op, 4 a, 5 b, 7 kind) -/
noncomputable def r59_0 : List AO := [⟨some 4, none, .box 35 3 (.t 1)⟩,
  ⟨some 5, none, .box 35 3 (.t 2)⟩,
  ⟨some 6, none, .mv (.c (.bl false))⟩]
noncomputable def r59_1 : List AO := [⟨some 8, none, .mv (.t 0)⟩,
  ⟨some 9, none, .call 90 [(.t 8)]⟩,
  ⟨some 7, none, .mv (.t 9)⟩]
noncomputable def r59_2 : List AO := [⟨some 10, none, .mv (.t 7)⟩,
  ⟨some 11, none, .eq false 1 (.t 10) (.c (.it .i64 0))⟩]
noncomputable def r59_3 : List AO := [⟨some 12, none, .ld true 3 (.t 4)⟩,
  ⟨some 13, none, .call 61 [(.t 12)]⟩,
  ⟨some 14, none, .mv (.t 13)⟩,
  ⟨some 15, some (14, false), .ld true 3 (.t 5)⟩,
  ⟨some 16, some (14, false), .call 61 [(.t 15)]⟩,
  ⟨some 17, none, .pick (.t 14) (.c (.bl true)) (.t 16)⟩,
  ⟨some 18, none, .mv (.t 17)⟩,
  ⟨some 19, some (18, false), .fad 0 (.t 4)⟩,
  ⟨some 20, some (18, false), .ld false 1 (.t 19)⟩,
  ⟨some 21, some (18, false), .fad 0 (.t 5)⟩,
  ⟨some 22, some (18, false), .ld false 1 (.t 21)⟩,
  ⟨some 23, some (18, false), .eq false 1 (.t 20) (.t 22)⟩,
  ⟨some 24, none, .pick (.t 18) (.c (.bl true)) (.t 23)⟩,
  ⟨some 6, none, .mv (.t 24)⟩]
noncomputable def r59_4 : List AO := [⟨some 25, none, .ld true 3 (.t 4)⟩,
  ⟨some 26, none, .call 61 [(.t 25)]⟩,
  ⟨some 27, none, .mv (.t 26)⟩,
  ⟨some 28, some (27, false), .fad 0 (.t 4)⟩,
  ⟨some 29, some (27, false), .ld false 1 (.t 28)⟩,
  ⟨some 30, some (27, false), .mv (.t 7)⟩,
  ⟨some 31, some (27, false), .eq false 1 (.t 29) (.t 30)⟩,
  ⟨some 32, none, .pick (.t 27) (.c (.bl true)) (.t 31)⟩,
  ⟨some 33, none, .mv (.t 32)⟩,
  ⟨some 34, some (33, true), .ld true 3 (.t 5)⟩,
  ⟨some 35, some (33, true), .call 61 [(.t 34)]⟩,
  ⟨some 36, some (33, true), .mv (.t 35)⟩,
  ⟨some 37, some (36, false), .fad 0 (.t 5)⟩,
  ⟨some 38, some (36, false), .ld false 1 (.t 37)⟩,
  ⟨some 39, some (36, false), .mv (.t 7)⟩,
  ⟨some 40, some (36, false), .eq false 1 (.t 38) (.t 39)⟩,
  ⟨some 41, some (33, true), .pick (.t 36) (.c (.bl true)) (.t 40)⟩,
  ⟨some 42, none, .pick (.t 33) (.t 41) (.c (.bl false))⟩,
  ⟨some 6, none, .mv (.t 42)⟩]
set_option maxRecDepth 1000000 in
noncomputable def c59 : AFn := ⟨43, [(6, none)],
  (.seq (.ops r59_0)
  (.seq (.ops r59_1)
  (.seq (.seq (.ops r59_2)
  (.cond (.t 11) (.seq (.ops r59_3)
  .ret)
  .skip))
  (.seq (.ops r59_4)
  .ret))))⟩
set_option maxRecDepth 1000000 in
theorem t59 : trF Try.prog 59 = some c59 := by kernel_rfl
/-- regrater/value.logic (0 decides, 1 a, 2 b, 3 decides, 4 a, 5 b, 7 d) -/
noncomputable def r60_0 : List AO := [⟨some 4, none, .box 35 3 (.t 1)⟩,
  ⟨some 5, none, .box 35 3 (.t 2)⟩,
  ⟨some 6, none, .box 35 3 (.c (.agg [(.it .i64 0), (.it .i64 0), (.st [])]))⟩]
noncomputable def r60_1 : List AO := [⟨some 8, none, .mv (.t 0)⟩,
  ⟨some 9, none, .call 35 [(.t 8)]⟩,
  ⟨some 7, none, .box 35 3 (.c (.agg [(.it .i64 0), (.it .i64 0), (.st [])]))⟩,
  ⟨none, none, .sto 3 (.t 7) (.t 9)⟩]
noncomputable def r60_2 : List AO := [⟨some 11, none, .ld true 3 (.t 4)⟩,
  ⟨some 12, none, .ld true 3 (.t 7)⟩,
  ⟨some 13, none, .eqs false [1, 1, 2] (.t 11) (.t 12)⟩,
  ⟨some 14, none, .mv (.t 13)⟩,
  ⟨some 15, some (14, false), .ld true 3 (.t 5)⟩,
  ⟨some 16, some (14, false), .ld true 3 (.t 7)⟩,
  ⟨some 17, some (14, false), .eqs false [1, 1, 2] (.t 15) (.t 16)⟩,
  ⟨some 18, none, .pick (.t 14) (.c (.bl true)) (.t 17)⟩,
  ⟨some 10, none, .mv (.t 18)⟩]
noncomputable def r60_3 : List AO := [⟨some 19, none, .ld true 3 (.t 7)⟩,
  ⟨none, none, .sto 3 (.t 6) (.t 19)⟩]
noncomputable def r60_4 : List AO := [⟨some 21, none, .ld true 3 (.t 4)⟩,
  ⟨some 22, none, .call 61 [(.t 21)]⟩,
  ⟨some 23, none, .mv (.t 22)⟩,
  ⟨some 24, some (23, false), .ld true 3 (.t 5)⟩,
  ⟨some 25, some (23, false), .call 61 [(.t 24)]⟩,
  ⟨some 26, none, .pick (.t 23) (.c (.bl true)) (.t 25)⟩,
  ⟨some 20, none, .mv (.t 26)⟩]
noncomputable def r60_5 : List AO := [⟨some 27, none, .bld [(.it .i64 0), (.it .i64 0), (.st [])] []⟩,
  ⟨none, none, .sto 3 (.t 6) (.t 27)⟩]
noncomputable def r60_6 : List AO := [⟨some 28, none, .mv (.t 0)⟩,
  ⟨some 29, none, .un .not (.t 28)⟩,
  ⟨some 30, none, .call 35 [(.t 29)]⟩,
  ⟨none, none, .sto 3 (.t 6) (.t 30)⟩]
set_option maxRecDepth 1000000 in
noncomputable def c60 : AFn := ⟨31, [(6, some 3)],
  (.seq (.ops r60_0)
  (.seq (.seq (.ops r60_1)
  (.block 0 (.seq (.ops r60_2)
  (.cond (.t 10) (.seq (.ops r60_3)
  .ret)
  (.seq (.ops r60_4)
  (.cond (.t 20) (.seq (.ops r60_5)
  .ret)
  .skip))))))
  (.seq (.ops r60_6)
  .ret)))⟩
set_option maxRecDepth 1000000 in
theorem t60 : trF Try.prog 60 = some c60 := by kernel_rfl
/-- (regrater/value.Value).none (0 v, 1 v) -/
noncomputable def r61_0 : List AO := [⟨some 1, none, .box 35 3 (.t 0)⟩,
  ⟨some 2, none, .mv (.c (.bl false))⟩]
noncomputable def r61_1 : List AO := [⟨some 3, none, .fad 0 (.t 1)⟩,
  ⟨some 4, none, .ld false 1 (.t 3)⟩,
  ⟨some 5, none, .eq false 1 (.t 4) (.c (.it .i64 0))⟩,
  ⟨some 2, none, .mv (.t 5)⟩]
set_option maxRecDepth 1000000 in
noncomputable def c61 : AFn := ⟨6, [(2, none)],
  (.seq (.ops r61_0)
  (.seq (.ops r61_1)
  .ret))⟩
set_option maxRecDepth 1000000 in
theorem t61 : trF Try.prog 61 = some c61 := by kernel_rfl
/-- regrater/value.holds (0 op, 1 order, 2 op, 3 order) -/
noncomputable def r62_0 : List AO := [⟨some 4, none, .mv (.c (.bl false))⟩]
noncomputable def r62_1 : List AO := [⟨some 5, none, .mv (.t 0)⟩]
noncomputable def r62_2 : List AO := [⟨some 7, none, .eq false 1 (.t 5) (.c (.it .i64 1))⟩,
  ⟨some 6, none, .mv (.t 7)⟩]
noncomputable def r62_3 : List AO := [⟨some 8, none, .mv (.t 1)⟩,
  ⟨some 9, none, .eq false 1 (.t 8) (.c (.it .i64 0))⟩,
  ⟨some 4, none, .mv (.t 9)⟩]
noncomputable def r62_4 : List AO := [⟨some 11, none, .eq false 1 (.t 5) (.c (.it .i64 2))⟩,
  ⟨some 10, none, .mv (.t 11)⟩]
noncomputable def r62_5 : List AO := [⟨some 12, none, .mv (.t 1)⟩,
  ⟨some 13, none, .eq true 1 (.t 12) (.c (.it .i64 0))⟩,
  ⟨some 4, none, .mv (.t 13)⟩]
noncomputable def r62_6 : List AO := [⟨some 15, none, .eq false 1 (.t 5) (.c (.it .i64 3))⟩,
  ⟨some 14, none, .mv (.t 15)⟩]
noncomputable def r62_7 : List AO := [⟨some 16, none, .mv (.t 1)⟩,
  ⟨some 17, none, .bin .lss (.t 16) (.c (.it .i64 0))⟩,
  ⟨some 4, none, .mv (.t 17)⟩]
noncomputable def r62_8 : List AO := [⟨some 19, none, .eq false 1 (.t 5) (.c (.it .i64 4))⟩,
  ⟨some 18, none, .mv (.t 19)⟩]
noncomputable def r62_9 : List AO := [⟨some 20, none, .mv (.t 1)⟩,
  ⟨some 21, none, .bin .leq (.t 20) (.c (.it .i64 0))⟩,
  ⟨some 4, none, .mv (.t 21)⟩]
noncomputable def r62_10 : List AO := [⟨some 23, none, .eq false 1 (.t 5) (.c (.it .i64 5))⟩,
  ⟨some 22, none, .mv (.t 23)⟩]
noncomputable def r62_11 : List AO := [⟨some 24, none, .mv (.t 1)⟩,
  ⟨some 25, none, .bin .gtr (.t 24) (.c (.it .i64 0))⟩,
  ⟨some 4, none, .mv (.t 25)⟩]
noncomputable def r62_12 : List AO := [⟨some 26, none, .mv (.t 1)⟩,
  ⟨some 27, none, .bin .geq (.t 26) (.c (.it .i64 0))⟩,
  ⟨some 4, none, .mv (.t 27)⟩]
set_option maxRecDepth 1000000 in
noncomputable def c62 : AFn := ⟨28, [(4, none)],
  (.seq (.ops r62_0)
  (.seq (.seq (.ops r62_1)
  (.block 0 (.seq (.ops r62_2)
  (.cond (.t 6) (.seq (.ops r62_3)
  .ret)
  (.seq (.ops r62_4)
  (.cond (.t 10) (.seq (.ops r62_5)
  .ret)
  (.seq (.ops r62_6)
  (.cond (.t 14) (.seq (.ops r62_7)
  .ret)
  (.seq (.ops r62_8)
  (.cond (.t 18) (.seq (.ops r62_9)
  .ret)
  (.seq (.ops r62_10)
  (.cond (.t 22) (.seq (.ops r62_11)
  .ret)
  .skip))))))))))))
  (.seq (.ops r62_12)
  .ret)))⟩
set_option maxRecDepth 1000000 in
theorem t62 : trF Try.prog 62 = some c62 := by kernel_rfl
/-- regrater/value.Compare (0 a, 1 b, 2 a, 3 b) -/
noncomputable def r63_0 : List AO := [⟨some 2, none, .box 35 3 (.t 0)⟩,
  ⟨some 3, none, .box 35 3 (.t 1)⟩,
  ⟨some 4, none, .mv (.c (.it .i64 0))⟩]
noncomputable def r63_1 : List (AO × List Nat) := [(⟨some 5, none, .fad 0 (.t 2)⟩, []),
  (⟨some 6, none, .ld false 1 (.t 5)⟩, []),
  (⟨some 7, none, .fad 0 (.t 3)⟩, []),
  (⟨some 8, none, .ld false 1 (.t 7)⟩, []),
  (⟨some 9, none, .call 92 [(.t 6), (.t 8)]⟩, []),
  (⟨some 10, none, .fad 1 (.t 2)⟩, [4]),
  (⟨some 11, none, .ld false 1 (.t 10)⟩, [4]),
  (⟨some 12, none, .fad 1 (.t 3)⟩, [4]),
  (⟨some 13, none, .ld false 1 (.t 12)⟩, [4]),
  (⟨some 14, none, .call 93 [(.t 11), (.t 13)]⟩, []),
  (⟨some 15, none, .fad 2 (.t 2)⟩, [4, 9]),
  (⟨some 16, none, .ld false 1 (.t 15)⟩, [4, 9]),
  (⟨some 17, none, .fad 2 (.t 3)⟩, [4, 9]),
  (⟨some 18, none, .ld false 1 (.t 17)⟩, [4, 9]),
  (⟨some 19, none, .call 94 [(.t 16), (.t 18)]⟩, []),
  (⟨some 20, none, .bsl 3 1 3 [(.it .i64 0)] [(0, 1, (.t 9)), (1, 1, (.t 14)), (2, 1, (.t 19))]⟩, []),
  (⟨some 21, none, .call 91 [(.t 20)]⟩, []),
  (⟨some 4, none, .mv (.t 21)⟩, [])]
set_option maxRecDepth 1000000 in
noncomputable def c63 : AFn := ⟨22, [(4, none)],
  (.seq (.ops r63_0)
  (.seq (.drw r63_1)
  .ret))⟩
set_option maxRecDepth 1000000 in
theorem t63 : trF Try.prog 63 = some c63 := by kernel_rfl
/-- regrater/value.reckon (0 op, 1 a, 2 b, 3 op, 4 a, 5 b, 8 n, 9 ok) -/
noncomputable def r64_0 : List AO := [⟨some 6, none, .mv (.c (.it .i64 0))⟩,
  ⟨some 7, none, .mv (.c (.it .i64 0))⟩]
noncomputable def r64_1 : List AO := [⟨some 8, none, .mv (.c (.it .i64 0))⟩,
  ⟨some 9, none, .mv (.c (.bl true))⟩]
noncomputable def r64_2 : List AO := [⟨some 10, none, .mv (.t 0)⟩]
noncomputable def r64_3 : List AO := [⟨some 28, none, .eq false 1 (.t 10) (.c (.it .i64 7))⟩,
  ⟨some 27, none, .mv (.t 28)⟩]
noncomputable def r64_4 : List AO := [⟨some 29, none, .mv (.t 1)⟩,
  ⟨some 30, none, .mv (.t 2)⟩,
  ⟨some 31, none, .bin .add (.t 29) (.t 30)⟩,
  ⟨some 8, none, .mv (.t 31)⟩]
noncomputable def r64_5 : List AO := [⟨some 32, none, .mv (.t 8)⟩,
  ⟨some 33, none, .mv (.t 1)⟩,
  ⟨some 34, none, .bin .gtr (.t 32) (.t 33)⟩,
  ⟨some 35, none, .mv (.t 2)⟩,
  ⟨some 36, none, .bin .gtr (.t 35) (.c (.it .i64 0))⟩,
  ⟨some 37, none, .eq false 0 (.t 34) (.t 36)⟩,
  ⟨some 38, none, .mv (.t 37)⟩,
  ⟨some 39, some (38, false), .mv (.t 2)⟩,
  ⟨some 40, some (38, false), .eq false 1 (.t 39) (.c (.it .i64 0))⟩,
  ⟨some 41, none, .pick (.t 38) (.c (.bl true)) (.t 40)⟩,
  ⟨some 9, none, .mv (.t 41)⟩]
noncomputable def r64_6 : List AO := [⟨some 43, none, .eq false 1 (.t 10) (.c (.it .i64 8))⟩,
  ⟨some 42, none, .mv (.t 43)⟩]
noncomputable def r64_7 : List AO := [⟨some 44, none, .mv (.t 1)⟩,
  ⟨some 45, none, .mv (.t 2)⟩,
  ⟨some 46, none, .bin .sub (.t 44) (.t 45)⟩,
  ⟨some 8, none, .mv (.t 46)⟩]
noncomputable def r64_8 : List AO := [⟨some 47, none, .mv (.t 8)⟩,
  ⟨some 48, none, .mv (.t 1)⟩,
  ⟨some 49, none, .bin .lss (.t 47) (.t 48)⟩,
  ⟨some 50, none, .mv (.t 2)⟩,
  ⟨some 51, none, .bin .gtr (.t 50) (.c (.it .i64 0))⟩,
  ⟨some 52, none, .eq false 0 (.t 49) (.t 51)⟩,
  ⟨some 53, none, .mv (.t 52)⟩,
  ⟨some 54, some (53, false), .mv (.t 2)⟩,
  ⟨some 55, some (53, false), .eq false 1 (.t 54) (.c (.it .i64 0))⟩,
  ⟨some 56, none, .pick (.t 53) (.c (.bl true)) (.t 55)⟩,
  ⟨some 9, none, .mv (.t 56)⟩]
noncomputable def r64_9 : List AO := [⟨some 58, none, .eq false 1 (.t 10) (.c (.it .i64 9))⟩,
  ⟨some 57, none, .mv (.t 58)⟩]
noncomputable def r64_10 : List AO := [⟨some 60, none, .mv (.t 1)⟩,
  ⟨some 61, none, .mv (.t 2)⟩,
  ⟨some 62, none, .call 95 [(.t 60), (.t 61)]⟩,
  ⟨some 59, none, .mv (.t 62)⟩,
  ⟨some 63, none, .ext (.t 59) 0⟩,
  ⟨some 64, none, .ext (.t 59) 1⟩,
  ⟨some 8, none, .mv (.t 63)⟩,
  ⟨some 9, none, .mv (.t 64)⟩]
noncomputable def r64_11 : List AO := [⟨some 11, none, .mv (.t 2)⟩,
  ⟨some 12, none, .eq false 1 (.t 11) (.c (.it .i64 0))⟩]
noncomputable def r64_12 : List AO := [⟨some 6, none, .mv (.c (.it .i64 0))⟩,
  ⟨some 7, none, .mv (.c (.it .i64 9))⟩]
noncomputable def r64_13 : List AO := [⟨some 13, none, .mv (.t 0)⟩,
  ⟨some 14, none, .eq false 1 (.t 13) (.c (.it .i64 11))⟩]
noncomputable def r64_14 : List AO := [⟨some 15, none, .mv (.t 1)⟩,
  ⟨some 16, none, .mv (.t 2)⟩,
  ⟨some 17, none, .bin .rem (.t 15) (.t 16)⟩,
  ⟨some 6, none, .mv (.t 17)⟩,
  ⟨some 7, none, .mv (.c (.it .i64 0))⟩]
noncomputable def r64_15 : List AO := [⟨some 18, none, .mv (.t 1)⟩,
  ⟨some 19, none, .mv (.t 2)⟩,
  ⟨some 20, none, .bin .quo (.t 18) (.t 19)⟩,
  ⟨some 21, none, .mv (.t 1)⟩,
  ⟨some 22, none, .eq true 1 (.t 21) (.c (.it .i64 (-9223372036854775808)))⟩,
  ⟨some 23, none, .mv (.t 22)⟩,
  ⟨some 24, some (23, false), .mv (.t 2)⟩,
  ⟨some 25, some (23, false), .eq true 1 (.t 24) (.c (.it .i64 (-1)))⟩,
  ⟨some 26, none, .pick (.t 23) (.c (.bl true)) (.t 25)⟩,
  ⟨some 8, none, .mv (.t 20)⟩,
  ⟨some 9, none, .mv (.t 26)⟩]
noncomputable def r64_16 : List AO := [⟨some 65, none, .mv (.t 9)⟩,
  ⟨some 66, none, .un .not (.t 65)⟩]
noncomputable def r64_17 : List AO := [⟨some 6, none, .mv (.c (.it .i64 0))⟩,
  ⟨some 7, none, .mv (.c (.it .i64 8))⟩]
noncomputable def r64_18 : List AO := [⟨some 67, none, .mv (.t 8)⟩,
  ⟨some 6, none, .mv (.t 67)⟩,
  ⟨some 7, none, .mv (.c (.it .i64 0))⟩]
set_option maxRecDepth 1000000 in
noncomputable def c64 : AFn := ⟨68, [(6, none), (7, none)],
  (.seq (.ops r64_0)
  (.seq (.ops r64_1)
  (.seq (.seq (.ops r64_2)
  (.block 0 (.seq (.ops r64_3)
  (.cond (.t 27) (.seq (.ops r64_4)
  (.ops r64_5))
  (.seq (.ops r64_6)
  (.cond (.t 42) (.seq (.ops r64_7)
  (.ops r64_8))
  (.seq (.ops r64_9)
  (.cond (.t 57) (.ops r64_10)
  (.seq (.seq (.ops r64_11)
  (.cond (.t 12) (.seq (.ops r64_12)
  .ret)
  .skip))
  (.seq (.seq (.ops r64_13)
  (.cond (.t 14) (.seq (.ops r64_14)
  .ret)
  .skip))
  (.ops r64_15)))))))))))
  (.seq (.seq (.ops r64_16)
  (.cond (.t 66) (.seq (.ops r64_17)
  .ret)
  .skip))
  (.seq (.ops r64_18)
  .ret)))))⟩
set_option maxRecDepth 1000000 in
theorem t64 : trF Try.prog 64 = some c64 := by kernel_rfl
/-- (regrater/value.Value).True (0 v, 1 v) -/
noncomputable def r65_0 : List AO := [⟨some 1, none, .box 35 3 (.t 0)⟩,
  ⟨some 2, none, .mv (.c (.bl false))⟩]
noncomputable def r65_1 : List (AO × List Nat) := [(⟨some 3, none, .ld true 3 (.t 1)⟩, []),
  (⟨some 4, none, .call 35 [(.c (.bl true))]⟩, [0]),
  (⟨some 5, none, .eqs false [1, 1, 2] (.t 3) (.t 4)⟩, []),
  (⟨some 2, none, .mv (.t 5)⟩, [])]
set_option maxRecDepth 1000000 in
noncomputable def c65 : AFn := ⟨6, [(2, none)],
  (.seq (.ops r65_0)
  (.seq (.drw r65_1)
  .ret))⟩
set_option maxRecDepth 1000000 in
theorem t65 : trF Try.prog 65 = some c65 := by kernel_rfl
/-- regrater/regraterref14.class (0 c, 1 c) -/
noncomputable def r88_0 : List AO := [⟨some 2, none, .mv (.c (.it .i64 0))⟩]
noncomputable def r88_1 : List AO := [⟨some 4, none, .mv (.t 0)⟩,
  ⟨some 5, none, .bin .geq (.t 4) (.c (.it .u8 97))⟩,
  ⟨some 6, none, .mv (.t 5)⟩,
  ⟨some 7, some (6, true), .mv (.t 0)⟩,
  ⟨some 8, some (6, true), .bin .leq (.t 7) (.c (.it .u8 122))⟩,
  ⟨some 9, none, .pick (.t 6) (.t 8) (.c (.bl false))⟩,
  ⟨some 3, none, .mv (.t 9)⟩]
noncomputable def r88_2 : List AO := [⟨some 2, none, .mv (.c (.it .i64 1))⟩]
noncomputable def r88_3 : List AO := [⟨some 11, none, .mv (.t 0)⟩,
  ⟨some 12, none, .bin .geq (.t 11) (.c (.it .u8 65))⟩,
  ⟨some 13, none, .mv (.t 12)⟩,
  ⟨some 14, some (13, true), .mv (.t 0)⟩,
  ⟨some 15, some (13, true), .bin .leq (.t 14) (.c (.it .u8 90))⟩,
  ⟨some 16, none, .pick (.t 13) (.t 15) (.c (.bl false))⟩,
  ⟨some 10, none, .mv (.t 16)⟩]
noncomputable def r88_4 : List AO := [⟨some 2, none, .mv (.c (.it .i64 2))⟩]
noncomputable def r88_5 : List AO := [⟨some 18, none, .mv (.t 0)⟩,
  ⟨some 19, none, .bin .geq (.t 18) (.c (.it .u8 48))⟩,
  ⟨some 20, none, .mv (.t 19)⟩,
  ⟨some 21, some (20, true), .mv (.t 0)⟩,
  ⟨some 22, some (20, true), .bin .leq (.t 21) (.c (.it .u8 57))⟩,
  ⟨some 23, none, .pick (.t 20) (.t 22) (.c (.bl false))⟩,
  ⟨some 17, none, .mv (.t 23)⟩]
noncomputable def r88_6 : List AO := [⟨some 2, none, .mv (.c (.it .i64 3))⟩]
noncomputable def r88_7 : List AO := [⟨some 25, none, .mv (.t 0)⟩,
  ⟨some 26, none, .eq false 1 (.t 25) (.c (.it .u8 95))⟩,
  ⟨some 24, none, .mv (.t 26)⟩]
noncomputable def r88_8 : List AO := [⟨some 2, none, .mv (.c (.it .i64 4))⟩]
noncomputable def r88_9 : List AO := [⟨some 28, none, .mv (.t 0)⟩,
  ⟨some 29, none, .eq false 1 (.t 28) (.c (.it .u8 39))⟩,
  ⟨some 27, none, .mv (.t 29)⟩]
noncomputable def r88_10 : List AO := [⟨some 2, none, .mv (.c (.it .i64 5))⟩]
noncomputable def r88_11 : List AO := [⟨some 31, none, .mv (.t 0)⟩,
  ⟨some 32, none, .eq false 1 (.t 31) (.c (.it .u8 32))⟩,
  ⟨some 33, none, .mv (.t 32)⟩,
  ⟨some 34, some (33, false), .mv (.t 0)⟩,
  ⟨some 35, some (33, false), .eq false 1 (.t 34) (.c (.it .u8 10))⟩,
  ⟨some 36, none, .pick (.t 33) (.c (.bl true)) (.t 35)⟩,
  ⟨some 30, none, .mv (.t 36)⟩]
noncomputable def r88_12 : List AO := [⟨some 2, none, .mv (.c (.it .i64 6))⟩]
noncomputable def r88_13 : List AO := [⟨some 2, none, .mv (.c (.it .i64 0))⟩]
set_option maxRecDepth 1000000 in
noncomputable def c88 : AFn := ⟨37, [(2, none)],
  (.seq (.ops r88_0)
  (.seq (.block 0 (.seq (.ops r88_1)
  (.cond (.t 3) (.seq (.ops r88_2)
  .ret)
  (.seq (.ops r88_3)
  (.cond (.t 10) (.seq (.ops r88_4)
  .ret)
  (.seq (.ops r88_5)
  (.cond (.t 17) (.seq (.ops r88_6)
  .ret)
  (.seq (.ops r88_7)
  (.cond (.t 24) (.seq (.ops r88_8)
  .ret)
  (.seq (.ops r88_9)
  (.cond (.t 27) (.seq (.ops r88_10)
  .ret)
  (.seq (.ops r88_11)
  (.cond (.t 30) (.seq (.ops r88_12)
  .ret)
  .skip)))))))))))))
  (.seq (.ops r88_13)
  .ret)))⟩
set_option maxRecDepth 1000000 in
theorem t88 : trF Try.prog 88 = some c88 := by kernel_rfl
/-- regrater/check.is (0 kind, 1 want, 2 kind, 3 want) -/
noncomputable def r89_0 : List AO := [⟨some 4, none, .mv (.c (.bl false))⟩]
noncomputable def r89_1 : List AO := [⟨some 5, none, .mv (.t 0)⟩,
  ⟨some 6, none, .eq false 1 (.t 5) (.c (.it .i64 0))⟩,
  ⟨some 7, none, .mv (.t 6)⟩,
  ⟨some 8, some (7, false), .mv (.t 0)⟩,
  ⟨some 9, some (7, false), .mv (.t 1)⟩,
  ⟨some 10, some (7, false), .eq false 1 (.t 8) (.t 9)⟩,
  ⟨some 11, none, .pick (.t 7) (.c (.bl true)) (.t 10)⟩,
  ⟨some 4, none, .mv (.t 11)⟩]
set_option maxRecDepth 1000000 in
noncomputable def c89 : AFn := ⟨12, [(4, none)],
  (.seq (.ops r89_0)
  (.seq (.ops r89_1)
  .ret))⟩
set_option maxRecDepth 1000000 in
theorem t89 : trF Try.prog 89 = some c89 := by kernel_rfl
/-- regrater/value.takes (0 op, 1 op) -/
noncomputable def r90_0 : List AO := [⟨some 2, none, .mv (.c (.it .i64 0))⟩]
noncomputable def r90_1 : List AO := [⟨some 4, none, .mv (.t 0)⟩,
  ⟨some 5, none, .bin .geq (.t 4) (.c (.it .i64 7))⟩,
  ⟨some 6, none, .mv (.t 5)⟩,
  ⟨some 7, some (6, true), .mv (.t 0)⟩,
  ⟨some 8, some (6, true), .bin .leq (.t 7) (.c (.it .i64 11))⟩,
  ⟨some 9, none, .pick (.t 6) (.t 8) (.c (.bl false))⟩,
  ⟨some 3, none, .mv (.t 9)⟩]
noncomputable def r90_2 : List AO := [⟨some 2, none, .mv (.c (.it .i64 2))⟩]
noncomputable def r90_3 : List AO := [⟨some 11, none, .mv (.t 0)⟩,
  ⟨some 12, none, .eq false 1 (.t 11) (.c (.it .i64 12))⟩,
  ⟨some 10, none, .mv (.t 12)⟩]
noncomputable def r90_4 : List AO := [⟨some 2, none, .mv (.c (.it .i64 3))⟩]
noncomputable def r90_5 : List AO := [⟨some 14, none, .mv (.t 0)⟩,
  ⟨some 15, none, .eq false 1 (.t 14) (.c (.it .i64 13))⟩,
  ⟨some 16, none, .mv (.t 15)⟩,
  ⟨some 17, some (16, false), .mv (.t 0)⟩,
  ⟨some 18, some (16, false), .eq false 1 (.t 17) (.c (.it .i64 14))⟩,
  ⟨some 19, none, .pick (.t 16) (.c (.bl true)) (.t 18)⟩,
  ⟨some 13, none, .mv (.t 19)⟩]
noncomputable def r90_6 : List AO := [⟨some 2, none, .mv (.c (.it .i64 1))⟩]
noncomputable def r90_7 : List AO := [⟨some 2, none, .mv (.c (.it .i64 0))⟩]
set_option maxRecDepth 1000000 in
noncomputable def c90 : AFn := ⟨20, [(2, none)],
  (.seq (.ops r90_0)
  (.seq (.block 0 (.seq (.ops r90_1)
  (.cond (.t 3) (.seq (.ops r90_2)
  .ret)
  (.seq (.ops r90_3)
  (.cond (.t 10) (.seq (.ops r90_4)
  .ret)
  (.seq (.ops r90_5)
  (.cond (.t 13) (.seq (.ops r90_6)
  .ret)
  .skip)))))))
  (.seq (.ops r90_7)
  .ret)))⟩
set_option maxRecDepth 1000000 in
theorem t90 : trF Try.prog 90 = some c90 := by kernel_rfl
/-- cmp.Or[int] (0 vals, 1 vals, 3 zero, 4 _, 5 val) -/
noncomputable def r91_0 : List AO := [⟨some 2, none, .mv (.c (.it .i64 0))⟩]
noncomputable def r91_1 : List AO := [⟨some 3, none, .mv (.c (.it .i64 0))⟩]
noncomputable def r91_2 : List AO := [⟨some 6, none, .mv (.t 0)⟩,
  ⟨some 7, none, .len (.t 6)⟩,
  ⟨some 8, none, .mv (.c (.it .i64 0))⟩]
noncomputable def r91_3 : List AO := [⟨some 9, none, .bin .lss (.t 8) (.t 7)⟩]
noncomputable def r91_4 : List AO := [⟨some 10, none, .iad 1 (.t 6) (.t 8)⟩,
  ⟨some 11, none, .ld false 1 (.t 10)⟩,
  ⟨some 5, none, .mv (.t 11)⟩]
noncomputable def r91_5 : List AO := [⟨some 12, none, .mv (.t 5)⟩,
  ⟨some 13, none, .mv (.t 3)⟩,
  ⟨some 14, none, .eq true 1 (.t 12) (.t 13)⟩]
noncomputable def r91_6 : List AO := [⟨some 15, none, .mv (.t 5)⟩,
  ⟨some 2, none, .mv (.t 15)⟩]
noncomputable def r91_7 : List AO := [⟨some 16, none, .bin .add (.t 8) (.c (.it .i64 1))⟩,
  ⟨some 8, none, .mv (.t 16)⟩]
noncomputable def r91_8 : List AO := [⟨some 17, none, .mv (.t 3)⟩,
  ⟨some 2, none, .mv (.t 17)⟩]
set_option maxRecDepth 1000000 in
noncomputable def c91 : AFn := ⟨18, [(2, none)],
  (.seq (.ops r91_0)
  (.seq (.ops r91_1)
  (.seq (.seq (.ops r91_2)
  (.block 0 (.loop (.seq (.ops r91_3)
  (.seq (.cond (.t 9) .skip
  (.exit 0))
  (.seq (.block 1 (.seq (.ops r91_4)
  (.seq (.ops r91_5)
  (.cond (.t 14) (.seq (.ops r91_6)
  .ret)
  .skip))))
  (.ops r91_7)))))))
  (.seq (.ops r91_8)
  .ret))))⟩
set_option maxRecDepth 1000000 in
theorem t91 : trF Try.prog 91 = some c91 := by kernel_rfl
/-- cmp.Compare[int] (0 x, 1 y, 2 x, 3 y, 5 xNaN, 6 yNaN) -/
noncomputable def r92_0 : List AO := [⟨some 4, none, .mv (.c (.it .i64 0))⟩]
noncomputable def r92_1 : List AO := [⟨some 7, none, .mv (.t 0)⟩,
  ⟨some 8, none, .call 105 [(.t 7)]⟩,
  ⟨some 5, none, .mv (.t 8)⟩]
noncomputable def r92_2 : List AO := [⟨some 9, none, .mv (.t 1)⟩,
  ⟨some 10, none, .call 105 [(.t 9)]⟩,
  ⟨some 6, none, .mv (.t 10)⟩]
noncomputable def r92_3 : List AO := [⟨some 11, none, .mv (.t 5)⟩]
noncomputable def r92_4 : List AO := [⟨some 12, none, .mv (.t 6)⟩]
noncomputable def r92_5 : List AO := [⟨some 4, none, .mv (.c (.it .i64 0))⟩]
noncomputable def r92_6 : List AO := [⟨some 4, none, .mv (.c (.it .i64 (-1)))⟩]
noncomputable def r92_7 : List AO := [⟨some 13, none, .mv (.t 6)⟩]
noncomputable def r92_8 : List AO := [⟨some 4, none, .mv (.c (.it .i64 1))⟩]
noncomputable def r92_9 : List AO := [⟨some 14, none, .mv (.t 0)⟩,
  ⟨some 15, none, .mv (.t 1)⟩,
  ⟨some 16, none, .bin .lss (.t 14) (.t 15)⟩]
noncomputable def r92_10 : List AO := [⟨some 4, none, .mv (.c (.it .i64 (-1)))⟩]
noncomputable def r92_11 : List AO := [⟨some 17, none, .mv (.t 0)⟩,
  ⟨some 18, none, .mv (.t 1)⟩,
  ⟨some 19, none, .bin .gtr (.t 17) (.t 18)⟩]
noncomputable def r92_12 : List AO := [⟨some 4, none, .mv (.c (.it .i64 1))⟩]
noncomputable def r92_13 : List AO := [⟨some 4, none, .mv (.c (.it .i64 0))⟩]
set_option maxRecDepth 1000000 in
noncomputable def c92 : AFn := ⟨20, [(4, none)],
  (.seq (.ops r92_0)
  (.seq (.ops r92_1)
  (.seq (.ops r92_2)
  (.seq (.seq (.ops r92_3)
  (.cond (.t 11) (.seq (.seq (.ops r92_4)
  (.cond (.t 12) (.seq (.ops r92_5)
  .ret)
  .skip))
  (.seq (.ops r92_6)
  .ret))
  .skip))
  (.seq (.seq (.ops r92_7)
  (.cond (.t 13) (.seq (.ops r92_8)
  .ret)
  .skip))
  (.seq (.seq (.ops r92_9)
  (.cond (.t 16) (.seq (.ops r92_10)
  .ret)
  .skip))
  (.seq (.seq (.ops r92_11)
  (.cond (.t 19) (.seq (.ops r92_12)
  .ret)
  .skip))
  (.seq (.ops r92_13)
  .ret))))))))⟩
set_option maxRecDepth 1000000 in
theorem t92 : trF Try.prog 92 = some c92 := by kernel_rfl
/-- cmp.Compare[int64] (0 x, 1 y, 2 x, 3 y, 5 xNaN, 6 yNaN) -/
noncomputable def r93_0 : List AO := [⟨some 4, none, .mv (.c (.it .i64 0))⟩]
noncomputable def r93_1 : List AO := [⟨some 7, none, .mv (.t 0)⟩,
  ⟨some 8, none, .call 106 [(.t 7)]⟩,
  ⟨some 5, none, .mv (.t 8)⟩]
noncomputable def r93_2 : List AO := [⟨some 9, none, .mv (.t 1)⟩,
  ⟨some 10, none, .call 106 [(.t 9)]⟩,
  ⟨some 6, none, .mv (.t 10)⟩]
noncomputable def r93_3 : List AO := [⟨some 11, none, .mv (.t 5)⟩]
noncomputable def r93_4 : List AO := [⟨some 12, none, .mv (.t 6)⟩]
noncomputable def r93_5 : List AO := [⟨some 4, none, .mv (.c (.it .i64 0))⟩]
noncomputable def r93_6 : List AO := [⟨some 4, none, .mv (.c (.it .i64 (-1)))⟩]
noncomputable def r93_7 : List AO := [⟨some 13, none, .mv (.t 6)⟩]
noncomputable def r93_8 : List AO := [⟨some 4, none, .mv (.c (.it .i64 1))⟩]
noncomputable def r93_9 : List AO := [⟨some 14, none, .mv (.t 0)⟩,
  ⟨some 15, none, .mv (.t 1)⟩,
  ⟨some 16, none, .bin .lss (.t 14) (.t 15)⟩]
noncomputable def r93_10 : List AO := [⟨some 4, none, .mv (.c (.it .i64 (-1)))⟩]
noncomputable def r93_11 : List AO := [⟨some 17, none, .mv (.t 0)⟩,
  ⟨some 18, none, .mv (.t 1)⟩,
  ⟨some 19, none, .bin .gtr (.t 17) (.t 18)⟩]
noncomputable def r93_12 : List AO := [⟨some 4, none, .mv (.c (.it .i64 1))⟩]
noncomputable def r93_13 : List AO := [⟨some 4, none, .mv (.c (.it .i64 0))⟩]
set_option maxRecDepth 1000000 in
noncomputable def c93 : AFn := ⟨20, [(4, none)],
  (.seq (.ops r93_0)
  (.seq (.ops r93_1)
  (.seq (.ops r93_2)
  (.seq (.seq (.ops r93_3)
  (.cond (.t 11) (.seq (.seq (.ops r93_4)
  (.cond (.t 12) (.seq (.ops r93_5)
  .ret)
  .skip))
  (.seq (.ops r93_6)
  .ret))
  .skip))
  (.seq (.seq (.ops r93_7)
  (.cond (.t 13) (.seq (.ops r93_8)
  .ret)
  .skip))
  (.seq (.seq (.ops r93_9)
  (.cond (.t 16) (.seq (.ops r93_10)
  .ret)
  .skip))
  (.seq (.seq (.ops r93_11)
  (.cond (.t 19) (.seq (.ops r93_12)
  .ret)
  .skip))
  (.seq (.ops r93_13)
  .ret))))))))⟩
set_option maxRecDepth 1000000 in
theorem t93 : trF Try.prog 93 = some c93 := by kernel_rfl
/-- cmp.Compare[string] (0 x, 1 y, 2 x, 3 y, 5 xNaN, 6 yNaN) -/
noncomputable def r94_0 : List AO := [⟨some 4, none, .mv (.c (.it .i64 0))⟩]
noncomputable def r94_1 : List AO := [⟨some 7, none, .mv (.t 0)⟩,
  ⟨some 8, none, .call 107 [(.t 7)]⟩,
  ⟨some 5, none, .mv (.t 8)⟩]
noncomputable def r94_2 : List AO := [⟨some 9, none, .mv (.t 1)⟩,
  ⟨some 10, none, .call 107 [(.t 9)]⟩,
  ⟨some 6, none, .mv (.t 10)⟩]
noncomputable def r94_3 : List AO := [⟨some 11, none, .mv (.t 5)⟩]
noncomputable def r94_4 : List AO := [⟨some 12, none, .mv (.t 6)⟩]
noncomputable def r94_5 : List AO := [⟨some 4, none, .mv (.c (.it .i64 0))⟩]
noncomputable def r94_6 : List AO := [⟨some 4, none, .mv (.c (.it .i64 (-1)))⟩]
noncomputable def r94_7 : List AO := [⟨some 13, none, .mv (.t 6)⟩]
noncomputable def r94_8 : List AO := [⟨some 4, none, .mv (.c (.it .i64 1))⟩]
noncomputable def r94_9 : List AO := [⟨some 14, none, .mv (.t 0)⟩,
  ⟨some 15, none, .mv (.t 1)⟩,
  ⟨some 16, none, .bin .lss (.t 14) (.t 15)⟩]
noncomputable def r94_10 : List AO := [⟨some 4, none, .mv (.c (.it .i64 (-1)))⟩]
noncomputable def r94_11 : List AO := [⟨some 17, none, .mv (.t 0)⟩,
  ⟨some 18, none, .mv (.t 1)⟩,
  ⟨some 19, none, .bin .gtr (.t 17) (.t 18)⟩]
noncomputable def r94_12 : List AO := [⟨some 4, none, .mv (.c (.it .i64 1))⟩]
noncomputable def r94_13 : List AO := [⟨some 4, none, .mv (.c (.it .i64 0))⟩]
set_option maxRecDepth 1000000 in
noncomputable def c94 : AFn := ⟨20, [(4, none)],
  (.seq (.ops r94_0)
  (.seq (.ops r94_1)
  (.seq (.ops r94_2)
  (.seq (.seq (.ops r94_3)
  (.cond (.t 11) (.seq (.seq (.ops r94_4)
  (.cond (.t 12) (.seq (.ops r94_5)
  .ret)
  .skip))
  (.seq (.ops r94_6)
  .ret))
  .skip))
  (.seq (.seq (.ops r94_7)
  (.cond (.t 13) (.seq (.ops r94_8)
  .ret)
  .skip))
  (.seq (.seq (.ops r94_9)
  (.cond (.t 16) (.seq (.ops r94_10)
  .ret)
  .skip))
  (.seq (.seq (.ops r94_11)
  (.cond (.t 19) (.seq (.ops r94_12)
  .ret)
  .skip))
  (.seq (.ops r94_13)
  .ret))))))))⟩
set_option maxRecDepth 1000000 in
theorem t94 : trF Try.prog 94 = some c94 := by kernel_rfl
/-- regrater/value.product (0 a, 1 b, 2 a, 3 b, 6 high, 7 low) -/
noncomputable def r95_0 : List AO := [⟨some 4, none, .mv (.c (.it .i64 0))⟩,
  ⟨some 5, none, .mv (.c (.bl false))⟩]
noncomputable def r95_1 : List AO := [⟨some 9, none, .mv (.t 0)⟩,
  ⟨some 10, none, .mv (.t 0)⟩,
  ⟨some 11, none, .un .neg (.t 10)⟩,
  ⟨some 12, none, .mnx true [(.t 9), (.t 11)]⟩,
  ⟨some 13, none, .cvi .u64 (.t 12)⟩,
  ⟨some 14, none, .mv (.t 1)⟩,
  ⟨some 15, none, .mv (.t 1)⟩,
  ⟨some 16, none, .un .neg (.t 15)⟩,
  ⟨some 17, none, .mnx true [(.t 14), (.t 16)]⟩,
  ⟨some 18, none, .cvi .u64 (.t 17)⟩,
  ⟨some 19, none, .call 108 [(.t 13), (.t 18)]⟩,
  ⟨some 8, none, .mv (.t 19)⟩,
  ⟨some 20, none, .ext (.t 8) 0⟩,
  ⟨some 21, none, .ext (.t 8) 1⟩,
  ⟨some 6, none, .mv (.t 20)⟩,
  ⟨some 7, none, .mv (.t 21)⟩]
noncomputable def r95_2 : List AO := [⟨some 22, none, .mv (.t 0)⟩,
  ⟨some 23, none, .bin .lss (.t 22) (.c (.it .i64 0))⟩,
  ⟨some 24, none, .mv (.t 1)⟩,
  ⟨some 25, none, .bin .lss (.t 24) (.c (.it .i64 0))⟩,
  ⟨some 26, none, .eq true 0 (.t 23) (.t 25)⟩]
noncomputable def r95_3 : List AO := [⟨some 27, none, .mv (.t 7)⟩,
  ⟨some 28, none, .cvi .i64 (.t 27)⟩,
  ⟨some 29, none, .un .neg (.t 28)⟩,
  ⟨some 30, none, .mv (.t 6)⟩,
  ⟨some 31, none, .eq false 1 (.t 30) (.c (.it .u64 0))⟩,
  ⟨some 32, none, .mv (.t 31)⟩,
  ⟨some 33, some (32, true), .mv (.t 7)⟩,
  ⟨some 34, some (32, true), .bin .leq (.t 33) (.c (.it .u64 9223372036854775808))⟩,
  ⟨some 35, none, .pick (.t 32) (.t 34) (.c (.bl false))⟩,
  ⟨some 4, none, .mv (.t 29)⟩,
  ⟨some 5, none, .mv (.t 35)⟩]
noncomputable def r95_4 : List AO := [⟨some 36, none, .mv (.t 7)⟩,
  ⟨some 37, none, .cvi .i64 (.t 36)⟩,
  ⟨some 38, none, .mv (.t 6)⟩,
  ⟨some 39, none, .eq false 1 (.t 38) (.c (.it .u64 0))⟩,
  ⟨some 40, none, .mv (.t 39)⟩,
  ⟨some 41, some (40, true), .mv (.t 7)⟩,
  ⟨some 42, some (40, true), .bin .leq (.t 41) (.c (.it .u64 9223372036854775807))⟩,
  ⟨some 43, none, .pick (.t 40) (.t 42) (.c (.bl false))⟩,
  ⟨some 4, none, .mv (.t 37)⟩,
  ⟨some 5, none, .mv (.t 43)⟩]
set_option maxRecDepth 1000000 in
noncomputable def c95 : AFn := ⟨44, [(4, none), (5, none)],
  (.seq (.ops r95_0)
  (.seq (.ops r95_1)
  (.seq (.seq (.ops r95_2)
  (.cond (.t 26) (.seq (.ops r95_3)
  .ret)
  .skip))
  (.seq (.ops r95_4)
  .ret))))⟩
set_option maxRecDepth 1000000 in
theorem t95 : trF Try.prog 95 = some c95 := by kernel_rfl
/-- cmp.isNaN[int] (0 x, 1 x) -/
noncomputable def r105_0 : List AO := [⟨some 2, none, .mv (.c (.bl false))⟩]
noncomputable def r105_1 : List AO := [⟨some 3, none, .mv (.t 0)⟩,
  ⟨some 4, none, .mv (.t 0)⟩,
  ⟨some 5, none, .eq true 1 (.t 3) (.t 4)⟩,
  ⟨some 2, none, .mv (.t 5)⟩]
set_option maxRecDepth 1000000 in
noncomputable def c105 : AFn := ⟨6, [(2, none)],
  (.seq (.ops r105_0)
  (.seq (.ops r105_1)
  .ret))⟩
set_option maxRecDepth 1000000 in
theorem t105 : trF Try.prog 105 = some c105 := by kernel_rfl
/-- cmp.isNaN[int64] (0 x, 1 x) -/
noncomputable def r106_0 : List AO := [⟨some 2, none, .mv (.c (.bl false))⟩]
noncomputable def r106_1 : List AO := [⟨some 3, none, .mv (.t 0)⟩,
  ⟨some 4, none, .mv (.t 0)⟩,
  ⟨some 5, none, .eq true 1 (.t 3) (.t 4)⟩,
  ⟨some 2, none, .mv (.t 5)⟩]
set_option maxRecDepth 1000000 in
noncomputable def c106 : AFn := ⟨6, [(2, none)],
  (.seq (.ops r106_0)
  (.seq (.ops r106_1)
  .ret))⟩
set_option maxRecDepth 1000000 in
theorem t106 : trF Try.prog 106 = some c106 := by kernel_rfl
/-- cmp.isNaN[string] (0 x, 1 x) -/
noncomputable def r107_0 : List AO := [⟨some 2, none, .mv (.c (.bl false))⟩]
noncomputable def r107_1 : List AO := [⟨some 3, none, .mv (.t 0)⟩,
  ⟨some 4, none, .mv (.t 0)⟩,
  ⟨some 5, none, .eq true 2 (.t 3) (.t 4)⟩,
  ⟨some 2, none, .mv (.t 5)⟩]
set_option maxRecDepth 1000000 in
noncomputable def c107 : AFn := ⟨6, [(2, none)],
  (.seq (.ops r107_0)
  (.seq (.ops r107_1)
  .ret))⟩
set_option maxRecDepth 1000000 in
theorem t107 : trF Try.prog 107 = some c107 := by kernel_rfl
/-- math/bits.Mul64 (0 x, 1 y, 2 x, 3 y, 4 hi, 5 lo, 6 x0, 7 x1, 8 y0, 9 y1, 10 w0, 11 t, 12 w1, 13 w2) -/
noncomputable def r108_0 : List AO := [⟨some 4, none, .mv (.c (.it .u64 0))⟩,
  ⟨some 5, none, .mv (.c (.it .u64 0))⟩]
noncomputable def r108_1 : List AO := [⟨some 14, none, .mv (.t 0)⟩,
  ⟨some 15, none, .bin .and (.t 14) (.c (.it .u64 4294967295))⟩,
  ⟨some 6, none, .mv (.t 15)⟩]
noncomputable def r108_2 : List AO := [⟨some 16, none, .mv (.t 0)⟩,
  ⟨some 17, none, .bin .shr (.t 16) (.c (.it .u64 32))⟩,
  ⟨some 7, none, .mv (.t 17)⟩]
noncomputable def r108_3 : List AO := [⟨some 18, none, .mv (.t 1)⟩,
  ⟨some 19, none, .bin .and (.t 18) (.c (.it .u64 4294967295))⟩,
  ⟨some 8, none, .mv (.t 19)⟩]
noncomputable def r108_4 : List AO := [⟨some 20, none, .mv (.t 1)⟩,
  ⟨some 21, none, .bin .shr (.t 20) (.c (.it .u64 32))⟩,
  ⟨some 9, none, .mv (.t 21)⟩]
noncomputable def r108_5 : List AO := [⟨some 22, none, .mv (.t 6)⟩,
  ⟨some 23, none, .mv (.t 8)⟩,
  ⟨some 24, none, .bin .mul (.t 22) (.t 23)⟩,
  ⟨some 10, none, .mv (.t 24)⟩]
noncomputable def r108_6 : List AO := [⟨some 25, none, .mv (.t 7)⟩,
  ⟨some 26, none, .mv (.t 8)⟩,
  ⟨some 27, none, .bin .mul (.t 25) (.t 26)⟩,
  ⟨some 28, none, .mv (.t 10)⟩,
  ⟨some 29, none, .bin .shr (.t 28) (.c (.it .u64 32))⟩,
  ⟨some 30, none, .bin .add (.t 27) (.t 29)⟩,
  ⟨some 11, none, .mv (.t 30)⟩]
noncomputable def r108_7 : List AO := [⟨some 31, none, .mv (.t 11)⟩,
  ⟨some 32, none, .bin .and (.t 31) (.c (.it .u64 4294967295))⟩,
  ⟨some 12, none, .mv (.t 32)⟩]
noncomputable def r108_8 : List AO := [⟨some 33, none, .mv (.t 11)⟩,
  ⟨some 34, none, .bin .shr (.t 33) (.c (.it .u64 32))⟩,
  ⟨some 13, none, .mv (.t 34)⟩]
noncomputable def r108_9 : List AO := [⟨some 35, none, .mv (.t 12)⟩,
  ⟨some 36, none, .mv (.t 6)⟩,
  ⟨some 37, none, .mv (.t 9)⟩,
  ⟨some 38, none, .bin .mul (.t 36) (.t 37)⟩,
  ⟨some 39, none, .bin .add (.t 35) (.t 38)⟩,
  ⟨some 12, none, .mv (.t 39)⟩]
noncomputable def r108_10 : List AO := [⟨some 40, none, .mv (.t 7)⟩,
  ⟨some 41, none, .mv (.t 9)⟩,
  ⟨some 42, none, .bin .mul (.t 40) (.t 41)⟩,
  ⟨some 43, none, .mv (.t 13)⟩,
  ⟨some 44, none, .bin .add (.t 42) (.t 43)⟩,
  ⟨some 45, none, .mv (.t 12)⟩,
  ⟨some 46, none, .bin .shr (.t 45) (.c (.it .u64 32))⟩,
  ⟨some 47, none, .bin .add (.t 44) (.t 46)⟩,
  ⟨some 4, none, .mv (.t 47)⟩]
noncomputable def r108_11 : List AO := [⟨some 48, none, .mv (.t 0)⟩,
  ⟨some 49, none, .mv (.t 1)⟩,
  ⟨some 50, none, .bin .mul (.t 48) (.t 49)⟩,
  ⟨some 5, none, .mv (.t 50)⟩]
set_option maxRecDepth 1000000 in
noncomputable def c108 : AFn := ⟨51, [(4, none), (5, none)],
  (.seq (.ops r108_0)
  (.seq (.ops r108_1)
  (.seq (.ops r108_2)
  (.seq (.ops r108_3)
  (.seq (.ops r108_4)
  (.seq (.ops r108_5)
  (.seq (.ops r108_6)
  (.seq (.ops r108_7)
  (.seq (.ops r108_8)
  (.seq (.ops r108_9)
  (.seq (.ops r108_10)
  (.seq (.ops r108_11)
  .ret))))))))))))⟩
set_option maxRecDepth 1000000 in
theorem t108 : trF Try.prog 108 = some c108 := by kernel_rfl
end Go.Proofs.Yteoohihaibgplaa
