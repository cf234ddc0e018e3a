/-
  The resolved code of the functions, each held against the program by the kernel.
-/
import Derived.Test.YtkmehmgocelkiaaDoorAv
import Derived.Test.YtkmehmgocelkiaaDoorRows
import Derived.KernelRfl
namespace Go.Proofs.YtkmehmgocelkiaaDoor
open Go.AV
/-- regrater/regraterlaw06.ValueDoes (0 op, 1 x, 2 y, 3 op, 4 x, 5 y, 7 a, 8 m, 9 b, 10 n, 11 v, 12 e, 13 w, 14 f) -/
noncomputable def r3_0 : List AO := [⟨some 4, none, .box 23 3 (.t 1)⟩,
  ⟨some 5, none, .box 23 3 (.t 2)⟩,
  ⟨some 6, none, .mv (.c (.bl false))⟩]
noncomputable def r3_1 : List AO := [⟨some 15, none, .call 10 []⟩,
  ⟨some 16, none, .un .not (.t 15)⟩]
noncomputable def r3_2 : List AO := [⟨some 6, none, .mv (.c (.bl false))⟩]
noncomputable def r3_3 : List AO := [⟨some 18, none, .ld true 3 (.t 4)⟩,
  ⟨some 19, none, .call 11 [(.t 18)]⟩,
  ⟨some 17, none, .mv (.t 19)⟩,
  ⟨some 20, none, .ext (.t 17) 0⟩,
  ⟨some 21, none, .ext (.t 17) 1⟩,
  ⟨some 7, none, .box 26 3 (.c (.agg [(.it .i64 0), (.it .i64 0), (.st [])]))⟩,
  ⟨some 8, none, .box 27 3 (.c (.agg [(.it .i64 0), (.it .i64 0), (.st [])]))⟩,
  ⟨none, none, .sto 3 (.t 7) (.t 20)⟩,
  ⟨none, none, .sto 3 (.t 8) (.t 21)⟩]
noncomputable def r3_4 : List AO := [⟨some 23, none, .ld true 3 (.t 5)⟩,
  ⟨some 24, none, .call 11 [(.t 23)]⟩,
  ⟨some 22, none, .mv (.t 24)⟩,
  ⟨some 25, none, .ext (.t 22) 0⟩,
  ⟨some 26, none, .ext (.t 22) 1⟩,
  ⟨some 9, none, .box 26 3 (.c (.agg [(.it .i64 0), (.it .i64 0), (.st [])]))⟩,
  ⟨some 10, none, .box 27 3 (.c (.agg [(.it .i64 0), (.it .i64 0), (.st [])]))⟩,
  ⟨none, none, .sto 3 (.t 9) (.t 25)⟩,
  ⟨none, none, .sto 3 (.t 10) (.t 26)⟩]
noncomputable def r3_5 : List AO := [⟨some 28, none, .mv (.t 0)⟩,
  ⟨some 29, none, .ld true 3 (.t 7)⟩,
  ⟨some 30, none, .ld true 3 (.t 9)⟩,
  ⟨some 31, none, .call 12 [(.t 28), (.t 29), (.t 30)]⟩,
  ⟨some 27, none, .mv (.t 31)⟩,
  ⟨some 32, none, .ext (.t 27) 0⟩,
  ⟨some 33, none, .ext (.t 27) 1⟩,
  ⟨some 11, none, .box 26 3 (.c (.agg [(.it .i64 0), (.it .i64 0), (.st [])]))⟩,
  ⟨none, none, .sto 3 (.t 11) (.t 32)⟩,
  ⟨some 12, none, .mv (.t 33)⟩]
noncomputable def r3_6 : List AO := [⟨some 35, none, .mv (.t 0)⟩,
  ⟨some 36, none, .ld true 3 (.t 8)⟩,
  ⟨some 37, none, .ld true 3 (.t 10)⟩,
  ⟨some 38, none, .call 13 [(.t 35), (.t 36), (.t 37)]⟩,
  ⟨some 34, none, .mv (.t 38)⟩,
  ⟨some 39, none, .ext (.t 34) 0⟩,
  ⟨some 40, none, .ext (.t 34) 1⟩,
  ⟨some 13, none, .box 27 3 (.c (.agg [(.it .i64 0), (.it .i64 0), (.st [])]))⟩,
  ⟨none, none, .sto 3 (.t 13) (.t 39)⟩,
  ⟨some 14, none, .mv (.t 40)⟩]
noncomputable def r3_7 : List AO := [⟨some 41, none, .mv (.t 12)⟩,
  ⟨some 42, none, .mv (.t 14)⟩,
  ⟨some 43, none, .eq false 1 (.t 41) (.t 42)⟩,
  ⟨some 44, none, .mv (.t 43)⟩,
  ⟨some 45, some (44, true), .ld true 3 (.t 11)⟩,
  ⟨some 46, some (44, true), .ld true 3 (.t 13)⟩,
  ⟨some 47, some (44, true), .eqs false [1, 1, 2] (.t 45) (.t 46)⟩,
  ⟨some 48, none, .pick (.t 44) (.t 47) (.c (.bl false))⟩,
  ⟨some 6, none, .mv (.t 48)⟩]
set_option maxRecDepth 1000000 in
noncomputable def c3 : AFn := ⟨49, [(6, none)],
  (.seq (.ops r3_0)
  (.seq (.seq (.ops r3_1)
  (.cond (.t 16) (.seq (.ops r3_2)
  .ret)
  .skip))
  (.seq (.ops r3_3)
  (.seq (.ops r3_4)
  (.seq (.ops r3_5)
  (.seq (.ops r3_6)
  (.seq (.ops r3_7)
  .ret)))))))⟩
set_option maxRecDepth 1000000 in
theorem t3 : trF Tryd.prog 3 = some c3 := by kernel_rfl
/-- regrater/regraterlaw06.ValueOrders (0 x, 1 y, 2 x, 3 y, 5 a, 6 m, 7 b, 8 n, 9 want) -/
noncomputable def r4_0 : List AO := [⟨some 2, none, .box 23 3 (.t 0)⟩,
  ⟨some 3, none, .box 23 3 (.t 1)⟩,
  ⟨some 4, none, .mv (.c (.bl false))⟩]
noncomputable def r4_1 : List AO := [⟨some 10, none, .call 10 []⟩,
  ⟨some 11, none, .un .not (.t 10)⟩]
noncomputable def r4_2 : List AO := [⟨some 4, none, .mv (.c (.bl false))⟩]
noncomputable def r4_3 : List AO := [⟨some 13, none, .ld true 3 (.t 2)⟩,
  ⟨some 14, none, .call 11 [(.t 13)]⟩,
  ⟨some 12, none, .mv (.t 14)⟩,
  ⟨some 15, none, .ext (.t 12) 0⟩,
  ⟨some 16, none, .ext (.t 12) 1⟩,
  ⟨some 5, none, .box 26 3 (.c (.agg [(.it .i64 0), (.it .i64 0), (.st [])]))⟩,
  ⟨some 6, none, .box 27 3 (.c (.agg [(.it .i64 0), (.it .i64 0), (.st [])]))⟩,
  ⟨none, none, .sto 3 (.t 5) (.t 15)⟩,
  ⟨none, none, .sto 3 (.t 6) (.t 16)⟩]
noncomputable def r4_4 : List AO := [⟨some 18, none, .ld true 3 (.t 3)⟩,
  ⟨some 19, none, .call 11 [(.t 18)]⟩,
  ⟨some 17, none, .mv (.t 19)⟩,
  ⟨some 20, none, .ext (.t 17) 0⟩,
  ⟨some 21, none, .ext (.t 17) 1⟩,
  ⟨some 7, none, .box 26 3 (.c (.agg [(.it .i64 0), (.it .i64 0), (.st [])]))⟩,
  ⟨some 8, none, .box 27 3 (.c (.agg [(.it .i64 0), (.it .i64 0), (.st [])]))⟩,
  ⟨none, none, .sto 3 (.t 7) (.t 20)⟩,
  ⟨none, none, .sto 3 (.t 8) (.t 21)⟩]
noncomputable def r4_5 : List AO := [⟨some 9, none, .mv (.c (.it .i64 0))⟩]
noncomputable def r4_6 : List AO := [⟨some 22, none, .ld true 3 (.t 6)⟩,
  ⟨some 23, none, .ld true 3 (.t 8)⟩,
  ⟨some 24, none, .call 14 [(.t 22), (.t 23)]⟩]
noncomputable def r4_7 : List AO := [⟨some 9, none, .mv (.c (.it .i64 (-1)))⟩]
noncomputable def r4_8 : List AO := [⟨some 25, none, .ld true 3 (.t 8)⟩,
  ⟨some 26, none, .ld true 3 (.t 6)⟩,
  ⟨some 27, none, .call 14 [(.t 25), (.t 26)]⟩]
noncomputable def r4_9 : List AO := [⟨some 9, none, .mv (.c (.it .i64 1))⟩]
noncomputable def r4_10 : List AO := [⟨some 28, none, .ld true 3 (.t 5)⟩,
  ⟨some 29, none, .ld true 3 (.t 7)⟩,
  ⟨some 30, none, .call 15 [(.t 28), (.t 29)]⟩,
  ⟨some 31, none, .mv (.t 9)⟩,
  ⟨some 32, none, .eq false 1 (.t 30) (.t 31)⟩,
  ⟨some 33, none, .mv (.t 32)⟩,
  ⟨some 34, some (33, true), .ld true 3 (.t 7)⟩,
  ⟨some 35, some (33, true), .ld true 3 (.t 5)⟩,
  ⟨some 36, some (33, true), .call 15 [(.t 34), (.t 35)]⟩,
  ⟨some 37, some (33, true), .mv (.t 9)⟩,
  ⟨some 38, some (33, true), .un .neg (.t 37)⟩,
  ⟨some 39, some (33, true), .eq false 1 (.t 36) (.t 38)⟩,
  ⟨some 40, none, .pick (.t 33) (.t 39) (.c (.bl false))⟩,
  ⟨some 41, none, .mv (.t 40)⟩,
  ⟨some 42, some (41, true), .mv (.t 9)⟩,
  ⟨some 43, some (41, true), .eq false 1 (.t 42) (.c (.it .i64 0))⟩,
  ⟨some 44, some (41, true), .ld true 3 (.t 6)⟩,
  ⟨some 45, some (41, true), .ld true 3 (.t 8)⟩,
  ⟨some 46, some (41, true), .eqs false [1, 1, 2] (.t 44) (.t 45)⟩,
  ⟨some 47, some (41, true), .eq false 0 (.t 43) (.t 46)⟩,
  ⟨some 48, none, .pick (.t 41) (.t 47) (.c (.bl false))⟩,
  ⟨some 4, none, .mv (.t 48)⟩]
set_option maxRecDepth 1000000 in
noncomputable def c4 : AFn := ⟨49, [(4, none)],
  (.seq (.ops r4_0)
  (.seq (.seq (.ops r4_1)
  (.cond (.t 11) (.seq (.ops r4_2)
  .ret)
  .skip))
  (.seq (.ops r4_3)
  (.seq (.ops r4_4)
  (.seq (.ops r4_5)
  (.seq (.seq (.ops r4_6)
  (.cond (.t 24) (.ops r4_7)
  .skip))
  (.seq (.seq (.ops r4_8)
  (.cond (.t 27) (.ops r4_9)
  .skip))
  (.seq (.ops r4_10)
  .ret))))))))⟩
set_option maxRecDepth 1000000 in
theorem t4 : trF Tryd.prog 4 = some c4 := by kernel_rfl
/-- regrater/regraterlaw06.ValueLaws (0 z, 1 z, 3 x, 4 y, 5 a, 6 b, 7 p, 8 q, 9 both, 10 _, 11 other, 12 _, 13 r, 14 _, 15 s, 16 _, 17 either, 18 _, 19 m, 20 n, 21 op, 22 c, 23 e, 24 d, 25 f, 26 c, 27 e, 28 d, 29 f) -/
noncomputable def r5_0 : List AO := [⟨some 1, none, .box 40 8 (.t 0)⟩,
  ⟨some 2, none, .mv (.c (.bl false))⟩]
noncomputable def r5_1 : List AO := [⟨some 30, none, .call 10 []⟩,
  ⟨some 31, none, .un .not (.t 30)⟩]
noncomputable def r5_2 : List AO := [⟨some 2, none, .mv (.c (.bl false))⟩]
noncomputable def r5_3 : List (AO × List Nat) := [(⟨some 32, none, .fad 0 (.t 1)⟩, []),
  (⟨some 33, none, .ld true 3 (.t 32)⟩, []),
  (⟨some 34, none, .fad 3 (.t 1)⟩, []),
  (⟨some 35, none, .ld true 3 (.t 34)⟩, []),
  (⟨some 36, none, .fad 6 (.t 1)⟩, []),
  (⟨some 37, none, .ld false 1 (.t 36)⟩, []),
  (⟨some 38, none, .fad 7 (.t 1)⟩, []),
  (⟨some 39, none, .ld false 1 (.t 38)⟩, []),
  (⟨some 3, none, .box 23 3 (.c (.agg [(.it .u8 0), (.it .i64 0), (.st [])]))⟩, [0, 1, 2, 3, 4, 5, 6, 7]),
  (⟨some 4, none, .box 23 3 (.c (.agg [(.it .u8 0), (.it .i64 0), (.st [])]))⟩, [0, 1, 2, 3, 4, 5, 6, 7, 8]),
  (⟨none, none, .sto 3 (.t 3) (.t 33)⟩, [2, 3, 4, 5, 6, 7]),
  (⟨none, none, .sto 3 (.t 4) (.t 35)⟩, [4, 5, 6, 7]),
  (⟨some 5, none, .mv (.t 37)⟩, []),
  (⟨some 6, none, .mv (.t 39)⟩, [])]
noncomputable def r5_4 : List (AO × List Nat) := [(⟨some 40, none, .fad 1 (.t 3)⟩, []),
  (⟨some 41, none, .ld false 1 (.t 40)⟩, []),
  (⟨some 42, none, .bin .and (.t 41) (.c (.it .i64 1))⟩, []),
  (⟨some 43, none, .eq false 1 (.t 42) (.c (.it .i64 1))⟩, []),
  (⟨some 44, none, .call 16 [(.t 43)]⟩, []),
  (⟨some 45, none, .fad 1 (.t 4)⟩, [4]),
  (⟨some 46, none, .ld false 1 (.t 45)⟩, [4]),
  (⟨some 47, none, .bin .and (.t 46) (.c (.it .i64 1))⟩, [4]),
  (⟨some 48, none, .eq false 1 (.t 47) (.c (.it .i64 1))⟩, [4]),
  (⟨some 49, none, .call 16 [(.t 48)]⟩, []),
  (⟨some 7, none, .box 26 3 (.c (.agg [(.it .i64 0), (.it .i64 0), (.st [])]))⟩, [0, 1, 2, 3, 4, 5, 6, 7, 8, 9]),
  (⟨some 8, none, .box 26 3 (.c (.agg [(.it .i64 0), (.it .i64 0), (.st [])]))⟩, [0, 1, 2, 3, 4, 5, 6, 7, 8, 9, 10]),
  (⟨none, none, .sto 3 (.t 7) (.t 44)⟩, []),
  (⟨none, none, .sto 3 (.t 8) (.t 49)⟩, [])]
noncomputable def r5_5 : List AO := [⟨some 50, none, .fad 0 (.t 3)⟩,
  ⟨some 51, none, .ld false 1 (.t 50)⟩,
  ⟨some 52, none, .bin .and (.t 51) (.c (.it .u8 1))⟩,
  ⟨some 53, none, .eq false 1 (.t 52) (.c (.it .u8 1))⟩]
noncomputable def r5_6 : List AO := [⟨some 54, none, .bld [(.it .i64 0), (.it .i64 0), (.st [])] []⟩,
  ⟨none, none, .sto 3 (.t 7) (.t 54)⟩]
noncomputable def r5_7 : List AO := [⟨some 55, none, .fad 0 (.t 4)⟩,
  ⟨some 56, none, .ld false 1 (.t 55)⟩,
  ⟨some 57, none, .bin .and (.t 56) (.c (.it .u8 1))⟩,
  ⟨some 58, none, .eq false 1 (.t 57) (.c (.it .u8 1))⟩]
noncomputable def r5_8 : List AO := [⟨some 59, none, .bld [(.it .i64 0), (.it .i64 0), (.st [])] []⟩,
  ⟨none, none, .sto 3 (.t 8) (.t 59)⟩]
noncomputable def r5_9 : List AO := [⟨some 61, none, .ld true 3 (.t 7)⟩,
  ⟨some 62, none, .ld true 3 (.t 8)⟩,
  ⟨some 63, none, .call 12 [(.c (.it .i64 13)), (.t 61), (.t 62)]⟩,
  ⟨some 60, none, .mv (.t 63)⟩,
  ⟨some 64, none, .ext (.t 60) 0⟩,
  ⟨some 65, none, .ext (.t 60) 1⟩,
  ⟨some 9, none, .box 26 3 (.c (.agg [(.it .i64 0), (.it .i64 0), (.st [])]))⟩,
  ⟨none, none, .sto 3 (.t 9) (.t 64)⟩,
  ⟨some 10, none, .mv (.t 65)⟩]
noncomputable def r5_10 : List AO := [⟨some 67, none, .ld true 3 (.t 9)⟩,
  ⟨some 68, none, .call 17 [(.t 67)]⟩,
  ⟨some 66, none, .mv (.t 68)⟩,
  ⟨some 69, none, .ext (.t 66) 0⟩,
  ⟨some 70, none, .ext (.t 66) 1⟩,
  ⟨some 11, none, .box 26 3 (.c (.agg [(.it .i64 0), (.it .i64 0), (.st [])]))⟩,
  ⟨none, none, .sto 3 (.t 11) (.t 69)⟩,
  ⟨some 12, none, .mv (.t 70)⟩]
noncomputable def r5_11 : List AO := [⟨some 72, none, .ld true 3 (.t 7)⟩,
  ⟨some 73, none, .call 17 [(.t 72)]⟩,
  ⟨some 71, none, .mv (.t 73)⟩,
  ⟨some 74, none, .ext (.t 71) 0⟩,
  ⟨some 75, none, .ext (.t 71) 1⟩,
  ⟨some 13, none, .box 26 3 (.c (.agg [(.it .i64 0), (.it .i64 0), (.st [])]))⟩,
  ⟨none, none, .sto 3 (.t 13) (.t 74)⟩,
  ⟨some 14, none, .mv (.t 75)⟩]
noncomputable def r5_12 : List AO := [⟨some 77, none, .ld true 3 (.t 8)⟩,
  ⟨some 78, none, .call 17 [(.t 77)]⟩,
  ⟨some 76, none, .mv (.t 78)⟩,
  ⟨some 79, none, .ext (.t 76) 0⟩,
  ⟨some 80, none, .ext (.t 76) 1⟩,
  ⟨some 15, none, .box 26 3 (.c (.agg [(.it .i64 0), (.it .i64 0), (.st [])]))⟩,
  ⟨none, none, .sto 3 (.t 15) (.t 79)⟩,
  ⟨some 16, none, .mv (.t 80)⟩]
noncomputable def r5_13 : List AO := [⟨some 82, none, .ld true 3 (.t 13)⟩,
  ⟨some 83, none, .ld true 3 (.t 15)⟩,
  ⟨some 84, none, .call 12 [(.c (.it .i64 14)), (.t 82), (.t 83)]⟩,
  ⟨some 81, none, .mv (.t 84)⟩,
  ⟨some 85, none, .ext (.t 81) 0⟩,
  ⟨some 86, none, .ext (.t 81) 1⟩,
  ⟨some 17, none, .box 26 3 (.c (.agg [(.it .i64 0), (.it .i64 0), (.st [])]))⟩,
  ⟨none, none, .sto 3 (.t 17) (.t 85)⟩,
  ⟨some 18, none, .mv (.t 86)⟩]
noncomputable def r5_14 : List AO := [⟨some 87, none, .ld true 3 (.t 11)⟩,
  ⟨some 88, none, .ld true 3 (.t 17)⟩,
  ⟨some 89, none, .eqs true [1, 1, 2] (.t 87) (.t 88)⟩]
noncomputable def r5_15 : List AO := [⟨some 2, none, .mv (.c (.bl false))⟩]
noncomputable def r5_16 : List AO := [⟨some 90, none, .mv (.t 5)⟩,
  ⟨some 91, none, .call 18 [(.t 90)]⟩,
  ⟨some 92, none, .mv (.t 6)⟩,
  ⟨some 93, none, .call 18 [(.t 92)]⟩,
  ⟨some 19, none, .box 26 3 (.c (.agg [(.it .i64 0), (.it .i64 0), (.st [])]))⟩,
  ⟨some 20, none, .box 26 3 (.c (.agg [(.it .i64 0), (.it .i64 0), (.st [])]))⟩,
  ⟨none, none, .sto 3 (.t 19) (.t 91)⟩,
  ⟨none, none, .sto 3 (.t 20) (.t 93)⟩]
noncomputable def r5_17 : List AO := [⟨some 21, none, .mv (.c (.it .i64 7))⟩]
noncomputable def r5_18 : List AO := [⟨some 94, none, .mv (.t 21)⟩,
  ⟨some 95, none, .bin .leq (.t 94) (.c (.it .i64 9))⟩]
noncomputable def r5_19 : List AO := [⟨some 99, none, .mv (.t 21)⟩,
  ⟨some 100, none, .ld true 3 (.t 19)⟩,
  ⟨some 101, none, .ld true 3 (.t 20)⟩,
  ⟨some 102, none, .call 12 [(.t 99), (.t 100), (.t 101)]⟩,
  ⟨some 98, none, .mv (.t 102)⟩,
  ⟨some 103, none, .ext (.t 98) 0⟩,
  ⟨some 104, none, .ext (.t 98) 1⟩,
  ⟨some 22, none, .box 26 3 (.c (.agg [(.it .i64 0), (.it .i64 0), (.st [])]))⟩,
  ⟨none, none, .sto 3 (.t 22) (.t 103)⟩,
  ⟨some 23, none, .mv (.t 104)⟩]
noncomputable def r5_20 : List AO := [⟨some 106, none, .mv (.t 21)⟩,
  ⟨some 107, none, .ld true 3 (.t 20)⟩,
  ⟨some 108, none, .ld true 3 (.t 19)⟩,
  ⟨some 109, none, .call 12 [(.t 106), (.t 107), (.t 108)]⟩,
  ⟨some 105, none, .mv (.t 109)⟩,
  ⟨some 110, none, .ext (.t 105) 0⟩,
  ⟨some 111, none, .ext (.t 105) 1⟩,
  ⟨some 24, none, .box 26 3 (.c (.agg [(.it .i64 0), (.it .i64 0), (.st [])]))⟩,
  ⟨none, none, .sto 3 (.t 24) (.t 110)⟩,
  ⟨some 25, none, .mv (.t 111)⟩]
noncomputable def r5_21 : List AO := [⟨some 112, none, .ld true 3 (.t 22)⟩,
  ⟨some 113, none, .ld true 3 (.t 24)⟩,
  ⟨some 114, none, .eqs true [1, 1, 2] (.t 112) (.t 113)⟩,
  ⟨some 115, none, .mv (.t 114)⟩,
  ⟨some 116, some (115, false), .mv (.t 23)⟩,
  ⟨some 117, some (115, false), .mv (.t 25)⟩,
  ⟨some 118, some (115, false), .eq true 1 (.t 116) (.t 117)⟩,
  ⟨some 119, none, .pick (.t 115) (.c (.bl true)) (.t 118)⟩]
noncomputable def r5_22 : List AO := [⟨some 2, none, .mv (.c (.bl false))⟩]
noncomputable def r5_23 : List AO := [⟨some 96, none, .mv (.t 21)⟩,
  ⟨some 97, none, .bin .add (.t 96) (.c (.it .i64 2))⟩,
  ⟨some 21, none, .mv (.t 97)⟩]
noncomputable def r5_24 : List AO := [⟨some 121, none, .ld true 3 (.t 19)⟩,
  ⟨some 122, none, .ld true 3 (.t 20)⟩,
  ⟨some 123, none, .call 12 [(.c (.it .i64 10)), (.t 121), (.t 122)]⟩,
  ⟨some 120, none, .mv (.t 123)⟩,
  ⟨some 124, none, .ext (.t 120) 0⟩,
  ⟨some 125, none, .ext (.t 120) 1⟩,
  ⟨some 26, none, .box 26 3 (.c (.agg [(.it .i64 0), (.it .i64 0), (.st [])]))⟩,
  ⟨none, none, .sto 3 (.t 26) (.t 124)⟩,
  ⟨some 27, none, .mv (.t 125)⟩]
noncomputable def r5_25 : List AO := [⟨some 127, none, .ld true 3 (.t 19)⟩,
  ⟨some 128, none, .ld true 3 (.t 20)⟩,
  ⟨some 129, none, .call 12 [(.c (.it .i64 11)), (.t 127), (.t 128)]⟩,
  ⟨some 126, none, .mv (.t 129)⟩,
  ⟨some 130, none, .ext (.t 126) 0⟩,
  ⟨some 131, none, .ext (.t 126) 1⟩,
  ⟨some 28, none, .box 26 3 (.c (.agg [(.it .i64 0), (.it .i64 0), (.st [])]))⟩,
  ⟨none, none, .sto 3 (.t 28) (.t 130)⟩,
  ⟨some 29, none, .mv (.t 131)⟩]
noncomputable def r5_26 : List AO := [⟨some 132, none, .mv (.t 27)⟩,
  ⟨some 133, none, .eq true 1 (.t 132) (.c (.it .i64 0))⟩]
noncomputable def r5_27 : List (AO × List Nat) := [(⟨some 134, none, .mv (.t 6)⟩, []),
  (⟨some 135, none, .eq false 1 (.t 134) (.c (.it .i64 0))⟩, []),
  (⟨some 136, none, .mv (.t 135)⟩, []),
  (⟨some 137, some (136, true), .mv (.t 29)⟩, []),
  (⟨some 138, some (136, true), .eq false 1 (.t 137) (.c (.it .i64 9))⟩, []),
  (⟨some 139, none, .pick (.t 136) (.t 138) (.c (.bl false))⟩, []),
  (⟨some 140, none, .mv (.t 139)⟩, []),
  (⟨some 141, some (140, false), .mv (.t 6)⟩, []),
  (⟨some 142, some (140, false), .eq false 1 (.t 141) (.c (.it .i64 (-1)))⟩, []),
  (⟨some 143, some (140, false), .mv (.t 142)⟩, []),
  (⟨some 144, some (143, true), .mv (.t 27)⟩, []),
  (⟨some 145, some (143, true), .eq false 1 (.t 144) (.c (.it .i64 8))⟩, []),
  (⟨some 146, some (140, false), .pick (.t 143) (.t 145) (.c (.bl false))⟩, []),
  (⟨some 147, some (140, false), .mv (.t 146)⟩, []),
  (⟨some 148, some (147, true), .mv (.t 29)⟩, []),
  (⟨some 149, some (147, true), .eq false 1 (.t 148) (.c (.it .i64 0))⟩, []),
  (⟨some 150, some (140, false), .pick (.t 147) (.t 149) (.c (.bl false))⟩, []),
  (⟨some 151, some (140, false), .mv (.t 150)⟩, []),
  (⟨some 152, some (151, true), .ld true 3 (.t 28)⟩, []),
  (⟨some 153, some (151, true), .call 18 [(.c (.it .i64 0))]⟩, [18]),
  (⟨some 154, some (151, true), .eqs false [1, 1, 2] (.t 152) (.t 153)⟩, []),
  (⟨some 155, some (140, false), .pick (.t 151) (.t 154) (.c (.bl false))⟩, []),
  (⟨some 156, none, .pick (.t 140) (.c (.bl true)) (.t 155)⟩, []),
  (⟨some 2, none, .mv (.t 156)⟩, [])]
noncomputable def r5_28 : List AO := [⟨some 157, none, .mv (.t 29)⟩,
  ⟨some 158, none, .eq false 1 (.t 157) (.c (.it .i64 0))⟩,
  ⟨some 159, none, .mv (.t 158)⟩,
  ⟨some 160, some (159, true), .fad 1 (.t 26)⟩,
  ⟨some 161, some (159, true), .ld false 1 (.t 160)⟩,
  ⟨some 162, some (159, true), .mv (.t 6)⟩,
  ⟨some 163, some (159, true), .bin .mul (.t 161) (.t 162)⟩,
  ⟨some 164, some (159, true), .fad 1 (.t 28)⟩,
  ⟨some 165, some (159, true), .ld false 1 (.t 164)⟩,
  ⟨some 166, some (159, true), .bin .add (.t 163) (.t 165)⟩,
  ⟨some 167, some (159, true), .mv (.t 5)⟩,
  ⟨some 168, some (159, true), .eq false 1 (.t 166) (.t 167)⟩,
  ⟨some 169, none, .pick (.t 159) (.t 168) (.c (.bl false))⟩,
  ⟨some 2, none, .mv (.t 169)⟩]
set_option maxRecDepth 1000000 in
noncomputable def c5 : AFn := ⟨170, [(2, none)],
  (.seq (.ops r5_0)
  (.seq (.seq (.ops r5_1)
  (.cond (.t 31) (.seq (.ops r5_2)
  .ret)
  .skip))
  (.seq (.drw r5_3)
  (.seq (.drw r5_4)
  (.seq (.seq (.ops r5_5)
  (.cond (.t 53) (.ops r5_6)
  .skip))
  (.seq (.seq (.ops r5_7)
  (.cond (.t 58) (.ops r5_8)
  .skip))
  (.seq (.ops r5_9)
  (.seq (.ops r5_10)
  (.seq (.ops r5_11)
  (.seq (.ops r5_12)
  (.seq (.ops r5_13)
  (.seq (.seq (.ops r5_14)
  (.cond (.t 89) (.seq (.ops r5_15)
  .ret)
  .skip))
  (.seq (.ops r5_16)
  (.seq (.seq (.ops r5_17)
  (.block 0 (.loop (.seq (.seq (.ops r5_18)
  (.cond (.t 95) .skip
  (.exit 0)))
  (.seq (.block 1 (.seq (.ops r5_19)
  (.seq (.ops r5_20)
  (.seq (.ops r5_21)
  (.cond (.t 119) (.seq (.ops r5_22)
  .ret)
  .skip)))))
  (.ops r5_23))))))
  (.seq (.ops r5_24)
  (.seq (.ops r5_25)
  (.seq (.seq (.ops r5_26)
  (.cond (.t 133) (.seq (.drw r5_27)
  .ret)
  .skip))
  (.seq (.ops r5_28)
  .ret))))))))))))))))))⟩
set_option maxRecDepth 1000000 in
theorem t5 : trF Tryd.prog 5 = some c5 := by kernel_rfl
/-- regrater/regraterlaw06.ValueOnes (0 kind, 1 n, 2 s, 3 kind, 4 n, 5 s, 7 v, 8 m, 9 a, 10 e, 11 b, 12 f) -/
noncomputable def r6_0 : List AO := [⟨some 6, none, .mv (.c (.bl false))⟩]
noncomputable def r6_1 : List AO := [⟨some 13, none, .call 10 []⟩,
  ⟨some 14, none, .un .not (.t 13)⟩]
noncomputable def r6_2 : List AO := [⟨some 6, none, .mv (.c (.bl false))⟩]
noncomputable def r6_3 : List AO := [⟨some 15, none, .mv (.t 2)⟩,
  ⟨some 16, none, .mv (.t 2)⟩,
  ⟨some 17, none, .lens (.t 16)⟩,
  ⟨some 18, none, .mnx false [(.t 17), (.c (.it .i64 70))]⟩,
  ⟨some 19, none, .sls (.t 15) none (some (.t 18))⟩,
  ⟨some 2, none, .mv (.t 19)⟩]
noncomputable def r6_4 : List AO := [⟨some 20, none, .mv (.t 0)⟩,
  ⟨some 21, none, .mv (.t 1)⟩,
  ⟨some 22, none, .mv (.t 2)⟩,
  ⟨some 23, none, .bld [(.it .i64 0), (.it .i64 0), (.st [])] [(0, 1, (.t 20)), (1, 1, (.t 21)), (2, 1, (.t 22))]⟩,
  ⟨some 7, none, .box 26 3 (.c (.agg [(.it .i64 0), (.it .i64 0), (.st [])]))⟩,
  ⟨none, none, .sto 3 (.t 7) (.t 23)⟩]
noncomputable def r6_5 : List AO := [⟨some 24, none, .mv (.t 0)⟩,
  ⟨some 25, none, .mv (.t 1)⟩,
  ⟨some 26, none, .mv (.t 2)⟩,
  ⟨some 27, none, .bld [(.it .i64 0), (.it .i64 0), (.st [])] [(0, 1, (.t 24)), (1, 1, (.t 25)), (2, 1, (.t 26))]⟩,
  ⟨some 8, none, .box 27 3 (.c (.agg [(.it .i64 0), (.it .i64 0), (.st [])]))⟩,
  ⟨none, none, .sto 3 (.t 8) (.t 27)⟩]
noncomputable def r6_6 : List (AO × List Nat) := [(⟨some 28, none, .ld true 3 (.t 7)⟩, []),
  (⟨some 29, none, .call 19 [(.t 28)]⟩, []),
  (⟨some 30, none, .ld true 3 (.t 8)⟩, [1]),
  (⟨some 31, none, .call 20 [(.t 30)]⟩, []),
  (⟨some 32, none, .eq true 0 (.t 29) (.t 31)⟩, []),
  (⟨some 33, none, .mv (.t 32)⟩, []),
  (⟨some 34, some (33, false), .ld true 3 (.t 7)⟩, []),
  (⟨some 35, some (33, false), .call 21 [(.t 34)]⟩, []),
  (⟨some 36, some (33, false), .ld true 3 (.t 8)⟩, [7]),
  (⟨some 37, some (33, false), .call 22 [(.t 36)]⟩, []),
  (⟨some 38, some (33, false), .eq true 2 (.t 35) (.t 37)⟩, []),
  (⟨some 39, none, .pick (.t 33) (.c (.bl true)) (.t 38)⟩, []),
  (⟨some 40, none, .mv (.t 39)⟩, []),
  (⟨some 41, some (40, false), .ld true 3 (.t 7)⟩, []),
  (⟨some 42, some (40, false), .call 23 [(.t 41)]⟩, []),
  (⟨some 43, some (40, false), .mv (.t 0)⟩, [14]),
  (⟨some 44, some (40, false), .eq false 1 (.t 43) (.c (.it .i64 1))⟩, [14]),
  (⟨some 45, some (40, false), .mv (.t 44)⟩, []),
  (⟨some 46, some (45, true), .mv (.t 1)⟩, []),
  (⟨some 47, some (45, true), .eq false 1 (.t 46) (.c (.it .i64 1))⟩, []),
  (⟨some 48, some (40, false), .pick (.t 45) (.t 47) (.c (.bl false))⟩, []),
  (⟨some 49, some (40, false), .mv (.t 48)⟩, []),
  (⟨some 50, some (49, true), .mv (.t 2)⟩, []),
  (⟨some 51, some (49, true), .eq false 2 (.t 50) (.c (.st []))⟩, []),
  (⟨some 52, some (40, false), .pick (.t 49) (.t 51) (.c (.bl false))⟩, []),
  (⟨some 53, some (40, false), .eq true 0 (.t 42) (.t 52)⟩, []),
  (⟨some 54, none, .pick (.t 40) (.c (.bl true)) (.t 53)⟩, [])]
noncomputable def r6_7 : List AO := [⟨some 6, none, .mv (.c (.bl false))⟩]
noncomputable def r6_8 : List AO := [⟨some 55, none, .mv (.t 2)⟩,
  ⟨some 56, none, .call 24 [(.t 55)]⟩,
  ⟨some 57, none, .mv (.t 2)⟩,
  ⟨some 58, none, .bld [(.it .i64 0), (.it .i64 0), (.st [])] [(0, 1, (.c (.it .i64 3))), (2, 1, (.t 57))]⟩,
  ⟨some 59, none, .eqs true [1, 1, 2] (.t 56) (.t 58)⟩,
  ⟨some 60, none, .mv (.t 59)⟩,
  ⟨some 61, some (60, false), .mv (.t 1)⟩,
  ⟨some 62, some (60, false), .call 18 [(.t 61)]⟩,
  ⟨some 63, some (60, false), .mv (.t 1)⟩,
  ⟨some 64, some (60, false), .bld [(.it .i64 0), (.it .i64 0), (.st [])] [(0, 1, (.c (.it .i64 2))), (1, 1, (.t 63))]⟩,
  ⟨some 65, some (60, false), .eqs true [1, 1, 2] (.t 62) (.t 64)⟩,
  ⟨some 66, none, .pick (.t 60) (.c (.bl true)) (.t 65)⟩,
  ⟨some 67, none, .mv (.t 66)⟩,
  ⟨some 68, some (67, false), .mv (.t 1)⟩,
  ⟨some 69, some (67, false), .bin .gtr (.t 68) (.c (.it .i64 0))⟩,
  ⟨some 70, some (67, false), .call 16 [(.t 69)]⟩,
  ⟨some 71, some (67, false), .call 23 [(.t 70)]⟩,
  ⟨some 72, some (67, false), .mv (.t 1)⟩,
  ⟨some 73, some (67, false), .bin .gtr (.t 72) (.c (.it .i64 0))⟩,
  ⟨some 74, some (67, false), .eq true 0 (.t 71) (.t 73)⟩,
  ⟨some 75, none, .pick (.t 67) (.c (.bl true)) (.t 74)⟩]
noncomputable def r6_9 : List AO := [⟨some 6, none, .mv (.c (.bl false))⟩]
noncomputable def r6_10 : List AO := [⟨some 76, none, .ld true 3 (.t 8)⟩,
  ⟨some 77, none, .call 20 [(.t 76)]⟩,
  ⟨some 78, none, .un .not (.t 77)⟩]
noncomputable def r6_11 : List AO := [⟨some 6, none, .mv (.c (.bl true))⟩]
noncomputable def r6_12 : List AO := [⟨some 80, none, .ld true 3 (.t 7)⟩,
  ⟨some 81, none, .call 17 [(.t 80)]⟩,
  ⟨some 79, none, .mv (.t 81)⟩,
  ⟨some 82, none, .ext (.t 79) 0⟩,
  ⟨some 83, none, .ext (.t 79) 1⟩,
  ⟨some 9, none, .box 26 3 (.c (.agg [(.it .i64 0), (.it .i64 0), (.st [])]))⟩,
  ⟨none, none, .sto 3 (.t 9) (.t 82)⟩,
  ⟨some 10, none, .mv (.t 83)⟩]
noncomputable def r6_13 : List AO := [⟨some 85, none, .ld true 3 (.t 7)⟩,
  ⟨some 86, none, .call 25 [(.t 85)]⟩,
  ⟨some 84, none, .mv (.t 86)⟩,
  ⟨some 87, none, .ext (.t 84) 0⟩,
  ⟨some 88, none, .ext (.t 84) 1⟩,
  ⟨some 11, none, .box 26 3 (.c (.agg [(.it .i64 0), (.it .i64 0), (.st [])]))⟩,
  ⟨none, none, .sto 3 (.t 11) (.t 87)⟩,
  ⟨some 12, none, .mv (.t 88)⟩]
noncomputable def r6_14 : List AO := [⟨some 89, none, .mv (.t 0)⟩]
noncomputable def r6_15 : List AO := [⟨some 91, none, .eq false 1 (.t 89) (.c (.it .i64 0))⟩,
  ⟨some 90, none, .mv (.t 91)⟩]
noncomputable def r6_16 : List AO := [⟨some 92, none, .mv (.t 10)⟩,
  ⟨some 93, none, .eq false 1 (.t 92) (.c (.it .i64 0))⟩,
  ⟨some 94, none, .mv (.t 93)⟩,
  ⟨some 95, some (94, true), .mv (.t 12)⟩,
  ⟨some 96, some (94, true), .eq false 1 (.t 95) (.c (.it .i64 0))⟩,
  ⟨some 97, none, .pick (.t 94) (.t 96) (.c (.bl false))⟩,
  ⟨some 98, none, .mv (.t 97)⟩,
  ⟨some 99, some (98, true), .ld true 3 (.t 9)⟩,
  ⟨some 100, some (98, true), .ld true 3 (.t 7)⟩,
  ⟨some 101, some (98, true), .eqs false [1, 1, 2] (.t 99) (.t 100)⟩,
  ⟨some 102, none, .pick (.t 98) (.t 101) (.c (.bl false))⟩,
  ⟨some 103, none, .mv (.t 102)⟩,
  ⟨some 104, some (103, true), .ld true 3 (.t 11)⟩,
  ⟨some 105, some (103, true), .ld true 3 (.t 7)⟩,
  ⟨some 106, some (103, true), .eqs false [1, 1, 2] (.t 104) (.t 105)⟩,
  ⟨some 107, none, .pick (.t 103) (.t 106) (.c (.bl false))⟩,
  ⟨some 6, none, .mv (.t 107)⟩]
noncomputable def r6_17 : List AO := [⟨some 109, none, .eq false 1 (.t 89) (.c (.it .i64 1))⟩,
  ⟨some 108, none, .mv (.t 109)⟩]
noncomputable def r6_18 : List (AO × List Nat) := [(⟨some 110, none, .mv (.t 10)⟩, []),
  (⟨some 111, none, .eq false 1 (.t 110) (.c (.it .i64 0))⟩, []),
  (⟨some 112, none, .mv (.t 111)⟩, []),
  (⟨some 113, some (112, true), .mv (.t 12)⟩, []),
  (⟨some 114, some (112, true), .eq false 1 (.t 113) (.c (.it .i64 5))⟩, []),
  (⟨some 115, none, .pick (.t 112) (.t 114) (.c (.bl false))⟩, []),
  (⟨some 116, none, .mv (.t 115)⟩, []),
  (⟨some 117, some (116, true), .ld true 3 (.t 9)⟩, []),
  (⟨some 118, some (116, true), .mv (.t 1)⟩, []),
  (⟨some 119, some (116, true), .eq false 1 (.t 118) (.c (.it .i64 0))⟩, []),
  (⟨some 120, some (116, true), .call 16 [(.t 119)]⟩, [7]),
  (⟨some 121, some (116, true), .eqs false [1, 1, 2] (.t 117) (.t 120)⟩, []),
  (⟨some 122, none, .pick (.t 116) (.t 121) (.c (.bl false))⟩, []),
  (⟨some 6, none, .mv (.t 122)⟩, [])]
noncomputable def r6_19 : List AO := [⟨some 124, none, .eq false 1 (.t 89) (.c (.it .i64 2))⟩,
  ⟨some 123, none, .mv (.t 124)⟩]
noncomputable def r6_20 : List AO := [⟨some 125, none, .mv (.t 1)⟩,
  ⟨some 126, none, .eq false 1 (.t 125) (.c (.it .i64 (-9223372036854775808)))⟩]
noncomputable def r6_21 : List AO := [⟨some 127, none, .mv (.t 10)⟩,
  ⟨some 128, none, .eq false 1 (.t 127) (.c (.it .i64 5))⟩,
  ⟨some 129, none, .mv (.t 128)⟩,
  ⟨some 130, some (129, true), .mv (.t 12)⟩,
  ⟨some 131, some (129, true), .eq false 1 (.t 130) (.c (.it .i64 8))⟩,
  ⟨some 132, none, .pick (.t 129) (.t 131) (.c (.bl false))⟩,
  ⟨some 133, none, .mv (.t 132)⟩,
  ⟨some 134, some (133, true), .ld true 3 (.t 11)⟩,
  ⟨some 135, some (133, true), .bld [(.it .i64 0), (.it .i64 0), (.st [])] []⟩,
  ⟨some 136, some (133, true), .eqs false [1, 1, 2] (.t 134) (.t 135)⟩,
  ⟨some 137, none, .pick (.t 133) (.t 136) (.c (.bl false))⟩,
  ⟨some 6, none, .mv (.t 137)⟩]
noncomputable def r6_22 : List (AO × List Nat) := [(⟨some 138, none, .mv (.t 10)⟩, []),
  (⟨some 139, none, .eq false 1 (.t 138) (.c (.it .i64 5))⟩, []),
  (⟨some 140, none, .mv (.t 139)⟩, []),
  (⟨some 141, some (140, true), .mv (.t 12)⟩, []),
  (⟨some 142, some (140, true), .eq false 1 (.t 141) (.c (.it .i64 0))⟩, []),
  (⟨some 143, none, .pick (.t 140) (.t 142) (.c (.bl false))⟩, []),
  (⟨some 144, none, .mv (.t 143)⟩, []),
  (⟨some 145, some (144, true), .ld true 3 (.t 11)⟩, []),
  (⟨some 146, some (144, true), .mv (.t 1)⟩, []),
  (⟨some 147, some (144, true), .un .neg (.t 146)⟩, []),
  (⟨some 148, some (144, true), .call 18 [(.t 147)]⟩, [7]),
  (⟨some 149, some (144, true), .eqs false [1, 1, 2] (.t 145) (.t 148)⟩, []),
  (⟨some 150, none, .pick (.t 144) (.t 149) (.c (.bl false))⟩, []),
  (⟨some 6, none, .mv (.t 150)⟩, [])]
noncomputable def r6_23 : List AO := [⟨some 151, none, .mv (.t 10)⟩,
  ⟨some 152, none, .eq false 1 (.t 151) (.c (.it .i64 5))⟩,
  ⟨some 153, none, .mv (.t 152)⟩,
  ⟨some 154, some (153, true), .mv (.t 12)⟩,
  ⟨some 155, some (153, true), .eq false 1 (.t 154) (.c (.it .i64 5))⟩,
  ⟨some 156, none, .pick (.t 153) (.t 155) (.c (.bl false))⟩,
  ⟨some 6, none, .mv (.t 156)⟩]
set_option maxRecDepth 1000000 in
noncomputable def c6 : AFn := ⟨157, [(6, none)],
  (.seq (.ops r6_0)
  (.seq (.seq (.ops r6_1)
  (.cond (.t 14) (.seq (.ops r6_2)
  .ret)
  .skip))
  (.seq (.ops r6_3)
  (.seq (.ops r6_4)
  (.seq (.ops r6_5)
  (.seq (.seq (.drw r6_6)
  (.cond (.t 54) (.seq (.ops r6_7)
  .ret)
  .skip))
  (.seq (.seq (.ops r6_8)
  (.cond (.t 75) (.seq (.ops r6_9)
  .ret)
  .skip))
  (.seq (.seq (.ops r6_10)
  (.cond (.t 78) (.seq (.ops r6_11)
  .ret)
  .skip))
  (.seq (.ops r6_12)
  (.seq (.ops r6_13)
  (.seq (.seq (.ops r6_14)
  (.block 0 (.seq (.ops r6_15)
  (.cond (.t 90) (.seq (.ops r6_16)
  .ret)
  (.seq (.ops r6_17)
  (.cond (.t 108) (.seq (.drw r6_18)
  .ret)
  (.seq (.ops r6_19)
  (.cond (.t 123) (.seq (.seq (.ops r6_20)
  (.cond (.t 126) (.seq (.ops r6_21)
  .ret)
  .skip))
  (.seq (.drw r6_22)
  .ret))
  .skip))))))))
  (.seq (.ops r6_23)
  .ret))))))))))))⟩
set_option maxRecDepth 1000000 in
theorem t6 : trF Tryd.prog 6 = some c6 := by kernel_rfl
/-- regrater/regraterlaw06.speaks (1 v, 2 e, 3 w, 4 f) -/
noncomputable def r10_0 : List AO := [⟨some 0, none, .mv (.c (.bl false))⟩]
noncomputable def r10_1 : List AO := [⟨some 6, none, .call 18 [(.c (.it .i64 2))]⟩,
  ⟨some 7, none, .call 18 [(.c (.it .i64 3))]⟩,
  ⟨some 8, none, .call 12 [(.c (.it .i64 7)), (.t 6), (.t 7)]⟩,
  ⟨some 5, none, .mv (.t 8)⟩,
  ⟨some 9, none, .ext (.t 5) 0⟩,
  ⟨some 10, none, .ext (.t 5) 1⟩,
  ⟨some 1, none, .box 26 3 (.c (.agg [(.it .i64 0), (.it .i64 0), (.st [])]))⟩,
  ⟨none, none, .sto 3 (.t 1) (.t 9)⟩,
  ⟨some 2, none, .mv (.t 10)⟩]
noncomputable def r10_2 : List AO := [⟨some 12, none, .bld [(.it .i64 0), (.it .i64 0), (.st [])] []⟩,
  ⟨some 13, none, .call 16 [(.c (.bl false))]⟩,
  ⟨some 14, none, .call 12 [(.c (.it .i64 13)), (.t 12), (.t 13)]⟩,
  ⟨some 11, none, .mv (.t 14)⟩,
  ⟨some 15, none, .ext (.t 11) 0⟩,
  ⟨some 16, none, .ext (.t 11) 1⟩,
  ⟨some 3, none, .box 26 3 (.c (.agg [(.it .i64 0), (.it .i64 0), (.st [])]))⟩,
  ⟨none, none, .sto 3 (.t 3) (.t 15)⟩,
  ⟨some 4, none, .mv (.t 16)⟩]
noncomputable def r10_3 : List (AO × List Nat) := [(⟨some 17, none, .mv (.t 2)⟩, []),
  (⟨some 18, none, .eq false 1 (.t 17) (.c (.it .i64 0))⟩, []),
  (⟨some 19, none, .mv (.t 18)⟩, []),
  (⟨some 20, some (19, true), .fad 1 (.t 1)⟩, []),
  (⟨some 21, some (19, true), .ld false 1 (.t 20)⟩, []),
  (⟨some 22, some (19, true), .eq false 1 (.t 21) (.c (.it .i64 5))⟩, []),
  (⟨some 23, none, .pick (.t 19) (.t 22) (.c (.bl false))⟩, []),
  (⟨some 24, none, .mv (.t 23)⟩, []),
  (⟨some 25, some (24, true), .fad 0 (.t 1)⟩, []),
  (⟨some 26, some (24, true), .ld false 1 (.t 25)⟩, []),
  (⟨some 27, some (24, true), .eq false 1 (.t 26) (.c (.it .i64 2))⟩, []),
  (⟨some 28, none, .pick (.t 24) (.t 27) (.c (.bl false))⟩, []),
  (⟨some 29, none, .mv (.t 28)⟩, []),
  (⟨some 30, some (29, true), .mv (.t 4)⟩, []),
  (⟨some 31, some (29, true), .eq false 1 (.t 30) (.c (.it .i64 0))⟩, []),
  (⟨some 32, none, .pick (.t 29) (.t 31) (.c (.bl false))⟩, []),
  (⟨some 33, none, .mv (.t 32)⟩, []),
  (⟨some 34, some (33, true), .ld true 3 (.t 3)⟩, []),
  (⟨some 35, some (33, true), .call 16 [(.c (.bl false))]⟩, [17]),
  (⟨some 36, some (33, true), .eqs false [1, 1, 2] (.t 34) (.t 35)⟩, []),
  (⟨some 37, none, .pick (.t 33) (.t 36) (.c (.bl false))⟩, []),
  (⟨some 38, none, .mv (.t 37)⟩, []),
  (⟨some 39, some (38, true), .fad 0 (.t 3)⟩, []),
  (⟨some 40, some (38, true), .ld false 1 (.t 39)⟩, []),
  (⟨some 41, some (38, true), .eq false 1 (.t 40) (.c (.it .i64 1))⟩, []),
  (⟨some 42, none, .pick (.t 38) (.t 41) (.c (.bl false))⟩, []),
  (⟨some 43, none, .mv (.t 42)⟩, []),
  (⟨some 44, some (43, true), .call 24 [(.c (.st [105, 116, 39, 115]))]⟩, []),
  (⟨some 45, some (43, true), .call 21 [(.t 44)]⟩, []),
  (⟨some 46, some (43, true), .eq false 2 (.t 45) (.c (.st [39, 105, 116, 39, 39, 115, 39]))⟩, []),
  (⟨some 47, none, .pick (.t 43) (.t 46) (.c (.bl false))⟩, []),
  (⟨some 0, none, .mv (.t 47)⟩, [])]
set_option maxRecDepth 1000000 in
noncomputable def c10 : AFn := ⟨48, [(0, none)],
  (.seq (.ops r10_0)
  (.seq (.ops r10_1)
  (.seq (.ops r10_2)
  (.seq (.drw r10_3)
  .ret))))⟩
set_option maxRecDepth 1000000 in
theorem t10 : trF Tryd.prog 10 = some c10 := by kernel_rfl
/-- regrater/regraterlaw06.told (0 x, 1 x, 4 v) -/
noncomputable def r11_0 : List AO := [⟨some 1, none, .box 23 3 (.t 0)⟩,
  ⟨some 2, none, .box 26 3 (.c (.agg [(.it .i64 0), (.it .i64 0), (.st [])]))⟩,
  ⟨some 3, none, .box 27 3 (.c (.agg [(.it .i64 0), (.it .i64 0), (.st [])]))⟩]
noncomputable def r11_1 : List AO := [⟨some 5, none, .fad 0 (.t 1)⟩,
  ⟨some 6, none, .ld false 1 (.t 5)⟩,
  ⟨some 7, none, .bin .rem (.t 6) (.c (.it .u8 4))⟩,
  ⟨some 8, none, .cvi .i64 (.t 7)⟩,
  ⟨some 9, none, .bld [(.it .i64 0), (.it .i64 0), (.st [])] [(0, 1, (.t 8))]⟩,
  ⟨some 4, none, .box 27 3 (.c (.agg [(.it .i64 0), (.it .i64 0), (.st [])]))⟩,
  ⟨none, none, .sto 3 (.t 4) (.t 9)⟩]
noncomputable def r11_2 : List AO := [⟨some 10, none, .fad 0 (.t 4)⟩,
  ⟨some 11, none, .ld false 1 (.t 10)⟩]
noncomputable def r11_3 : List AO := [⟨some 13, none, .eq false 1 (.t 11) (.c (.it .i64 1))⟩,
  ⟨some 12, none, .mv (.t 13)⟩]
noncomputable def r11_4 : List AO := [⟨some 14, none, .fad 1 (.t 1)⟩,
  ⟨some 15, none, .ld false 1 (.t 14)⟩,
  ⟨some 16, none, .bin .and (.t 15) (.c (.it .i64 1))⟩,
  ⟨some 17, none, .fad 1 (.t 4)⟩,
  ⟨none, none, .sto 1 (.t 17) (.t 16)⟩]
noncomputable def r11_5 : List AO := [⟨some 19, none, .eq false 1 (.t 11) (.c (.it .i64 2))⟩,
  ⟨some 18, none, .mv (.t 19)⟩]
noncomputable def r11_6 : List AO := [⟨some 20, none, .fad 1 (.t 1)⟩,
  ⟨some 21, none, .ld false 1 (.t 20)⟩,
  ⟨some 22, none, .fad 1 (.t 4)⟩,
  ⟨none, none, .sto 1 (.t 22) (.t 21)⟩]
noncomputable def r11_7 : List AO := [⟨some 24, none, .eq false 1 (.t 11) (.c (.it .i64 3))⟩,
  ⟨some 23, none, .mv (.t 24)⟩]
noncomputable def r11_8 : List AO := [⟨some 25, none, .fad 2 (.t 1)⟩,
  ⟨some 26, none, .ld false 1 (.t 25)⟩,
  ⟨some 27, none, .fad 2 (.t 1)⟩,
  ⟨some 28, none, .ld false 1 (.t 27)⟩,
  ⟨some 29, none, .lens (.t 28)⟩,
  ⟨some 30, none, .mnx false [(.t 29), (.c (.it .i64 64))]⟩,
  ⟨some 31, none, .sls (.t 26) none (some (.t 30))⟩,
  ⟨some 32, none, .fad 2 (.t 4)⟩,
  ⟨none, none, .sto 1 (.t 32) (.t 31)⟩]
noncomputable def r11_9 : List (AO × List Nat) := [(⟨some 33, none, .ld true 3 (.t 4)⟩, []),
  (⟨some 34, none, .ld true 3 (.t 4)⟩, []),
  (⟨none, none, .sto 3 (.t 2) (.t 33)⟩, [1]),
  (⟨none, none, .sto 3 (.t 3) (.t 34)⟩, [])]
set_option maxRecDepth 1000000 in
noncomputable def c11 : AFn := ⟨35, [(2, some 3), (3, some 3)],
  (.seq (.ops r11_0)
  (.seq (.ops r11_1)
  (.seq (.seq (.ops r11_2)
  (.block 0 (.seq (.ops r11_3)
  (.cond (.t 12) (.ops r11_4)
  (.seq (.ops r11_5)
  (.cond (.t 18) (.ops r11_6)
  (.seq (.ops r11_7)
  (.cond (.t 23) (.ops r11_8)
  .skip))))))))
  (.seq (.drw r11_9)
  .ret))))⟩
set_option maxRecDepth 1000000 in
theorem t11 : trF Tryd.prog 11 = some c11 := by kernel_rfl
/-- regrater/value.Do (0 op, 1 a, 2 b, 3 op, 4 a, 5 b, 8 n, 9 e) -/
noncomputable def r12_0 : List AO := [⟨some 4, none, .box 26 3 (.t 1)⟩,
  ⟨some 5, none, .box 26 3 (.t 2)⟩,
  ⟨some 6, none, .box 26 3 (.c (.agg [(.it .i64 0), (.it .i64 0), (.st [])]))⟩,
  ⟨some 7, none, .mv (.c (.it .i64 0))⟩]
noncomputable def r12_1 : List AO := [⟨some 11, none, .mv (.t 0)⟩,
  ⟨some 12, none, .bin .lss (.t 11) (.c (.it .i64 1))⟩,
  ⟨some 13, none, .mv (.t 12)⟩,
  ⟨some 14, some (13, false), .mv (.t 0)⟩,
  ⟨some 15, some (13, false), .bin .gtr (.t 14) (.c (.it .i64 14))⟩,
  ⟨some 16, none, .pick (.t 13) (.c (.bl true)) (.t 15)⟩,
  ⟨some 10, none, .mv (.t 16)⟩]
noncomputable def r12_2 : List AO := [⟨some 17, none, .bld [(.it .i64 0), (.it .i64 0), (.st [])] []⟩,
  ⟨none, none, .sto 3 (.t 6) (.t 17)⟩,
  ⟨some 7, none, .mv (.c (.it .i64 1))⟩]
noncomputable def r12_3 : List AO := [⟨some 19, none, .mv (.t 0)⟩,
  ⟨some 20, none, .ld true 3 (.t 4)⟩,
  ⟨some 21, none, .ld true 3 (.t 5)⟩,
  ⟨some 22, none, .call 40 [(.t 19), (.t 20), (.t 21)]⟩,
  ⟨some 23, none, .un .not (.t 22)⟩,
  ⟨some 18, none, .mv (.t 23)⟩]
noncomputable def r12_4 : List AO := [⟨some 24, none, .bld [(.it .i64 0), (.it .i64 0), (.st [])] []⟩,
  ⟨none, none, .sto 3 (.t 6) (.t 24)⟩,
  ⟨some 7, none, .mv (.c (.it .i64 5))⟩]
noncomputable def r12_5 : List AO := [⟨some 26, none, .mv (.t 0)⟩,
  ⟨some 27, none, .bin .geq (.t 26) (.c (.it .i64 13))⟩,
  ⟨some 25, none, .mv (.t 27)⟩]
noncomputable def r12_6 : List AO := [⟨some 28, none, .mv (.t 0)⟩,
  ⟨some 29, none, .eq false 1 (.t 28) (.c (.it .i64 14))⟩,
  ⟨some 30, none, .ld true 3 (.t 4)⟩,
  ⟨some 31, none, .ld true 3 (.t 5)⟩,
  ⟨some 32, none, .call 41 [(.t 29), (.t 30), (.t 31)]⟩,
  ⟨none, none, .sto 3 (.t 6) (.t 32)⟩,
  ⟨some 7, none, .mv (.c (.it .i64 0))⟩]
noncomputable def r12_7 : List AO := [⟨some 34, none, .ld true 3 (.t 4)⟩,
  ⟨some 35, none, .call 42 [(.t 34)]⟩,
  ⟨some 36, none, .mv (.t 35)⟩,
  ⟨some 37, some (36, false), .ld true 3 (.t 5)⟩,
  ⟨some 38, some (36, false), .call 42 [(.t 37)]⟩,
  ⟨some 39, none, .pick (.t 36) (.c (.bl true)) (.t 38)⟩,
  ⟨some 33, none, .mv (.t 39)⟩]
noncomputable def r12_8 : List AO := [⟨some 40, none, .bld [(.it .i64 0), (.it .i64 0), (.st [])] []⟩,
  ⟨none, none, .sto 3 (.t 6) (.t 40)⟩,
  ⟨some 7, none, .mv (.c (.it .i64 0))⟩]
noncomputable def r12_9 : List AO := [⟨some 42, none, .mv (.t 0)⟩,
  ⟨some 43, none, .bin .leq (.t 42) (.c (.it .i64 6))⟩,
  ⟨some 41, none, .mv (.t 43)⟩]
noncomputable def r12_10 : List AO := [⟨some 44, none, .mv (.t 0)⟩,
  ⟨some 45, none, .ld true 3 (.t 4)⟩,
  ⟨some 46, none, .ld true 3 (.t 5)⟩,
  ⟨some 47, none, .call 15 [(.t 45), (.t 46)]⟩,
  ⟨some 48, none, .call 43 [(.t 44), (.t 47)]⟩,
  ⟨some 49, none, .call 16 [(.t 48)]⟩,
  ⟨none, none, .sto 3 (.t 6) (.t 49)⟩,
  ⟨some 7, none, .mv (.c (.it .i64 0))⟩]
noncomputable def r12_11 : List AO := [⟨some 51, none, .mv (.t 0)⟩,
  ⟨some 52, none, .eq false 1 (.t 51) (.c (.it .i64 12))⟩,
  ⟨some 50, none, .mv (.t 52)⟩]
noncomputable def r12_12 : List AO := [⟨some 53, none, .fad 2 (.t 4)⟩,
  ⟨some 54, none, .ld false 1 (.t 53)⟩,
  ⟨some 55, none, .lens (.t 54)⟩,
  ⟨some 56, none, .fad 2 (.t 5)⟩,
  ⟨some 57, none, .ld false 1 (.t 56)⟩,
  ⟨some 58, none, .lens (.t 57)⟩,
  ⟨some 59, none, .bin .add (.t 55) (.t 58)⟩,
  ⟨some 60, none, .bin .gtr (.t 59) (.c (.it .i64 64))⟩]
noncomputable def r12_13 : List AO := [⟨some 61, none, .bld [(.it .i64 0), (.it .i64 0), (.st [])] []⟩,
  ⟨none, none, .sto 3 (.t 6) (.t 61)⟩,
  ⟨some 7, none, .mv (.c (.it .i64 8))⟩]
noncomputable def r12_14 : List AO := [⟨some 62, none, .fad 2 (.t 4)⟩,
  ⟨some 63, none, .ld false 1 (.t 62)⟩,
  ⟨some 64, none, .fad 2 (.t 5)⟩,
  ⟨some 65, none, .ld false 1 (.t 64)⟩,
  ⟨some 66, none, .bin .add (.t 63) (.t 65)⟩,
  ⟨some 67, none, .call 24 [(.t 66)]⟩,
  ⟨none, none, .sto 3 (.t 6) (.t 67)⟩,
  ⟨some 7, none, .mv (.c (.it .i64 0))⟩]
noncomputable def r12_15 : List AO := [⟨some 69, none, .mv (.t 0)⟩,
  ⟨some 70, none, .fad 1 (.t 4)⟩,
  ⟨some 71, none, .ld false 1 (.t 70)⟩,
  ⟨some 72, none, .fad 1 (.t 5)⟩,
  ⟨some 73, none, .ld false 1 (.t 72)⟩,
  ⟨some 74, none, .call 44 [(.t 69), (.t 71), (.t 73)]⟩,
  ⟨some 68, none, .mv (.t 74)⟩,
  ⟨some 75, none, .ext (.t 68) 0⟩,
  ⟨some 76, none, .ext (.t 68) 1⟩,
  ⟨some 8, none, .mv (.t 75)⟩,
  ⟨some 9, none, .mv (.t 76)⟩]
noncomputable def r12_16 : List AO := [⟨some 77, none, .mv (.t 9)⟩,
  ⟨some 78, none, .eq true 1 (.t 77) (.c (.it .i64 0))⟩]
noncomputable def r12_17 : List AO := [⟨some 79, none, .bld [(.it .i64 0), (.it .i64 0), (.st [])] []⟩,
  ⟨some 80, none, .mv (.t 9)⟩,
  ⟨none, none, .sto 3 (.t 6) (.t 79)⟩,
  ⟨some 7, none, .mv (.t 80)⟩]
noncomputable def r12_18 : List AO := [⟨some 81, none, .mv (.t 8)⟩,
  ⟨some 82, none, .call 18 [(.t 81)]⟩,
  ⟨none, none, .sto 3 (.t 6) (.t 82)⟩,
  ⟨some 7, none, .mv (.c (.it .i64 0))⟩]
set_option maxRecDepth 1000000 in
noncomputable def c12 : AFn := ⟨83, [(6, some 3), (7, none)],
  (.seq (.ops r12_0)
  (.seq (.block 0 (.seq (.ops r12_1)
  (.cond (.t 10) (.seq (.ops r12_2)
  .ret)
  (.seq (.ops r12_3)
  (.cond (.t 18) (.seq (.ops r12_4)
  .ret)
  (.seq (.ops r12_5)
  (.cond (.t 25) (.seq (.ops r12_6)
  .ret)
  (.seq (.ops r12_7)
  (.cond (.t 33) (.seq (.ops r12_8)
  .ret)
  (.seq (.ops r12_9)
  (.cond (.t 41) (.seq (.ops r12_10)
  .ret)
  (.seq (.ops r12_11)
  (.cond (.t 50) (.seq (.seq (.ops r12_12)
  (.cond (.t 60) (.seq (.ops r12_13)
  .ret)
  .skip))
  (.seq (.ops r12_14)
  .ret))
  .skip)))))))))))))
  (.seq (.ops r12_15)
  (.seq (.seq (.ops r12_16)
  (.cond (.t 78) (.seq (.ops r12_17)
  .ret)
  .skip))
  (.seq (.ops r12_18)
  .ret)))))⟩
set_option maxRecDepth 1000000 in
theorem t12 : trF Tryd.prog 12 = some c12 := by kernel_rfl
/-- regrater/regraterref06.Do (0 op, 1 a, 2 b, 3 op, 4 a, 5 b, 8 null, 9 want, 10 d, 11 n, 12 ok) -/
noncomputable def r13_0 : List AO := [⟨some 4, none, .box 27 3 (.t 1)⟩,
  ⟨some 5, none, .box 27 3 (.t 2)⟩,
  ⟨some 6, none, .box 27 3 (.c (.agg [(.it .i64 0), (.it .i64 0), (.st [])]))⟩,
  ⟨some 7, none, .mv (.c (.it .i64 0))⟩]
noncomputable def r13_1 : List AO := [⟨some 13, none, .fad 0 (.t 4)⟩,
  ⟨some 14, none, .ld false 1 (.t 13)⟩,
  ⟨some 15, none, .eq false 1 (.t 14) (.c (.it .i64 0))⟩,
  ⟨some 16, none, .mv (.t 15)⟩,
  ⟨some 17, some (16, false), .fad 0 (.t 5)⟩,
  ⟨some 18, some (16, false), .ld false 1 (.t 17)⟩,
  ⟨some 19, some (16, false), .eq false 1 (.t 18) (.c (.it .i64 0))⟩,
  ⟨some 20, none, .pick (.t 16) (.c (.bl true)) (.t 19)⟩,
  ⟨some 8, none, .mv (.t 20)⟩]
noncomputable def r13_2 : List AO := [⟨some 21, none, .mv (.t 0)⟩,
  ⟨some 22, none, .bin .lss (.t 21) (.c (.it .i64 1))⟩,
  ⟨some 23, none, .mv (.t 22)⟩,
  ⟨some 24, some (23, false), .mv (.t 0)⟩,
  ⟨some 25, some (23, false), .bin .gtr (.t 24) (.c (.it .i64 14))⟩,
  ⟨some 26, none, .pick (.t 23) (.c (.bl true)) (.t 25)⟩]
noncomputable def r13_3 : List AO := [⟨some 27, none, .bld [(.it .i64 0), (.it .i64 0), (.st [])] []⟩,
  ⟨none, none, .sto 3 (.t 6) (.t 27)⟩,
  ⟨some 7, none, .mv (.c (.it .i64 1))⟩]
noncomputable def r13_4 : List AO := [⟨some 28, none, .mv (.t 0)⟩,
  ⟨some 29, none, .bin .leq (.t 28) (.c (.it .i64 6))⟩,
  ⟨some 30, none, .mv (.t 29)⟩,
  ⟨some 31, some (30, true), .mv (.t 8)⟩,
  ⟨some 32, some (30, true), .un .not (.t 31)⟩,
  ⟨some 33, none, .pick (.t 30) (.t 32) (.c (.bl false))⟩,
  ⟨some 34, none, .mv (.t 33)⟩,
  ⟨some 35, some (34, true), .fad 0 (.t 4)⟩,
  ⟨some 36, some (34, true), .ld false 1 (.t 35)⟩,
  ⟨some 37, some (34, true), .fad 0 (.t 5)⟩,
  ⟨some 38, some (34, true), .ld false 1 (.t 37)⟩,
  ⟨some 39, some (34, true), .eq true 1 (.t 36) (.t 38)⟩,
  ⟨some 40, none, .pick (.t 34) (.t 39) (.c (.bl false))⟩]
noncomputable def r13_5 : List AO := [⟨some 41, none, .bld [(.it .i64 0), (.it .i64 0), (.st [])] []⟩,
  ⟨none, none, .sto 3 (.t 6) (.t 41)⟩,
  ⟨some 7, none, .mv (.c (.it .i64 5))⟩]
noncomputable def r13_6 : List AO := [⟨some 9, none, .mv (.c (.it .i64 0))⟩]
noncomputable def r13_7 : List AO := [⟨some 42, none, .mv (.t 0)⟩,
  ⟨some 43, none, .bin .geq (.t 42) (.c (.it .i64 7))⟩]
noncomputable def r13_8 : List AO := [⟨some 9, none, .mv (.c (.it .i64 2))⟩]
noncomputable def r13_9 : List AO := [⟨some 44, none, .mv (.t 0)⟩,
  ⟨some 45, none, .eq false 1 (.t 44) (.c (.it .i64 12))⟩]
noncomputable def r13_10 : List AO := [⟨some 9, none, .mv (.c (.it .i64 3))⟩]
noncomputable def r13_11 : List AO := [⟨some 46, none, .mv (.t 0)⟩,
  ⟨some 47, none, .bin .geq (.t 46) (.c (.it .i64 13))⟩]
noncomputable def r13_12 : List AO := [⟨some 9, none, .mv (.c (.it .i64 1))⟩]
noncomputable def r13_13 : List AO := [⟨some 48, none, .mv (.t 9)⟩,
  ⟨some 49, none, .bin .gtr (.t 48) (.c (.it .i64 0))⟩,
  ⟨some 50, none, .mv (.t 49)⟩,
  ⟨some 51, some (50, true), .fad 0 (.t 4)⟩,
  ⟨some 52, some (50, true), .ld false 1 (.t 51)⟩,
  ⟨some 53, some (50, true), .eq true 1 (.t 52) (.c (.it .i64 0))⟩,
  ⟨some 54, some (50, true), .mv (.t 53)⟩,
  ⟨some 55, some (54, true), .fad 0 (.t 4)⟩,
  ⟨some 56, some (54, true), .ld false 1 (.t 55)⟩,
  ⟨some 57, some (54, true), .mv (.t 9)⟩,
  ⟨some 58, some (54, true), .eq true 1 (.t 56) (.t 57)⟩,
  ⟨some 59, some (50, true), .pick (.t 54) (.t 58) (.c (.bl false))⟩,
  ⟨some 60, some (50, true), .mv (.t 59)⟩,
  ⟨some 61, some (60, false), .fad 0 (.t 5)⟩,
  ⟨some 62, some (60, false), .ld false 1 (.t 61)⟩,
  ⟨some 63, some (60, false), .eq true 1 (.t 62) (.c (.it .i64 0))⟩,
  ⟨some 64, some (60, false), .mv (.t 63)⟩,
  ⟨some 65, some (64, true), .fad 0 (.t 5)⟩,
  ⟨some 66, some (64, true), .ld false 1 (.t 65)⟩,
  ⟨some 67, some (64, true), .mv (.t 9)⟩,
  ⟨some 68, some (64, true), .eq true 1 (.t 66) (.t 67)⟩,
  ⟨some 69, some (60, false), .pick (.t 64) (.t 68) (.c (.bl false))⟩,
  ⟨some 70, some (50, true), .pick (.t 60) (.c (.bl true)) (.t 69)⟩,
  ⟨some 71, none, .pick (.t 50) (.t 70) (.c (.bl false))⟩]
noncomputable def r13_14 : List AO := [⟨some 72, none, .bld [(.it .i64 0), (.it .i64 0), (.st [])] []⟩,
  ⟨none, none, .sto 3 (.t 6) (.t 72)⟩,
  ⟨some 7, none, .mv (.c (.it .i64 5))⟩]
noncomputable def r13_15 : List AO := [⟨some 73, none, .mv (.t 0)⟩,
  ⟨some 74, none, .eq false 1 (.t 73) (.c (.it .i64 13))⟩,
  ⟨some 75, none, .mv (.t 74)⟩,
  ⟨some 76, some (75, false), .mv (.t 0)⟩,
  ⟨some 77, some (75, false), .eq false 1 (.t 76) (.c (.it .i64 14))⟩,
  ⟨some 78, none, .pick (.t 75) (.c (.bl true)) (.t 77)⟩]
noncomputable def r13_16 : List AO := [⟨some 79, none, .mv (.t 0)⟩,
  ⟨some 80, none, .eq false 1 (.t 79) (.c (.it .i64 14))⟩,
  ⟨some 81, none, .call 45 [(.t 80)]⟩,
  ⟨some 10, none, .box 27 3 (.c (.agg [(.it .i64 0), (.it .i64 0), (.st [])]))⟩,
  ⟨none, none, .sto 3 (.t 10) (.t 81)⟩]
noncomputable def r13_17 : List AO := [⟨some 82, none, .ld true 3 (.t 4)⟩,
  ⟨some 83, none, .ld true 3 (.t 10)⟩,
  ⟨some 84, none, .eqs false [1, 1, 2] (.t 82) (.t 83)⟩,
  ⟨some 85, none, .mv (.t 84)⟩,
  ⟨some 86, some (85, false), .ld true 3 (.t 5)⟩,
  ⟨some 87, some (85, false), .ld true 3 (.t 10)⟩,
  ⟨some 88, some (85, false), .eqs false [1, 1, 2] (.t 86) (.t 87)⟩,
  ⟨some 89, none, .pick (.t 85) (.c (.bl true)) (.t 88)⟩]
noncomputable def r13_18 : List AO := [⟨some 90, none, .ld true 3 (.t 10)⟩,
  ⟨none, none, .sto 3 (.t 6) (.t 90)⟩,
  ⟨some 7, none, .mv (.c (.it .i64 0))⟩]
noncomputable def r13_19 : List AO := [⟨some 91, none, .mv (.t 8)⟩]
noncomputable def r13_20 : List AO := [⟨some 92, none, .bld [(.it .i64 0), (.it .i64 0), (.st [])] []⟩,
  ⟨none, none, .sto 3 (.t 6) (.t 92)⟩,
  ⟨some 7, none, .mv (.c (.it .i64 0))⟩]
noncomputable def r13_21 : List AO := [⟨some 93, none, .mv (.t 0)⟩,
  ⟨some 94, none, .eq false 1 (.t 93) (.c (.it .i64 13))⟩,
  ⟨some 95, none, .call 45 [(.t 94)]⟩,
  ⟨none, none, .sto 3 (.t 6) (.t 95)⟩,
  ⟨some 7, none, .mv (.c (.it .i64 0))⟩]
noncomputable def r13_22 : List AO := [⟨some 96, none, .mv (.t 8)⟩]
noncomputable def r13_23 : List AO := [⟨some 97, none, .bld [(.it .i64 0), (.it .i64 0), (.st [])] []⟩,
  ⟨none, none, .sto 3 (.t 6) (.t 97)⟩,
  ⟨some 7, none, .mv (.c (.it .i64 0))⟩]
noncomputable def r13_24 : List AO := [⟨some 98, none, .mv (.t 0)⟩]
noncomputable def r13_25 : List AO := [⟨some 100, none, .eq false 1 (.t 98) (.c (.it .i64 1))⟩,
  ⟨some 99, none, .mv (.t 100)⟩]
noncomputable def r13_26 : List AO := [⟨some 101, none, .ld true 3 (.t 4)⟩,
  ⟨some 102, none, .ld true 3 (.t 5)⟩,
  ⟨some 103, none, .eqs false [1, 1, 2] (.t 101) (.t 102)⟩,
  ⟨some 104, none, .call 45 [(.t 103)]⟩,
  ⟨none, none, .sto 3 (.t 6) (.t 104)⟩,
  ⟨some 7, none, .mv (.c (.it .i64 0))⟩]
noncomputable def r13_27 : List AO := [⟨some 106, none, .eq false 1 (.t 98) (.c (.it .i64 2))⟩,
  ⟨some 105, none, .mv (.t 106)⟩]
noncomputable def r13_28 : List AO := [⟨some 107, none, .ld true 3 (.t 4)⟩,
  ⟨some 108, none, .ld true 3 (.t 5)⟩,
  ⟨some 109, none, .eqs true [1, 1, 2] (.t 107) (.t 108)⟩,
  ⟨some 110, none, .call 45 [(.t 109)]⟩,
  ⟨none, none, .sto 3 (.t 6) (.t 110)⟩,
  ⟨some 7, none, .mv (.c (.it .i64 0))⟩]
noncomputable def r13_29 : List AO := [⟨some 112, none, .eq false 1 (.t 98) (.c (.it .i64 3))⟩,
  ⟨some 111, none, .mv (.t 112)⟩]
noncomputable def r13_30 : List AO := [⟨some 113, none, .ld true 3 (.t 4)⟩,
  ⟨some 114, none, .ld true 3 (.t 5)⟩,
  ⟨some 115, none, .call 14 [(.t 113), (.t 114)]⟩,
  ⟨some 116, none, .call 45 [(.t 115)]⟩,
  ⟨none, none, .sto 3 (.t 6) (.t 116)⟩,
  ⟨some 7, none, .mv (.c (.it .i64 0))⟩]
noncomputable def r13_31 : List AO := [⟨some 118, none, .eq false 1 (.t 98) (.c (.it .i64 4))⟩,
  ⟨some 117, none, .mv (.t 118)⟩]
noncomputable def r13_32 : List AO := [⟨some 119, none, .ld true 3 (.t 5)⟩,
  ⟨some 120, none, .ld true 3 (.t 4)⟩,
  ⟨some 121, none, .call 14 [(.t 119), (.t 120)]⟩,
  ⟨some 122, none, .un .not (.t 121)⟩,
  ⟨some 123, none, .call 45 [(.t 122)]⟩,
  ⟨none, none, .sto 3 (.t 6) (.t 123)⟩,
  ⟨some 7, none, .mv (.c (.it .i64 0))⟩]
noncomputable def r13_33 : List AO := [⟨some 125, none, .eq false 1 (.t 98) (.c (.it .i64 5))⟩,
  ⟨some 124, none, .mv (.t 125)⟩]
noncomputable def r13_34 : List AO := [⟨some 126, none, .ld true 3 (.t 5)⟩,
  ⟨some 127, none, .ld true 3 (.t 4)⟩,
  ⟨some 128, none, .call 14 [(.t 126), (.t 127)]⟩,
  ⟨some 129, none, .call 45 [(.t 128)]⟩,
  ⟨none, none, .sto 3 (.t 6) (.t 129)⟩,
  ⟨some 7, none, .mv (.c (.it .i64 0))⟩]
noncomputable def r13_35 : List AO := [⟨some 131, none, .eq false 1 (.t 98) (.c (.it .i64 6))⟩,
  ⟨some 130, none, .mv (.t 131)⟩]
noncomputable def r13_36 : List AO := [⟨some 132, none, .ld true 3 (.t 4)⟩,
  ⟨some 133, none, .ld true 3 (.t 5)⟩,
  ⟨some 134, none, .call 14 [(.t 132), (.t 133)]⟩,
  ⟨some 135, none, .un .not (.t 134)⟩,
  ⟨some 136, none, .call 45 [(.t 135)]⟩,
  ⟨none, none, .sto 3 (.t 6) (.t 136)⟩,
  ⟨some 7, none, .mv (.c (.it .i64 0))⟩]
noncomputable def r13_37 : List AO := [⟨some 138, none, .eq false 1 (.t 98) (.c (.it .i64 12))⟩,
  ⟨some 137, none, .mv (.t 138)⟩]
noncomputable def r13_38 : List AO := [⟨some 139, none, .fad 2 (.t 4)⟩,
  ⟨some 140, none, .ld false 1 (.t 139)⟩,
  ⟨some 141, none, .fad 2 (.t 5)⟩,
  ⟨some 142, none, .ld false 1 (.t 141)⟩,
  ⟨some 143, none, .bin .add (.t 140) (.t 142)⟩,
  ⟨some 144, none, .lens (.t 143)⟩,
  ⟨some 145, none, .bin .gtr (.t 144) (.c (.it .i64 64))⟩]
noncomputable def r13_39 : List AO := [⟨some 146, none, .bld [(.it .i64 0), (.it .i64 0), (.st [])] []⟩,
  ⟨none, none, .sto 3 (.t 6) (.t 146)⟩,
  ⟨some 7, none, .mv (.c (.it .i64 8))⟩]
noncomputable def r13_40 : List AO := [⟨some 147, none, .fad 2 (.t 4)⟩,
  ⟨some 148, none, .ld false 1 (.t 147)⟩,
  ⟨some 149, none, .fad 2 (.t 5)⟩,
  ⟨some 150, none, .ld false 1 (.t 149)⟩,
  ⟨some 151, none, .bin .add (.t 148) (.t 150)⟩,
  ⟨some 152, none, .bld [(.it .i64 0), (.it .i64 0), (.st [])] [(0, 1, (.c (.it .i64 3))), (1, 1, (.c (.it .i64 0))), (2, 1, (.t 151))]⟩,
  ⟨none, none, .sto 3 (.t 6) (.t 152)⟩,
  ⟨some 7, none, .mv (.c (.it .i64 0))⟩]
noncomputable def r13_41 : List AO := [⟨some 11, none, .mv (.c (.it .i64 0))⟩,
  ⟨some 12, none, .mv (.c (.bl true))⟩]
noncomputable def r13_42 : List AO := [⟨some 153, none, .mv (.t 0)⟩]
noncomputable def r13_43 : List AO := [⟨some 189, none, .eq false 1 (.t 153) (.c (.it .i64 7))⟩,
  ⟨some 188, none, .mv (.t 189)⟩]
noncomputable def r13_44 : List AO := [⟨some 191, none, .fad 1 (.t 4)⟩,
  ⟨some 192, none, .ld false 1 (.t 191)⟩,
  ⟨some 193, none, .fad 1 (.t 5)⟩,
  ⟨some 194, none, .ld false 1 (.t 193)⟩,
  ⟨some 195, none, .call 46 [(.t 192), (.t 194)]⟩,
  ⟨some 190, none, .mv (.t 195)⟩,
  ⟨some 196, none, .ext (.t 190) 0⟩,
  ⟨some 197, none, .ext (.t 190) 1⟩,
  ⟨some 11, none, .mv (.t 196)⟩,
  ⟨some 12, none, .mv (.t 197)⟩]
noncomputable def r13_45 : List AO := [⟨some 199, none, .eq false 1 (.t 153) (.c (.it .i64 8))⟩,
  ⟨some 198, none, .mv (.t 199)⟩]
noncomputable def r13_46 : List AO := [⟨some 200, none, .fad 1 (.t 5)⟩,
  ⟨some 201, none, .ld false 1 (.t 200)⟩,
  ⟨some 202, none, .eq false 1 (.t 201) (.c (.it .i64 (-9223372036854775808)))⟩]
noncomputable def r13_47 : List (AO × List Nat) := [(⟨some 203, none, .fad 1 (.t 4)⟩, []),
  (⟨some 204, none, .ld false 1 (.t 203)⟩, []),
  (⟨some 205, none, .fad 1 (.t 5)⟩, []),
  (⟨some 206, none, .ld false 1 (.t 205)⟩, []),
  (⟨some 207, none, .bin .sub (.t 204) (.t 206)⟩, []),
  (⟨some 208, none, .fad 1 (.t 4)⟩, []),
  (⟨some 209, none, .ld false 1 (.t 208)⟩, []),
  (⟨some 210, none, .bin .lss (.t 209) (.c (.it .i64 0))⟩, []),
  (⟨some 11, none, .mv (.t 207)⟩, []),
  (⟨some 12, none, .mv (.t 210)⟩, [])]
noncomputable def r13_48 : List AO := [⟨some 212, none, .fad 1 (.t 4)⟩,
  ⟨some 213, none, .ld false 1 (.t 212)⟩,
  ⟨some 214, none, .fad 1 (.t 5)⟩,
  ⟨some 215, none, .ld false 1 (.t 214)⟩,
  ⟨some 216, none, .un .neg (.t 215)⟩,
  ⟨some 217, none, .call 46 [(.t 213), (.t 216)]⟩,
  ⟨some 211, none, .mv (.t 217)⟩,
  ⟨some 218, none, .ext (.t 211) 0⟩,
  ⟨some 219, none, .ext (.t 211) 1⟩,
  ⟨some 11, none, .mv (.t 218)⟩,
  ⟨some 12, none, .mv (.t 219)⟩]
noncomputable def r13_49 : List AO := [⟨some 221, none, .eq false 1 (.t 153) (.c (.it .i64 9))⟩,
  ⟨some 220, none, .mv (.t 221)⟩]
noncomputable def r13_50 : List AO := [⟨some 223, none, .fad 1 (.t 4)⟩,
  ⟨some 224, none, .ld false 1 (.t 223)⟩,
  ⟨some 225, none, .fad 1 (.t 5)⟩,
  ⟨some 226, none, .ld false 1 (.t 225)⟩,
  ⟨some 227, none, .call 47 [(.t 224), (.t 226)]⟩,
  ⟨some 222, none, .mv (.t 227)⟩,
  ⟨some 228, none, .ext (.t 222) 0⟩,
  ⟨some 229, none, .ext (.t 222) 1⟩,
  ⟨some 11, none, .mv (.t 228)⟩,
  ⟨some 12, none, .mv (.t 229)⟩]
noncomputable def r13_51 : List AO := [⟨some 154, none, .fad 1 (.t 5)⟩,
  ⟨some 155, none, .ld false 1 (.t 154)⟩,
  ⟨some 156, none, .eq false 1 (.t 155) (.c (.it .i64 0))⟩]
noncomputable def r13_52 : List AO := [⟨some 157, none, .bld [(.it .i64 0), (.it .i64 0), (.st [])] []⟩,
  ⟨none, none, .sto 3 (.t 6) (.t 157)⟩,
  ⟨some 7, none, .mv (.c (.it .i64 9))⟩]
noncomputable def r13_53 : List AO := [⟨some 158, none, .fad 1 (.t 5)⟩,
  ⟨some 159, none, .ld false 1 (.t 158)⟩,
  ⟨some 160, none, .eq false 1 (.t 159) (.c (.it .i64 (-1)))⟩]
noncomputable def r13_54 : List AO := [⟨some 161, none, .mv (.t 0)⟩,
  ⟨some 162, none, .eq false 1 (.t 161) (.c (.it .i64 11))⟩]
noncomputable def r13_55 : List AO := [⟨some 163, none, .bld [(.it .i64 0), (.it .i64 0), (.st [])] [(0, 1, (.c (.it .i64 2))), (1, 1, (.c (.it .i64 0))), (2, 1, (.c (.st [])))]⟩,
  ⟨none, none, .sto 3 (.t 6) (.t 163)⟩,
  ⟨some 7, none, .mv (.c (.it .i64 0))⟩]
noncomputable def r13_56 : List (AO × List Nat) := [(⟨some 164, none, .fad 1 (.t 4)⟩, []),
  (⟨some 165, none, .ld false 1 (.t 164)⟩, []),
  (⟨some 166, none, .un .neg (.t 165)⟩, []),
  (⟨some 167, none, .fad 1 (.t 4)⟩, []),
  (⟨some 168, none, .ld false 1 (.t 167)⟩, []),
  (⟨some 169, none, .eq true 1 (.t 168) (.c (.it .i64 (-9223372036854775808)))⟩, []),
  (⟨some 11, none, .mv (.t 166)⟩, []),
  (⟨some 12, none, .mv (.t 169)⟩, [])]
noncomputable def r13_57 : List AO := [⟨some 170, none, .mv (.t 0)⟩,
  ⟨some 171, none, .eq false 1 (.t 170) (.c (.it .i64 10))⟩]
noncomputable def r13_58 : List AO := [⟨some 172, none, .fad 1 (.t 4)⟩,
  ⟨some 173, none, .ld false 1 (.t 172)⟩,
  ⟨some 174, none, .fad 1 (.t 5)⟩,
  ⟨some 175, none, .ld false 1 (.t 174)⟩,
  ⟨some 176, none, .bin .quo (.t 173) (.t 175)⟩,
  ⟨some 11, none, .mv (.t 176)⟩]
noncomputable def r13_59 : List (AO × List Nat) := [(⟨some 177, none, .fad 1 (.t 4)⟩, []),
  (⟨some 178, none, .ld false 1 (.t 177)⟩, []),
  (⟨some 179, none, .fad 1 (.t 4)⟩, []),
  (⟨some 180, none, .ld false 1 (.t 179)⟩, []),
  (⟨some 181, none, .fad 1 (.t 5)⟩, []),
  (⟨some 182, none, .ld false 1 (.t 181)⟩, []),
  (⟨some 183, none, .bin .quo (.t 180) (.t 182)⟩, []),
  (⟨some 184, none, .fad 1 (.t 5)⟩, []),
  (⟨some 185, none, .ld false 1 (.t 184)⟩, []),
  (⟨some 186, none, .bin .mul (.t 183) (.t 185)⟩, []),
  (⟨some 187, none, .bin .sub (.t 178) (.t 186)⟩, []),
  (⟨some 11, none, .mv (.t 187)⟩, [])]
noncomputable def r13_60 : List AO := [⟨some 230, none, .mv (.t 12)⟩,
  ⟨some 231, none, .un .not (.t 230)⟩]
noncomputable def r13_61 : List AO := [⟨some 232, none, .bld [(.it .i64 0), (.it .i64 0), (.st [])] []⟩,
  ⟨none, none, .sto 3 (.t 6) (.t 232)⟩,
  ⟨some 7, none, .mv (.c (.it .i64 8))⟩]
noncomputable def r13_62 : List AO := [⟨some 233, none, .mv (.t 11)⟩,
  ⟨some 234, none, .bld [(.it .i64 0), (.it .i64 0), (.st [])] [(0, 1, (.c (.it .i64 2))), (1, 1, (.t 233)), (2, 1, (.c (.st [])))]⟩,
  ⟨none, none, .sto 3 (.t 6) (.t 234)⟩,
  ⟨some 7, none, .mv (.c (.it .i64 0))⟩]
set_option maxRecDepth 1000000 in
noncomputable def c13 : AFn := ⟨235, [(6, some 3), (7, none)],
  (.seq (.ops r13_0)
  (.seq (.ops r13_1)
  (.seq (.seq (.ops r13_2)
  (.cond (.t 26) (.seq (.ops r13_3)
  .ret)
  .skip))
  (.seq (.seq (.ops r13_4)
  (.cond (.t 40) (.seq (.ops r13_5)
  .ret)
  .skip))
  (.seq (.ops r13_6)
  (.seq (.seq (.ops r13_7)
  (.cond (.t 43) (.ops r13_8)
  .skip))
  (.seq (.seq (.ops r13_9)
  (.cond (.t 45) (.ops r13_10)
  .skip))
  (.seq (.seq (.ops r13_11)
  (.cond (.t 47) (.ops r13_12)
  .skip))
  (.seq (.seq (.ops r13_13)
  (.cond (.t 71) (.seq (.ops r13_14)
  .ret)
  .skip))
  (.seq (.seq (.ops r13_15)
  (.cond (.t 78) (.seq (.ops r13_16)
  (.seq (.seq (.ops r13_17)
  (.cond (.t 89) (.seq (.ops r13_18)
  .ret)
  .skip))
  (.seq (.seq (.ops r13_19)
  (.cond (.t 91) (.seq (.ops r13_20)
  .ret)
  .skip))
  (.seq (.ops r13_21)
  .ret))))
  .skip))
  (.seq (.seq (.ops r13_22)
  (.cond (.t 96) (.seq (.ops r13_23)
  .ret)
  .skip))
  (.seq (.seq (.ops r13_24)
  (.block 0 (.seq (.ops r13_25)
  (.cond (.t 99) (.seq (.ops r13_26)
  .ret)
  (.seq (.ops r13_27)
  (.cond (.t 105) (.seq (.ops r13_28)
  .ret)
  (.seq (.ops r13_29)
  (.cond (.t 111) (.seq (.ops r13_30)
  .ret)
  (.seq (.ops r13_31)
  (.cond (.t 117) (.seq (.ops r13_32)
  .ret)
  (.seq (.ops r13_33)
  (.cond (.t 124) (.seq (.ops r13_34)
  .ret)
  (.seq (.ops r13_35)
  (.cond (.t 130) (.seq (.ops r13_36)
  .ret)
  (.seq (.ops r13_37)
  (.cond (.t 137) (.seq (.seq (.ops r13_38)
  (.cond (.t 145) (.seq (.ops r13_39)
  .ret)
  .skip))
  (.seq (.ops r13_40)
  .ret))
  .skip))))))))))))))))
  (.seq (.ops r13_41)
  (.seq (.seq (.ops r13_42)
  (.block 1 (.seq (.ops r13_43)
  (.cond (.t 188) (.ops r13_44)
  (.seq (.ops r13_45)
  (.cond (.t 198) (.seq (.ops r13_46)
  (.cond (.t 202) (.drw r13_47)
  (.ops r13_48)))
  (.seq (.ops r13_49)
  (.cond (.t 220) (.ops r13_50)
  (.seq (.seq (.ops r13_51)
  (.cond (.t 156) (.seq (.ops r13_52)
  .ret)
  .skip))
  (.seq (.ops r13_53)
  (.cond (.t 160) (.seq (.seq (.ops r13_54)
  (.cond (.t 162) (.seq (.ops r13_55)
  .ret)
  .skip))
  (.drw r13_56))
  (.seq (.ops r13_57)
  (.cond (.t 171) (.ops r13_58)
  (.drw r13_59))))))))))))))
  (.seq (.seq (.ops r13_60)
  (.cond (.t 231) (.seq (.ops r13_61)
  .ret)
  .skip))
  (.seq (.ops r13_62)
  .ret))))))))))))))))⟩
set_option maxRecDepth 1000000 in
theorem t13 : trF Tryd.prog 13 = some c13 := by kernel_rfl
/-- regrater/regraterref06.Before (0 a, 1 b, 2 a, 3 b, 5 i) -/
noncomputable def r14_0 : List AO := [⟨some 2, none, .box 27 3 (.t 0)⟩,
  ⟨some 3, none, .box 27 3 (.t 1)⟩,
  ⟨some 4, none, .mv (.c (.bl false))⟩]
noncomputable def r14_1 : List AO := [⟨some 6, none, .fad 0 (.t 2)⟩,
  ⟨some 7, none, .ld false 1 (.t 6)⟩,
  ⟨some 8, none, .fad 0 (.t 3)⟩,
  ⟨some 9, none, .ld false 1 (.t 8)⟩,
  ⟨some 10, none, .eq true 1 (.t 7) (.t 9)⟩]
noncomputable def r14_2 : List AO := [⟨some 11, none, .fad 0 (.t 2)⟩,
  ⟨some 12, none, .ld false 1 (.t 11)⟩,
  ⟨some 13, none, .fad 0 (.t 3)⟩,
  ⟨some 14, none, .ld false 1 (.t 13)⟩,
  ⟨some 15, none, .bin .lss (.t 12) (.t 14)⟩,
  ⟨some 4, none, .mv (.t 15)⟩]
noncomputable def r14_3 : List AO := [⟨some 16, none, .fad 0 (.t 2)⟩,
  ⟨some 17, none, .ld false 1 (.t 16)⟩,
  ⟨some 18, none, .eq false 1 (.t 17) (.c (.it .i64 3))⟩]
noncomputable def r14_4 : List AO := [⟨some 5, none, .mv (.c (.it .i64 0))⟩]
noncomputable def r14_5 : List AO := [⟨some 19, none, .mv (.t 5)⟩,
  ⟨some 20, none, .fad 2 (.t 2)⟩,
  ⟨some 21, none, .ld false 1 (.t 20)⟩,
  ⟨some 22, none, .lens (.t 21)⟩,
  ⟨some 23, none, .bin .lss (.t 19) (.t 22)⟩,
  ⟨some 24, none, .mv (.t 23)⟩,
  ⟨some 25, some (24, true), .mv (.t 5)⟩,
  ⟨some 26, some (24, true), .fad 2 (.t 3)⟩,
  ⟨some 27, some (24, true), .ld false 1 (.t 26)⟩,
  ⟨some 28, some (24, true), .lens (.t 27)⟩,
  ⟨some 29, some (24, true), .bin .lss (.t 25) (.t 28)⟩,
  ⟨some 30, none, .pick (.t 24) (.t 29) (.c (.bl false))⟩]
noncomputable def r14_6 : List (AO × List Nat) := [(⟨some 33, none, .fad 2 (.t 2)⟩, []),
  (⟨some 34, none, .ld false 1 (.t 33)⟩, []),
  (⟨some 35, none, .mv (.t 5)⟩, []),
  (⟨some 36, none, .idxs (.t 34) (.t 35)⟩, []),
  (⟨some 37, none, .fad 2 (.t 3)⟩, []),
  (⟨some 38, none, .ld false 1 (.t 37)⟩, []),
  (⟨some 39, none, .mv (.t 5)⟩, []),
  (⟨some 40, none, .idxs (.t 38) (.t 39)⟩, []),
  (⟨some 41, none, .eq true 1 (.t 36) (.t 40)⟩, [])]
noncomputable def r14_7 : List (AO × List Nat) := [(⟨some 42, none, .fad 2 (.t 2)⟩, []),
  (⟨some 43, none, .ld false 1 (.t 42)⟩, []),
  (⟨some 44, none, .mv (.t 5)⟩, []),
  (⟨some 45, none, .idxs (.t 43) (.t 44)⟩, []),
  (⟨some 46, none, .fad 2 (.t 3)⟩, []),
  (⟨some 47, none, .ld false 1 (.t 46)⟩, []),
  (⟨some 48, none, .mv (.t 5)⟩, []),
  (⟨some 49, none, .idxs (.t 47) (.t 48)⟩, []),
  (⟨some 50, none, .bin .lss (.t 45) (.t 49)⟩, []),
  (⟨some 4, none, .mv (.t 50)⟩, [])]
noncomputable def r14_8 : List AO := [⟨some 31, none, .mv (.t 5)⟩,
  ⟨some 32, none, .bin .add (.t 31) (.c (.it .i64 1))⟩,
  ⟨some 5, none, .mv (.t 32)⟩]
noncomputable def r14_9 : List AO := [⟨some 51, none, .fad 2 (.t 2)⟩,
  ⟨some 52, none, .ld false 1 (.t 51)⟩,
  ⟨some 53, none, .lens (.t 52)⟩,
  ⟨some 54, none, .fad 2 (.t 3)⟩,
  ⟨some 55, none, .ld false 1 (.t 54)⟩,
  ⟨some 56, none, .lens (.t 55)⟩,
  ⟨some 57, none, .bin .lss (.t 53) (.t 56)⟩,
  ⟨some 4, none, .mv (.t 57)⟩]
noncomputable def r14_10 : List AO := [⟨some 58, none, .fad 1 (.t 2)⟩,
  ⟨some 59, none, .ld false 1 (.t 58)⟩,
  ⟨some 60, none, .fad 1 (.t 3)⟩,
  ⟨some 61, none, .ld false 1 (.t 60)⟩,
  ⟨some 62, none, .bin .lss (.t 59) (.t 61)⟩,
  ⟨some 4, none, .mv (.t 62)⟩]
set_option maxRecDepth 1000000 in
noncomputable def c14 : AFn := ⟨63, [(4, none)],
  (.seq (.ops r14_0)
  (.seq (.seq (.ops r14_1)
  (.cond (.t 10) (.seq (.ops r14_2)
  .ret)
  .skip))
  (.seq (.seq (.ops r14_3)
  (.cond (.t 18) (.seq (.seq (.ops r14_4)
  (.block 0 (.loop (.seq (.seq (.ops r14_5)
  (.cond (.t 30) .skip
  (.exit 0)))
  (.seq (.block 1 (.seq (.drw r14_6)
  (.cond (.t 41) (.seq (.drw r14_7)
  .ret)
  .skip)))
  (.ops r14_8))))))
  (.seq (.ops r14_9)
  .ret))
  .skip))
  (.seq (.ops r14_10)
  .ret))))⟩
set_option maxRecDepth 1000000 in
theorem t14 : trF Tryd.prog 14 = some c14 := by kernel_rfl
/-- regrater/value.Compare (0 a, 1 b, 2 a, 3 b) -/
noncomputable def r15_0 : List AO := [⟨some 2, none, .box 26 3 (.t 0)⟩,
  ⟨some 3, none, .box 26 3 (.t 1)⟩,
  ⟨some 4, none, .mv (.c (.it .i64 0))⟩]
noncomputable def r15_1 : List (AO × List Nat) := [(⟨some 5, none, .fad 0 (.t 2)⟩, []),
  (⟨some 6, none, .ld false 1 (.t 5)⟩, []),
  (⟨some 7, none, .fad 0 (.t 3)⟩, []),
  (⟨some 8, none, .ld false 1 (.t 7)⟩, []),
  (⟨some 9, none, .call 49 [(.t 6), (.t 8)]⟩, []),
  (⟨some 10, none, .fad 1 (.t 2)⟩, [4]),
  (⟨some 11, none, .ld false 1 (.t 10)⟩, [4]),
  (⟨some 12, none, .fad 1 (.t 3)⟩, [4]),
  (⟨some 13, none, .ld false 1 (.t 12)⟩, [4]),
  (⟨some 14, none, .call 50 [(.t 11), (.t 13)]⟩, []),
  (⟨some 15, none, .fad 2 (.t 2)⟩, [4, 9]),
  (⟨some 16, none, .ld false 1 (.t 15)⟩, [4, 9]),
  (⟨some 17, none, .fad 2 (.t 3)⟩, [4, 9]),
  (⟨some 18, none, .ld false 1 (.t 17)⟩, [4, 9]),
  (⟨some 19, none, .call 51 [(.t 16), (.t 18)]⟩, []),
  (⟨some 20, none, .bsl 3 1 3 [(.it .i64 0)] [(0, 1, (.t 9)), (1, 1, (.t 14)), (2, 1, (.t 19))]⟩, []),
  (⟨some 21, none, .call 48 [(.t 20)]⟩, []),
  (⟨some 4, none, .mv (.t 21)⟩, [])]
set_option maxRecDepth 1000000 in
noncomputable def c15 : AFn := ⟨22, [(4, none)],
  (.seq (.ops r15_0)
  (.seq (.drw r15_1)
  .ret))⟩
set_option maxRecDepth 1000000 in
theorem t15 : trF Tryd.prog 15 = some c15 := by kernel_rfl
/-- regrater/value.OfBool (0 b, 1 b) -/
noncomputable def r16_0 : List AO := [⟨some 2, none, .box 26 3 (.c (.agg [(.it .i64 0), (.it .i64 0), (.st [])]))⟩]
noncomputable def r16_1 : List AO := [⟨some 3, none, .mv (.t 0)⟩]
noncomputable def r16_2 : List AO := [⟨some 4, none, .bld [(.it .i64 0), (.it .i64 0), (.st [])] [(0, 1, (.c (.it .i64 1))), (1, 1, (.c (.it .i64 1)))]⟩,
  ⟨none, none, .sto 3 (.t 2) (.t 4)⟩]
noncomputable def r16_3 : List AO := [⟨some 5, none, .bld [(.it .i64 0), (.it .i64 0), (.st [])] [(0, 1, (.c (.it .i64 1)))]⟩,
  ⟨none, none, .sto 3 (.t 2) (.t 5)⟩]
set_option maxRecDepth 1000000 in
noncomputable def c16 : AFn := ⟨6, [(2, some 3)],
  (.seq (.ops r16_0)
  (.seq (.seq (.ops r16_1)
  (.cond (.t 3) (.seq (.ops r16_2)
  .ret)
  .skip))
  (.seq (.ops r16_3)
  .ret)))⟩
set_option maxRecDepth 1000000 in
theorem t16 : trF Tryd.prog 16 = some c16 := by kernel_rfl
/-- regrater/value.Not (0 v, 1 v) -/
noncomputable def r17_0 : List AO := [⟨some 1, none, .box 26 3 (.t 0)⟩,
  ⟨some 2, none, .box 26 3 (.c (.agg [(.it .i64 0), (.it .i64 0), (.st [])]))⟩,
  ⟨some 3, none, .mv (.c (.it .i64 0))⟩]
noncomputable def r17_1 : List AO := [⟨some 4, none, .fad 0 (.t 1)⟩,
  ⟨some 5, none, .ld false 1 (.t 4)⟩]
noncomputable def r17_2 : List AO := [⟨some 7, none, .eq false 1 (.t 5) (.c (.it .i64 0))⟩,
  ⟨some 6, none, .mv (.t 7)⟩]
noncomputable def r17_3 : List AO := [⟨some 8, none, .ld true 3 (.t 1)⟩,
  ⟨none, none, .sto 3 (.t 2) (.t 8)⟩,
  ⟨some 3, none, .mv (.c (.it .i64 0))⟩]
noncomputable def r17_4 : List AO := [⟨some 10, none, .eq false 1 (.t 5) (.c (.it .i64 1))⟩,
  ⟨some 9, none, .mv (.t 10)⟩]
noncomputable def r17_5 : List AO := [⟨some 11, none, .ld true 3 (.t 1)⟩,
  ⟨some 12, none, .call 23 [(.t 11)]⟩,
  ⟨some 13, none, .un .not (.t 12)⟩,
  ⟨some 14, none, .call 16 [(.t 13)]⟩,
  ⟨none, none, .sto 3 (.t 2) (.t 14)⟩,
  ⟨some 3, none, .mv (.c (.it .i64 0))⟩]
noncomputable def r17_6 : List AO := [⟨some 15, none, .bld [(.it .i64 0), (.it .i64 0), (.st [])] []⟩,
  ⟨none, none, .sto 3 (.t 2) (.t 15)⟩,
  ⟨some 3, none, .mv (.c (.it .i64 5))⟩]
set_option maxRecDepth 1000000 in
noncomputable def c17 : AFn := ⟨16, [(2, some 3), (3, none)],
  (.seq (.ops r17_0)
  (.seq (.seq (.ops r17_1)
  (.block 0 (.seq (.ops r17_2)
  (.cond (.t 6) (.seq (.ops r17_3)
  .ret)
  (.seq (.ops r17_4)
  (.cond (.t 9) (.seq (.ops r17_5)
  .ret)
  .skip))))))
  (.seq (.ops r17_6)
  .ret)))⟩
set_option maxRecDepth 1000000 in
theorem t17 : trF Tryd.prog 17 = some c17 := by kernel_rfl
/-- regrater/value.OfInt (0 n, 1 n) -/
noncomputable def r18_0 : List AO := [⟨some 2, none, .box 26 3 (.c (.agg [(.it .i64 0), (.it .i64 0), (.st [])]))⟩]
noncomputable def r18_1 : List AO := [⟨some 3, none, .mv (.t 0)⟩,
  ⟨some 4, none, .bld [(.it .i64 0), (.it .i64 0), (.st [])] [(0, 1, (.c (.it .i64 2))), (1, 1, (.t 3))]⟩,
  ⟨none, none, .sto 3 (.t 2) (.t 4)⟩]
set_option maxRecDepth 1000000 in
noncomputable def c18 : AFn := ⟨5, [(2, some 3)],
  (.seq (.ops r18_0)
  (.seq (.ops r18_1)
  .ret))⟩
set_option maxRecDepth 1000000 in
theorem t18 : trF Tryd.prog 18 = some c18 := by kernel_rfl
/-- (regrater/value.Value).Good (0 v, 1 v) -/
noncomputable def r19_0 : List AO := [⟨some 1, none, .box 26 3 (.t 0)⟩,
  ⟨some 2, none, .mv (.c (.bl false))⟩]
noncomputable def r19_1 : List AO := [⟨some 3, none, .fad 0 (.t 1)⟩,
  ⟨some 4, none, .ld false 1 (.t 3)⟩]
noncomputable def r19_2 : List AO := [⟨some 6, none, .eq false 1 (.t 4) (.c (.it .i64 0))⟩,
  ⟨some 5, none, .mv (.t 6)⟩]
noncomputable def r19_3 : List AO := [⟨some 7, none, .ld true 3 (.t 1)⟩,
  ⟨some 8, none, .bld [(.it .i64 0), (.it .i64 0), (.st [])] []⟩,
  ⟨some 9, none, .eqs false [1, 1, 2] (.t 7) (.t 8)⟩,
  ⟨some 2, none, .mv (.t 9)⟩]
noncomputable def r19_4 : List AO := [⟨some 11, none, .eq false 1 (.t 4) (.c (.it .i64 1))⟩,
  ⟨some 10, none, .mv (.t 11)⟩]
noncomputable def r19_5 : List AO := [⟨some 12, none, .fad 1 (.t 1)⟩,
  ⟨some 13, none, .ld false 1 (.t 12)⟩,
  ⟨some 14, none, .eq false 1 (.t 13) (.c (.it .i64 0))⟩,
  ⟨some 15, none, .mv (.t 14)⟩,
  ⟨some 16, some (15, false), .fad 1 (.t 1)⟩,
  ⟨some 17, some (15, false), .ld false 1 (.t 16)⟩,
  ⟨some 18, some (15, false), .eq false 1 (.t 17) (.c (.it .i64 1))⟩,
  ⟨some 19, none, .pick (.t 15) (.c (.bl true)) (.t 18)⟩,
  ⟨some 20, none, .mv (.t 19)⟩,
  ⟨some 21, some (20, true), .fad 2 (.t 1)⟩,
  ⟨some 22, some (20, true), .ld false 1 (.t 21)⟩,
  ⟨some 23, some (20, true), .eq false 2 (.t 22) (.c (.st []))⟩,
  ⟨some 24, none, .pick (.t 20) (.t 23) (.c (.bl false))⟩,
  ⟨some 2, none, .mv (.t 24)⟩]
noncomputable def r19_6 : List AO := [⟨some 26, none, .eq false 1 (.t 4) (.c (.it .i64 2))⟩,
  ⟨some 25, none, .mv (.t 26)⟩]
noncomputable def r19_7 : List AO := [⟨some 27, none, .fad 2 (.t 1)⟩,
  ⟨some 28, none, .ld false 1 (.t 27)⟩,
  ⟨some 29, none, .eq false 2 (.t 28) (.c (.st []))⟩,
  ⟨some 2, none, .mv (.t 29)⟩]
noncomputable def r19_8 : List AO := [⟨some 31, none, .eq false 1 (.t 4) (.c (.it .i64 3))⟩,
  ⟨some 30, none, .mv (.t 31)⟩]
noncomputable def r19_9 : List AO := [⟨some 32, none, .fad 1 (.t 1)⟩,
  ⟨some 33, none, .ld false 1 (.t 32)⟩,
  ⟨some 34, none, .eq false 1 (.t 33) (.c (.it .i64 0))⟩,
  ⟨some 35, none, .mv (.t 34)⟩,
  ⟨some 36, some (35, true), .fad 2 (.t 1)⟩,
  ⟨some 37, some (35, true), .ld false 1 (.t 36)⟩,
  ⟨some 38, some (35, true), .lens (.t 37)⟩,
  ⟨some 39, some (35, true), .bin .leq (.t 38) (.c (.it .i64 64))⟩,
  ⟨some 40, none, .pick (.t 35) (.t 39) (.c (.bl false))⟩,
  ⟨some 2, none, .mv (.t 40)⟩]
noncomputable def r19_10 : List AO := [⟨some 2, none, .mv (.c (.bl false))⟩]
set_option maxRecDepth 1000000 in
noncomputable def c19 : AFn := ⟨41, [(2, none)],
  (.seq (.ops r19_0)
  (.seq (.seq (.ops r19_1)
  (.block 0 (.seq (.ops r19_2)
  (.cond (.t 5) (.seq (.ops r19_3)
  .ret)
  (.seq (.ops r19_4)
  (.cond (.t 10) (.seq (.ops r19_5)
  .ret)
  (.seq (.ops r19_6)
  (.cond (.t 25) (.seq (.ops r19_7)
  .ret)
  (.seq (.ops r19_8)
  (.cond (.t 30) (.seq (.ops r19_9)
  .ret)
  .skip))))))))))
  (.seq (.ops r19_10)
  .ret)))⟩
set_option maxRecDepth 1000000 in
theorem t19 : trF Tryd.prog 19 = some c19 := by kernel_rfl
/-- regrater/regraterref06.Good (0 v, 1 v) -/
noncomputable def r20_0 : List AO := [⟨some 1, none, .box 27 3 (.t 0)⟩,
  ⟨some 2, none, .mv (.c (.bl false))⟩]
noncomputable def r20_1 : List AO := [⟨some 3, none, .fad 0 (.t 1)⟩,
  ⟨some 4, none, .ld false 1 (.t 3)⟩,
  ⟨some 5, none, .eq false 1 (.t 4) (.c (.it .i64 0))⟩]
noncomputable def r20_2 : List AO := [⟨some 6, none, .fad 1 (.t 1)⟩,
  ⟨some 7, none, .ld false 1 (.t 6)⟩,
  ⟨some 8, none, .eq false 1 (.t 7) (.c (.it .i64 0))⟩,
  ⟨some 9, none, .mv (.t 8)⟩,
  ⟨some 10, some (9, true), .fad 2 (.t 1)⟩,
  ⟨some 11, some (9, true), .ld false 1 (.t 10)⟩,
  ⟨some 12, some (9, true), .eq false 2 (.t 11) (.c (.st []))⟩,
  ⟨some 13, none, .pick (.t 9) (.t 12) (.c (.bl false))⟩,
  ⟨some 2, none, .mv (.t 13)⟩]
noncomputable def r20_3 : List AO := [⟨some 14, none, .fad 0 (.t 1)⟩,
  ⟨some 15, none, .ld false 1 (.t 14)⟩,
  ⟨some 16, none, .eq false 1 (.t 15) (.c (.it .i64 1))⟩]
noncomputable def r20_4 : List AO := [⟨some 17, none, .fad 1 (.t 1)⟩,
  ⟨some 18, none, .ld false 1 (.t 17)⟩,
  ⟨some 19, none, .eq false 1 (.t 18) (.c (.it .i64 0))⟩,
  ⟨some 20, none, .mv (.t 19)⟩,
  ⟨some 21, some (20, false), .fad 1 (.t 1)⟩,
  ⟨some 22, some (20, false), .ld false 1 (.t 21)⟩,
  ⟨some 23, some (20, false), .eq false 1 (.t 22) (.c (.it .i64 1))⟩,
  ⟨some 24, none, .pick (.t 20) (.c (.bl true)) (.t 23)⟩,
  ⟨some 25, none, .mv (.t 24)⟩,
  ⟨some 26, some (25, true), .fad 2 (.t 1)⟩,
  ⟨some 27, some (25, true), .ld false 1 (.t 26)⟩,
  ⟨some 28, some (25, true), .eq false 2 (.t 27) (.c (.st []))⟩,
  ⟨some 29, none, .pick (.t 25) (.t 28) (.c (.bl false))⟩,
  ⟨some 2, none, .mv (.t 29)⟩]
noncomputable def r20_5 : List AO := [⟨some 30, none, .fad 0 (.t 1)⟩,
  ⟨some 31, none, .ld false 1 (.t 30)⟩,
  ⟨some 32, none, .eq false 1 (.t 31) (.c (.it .i64 2))⟩]
noncomputable def r20_6 : List AO := [⟨some 33, none, .fad 2 (.t 1)⟩,
  ⟨some 34, none, .ld false 1 (.t 33)⟩,
  ⟨some 35, none, .eq false 2 (.t 34) (.c (.st []))⟩,
  ⟨some 2, none, .mv (.t 35)⟩]
noncomputable def r20_7 : List AO := [⟨some 36, none, .fad 0 (.t 1)⟩,
  ⟨some 37, none, .ld false 1 (.t 36)⟩,
  ⟨some 38, none, .eq false 1 (.t 37) (.c (.it .i64 3))⟩,
  ⟨some 39, none, .mv (.t 38)⟩,
  ⟨some 40, some (39, true), .fad 1 (.t 1)⟩,
  ⟨some 41, some (39, true), .ld false 1 (.t 40)⟩,
  ⟨some 42, some (39, true), .eq false 1 (.t 41) (.c (.it .i64 0))⟩,
  ⟨some 43, none, .pick (.t 39) (.t 42) (.c (.bl false))⟩,
  ⟨some 44, none, .mv (.t 43)⟩,
  ⟨some 45, some (44, true), .fad 2 (.t 1)⟩,
  ⟨some 46, some (44, true), .ld false 1 (.t 45)⟩,
  ⟨some 47, some (44, true), .lens (.t 46)⟩,
  ⟨some 48, some (44, true), .bin .leq (.t 47) (.c (.it .i64 64))⟩,
  ⟨some 49, none, .pick (.t 44) (.t 48) (.c (.bl false))⟩,
  ⟨some 2, none, .mv (.t 49)⟩]
set_option maxRecDepth 1000000 in
noncomputable def c20 : AFn := ⟨50, [(2, none)],
  (.seq (.ops r20_0)
  (.seq (.seq (.ops r20_1)
  (.cond (.t 5) (.seq (.ops r20_2)
  .ret)
  .skip))
  (.seq (.seq (.ops r20_3)
  (.cond (.t 16) (.seq (.ops r20_4)
  .ret)
  .skip))
  (.seq (.seq (.ops r20_5)
  (.cond (.t 32) (.seq (.ops r20_6)
  .ret)
  .skip))
  (.seq (.ops r20_7)
  .ret)))))⟩
set_option maxRecDepth 1000000 in
theorem t20 : trF Tryd.prog 20 = some c20 := by kernel_rfl
/-- (regrater/value.Value).Show (0 v, 1 v) -/
noncomputable def r21_0 : List AO := [⟨some 1, none, .box 26 3 (.t 0)⟩,
  ⟨some 2, none, .mv (.c (.st []))⟩]
noncomputable def r21_1 : List AO := [⟨some 4, none, .ld true 3 (.t 1)⟩,
  ⟨some 5, none, .call 19 [(.t 4)]⟩,
  ⟨some 6, none, .un .not (.t 5)⟩,
  ⟨some 7, none, .mv (.t 6)⟩,
  ⟨some 8, some (7, false), .ld true 3 (.t 1)⟩,
  ⟨some 9, some (7, false), .call 42 [(.t 8)]⟩,
  ⟨some 10, none, .pick (.t 7) (.c (.bl true)) (.t 9)⟩,
  ⟨some 3, none, .mv (.t 10)⟩]
noncomputable def r21_2 : List AO := [⟨some 2, none, .mv (.c (.st [78, 85, 76, 76]))⟩]
noncomputable def r21_3 : List AO := [⟨some 12, none, .ld true 3 (.t 1)⟩,
  ⟨some 13, none, .call 23 [(.t 12)]⟩,
  ⟨some 11, none, .mv (.t 13)⟩]
noncomputable def r21_4 : List AO := [⟨some 2, none, .mv (.c (.st [84, 82, 85, 69]))⟩]
noncomputable def r21_5 : List AO := [⟨some 15, none, .fad 0 (.t 1)⟩,
  ⟨some 16, none, .ld false 1 (.t 15)⟩,
  ⟨some 17, none, .eq false 1 (.t 16) (.c (.it .i64 1))⟩,
  ⟨some 14, none, .mv (.t 17)⟩]
noncomputable def r21_6 : List AO := [⟨some 2, none, .mv (.c (.st [70, 65, 76, 83, 69]))⟩]
noncomputable def r21_7 : List AO := [⟨some 19, none, .fad 0 (.t 1)⟩,
  ⟨some 20, none, .ld false 1 (.t 19)⟩,
  ⟨some 21, none, .eq false 1 (.t 20) (.c (.it .i64 2))⟩,
  ⟨some 18, none, .mv (.t 21)⟩]
noncomputable def r21_8 : List AO := [⟨some 22, none, .fad 1 (.t 1)⟩,
  ⟨some 23, none, .ld false 1 (.t 22)⟩,
  ⟨some 24, none, .call 52 [(.t 23), (.c (.it .i64 10))]⟩,
  ⟨some 2, none, .mv (.t 24)⟩]
noncomputable def r21_9 : List AO := [⟨some 25, none, .fad 2 (.t 1)⟩,
  ⟨some 26, none, .ld false 1 (.t 25)⟩,
  ⟨some 27, none, .call 53 [(.t 26), (.c (.st [39])), (.c (.st [39, 39]))]⟩,
  ⟨some 28, none, .bin .add (.c (.st [39])) (.t 27)⟩,
  ⟨some 29, none, .bin .add (.t 28) (.c (.st [39]))⟩,
  ⟨some 2, none, .mv (.t 29)⟩]
set_option maxRecDepth 1000000 in
noncomputable def c21 : AFn := ⟨30, [(2, none)],
  (.seq (.ops r21_0)
  (.seq (.block 0 (.seq (.ops r21_1)
  (.cond (.t 3) (.seq (.ops r21_2)
  .ret)
  (.seq (.ops r21_3)
  (.cond (.t 11) (.seq (.ops r21_4)
  .ret)
  (.seq (.ops r21_5)
  (.cond (.t 14) (.seq (.ops r21_6)
  .ret)
  (.seq (.ops r21_7)
  (.cond (.t 18) (.seq (.ops r21_8)
  .ret)
  .skip)))))))))
  (.seq (.ops r21_9)
  .ret)))⟩
set_option maxRecDepth 1000000 in
theorem t21 : trF Tryd.prog 21 = some c21 := by kernel_rfl
/-- regrater/regraterref06.Show (0 v, 1 v, 3 out, 4 i) -/
noncomputable def r22_0 : List AO := [⟨some 1, none, .box 27 3 (.t 0)⟩,
  ⟨some 2, none, .mv (.c (.st []))⟩]
noncomputable def r22_1 : List AO := [⟨some 5, none, .ld true 3 (.t 1)⟩,
  ⟨some 6, none, .call 20 [(.t 5)]⟩,
  ⟨some 7, none, .un .not (.t 6)⟩,
  ⟨some 8, none, .mv (.t 7)⟩,
  ⟨some 9, some (8, false), .fad 0 (.t 1)⟩,
  ⟨some 10, some (8, false), .ld false 1 (.t 9)⟩,
  ⟨some 11, some (8, false), .eq false 1 (.t 10) (.c (.it .i64 0))⟩,
  ⟨some 12, none, .pick (.t 8) (.c (.bl true)) (.t 11)⟩]
noncomputable def r22_2 : List AO := [⟨some 2, none, .mv (.c (.st [78, 85, 76, 76]))⟩]
noncomputable def r22_3 : List AO := [⟨some 13, none, .fad 0 (.t 1)⟩,
  ⟨some 14, none, .ld false 1 (.t 13)⟩,
  ⟨some 15, none, .eq false 1 (.t 14) (.c (.it .i64 1))⟩,
  ⟨some 16, none, .mv (.t 15)⟩,
  ⟨some 17, some (16, true), .fad 1 (.t 1)⟩,
  ⟨some 18, some (16, true), .ld false 1 (.t 17)⟩,
  ⟨some 19, some (16, true), .eq false 1 (.t 18) (.c (.it .i64 1))⟩,
  ⟨some 20, none, .pick (.t 16) (.t 19) (.c (.bl false))⟩]
noncomputable def r22_4 : List AO := [⟨some 2, none, .mv (.c (.st [84, 82, 85, 69]))⟩]
noncomputable def r22_5 : List AO := [⟨some 21, none, .fad 0 (.t 1)⟩,
  ⟨some 22, none, .ld false 1 (.t 21)⟩,
  ⟨some 23, none, .eq false 1 (.t 22) (.c (.it .i64 1))⟩]
noncomputable def r22_6 : List AO := [⟨some 2, none, .mv (.c (.st [70, 65, 76, 83, 69]))⟩]
noncomputable def r22_7 : List AO := [⟨some 24, none, .fad 0 (.t 1)⟩,
  ⟨some 25, none, .ld false 1 (.t 24)⟩,
  ⟨some 26, none, .eq false 1 (.t 25) (.c (.it .i64 2))⟩]
noncomputable def r22_8 : List AO := [⟨some 27, none, .fad 1 (.t 1)⟩,
  ⟨some 28, none, .ld false 1 (.t 27)⟩,
  ⟨some 29, none, .call 54 [(.t 28)]⟩,
  ⟨some 2, none, .mv (.t 29)⟩]
noncomputable def r22_9 : List AO := [⟨some 3, none, .mv (.c (.st [39]))⟩]
noncomputable def r22_10 : List AO := [⟨some 4, none, .mv (.c (.it .i64 0))⟩]
noncomputable def r22_11 : List AO := [⟨some 30, none, .mv (.t 4)⟩,
  ⟨some 31, none, .fad 2 (.t 1)⟩,
  ⟨some 32, none, .ld false 1 (.t 31)⟩,
  ⟨some 33, none, .lens (.t 32)⟩,
  ⟨some 34, none, .bin .lss (.t 30) (.t 33)⟩]
noncomputable def r22_12 : List AO := [⟨some 37, none, .mv (.t 3)⟩,
  ⟨some 38, none, .fad 2 (.t 1)⟩,
  ⟨some 39, none, .ld false 1 (.t 38)⟩,
  ⟨some 40, none, .mv (.t 4)⟩,
  ⟨some 41, none, .mv (.t 4)⟩,
  ⟨some 42, none, .bin .add (.t 41) (.c (.it .i64 1))⟩,
  ⟨some 43, none, .sls (.t 39) (some (.t 40)) (some (.t 42))⟩,
  ⟨some 44, none, .bin .add (.t 37) (.t 43)⟩,
  ⟨some 3, none, .mv (.t 44)⟩]
noncomputable def r22_13 : List AO := [⟨some 45, none, .fad 2 (.t 1)⟩,
  ⟨some 46, none, .ld false 1 (.t 45)⟩,
  ⟨some 47, none, .mv (.t 4)⟩,
  ⟨some 48, none, .idxs (.t 46) (.t 47)⟩,
  ⟨some 49, none, .eq false 1 (.t 48) (.c (.it .u8 39))⟩]
noncomputable def r22_14 : List AO := [⟨some 50, none, .mv (.t 3)⟩,
  ⟨some 51, none, .bin .add (.t 50) (.c (.st [39]))⟩,
  ⟨some 3, none, .mv (.t 51)⟩]
noncomputable def r22_15 : List AO := [⟨some 35, none, .mv (.t 4)⟩,
  ⟨some 36, none, .bin .add (.t 35) (.c (.it .i64 1))⟩,
  ⟨some 4, none, .mv (.t 36)⟩]
noncomputable def r22_16 : List AO := [⟨some 52, none, .mv (.t 3)⟩,
  ⟨some 53, none, .bin .add (.t 52) (.c (.st [39]))⟩,
  ⟨some 2, none, .mv (.t 53)⟩]
set_option maxRecDepth 1000000 in
noncomputable def c22 : AFn := ⟨54, [(2, none)],
  (.seq (.ops r22_0)
  (.seq (.seq (.ops r22_1)
  (.cond (.t 12) (.seq (.ops r22_2)
  .ret)
  .skip))
  (.seq (.seq (.ops r22_3)
  (.cond (.t 20) (.seq (.ops r22_4)
  .ret)
  .skip))
  (.seq (.seq (.ops r22_5)
  (.cond (.t 23) (.seq (.ops r22_6)
  .ret)
  .skip))
  (.seq (.seq (.ops r22_7)
  (.cond (.t 26) (.seq (.ops r22_8)
  .ret)
  .skip))
  (.seq (.ops r22_9)
  (.seq (.seq (.ops r22_10)
  (.block 0 (.loop (.seq (.seq (.ops r22_11)
  (.cond (.t 34) .skip
  (.exit 0)))
  (.seq (.block 1 (.seq (.ops r22_12)
  (.seq (.ops r22_13)
  (.cond (.t 49) (.ops r22_14)
  .skip))))
  (.ops r22_15))))))
  (.seq (.ops r22_16)
  .ret))))))))⟩
set_option maxRecDepth 1000000 in
theorem t22 : trF Tryd.prog 22 = some c22 := by kernel_rfl
/-- (regrater/value.Value).True (0 v, 1 v) -/
noncomputable def r23_0 : List AO := [⟨some 1, none, .box 26 3 (.t 0)⟩,
  ⟨some 2, none, .mv (.c (.bl false))⟩]
noncomputable def r23_1 : List (AO × List Nat) := [(⟨some 3, none, .ld true 3 (.t 1)⟩, []),
  (⟨some 4, none, .call 16 [(.c (.bl true))]⟩, [0]),
  (⟨some 5, none, .eqs false [1, 1, 2] (.t 3) (.t 4)⟩, []),
  (⟨some 2, none, .mv (.t 5)⟩, [])]
set_option maxRecDepth 1000000 in
noncomputable def c23 : AFn := ⟨6, [(2, none)],
  (.seq (.ops r23_0)
  (.seq (.drw r23_1)
  .ret))⟩
set_option maxRecDepth 1000000 in
theorem t23 : trF Tryd.prog 23 = some c23 := by kernel_rfl
/-- regrater/value.OfText (0 s, 1 s) -/
noncomputable def r24_0 : List AO := [⟨some 2, none, .box 26 3 (.c (.agg [(.it .i64 0), (.it .i64 0), (.st [])]))⟩]
noncomputable def r24_1 : List AO := [⟨some 3, none, .mv (.t 0)⟩,
  ⟨some 4, none, .bld [(.it .i64 0), (.it .i64 0), (.st [])] [(0, 1, (.c (.it .i64 3))), (2, 1, (.t 3))]⟩,
  ⟨none, none, .sto 3 (.t 2) (.t 4)⟩]
set_option maxRecDepth 1000000 in
noncomputable def c24 : AFn := ⟨5, [(2, some 3)],
  (.seq (.ops r24_0)
  (.seq (.ops r24_1)
  .ret))⟩
set_option maxRecDepth 1000000 in
theorem t24 : trF Tryd.prog 24 = some c24 := by kernel_rfl
/-- regrater/value.Neg (0 v, 1 v) -/
noncomputable def r25_0 : List AO := [⟨some 1, none, .box 26 3 (.t 0)⟩,
  ⟨some 2, none, .box 26 3 (.c (.agg [(.it .i64 0), (.it .i64 0), (.st [])]))⟩,
  ⟨some 3, none, .mv (.c (.it .i64 0))⟩]
noncomputable def r25_1 : List AO := [⟨some 5, none, .ld true 3 (.t 1)⟩,
  ⟨some 6, none, .call 42 [(.t 5)]⟩,
  ⟨some 4, none, .mv (.t 6)⟩]
noncomputable def r25_2 : List AO := [⟨some 7, none, .ld true 3 (.t 1)⟩,
  ⟨none, none, .sto 3 (.t 2) (.t 7)⟩,
  ⟨some 3, none, .mv (.c (.it .i64 0))⟩]
noncomputable def r25_3 : List AO := [⟨some 9, none, .fad 0 (.t 1)⟩,
  ⟨some 10, none, .ld false 1 (.t 9)⟩,
  ⟨some 11, none, .eq true 1 (.t 10) (.c (.it .i64 2))⟩,
  ⟨some 8, none, .mv (.t 11)⟩]
noncomputable def r25_4 : List AO := [⟨some 12, none, .bld [(.it .i64 0), (.it .i64 0), (.st [])] []⟩,
  ⟨none, none, .sto 3 (.t 2) (.t 12)⟩,
  ⟨some 3, none, .mv (.c (.it .i64 5))⟩]
noncomputable def r25_5 : List AO := [⟨some 14, none, .fad 1 (.t 1)⟩,
  ⟨some 15, none, .ld false 1 (.t 14)⟩,
  ⟨some 16, none, .eq false 1 (.t 15) (.c (.it .i64 (-9223372036854775808)))⟩,
  ⟨some 13, none, .mv (.t 16)⟩]
noncomputable def r25_6 : List AO := [⟨some 17, none, .bld [(.it .i64 0), (.it .i64 0), (.st [])] []⟩,
  ⟨none, none, .sto 3 (.t 2) (.t 17)⟩,
  ⟨some 3, none, .mv (.c (.it .i64 8))⟩]
noncomputable def r25_7 : List AO := [⟨some 18, none, .fad 1 (.t 1)⟩,
  ⟨some 19, none, .ld false 1 (.t 18)⟩,
  ⟨some 20, none, .un .neg (.t 19)⟩,
  ⟨some 21, none, .call 18 [(.t 20)]⟩,
  ⟨none, none, .sto 3 (.t 2) (.t 21)⟩,
  ⟨some 3, none, .mv (.c (.it .i64 0))⟩]
set_option maxRecDepth 1000000 in
noncomputable def c25 : AFn := ⟨22, [(2, some 3), (3, none)],
  (.seq (.ops r25_0)
  (.seq (.block 0 (.seq (.ops r25_1)
  (.cond (.t 4) (.seq (.ops r25_2)
  .ret)
  (.seq (.ops r25_3)
  (.cond (.t 8) (.seq (.ops r25_4)
  .ret)
  (.seq (.ops r25_5)
  (.cond (.t 13) (.seq (.ops r25_6)
  .ret)
  .skip)))))))
  (.seq (.ops r25_7)
  .ret)))⟩
set_option maxRecDepth 1000000 in
theorem t25 : trF Tryd.prog 25 = some c25 := by kernel_rfl
/-- regrater/value.fit (0 op, 1 a, 2 b, 3 op, 4 a, 5 b, 7 kind) -/
noncomputable def r40_0 : List AO := [⟨some 4, none, .box 26 3 (.t 1)⟩,
  ⟨some 5, none, .box 26 3 (.t 2)⟩,
  ⟨some 6, none, .mv (.c (.bl false))⟩]
noncomputable def r40_1 : List AO := [⟨some 8, none, .mv (.t 0)⟩,
  ⟨some 9, none, .call 65 [(.t 8)]⟩,
  ⟨some 7, none, .mv (.t 9)⟩]
noncomputable def r40_2 : List AO := [⟨some 10, none, .mv (.t 7)⟩,
  ⟨some 11, none, .eq false 1 (.t 10) (.c (.it .i64 0))⟩]
noncomputable def r40_3 : List AO := [⟨some 12, none, .ld true 3 (.t 4)⟩,
  ⟨some 13, none, .call 42 [(.t 12)]⟩,
  ⟨some 14, none, .mv (.t 13)⟩,
  ⟨some 15, some (14, false), .ld true 3 (.t 5)⟩,
  ⟨some 16, some (14, false), .call 42 [(.t 15)]⟩,
  ⟨some 17, none, .pick (.t 14) (.c (.bl true)) (.t 16)⟩,
  ⟨some 18, none, .mv (.t 17)⟩,
  ⟨some 19, some (18, false), .fad 0 (.t 4)⟩,
  ⟨some 20, some (18, false), .ld false 1 (.t 19)⟩,
  ⟨some 21, some (18, false), .fad 0 (.t 5)⟩,
  ⟨some 22, some (18, false), .ld false 1 (.t 21)⟩,
  ⟨some 23, some (18, false), .eq false 1 (.t 20) (.t 22)⟩,
  ⟨some 24, none, .pick (.t 18) (.c (.bl true)) (.t 23)⟩,
  ⟨some 6, none, .mv (.t 24)⟩]
noncomputable def r40_4 : List AO := [⟨some 25, none, .ld true 3 (.t 4)⟩,
  ⟨some 26, none, .call 42 [(.t 25)]⟩,
  ⟨some 27, none, .mv (.t 26)⟩,
  ⟨some 28, some (27, false), .fad 0 (.t 4)⟩,
  ⟨some 29, some (27, false), .ld false 1 (.t 28)⟩,
  ⟨some 30, some (27, false), .mv (.t 7)⟩,
  ⟨some 31, some (27, false), .eq false 1 (.t 29) (.t 30)⟩,
  ⟨some 32, none, .pick (.t 27) (.c (.bl true)) (.t 31)⟩,
  ⟨some 33, none, .mv (.t 32)⟩,
  ⟨some 34, some (33, true), .ld true 3 (.t 5)⟩,
  ⟨some 35, some (33, true), .call 42 [(.t 34)]⟩,
  ⟨some 36, some (33, true), .mv (.t 35)⟩,
  ⟨some 37, some (36, false), .fad 0 (.t 5)⟩,
  ⟨some 38, some (36, false), .ld false 1 (.t 37)⟩,
  ⟨some 39, some (36, false), .mv (.t 7)⟩,
  ⟨some 40, some (36, false), .eq false 1 (.t 38) (.t 39)⟩,
  ⟨some 41, some (33, true), .pick (.t 36) (.c (.bl true)) (.t 40)⟩,
  ⟨some 42, none, .pick (.t 33) (.t 41) (.c (.bl false))⟩,
  ⟨some 6, none, .mv (.t 42)⟩]
set_option maxRecDepth 1000000 in
noncomputable def c40 : AFn := ⟨43, [(6, none)],
  (.seq (.ops r40_0)
  (.seq (.ops r40_1)
  (.seq (.seq (.ops r40_2)
  (.cond (.t 11) (.seq (.ops r40_3)
  .ret)
  .skip))
  (.seq (.ops r40_4)
  .ret))))⟩
set_option maxRecDepth 1000000 in
theorem t40 : trF Tryd.prog 40 = some c40 := by kernel_rfl
/-- regrater/value.logic (0 decides, 1 a, 2 b, 3 decides, 4 a, 5 b, 7 d) -/
noncomputable def r41_0 : List AO := [⟨some 4, none, .box 26 3 (.t 1)⟩,
  ⟨some 5, none, .box 26 3 (.t 2)⟩,
  ⟨some 6, none, .box 26 3 (.c (.agg [(.it .i64 0), (.it .i64 0), (.st [])]))⟩]
noncomputable def r41_1 : List AO := [⟨some 8, none, .mv (.t 0)⟩,
  ⟨some 9, none, .call 16 [(.t 8)]⟩,
  ⟨some 7, none, .box 26 3 (.c (.agg [(.it .i64 0), (.it .i64 0), (.st [])]))⟩,
  ⟨none, none, .sto 3 (.t 7) (.t 9)⟩]
noncomputable def r41_2 : List AO := [⟨some 11, none, .ld true 3 (.t 4)⟩,
  ⟨some 12, none, .ld true 3 (.t 7)⟩,
  ⟨some 13, none, .eqs false [1, 1, 2] (.t 11) (.t 12)⟩,
  ⟨some 14, none, .mv (.t 13)⟩,
  ⟨some 15, some (14, false), .ld true 3 (.t 5)⟩,
  ⟨some 16, some (14, false), .ld true 3 (.t 7)⟩,
  ⟨some 17, some (14, false), .eqs false [1, 1, 2] (.t 15) (.t 16)⟩,
  ⟨some 18, none, .pick (.t 14) (.c (.bl true)) (.t 17)⟩,
  ⟨some 10, none, .mv (.t 18)⟩]
noncomputable def r41_3 : List AO := [⟨some 19, none, .ld true 3 (.t 7)⟩,
  ⟨none, none, .sto 3 (.t 6) (.t 19)⟩]
noncomputable def r41_4 : List AO := [⟨some 21, none, .ld true 3 (.t 4)⟩,
  ⟨some 22, none, .call 42 [(.t 21)]⟩,
  ⟨some 23, none, .mv (.t 22)⟩,
  ⟨some 24, some (23, false), .ld true 3 (.t 5)⟩,
  ⟨some 25, some (23, false), .call 42 [(.t 24)]⟩,
  ⟨some 26, none, .pick (.t 23) (.c (.bl true)) (.t 25)⟩,
  ⟨some 20, none, .mv (.t 26)⟩]
noncomputable def r41_5 : List AO := [⟨some 27, none, .bld [(.it .i64 0), (.it .i64 0), (.st [])] []⟩,
  ⟨none, none, .sto 3 (.t 6) (.t 27)⟩]
noncomputable def r41_6 : List AO := [⟨some 28, none, .mv (.t 0)⟩,
  ⟨some 29, none, .un .not (.t 28)⟩,
  ⟨some 30, none, .call 16 [(.t 29)]⟩,
  ⟨none, none, .sto 3 (.t 6) (.t 30)⟩]
set_option maxRecDepth 1000000 in
noncomputable def c41 : AFn := ⟨31, [(6, some 3)],
  (.seq (.ops r41_0)
  (.seq (.seq (.ops r41_1)
  (.block 0 (.seq (.ops r41_2)
  (.cond (.t 10) (.seq (.ops r41_3)
  .ret)
  (.seq (.ops r41_4)
  (.cond (.t 20) (.seq (.ops r41_5)
  .ret)
  .skip))))))
  (.seq (.ops r41_6)
  .ret)))⟩
set_option maxRecDepth 1000000 in
theorem t41 : trF Tryd.prog 41 = some c41 := by kernel_rfl
/-- (regrater/value.Value).none (0 v, 1 v) -/
noncomputable def r42_0 : List AO := [⟨some 1, none, .box 26 3 (.t 0)⟩,
  ⟨some 2, none, .mv (.c (.bl false))⟩]
noncomputable def r42_1 : List AO := [⟨some 3, none, .fad 0 (.t 1)⟩,
  ⟨some 4, none, .ld false 1 (.t 3)⟩,
  ⟨some 5, none, .eq false 1 (.t 4) (.c (.it .i64 0))⟩,
  ⟨some 2, none, .mv (.t 5)⟩]
set_option maxRecDepth 1000000 in
noncomputable def c42 : AFn := ⟨6, [(2, none)],
  (.seq (.ops r42_0)
  (.seq (.ops r42_1)
  .ret))⟩
set_option maxRecDepth 1000000 in
theorem t42 : trF Tryd.prog 42 = some c42 := by kernel_rfl
/-- regrater/value.holds (0 op, 1 order, 2 op, 3 order) -/
noncomputable def r43_0 : List AO := [⟨some 4, none, .mv (.c (.bl false))⟩]
noncomputable def r43_1 : List AO := [⟨some 5, none, .mv (.t 0)⟩]
noncomputable def r43_2 : List AO := [⟨some 7, none, .eq false 1 (.t 5) (.c (.it .i64 1))⟩,
  ⟨some 6, none, .mv (.t 7)⟩]
noncomputable def r43_3 : List AO := [⟨some 8, none, .mv (.t 1)⟩,
  ⟨some 9, none, .eq false 1 (.t 8) (.c (.it .i64 0))⟩,
  ⟨some 4, none, .mv (.t 9)⟩]
noncomputable def r43_4 : List AO := [⟨some 11, none, .eq false 1 (.t 5) (.c (.it .i64 2))⟩,
  ⟨some 10, none, .mv (.t 11)⟩]
noncomputable def r43_5 : List AO := [⟨some 12, none, .mv (.t 1)⟩,
  ⟨some 13, none, .eq true 1 (.t 12) (.c (.it .i64 0))⟩,
  ⟨some 4, none, .mv (.t 13)⟩]
noncomputable def r43_6 : List AO := [⟨some 15, none, .eq false 1 (.t 5) (.c (.it .i64 3))⟩,
  ⟨some 14, none, .mv (.t 15)⟩]
noncomputable def r43_7 : List AO := [⟨some 16, none, .mv (.t 1)⟩,
  ⟨some 17, none, .bin .lss (.t 16) (.c (.it .i64 0))⟩,
  ⟨some 4, none, .mv (.t 17)⟩]
noncomputable def r43_8 : List AO := [⟨some 19, none, .eq false 1 (.t 5) (.c (.it .i64 4))⟩,
  ⟨some 18, none, .mv (.t 19)⟩]
noncomputable def r43_9 : List AO := [⟨some 20, none, .mv (.t 1)⟩,
  ⟨some 21, none, .bin .leq (.t 20) (.c (.it .i64 0))⟩,
  ⟨some 4, none, .mv (.t 21)⟩]
noncomputable def r43_10 : List AO := [⟨some 23, none, .eq false 1 (.t 5) (.c (.it .i64 5))⟩,
  ⟨some 22, none, .mv (.t 23)⟩]
noncomputable def r43_11 : List AO := [⟨some 24, none, .mv (.t 1)⟩,
  ⟨some 25, none, .bin .gtr (.t 24) (.c (.it .i64 0))⟩,
  ⟨some 4, none, .mv (.t 25)⟩]
noncomputable def r43_12 : List AO := [⟨some 26, none, .mv (.t 1)⟩,
  ⟨some 27, none, .bin .geq (.t 26) (.c (.it .i64 0))⟩,
  ⟨some 4, none, .mv (.t 27)⟩]
set_option maxRecDepth 1000000 in
noncomputable def c43 : AFn := ⟨28, [(4, none)],
  (.seq (.ops r43_0)
  (.seq (.seq (.ops r43_1)
  (.block 0 (.seq (.ops r43_2)
  (.cond (.t 6) (.seq (.ops r43_3)
  .ret)
  (.seq (.ops r43_4)
  (.cond (.t 10) (.seq (.ops r43_5)
  .ret)
  (.seq (.ops r43_6)
  (.cond (.t 14) (.seq (.ops r43_7)
  .ret)
  (.seq (.ops r43_8)
  (.cond (.t 18) (.seq (.ops r43_9)
  .ret)
  (.seq (.ops r43_10)
  (.cond (.t 22) (.seq (.ops r43_11)
  .ret)
  .skip))))))))))))
  (.seq (.ops r43_12)
  .ret)))⟩
set_option maxRecDepth 1000000 in
theorem t43 : trF Tryd.prog 43 = some c43 := by kernel_rfl
/-- regrater/value.reckon (0 op, 1 a, 2 b, 3 op, 4 a, 5 b, 8 n, 9 ok) -/
noncomputable def r44_0 : List AO := [⟨some 6, none, .mv (.c (.it .i64 0))⟩,
  ⟨some 7, none, .mv (.c (.it .i64 0))⟩]
noncomputable def r44_1 : List AO := [⟨some 8, none, .mv (.c (.it .i64 0))⟩,
  ⟨some 9, none, .mv (.c (.bl true))⟩]
noncomputable def r44_2 : List AO := [⟨some 10, none, .mv (.t 0)⟩]
noncomputable def r44_3 : List AO := [⟨some 28, none, .eq false 1 (.t 10) (.c (.it .i64 7))⟩,
  ⟨some 27, none, .mv (.t 28)⟩]
noncomputable def r44_4 : List AO := [⟨some 29, none, .mv (.t 1)⟩,
  ⟨some 30, none, .mv (.t 2)⟩,
  ⟨some 31, none, .bin .add (.t 29) (.t 30)⟩,
  ⟨some 8, none, .mv (.t 31)⟩]
noncomputable def r44_5 : List AO := [⟨some 32, none, .mv (.t 8)⟩,
  ⟨some 33, none, .mv (.t 1)⟩,
  ⟨some 34, none, .bin .gtr (.t 32) (.t 33)⟩,
  ⟨some 35, none, .mv (.t 2)⟩,
  ⟨some 36, none, .bin .gtr (.t 35) (.c (.it .i64 0))⟩,
  ⟨some 37, none, .eq false 0 (.t 34) (.t 36)⟩,
  ⟨some 38, none, .mv (.t 37)⟩,
  ⟨some 39, some (38, false), .mv (.t 2)⟩,
  ⟨some 40, some (38, false), .eq false 1 (.t 39) (.c (.it .i64 0))⟩,
  ⟨some 41, none, .pick (.t 38) (.c (.bl true)) (.t 40)⟩,
  ⟨some 9, none, .mv (.t 41)⟩]
noncomputable def r44_6 : List AO := [⟨some 43, none, .eq false 1 (.t 10) (.c (.it .i64 8))⟩,
  ⟨some 42, none, .mv (.t 43)⟩]
noncomputable def r44_7 : List AO := [⟨some 44, none, .mv (.t 1)⟩,
  ⟨some 45, none, .mv (.t 2)⟩,
  ⟨some 46, none, .bin .sub (.t 44) (.t 45)⟩,
  ⟨some 8, none, .mv (.t 46)⟩]
noncomputable def r44_8 : List AO := [⟨some 47, none, .mv (.t 8)⟩,
  ⟨some 48, none, .mv (.t 1)⟩,
  ⟨some 49, none, .bin .lss (.t 47) (.t 48)⟩,
  ⟨some 50, none, .mv (.t 2)⟩,
  ⟨some 51, none, .bin .gtr (.t 50) (.c (.it .i64 0))⟩,
  ⟨some 52, none, .eq false 0 (.t 49) (.t 51)⟩,
  ⟨some 53, none, .mv (.t 52)⟩,
  ⟨some 54, some (53, false), .mv (.t 2)⟩,
  ⟨some 55, some (53, false), .eq false 1 (.t 54) (.c (.it .i64 0))⟩,
  ⟨some 56, none, .pick (.t 53) (.c (.bl true)) (.t 55)⟩,
  ⟨some 9, none, .mv (.t 56)⟩]
noncomputable def r44_9 : List AO := [⟨some 58, none, .eq false 1 (.t 10) (.c (.it .i64 9))⟩,
  ⟨some 57, none, .mv (.t 58)⟩]
noncomputable def r44_10 : List AO := [⟨some 60, none, .mv (.t 1)⟩,
  ⟨some 61, none, .mv (.t 2)⟩,
  ⟨some 62, none, .call 66 [(.t 60), (.t 61)]⟩,
  ⟨some 59, none, .mv (.t 62)⟩,
  ⟨some 63, none, .ext (.t 59) 0⟩,
  ⟨some 64, none, .ext (.t 59) 1⟩,
  ⟨some 8, none, .mv (.t 63)⟩,
  ⟨some 9, none, .mv (.t 64)⟩]
noncomputable def r44_11 : List AO := [⟨some 11, none, .mv (.t 2)⟩,
  ⟨some 12, none, .eq false 1 (.t 11) (.c (.it .i64 0))⟩]
noncomputable def r44_12 : List AO := [⟨some 6, none, .mv (.c (.it .i64 0))⟩,
  ⟨some 7, none, .mv (.c (.it .i64 9))⟩]
noncomputable def r44_13 : List AO := [⟨some 13, none, .mv (.t 0)⟩,
  ⟨some 14, none, .eq false 1 (.t 13) (.c (.it .i64 11))⟩]
noncomputable def r44_14 : List AO := [⟨some 15, none, .mv (.t 1)⟩,
  ⟨some 16, none, .mv (.t 2)⟩,
  ⟨some 17, none, .bin .rem (.t 15) (.t 16)⟩,
  ⟨some 6, none, .mv (.t 17)⟩,
  ⟨some 7, none, .mv (.c (.it .i64 0))⟩]
noncomputable def r44_15 : List AO := [⟨some 18, none, .mv (.t 1)⟩,
  ⟨some 19, none, .mv (.t 2)⟩,
  ⟨some 20, none, .bin .quo (.t 18) (.t 19)⟩,
  ⟨some 21, none, .mv (.t 1)⟩,
  ⟨some 22, none, .eq true 1 (.t 21) (.c (.it .i64 (-9223372036854775808)))⟩,
  ⟨some 23, none, .mv (.t 22)⟩,
  ⟨some 24, some (23, false), .mv (.t 2)⟩,
  ⟨some 25, some (23, false), .eq true 1 (.t 24) (.c (.it .i64 (-1)))⟩,
  ⟨some 26, none, .pick (.t 23) (.c (.bl true)) (.t 25)⟩,
  ⟨some 8, none, .mv (.t 20)⟩,
  ⟨some 9, none, .mv (.t 26)⟩]
noncomputable def r44_16 : List AO := [⟨some 65, none, .mv (.t 9)⟩,
  ⟨some 66, none, .un .not (.t 65)⟩]
noncomputable def r44_17 : List AO := [⟨some 6, none, .mv (.c (.it .i64 0))⟩,
  ⟨some 7, none, .mv (.c (.it .i64 8))⟩]
noncomputable def r44_18 : List AO := [⟨some 67, none, .mv (.t 8)⟩,
  ⟨some 6, none, .mv (.t 67)⟩,
  ⟨some 7, none, .mv (.c (.it .i64 0))⟩]
set_option maxRecDepth 1000000 in
noncomputable def c44 : AFn := ⟨68, [(6, none), (7, none)],
  (.seq (.ops r44_0)
  (.seq (.ops r44_1)
  (.seq (.seq (.ops r44_2)
  (.block 0 (.seq (.ops r44_3)
  (.cond (.t 27) (.seq (.ops r44_4)
  (.ops r44_5))
  (.seq (.ops r44_6)
  (.cond (.t 42) (.seq (.ops r44_7)
  (.ops r44_8))
  (.seq (.ops r44_9)
  (.cond (.t 57) (.ops r44_10)
  (.seq (.seq (.ops r44_11)
  (.cond (.t 12) (.seq (.ops r44_12)
  .ret)
  .skip))
  (.seq (.seq (.ops r44_13)
  (.cond (.t 14) (.seq (.ops r44_14)
  .ret)
  .skip))
  (.ops r44_15)))))))))))
  (.seq (.seq (.ops r44_16)
  (.cond (.t 66) (.seq (.ops r44_17)
  .ret)
  .skip))
  (.seq (.ops r44_18)
  .ret)))))⟩
set_option maxRecDepth 1000000 in
theorem t44 : trF Tryd.prog 44 = some c44 := by kernel_rfl
/-- regrater/regraterref06.boolean (0 b, 1 b) -/
noncomputable def r45_0 : List AO := [⟨some 2, none, .box 27 3 (.c (.agg [(.it .i64 0), (.it .i64 0), (.st [])]))⟩]
noncomputable def r45_1 : List AO := [⟨some 3, none, .mv (.t 0)⟩]
noncomputable def r45_2 : List AO := [⟨some 4, none, .bld [(.it .i64 0), (.it .i64 0), (.st [])] [(0, 1, (.c (.it .i64 1))), (1, 1, (.c (.it .i64 1))), (2, 1, (.c (.st [])))]⟩,
  ⟨none, none, .sto 3 (.t 2) (.t 4)⟩]
noncomputable def r45_3 : List AO := [⟨some 5, none, .bld [(.it .i64 0), (.it .i64 0), (.st [])] [(0, 1, (.c (.it .i64 1))), (1, 1, (.c (.it .i64 0))), (2, 1, (.c (.st [])))]⟩,
  ⟨none, none, .sto 3 (.t 2) (.t 5)⟩]
set_option maxRecDepth 1000000 in
noncomputable def c45 : AFn := ⟨6, [(2, some 3)],
  (.seq (.ops r45_0)
  (.seq (.seq (.ops r45_1)
  (.cond (.t 3) (.seq (.ops r45_2)
  .ret)
  .skip))
  (.seq (.ops r45_3)
  .ret)))⟩
set_option maxRecDepth 1000000 in
theorem t45 : trF Tryd.prog 45 = some c45 := by kernel_rfl
/-- regrater/regraterref06.add (0 a, 1 b, 2 a, 3 b) -/
noncomputable def r46_0 : List AO := [⟨some 4, none, .mv (.c (.it .i64 0))⟩,
  ⟨some 5, none, .mv (.c (.bl false))⟩]
noncomputable def r46_1 : List AO := [⟨some 6, none, .mv (.t 1)⟩,
  ⟨some 7, none, .bin .gtr (.t 6) (.c (.it .i64 0))⟩,
  ⟨some 8, none, .mv (.t 7)⟩,
  ⟨some 9, some (8, true), .mv (.t 0)⟩,
  ⟨some 10, some (8, true), .mv (.t 1)⟩,
  ⟨some 11, some (8, true), .bin .sub (.c (.it .i64 9223372036854775807)) (.t 10)⟩,
  ⟨some 12, some (8, true), .bin .gtr (.t 9) (.t 11)⟩,
  ⟨some 13, none, .pick (.t 8) (.t 12) (.c (.bl false))⟩,
  ⟨some 14, none, .mv (.t 13)⟩,
  ⟨some 15, some (14, false), .mv (.t 1)⟩,
  ⟨some 16, some (14, false), .bin .lss (.t 15) (.c (.it .i64 0))⟩,
  ⟨some 17, some (14, false), .mv (.t 16)⟩,
  ⟨some 18, some (17, true), .mv (.t 0)⟩,
  ⟨some 19, some (17, true), .mv (.t 1)⟩,
  ⟨some 20, some (17, true), .bin .sub (.c (.it .i64 (-9223372036854775808))) (.t 19)⟩,
  ⟨some 21, some (17, true), .bin .lss (.t 18) (.t 20)⟩,
  ⟨some 22, some (14, false), .pick (.t 17) (.t 21) (.c (.bl false))⟩,
  ⟨some 23, none, .pick (.t 14) (.c (.bl true)) (.t 22)⟩]
noncomputable def r46_2 : List AO := [⟨some 4, none, .mv (.c (.it .i64 0))⟩,
  ⟨some 5, none, .mv (.c (.bl false))⟩]
noncomputable def r46_3 : List AO := [⟨some 24, none, .mv (.t 0)⟩,
  ⟨some 25, none, .mv (.t 1)⟩,
  ⟨some 26, none, .bin .add (.t 24) (.t 25)⟩,
  ⟨some 4, none, .mv (.t 26)⟩,
  ⟨some 5, none, .mv (.c (.bl true))⟩]
set_option maxRecDepth 1000000 in
noncomputable def c46 : AFn := ⟨27, [(4, none), (5, none)],
  (.seq (.ops r46_0)
  (.seq (.seq (.ops r46_1)
  (.cond (.t 23) (.seq (.ops r46_2)
  .ret)
  .skip))
  (.seq (.ops r46_3)
  .ret)))⟩
set_option maxRecDepth 1000000 in
theorem t46 : trF Tryd.prog 46 = some c46 := by kernel_rfl
/-- regrater/regraterref06.times (0 a, 1 b, 2 a, 3 b, 6 n) -/
noncomputable def r47_0 : List AO := [⟨some 4, none, .mv (.c (.it .i64 0))⟩,
  ⟨some 5, none, .mv (.c (.bl false))⟩]
noncomputable def r47_1 : List AO := [⟨some 7, none, .mv (.t 0)⟩,
  ⟨some 8, none, .eq false 1 (.t 7) (.c (.it .i64 0))⟩,
  ⟨some 9, none, .mv (.t 8)⟩,
  ⟨some 10, some (9, false), .mv (.t 1)⟩,
  ⟨some 11, some (9, false), .eq false 1 (.t 10) (.c (.it .i64 0))⟩,
  ⟨some 12, none, .pick (.t 9) (.c (.bl true)) (.t 11)⟩]
noncomputable def r47_2 : List AO := [⟨some 4, none, .mv (.c (.it .i64 0))⟩,
  ⟨some 5, none, .mv (.c (.bl true))⟩]
noncomputable def r47_3 : List AO := [⟨some 13, none, .mv (.t 0)⟩,
  ⟨some 14, none, .mv (.t 1)⟩,
  ⟨some 15, none, .bin .mul (.t 13) (.t 14)⟩,
  ⟨some 6, none, .mv (.t 15)⟩]
noncomputable def r47_4 : List AO := [⟨some 16, none, .mv (.t 0)⟩,
  ⟨some 17, none, .eq false 1 (.t 16) (.c (.it .i64 (-1)))⟩,
  ⟨some 18, none, .mv (.t 17)⟩,
  ⟨some 19, some (18, true), .mv (.t 1)⟩,
  ⟨some 20, some (18, true), .eq false 1 (.t 19) (.c (.it .i64 (-9223372036854775808)))⟩,
  ⟨some 21, none, .pick (.t 18) (.t 20) (.c (.bl false))⟩,
  ⟨some 22, none, .mv (.t 21)⟩,
  ⟨some 23, some (22, false), .mv (.t 1)⟩,
  ⟨some 24, some (22, false), .eq false 1 (.t 23) (.c (.it .i64 (-1)))⟩,
  ⟨some 25, some (22, false), .mv (.t 24)⟩,
  ⟨some 26, some (25, true), .mv (.t 0)⟩,
  ⟨some 27, some (25, true), .eq false 1 (.t 26) (.c (.it .i64 (-9223372036854775808)))⟩,
  ⟨some 28, some (22, false), .pick (.t 25) (.t 27) (.c (.bl false))⟩,
  ⟨some 29, none, .pick (.t 22) (.c (.bl true)) (.t 28)⟩]
noncomputable def r47_5 : List AO := [⟨some 4, none, .mv (.c (.it .i64 0))⟩,
  ⟨some 5, none, .mv (.c (.bl false))⟩]
noncomputable def r47_6 : List (AO × List Nat) := [(⟨some 30, none, .mv (.t 6)⟩, []),
  (⟨some 31, none, .mv (.t 6)⟩, []),
  (⟨some 32, none, .mv (.t 1)⟩, []),
  (⟨some 33, none, .bin .quo (.t 31) (.t 32)⟩, []),
  (⟨some 34, none, .mv (.t 0)⟩, []),
  (⟨some 35, none, .eq false 1 (.t 33) (.t 34)⟩, []),
  (⟨some 4, none, .mv (.t 30)⟩, []),
  (⟨some 5, none, .mv (.t 35)⟩, [])]
set_option maxRecDepth 1000000 in
noncomputable def c47 : AFn := ⟨36, [(4, none), (5, none)],
  (.seq (.ops r47_0)
  (.seq (.seq (.ops r47_1)
  (.cond (.t 12) (.seq (.ops r47_2)
  .ret)
  .skip))
  (.seq (.ops r47_3)
  (.seq (.seq (.ops r47_4)
  (.cond (.t 29) (.seq (.ops r47_5)
  .ret)
  .skip))
  (.seq (.drw r47_6)
  .ret)))))⟩
set_option maxRecDepth 1000000 in
theorem t47 : trF Tryd.prog 47 = some c47 := by kernel_rfl
/-- cmp.Or[int] (0 vals, 1 vals, 3 zero, 4 _, 5 val) -/
noncomputable def r48_0 : List AO := [⟨some 2, none, .mv (.c (.it .i64 0))⟩]
noncomputable def r48_1 : List AO := [⟨some 3, none, .mv (.c (.it .i64 0))⟩]
noncomputable def r48_2 : List AO := [⟨some 6, none, .mv (.t 0)⟩,
  ⟨some 7, none, .len (.t 6)⟩,
  ⟨some 8, none, .mv (.c (.it .i64 0))⟩]
noncomputable def r48_3 : List AO := [⟨some 9, none, .bin .lss (.t 8) (.t 7)⟩]
noncomputable def r48_4 : List AO := [⟨some 10, none, .iad 1 (.t 6) (.t 8)⟩,
  ⟨some 11, none, .ld false 1 (.t 10)⟩,
  ⟨some 5, none, .mv (.t 11)⟩]
noncomputable def r48_5 : List AO := [⟨some 12, none, .mv (.t 5)⟩,
  ⟨some 13, none, .mv (.t 3)⟩,
  ⟨some 14, none, .eq true 1 (.t 12) (.t 13)⟩]
noncomputable def r48_6 : List AO := [⟨some 15, none, .mv (.t 5)⟩,
  ⟨some 2, none, .mv (.t 15)⟩]
noncomputable def r48_7 : List AO := [⟨some 16, none, .bin .add (.t 8) (.c (.it .i64 1))⟩,
  ⟨some 8, none, .mv (.t 16)⟩]
noncomputable def r48_8 : List AO := [⟨some 17, none, .mv (.t 3)⟩,
  ⟨some 2, none, .mv (.t 17)⟩]
set_option maxRecDepth 1000000 in
noncomputable def c48 : AFn := ⟨18, [(2, none)],
  (.seq (.ops r48_0)
  (.seq (.ops r48_1)
  (.seq (.seq (.ops r48_2)
  (.block 0 (.loop (.seq (.ops r48_3)
  (.seq (.cond (.t 9) .skip
  (.exit 0))
  (.seq (.block 1 (.seq (.ops r48_4)
  (.seq (.ops r48_5)
  (.cond (.t 14) (.seq (.ops r48_6)
  .ret)
  .skip))))
  (.ops r48_7)))))))
  (.seq (.ops r48_8)
  .ret))))⟩
set_option maxRecDepth 1000000 in
theorem t48 : trF Tryd.prog 48 = some c48 := by kernel_rfl
/-- cmp.Compare[int] (0 x, 1 y, 2 x, 3 y, 5 xNaN, 6 yNaN) -/
noncomputable def r49_0 : List AO := [⟨some 4, none, .mv (.c (.it .i64 0))⟩]
noncomputable def r49_1 : List AO := [⟨some 7, none, .mv (.t 0)⟩,
  ⟨some 8, none, .call 67 [(.t 7)]⟩,
  ⟨some 5, none, .mv (.t 8)⟩]
noncomputable def r49_2 : List AO := [⟨some 9, none, .mv (.t 1)⟩,
  ⟨some 10, none, .call 67 [(.t 9)]⟩,
  ⟨some 6, none, .mv (.t 10)⟩]
noncomputable def r49_3 : List AO := [⟨some 11, none, .mv (.t 5)⟩]
noncomputable def r49_4 : List AO := [⟨some 12, none, .mv (.t 6)⟩]
noncomputable def r49_5 : List AO := [⟨some 4, none, .mv (.c (.it .i64 0))⟩]
noncomputable def r49_6 : List AO := [⟨some 4, none, .mv (.c (.it .i64 (-1)))⟩]
noncomputable def r49_7 : List AO := [⟨some 13, none, .mv (.t 6)⟩]
noncomputable def r49_8 : List AO := [⟨some 4, none, .mv (.c (.it .i64 1))⟩]
noncomputable def r49_9 : List AO := [⟨some 14, none, .mv (.t 0)⟩,
  ⟨some 15, none, .mv (.t 1)⟩,
  ⟨some 16, none, .bin .lss (.t 14) (.t 15)⟩]
noncomputable def r49_10 : List AO := [⟨some 4, none, .mv (.c (.it .i64 (-1)))⟩]
noncomputable def r49_11 : List AO := [⟨some 17, none, .mv (.t 0)⟩,
  ⟨some 18, none, .mv (.t 1)⟩,
  ⟨some 19, none, .bin .gtr (.t 17) (.t 18)⟩]
noncomputable def r49_12 : List AO := [⟨some 4, none, .mv (.c (.it .i64 1))⟩]
noncomputable def r49_13 : List AO := [⟨some 4, none, .mv (.c (.it .i64 0))⟩]
set_option maxRecDepth 1000000 in
noncomputable def c49 : AFn := ⟨20, [(4, none)],
  (.seq (.ops r49_0)
  (.seq (.ops r49_1)
  (.seq (.ops r49_2)
  (.seq (.seq (.ops r49_3)
  (.cond (.t 11) (.seq (.seq (.ops r49_4)
  (.cond (.t 12) (.seq (.ops r49_5)
  .ret)
  .skip))
  (.seq (.ops r49_6)
  .ret))
  .skip))
  (.seq (.seq (.ops r49_7)
  (.cond (.t 13) (.seq (.ops r49_8)
  .ret)
  .skip))
  (.seq (.seq (.ops r49_9)
  (.cond (.t 16) (.seq (.ops r49_10)
  .ret)
  .skip))
  (.seq (.seq (.ops r49_11)
  (.cond (.t 19) (.seq (.ops r49_12)
  .ret)
  .skip))
  (.seq (.ops r49_13)
  .ret))))))))⟩
set_option maxRecDepth 1000000 in
theorem t49 : trF Tryd.prog 49 = some c49 := by kernel_rfl
/-- cmp.Compare[int64] (0 x, 1 y, 2 x, 3 y, 5 xNaN, 6 yNaN) -/
noncomputable def r50_0 : List AO := [⟨some 4, none, .mv (.c (.it .i64 0))⟩]
noncomputable def r50_1 : List AO := [⟨some 7, none, .mv (.t 0)⟩,
  ⟨some 8, none, .call 68 [(.t 7)]⟩,
  ⟨some 5, none, .mv (.t 8)⟩]
noncomputable def r50_2 : List AO := [⟨some 9, none, .mv (.t 1)⟩,
  ⟨some 10, none, .call 68 [(.t 9)]⟩,
  ⟨some 6, none, .mv (.t 10)⟩]
noncomputable def r50_3 : List AO := [⟨some 11, none, .mv (.t 5)⟩]
noncomputable def r50_4 : List AO := [⟨some 12, none, .mv (.t 6)⟩]
noncomputable def r50_5 : List AO := [⟨some 4, none, .mv (.c (.it .i64 0))⟩]
noncomputable def r50_6 : List AO := [⟨some 4, none, .mv (.c (.it .i64 (-1)))⟩]
noncomputable def r50_7 : List AO := [⟨some 13, none, .mv (.t 6)⟩]
noncomputable def r50_8 : List AO := [⟨some 4, none, .mv (.c (.it .i64 1))⟩]
noncomputable def r50_9 : List AO := [⟨some 14, none, .mv (.t 0)⟩,
  ⟨some 15, none, .mv (.t 1)⟩,
  ⟨some 16, none, .bin .lss (.t 14) (.t 15)⟩]
noncomputable def r50_10 : List AO := [⟨some 4, none, .mv (.c (.it .i64 (-1)))⟩]
noncomputable def r50_11 : List AO := [⟨some 17, none, .mv (.t 0)⟩,
  ⟨some 18, none, .mv (.t 1)⟩,
  ⟨some 19, none, .bin .gtr (.t 17) (.t 18)⟩]
noncomputable def r50_12 : List AO := [⟨some 4, none, .mv (.c (.it .i64 1))⟩]
noncomputable def r50_13 : List AO := [⟨some 4, none, .mv (.c (.it .i64 0))⟩]
set_option maxRecDepth 1000000 in
noncomputable def c50 : AFn := ⟨20, [(4, none)],
  (.seq (.ops r50_0)
  (.seq (.ops r50_1)
  (.seq (.ops r50_2)
  (.seq (.seq (.ops r50_3)
  (.cond (.t 11) (.seq (.seq (.ops r50_4)
  (.cond (.t 12) (.seq (.ops r50_5)
  .ret)
  .skip))
  (.seq (.ops r50_6)
  .ret))
  .skip))
  (.seq (.seq (.ops r50_7)
  (.cond (.t 13) (.seq (.ops r50_8)
  .ret)
  .skip))
  (.seq (.seq (.ops r50_9)
  (.cond (.t 16) (.seq (.ops r50_10)
  .ret)
  .skip))
  (.seq (.seq (.ops r50_11)
  (.cond (.t 19) (.seq (.ops r50_12)
  .ret)
  .skip))
  (.seq (.ops r50_13)
  .ret))))))))⟩
set_option maxRecDepth 1000000 in
theorem t50 : trF Tryd.prog 50 = some c50 := by kernel_rfl
/-- cmp.Compare[string] (0 x, 1 y, 2 x, 3 y, 5 xNaN, 6 yNaN) -/
noncomputable def r51_0 : List AO := [⟨some 4, none, .mv (.c (.it .i64 0))⟩]
noncomputable def r51_1 : List AO := [⟨some 7, none, .mv (.t 0)⟩,
  ⟨some 8, none, .call 69 [(.t 7)]⟩,
  ⟨some 5, none, .mv (.t 8)⟩]
noncomputable def r51_2 : List AO := [⟨some 9, none, .mv (.t 1)⟩,
  ⟨some 10, none, .call 69 [(.t 9)]⟩,
  ⟨some 6, none, .mv (.t 10)⟩]
noncomputable def r51_3 : List AO := [⟨some 11, none, .mv (.t 5)⟩]
noncomputable def r51_4 : List AO := [⟨some 12, none, .mv (.t 6)⟩]
noncomputable def r51_5 : List AO := [⟨some 4, none, .mv (.c (.it .i64 0))⟩]
noncomputable def r51_6 : List AO := [⟨some 4, none, .mv (.c (.it .i64 (-1)))⟩]
noncomputable def r51_7 : List AO := [⟨some 13, none, .mv (.t 6)⟩]
noncomputable def r51_8 : List AO := [⟨some 4, none, .mv (.c (.it .i64 1))⟩]
noncomputable def r51_9 : List AO := [⟨some 14, none, .mv (.t 0)⟩,
  ⟨some 15, none, .mv (.t 1)⟩,
  ⟨some 16, none, .bin .lss (.t 14) (.t 15)⟩]
noncomputable def r51_10 : List AO := [⟨some 4, none, .mv (.c (.it .i64 (-1)))⟩]
noncomputable def r51_11 : List AO := [⟨some 17, none, .mv (.t 0)⟩,
  ⟨some 18, none, .mv (.t 1)⟩,
  ⟨some 19, none, .bin .gtr (.t 17) (.t 18)⟩]
noncomputable def r51_12 : List AO := [⟨some 4, none, .mv (.c (.it .i64 1))⟩]
noncomputable def r51_13 : List AO := [⟨some 4, none, .mv (.c (.it .i64 0))⟩]
set_option maxRecDepth 1000000 in
noncomputable def c51 : AFn := ⟨20, [(4, none)],
  (.seq (.ops r51_0)
  (.seq (.ops r51_1)
  (.seq (.ops r51_2)
  (.seq (.seq (.ops r51_3)
  (.cond (.t 11) (.seq (.seq (.ops r51_4)
  (.cond (.t 12) (.seq (.ops r51_5)
  .ret)
  .skip))
  (.seq (.ops r51_6)
  .ret))
  .skip))
  (.seq (.seq (.ops r51_7)
  (.cond (.t 13) (.seq (.ops r51_8)
  .ret)
  .skip))
  (.seq (.seq (.ops r51_9)
  (.cond (.t 16) (.seq (.ops r51_10)
  .ret)
  .skip))
  (.seq (.seq (.ops r51_11)
  (.cond (.t 19) (.seq (.ops r51_12)
  .ret)
  .skip))
  (.seq (.ops r51_13)
  .ret))))))))⟩
set_option maxRecDepth 1000000 in
theorem t51 : trF Tryd.prog 51 = some c51 := by kernel_rfl
/-- strconv.FormatInt (0 i, 1 base, 2 i, 3 base) -/
noncomputable def r52_0 : List AO := [⟨some 4, none, .mv (.c (.st []))⟩]
noncomputable def r52_1 : List AO := [⟨some 5, none, .mv (.t 0)⟩,
  ⟨some 6, none, .mv (.t 1)⟩,
  ⟨some 7, none, .call 70 [(.t 5), (.t 6)]⟩,
  ⟨some 4, none, .mv (.t 7)⟩]
set_option maxRecDepth 1000000 in
noncomputable def c52 : AFn := ⟨8, [(4, none)],
  (.seq (.ops r52_0)
  (.seq (.ops r52_1)
  .ret))⟩
set_option maxRecDepth 1000000 in
theorem t52 : trF Tryd.prog 52 = some c52 := by kernel_rfl
/-- strings.ReplaceAll (0 s, 1 old, 2 new, 3 s, 4 old, 5 new) -/
noncomputable def r53_0 : List AO := [⟨some 6, none, .mv (.c (.st []))⟩]
noncomputable def r53_1 : List AO := [⟨some 7, none, .mv (.t 0)⟩,
  ⟨some 8, none, .mv (.t 1)⟩,
  ⟨some 9, none, .mv (.t 2)⟩,
  ⟨some 10, none, .call 71 [(.t 7), (.t 8), (.t 9), (.c (.it .i64 (-1)))]⟩,
  ⟨some 6, none, .mv (.t 10)⟩]
set_option maxRecDepth 1000000 in
noncomputable def c53 : AFn := ⟨11, [(6, none)],
  (.seq (.ops r53_0)
  (.seq (.ops r53_1)
  .ret))⟩
set_option maxRecDepth 1000000 in
theorem t53 : trF Tryd.prog 53 = some c53 := by kernel_rfl
/-- regrater/regraterref06.Digits (0 n, 1 n, 3 sign, 4 out, 5 d) -/
noncomputable def r54_0 : List AO := [⟨some 2, none, .mv (.c (.st []))⟩]
noncomputable def r54_1 : List AO := [⟨some 3, none, .mv (.c (.st []))⟩,
  ⟨some 4, none, .mv (.c (.st []))⟩]
noncomputable def r54_2 : List AO := [⟨some 6, none, .mv (.t 0)⟩,
  ⟨some 7, none, .bin .lss (.t 6) (.c (.it .i64 0))⟩]
noncomputable def r54_3 : List AO := [⟨some 3, none, .mv (.c (.st [45]))⟩]
noncomputable def r54_4 : List AO := [⟨some 8, none, .mv (.t 0)⟩,
  ⟨some 9, none, .bin .rem (.t 8) (.c (.it .i64 10))⟩,
  ⟨some 5, none, .mv (.t 9)⟩]
noncomputable def r54_5 : List AO := [⟨some 10, none, .mv (.t 5)⟩,
  ⟨some 11, none, .bin .lss (.t 10) (.c (.it .i64 0))⟩]
noncomputable def r54_6 : List AO := [⟨some 12, none, .mv (.t 5)⟩,
  ⟨some 13, none, .un .neg (.t 12)⟩,
  ⟨some 5, none, .mv (.t 13)⟩]
noncomputable def r54_7 : List AO := [⟨some 14, none, .mv (.t 5)⟩,
  ⟨some 15, none, .bin .add (.c (.it .i64 48)) (.t 14)⟩,
  ⟨some 16, none, .cvi .u8 (.t 15)⟩,
  ⟨some 17, none, .bsl 5 1 1 [(.it .u8 0)] [(0, 1, (.t 16))]⟩,
  ⟨some 18, none, .b2s (.t 17)⟩,
  ⟨some 19, none, .mv (.t 4)⟩,
  ⟨some 20, none, .bin .add (.t 18) (.t 19)⟩,
  ⟨some 4, none, .mv (.t 20)⟩]
noncomputable def r54_8 : List AO := [⟨some 21, none, .mv (.t 0)⟩,
  ⟨some 22, none, .bin .quo (.t 21) (.c (.it .i64 10))⟩,
  ⟨some 0, none, .mv (.t 22)⟩]
noncomputable def r54_9 : List AO := [⟨some 23, none, .mv (.t 0)⟩,
  ⟨some 24, none, .eq false 1 (.t 23) (.c (.it .i64 0))⟩]
noncomputable def r54_10 : List AO := [⟨some 25, none, .mv (.t 3)⟩,
  ⟨some 26, none, .mv (.t 4)⟩,
  ⟨some 27, none, .bin .add (.t 25) (.t 26)⟩,
  ⟨some 2, none, .mv (.t 27)⟩]
set_option maxRecDepth 1000000 in
noncomputable def c54 : AFn := ⟨28, [(2, none)],
  (.seq (.ops r54_0)
  (.seq (.ops r54_1)
  (.seq (.seq (.ops r54_2)
  (.cond (.t 7) (.ops r54_3)
  .skip))
  (.block 0 (.loop (.block 1 (.seq (.ops r54_4)
  (.seq (.seq (.ops r54_5)
  (.cond (.t 11) (.ops r54_6)
  .skip))
  (.seq (.ops r54_7)
  (.seq (.ops r54_8)
  (.seq (.ops r54_9)
  (.cond (.t 24) (.seq (.ops r54_10)
  .ret)
  .skip))))))))))))⟩
set_option maxRecDepth 1000000 in
theorem t54 : trF Tryd.prog 54 = some c54 := by kernel_rfl
/-- regrater/value.takes (0 op, 1 op) -/
noncomputable def r65_0 : List AO := [⟨some 2, none, .mv (.c (.it .i64 0))⟩]
noncomputable def r65_1 : List AO := [⟨some 4, none, .mv (.t 0)⟩,
  ⟨some 5, none, .bin .geq (.t 4) (.c (.it .i64 7))⟩,
  ⟨some 6, none, .mv (.t 5)⟩,
  ⟨some 7, some (6, true), .mv (.t 0)⟩,
  ⟨some 8, some (6, true), .bin .leq (.t 7) (.c (.it .i64 11))⟩,
  ⟨some 9, none, .pick (.t 6) (.t 8) (.c (.bl false))⟩,
  ⟨some 3, none, .mv (.t 9)⟩]
noncomputable def r65_2 : List AO := [⟨some 2, none, .mv (.c (.it .i64 2))⟩]
noncomputable def r65_3 : List AO := [⟨some 11, none, .mv (.t 0)⟩,
  ⟨some 12, none, .eq false 1 (.t 11) (.c (.it .i64 12))⟩,
  ⟨some 10, none, .mv (.t 12)⟩]
noncomputable def r65_4 : List AO := [⟨some 2, none, .mv (.c (.it .i64 3))⟩]
noncomputable def r65_5 : List AO := [⟨some 14, none, .mv (.t 0)⟩,
  ⟨some 15, none, .eq false 1 (.t 14) (.c (.it .i64 13))⟩,
  ⟨some 16, none, .mv (.t 15)⟩,
  ⟨some 17, some (16, false), .mv (.t 0)⟩,
  ⟨some 18, some (16, false), .eq false 1 (.t 17) (.c (.it .i64 14))⟩,
  ⟨some 19, none, .pick (.t 16) (.c (.bl true)) (.t 18)⟩,
  ⟨some 13, none, .mv (.t 19)⟩]
noncomputable def r65_6 : List AO := [⟨some 2, none, .mv (.c (.it .i64 1))⟩]
noncomputable def r65_7 : List AO := [⟨some 2, none, .mv (.c (.it .i64 0))⟩]
set_option maxRecDepth 1000000 in
noncomputable def c65 : AFn := ⟨20, [(2, none)],
  (.seq (.ops r65_0)
  (.seq (.block 0 (.seq (.ops r65_1)
  (.cond (.t 3) (.seq (.ops r65_2)
  .ret)
  (.seq (.ops r65_3)
  (.cond (.t 10) (.seq (.ops r65_4)
  .ret)
  (.seq (.ops r65_5)
  (.cond (.t 13) (.seq (.ops r65_6)
  .ret)
  .skip)))))))
  (.seq (.ops r65_7)
  .ret)))⟩
set_option maxRecDepth 1000000 in
theorem t65 : trF Tryd.prog 65 = some c65 := by kernel_rfl
/-- regrater/value.product (0 a, 1 b, 2 a, 3 b, 6 high, 7 low) -/
noncomputable def r66_0 : List AO := [⟨some 4, none, .mv (.c (.it .i64 0))⟩,
  ⟨some 5, none, .mv (.c (.bl false))⟩]
noncomputable def r66_1 : List AO := [⟨some 9, none, .mv (.t 0)⟩,
  ⟨some 10, none, .mv (.t 0)⟩,
  ⟨some 11, none, .un .neg (.t 10)⟩,
  ⟨some 12, none, .mnx true [(.t 9), (.t 11)]⟩,
  ⟨some 13, none, .cvi .u64 (.t 12)⟩,
  ⟨some 14, none, .mv (.t 1)⟩,
  ⟨some 15, none, .mv (.t 1)⟩,
  ⟨some 16, none, .un .neg (.t 15)⟩,
  ⟨some 17, none, .mnx true [(.t 14), (.t 16)]⟩,
  ⟨some 18, none, .cvi .u64 (.t 17)⟩,
  ⟨some 19, none, .call 81 [(.t 13), (.t 18)]⟩,
  ⟨some 8, none, .mv (.t 19)⟩,
  ⟨some 20, none, .ext (.t 8) 0⟩,
  ⟨some 21, none, .ext (.t 8) 1⟩,
  ⟨some 6, none, .mv (.t 20)⟩,
  ⟨some 7, none, .mv (.t 21)⟩]
noncomputable def r66_2 : List AO := [⟨some 22, none, .mv (.t 0)⟩,
  ⟨some 23, none, .bin .lss (.t 22) (.c (.it .i64 0))⟩,
  ⟨some 24, none, .mv (.t 1)⟩,
  ⟨some 25, none, .bin .lss (.t 24) (.c (.it .i64 0))⟩,
  ⟨some 26, none, .eq true 0 (.t 23) (.t 25)⟩]
noncomputable def r66_3 : List AO := [⟨some 27, none, .mv (.t 7)⟩,
  ⟨some 28, none, .cvi .i64 (.t 27)⟩,
  ⟨some 29, none, .un .neg (.t 28)⟩,
  ⟨some 30, none, .mv (.t 6)⟩,
  ⟨some 31, none, .eq false 1 (.t 30) (.c (.it .u64 0))⟩,
  ⟨some 32, none, .mv (.t 31)⟩,
  ⟨some 33, some (32, true), .mv (.t 7)⟩,
  ⟨some 34, some (32, true), .bin .leq (.t 33) (.c (.it .u64 9223372036854775808))⟩,
  ⟨some 35, none, .pick (.t 32) (.t 34) (.c (.bl false))⟩,
  ⟨some 4, none, .mv (.t 29)⟩,
  ⟨some 5, none, .mv (.t 35)⟩]
noncomputable def r66_4 : List AO := [⟨some 36, none, .mv (.t 7)⟩,
  ⟨some 37, none, .cvi .i64 (.t 36)⟩,
  ⟨some 38, none, .mv (.t 6)⟩,
  ⟨some 39, none, .eq false 1 (.t 38) (.c (.it .u64 0))⟩,
  ⟨some 40, none, .mv (.t 39)⟩,
  ⟨some 41, some (40, true), .mv (.t 7)⟩,
  ⟨some 42, some (40, true), .bin .leq (.t 41) (.c (.it .u64 9223372036854775807))⟩,
  ⟨some 43, none, .pick (.t 40) (.t 42) (.c (.bl false))⟩,
  ⟨some 4, none, .mv (.t 37)⟩,
  ⟨some 5, none, .mv (.t 43)⟩]
set_option maxRecDepth 1000000 in
noncomputable def c66 : AFn := ⟨44, [(4, none), (5, none)],
  (.seq (.ops r66_0)
  (.seq (.ops r66_1)
  (.seq (.seq (.ops r66_2)
  (.cond (.t 26) (.seq (.ops r66_3)
  .ret)
  .skip))
  (.seq (.ops r66_4)
  .ret))))⟩
set_option maxRecDepth 1000000 in
theorem t66 : trF Tryd.prog 66 = some c66 := by kernel_rfl
/-- cmp.isNaN[int] (0 x, 1 x) -/
noncomputable def r67_0 : List AO := [⟨some 2, none, .mv (.c (.bl false))⟩]
noncomputable def r67_1 : List AO := [⟨some 3, none, .mv (.t 0)⟩,
  ⟨some 4, none, .mv (.t 0)⟩,
  ⟨some 5, none, .eq true 1 (.t 3) (.t 4)⟩,
  ⟨some 2, none, .mv (.t 5)⟩]
set_option maxRecDepth 1000000 in
noncomputable def c67 : AFn := ⟨6, [(2, none)],
  (.seq (.ops r67_0)
  (.seq (.ops r67_1)
  .ret))⟩
set_option maxRecDepth 1000000 in
theorem t67 : trF Tryd.prog 67 = some c67 := by kernel_rfl
/-- cmp.isNaN[int64] (0 x, 1 x) -/
noncomputable def r68_0 : List AO := [⟨some 2, none, .mv (.c (.bl false))⟩]
noncomputable def r68_1 : List AO := [⟨some 3, none, .mv (.t 0)⟩,
  ⟨some 4, none, .mv (.t 0)⟩,
  ⟨some 5, none, .eq true 1 (.t 3) (.t 4)⟩,
  ⟨some 2, none, .mv (.t 5)⟩]
set_option maxRecDepth 1000000 in
noncomputable def c68 : AFn := ⟨6, [(2, none)],
  (.seq (.ops r68_0)
  (.seq (.ops r68_1)
  .ret))⟩
set_option maxRecDepth 1000000 in
theorem t68 : trF Tryd.prog 68 = some c68 := by kernel_rfl
/-- cmp.isNaN[string] (0 x, 1 x) -/
noncomputable def r69_0 : List AO := [⟨some 2, none, .mv (.c (.bl false))⟩]
noncomputable def r69_1 : List AO := [⟨some 3, none, .mv (.t 0)⟩,
  ⟨some 4, none, .mv (.t 0)⟩,
  ⟨some 5, none, .eq true 2 (.t 3) (.t 4)⟩,
  ⟨some 2, none, .mv (.t 5)⟩]
set_option maxRecDepth 1000000 in
noncomputable def c69 : AFn := ⟨6, [(2, none)],
  (.seq (.ops r69_0)
  (.seq (.ops r69_1)
  .ret))⟩
set_option maxRecDepth 1000000 in
theorem t69 : trF Tryd.prog 69 = some c69 := by kernel_rfl
/-- math/bits.Mul64 (0 x, 1 y, 2 x, 3 y, 4 hi, 5 lo, 6 x0, 7 x1, 8 y0, 9 y1, 10 w0, 11 t, 12 w1, 13 w2) -/
noncomputable def r81_0 : List AO := [⟨some 4, none, .mv (.c (.it .u64 0))⟩,
  ⟨some 5, none, .mv (.c (.it .u64 0))⟩]
noncomputable def r81_1 : List AO := [⟨some 14, none, .mv (.t 0)⟩,
  ⟨some 15, none, .bin .and (.t 14) (.c (.it .u64 4294967295))⟩,
  ⟨some 6, none, .mv (.t 15)⟩]
noncomputable def r81_2 : List AO := [⟨some 16, none, .mv (.t 0)⟩,
  ⟨some 17, none, .bin .shr (.t 16) (.c (.it .u64 32))⟩,
  ⟨some 7, none, .mv (.t 17)⟩]
noncomputable def r81_3 : List AO := [⟨some 18, none, .mv (.t 1)⟩,
  ⟨some 19, none, .bin .and (.t 18) (.c (.it .u64 4294967295))⟩,
  ⟨some 8, none, .mv (.t 19)⟩]
noncomputable def r81_4 : List AO := [⟨some 20, none, .mv (.t 1)⟩,
  ⟨some 21, none, .bin .shr (.t 20) (.c (.it .u64 32))⟩,
  ⟨some 9, none, .mv (.t 21)⟩]
noncomputable def r81_5 : List AO := [⟨some 22, none, .mv (.t 6)⟩,
  ⟨some 23, none, .mv (.t 8)⟩,
  ⟨some 24, none, .bin .mul (.t 22) (.t 23)⟩,
  ⟨some 10, none, .mv (.t 24)⟩]
noncomputable def r81_6 : List AO := [⟨some 25, none, .mv (.t 7)⟩,
  ⟨some 26, none, .mv (.t 8)⟩,
  ⟨some 27, none, .bin .mul (.t 25) (.t 26)⟩,
  ⟨some 28, none, .mv (.t 10)⟩,
  ⟨some 29, none, .bin .shr (.t 28) (.c (.it .u64 32))⟩,
  ⟨some 30, none, .bin .add (.t 27) (.t 29)⟩,
  ⟨some 11, none, .mv (.t 30)⟩]
noncomputable def r81_7 : List AO := [⟨some 31, none, .mv (.t 11)⟩,
  ⟨some 32, none, .bin .and (.t 31) (.c (.it .u64 4294967295))⟩,
  ⟨some 12, none, .mv (.t 32)⟩]
noncomputable def r81_8 : List AO := [⟨some 33, none, .mv (.t 11)⟩,
  ⟨some 34, none, .bin .shr (.t 33) (.c (.it .u64 32))⟩,
  ⟨some 13, none, .mv (.t 34)⟩]
noncomputable def r81_9 : List AO := [⟨some 35, none, .mv (.t 12)⟩,
  ⟨some 36, none, .mv (.t 6)⟩,
  ⟨some 37, none, .mv (.t 9)⟩,
  ⟨some 38, none, .bin .mul (.t 36) (.t 37)⟩,
  ⟨some 39, none, .bin .add (.t 35) (.t 38)⟩,
  ⟨some 12, none, .mv (.t 39)⟩]
noncomputable def r81_10 : List AO := [⟨some 40, none, .mv (.t 7)⟩,
  ⟨some 41, none, .mv (.t 9)⟩,
  ⟨some 42, none, .bin .mul (.t 40) (.t 41)⟩,
  ⟨some 43, none, .mv (.t 13)⟩,
  ⟨some 44, none, .bin .add (.t 42) (.t 43)⟩,
  ⟨some 45, none, .mv (.t 12)⟩,
  ⟨some 46, none, .bin .shr (.t 45) (.c (.it .u64 32))⟩,
  ⟨some 47, none, .bin .add (.t 44) (.t 46)⟩,
  ⟨some 4, none, .mv (.t 47)⟩]
noncomputable def r81_11 : List AO := [⟨some 48, none, .mv (.t 0)⟩,
  ⟨some 49, none, .mv (.t 1)⟩,
  ⟨some 50, none, .bin .mul (.t 48) (.t 49)⟩,
  ⟨some 5, none, .mv (.t 50)⟩]
set_option maxRecDepth 1000000 in
noncomputable def c81 : AFn := ⟨51, [(4, none), (5, none)],
  (.seq (.ops r81_0)
  (.seq (.ops r81_1)
  (.seq (.ops r81_2)
  (.seq (.ops r81_3)
  (.seq (.ops r81_4)
  (.seq (.ops r81_5)
  (.seq (.ops r81_6)
  (.seq (.ops r81_7)
  (.seq (.ops r81_8)
  (.seq (.ops r81_9)
  (.seq (.ops r81_10)
  (.seq (.ops r81_11)
  .ret))))))))))))⟩
set_option maxRecDepth 1000000 in
theorem t81 : trF Tryd.prog 81 = some c81 := by kernel_rfl
end Go.Proofs.YtkmehmgocelkiaaDoor
