/-
  The resolved code of the functions, each held against the program by the kernel.
-/
import Derived.Test.YtkmehmgocelkiaaCodea
namespace Go.Proofs.Ytkmehmgocelkiaa
open Go.AV
/-- slices.symMergeCmpFunc[regrater/agg.Group] (0 data, 1 a, 2 m, 3 b, 4 cmp, 5 data, 6 a, 7 m, 8 b, 9 cmp, 10 i, 11 j, 12 h, 13 k, 14 i, 15 j, 16 h, 17 k, 18 mid, 19 n, 20 start, 21 r, 22 p, 23 c, 24 end) -/
noncomputable def r96_0 : List AO := [⟨some 25, none, .mv (.t 2)⟩,
  ⟨some 26, none, .mv (.t 1)⟩,
  ⟨some 27, none, .bin .sub (.t 25) (.t 26)⟩,
  ⟨some 28, none, .eq false 1 (.t 27) (.c (.it .i64 1))⟩]
noncomputable def r96_1 : List AO := [⟨some 29, none, .mv (.t 2)⟩,
  ⟨some 10, none, .mv (.t 29)⟩]
noncomputable def r96_2 : List AO := [⟨some 30, none, .mv (.t 3)⟩,
  ⟨some 11, none, .mv (.t 30)⟩]
noncomputable def r96_3 : List AO := [⟨some 31, none, .mv (.t 10)⟩,
  ⟨some 32, none, .mv (.t 11)⟩,
  ⟨some 33, none, .bin .lss (.t 31) (.t 32)⟩]
noncomputable def r96_4 : List AO := [⟨some 34, none, .mv (.t 10)⟩,
  ⟨some 35, none, .mv (.t 11)⟩,
  ⟨some 36, none, .bin .add (.t 34) (.t 35)⟩,
  ⟨some 37, none, .cvi .u64 (.t 36)⟩,
  ⟨some 38, none, .bin .shr (.t 37) (.c (.it .u64 1))⟩,
  ⟨some 39, none, .cvi .i64 (.t 38)⟩,
  ⟨some 12, none, .mv (.t 39)⟩]
noncomputable def r96_5 : List (AO × List Nat) := [(⟨some 40, none, .mv (.t 4)⟩, []),
  (⟨some 41, none, .mv (.t 0)⟩, []),
  (⟨some 42, none, .mv (.t 12)⟩, []),
  (⟨some 43, none, .iad 3 (.t 41) (.t 42)⟩, []),
  (⟨some 44, none, .ld true 3 (.t 43)⟩, []),
  (⟨some 45, none, .mv (.t 0)⟩, []),
  (⟨some 46, none, .mv (.t 1)⟩, []),
  (⟨some 47, none, .iad 3 (.t 45) (.t 46)⟩, []),
  (⟨some 48, none, .ld true 3 (.t 47)⟩, []),
  (⟨some 49, none, .calv (.t 40) [(.t 44), (.t 48)]⟩, []),
  (⟨some 50, none, .bin .lss (.t 49) (.c (.it .i64 0))⟩, [])]
noncomputable def r96_6 : List AO := [⟨some 51, none, .mv (.t 12)⟩,
  ⟨some 52, none, .bin .add (.t 51) (.c (.it .i64 1))⟩,
  ⟨some 10, none, .mv (.t 52)⟩]
noncomputable def r96_7 : List AO := [⟨some 53, none, .mv (.t 12)⟩,
  ⟨some 11, none, .mv (.t 53)⟩]
noncomputable def r96_8 : List AO := [⟨some 54, none, .mv (.t 1)⟩,
  ⟨some 13, none, .mv (.t 54)⟩]
noncomputable def r96_9 : List AO := [⟨some 55, none, .mv (.t 13)⟩,
  ⟨some 56, none, .mv (.t 10)⟩,
  ⟨some 57, none, .bin .sub (.t 56) (.c (.it .i64 1))⟩,
  ⟨some 58, none, .bin .lss (.t 55) (.t 57)⟩]
noncomputable def r96_10 : List (AO × List Nat) := [(⟨some 61, none, .mv (.t 0)⟩, []),
  (⟨some 62, none, .mv (.t 13)⟩, []),
  (⟨some 63, none, .mv (.t 0)⟩, []),
  (⟨some 64, none, .mv (.t 13)⟩, []),
  (⟨some 65, none, .bin .add (.t 64) (.c (.it .i64 1))⟩, []),
  (⟨some 66, none, .mv (.t 0)⟩, []),
  (⟨some 67, none, .mv (.t 13)⟩, []),
  (⟨some 68, none, .bin .add (.t 67) (.c (.it .i64 1))⟩, []),
  (⟨some 69, none, .iad 3 (.t 66) (.t 68)⟩, []),
  (⟨some 70, none, .ld true 3 (.t 69)⟩, []),
  (⟨some 71, none, .mv (.t 0)⟩, []),
  (⟨some 72, none, .mv (.t 13)⟩, []),
  (⟨some 73, none, .iad 3 (.t 71) (.t 72)⟩, []),
  (⟨some 74, none, .ld true 3 (.t 73)⟩, []),
  (⟨some 75, none, .iad 3 (.t 61) (.t 62)⟩, []),
  (⟨none, none, .sto 3 (.t 75) (.t 70)⟩, [2, 3, 4]),
  (⟨some 76, none, .iad 3 (.t 63) (.t 65)⟩, []),
  (⟨none, none, .sto 3 (.t 76) (.t 74)⟩, [])]
noncomputable def r96_11 : List AO := [⟨some 59, none, .mv (.t 13)⟩,
  ⟨some 60, none, .bin .add (.t 59) (.c (.it .i64 1))⟩,
  ⟨some 13, none, .mv (.t 60)⟩]
noncomputable def r96_12 : List AO := [⟨some 77, none, .mv (.t 3)⟩,
  ⟨some 78, none, .mv (.t 2)⟩,
  ⟨some 79, none, .bin .sub (.t 77) (.t 78)⟩,
  ⟨some 80, none, .eq false 1 (.t 79) (.c (.it .i64 1))⟩]
noncomputable def r96_13 : List AO := [⟨some 81, none, .mv (.t 1)⟩,
  ⟨some 14, none, .mv (.t 81)⟩]
noncomputable def r96_14 : List AO := [⟨some 82, none, .mv (.t 2)⟩,
  ⟨some 15, none, .mv (.t 82)⟩]
noncomputable def r96_15 : List AO := [⟨some 83, none, .mv (.t 14)⟩,
  ⟨some 84, none, .mv (.t 15)⟩,
  ⟨some 85, none, .bin .lss (.t 83) (.t 84)⟩]
noncomputable def r96_16 : List AO := [⟨some 86, none, .mv (.t 14)⟩,
  ⟨some 87, none, .mv (.t 15)⟩,
  ⟨some 88, none, .bin .add (.t 86) (.t 87)⟩,
  ⟨some 89, none, .cvi .u64 (.t 88)⟩,
  ⟨some 90, none, .bin .shr (.t 89) (.c (.it .u64 1))⟩,
  ⟨some 91, none, .cvi .i64 (.t 90)⟩,
  ⟨some 16, none, .mv (.t 91)⟩]
noncomputable def r96_17 : List (AO × List Nat) := [(⟨some 92, none, .mv (.t 4)⟩, []),
  (⟨some 93, none, .mv (.t 0)⟩, []),
  (⟨some 94, none, .mv (.t 2)⟩, []),
  (⟨some 95, none, .iad 3 (.t 93) (.t 94)⟩, []),
  (⟨some 96, none, .ld true 3 (.t 95)⟩, []),
  (⟨some 97, none, .mv (.t 0)⟩, []),
  (⟨some 98, none, .mv (.t 16)⟩, []),
  (⟨some 99, none, .iad 3 (.t 97) (.t 98)⟩, []),
  (⟨some 100, none, .ld true 3 (.t 99)⟩, []),
  (⟨some 101, none, .calv (.t 92) [(.t 96), (.t 100)]⟩, []),
  (⟨some 102, none, .bin .lss (.t 101) (.c (.it .i64 0))⟩, []),
  (⟨some 103, none, .un .not (.t 102)⟩, [])]
noncomputable def r96_18 : List AO := [⟨some 104, none, .mv (.t 16)⟩,
  ⟨some 105, none, .bin .add (.t 104) (.c (.it .i64 1))⟩,
  ⟨some 14, none, .mv (.t 105)⟩]
noncomputable def r96_19 : List AO := [⟨some 106, none, .mv (.t 16)⟩,
  ⟨some 15, none, .mv (.t 106)⟩]
noncomputable def r96_20 : List AO := [⟨some 107, none, .mv (.t 2)⟩,
  ⟨some 17, none, .mv (.t 107)⟩]
noncomputable def r96_21 : List AO := [⟨some 108, none, .mv (.t 17)⟩,
  ⟨some 109, none, .mv (.t 14)⟩,
  ⟨some 110, none, .bin .gtr (.t 108) (.t 109)⟩]
noncomputable def r96_22 : List (AO × List Nat) := [(⟨some 113, none, .mv (.t 0)⟩, []),
  (⟨some 114, none, .mv (.t 17)⟩, []),
  (⟨some 115, none, .mv (.t 0)⟩, []),
  (⟨some 116, none, .mv (.t 17)⟩, []),
  (⟨some 117, none, .bin .sub (.t 116) (.c (.it .i64 1))⟩, []),
  (⟨some 118, none, .mv (.t 0)⟩, []),
  (⟨some 119, none, .mv (.t 17)⟩, []),
  (⟨some 120, none, .bin .sub (.t 119) (.c (.it .i64 1))⟩, []),
  (⟨some 121, none, .iad 3 (.t 118) (.t 120)⟩, []),
  (⟨some 122, none, .ld true 3 (.t 121)⟩, []),
  (⟨some 123, none, .mv (.t 0)⟩, []),
  (⟨some 124, none, .mv (.t 17)⟩, []),
  (⟨some 125, none, .iad 3 (.t 123) (.t 124)⟩, []),
  (⟨some 126, none, .ld true 3 (.t 125)⟩, []),
  (⟨some 127, none, .iad 3 (.t 113) (.t 114)⟩, []),
  (⟨none, none, .sto 3 (.t 127) (.t 122)⟩, [2, 3, 4]),
  (⟨some 128, none, .iad 3 (.t 115) (.t 117)⟩, []),
  (⟨none, none, .sto 3 (.t 128) (.t 126)⟩, [])]
noncomputable def r96_23 : List AO := [⟨some 111, none, .mv (.t 17)⟩,
  ⟨some 112, none, .bin .sub (.t 111) (.c (.it .i64 1))⟩,
  ⟨some 17, none, .mv (.t 112)⟩]
noncomputable def r96_24 : List AO := [⟨some 129, none, .mv (.t 1)⟩,
  ⟨some 130, none, .mv (.t 3)⟩,
  ⟨some 131, none, .bin .add (.t 129) (.t 130)⟩,
  ⟨some 132, none, .cvi .u64 (.t 131)⟩,
  ⟨some 133, none, .bin .shr (.t 132) (.c (.it .u64 1))⟩,
  ⟨some 134, none, .cvi .i64 (.t 133)⟩,
  ⟨some 18, none, .mv (.t 134)⟩]
noncomputable def r96_25 : List AO := [⟨some 135, none, .mv (.t 18)⟩,
  ⟨some 136, none, .mv (.t 2)⟩,
  ⟨some 137, none, .bin .add (.t 135) (.t 136)⟩,
  ⟨some 19, none, .mv (.t 137)⟩]
noncomputable def r96_26 : List AO := [⟨some 20, none, .mv (.c (.it .i64 0))⟩,
  ⟨some 21, none, .mv (.c (.it .i64 0))⟩]
noncomputable def r96_27 : List AO := [⟨some 138, none, .mv (.t 2)⟩,
  ⟨some 139, none, .mv (.t 18)⟩,
  ⟨some 140, none, .bin .gtr (.t 138) (.t 139)⟩]
noncomputable def r96_28 : List AO := [⟨some 141, none, .mv (.t 19)⟩,
  ⟨some 142, none, .mv (.t 3)⟩,
  ⟨some 143, none, .bin .sub (.t 141) (.t 142)⟩,
  ⟨some 20, none, .mv (.t 143)⟩]
noncomputable def r96_29 : List AO := [⟨some 144, none, .mv (.t 18)⟩,
  ⟨some 21, none, .mv (.t 144)⟩]
noncomputable def r96_30 : List AO := [⟨some 145, none, .mv (.t 1)⟩,
  ⟨some 20, none, .mv (.t 145)⟩]
noncomputable def r96_31 : List AO := [⟨some 146, none, .mv (.t 2)⟩,
  ⟨some 21, none, .mv (.t 146)⟩]
noncomputable def r96_32 : List AO := [⟨some 147, none, .mv (.t 19)⟩,
  ⟨some 148, none, .bin .sub (.t 147) (.c (.it .i64 1))⟩,
  ⟨some 22, none, .mv (.t 148)⟩]
noncomputable def r96_33 : List AO := [⟨some 149, none, .mv (.t 20)⟩,
  ⟨some 150, none, .mv (.t 21)⟩,
  ⟨some 151, none, .bin .lss (.t 149) (.t 150)⟩]
noncomputable def r96_34 : List AO := [⟨some 152, none, .mv (.t 20)⟩,
  ⟨some 153, none, .mv (.t 21)⟩,
  ⟨some 154, none, .bin .add (.t 152) (.t 153)⟩,
  ⟨some 155, none, .cvi .u64 (.t 154)⟩,
  ⟨some 156, none, .bin .shr (.t 155) (.c (.it .u64 1))⟩,
  ⟨some 157, none, .cvi .i64 (.t 156)⟩,
  ⟨some 23, none, .mv (.t 157)⟩]
noncomputable def r96_35 : List (AO × List Nat) := [(⟨some 158, none, .mv (.t 4)⟩, []),
  (⟨some 159, none, .mv (.t 0)⟩, []),
  (⟨some 160, none, .mv (.t 22)⟩, []),
  (⟨some 161, none, .mv (.t 23)⟩, []),
  (⟨some 162, none, .bin .sub (.t 160) (.t 161)⟩, []),
  (⟨some 163, none, .iad 3 (.t 159) (.t 162)⟩, []),
  (⟨some 164, none, .ld true 3 (.t 163)⟩, []),
  (⟨some 165, none, .mv (.t 0)⟩, []),
  (⟨some 166, none, .mv (.t 23)⟩, []),
  (⟨some 167, none, .iad 3 (.t 165) (.t 166)⟩, []),
  (⟨some 168, none, .ld true 3 (.t 167)⟩, []),
  (⟨some 169, none, .calv (.t 158) [(.t 164), (.t 168)]⟩, []),
  (⟨some 170, none, .bin .lss (.t 169) (.c (.it .i64 0))⟩, []),
  (⟨some 171, none, .un .not (.t 170)⟩, [])]
noncomputable def r96_36 : List AO := [⟨some 172, none, .mv (.t 23)⟩,
  ⟨some 173, none, .bin .add (.t 172) (.c (.it .i64 1))⟩,
  ⟨some 20, none, .mv (.t 173)⟩]
noncomputable def r96_37 : List AO := [⟨some 174, none, .mv (.t 23)⟩,
  ⟨some 21, none, .mv (.t 174)⟩]
noncomputable def r96_38 : List AO := [⟨some 175, none, .mv (.t 19)⟩,
  ⟨some 176, none, .mv (.t 20)⟩,
  ⟨some 177, none, .bin .sub (.t 175) (.t 176)⟩,
  ⟨some 24, none, .mv (.t 177)⟩]
noncomputable def r96_39 : List AO := [⟨some 178, none, .mv (.t 20)⟩,
  ⟨some 179, none, .mv (.t 2)⟩,
  ⟨some 180, none, .bin .lss (.t 178) (.t 179)⟩,
  ⟨some 181, none, .mv (.t 180)⟩,
  ⟨some 182, some (181, true), .mv (.t 2)⟩,
  ⟨some 183, some (181, true), .mv (.t 24)⟩,
  ⟨some 184, some (181, true), .bin .lss (.t 182) (.t 183)⟩,
  ⟨some 185, none, .pick (.t 181) (.t 184) (.c (.bl false))⟩]
noncomputable def r96_40 : List AO := [⟨some 186, none, .mv (.t 0)⟩,
  ⟨some 187, none, .mv (.t 20)⟩,
  ⟨some 188, none, .mv (.t 2)⟩,
  ⟨some 189, none, .mv (.t 24)⟩,
  ⟨some 190, none, .mv (.t 4)⟩,
  ⟨some 191, none, .call 103 [(.t 186), (.t 187), (.t 188), (.t 189), (.t 190)]⟩]
noncomputable def r96_41 : List AO := [⟨some 192, none, .mv (.t 1)⟩,
  ⟨some 193, none, .mv (.t 20)⟩,
  ⟨some 194, none, .bin .lss (.t 192) (.t 193)⟩,
  ⟨some 195, none, .mv (.t 194)⟩,
  ⟨some 196, some (195, true), .mv (.t 20)⟩,
  ⟨some 197, some (195, true), .mv (.t 18)⟩,
  ⟨some 198, some (195, true), .bin .lss (.t 196) (.t 197)⟩,
  ⟨some 199, none, .pick (.t 195) (.t 198) (.c (.bl false))⟩]
noncomputable def r96_42 : List AO := [⟨some 200, none, .mv (.t 0)⟩,
  ⟨some 201, none, .mv (.t 1)⟩,
  ⟨some 202, none, .mv (.t 20)⟩,
  ⟨some 203, none, .mv (.t 18)⟩,
  ⟨some 204, none, .mv (.t 4)⟩,
  ⟨some 205, none, .call 96 [(.t 200), (.t 201), (.t 202), (.t 203), (.t 204)]⟩]
noncomputable def r96_43 : List AO := [⟨some 206, none, .mv (.t 18)⟩,
  ⟨some 207, none, .mv (.t 24)⟩,
  ⟨some 208, none, .bin .lss (.t 206) (.t 207)⟩,
  ⟨some 209, none, .mv (.t 208)⟩,
  ⟨some 210, some (209, true), .mv (.t 24)⟩,
  ⟨some 211, some (209, true), .mv (.t 3)⟩,
  ⟨some 212, some (209, true), .bin .lss (.t 210) (.t 211)⟩,
  ⟨some 213, none, .pick (.t 209) (.t 212) (.c (.bl false))⟩]
noncomputable def r96_44 : List AO := [⟨some 214, none, .mv (.t 0)⟩,
  ⟨some 215, none, .mv (.t 18)⟩,
  ⟨some 216, none, .mv (.t 24)⟩,
  ⟨some 217, none, .mv (.t 3)⟩,
  ⟨some 218, none, .mv (.t 4)⟩,
  ⟨some 219, none, .call 96 [(.t 214), (.t 215), (.t 216), (.t 217), (.t 218)]⟩]
set_option maxRecDepth 1000000 in
noncomputable def c96 : AFn := ⟨220, [],
  (.seq (.seq (.ops r96_0)
  (.cond (.t 28) (.seq (.ops r96_1)
  (.seq (.ops r96_2)
  (.seq (.block 0 (.loop (.seq (.seq (.ops r96_3)
  (.cond (.t 33) .skip
  (.exit 0)))
  (.block 1 (.seq (.ops r96_4)
  (.seq (.drw r96_5)
  (.cond (.t 50) (.ops r96_6)
  (.ops r96_7))))))))
  (.seq (.seq (.ops r96_8)
  (.block 2 (.loop (.seq (.seq (.ops r96_9)
  (.cond (.t 58) .skip
  (.exit 2)))
  (.seq (.block 3 (.drw r96_10))
  (.ops r96_11))))))
  .ret))))
  .skip))
  (.seq (.seq (.ops r96_12)
  (.cond (.t 80) (.seq (.ops r96_13)
  (.seq (.ops r96_14)
  (.seq (.block 4 (.loop (.seq (.seq (.ops r96_15)
  (.cond (.t 85) .skip
  (.exit 4)))
  (.block 5 (.seq (.ops r96_16)
  (.seq (.drw r96_17)
  (.cond (.t 103) (.ops r96_18)
  (.ops r96_19))))))))
  (.seq (.seq (.ops r96_20)
  (.block 6 (.loop (.seq (.seq (.ops r96_21)
  (.cond (.t 110) .skip
  (.exit 6)))
  (.seq (.block 7 (.drw r96_22))
  (.ops r96_23))))))
  .ret))))
  .skip))
  (.seq (.ops r96_24)
  (.seq (.ops r96_25)
  (.seq (.ops r96_26)
  (.seq (.seq (.ops r96_27)
  (.cond (.t 140) (.seq (.ops r96_28)
  (.ops r96_29))
  (.seq (.ops r96_30)
  (.ops r96_31))))
  (.seq (.ops r96_32)
  (.seq (.block 8 (.loop (.seq (.seq (.ops r96_33)
  (.cond (.t 151) .skip
  (.exit 8)))
  (.block 9 (.seq (.ops r96_34)
  (.seq (.drw r96_35)
  (.cond (.t 171) (.ops r96_36)
  (.ops r96_37))))))))
  (.seq (.ops r96_38)
  (.seq (.seq (.ops r96_39)
  (.cond (.t 185) (.ops r96_40)
  .skip))
  (.seq (.seq (.ops r96_41)
  (.cond (.t 199) (.ops r96_42)
  .skip))
  (.seq (.ops r96_43)
  (.cond (.t 213) (.ops r96_44)
  .skip)))))))))))))⟩
set_option maxRecDepth 1000000 in
theorem t96 : trF Try.prog 96 = some c96 := by kernel_rfl
/-- regrater/regraterref21.Halves (0 w, 1 w, 4 hi, 5 lo, 6 i) -/
noncomputable def r97_0 : List AO := [⟨some 1, none, .box 153 128 (.t 0)⟩,
  ⟨some 2, none, .mv (.c (.it .i64 0))⟩,
  ⟨some 3, none, .mv (.c (.it .u64 0))⟩]
noncomputable def r97_1 : List AO := [⟨some 4, none, .mv (.c (.it .u64 0))⟩,
  ⟨some 5, none, .mv (.c (.it .u64 0))⟩]
noncomputable def r97_2 : List AO := [⟨some 6, none, .mv (.c (.it .i64 63))⟩]
noncomputable def r97_3 : List AO := [⟨some 7, none, .mv (.t 6)⟩,
  ⟨some 8, none, .bin .geq (.t 7) (.c (.it .i64 0))⟩]
noncomputable def r97_4 : List AO := [⟨some 11, none, .mv (.t 4)⟩,
  ⟨some 12, none, .bin .mul (.c (.it .u64 2)) (.t 11)⟩,
  ⟨some 13, none, .mv (.t 5)⟩,
  ⟨some 14, none, .bin .mul (.c (.it .u64 2)) (.t 13)⟩,
  ⟨some 4, none, .mv (.t 12)⟩,
  ⟨some 5, none, .mv (.t 14)⟩]
noncomputable def r97_5 : List AO := [⟨some 15, none, .mv (.t 6)⟩,
  ⟨some 16, none, .bin .add (.c (.it .i64 64)) (.t 15)⟩,
  ⟨some 17, none, .iada 128 1 (.t 1) (.t 16)⟩,
  ⟨some 18, none, .ld false 1 (.t 17)⟩]
noncomputable def r97_6 : List AO := [⟨some 19, none, .mv (.t 4)⟩,
  ⟨some 20, none, .bin .add (.t 19) (.c (.it .u64 1))⟩,
  ⟨some 4, none, .mv (.t 20)⟩]
noncomputable def r97_7 : List AO := [⟨some 21, none, .mv (.t 6)⟩,
  ⟨some 22, none, .iada 128 1 (.t 1) (.t 21)⟩,
  ⟨some 23, none, .ld false 1 (.t 22)⟩]
noncomputable def r97_8 : List AO := [⟨some 24, none, .mv (.t 5)⟩,
  ⟨some 25, none, .bin .add (.t 24) (.c (.it .u64 1))⟩,
  ⟨some 5, none, .mv (.t 25)⟩]
noncomputable def r97_9 : List AO := [⟨some 9, none, .mv (.t 6)⟩,
  ⟨some 10, none, .bin .sub (.t 9) (.c (.it .i64 1))⟩,
  ⟨some 6, none, .mv (.t 10)⟩]
noncomputable def r97_10 : List AO := [⟨some 26, none, .mv (.t 4)⟩,
  ⟨some 27, none, .cvi .i64 (.t 26)⟩,
  ⟨some 28, none, .mv (.t 5)⟩,
  ⟨some 2, none, .mv (.t 27)⟩,
  ⟨some 3, none, .mv (.t 28)⟩]
set_option maxRecDepth 1000000 in
noncomputable def c97 : AFn := ⟨29, [(2, none), (3, none)],
  (.seq (.ops r97_0)
  (.seq (.ops r97_1)
  (.seq (.seq (.ops r97_2)
  (.block 0 (.loop (.seq (.seq (.ops r97_3)
  (.cond (.t 8) .skip
  (.exit 0)))
  (.seq (.block 1 (.seq (.ops r97_4)
  (.seq (.seq (.ops r97_5)
  (.cond (.t 18) (.ops r97_6)
  .skip))
  (.seq (.ops r97_7)
  (.cond (.t 23) (.ops r97_8)
  .skip)))))
  (.ops r97_9))))))
  (.seq (.ops r97_10)
  .ret))))⟩
set_option maxRecDepth 1000000 in
theorem t97 : trF Try.prog 97 = some c97 := by kernel_rfl
/-- regrater/regraterref21.Plus (0 a, 1 b, 2 a, 3 b, 5 out, 6 carry, 7 i, 8 n) -/
noncomputable def r98_0 : List AO := [⟨some 2, none, .box 153 128 (.t 0)⟩,
  ⟨some 3, none, .box 153 128 (.t 1)⟩,
  ⟨some 4, none, .box 153 128 (.c (.agg [(.bl false), (.bl false), (.bl false), (.bl false), (.bl false), (.bl false), (.bl false), (.bl false), (.bl false), (.bl false), (.bl false), (.bl false), (.bl false), (.bl false), (.bl false), (.bl false), (.bl false), (.bl false), (.bl false), (.bl false), (.bl false), (.bl false), (.bl false), (.bl false), (.bl false), (.bl false), (.bl false), (.bl false), (.bl false), (.bl false), (.bl false), (.bl false), (.bl false), (.bl false), (.bl false), (.bl false), (.bl false), (.bl false), (.bl false), (.bl false), (.bl false), (.bl false), (.bl false), (.bl false), (.bl false), (.bl false), (.bl false), (.bl false), (.bl false), (.bl false), (.bl false), (.bl false), (.bl false), (.bl false), (.bl false), (.bl false), (.bl false), (.bl false), (.bl false), (.bl false), (.bl false), (.bl false), (.bl false), (.bl false), (.bl false), (.bl false), (.bl false), (.bl false), (.bl false), (.bl false), (.bl false), (.bl false), (.bl false), (.bl false), (.bl false), (.bl false), (.bl false), (.bl false), (.bl false), (.bl false), (.bl false), (.bl false), (.bl false), (.bl false), (.bl false), (.bl false), (.bl false), (.bl false), (.bl false), (.bl false), (.bl false), (.bl false), (.bl false), (.bl false), (.bl false), (.bl false), (.bl false), (.bl false), (.bl false), (.bl false), (.bl false), (.bl false), (.bl false), (.bl false), (.bl false), (.bl false), (.bl false), (.bl false), (.bl false), (.bl false), (.bl false), (.bl false), (.bl false), (.bl false), (.bl false), (.bl false), (.bl false), (.bl false), (.bl false), (.bl false), (.bl false), (.bl false), (.bl false), (.bl false), (.bl false), (.bl false), (.bl false), (.bl false)]))⟩]
noncomputable def r98_1 : List AO := [⟨some 5, none, .box 153 128 (.c (.agg [(.bl false), (.bl false), (.bl false), (.bl false), (.bl false), (.bl false), (.bl false), (.bl false), (.bl false), (.bl false), (.bl false), (.bl false), (.bl false), (.bl false), (.bl false), (.bl false), (.bl false), (.bl false), (.bl false), (.bl false), (.bl false), (.bl false), (.bl false), (.bl false), (.bl false), (.bl false), (.bl false), (.bl false), (.bl false), (.bl false), (.bl false), (.bl false), (.bl false), (.bl false), (.bl false), (.bl false), (.bl false), (.bl false), (.bl false), (.bl false), (.bl false), (.bl false), (.bl false), (.bl false), (.bl false), (.bl false), (.bl false), (.bl false), (.bl false), (.bl false), (.bl false), (.bl false), (.bl false), (.bl false), (.bl false), (.bl false), (.bl false), (.bl false), (.bl false), (.bl false), (.bl false), (.bl false), (.bl false), (.bl false), (.bl false), (.bl false), (.bl false), (.bl false), (.bl false), (.bl false), (.bl false), (.bl false), (.bl false), (.bl false), (.bl false), (.bl false), (.bl false), (.bl false), (.bl false), (.bl false), (.bl false), (.bl false), (.bl false), (.bl false), (.bl false), (.bl false), (.bl false), (.bl false), (.bl false), (.bl false), (.bl false), (.bl false), (.bl false), (.bl false), (.bl false), (.bl false), (.bl false), (.bl false), (.bl false), (.bl false), (.bl false), (.bl false), (.bl false), (.bl false), (.bl false), (.bl false), (.bl false), (.bl false), (.bl false), (.bl false), (.bl false), (.bl false), (.bl false), (.bl false), (.bl false), (.bl false), (.bl false), (.bl false), (.bl false), (.bl false), (.bl false), (.bl false), (.bl false), (.bl false), (.bl false), (.bl false), (.bl false), (.bl false)]))⟩]
noncomputable def r98_2 : List AO := [⟨some 6, none, .mv (.c (.it .i64 0))⟩]
noncomputable def r98_3 : List AO := [⟨some 7, none, .mv (.c (.it .i64 0))⟩]
noncomputable def r98_4 : List AO := [⟨some 9, none, .mv (.t 7)⟩,
  ⟨some 10, none, .bin .lss (.t 9) (.c (.it .i64 128))⟩]
noncomputable def r98_5 : List AO := [⟨some 13, none, .mv (.t 6)⟩,
  ⟨some 8, none, .mv (.t 13)⟩]
noncomputable def r98_6 : List AO := [⟨some 14, none, .mv (.t 7)⟩,
  ⟨some 15, none, .iada 128 1 (.t 2) (.t 14)⟩,
  ⟨some 16, none, .ld false 1 (.t 15)⟩]
noncomputable def r98_7 : List AO := [⟨some 17, none, .mv (.t 8)⟩,
  ⟨some 18, none, .bin .add (.t 17) (.c (.it .i64 1))⟩,
  ⟨some 8, none, .mv (.t 18)⟩]
noncomputable def r98_8 : List AO := [⟨some 19, none, .mv (.t 7)⟩,
  ⟨some 20, none, .iada 128 1 (.t 3) (.t 19)⟩,
  ⟨some 21, none, .ld false 1 (.t 20)⟩]
noncomputable def r98_9 : List AO := [⟨some 22, none, .mv (.t 8)⟩,
  ⟨some 23, none, .bin .add (.t 22) (.c (.it .i64 1))⟩,
  ⟨some 8, none, .mv (.t 23)⟩]
noncomputable def r98_10 : List AO := [⟨some 24, none, .mv (.t 7)⟩,
  ⟨some 25, none, .mv (.t 8)⟩,
  ⟨some 26, none, .bin .rem (.t 25) (.c (.it .i64 2))⟩,
  ⟨some 27, none, .eq false 1 (.t 26) (.c (.it .i64 1))⟩,
  ⟨some 28, none, .mv (.t 8)⟩,
  ⟨some 29, none, .bin .quo (.t 28) (.c (.it .i64 2))⟩,
  ⟨some 30, none, .iada 128 1 (.t 5) (.t 24)⟩,
  ⟨none, none, .sto 1 (.t 30) (.t 27)⟩,
  ⟨some 6, none, .mv (.t 29)⟩]
noncomputable def r98_11 : List AO := [⟨some 11, none, .mv (.t 7)⟩,
  ⟨some 12, none, .bin .add (.t 11) (.c (.it .i64 1))⟩,
  ⟨some 7, none, .mv (.t 12)⟩]
noncomputable def r98_12 : List AO := [⟨some 31, none, .ld true 128 (.t 5)⟩,
  ⟨none, none, .sto 128 (.t 4) (.t 31)⟩]
set_option maxRecDepth 1000000 in
noncomputable def c98 : AFn := ⟨32, [(4, some 128)],
  (.seq (.ops r98_0)
  (.seq (.ops r98_1)
  (.seq (.ops r98_2)
  (.seq (.seq (.ops r98_3)
  (.block 0 (.loop (.seq (.seq (.ops r98_4)
  (.cond (.t 10) .skip
  (.exit 0)))
  (.seq (.block 1 (.seq (.ops r98_5)
  (.seq (.seq (.ops r98_6)
  (.cond (.t 16) (.ops r98_7)
  .skip))
  (.seq (.seq (.ops r98_8)
  (.cond (.t 21) (.ops r98_9)
  .skip))
  (.ops r98_10)))))
  (.ops r98_11))))))
  (.seq (.ops r98_12)
  .ret)))))⟩
set_option maxRecDepth 1000000 in
theorem t98 : trF Try.prog 98 = some c98 := by kernel_rfl
/-- regrater/regraterref21.Of (0 hi, 1 lo, 2 hi, 3 lo, 5 w, 6 h, 7 i) -/
noncomputable def r99_0 : List AO := [⟨some 4, none, .box 153 128 (.c (.agg [(.bl false), (.bl false), (.bl false), (.bl false), (.bl false), (.bl false), (.bl false), (.bl false), (.bl false), (.bl false), (.bl false), (.bl false), (.bl false), (.bl false), (.bl false), (.bl false), (.bl false), (.bl false), (.bl false), (.bl false), (.bl false), (.bl false), (.bl false), (.bl false), (.bl false), (.bl false), (.bl false), (.bl false), (.bl false), (.bl false), (.bl false), (.bl false), (.bl false), (.bl false), (.bl false), (.bl false), (.bl false), (.bl false), (.bl false), (.bl false), (.bl false), (.bl false), (.bl false), (.bl false), (.bl false), (.bl false), (.bl false), (.bl false), (.bl false), (.bl false), (.bl false), (.bl false), (.bl false), (.bl false), (.bl false), (.bl false), (.bl false), (.bl false), (.bl false), (.bl false), (.bl false), (.bl false), (.bl false), (.bl false), (.bl false), (.bl false), (.bl false), (.bl false), (.bl false), (.bl false), (.bl false), (.bl false), (.bl false), (.bl false), (.bl false), (.bl false), (.bl false), (.bl false), (.bl false), (.bl false), (.bl false), (.bl false), (.bl false), (.bl false), (.bl false), (.bl false), (.bl false), (.bl false), (.bl false), (.bl false), (.bl false), (.bl false), (.bl false), (.bl false), (.bl false), (.bl false), (.bl false), (.bl false), (.bl false), (.bl false), (.bl false), (.bl false), (.bl false), (.bl false), (.bl false), (.bl false), (.bl false), (.bl false), (.bl false), (.bl false), (.bl false), (.bl false), (.bl false), (.bl false), (.bl false), (.bl false), (.bl false), (.bl false), (.bl false), (.bl false), (.bl false), (.bl false), (.bl false), (.bl false), (.bl false), (.bl false), (.bl false), (.bl false)]))⟩]
noncomputable def r99_1 : List AO := [⟨some 5, none, .box 153 128 (.c (.agg [(.bl false), (.bl false), (.bl false), (.bl false), (.bl false), (.bl false), (.bl false), (.bl false), (.bl false), (.bl false), (.bl false), (.bl false), (.bl false), (.bl false), (.bl false), (.bl false), (.bl false), (.bl false), (.bl false), (.bl false), (.bl false), (.bl false), (.bl false), (.bl false), (.bl false), (.bl false), (.bl false), (.bl false), (.bl false), (.bl false), (.bl false), (.bl false), (.bl false), (.bl false), (.bl false), (.bl false), (.bl false), (.bl false), (.bl false), (.bl false), (.bl false), (.bl false), (.bl false), (.bl false), (.bl false), (.bl false), (.bl false), (.bl false), (.bl false), (.bl false), (.bl false), (.bl false), (.bl false), (.bl false), (.bl false), (.bl false), (.bl false), (.bl false), (.bl false), (.bl false), (.bl false), (.bl false), (.bl false), (.bl false), (.bl false), (.bl false), (.bl false), (.bl false), (.bl false), (.bl false), (.bl false), (.bl false), (.bl false), (.bl false), (.bl false), (.bl false), (.bl false), (.bl false), (.bl false), (.bl false), (.bl false), (.bl false), (.bl false), (.bl false), (.bl false), (.bl false), (.bl false), (.bl false), (.bl false), (.bl false), (.bl false), (.bl false), (.bl false), (.bl false), (.bl false), (.bl false), (.bl false), (.bl false), (.bl false), (.bl false), (.bl false), (.bl false), (.bl false), (.bl false), (.bl false), (.bl false), (.bl false), (.bl false), (.bl false), (.bl false), (.bl false), (.bl false), (.bl false), (.bl false), (.bl false), (.bl false), (.bl false), (.bl false), (.bl false), (.bl false), (.bl false), (.bl false), (.bl false), (.bl false), (.bl false), (.bl false), (.bl false), (.bl false)]))⟩]
noncomputable def r99_2 : List AO := [⟨some 8, none, .mv (.t 0)⟩,
  ⟨some 9, none, .cvi .u64 (.t 8)⟩,
  ⟨some 6, none, .mv (.t 9)⟩]
noncomputable def r99_3 : List AO := [⟨some 7, none, .mv (.c (.it .i64 0))⟩]
noncomputable def r99_4 : List AO := [⟨some 10, none, .mv (.t 7)⟩,
  ⟨some 11, none, .bin .lss (.t 10) (.c (.it .i64 64))⟩]
noncomputable def r99_5 : List AO := [⟨some 14, none, .mv (.t 7)⟩,
  ⟨some 15, none, .mv (.t 7)⟩,
  ⟨some 16, none, .bin .add (.c (.it .i64 64)) (.t 15)⟩,
  ⟨some 17, none, .mv (.t 1)⟩,
  ⟨some 18, none, .bin .rem (.t 17) (.c (.it .u64 2))⟩,
  ⟨some 19, none, .eq false 1 (.t 18) (.c (.it .u64 1))⟩,
  ⟨some 20, none, .mv (.t 6)⟩,
  ⟨some 21, none, .bin .rem (.t 20) (.c (.it .u64 2))⟩,
  ⟨some 22, none, .eq false 1 (.t 21) (.c (.it .u64 1))⟩,
  ⟨some 23, none, .iada 128 1 (.t 5) (.t 14)⟩,
  ⟨none, none, .sto 1 (.t 23) (.t 19)⟩,
  ⟨some 24, none, .iada 128 1 (.t 5) (.t 16)⟩,
  ⟨none, none, .sto 1 (.t 24) (.t 22)⟩]
noncomputable def r99_6 : List AO := [⟨some 25, none, .mv (.t 1)⟩,
  ⟨some 26, none, .bin .quo (.t 25) (.c (.it .u64 2))⟩,
  ⟨some 1, none, .mv (.t 26)⟩]
noncomputable def r99_7 : List AO := [⟨some 27, none, .mv (.t 6)⟩,
  ⟨some 28, none, .bin .quo (.t 27) (.c (.it .u64 2))⟩,
  ⟨some 6, none, .mv (.t 28)⟩]
noncomputable def r99_8 : List AO := [⟨some 12, none, .mv (.t 7)⟩,
  ⟨some 13, none, .bin .add (.t 12) (.c (.it .i64 1))⟩,
  ⟨some 7, none, .mv (.t 13)⟩]
noncomputable def r99_9 : List AO := [⟨some 29, none, .ld true 128 (.t 5)⟩,
  ⟨none, none, .sto 128 (.t 4) (.t 29)⟩]
set_option maxRecDepth 1000000 in
noncomputable def c99 : AFn := ⟨30, [(4, some 128)],
  (.seq (.ops r99_0)
  (.seq (.ops r99_1)
  (.seq (.ops r99_2)
  (.seq (.seq (.ops r99_3)
  (.block 0 (.loop (.seq (.seq (.ops r99_4)
  (.cond (.t 11) .skip
  (.exit 0)))
  (.seq (.block 1 (.seq (.ops r99_5)
  (.seq (.ops r99_6)
  (.ops r99_7))))
  (.ops r99_8))))))
  (.seq (.ops r99_9)
  .ret)))))⟩
set_option maxRecDepth 1000000 in
theorem t99 : trF Try.prog 99 = some c99 := by kernel_rfl
/-- regrater/wide.number (0 s, 1 s, 3 n, 4 i) -/
noncomputable def r100_0 : List AO := [⟨some 2, none, .mv (.c (.it .u64 0))⟩]
noncomputable def r100_1 : List AO := [⟨some 3, none, .mv (.c (.it .u64 0))⟩]
noncomputable def r100_2 : List AO := [⟨some 5, none, .mv (.t 0)⟩,
  ⟨some 6, none, .lens (.t 5)⟩,
  ⟨some 7, none, .mv (.c (.it .i64 0))⟩]
noncomputable def r100_3 : List AO := [⟨some 8, none, .bin .lss (.t 7) (.t 6)⟩]
noncomputable def r100_4 : List AO := [⟨some 9, none, .mv (.t 7)⟩,
  ⟨some 4, none, .mv (.t 9)⟩]
noncomputable def r100_5 : List AO := [⟨some 10, none, .mv (.t 3)⟩,
  ⟨some 11, none, .bin .shl (.t 10) (.c (.it .u64 8))⟩,
  ⟨some 12, none, .mv (.t 0)⟩,
  ⟨some 13, none, .mv (.t 4)⟩,
  ⟨some 14, none, .idxs (.t 12) (.t 13)⟩,
  ⟨some 15, none, .cvi .u64 (.t 14)⟩,
  ⟨some 16, none, .bin .or (.t 11) (.t 15)⟩,
  ⟨some 3, none, .mv (.t 16)⟩]
noncomputable def r100_6 : List AO := [⟨some 17, none, .bin .add (.t 7) (.c (.it .i64 1))⟩,
  ⟨some 7, none, .mv (.t 17)⟩]
noncomputable def r100_7 : List AO := [⟨some 18, none, .mv (.t 3)⟩,
  ⟨some 2, none, .mv (.t 18)⟩]
set_option maxRecDepth 1000000 in
noncomputable def c100 : AFn := ⟨19, [(2, none)],
  (.seq (.ops r100_0)
  (.seq (.ops r100_1)
  (.seq (.seq (.ops r100_2)
  (.block 0 (.loop (.seq (.ops r100_3)
  (.seq (.cond (.t 8) .skip
  (.exit 0))
  (.seq (.block 1 (.seq (.ops r100_4)
  (.ops r100_5)))
  (.ops r100_6)))))))
  (.seq (.ops r100_7)
  .ret))))⟩
set_option maxRecDepth 1000000 in
theorem t100 : trF Try.prog 100 = some c100 := by kernel_rfl
/-- slices.AppendSeq[[]regrater/row.Row,regrater/row.Row] (0 s, 1 seq, 2 s, 3 seq, 5 v) -/
noncomputable def r101_0 : List AO := [⟨some 2, none, .box 24 1 (.t 0)⟩,
  ⟨some 4, none, .mv (.c (.sl true 0 []))⟩]
noncomputable def r101_1 : List AO := [⟨some 6, none, .mv (.t 1)⟩]
noncomputable def r101_2 : List AO := [⟨some 12, none, .ld false 1 (.t 2)⟩,
  ⟨some 4, none, .mv (.t 12)⟩]
set_option maxRecDepth 1000000 in
noncomputable def c101 : AFn := ⟨13, [(4, none)],
  (.seq (.ops r101_0)
  (.seq (.seq (.ops r101_1)
  (.block 0 (.rng 13 (.t 6) (rngX Try.prog 101 0).1 (rngX Try.prog 101 0).2.1 (rngX Try.prog 101 0).2.2)))
  (.seq (.ops r101_2)
  .ret)))⟩
set_option maxRecDepth 1000000 in
theorem t101 : trF Try.prog 101 = some c101 := by kernel_rfl
noncomputable def r101_0a_0 : List AO := [⟨some 5, none, .mv (.t 7)⟩]
noncomputable def c101_0a : ACode := (.ops r101_0a_0)
theorem t101_0a : trC Try.prog 13 (rngX Try.prog 101 0).2.1 = some c101_0a := by kernel_rfl
noncomputable def r101_0b_0 : List AO := [⟨some 8, none, .ld false 1 (.t 2)⟩,
  ⟨some 9, none, .mv (.t 5)⟩,
  ⟨some 10, none, .bsl 29 1 1 [(.sl true 0 [])] [(0, 1, (.t 9))]⟩,
  ⟨some 11, none, .app 29 1 24 (.t 8) (.t 10)⟩,
  ⟨none, none, .sto 1 (.t 2) (.t 11)⟩]
noncomputable def c101_0b : ACode := (.block 1 (.ops r101_0b_0))
theorem t101_0b : trC Try.prog 13 (rngX Try.prog 101 0).2.2 = some c101_0b := by kernel_rfl
/-- slices.stableCmpFunc[regrater/row.Row] (0 data, 1 n, 2 cmp, 3 data, 4 n, 5 cmp, 6 blockSize, 7 a, 8 b, 9 m) -/
noncomputable def r102_0 : List AO := [⟨some 6, none, .mv (.c (.it .i64 20))⟩]
noncomputable def r102_1 : List AO := [⟨some 10, none, .mv (.t 6)⟩,
  ⟨some 7, none, .mv (.c (.it .i64 0))⟩,
  ⟨some 8, none, .mv (.t 10)⟩]
noncomputable def r102_2 : List AO := [⟨some 11, none, .mv (.t 8)⟩,
  ⟨some 12, none, .mv (.t 1)⟩,
  ⟨some 13, none, .bin .leq (.t 11) (.t 12)⟩]
noncomputable def r102_3 : List AO := [⟨some 14, none, .mv (.t 0)⟩,
  ⟨some 15, none, .mv (.t 7)⟩,
  ⟨some 16, none, .mv (.t 8)⟩,
  ⟨some 17, none, .mv (.t 2)⟩,
  ⟨some 18, none, .call 104 [(.t 14), (.t 15), (.t 16), (.t 17)]⟩]
noncomputable def r102_4 : List AO := [⟨some 19, none, .mv (.t 8)⟩,
  ⟨some 7, none, .mv (.t 19)⟩]
noncomputable def r102_5 : List AO := [⟨some 20, none, .mv (.t 8)⟩,
  ⟨some 21, none, .mv (.t 6)⟩,
  ⟨some 22, none, .bin .add (.t 20) (.t 21)⟩,
  ⟨some 8, none, .mv (.t 22)⟩]
noncomputable def r102_6 : List AO := [⟨some 23, none, .mv (.t 0)⟩,
  ⟨some 24, none, .mv (.t 7)⟩,
  ⟨some 25, none, .mv (.t 1)⟩,
  ⟨some 26, none, .mv (.t 2)⟩,
  ⟨some 27, none, .call 104 [(.t 23), (.t 24), (.t 25), (.t 26)]⟩]
noncomputable def r102_7 : List AO := [⟨some 28, none, .mv (.t 6)⟩,
  ⟨some 29, none, .mv (.t 1)⟩,
  ⟨some 30, none, .bin .lss (.t 28) (.t 29)⟩]
noncomputable def r102_8 : List AO := [⟨some 31, none, .mv (.t 6)⟩,
  ⟨some 32, none, .bin .mul (.c (.it .i64 2)) (.t 31)⟩,
  ⟨some 7, none, .mv (.c (.it .i64 0))⟩,
  ⟨some 8, none, .mv (.t 32)⟩]
noncomputable def r102_9 : List AO := [⟨some 33, none, .mv (.t 8)⟩,
  ⟨some 34, none, .mv (.t 1)⟩,
  ⟨some 35, none, .bin .leq (.t 33) (.t 34)⟩]
noncomputable def r102_10 : List AO := [⟨some 36, none, .mv (.t 0)⟩,
  ⟨some 37, none, .mv (.t 7)⟩,
  ⟨some 38, none, .mv (.t 7)⟩,
  ⟨some 39, none, .mv (.t 6)⟩,
  ⟨some 40, none, .bin .add (.t 38) (.t 39)⟩,
  ⟨some 41, none, .mv (.t 8)⟩,
  ⟨some 42, none, .mv (.t 2)⟩,
  ⟨some 43, none, .call 105 [(.t 36), (.t 37), (.t 40), (.t 41), (.t 42)]⟩]
noncomputable def r102_11 : List AO := [⟨some 44, none, .mv (.t 8)⟩,
  ⟨some 7, none, .mv (.t 44)⟩]
noncomputable def r102_12 : List AO := [⟨some 45, none, .mv (.t 8)⟩,
  ⟨some 46, none, .mv (.t 6)⟩,
  ⟨some 47, none, .bin .mul (.c (.it .i64 2)) (.t 46)⟩,
  ⟨some 48, none, .bin .add (.t 45) (.t 47)⟩,
  ⟨some 8, none, .mv (.t 48)⟩]
noncomputable def r102_13 : List AO := [⟨some 49, none, .mv (.t 7)⟩,
  ⟨some 50, none, .mv (.t 6)⟩,
  ⟨some 51, none, .bin .add (.t 49) (.t 50)⟩,
  ⟨some 9, none, .mv (.t 51)⟩]
noncomputable def r102_14 : List AO := [⟨some 52, none, .mv (.t 9)⟩,
  ⟨some 53, none, .mv (.t 1)⟩,
  ⟨some 54, none, .bin .lss (.t 52) (.t 53)⟩]
noncomputable def r102_15 : List AO := [⟨some 55, none, .mv (.t 0)⟩,
  ⟨some 56, none, .mv (.t 7)⟩,
  ⟨some 57, none, .mv (.t 9)⟩,
  ⟨some 58, none, .mv (.t 1)⟩,
  ⟨some 59, none, .mv (.t 2)⟩,
  ⟨some 60, none, .call 105 [(.t 55), (.t 56), (.t 57), (.t 58), (.t 59)]⟩]
noncomputable def r102_16 : List AO := [⟨some 61, none, .mv (.t 6)⟩,
  ⟨some 62, none, .bin .mul (.t 61) (.c (.it .i64 2))⟩,
  ⟨some 6, none, .mv (.t 62)⟩]
set_option maxRecDepth 1000000 in
noncomputable def c102 : AFn := ⟨63, [],
  (.seq (.ops r102_0)
  (.seq (.ops r102_1)
  (.seq (.block 0 (.loop (.seq (.seq (.ops r102_2)
  (.cond (.t 13) .skip
  (.exit 0)))
  (.block 1 (.seq (.ops r102_3)
  (.seq (.ops r102_4)
  (.ops r102_5)))))))
  (.seq (.ops r102_6)
  (.block 2 (.loop (.seq (.seq (.ops r102_7)
  (.cond (.t 30) .skip
  (.exit 2)))
  (.block 3 (.seq (.ops r102_8)
  (.seq (.block 4 (.loop (.seq (.seq (.ops r102_9)
  (.cond (.t 35) .skip
  (.exit 4)))
  (.block 5 (.seq (.ops r102_10)
  (.seq (.ops r102_11)
  (.ops r102_12)))))))
  (.seq (.seq (.ops r102_13)
  (.seq (.ops r102_14)
  (.cond (.t 54) (.ops r102_15)
  .skip)))
  (.ops r102_16))))))))))))⟩
set_option maxRecDepth 1000000 in
theorem t102 : trF Try.prog 102 = some c102 := by kernel_rfl
/-- slices.rotateCmpFunc[regrater/agg.Group] (0 data, 1 a, 2 m, 3 b, 4 cmp, 5 data, 6 a, 7 m, 8 b, 9 cmp, 10 i, 11 j) -/
noncomputable def r103_0 : List AO := [⟨some 12, none, .mv (.t 2)⟩,
  ⟨some 13, none, .mv (.t 1)⟩,
  ⟨some 14, none, .bin .sub (.t 12) (.t 13)⟩,
  ⟨some 10, none, .mv (.t 14)⟩]
noncomputable def r103_1 : List AO := [⟨some 15, none, .mv (.t 3)⟩,
  ⟨some 16, none, .mv (.t 2)⟩,
  ⟨some 17, none, .bin .sub (.t 15) (.t 16)⟩,
  ⟨some 11, none, .mv (.t 17)⟩]
noncomputable def r103_2 : List AO := [⟨some 18, none, .mv (.t 10)⟩,
  ⟨some 19, none, .mv (.t 11)⟩,
  ⟨some 20, none, .eq true 1 (.t 18) (.t 19)⟩]
noncomputable def r103_3 : List AO := [⟨some 21, none, .mv (.t 10)⟩,
  ⟨some 22, none, .mv (.t 11)⟩,
  ⟨some 23, none, .bin .gtr (.t 21) (.t 22)⟩]
noncomputable def r103_4 : List AO := [⟨some 24, none, .mv (.t 0)⟩,
  ⟨some 25, none, .mv (.t 2)⟩,
  ⟨some 26, none, .mv (.t 10)⟩,
  ⟨some 27, none, .bin .sub (.t 25) (.t 26)⟩,
  ⟨some 28, none, .mv (.t 2)⟩,
  ⟨some 29, none, .mv (.t 11)⟩,
  ⟨some 30, none, .mv (.t 4)⟩,
  ⟨some 31, none, .call 106 [(.t 24), (.t 27), (.t 28), (.t 29), (.t 30)]⟩]
noncomputable def r103_5 : List AO := [⟨some 32, none, .mv (.t 10)⟩,
  ⟨some 33, none, .mv (.t 11)⟩,
  ⟨some 34, none, .bin .sub (.t 32) (.t 33)⟩,
  ⟨some 10, none, .mv (.t 34)⟩]
noncomputable def r103_6 : List AO := [⟨some 35, none, .mv (.t 0)⟩,
  ⟨some 36, none, .mv (.t 2)⟩,
  ⟨some 37, none, .mv (.t 10)⟩,
  ⟨some 38, none, .bin .sub (.t 36) (.t 37)⟩,
  ⟨some 39, none, .mv (.t 2)⟩,
  ⟨some 40, none, .mv (.t 11)⟩,
  ⟨some 41, none, .bin .add (.t 39) (.t 40)⟩,
  ⟨some 42, none, .mv (.t 10)⟩,
  ⟨some 43, none, .bin .sub (.t 41) (.t 42)⟩,
  ⟨some 44, none, .mv (.t 10)⟩,
  ⟨some 45, none, .mv (.t 4)⟩,
  ⟨some 46, none, .call 106 [(.t 35), (.t 38), (.t 43), (.t 44), (.t 45)]⟩]
noncomputable def r103_7 : List AO := [⟨some 47, none, .mv (.t 11)⟩,
  ⟨some 48, none, .mv (.t 10)⟩,
  ⟨some 49, none, .bin .sub (.t 47) (.t 48)⟩,
  ⟨some 11, none, .mv (.t 49)⟩]
noncomputable def r103_8 : List AO := [⟨some 50, none, .mv (.t 0)⟩,
  ⟨some 51, none, .mv (.t 2)⟩,
  ⟨some 52, none, .mv (.t 10)⟩,
  ⟨some 53, none, .bin .sub (.t 51) (.t 52)⟩,
  ⟨some 54, none, .mv (.t 2)⟩,
  ⟨some 55, none, .mv (.t 10)⟩,
  ⟨some 56, none, .mv (.t 4)⟩,
  ⟨some 57, none, .call 106 [(.t 50), (.t 53), (.t 54), (.t 55), (.t 56)]⟩]
set_option maxRecDepth 1000000 in
noncomputable def c103 : AFn := ⟨58, [],
  (.seq (.ops r103_0)
  (.seq (.ops r103_1)
  (.seq (.block 0 (.loop (.seq (.seq (.ops r103_2)
  (.cond (.t 20) .skip
  (.exit 0)))
  (.block 1 (.seq (.ops r103_3)
  (.cond (.t 23) (.seq (.ops r103_4)
  (.ops r103_5))
  (.seq (.ops r103_6)
  (.ops r103_7))))))))
  (.ops r103_8))))⟩
set_option maxRecDepth 1000000 in
theorem t103 : trF Try.prog 103 = some c103 := by kernel_rfl
/-- slices.insertionSortCmpFunc[regrater/row.Row] (0 data, 1 a, 2 b, 3 cmp, 4 data, 5 a, 6 b, 7 cmp, 8 i, 9 j) -/
noncomputable def r104_0 : List AO := [⟨some 10, none, .mv (.t 1)⟩,
  ⟨some 11, none, .bin .add (.t 10) (.c (.it .i64 1))⟩,
  ⟨some 8, none, .mv (.t 11)⟩]
noncomputable def r104_1 : List AO := [⟨some 12, none, .mv (.t 8)⟩,
  ⟨some 13, none, .mv (.t 2)⟩,
  ⟨some 14, none, .bin .lss (.t 12) (.t 13)⟩]
noncomputable def r104_2 : List AO := [⟨some 17, none, .mv (.t 8)⟩,
  ⟨some 9, none, .mv (.t 17)⟩]
noncomputable def r104_3 : List (AO × List Nat) := [(⟨some 18, none, .mv (.t 9)⟩, []),
  (⟨some 19, none, .mv (.t 1)⟩, []),
  (⟨some 20, none, .bin .gtr (.t 18) (.t 19)⟩, []),
  (⟨some 21, none, .mv (.t 20)⟩, []),
  (⟨some 22, some (21, true), .mv (.t 3)⟩, []),
  (⟨some 23, some (21, true), .mv (.t 0)⟩, []),
  (⟨some 24, some (21, true), .mv (.t 9)⟩, []),
  (⟨some 25, some (21, true), .iad 1 (.t 23) (.t 24)⟩, []),
  (⟨some 26, some (21, true), .ld false 1 (.t 25)⟩, []),
  (⟨some 27, some (21, true), .mv (.t 0)⟩, []),
  (⟨some 28, some (21, true), .mv (.t 9)⟩, []),
  (⟨some 29, some (21, true), .bin .sub (.t 28) (.c (.it .i64 1))⟩, []),
  (⟨some 30, some (21, true), .iad 1 (.t 27) (.t 29)⟩, []),
  (⟨some 31, some (21, true), .ld false 1 (.t 30)⟩, []),
  (⟨some 32, some (21, true), .calv (.t 22) [(.t 26), (.t 31)]⟩, []),
  (⟨some 33, some (21, true), .bin .lss (.t 32) (.c (.it .i64 0))⟩, []),
  (⟨some 34, none, .pick (.t 21) (.t 33) (.c (.bl false))⟩, [])]
noncomputable def r104_4 : List (AO × List Nat) := [(⟨some 37, none, .mv (.t 0)⟩, []),
  (⟨some 38, none, .mv (.t 9)⟩, []),
  (⟨some 39, none, .mv (.t 0)⟩, []),
  (⟨some 40, none, .mv (.t 9)⟩, []),
  (⟨some 41, none, .bin .sub (.t 40) (.c (.it .i64 1))⟩, []),
  (⟨some 42, none, .mv (.t 0)⟩, []),
  (⟨some 43, none, .mv (.t 9)⟩, []),
  (⟨some 44, none, .bin .sub (.t 43) (.c (.it .i64 1))⟩, []),
  (⟨some 45, none, .iad 1 (.t 42) (.t 44)⟩, []),
  (⟨some 46, none, .ld false 1 (.t 45)⟩, []),
  (⟨some 47, none, .mv (.t 0)⟩, []),
  (⟨some 48, none, .mv (.t 9)⟩, []),
  (⟨some 49, none, .iad 1 (.t 47) (.t 48)⟩, []),
  (⟨some 50, none, .ld false 1 (.t 49)⟩, []),
  (⟨some 51, none, .iad 1 (.t 37) (.t 38)⟩, []),
  (⟨none, none, .sto 1 (.t 51) (.t 46)⟩, [2, 3, 4]),
  (⟨some 52, none, .iad 1 (.t 39) (.t 41)⟩, []),
  (⟨none, none, .sto 1 (.t 52) (.t 50)⟩, [])]
noncomputable def r104_5 : List AO := [⟨some 35, none, .mv (.t 9)⟩,
  ⟨some 36, none, .bin .sub (.t 35) (.c (.it .i64 1))⟩,
  ⟨some 9, none, .mv (.t 36)⟩]
noncomputable def r104_6 : List AO := [⟨some 15, none, .mv (.t 8)⟩,
  ⟨some 16, none, .bin .add (.t 15) (.c (.it .i64 1))⟩,
  ⟨some 8, none, .mv (.t 16)⟩]
set_option maxRecDepth 1000000 in
noncomputable def c104 : AFn := ⟨53, [],
  (.seq (.ops r104_0)
  (.block 0 (.loop (.seq (.seq (.ops r104_1)
  (.cond (.t 14) .skip
  (.exit 0)))
  (.seq (.block 1 (.seq (.ops r104_2)
  (.block 2 (.loop (.seq (.seq (.drw r104_3)
  (.cond (.t 34) .skip
  (.exit 2)))
  (.seq (.block 3 (.drw r104_4))
  (.ops r104_5)))))))
  (.ops r104_6))))))⟩
set_option maxRecDepth 1000000 in
theorem t104 : trF Try.prog 104 = some c104 := by kernel_rfl
/-- slices.symMergeCmpFunc[regrater/row.Row] (0 data, 1 a, 2 m, 3 b, 4 cmp, 5 data, 6 a, 7 m, 8 b, 9 cmp, 10 i, 11 j, 12 h, 13 k, 14 i, 15 j, 16 h, 17 k, 18 mid, 19 n, 20 start, 21 r, 22 p, 23 c, 24 end) -/
noncomputable def r105_0 : List AO := [⟨some 25, none, .mv (.t 2)⟩,
  ⟨some 26, none, .mv (.t 1)⟩,
  ⟨some 27, none, .bin .sub (.t 25) (.t 26)⟩,
  ⟨some 28, none, .eq false 1 (.t 27) (.c (.it .i64 1))⟩]
noncomputable def r105_1 : List AO := [⟨some 29, none, .mv (.t 2)⟩,
  ⟨some 10, none, .mv (.t 29)⟩]
noncomputable def r105_2 : List AO := [⟨some 30, none, .mv (.t 3)⟩,
  ⟨some 11, none, .mv (.t 30)⟩]
noncomputable def r105_3 : List AO := [⟨some 31, none, .mv (.t 10)⟩,
  ⟨some 32, none, .mv (.t 11)⟩,
  ⟨some 33, none, .bin .lss (.t 31) (.t 32)⟩]
noncomputable def r105_4 : List AO := [⟨some 34, none, .mv (.t 10)⟩,
  ⟨some 35, none, .mv (.t 11)⟩,
  ⟨some 36, none, .bin .add (.t 34) (.t 35)⟩,
  ⟨some 37, none, .cvi .u64 (.t 36)⟩,
  ⟨some 38, none, .bin .shr (.t 37) (.c (.it .u64 1))⟩,
  ⟨some 39, none, .cvi .i64 (.t 38)⟩,
  ⟨some 12, none, .mv (.t 39)⟩]
noncomputable def r105_5 : List (AO × List Nat) := [(⟨some 40, none, .mv (.t 4)⟩, []),
  (⟨some 41, none, .mv (.t 0)⟩, []),
  (⟨some 42, none, .mv (.t 12)⟩, []),
  (⟨some 43, none, .iad 1 (.t 41) (.t 42)⟩, []),
  (⟨some 44, none, .ld false 1 (.t 43)⟩, []),
  (⟨some 45, none, .mv (.t 0)⟩, []),
  (⟨some 46, none, .mv (.t 1)⟩, []),
  (⟨some 47, none, .iad 1 (.t 45) (.t 46)⟩, []),
  (⟨some 48, none, .ld false 1 (.t 47)⟩, []),
  (⟨some 49, none, .calv (.t 40) [(.t 44), (.t 48)]⟩, []),
  (⟨some 50, none, .bin .lss (.t 49) (.c (.it .i64 0))⟩, [])]
noncomputable def r105_6 : List AO := [⟨some 51, none, .mv (.t 12)⟩,
  ⟨some 52, none, .bin .add (.t 51) (.c (.it .i64 1))⟩,
  ⟨some 10, none, .mv (.t 52)⟩]
noncomputable def r105_7 : List AO := [⟨some 53, none, .mv (.t 12)⟩,
  ⟨some 11, none, .mv (.t 53)⟩]
noncomputable def r105_8 : List AO := [⟨some 54, none, .mv (.t 1)⟩,
  ⟨some 13, none, .mv (.t 54)⟩]
noncomputable def r105_9 : List AO := [⟨some 55, none, .mv (.t 13)⟩,
  ⟨some 56, none, .mv (.t 10)⟩,
  ⟨some 57, none, .bin .sub (.t 56) (.c (.it .i64 1))⟩,
  ⟨some 58, none, .bin .lss (.t 55) (.t 57)⟩]
noncomputable def r105_10 : List (AO × List Nat) := [(⟨some 61, none, .mv (.t 0)⟩, []),
  (⟨some 62, none, .mv (.t 13)⟩, []),
  (⟨some 63, none, .mv (.t 0)⟩, []),
  (⟨some 64, none, .mv (.t 13)⟩, []),
  (⟨some 65, none, .bin .add (.t 64) (.c (.it .i64 1))⟩, []),
  (⟨some 66, none, .mv (.t 0)⟩, []),
  (⟨some 67, none, .mv (.t 13)⟩, []),
  (⟨some 68, none, .bin .add (.t 67) (.c (.it .i64 1))⟩, []),
  (⟨some 69, none, .iad 1 (.t 66) (.t 68)⟩, []),
  (⟨some 70, none, .ld false 1 (.t 69)⟩, []),
  (⟨some 71, none, .mv (.t 0)⟩, []),
  (⟨some 72, none, .mv (.t 13)⟩, []),
  (⟨some 73, none, .iad 1 (.t 71) (.t 72)⟩, []),
  (⟨some 74, none, .ld false 1 (.t 73)⟩, []),
  (⟨some 75, none, .iad 1 (.t 61) (.t 62)⟩, []),
  (⟨none, none, .sto 1 (.t 75) (.t 70)⟩, [2, 3, 4]),
  (⟨some 76, none, .iad 1 (.t 63) (.t 65)⟩, []),
  (⟨none, none, .sto 1 (.t 76) (.t 74)⟩, [])]
noncomputable def r105_11 : List AO := [⟨some 59, none, .mv (.t 13)⟩,
  ⟨some 60, none, .bin .add (.t 59) (.c (.it .i64 1))⟩,
  ⟨some 13, none, .mv (.t 60)⟩]
noncomputable def r105_12 : List AO := [⟨some 77, none, .mv (.t 3)⟩,
  ⟨some 78, none, .mv (.t 2)⟩,
  ⟨some 79, none, .bin .sub (.t 77) (.t 78)⟩,
  ⟨some 80, none, .eq false 1 (.t 79) (.c (.it .i64 1))⟩]
noncomputable def r105_13 : List AO := [⟨some 81, none, .mv (.t 1)⟩,
  ⟨some 14, none, .mv (.t 81)⟩]
noncomputable def r105_14 : List AO := [⟨some 82, none, .mv (.t 2)⟩,
  ⟨some 15, none, .mv (.t 82)⟩]
noncomputable def r105_15 : List AO := [⟨some 83, none, .mv (.t 14)⟩,
  ⟨some 84, none, .mv (.t 15)⟩,
  ⟨some 85, none, .bin .lss (.t 83) (.t 84)⟩]
noncomputable def r105_16 : List AO := [⟨some 86, none, .mv (.t 14)⟩,
  ⟨some 87, none, .mv (.t 15)⟩,
  ⟨some 88, none, .bin .add (.t 86) (.t 87)⟩,
  ⟨some 89, none, .cvi .u64 (.t 88)⟩,
  ⟨some 90, none, .bin .shr (.t 89) (.c (.it .u64 1))⟩,
  ⟨some 91, none, .cvi .i64 (.t 90)⟩,
  ⟨some 16, none, .mv (.t 91)⟩]
noncomputable def r105_17 : List (AO × List Nat) := [(⟨some 92, none, .mv (.t 4)⟩, []),
  (⟨some 93, none, .mv (.t 0)⟩, []),
  (⟨some 94, none, .mv (.t 2)⟩, []),
  (⟨some 95, none, .iad 1 (.t 93) (.t 94)⟩, []),
  (⟨some 96, none, .ld false 1 (.t 95)⟩, []),
  (⟨some 97, none, .mv (.t 0)⟩, []),
  (⟨some 98, none, .mv (.t 16)⟩, []),
  (⟨some 99, none, .iad 1 (.t 97) (.t 98)⟩, []),
  (⟨some 100, none, .ld false 1 (.t 99)⟩, []),
  (⟨some 101, none, .calv (.t 92) [(.t 96), (.t 100)]⟩, []),
  (⟨some 102, none, .bin .lss (.t 101) (.c (.it .i64 0))⟩, []),
  (⟨some 103, none, .un .not (.t 102)⟩, [])]
noncomputable def r105_18 : List AO := [⟨some 104, none, .mv (.t 16)⟩,
  ⟨some 105, none, .bin .add (.t 104) (.c (.it .i64 1))⟩,
  ⟨some 14, none, .mv (.t 105)⟩]
noncomputable def r105_19 : List AO := [⟨some 106, none, .mv (.t 16)⟩,
  ⟨some 15, none, .mv (.t 106)⟩]
noncomputable def r105_20 : List AO := [⟨some 107, none, .mv (.t 2)⟩,
  ⟨some 17, none, .mv (.t 107)⟩]
noncomputable def r105_21 : List AO := [⟨some 108, none, .mv (.t 17)⟩,
  ⟨some 109, none, .mv (.t 14)⟩,
  ⟨some 110, none, .bin .gtr (.t 108) (.t 109)⟩]
noncomputable def r105_22 : List (AO × List Nat) := [(⟨some 113, none, .mv (.t 0)⟩, []),
  (⟨some 114, none, .mv (.t 17)⟩, []),
  (⟨some 115, none, .mv (.t 0)⟩, []),
  (⟨some 116, none, .mv (.t 17)⟩, []),
  (⟨some 117, none, .bin .sub (.t 116) (.c (.it .i64 1))⟩, []),
  (⟨some 118, none, .mv (.t 0)⟩, []),
  (⟨some 119, none, .mv (.t 17)⟩, []),
  (⟨some 120, none, .bin .sub (.t 119) (.c (.it .i64 1))⟩, []),
  (⟨some 121, none, .iad 1 (.t 118) (.t 120)⟩, []),
  (⟨some 122, none, .ld false 1 (.t 121)⟩, []),
  (⟨some 123, none, .mv (.t 0)⟩, []),
  (⟨some 124, none, .mv (.t 17)⟩, []),
  (⟨some 125, none, .iad 1 (.t 123) (.t 124)⟩, []),
  (⟨some 126, none, .ld false 1 (.t 125)⟩, []),
  (⟨some 127, none, .iad 1 (.t 113) (.t 114)⟩, []),
  (⟨none, none, .sto 1 (.t 127) (.t 122)⟩, [2, 3, 4]),
  (⟨some 128, none, .iad 1 (.t 115) (.t 117)⟩, []),
  (⟨none, none, .sto 1 (.t 128) (.t 126)⟩, [])]
noncomputable def r105_23 : List AO := [⟨some 111, none, .mv (.t 17)⟩,
  ⟨some 112, none, .bin .sub (.t 111) (.c (.it .i64 1))⟩,
  ⟨some 17, none, .mv (.t 112)⟩]
noncomputable def r105_24 : List AO := [⟨some 129, none, .mv (.t 1)⟩,
  ⟨some 130, none, .mv (.t 3)⟩,
  ⟨some 131, none, .bin .add (.t 129) (.t 130)⟩,
  ⟨some 132, none, .cvi .u64 (.t 131)⟩,
  ⟨some 133, none, .bin .shr (.t 132) (.c (.it .u64 1))⟩,
  ⟨some 134, none, .cvi .i64 (.t 133)⟩,
  ⟨some 18, none, .mv (.t 134)⟩]
noncomputable def r105_25 : List AO := [⟨some 135, none, .mv (.t 18)⟩,
  ⟨some 136, none, .mv (.t 2)⟩,
  ⟨some 137, none, .bin .add (.t 135) (.t 136)⟩,
  ⟨some 19, none, .mv (.t 137)⟩]
noncomputable def r105_26 : List AO := [⟨some 20, none, .mv (.c (.it .i64 0))⟩,
  ⟨some 21, none, .mv (.c (.it .i64 0))⟩]
noncomputable def r105_27 : List AO := [⟨some 138, none, .mv (.t 2)⟩,
  ⟨some 139, none, .mv (.t 18)⟩,
  ⟨some 140, none, .bin .gtr (.t 138) (.t 139)⟩]
noncomputable def r105_28 : List AO := [⟨some 141, none, .mv (.t 19)⟩,
  ⟨some 142, none, .mv (.t 3)⟩,
  ⟨some 143, none, .bin .sub (.t 141) (.t 142)⟩,
  ⟨some 20, none, .mv (.t 143)⟩]
noncomputable def r105_29 : List AO := [⟨some 144, none, .mv (.t 18)⟩,
  ⟨some 21, none, .mv (.t 144)⟩]
noncomputable def r105_30 : List AO := [⟨some 145, none, .mv (.t 1)⟩,
  ⟨some 20, none, .mv (.t 145)⟩]
noncomputable def r105_31 : List AO := [⟨some 146, none, .mv (.t 2)⟩,
  ⟨some 21, none, .mv (.t 146)⟩]
noncomputable def r105_32 : List AO := [⟨some 147, none, .mv (.t 19)⟩,
  ⟨some 148, none, .bin .sub (.t 147) (.c (.it .i64 1))⟩,
  ⟨some 22, none, .mv (.t 148)⟩]
noncomputable def r105_33 : List AO := [⟨some 149, none, .mv (.t 20)⟩,
  ⟨some 150, none, .mv (.t 21)⟩,
  ⟨some 151, none, .bin .lss (.t 149) (.t 150)⟩]
noncomputable def r105_34 : List AO := [⟨some 152, none, .mv (.t 20)⟩,
  ⟨some 153, none, .mv (.t 21)⟩,
  ⟨some 154, none, .bin .add (.t 152) (.t 153)⟩,
  ⟨some 155, none, .cvi .u64 (.t 154)⟩,
  ⟨some 156, none, .bin .shr (.t 155) (.c (.it .u64 1))⟩,
  ⟨some 157, none, .cvi .i64 (.t 156)⟩,
  ⟨some 23, none, .mv (.t 157)⟩]
noncomputable def r105_35 : List (AO × List Nat) := [(⟨some 158, none, .mv (.t 4)⟩, []),
  (⟨some 159, none, .mv (.t 0)⟩, []),
  (⟨some 160, none, .mv (.t 22)⟩, []),
  (⟨some 161, none, .mv (.t 23)⟩, []),
  (⟨some 162, none, .bin .sub (.t 160) (.t 161)⟩, []),
  (⟨some 163, none, .iad 1 (.t 159) (.t 162)⟩, []),
  (⟨some 164, none, .ld false 1 (.t 163)⟩, []),
  (⟨some 165, none, .mv (.t 0)⟩, []),
  (⟨some 166, none, .mv (.t 23)⟩, []),
  (⟨some 167, none, .iad 1 (.t 165) (.t 166)⟩, []),
  (⟨some 168, none, .ld false 1 (.t 167)⟩, []),
  (⟨some 169, none, .calv (.t 158) [(.t 164), (.t 168)]⟩, []),
  (⟨some 170, none, .bin .lss (.t 169) (.c (.it .i64 0))⟩, []),
  (⟨some 171, none, .un .not (.t 170)⟩, [])]
noncomputable def r105_36 : List AO := [⟨some 172, none, .mv (.t 23)⟩,
  ⟨some 173, none, .bin .add (.t 172) (.c (.it .i64 1))⟩,
  ⟨some 20, none, .mv (.t 173)⟩]
noncomputable def r105_37 : List AO := [⟨some 174, none, .mv (.t 23)⟩,
  ⟨some 21, none, .mv (.t 174)⟩]
noncomputable def r105_38 : List AO := [⟨some 175, none, .mv (.t 19)⟩,
  ⟨some 176, none, .mv (.t 20)⟩,
  ⟨some 177, none, .bin .sub (.t 175) (.t 176)⟩,
  ⟨some 24, none, .mv (.t 177)⟩]
noncomputable def r105_39 : List AO := [⟨some 178, none, .mv (.t 20)⟩,
  ⟨some 179, none, .mv (.t 2)⟩,
  ⟨some 180, none, .bin .lss (.t 178) (.t 179)⟩,
  ⟨some 181, none, .mv (.t 180)⟩,
  ⟨some 182, some (181, true), .mv (.t 2)⟩,
  ⟨some 183, some (181, true), .mv (.t 24)⟩,
  ⟨some 184, some (181, true), .bin .lss (.t 182) (.t 183)⟩,
  ⟨some 185, none, .pick (.t 181) (.t 184) (.c (.bl false))⟩]
noncomputable def r105_40 : List AO := [⟨some 186, none, .mv (.t 0)⟩,
  ⟨some 187, none, .mv (.t 20)⟩,
  ⟨some 188, none, .mv (.t 2)⟩,
  ⟨some 189, none, .mv (.t 24)⟩,
  ⟨some 190, none, .mv (.t 4)⟩,
  ⟨some 191, none, .call 107 [(.t 186), (.t 187), (.t 188), (.t 189), (.t 190)]⟩]
noncomputable def r105_41 : List AO := [⟨some 192, none, .mv (.t 1)⟩,
  ⟨some 193, none, .mv (.t 20)⟩,
  ⟨some 194, none, .bin .lss (.t 192) (.t 193)⟩,
  ⟨some 195, none, .mv (.t 194)⟩,
  ⟨some 196, some (195, true), .mv (.t 20)⟩,
  ⟨some 197, some (195, true), .mv (.t 18)⟩,
  ⟨some 198, some (195, true), .bin .lss (.t 196) (.t 197)⟩,
  ⟨some 199, none, .pick (.t 195) (.t 198) (.c (.bl false))⟩]
noncomputable def r105_42 : List AO := [⟨some 200, none, .mv (.t 0)⟩,
  ⟨some 201, none, .mv (.t 1)⟩,
  ⟨some 202, none, .mv (.t 20)⟩,
  ⟨some 203, none, .mv (.t 18)⟩,
  ⟨some 204, none, .mv (.t 4)⟩,
  ⟨some 205, none, .call 105 [(.t 200), (.t 201), (.t 202), (.t 203), (.t 204)]⟩]
noncomputable def r105_43 : List AO := [⟨some 206, none, .mv (.t 18)⟩,
  ⟨some 207, none, .mv (.t 24)⟩,
  ⟨some 208, none, .bin .lss (.t 206) (.t 207)⟩,
  ⟨some 209, none, .mv (.t 208)⟩,
  ⟨some 210, some (209, true), .mv (.t 24)⟩,
  ⟨some 211, some (209, true), .mv (.t 3)⟩,
  ⟨some 212, some (209, true), .bin .lss (.t 210) (.t 211)⟩,
  ⟨some 213, none, .pick (.t 209) (.t 212) (.c (.bl false))⟩]
noncomputable def r105_44 : List AO := [⟨some 214, none, .mv (.t 0)⟩,
  ⟨some 215, none, .mv (.t 18)⟩,
  ⟨some 216, none, .mv (.t 24)⟩,
  ⟨some 217, none, .mv (.t 3)⟩,
  ⟨some 218, none, .mv (.t 4)⟩,
  ⟨some 219, none, .call 105 [(.t 214), (.t 215), (.t 216), (.t 217), (.t 218)]⟩]
set_option maxRecDepth 1000000 in
noncomputable def c105 : AFn := ⟨220, [],
  (.seq (.seq (.ops r105_0)
  (.cond (.t 28) (.seq (.ops r105_1)
  (.seq (.ops r105_2)
  (.seq (.block 0 (.loop (.seq (.seq (.ops r105_3)
  (.cond (.t 33) .skip
  (.exit 0)))
  (.block 1 (.seq (.ops r105_4)
  (.seq (.drw r105_5)
  (.cond (.t 50) (.ops r105_6)
  (.ops r105_7))))))))
  (.seq (.seq (.ops r105_8)
  (.block 2 (.loop (.seq (.seq (.ops r105_9)
  (.cond (.t 58) .skip
  (.exit 2)))
  (.seq (.block 3 (.drw r105_10))
  (.ops r105_11))))))
  .ret))))
  .skip))
  (.seq (.seq (.ops r105_12)
  (.cond (.t 80) (.seq (.ops r105_13)
  (.seq (.ops r105_14)
  (.seq (.block 4 (.loop (.seq (.seq (.ops r105_15)
  (.cond (.t 85) .skip
  (.exit 4)))
  (.block 5 (.seq (.ops r105_16)
  (.seq (.drw r105_17)
  (.cond (.t 103) (.ops r105_18)
  (.ops r105_19))))))))
  (.seq (.seq (.ops r105_20)
  (.block 6 (.loop (.seq (.seq (.ops r105_21)
  (.cond (.t 110) .skip
  (.exit 6)))
  (.seq (.block 7 (.drw r105_22))
  (.ops r105_23))))))
  .ret))))
  .skip))
  (.seq (.ops r105_24)
  (.seq (.ops r105_25)
  (.seq (.ops r105_26)
  (.seq (.seq (.ops r105_27)
  (.cond (.t 140) (.seq (.ops r105_28)
  (.ops r105_29))
  (.seq (.ops r105_30)
  (.ops r105_31))))
  (.seq (.ops r105_32)
  (.seq (.block 8 (.loop (.seq (.seq (.ops r105_33)
  (.cond (.t 151) .skip
  (.exit 8)))
  (.block 9 (.seq (.ops r105_34)
  (.seq (.drw r105_35)
  (.cond (.t 171) (.ops r105_36)
  (.ops r105_37))))))))
  (.seq (.ops r105_38)
  (.seq (.seq (.ops r105_39)
  (.cond (.t 185) (.ops r105_40)
  .skip))
  (.seq (.seq (.ops r105_41)
  (.cond (.t 199) (.ops r105_42)
  .skip))
  (.seq (.ops r105_43)
  (.cond (.t 213) (.ops r105_44)
  .skip)))))))))))))⟩
set_option maxRecDepth 1000000 in
theorem t105 : trF Try.prog 105 = some c105 := by kernel_rfl
/-- slices.swapRangeCmpFunc[regrater/agg.Group] (0 data, 1 a, 2 b, 3 n, 4 cmp, 5 data, 6 a, 7 b, 8 n, 9 cmp, 10 i) -/
noncomputable def r106_0 : List AO := [⟨some 10, none, .mv (.c (.it .i64 0))⟩]
noncomputable def r106_1 : List AO := [⟨some 11, none, .mv (.t 10)⟩,
  ⟨some 12, none, .mv (.t 3)⟩,
  ⟨some 13, none, .bin .lss (.t 11) (.t 12)⟩]
noncomputable def r106_2 : List (AO × List Nat) := [(⟨some 16, none, .mv (.t 0)⟩, []),
  (⟨some 17, none, .mv (.t 1)⟩, []),
  (⟨some 18, none, .mv (.t 10)⟩, []),
  (⟨some 19, none, .bin .add (.t 17) (.t 18)⟩, []),
  (⟨some 20, none, .mv (.t 0)⟩, []),
  (⟨some 21, none, .mv (.t 2)⟩, []),
  (⟨some 22, none, .mv (.t 10)⟩, []),
  (⟨some 23, none, .bin .add (.t 21) (.t 22)⟩, []),
  (⟨some 24, none, .mv (.t 0)⟩, []),
  (⟨some 25, none, .mv (.t 2)⟩, []),
  (⟨some 26, none, .mv (.t 10)⟩, []),
  (⟨some 27, none, .bin .add (.t 25) (.t 26)⟩, []),
  (⟨some 28, none, .iad 3 (.t 24) (.t 27)⟩, []),
  (⟨some 29, none, .ld true 3 (.t 28)⟩, []),
  (⟨some 30, none, .mv (.t 0)⟩, []),
  (⟨some 31, none, .mv (.t 1)⟩, []),
  (⟨some 32, none, .mv (.t 10)⟩, []),
  (⟨some 33, none, .bin .add (.t 31) (.t 32)⟩, []),
  (⟨some 34, none, .iad 3 (.t 30) (.t 33)⟩, []),
  (⟨some 35, none, .ld true 3 (.t 34)⟩, []),
  (⟨some 36, none, .iad 3 (.t 16) (.t 19)⟩, []),
  (⟨none, none, .sto 3 (.t 36) (.t 29)⟩, [4, 5, 6, 7]),
  (⟨some 37, none, .iad 3 (.t 20) (.t 23)⟩, []),
  (⟨none, none, .sto 3 (.t 37) (.t 35)⟩, [])]
noncomputable def r106_3 : List AO := [⟨some 14, none, .mv (.t 10)⟩,
  ⟨some 15, none, .bin .add (.t 14) (.c (.it .i64 1))⟩,
  ⟨some 10, none, .mv (.t 15)⟩]
set_option maxRecDepth 1000000 in
noncomputable def c106 : AFn := ⟨38, [],
  (.seq (.ops r106_0)
  (.block 0 (.loop (.seq (.seq (.ops r106_1)
  (.cond (.t 13) .skip
  (.exit 0)))
  (.seq (.block 1 (.drw r106_2))
  (.ops r106_3))))))⟩
set_option maxRecDepth 1000000 in
theorem t106 : trF Try.prog 106 = some c106 := by kernel_rfl
/-- slices.rotateCmpFunc[regrater/row.Row] (0 data, 1 a, 2 m, 3 b, 4 cmp, 5 data, 6 a, 7 m, 8 b, 9 cmp, 10 i, 11 j) -/
noncomputable def r107_0 : List AO := [⟨some 12, none, .mv (.t 2)⟩,
  ⟨some 13, none, .mv (.t 1)⟩,
  ⟨some 14, none, .bin .sub (.t 12) (.t 13)⟩,
  ⟨some 10, none, .mv (.t 14)⟩]
noncomputable def r107_1 : List AO := [⟨some 15, none, .mv (.t 3)⟩,
  ⟨some 16, none, .mv (.t 2)⟩,
  ⟨some 17, none, .bin .sub (.t 15) (.t 16)⟩,
  ⟨some 11, none, .mv (.t 17)⟩]
noncomputable def r107_2 : List AO := [⟨some 18, none, .mv (.t 10)⟩,
  ⟨some 19, none, .mv (.t 11)⟩,
  ⟨some 20, none, .eq true 1 (.t 18) (.t 19)⟩]
noncomputable def r107_3 : List AO := [⟨some 21, none, .mv (.t 10)⟩,
  ⟨some 22, none, .mv (.t 11)⟩,
  ⟨some 23, none, .bin .gtr (.t 21) (.t 22)⟩]
noncomputable def r107_4 : List AO := [⟨some 24, none, .mv (.t 0)⟩,
  ⟨some 25, none, .mv (.t 2)⟩,
  ⟨some 26, none, .mv (.t 10)⟩,
  ⟨some 27, none, .bin .sub (.t 25) (.t 26)⟩,
  ⟨some 28, none, .mv (.t 2)⟩,
  ⟨some 29, none, .mv (.t 11)⟩,
  ⟨some 30, none, .mv (.t 4)⟩,
  ⟨some 31, none, .call 108 [(.t 24), (.t 27), (.t 28), (.t 29), (.t 30)]⟩]
noncomputable def r107_5 : List AO := [⟨some 32, none, .mv (.t 10)⟩,
  ⟨some 33, none, .mv (.t 11)⟩,
  ⟨some 34, none, .bin .sub (.t 32) (.t 33)⟩,
  ⟨some 10, none, .mv (.t 34)⟩]
noncomputable def r107_6 : List AO := [⟨some 35, none, .mv (.t 0)⟩,
  ⟨some 36, none, .mv (.t 2)⟩,
  ⟨some 37, none, .mv (.t 10)⟩,
  ⟨some 38, none, .bin .sub (.t 36) (.t 37)⟩,
  ⟨some 39, none, .mv (.t 2)⟩,
  ⟨some 40, none, .mv (.t 11)⟩,
  ⟨some 41, none, .bin .add (.t 39) (.t 40)⟩,
  ⟨some 42, none, .mv (.t 10)⟩,
  ⟨some 43, none, .bin .sub (.t 41) (.t 42)⟩,
  ⟨some 44, none, .mv (.t 10)⟩,
  ⟨some 45, none, .mv (.t 4)⟩,
  ⟨some 46, none, .call 108 [(.t 35), (.t 38), (.t 43), (.t 44), (.t 45)]⟩]
noncomputable def r107_7 : List AO := [⟨some 47, none, .mv (.t 11)⟩,
  ⟨some 48, none, .mv (.t 10)⟩,
  ⟨some 49, none, .bin .sub (.t 47) (.t 48)⟩,
  ⟨some 11, none, .mv (.t 49)⟩]
noncomputable def r107_8 : List AO := [⟨some 50, none, .mv (.t 0)⟩,
  ⟨some 51, none, .mv (.t 2)⟩,
  ⟨some 52, none, .mv (.t 10)⟩,
  ⟨some 53, none, .bin .sub (.t 51) (.t 52)⟩,
  ⟨some 54, none, .mv (.t 2)⟩,
  ⟨some 55, none, .mv (.t 10)⟩,
  ⟨some 56, none, .mv (.t 4)⟩,
  ⟨some 57, none, .call 108 [(.t 50), (.t 53), (.t 54), (.t 55), (.t 56)]⟩]
set_option maxRecDepth 1000000 in
noncomputable def c107 : AFn := ⟨58, [],
  (.seq (.ops r107_0)
  (.seq (.ops r107_1)
  (.seq (.block 0 (.loop (.seq (.seq (.ops r107_2)
  (.cond (.t 20) .skip
  (.exit 0)))
  (.block 1 (.seq (.ops r107_3)
  (.cond (.t 23) (.seq (.ops r107_4)
  (.ops r107_5))
  (.seq (.ops r107_6)
  (.ops r107_7))))))))
  (.ops r107_8))))⟩
set_option maxRecDepth 1000000 in
theorem t107 : trF Try.prog 107 = some c107 := by kernel_rfl
/-- slices.swapRangeCmpFunc[regrater/row.Row] (0 data, 1 a, 2 b, 3 n, 4 cmp, 5 data, 6 a, 7 b, 8 n, 9 cmp, 10 i) -/
noncomputable def r108_0 : List AO := [⟨some 10, none, .mv (.c (.it .i64 0))⟩]
noncomputable def r108_1 : List AO := [⟨some 11, none, .mv (.t 10)⟩,
  ⟨some 12, none, .mv (.t 3)⟩,
  ⟨some 13, none, .bin .lss (.t 11) (.t 12)⟩]
noncomputable def r108_2 : List (AO × List Nat) := [(⟨some 16, none, .mv (.t 0)⟩, []),
  (⟨some 17, none, .mv (.t 1)⟩, []),
  (⟨some 18, none, .mv (.t 10)⟩, []),
  (⟨some 19, none, .bin .add (.t 17) (.t 18)⟩, []),
  (⟨some 20, none, .mv (.t 0)⟩, []),
  (⟨some 21, none, .mv (.t 2)⟩, []),
  (⟨some 22, none, .mv (.t 10)⟩, []),
  (⟨some 23, none, .bin .add (.t 21) (.t 22)⟩, []),
  (⟨some 24, none, .mv (.t 0)⟩, []),
  (⟨some 25, none, .mv (.t 2)⟩, []),
  (⟨some 26, none, .mv (.t 10)⟩, []),
  (⟨some 27, none, .bin .add (.t 25) (.t 26)⟩, []),
  (⟨some 28, none, .iad 1 (.t 24) (.t 27)⟩, []),
  (⟨some 29, none, .ld false 1 (.t 28)⟩, []),
  (⟨some 30, none, .mv (.t 0)⟩, []),
  (⟨some 31, none, .mv (.t 1)⟩, []),
  (⟨some 32, none, .mv (.t 10)⟩, []),
  (⟨some 33, none, .bin .add (.t 31) (.t 32)⟩, []),
  (⟨some 34, none, .iad 1 (.t 30) (.t 33)⟩, []),
  (⟨some 35, none, .ld false 1 (.t 34)⟩, []),
  (⟨some 36, none, .iad 1 (.t 16) (.t 19)⟩, []),
  (⟨none, none, .sto 1 (.t 36) (.t 29)⟩, [4, 5, 6, 7]),
  (⟨some 37, none, .iad 1 (.t 20) (.t 23)⟩, []),
  (⟨none, none, .sto 1 (.t 37) (.t 35)⟩, [])]
noncomputable def r108_3 : List AO := [⟨some 14, none, .mv (.t 10)⟩,
  ⟨some 15, none, .bin .add (.t 14) (.c (.it .i64 1))⟩,
  ⟨some 10, none, .mv (.t 15)⟩]
set_option maxRecDepth 1000000 in
noncomputable def c108 : AFn := ⟨38, [],
  (.seq (.ops r108_0)
  (.block 0 (.loop (.seq (.seq (.ops r108_1)
  (.cond (.t 13) .skip
  (.exit 0)))
  (.seq (.block 1 (.drw r108_2))
  (.ops r108_3))))))⟩
set_option maxRecDepth 1000000 in
theorem t108 : trF Try.prog 108 = some c108 := by kernel_rfl
end Go.Proofs.Ytkmehmgocelkiaa
