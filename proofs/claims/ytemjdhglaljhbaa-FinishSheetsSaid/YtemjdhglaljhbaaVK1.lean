/- The functions' code as steps. Printed by genpieces.py out of the translation. -/
import Derived.Test.YtemjdhglaljhbaaVT
import Derived.KernelRfl
namespace Go.Proofs.Ytemjdhglaljhbaa
open Go.V
set_option maxRecDepth 100000
set_option linter.unusedSimpArgs false

/-! ### function 33: boule/bouleref09.Proves -/
abbrev s33_0 : List Stp := [⟨none, some 3, .box 37 (.tmp 0)⟩,
  ⟨none, some 4, .box 60 (.tmp 1)⟩,
  ⟨none, some 6, .assign (.const (.bool false))⟩]
abbrev s33_1 : List Stp := [⟨none, some 15, .fieldAddr 60 (.tmp 4) 1⟩,
  ⟨none, some 16, .load 30 (.tmp 15)⟩,
  ⟨none, some 17, .call ⟨.builtin .len, #[.tmp 16], #[30]⟩⟩,
  ⟨none, some 18, .fieldAddr 60 (.tmp 4) 2⟩,
  ⟨none, some 19, .load 30 (.tmp 18)⟩,
  ⟨none, some 20, .call ⟨.builtin .len, #[.tmp 19], #[30]⟩⟩,
  ⟨none, some 21, .binOp .neq 3 (.tmp 17) (.tmp 20) 3⟩,
  ⟨none, some 22, .move (.tmp 21)⟩,
  ⟨some (22, false), some 23, .fieldAddr 60 (.tmp 4) 1⟩,
  ⟨some (22, false), some 24, .load 30 (.tmp 23)⟩,
  ⟨some (22, false), some 25, .call ⟨.builtin .len, #[.tmp 24], #[30]⟩⟩,
  ⟨some (22, false), some 26, .binOp .gtr 3 (.tmp 25) (.const (.int .i64 36)) 3⟩,
  ⟨none, some 27, .pick (.tmp 22) (.const (.bool true)) (.tmp 26)⟩,
  ⟨none, some 28, .move (.tmp 27)⟩,
  ⟨some (28, false), some 29, .fieldAddr 60 (.tmp 4) 0⟩,
  ⟨some (28, false), some 30, .load 49 (.tmp 29)⟩,
  ⟨some (28, false), some 31, .call ⟨.value (.func 70), #[.tmp 30], #[49]⟩⟩,
  ⟨some (28, false), some 32, .unOp .not 4 (.tmp 31)⟩,
  ⟨none, some 33, .pick (.tmp 28) (.const (.bool true)) (.tmp 32)⟩]
abbrev s33_2 : List Stp := [⟨none, some 6, .assign (.const (.bool false))⟩]
abbrev s33_3 : List Stp := [⟨none, some 7, .assign (.const (.int .i64 0))⟩,
  ⟨none, some 8, .assign (.const (.int .i64 0))⟩,
  ⟨none, some 9, .assign (.const (.int .i64 0))⟩,
  ⟨none, some 10, .assign (.const (.int .i64 0))⟩,
  ⟨none, some 11, .assign (.const (.int .i64 0))⟩]
abbrev s33_4 : List Stp := [⟨none, some 12, .assign (.const (.int .i64 0))⟩]
abbrev s33_5 : List Stp := [⟨none, some 34, .move (.tmp 12)⟩,
  ⟨none, some 35, .fieldAddr 60 (.tmp 4) 1⟩,
  ⟨none, some 36, .load 30 (.tmp 35)⟩,
  ⟨none, some 37, .call ⟨.builtin .len, #[.tmp 36], #[30]⟩⟩,
  ⟨none, some 38, .binOp .lss 3 (.tmp 34) (.tmp 37) 3⟩]
abbrev s33_7 : List Stp := [⟨none, some 41, .fieldAddr 60 (.tmp 4) 1⟩,
  ⟨none, some 42, .load 30 (.tmp 41)⟩,
  ⟨none, some 43, .move (.tmp 12)⟩,
  ⟨none, some 44, .indexAddr 30 (.tmp 42) (.tmp 43)⟩,
  ⟨none, some 45, .load 3 (.tmp 44)⟩,
  ⟨none, some 46, .fieldAddr 60 (.tmp 4) 2⟩,
  ⟨none, some 47, .load 30 (.tmp 46)⟩,
  ⟨none, some 48, .move (.tmp 12)⟩,
  ⟨none, some 49, .indexAddr 30 (.tmp 47) (.tmp 48)⟩,
  ⟨none, some 50, .load 3 (.tmp 49)⟩,
  ⟨none, some 13, .assign (.tmp 45)⟩,
  ⟨none, some 14, .assign (.tmp 50)⟩]
abbrev s33_8 : List Stp := [⟨none, some 51, .move (.tmp 13)⟩,
  ⟨none, some 52, .binOp .lss 3 (.tmp 51) (.const (.int .i64 0)) 3⟩,
  ⟨none, some 53, .move (.tmp 52)⟩,
  ⟨some (53, false), some 54, .move (.tmp 13)⟩,
  ⟨some (53, false), some 55, .fieldAddr 37 (.tmp 3) 3⟩,
  ⟨some (53, false), some 56, .load 35 (.tmp 55)⟩,
  ⟨some (53, false), some 57, .call ⟨.builtin .len, #[.tmp 56], #[35]⟩⟩,
  ⟨some (53, false), some 58, .binOp .geq 3 (.tmp 54) (.tmp 57) 3⟩,
  ⟨none, some 59, .pick (.tmp 53) (.const (.bool true)) (.tmp 58)⟩,
  ⟨none, some 60, .move (.tmp 59)⟩,
  ⟨some (60, false), some 61, .move (.tmp 12)⟩,
  ⟨some (60, false), some 62, .binOp .gtr 3 (.tmp 61) (.const (.int .i64 0)) 3⟩,
  ⟨some (60, false), some 63, .move (.tmp 62)⟩,
  ⟨some (63, true), some 64, .fieldAddr 60 (.tmp 4) 1⟩,
  ⟨some (63, true), some 65, .load 30 (.tmp 64)⟩,
  ⟨some (63, true), some 66, .move (.tmp 12)⟩,
  ⟨some (63, true), some 67, .binOp .sub 3 (.tmp 66) (.const (.int .i64 1)) 3⟩,
  ⟨some (63, true), some 68, .indexAddr 30 (.tmp 65) (.tmp 67)⟩,
  ⟨some (63, true), some 69, .load 3 (.tmp 68)⟩,
  ⟨some (63, true), some 70, .move (.tmp 13)⟩,
  ⟨some (63, true), some 71, .binOp .geq 3 (.tmp 69) (.tmp 70) 3⟩,
  ⟨some (60, false), some 72, .pick (.tmp 63) (.tmp 71) (.const (.bool false))⟩,
  ⟨none, some 73, .pick (.tmp 60) (.const (.bool true)) (.tmp 72)⟩,
  ⟨none, some 74, .move (.tmp 73)⟩,
  ⟨some (74, false), some 75, .move (.tmp 14)⟩,
  ⟨some (74, false), some 76, .binOp .lss 3 (.tmp 75) (.const (.int .i64 (-1000000))) 3⟩,
  ⟨none, some 77, .pick (.tmp 74) (.const (.bool true)) (.tmp 76)⟩,
  ⟨none, some 78, .move (.tmp 77)⟩,
  ⟨some (78, false), some 79, .move (.tmp 14)⟩,
  ⟨some (78, false), some 80, .binOp .gtr 3 (.tmp 79) (.const (.int .i64 1000000)) 3⟩,
  ⟨none, some 81, .pick (.tmp 78) (.const (.bool true)) (.tmp 80)⟩,
  ⟨none, some 82, .move (.tmp 81)⟩,
  ⟨some (82, false), some 83, .move (.tmp 14)⟩,
  ⟨some (82, false), some 84, .binOp .eql 3 (.tmp 83) (.const (.int .i64 0)) 3⟩,
  ⟨none, some 85, .pick (.tmp 82) (.const (.bool true)) (.tmp 84)⟩]
abbrev s33_9 : List Stp := [⟨none, some 6, .assign (.const (.bool false))⟩]
abbrev s33_10 : List Stp := [⟨none, some 86, .move (.tmp 7)⟩,
  ⟨none, some 87, .move (.tmp 14)⟩,
  ⟨none, some 88, .binOp .add 3 (.tmp 86) (.tmp 87) 3⟩,
  ⟨none, some 89, .move (.tmp 8)⟩,
  ⟨none, some 90, .move (.tmp 14)⟩,
  ⟨none, some 91, .move (.tmp 13)⟩,
  ⟨none, some 92, .fieldAddr 37 (.tmp 3) 0⟩,
  ⟨none, some 93, .load 3 (.tmp 92)⟩,
  ⟨none, some 94, .binOp .rem 3 (.tmp 91) (.tmp 93) 3⟩,
  ⟨none, some 95, .binOp .mul 3 (.tmp 90) (.tmp 94) 3⟩,
  ⟨none, some 96, .binOp .add 3 (.tmp 89) (.tmp 95) 3⟩,
  ⟨none, some 97, .move (.tmp 9)⟩,
  ⟨none, some 98, .move (.tmp 14)⟩,
  ⟨none, some 99, .move (.tmp 13)⟩,
  ⟨none, some 100, .fieldAddr 37 (.tmp 3) 0⟩,
  ⟨none, some 101, .load 3 (.tmp 100)⟩,
  ⟨none, some 102, .binOp .quo 3 (.tmp 99) (.tmp 101) 3⟩,
  ⟨none, some 103, .binOp .mul 3 (.tmp 98) (.tmp 102) 3⟩,
  ⟨none, some 104, .binOp .add 3 (.tmp 97) (.tmp 103) 3⟩,
  ⟨none, some 105, .move (.tmp 10)⟩,
  ⟨none, some 106, .move (.tmp 14)⟩,
  ⟨none, some 107, .move (.tmp 14)⟩,
  ⟨none, some 108, .unOp .neg 3 (.tmp 107)⟩,
  ⟨none, some 109, .call ⟨.builtin .max, #[.tmp 106, .tmp 108], #[3, 3]⟩⟩,
  ⟨none, some 110, .binOp .add 3 (.tmp 105) (.tmp 109) 3⟩,
  ⟨none, some 7, .assign (.tmp 88)⟩,
  ⟨none, some 8, .assign (.tmp 96)⟩,
  ⟨none, some 9, .assign (.tmp 104)⟩,
  ⟨none, some 10, .assign (.tmp 110)⟩]
abbrev s33_11 : List Stp := [⟨none, some 111, .move (.tmp 2)⟩,
  ⟨none, some 112, .move (.tmp 14)⟩,
  ⟨none, some 113, .binOp .gtr 3 (.tmp 112) (.const (.int .i64 0)) 3⟩,
  ⟨none, some 114, .binOp .eql 4 (.tmp 111) (.tmp 113) 4⟩]
abbrev s33_12 : List Stp := [⟨none, some 115, .move (.tmp 11)⟩,
  ⟨none, some 116, .move (.tmp 14)⟩,
  ⟨none, some 117, .fieldAddr 37 (.tmp 3) 3⟩,
  ⟨none, some 118, .load 35 (.tmp 117)⟩,
  ⟨none, some 119, .move (.tmp 13)⟩,
  ⟨none, some 120, .indexAddr 35 (.tmp 118) (.tmp 119)⟩,
  ⟨none, some 121, .fieldAddr 24 (.tmp 120) 1⟩,
  ⟨none, some 122, .load 3 (.tmp 121)⟩,
  ⟨none, some 123, .binOp .mul 3 (.tmp 116) (.tmp 122) 3⟩,
  ⟨none, some 124, .binOp .add 3 (.tmp 115) (.tmp 123) 3⟩,
  ⟨none, some 11, .assign (.tmp 124)⟩]
abbrev s33_13 : List Stp := [⟨none, some 125, .move (.tmp 11)⟩,
  ⟨none, some 126, .move (.tmp 14)⟩,
  ⟨none, some 127, .fieldAddr 37 (.tmp 3) 3⟩,
  ⟨none, some 128, .load 35 (.tmp 127)⟩,
  ⟨none, some 129, .move (.tmp 13)⟩,
  ⟨none, some 130, .indexAddr 35 (.tmp 128) (.tmp 129)⟩,
  ⟨none, some 131, .fieldAddr 24 (.tmp 130) 0⟩,
  ⟨none, some 132, .load 3 (.tmp 131)⟩,
  ⟨none, some 133, .binOp .mul 3 (.tmp 126) (.tmp 132) 3⟩,
  ⟨none, some 134, .binOp .add 3 (.tmp 125) (.tmp 133) 3⟩,
  ⟨none, some 11, .assign (.tmp 134)⟩]
abbrev s33_6 : List Stp := [⟨none, some 39, .move (.tmp 12)⟩,
  ⟨none, some 40, .binOp .add 3 (.tmp 39) (.const (.int .i64 1)) 3⟩,
  ⟨none, some 12, .assign (.tmp 40)⟩]
abbrev l33_0 : Sk := .seq (.seq (.reg 5 false s33_5) (.cond (.tmp 38) .skip (.exit 0))) (.seq (.block 1 (.seq (.reg 7 true s33_7) (.seq (.seq (.reg 8 false s33_8) (.cond (.tmp 85) (.seq (.reg 9 false s33_9) .ret) .skip)) (.seq (.reg 10 true s33_10) (.seq (.reg 11 false s33_11) (.cond (.tmp 114) (.reg 12 false s33_12) (.reg 13 false s33_13))))))) (.reg 6 false s33_6))
abbrev s33_14 : List Stp := [⟨none, some 135, .fieldAddr 60 (.tmp 4) 1⟩,
  ⟨none, some 136, .load 30 (.tmp 135)⟩,
  ⟨none, some 137, .call ⟨.builtin .len, #[.tmp 136], #[30]⟩⟩,
  ⟨none, some 138, .binOp .eql 3 (.tmp 137) (.const (.int .i64 0)) 3⟩]
abbrev s33_15 : List Stp := [⟨none, some 139, .fieldAddr 60 (.tmp 4) 0⟩,
  ⟨none, some 140, .fieldAddr 49 (.tmp 139) 0⟩,
  ⟨none, some 141, .load 3 (.tmp 140)⟩,
  ⟨none, some 142, .binOp .eql 3 (.tmp 141) (.const (.int .i64 0)) 3⟩,
  ⟨none, some 6, .assign (.tmp 142)⟩]
abbrev s33_16 : List Stp := [⟨none, some 143, .move (.tmp 7)⟩,
  ⟨none, some 144, .binOp .eql 3 (.tmp 143) (.const (.int .i64 0)) 3⟩,
  ⟨none, some 145, .move (.tmp 144)⟩,
  ⟨some (145, true), some 146, .move (.tmp 8)⟩,
  ⟨some (145, true), some 147, .binOp .eql 3 (.tmp 146) (.const (.int .i64 0)) 3⟩,
  ⟨none, some 148, .pick (.tmp 145) (.tmp 147) (.const (.bool false))⟩,
  ⟨none, some 149, .move (.tmp 148)⟩,
  ⟨some (149, true), some 150, .move (.tmp 9)⟩,
  ⟨some (149, true), some 151, .binOp .eql 3 (.tmp 150) (.const (.int .i64 0)) 3⟩,
  ⟨none, some 152, .pick (.tmp 149) (.tmp 151) (.const (.bool false))⟩,
  ⟨none, some 153, .move (.tmp 152)⟩,
  ⟨some (153, true), some 154, .move (.tmp 11)⟩,
  ⟨some (153, true), some 155, .move (.tmp 10)⟩,
  ⟨some (153, true), some 156, .fieldAddr 60 (.tmp 4) 0⟩,
  ⟨some (153, true), some 157, .fieldAddr 49 (.tmp 156) 0⟩,
  ⟨some (153, true), some 158, .load 3 (.tmp 157)⟩,
  ⟨some (153, true), some 159, .fieldAddr 60 (.tmp 4) 0⟩,
  ⟨some (153, true), some 160, .fieldAddr 49 (.tmp 159) 1⟩,
  ⟨some (153, true), some 161, .load 3 (.tmp 160)⟩,
  ⟨some (153, true), some 162, .call ⟨.value (.func 71), #[.tmp 154, .tmp 155, .tmp 158, .tmp 161], #[3, 3, 3, 3]⟩⟩,
  ⟨some (153, true), some 163, .binOp .eql 3 (.tmp 162) (.const (.int .i64 0)) 3⟩,
  ⟨none, some 164, .pick (.tmp 153) (.tmp 163) (.const (.bool false))⟩,
  ⟨none, some 6, .assign (.tmp 164)⟩]
abbrev k33 : Sk := .seq (.reg 0 false s33_0) (.seq (.seq (.reg 1 false s33_1) (.cond (.tmp 33) (.seq (.reg 2 false s33_2) .ret) .skip)) (.seq (.reg 3 false s33_3) (.seq (.seq (.reg 4 false s33_4) (.block 0 (.loop l33_0))) (.seq (.seq (.reg 14 false s33_14) (.cond (.tmp 138) (.seq (.reg 15 false s33_15) .ret) .skip)) (.seq (.reg 16 false s33_16) .ret)))))
theorem sk33 : (Try.f33.body.bind (skOf 165)) = some k33 := by kernel_rfl
theorem en33 {ys : Yls} {p0 p1 p2 : X} {S : St} {Q : Va → St → Bool → Prop} (h : ∀ R : St, S.n = R.n → S.h = R.h → R.lo = R.n → @Wp EE 33 ys false k33 [.x p0, .x p1, .x p2, .u, .u, .u, .u, .u, .u, .u, .u, .u, .u, .u, .u, .u, .u, .u, .u, .u, .u, .u, .u, .u, .u, .u, .u, .u, .u, .u, .u, .u, .u, .u, .u, .u, .u, .u, .u, .u, .u, .u, .u, .u, .u, .u, .u, .u, .u, .u, .u, .u, .u, .u, .u, .u, .u, .u, .u, .u, .u, .u, .u, .u, .u, .u, .u, .u, .u, .u, .u, .u, .u, .u, .u, .u, .u, .u, .u, .u, .u, .u, .u, .u, .u, .u, .u, .u, .u, .u, .u, .u, .u, .u, .u, .u, .u, .u, .u, .u, .u, .u, .u, .u, .u, .u, .u, .u, .u, .u, .u, .u, .u, .u, .u, .u, .u, .u, .u, .u, .u, .u, .u, .u, .u, .u, .u, .u, .u, .u, .u, .u, .u, .u, .u, .u, .u, .u, .u, .u, .u, .u, .u, .u, .u, .u, .u, .u, .u, .u, .u, .u, .u, .u, .u, .u, .u, .u, .u, .u, .u, .u, .u, .u, .u] (ext R []) ⟨exitQ EE [.tmp 6] S Q⟩) : ∃ r, res EE ys (.f 33) [p0, p1, p2] S = some r ∧ Q r.1 r.2.1 r.2.2 :=
  enter rfl (by kernel_rfl) sk33 (by kernel_rfl) (by kernel_rfl) ⟨rfl, by simp⟩ h

/-! ### function 34: boule/finish.Proves -/
abbrev s34_0 : List Stp := [⟨none, some 3, .box 37 (.tmp 0)⟩,
  ⟨none, some 4, .box 60 (.tmp 1)⟩,
  ⟨none, some 6, .assign (.const (.bool false))⟩,
  ⟨none, some 7, .assign (.const (.int .i64 0))⟩]
abbrev s34_1 : List Stp := [⟨none, some 21, .load 37 (.tmp 3)⟩,
  ⟨none, some 22, .call ⟨.value (.func 21), #[.tmp 21], #[37]⟩⟩,
  ⟨none, some 23, .binOp .neq 28 (.tmp 22) (.const (.int .i64 0)) 28⟩]
abbrev s34_2 : List Stp := [⟨none, some 6, .assign (.const (.bool false))⟩,
  ⟨none, some 7, .assign (.const (.int .i64 2))⟩]
abbrev s34_3 : List Stp := [⟨none, some 25, .fieldAddr 60 (.tmp 4) 0⟩,
  ⟨none, some 26, .load 49 (.tmp 25)⟩,
  ⟨none, some 27, .fieldAddr 60 (.tmp 4) 0⟩,
  ⟨none, some 28, .load 49 (.tmp 27)⟩,
  ⟨none, some 29, .call ⟨.value (.func 45), #[.tmp 26, .tmp 28], #[49, 49]⟩⟩,
  ⟨none, some 24, .move (.tmp 29)⟩,
  ⟨none, some 30, .extract (.tmp 24) 0⟩,
  ⟨none, some 31, .extract (.tmp 24) 1⟩,
  ⟨none, some 8, .assign (.tmp 30)⟩,
  ⟨none, some 9, .assign (.tmp 31)⟩]
abbrev s34_4 : List Stp := [⟨none, some 32, .move (.tmp 9)⟩,
  ⟨none, some 33, .binOp .neq 28 (.tmp 32) (.const (.int .i64 0)) 28⟩,
  ⟨none, some 34, .move (.tmp 33)⟩,
  ⟨some (34, false), some 35, .fieldAddr 60 (.tmp 4) 1⟩,
  ⟨some (34, false), some 36, .load 30 (.tmp 35)⟩,
  ⟨some (34, false), some 37, .call ⟨.builtin .len, #[.tmp 36], #[30]⟩⟩,
  ⟨some (34, false), some 38, .fieldAddr 60 (.tmp 4) 2⟩,
  ⟨some (34, false), some 39, .load 30 (.tmp 38)⟩,
  ⟨some (34, false), some 40, .call ⟨.builtin .len, #[.tmp 39], #[30]⟩⟩,
  ⟨some (34, false), some 41, .binOp .neq 3 (.tmp 37) (.tmp 40) 3⟩,
  ⟨none, some 42, .pick (.tmp 34) (.const (.bool true)) (.tmp 41)⟩,
  ⟨none, some 43, .move (.tmp 42)⟩,
  ⟨some (43, false), some 44, .fieldAddr 60 (.tmp 4) 1⟩,
  ⟨some (43, false), some 45, .load 30 (.tmp 44)⟩,
  ⟨some (43, false), some 46, .call ⟨.builtin .len, #[.tmp 45], #[30]⟩⟩,
  ⟨some (43, false), some 47, .fieldAddr 37 (.tmp 3) 3⟩,
  ⟨some (43, false), some 48, .load 35 (.tmp 47)⟩,
  ⟨some (43, false), some 49, .call ⟨.builtin .len, #[.tmp 48], #[35]⟩⟩,
  ⟨some (43, false), some 50, .binOp .gtr 3 (.tmp 46) (.tmp 49) 3⟩,
  ⟨none, some 51, .pick (.tmp 43) (.const (.bool true)) (.tmp 50)⟩]
abbrev s34_5 : List Stp := [⟨none, some 6, .assign (.const (.bool false))⟩,
  ⟨none, some 7, .assign (.const (.int .i64 0))⟩]
abbrev s34_6 : List Stp := [⟨none, some 52, .fieldAddr 60 (.tmp 4) 1⟩,
  ⟨none, some 53, .load 30 (.tmp 52)⟩,
  ⟨none, some 54, .call ⟨.builtin .len, #[.tmp 53], #[30]⟩⟩,
  ⟨none, some 55, .binOp .eql 3 (.tmp 54) (.const (.int .i64 0)) 3⟩]
abbrev s34_7 : List Stp := [⟨none, some 56, .fieldAddr 60 (.tmp 4) 0⟩,
  ⟨none, some 57, .fieldAddr 49 (.tmp 56) 0⟩,
  ⟨none, some 58, .load 3 (.tmp 57)⟩,
  ⟨none, some 59, .binOp .eql 3 (.tmp 58) (.const (.int .i64 0)) 3⟩,
  ⟨none, some 6, .assign (.tmp 59)⟩,
  ⟨none, some 7, .assign (.const (.int .i64 0))⟩]
abbrev s34_8 : List Stp := [⟨none, some 10, .alloc 148⟩]
abbrev s34_9 : List Stp := [⟨none, some 11, .assign (.const (.int .i64 0))⟩,
  ⟨none, some 12, .assign (.const (.int .i64 0))⟩,
  ⟨none, some 13, .assign (.const (.int .i64 (-1)))⟩]
abbrev s34_10 : List Stp := [⟨none, some 60, .fieldAddr 60 (.tmp 4) 1⟩,
  ⟨none, some 61, .load 30 (.tmp 60)⟩,
  ⟨none, some 62, .call ⟨.builtin .len, #[.tmp 61], #[30]⟩⟩,
  ⟨none, some 63, .move (.const (.int .i64 0))⟩]
abbrev s34_11 : List Stp := [⟨none, some 64, .binOp .lss 3 (.tmp 63) (.tmp 62) 3⟩]
abbrev s34_12 : List Stp := [⟨none, some 65, .move (.tmp 63)⟩,
  ⟨none, some 66, .indexAddr 30 (.tmp 61) (.tmp 63)⟩,
  ⟨none, some 67, .load 3 (.tmp 66)⟩,
  ⟨none, some 14, .assign (.tmp 65)⟩,
  ⟨none, some 15, .assign (.tmp 67)⟩]
abbrev s34_13 : List Stp := [⟨none, some 68, .fieldAddr 60 (.tmp 4) 2⟩,
  ⟨none, some 69, .load 30 (.tmp 68)⟩,
  ⟨none, some 70, .move (.tmp 14)⟩,
  ⟨none, some 71, .indexAddr 30 (.tmp 69) (.tmp 70)⟩,
  ⟨none, some 72, .load 3 (.tmp 71)⟩,
  ⟨none, some 16, .assign (.tmp 72)⟩]
abbrev s34_14 : List Stp := [⟨none, some 73, .move (.tmp 15)⟩,
  ⟨none, some 74, .move (.tmp 13)⟩,
  ⟨none, some 75, .binOp .leq 3 (.tmp 73) (.tmp 74) 3⟩,
  ⟨none, some 76, .move (.tmp 75)⟩,
  ⟨some (76, false), some 77, .move (.tmp 15)⟩,
  ⟨some (76, false), some 78, .fieldAddr 37 (.tmp 3) 3⟩,
  ⟨some (76, false), some 79, .load 35 (.tmp 78)⟩,
  ⟨some (76, false), some 80, .call ⟨.builtin .len, #[.tmp 79], #[35]⟩⟩,
  ⟨some (76, false), some 81, .binOp .geq 3 (.tmp 77) (.tmp 80) 3⟩,
  ⟨none, some 82, .pick (.tmp 76) (.const (.bool true)) (.tmp 81)⟩,
  ⟨none, some 83, .move (.tmp 82)⟩,
  ⟨some (83, false), some 84, .move (.tmp 16)⟩,
  ⟨some (83, false), some 85, .binOp .lss 3 (.tmp 84) (.const (.int .i64 (-1000000))) 3⟩,
  ⟨none, some 86, .pick (.tmp 83) (.const (.bool true)) (.tmp 85)⟩,
  ⟨none, some 87, .move (.tmp 86)⟩,
  ⟨some (87, false), some 88, .move (.tmp 16)⟩,
  ⟨some (87, false), some 89, .binOp .gtr 3 (.tmp 88) (.const (.int .i64 1000000)) 3⟩,
  ⟨none, some 90, .pick (.tmp 87) (.const (.bool true)) (.tmp 89)⟩,
  ⟨none, some 91, .move (.tmp 90)⟩,
  ⟨some (91, false), some 92, .move (.tmp 16)⟩,
  ⟨some (91, false), some 93, .binOp .eql 3 (.tmp 92) (.const (.int .i64 0)) 3⟩,
  ⟨none, some 94, .pick (.tmp 91) (.const (.bool true)) (.tmp 93)⟩]
abbrev s34_15 : List Stp := [⟨none, some 6, .assign (.const (.bool false))⟩,
  ⟨none, some 7, .assign (.const (.int .i64 0))⟩]
abbrev s34_16 : List Stp := [⟨none, some 95, .move (.tmp 15)⟩,
  ⟨none, some 96, .fieldAddr 37 (.tmp 3) 0⟩,
  ⟨none, some 97, .load 3 (.tmp 96)⟩,
  ⟨none, some 98, .binOp .rem 3 (.tmp 95) (.tmp 97) 3⟩,
  ⟨none, some 99, .move (.tmp 15)⟩,
  ⟨none, some 100, .fieldAddr 37 (.tmp 3) 0⟩,
  ⟨none, some 101, .load 3 (.tmp 100)⟩,
  ⟨none, some 102, .binOp .quo 3 (.tmp 99) (.tmp 101) 3⟩,
  ⟨none, some 103, .build 148 #[(0, .const (.int .i64 1)), (1, .tmp 98), (2, .tmp 102)]⟩,
  ⟨none, some 104, .move (.const (.int .i64 0))⟩]
abbrev s34_17 : List Stp := [⟨none, some 105, .binOp .lss 3 (.tmp 104) (.const (.int .i64 3)) 3⟩]
abbrev s34_18 : List Stp := [⟨none, some 106, .move (.tmp 104)⟩,
  ⟨none, some 107, .index 148 (.tmp 103) (.tmp 104)⟩,
  ⟨none, some 17, .assign (.tmp 106)⟩,
  ⟨none, some 18, .assign (.tmp 107)⟩]
abbrev s34_19 : List Stp := [⟨none, some 108, .move (.tmp 17)⟩,
  ⟨none, some 109, .indexAddr 148 (.tmp 10) (.tmp 108)⟩,
  ⟨none, some 110, .load 3 (.tmp 109)⟩,
  ⟨none, some 111, .move (.tmp 16)⟩,
  ⟨none, some 112, .move (.tmp 18)⟩,
  ⟨none, some 113, .binOp .mul 3 (.tmp 111) (.tmp 112) 3⟩,
  ⟨none, some 114, .binOp .add 3 (.tmp 110) (.tmp 113) 3⟩,
  ⟨none, some 115, .indexAddr 148 (.tmp 10) (.tmp 108)⟩,
  ⟨none, none, .store 3 (.tmp 115) (.tmp 114)⟩]
abbrev s34_20 : List Stp := [⟨none, some 116, .binOp .add 3 (.tmp 104) (.const (.int .i64 1)) 3⟩,
  ⟨none, some 104, .move (.tmp 116)⟩]
abbrev l34_0 : Sk := .seq (.reg 17 false s34_17) (.seq (.cond (.tmp 105) .skip (.exit 2)) (.seq (.block 3 (.seq (.reg 18 false s34_18) (.reg 19 false s34_19))) (.reg 20 false s34_20)))
abbrev s34_21 : List Stp := [⟨none, some 117, .move (.tmp 16)⟩,
  ⟨none, some 118, .binOp .gtr 3 (.tmp 117) (.const (.int .i64 0)) 3⟩,
  ⟨none, some 119, .move (.tmp 2)⟩,
  ⟨none, some 120, .binOp .eql 4 (.tmp 118) (.tmp 119) 4⟩]
abbrev s34_22 : List Stp := [⟨none, some 121, .move (.tmp 11)⟩,
  ⟨none, some 122, .move (.tmp 16)⟩,
  ⟨none, some 123, .fieldAddr 37 (.tmp 3) 3⟩,
  ⟨none, some 124, .load 35 (.tmp 123)⟩,
  ⟨none, some 125, .move (.tmp 15)⟩,
  ⟨none, some 126, .indexAddr 35 (.tmp 124) (.tmp 125)⟩,
  ⟨none, some 127, .fieldAddr 24 (.tmp 126) 1⟩,
  ⟨none, some 128, .load 3 (.tmp 127)⟩,
  ⟨none, some 129, .binOp .mul 3 (.tmp 122) (.tmp 128) 3⟩,
  ⟨none, some 130, .binOp .add 3 (.tmp 121) (.tmp 129) 3⟩,
  ⟨none, some 11, .assign (.tmp 130)⟩]
abbrev s34_23 : List Stp := [⟨none, some 131, .move (.tmp 11)⟩,
  ⟨none, some 132, .move (.tmp 16)⟩,
  ⟨none, some 133, .fieldAddr 37 (.tmp 3) 3⟩,
  ⟨none, some 134, .load 35 (.tmp 133)⟩,
  ⟨none, some 135, .move (.tmp 15)⟩,
  ⟨none, some 136, .indexAddr 35 (.tmp 134) (.tmp 135)⟩,
  ⟨none, some 137, .fieldAddr 24 (.tmp 136) 0⟩,
  ⟨none, some 138, .load 3 (.tmp 137)⟩,
  ⟨none, some 139, .binOp .mul 3 (.tmp 132) (.tmp 138) 3⟩,
  ⟨none, some 140, .binOp .add 3 (.tmp 131) (.tmp 139) 3⟩,
  ⟨none, some 11, .assign (.tmp 140)⟩]
abbrev s34_24 : List Stp := [⟨none, some 141, .move (.tmp 12)⟩,
  ⟨none, some 142, .move (.tmp 16)⟩,
  ⟨none, some 143, .move (.tmp 16)⟩,
  ⟨none, some 144, .unOp .neg 3 (.tmp 143)⟩,
  ⟨none, some 145, .call ⟨.builtin .max, #[.tmp 142, .tmp 144], #[3, 3]⟩⟩,
  ⟨none, some 146, .binOp .add 3 (.tmp 141) (.tmp 145) 3⟩,
  ⟨none, some 147, .move (.tmp 15)⟩,
  ⟨none, some 12, .assign (.tmp 146)⟩,
  ⟨none, some 13, .assign (.tmp 147)⟩]
abbrev s34_25 : List Stp := [⟨none, some 148, .binOp .add 3 (.tmp 63) (.const (.int .i64 1)) 3⟩,
  ⟨none, some 63, .move (.tmp 148)⟩]
abbrev l34_1 : Sk := .seq (.reg 11 false s34_11) (.seq (.cond (.tmp 64) .skip (.exit 0)) (.seq (.block 1 (.seq (.reg 12 false s34_12) (.seq (.reg 13 false s34_13) (.seq (.seq (.reg 14 false s34_14) (.cond (.tmp 94) (.seq (.reg 15 false s34_15) .ret) .skip)) (.seq (.seq (.reg 16 true s34_16) (.block 2 (.loop l34_0))) (.seq (.seq (.reg 21 false s34_21) (.cond (.tmp 120) (.reg 22 false s34_22) (.reg 23 false s34_23))) (.reg 24 false s34_24))))))) (.reg 25 false s34_25)))
abbrev s34_26 : List Stp := [⟨none, some 150, .move (.tmp 11)⟩,
  ⟨none, some 151, .move (.tmp 12)⟩,
  ⟨none, some 152, .build 49 #[(0, .tmp 150), (1, .tmp 151)]⟩,
  ⟨none, some 153, .fieldAddr 60 (.tmp 4) 0⟩,
  ⟨none, some 154, .load 49 (.tmp 153)⟩,
  ⟨none, some 155, .call ⟨.value (.func 45), #[.tmp 152, .tmp 154], #[49, 49]⟩⟩,
  ⟨none, some 149, .move (.tmp 155)⟩,
  ⟨none, some 156, .extract (.tmp 149) 0⟩,
  ⟨none, some 157, .extract (.tmp 149) 1⟩,
  ⟨none, some 19, .assign (.tmp 156)⟩,
  ⟨none, some 20, .assign (.tmp 157)⟩]
abbrev s34_27 : List Stp := [⟨none, some 158, .load 148 (.tmp 10)⟩,
  ⟨none, some 159, .build 148 #[]⟩,
  ⟨none, some 160, .binOp .eql 148 (.tmp 158) (.tmp 159) 148⟩,
  ⟨none, some 161, .move (.tmp 160)⟩,
  ⟨some (161, true), some 162, .move (.tmp 20)⟩,
  ⟨some (161, true), some 163, .binOp .eql 28 (.tmp 162) (.const (.int .i64 0)) 28⟩,
  ⟨none, some 164, .pick (.tmp 161) (.tmp 163) (.const (.bool false))⟩,
  ⟨none, some 165, .move (.tmp 164)⟩,
  ⟨some (165, true), some 166, .move (.tmp 19)⟩,
  ⟨some (165, true), some 167, .binOp .eql 3 (.tmp 166) (.const (.int .i64 0)) 3⟩,
  ⟨none, some 168, .pick (.tmp 165) (.tmp 167) (.const (.bool false))⟩,
  ⟨none, some 6, .assign (.tmp 168)⟩,
  ⟨none, some 7, .assign (.const (.int .i64 0))⟩]
abbrev k34 : Sk := .seq (.reg 0 false s34_0) (.seq (.seq (.reg 1 false s34_1) (.cond (.tmp 23) (.seq (.reg 2 false s34_2) .ret) .skip)) (.seq (.seq (.reg 3 false s34_3) (.seq (.reg 4 false s34_4) (.cond (.tmp 51) (.seq (.reg 5 false s34_5) .ret) .skip))) (.seq (.seq (.reg 6 false s34_6) (.cond (.tmp 55) (.seq (.reg 7 false s34_7) .ret) .skip)) (.seq (.reg 8 false s34_8) (.seq (.reg 9 false s34_9) (.seq (.seq (.reg 10 false s34_10) (.block 0 (.loop l34_1))) (.seq (.reg 26 false s34_26) (.seq (.reg 27 false s34_27) .ret))))))))
theorem sk34 : (Try.f34.body.bind (skOf 169)) = some k34 := by kernel_rfl
theorem en34 {ys : Yls} {p0 p1 p2 : X} {S : St} {Q : Va → St → Bool → Prop} (h : ∀ R : St, S.n = R.n → S.h = R.h → R.lo = R.n → @Wp EE 34 ys false k34 [.x p0, .x p1, .x p2, .u, .u, .u, .u, .u, .u, .u, .u, .u, .u, .u, .u, .u, .u, .u, .u, .u, .u, .u, .u, .u, .u, .u, .u, .u, .u, .u, .u, .u, .u, .u, .u, .u, .u, .u, .u, .u, .u, .u, .u, .u, .u, .u, .u, .u, .u, .u, .u, .u, .u, .u, .u, .u, .u, .u, .u, .u, .u, .u, .u, .u, .u, .u, .u, .u, .u, .u, .u, .u, .u, .u, .u, .u, .u, .u, .u, .u, .u, .u, .u, .u, .u, .u, .u, .u, .u, .u, .u, .u, .u, .u, .u, .u, .u, .u, .u, .u, .u, .u, .u, .u, .u, .u, .u, .u, .u, .u, .u, .u, .u, .u, .u, .u, .u, .u, .u, .u, .u, .u, .u, .u, .u, .u, .u, .u, .u, .u, .u, .u, .u, .u, .u, .u, .u, .u, .u, .u, .u, .u, .u, .u, .u, .u, .u, .u, .u, .u, .u, .u, .u, .u, .u, .u, .u, .u, .u, .u, .u, .u, .u, .u, .u, .u, .u, .u, .u] (ext R []) ⟨exitQ EE [.tmp 6, .tmp 7] S Q⟩) : ∃ r, res EE ys (.f 34) [p0, p1, p2] S = some r ∧ Q r.1 r.2.1 r.2.2 :=
  enter rfl (by kernel_rfl) sk34 (by kernel_rfl) (by kernel_rfl) ⟨rfl, by simp⟩ h

/-! ### function 35: boule/boulelaw09.ownFlat -/
abbrev s35_0 : List Stp := [⟨none, some 1, .box 60 (.tmp 0)⟩,
  ⟨none, some 2, .alloc 60⟩]
abbrev s35_1 : List Stp := [⟨none, some 3, .fieldAddr 60 (.tmp 1) 0⟩,
  ⟨none, some 4, .load 49 (.tmp 3)⟩,
  ⟨none, some 5, .buildSlice 30 0 #[]⟩,
  ⟨none, some 6, .fieldAddr 60 (.tmp 1) 1⟩,
  ⟨none, some 7, .load 30 (.tmp 6)⟩,
  ⟨none, some 8, .call ⟨.builtin .append, #[.tmp 5, .tmp 7], #[30, 30]⟩⟩,
  ⟨none, some 9, .buildSlice 30 0 #[]⟩,
  ⟨none, some 10, .fieldAddr 60 (.tmp 1) 2⟩,
  ⟨none, some 11, .load 30 (.tmp 10)⟩,
  ⟨none, some 12, .call ⟨.builtin .append, #[.tmp 9, .tmp 11], #[30, 30]⟩⟩,
  ⟨none, some 13, .build 60 #[(0, .tmp 4), (1, .tmp 8), (2, .tmp 12)]⟩,
  ⟨none, none, .store 60 (.tmp 2) (.tmp 13)⟩]
abbrev k35 : Sk := .seq (.reg 0 false s35_0) (.seq (.reg 1 true s35_1) .ret)
theorem sk35 : (Try.f35.body.bind (skOf 14)) = some k35 := by kernel_rfl
theorem en35 {ys : Yls} {p0 : X} {S : St} {Q : Va → St → Bool → Prop} (h : ∀ R : St, S.n = R.n → S.h = R.h → R.lo = R.n → @Wp EE 35 ys false k35 [.x p0, .u, .u, .u, .u, .u, .u, .u, .u, .u, .u, .u, .u, .u] (ext R []) ⟨exitQ EE [.cell 2 60] S Q⟩) : ∃ r, res EE ys (.f 35) [p0] S = some r ∧ Q r.1 r.2.1 r.2.2 :=
  enter rfl (by kernel_rfl) sk35 (by kernel_rfl) (by kernel_rfl) ⟨rfl, by simp⟩ h

/-! ### function 36: boule/finish.Windows -/
abbrev s36_0 : List Stp := [⟨none, some 3, .box 37 (.tmp 0)⟩,
  ⟨none, some 6, .assign (.const (.slice none 0 0))⟩,
  ⟨none, some 7, .assign (.const (.int .i64 0))⟩]
abbrev s36_1 : List Stp := [⟨none, some 16, .load 37 (.tmp 3)⟩,
  ⟨none, some 17, .call ⟨.value (.func 21), #[.tmp 16], #[37]⟩⟩,
  ⟨none, some 18, .binOp .neq 28 (.tmp 17) (.const (.int .i64 0)) 28⟩,
  ⟨none, some 15, .assign (.tmp 18)⟩]
abbrev s36_2 : List Stp := [⟨none, some 6, .assign (.const (.slice none 0 0))⟩,
  ⟨none, some 7, .assign (.const (.int .i64 2))⟩]
abbrev s36_3 : List Stp := [⟨none, some 20, .move (.tmp 1)⟩,
  ⟨none, some 21, .binOp .lss 3 (.tmp 20) (.const (.int .i64 2)) 3⟩,
  ⟨none, some 22, .move (.tmp 21)⟩,
  ⟨some (22, false), some 23, .move (.tmp 1)⟩,
  ⟨some (22, false), some 24, .fieldAddr 37 (.tmp 3) 0⟩,
  ⟨some (22, false), some 25, .load 3 (.tmp 24)⟩,
  ⟨some (22, false), some 26, .binOp .gtr 3 (.tmp 23) (.tmp 25) 3⟩,
  ⟨none, some 27, .pick (.tmp 22) (.const (.bool true)) (.tmp 26)⟩,
  ⟨none, some 28, .move (.tmp 27)⟩,
  ⟨some (28, false), some 29, .move (.tmp 2)⟩,
  ⟨some (28, false), some 30, .binOp .lss 3 (.tmp 29) (.const (.int .i64 2)) 3⟩,
  ⟨none, some 31, .pick (.tmp 28) (.const (.bool true)) (.tmp 30)⟩,
  ⟨none, some 32, .move (.tmp 31)⟩,
  ⟨some (32, false), some 33, .move (.tmp 2)⟩,
  ⟨some (32, false), some 34, .fieldAddr 37 (.tmp 3) 1⟩,
  ⟨some (32, false), some 35, .load 3 (.tmp 34)⟩,
  ⟨some (32, false), some 36, .binOp .gtr 3 (.tmp 33) (.tmp 35) 3⟩,
  ⟨none, some 37, .pick (.tmp 32) (.const (.bool true)) (.tmp 36)⟩,
  ⟨none, some 19, .assign (.tmp 37)⟩]
abbrev s36_4 : List Stp := [⟨none, some 6, .assign (.const (.slice none 0 0))⟩,
  ⟨none, some 7, .assign (.const (.int .i64 3))⟩]
abbrev s36_5 : List Stp := [⟨none, some 8, .assign (.const (.slice none 0 0))⟩]
abbrev s36_6 : List Stp := [⟨none, some 38, .fieldAddr 37 (.tmp 3) 1⟩,
  ⟨none, some 39, .load 3 (.tmp 38)⟩,
  ⟨none, some 40, .move (.tmp 2)⟩,
  ⟨none, some 41, .binOp .sub 3 (.tmp 39) (.tmp 40) 3⟩,
  ⟨none, some 42, .binOp .add 3 (.tmp 41) (.const (.int .i64 1)) 3⟩,
  ⟨none, some 43, .move (.const (.int .i64 0))⟩]
abbrev s36_7 : List Stp := [⟨none, some 44, .binOp .lss 3 (.tmp 43) (.tmp 42) 3⟩]
abbrev s36_8 : List Stp := [⟨none, some 45, .move (.tmp 43)⟩,
  ⟨none, some 9, .assign (.tmp 45)⟩]
abbrev s36_9 : List Stp := [⟨none, some 46, .fieldAddr 37 (.tmp 3) 0⟩,
  ⟨none, some 47, .load 3 (.tmp 46)⟩,
  ⟨none, some 48, .move (.tmp 1)⟩,
  ⟨none, some 49, .binOp .sub 3 (.tmp 47) (.tmp 48) 3⟩,
  ⟨none, some 50, .binOp .add 3 (.tmp 49) (.const (.int .i64 1)) 3⟩,
  ⟨none, some 51, .move (.const (.int .i64 0))⟩]
abbrev s36_10 : List Stp := [⟨none, some 52, .binOp .lss 3 (.tmp 51) (.tmp 50) 3⟩]
abbrev s36_11 : List Stp := [⟨none, some 53, .move (.tmp 51)⟩,
  ⟨none, some 10, .assign (.tmp 53)⟩]
abbrev s36_12 : List Stp := [⟨none, some 54, .move (.tmp 1)⟩,
  ⟨none, some 55, .move (.tmp 2)⟩,
  ⟨none, some 56, .call ⟨.value (.func 63), #[.tmp 54, .tmp 55], #[3, 3]⟩⟩,
  ⟨none, some 11, .assign (.tmp 56)⟩]
abbrev s36_13 : List Stp := [⟨none, some 57, .move (.tmp 11)⟩,
  ⟨none, some 58, .call ⟨.builtin .len, #[.tmp 57], #[128]⟩⟩,
  ⟨none, some 59, .move (.const (.int .i64 0))⟩]
abbrev s36_14 : List Stp := [⟨none, some 60, .binOp .lss 3 (.tmp 59) (.tmp 58) 3⟩]
abbrev s36_15 : List Stp := [⟨none, some 61, .move (.tmp 59)⟩,
  ⟨none, some 12, .assign (.tmp 61)⟩]
abbrev s36_16 : List Stp := [⟨none, some 62, .move (.tmp 11)⟩,
  ⟨none, some 63, .move (.tmp 12)⟩,
  ⟨none, some 64, .move (.tmp 9)⟩,
  ⟨none, some 65, .move (.tmp 11)⟩,
  ⟨none, some 66, .move (.tmp 12)⟩,
  ⟨none, some 67, .indexAddr 128 (.tmp 65) (.tmp 66)⟩,
  ⟨none, some 68, .fieldAddr 131 (.tmp 67) 2⟩,
  ⟨none, some 69, .load 3 (.tmp 68)⟩,
  ⟨none, some 70, .binOp .add 3 (.tmp 64) (.tmp 69) 3⟩,
  ⟨none, some 71, .fieldAddr 37 (.tmp 3) 0⟩,
  ⟨none, some 72, .load 3 (.tmp 71)⟩,
  ⟨none, some 73, .binOp .mul 3 (.tmp 70) (.tmp 72) 3⟩,
  ⟨none, some 74, .move (.tmp 10)⟩,
  ⟨none, some 75, .binOp .add 3 (.tmp 73) (.tmp 74) 3⟩,
  ⟨none, some 76, .move (.tmp 11)⟩,
  ⟨none, some 77, .move (.tmp 12)⟩,
  ⟨none, some 78, .indexAddr 128 (.tmp 76) (.tmp 77)⟩,
  ⟨none, some 79, .fieldAddr 131 (.tmp 78) 1⟩,
  ⟨none, some 80, .load 3 (.tmp 79)⟩,
  ⟨none, some 81, .binOp .add 3 (.tmp 75) (.tmp 80) 3⟩,
  ⟨none, some 82, .indexAddr 128 (.tmp 62) (.tmp 63)⟩,
  ⟨none, some 83, .fieldAddr 131 (.tmp 82) 0⟩,
  ⟨none, none, .store 3 (.tmp 83) (.tmp 81)⟩]
abbrev s36_17 : List Stp := [⟨none, some 84, .binOp .add 3 (.tmp 59) (.const (.int .i64 1)) 3⟩,
  ⟨none, some 59, .move (.tmp 84)⟩]
abbrev l36_0 : Sk := .seq (.reg 14 false s36_14) (.seq (.cond (.tmp 60) .skip (.exit 5)) (.seq (.block 6 (.seq (.reg 15 false s36_15) (.reg 16 true s36_16))) (.reg 17 false s36_17)))
abbrev s36_18 : List Stp := [⟨none, some 86, .move (.tmp 11)⟩,
  ⟨none, some 87, .fieldAddr 37 (.tmp 3) 3⟩,
  ⟨none, some 88, .load 35 (.tmp 87)⟩,
  ⟨none, some 89, .call ⟨.value (.func 64), #[.tmp 86, .tmp 88], #[128, 35]⟩⟩,
  ⟨none, some 85, .move (.tmp 89)⟩,
  ⟨none, some 90, .extract (.tmp 85) 0⟩,
  ⟨none, some 91, .extract (.tmp 85) 1⟩,
  ⟨none, some 13, .alloc 137⟩,
  ⟨none, some 14, .alloc 137⟩,
  ⟨none, none, .store 137 (.tmp 13) (.tmp 90)⟩,
  ⟨none, none, .store 137 (.tmp 14) (.tmp 91)⟩]
abbrev s36_19 : List Stp := [⟨none, some 92, .move (.tmp 8)⟩,
  ⟨none, some 93, .call ⟨.value (.func 65), #[.tmp 14], #[137]⟩⟩,
  ⟨none, some 94, .field 60 (.tmp 93) 0⟩,
  ⟨none, some 95, .buildSlice 67 1 #[(0, .tmp 94)]⟩,
  ⟨none, some 96, .call ⟨.builtin .append, #[.tmp 92, .tmp 95], #[67, 67]⟩⟩,
  ⟨none, some 8, .assign (.tmp 96)⟩]
abbrev s36_20 : List Stp := [⟨none, some 97, .binOp .add 3 (.tmp 51) (.const (.int .i64 1)) 3⟩,
  ⟨none, some 51, .move (.tmp 97)⟩]
abbrev l36_1 : Sk := .seq (.reg 10 false s36_10) (.seq (.cond (.tmp 52) .skip (.exit 3)) (.seq (.block 4 (.seq (.reg 11 false s36_11) (.seq (.reg 12 false s36_12) (.seq (.seq (.reg 13 false s36_13) (.block 5 (.loop l36_0))) (.seq (.reg 18 false s36_18) (.reg 19 false s36_19)))))) (.reg 20 false s36_20)))
abbrev s36_21 : List Stp := [⟨none, some 98, .binOp .add 3 (.tmp 43) (.const (.int .i64 1)) 3⟩,
  ⟨none, some 43, .move (.tmp 98)⟩]
abbrev l36_2 : Sk := .seq (.reg 7 false s36_7) (.seq (.cond (.tmp 44) .skip (.exit 1)) (.seq (.block 2 (.seq (.reg 8 false s36_8) (.seq (.reg 9 false s36_9) (.block 3 (.loop l36_1))))) (.reg 21 false s36_21)))
abbrev s36_22 : List Stp := [⟨none, some 99, .move (.tmp 8)⟩,
  ⟨none, some 6, .assign (.tmp 99)⟩,
  ⟨none, some 7, .assign (.const (.int .i64 0))⟩]
abbrev k36 : Sk := .seq (.reg 0 false s36_0) (.seq (.block 0 (.seq (.reg 1 false s36_1) (.cond (.tmp 15) (.seq (.reg 2 false s36_2) .ret) (.seq (.reg 3 false s36_3) (.cond (.tmp 19) (.seq (.reg 4 false s36_4) .ret) .skip))))) (.seq (.reg 5 false s36_5) (.seq (.seq (.reg 6 false s36_6) (.block 1 (.loop l36_2))) (.seq (.reg 22 false s36_22) .ret))))
theorem sk36 : (Try.f36.body.bind (skOf 100)) = some k36 := by kernel_rfl
theorem en36 {ys : Yls} {p0 p1 p2 : X} {S : St} {Q : Va → St → Bool → Prop} (h : ∀ R : St, S.n = R.n → S.h = R.h → R.lo = R.n → @Wp EE 36 ys false k36 [.x p0, .x p1, .x p2, .u, .u, .u, .u, .u, .u, .u, .u, .u, .u, .u, .u, .u, .u, .u, .u, .u, .u, .u, .u, .u, .u, .u, .u, .u, .u, .u, .u, .u, .u, .u, .u, .u, .u, .u, .u, .u, .u, .u, .u, .u, .u, .u, .u, .u, .u, .u, .u, .u, .u, .u, .u, .u, .u, .u, .u, .u, .u, .u, .u, .u, .u, .u, .u, .u, .u, .u, .u, .u, .u, .u, .u, .u, .u, .u, .u, .u, .u, .u, .u, .u, .u, .u, .u, .u, .u, .u, .u, .u, .u, .u, .u, .u, .u, .u, .u, .u] (ext R []) ⟨exitQ EE [.tmp 6, .tmp 7] S Q⟩) : ∃ r, res EE ys (.f 36) [p0, p1, p2] S = some r ∧ Q r.1 r.2.1 r.2.2 :=
  enter rfl (by kernel_rfl) sk36 (by kernel_rfl) (by kernel_rfl) ⟨rfl, by simp⟩ h

/-! ### function 37: boule/bouleref09.Windows -/
abbrev s37_0 : List Stp := [⟨none, some 3, .box 37 (.tmp 0)⟩,
  ⟨none, some 6, .assign (.const (.slice none 0 0))⟩,
  ⟨none, some 7, .assign (.const (.int .i64 0))⟩]
abbrev s37_1 : List Stp := [⟨none, some 13, .load 37 (.tmp 3)⟩,
  ⟨none, some 14, .call ⟨.value (.func 25), #[.tmp 13], #[37]⟩⟩,
  ⟨none, some 15, .unOp .not 4 (.tmp 14)⟩]
abbrev s37_2 : List Stp := [⟨none, some 6, .assign (.const (.slice none 0 0))⟩,
  ⟨none, some 7, .assign (.const (.int .i64 2))⟩]
abbrev s37_3 : List Stp := [⟨none, some 16, .move (.tmp 1)⟩,
  ⟨none, some 17, .binOp .lss 3 (.tmp 16) (.const (.int .i64 2)) 3⟩,
  ⟨none, some 18, .move (.tmp 17)⟩,
  ⟨some (18, false), some 19, .move (.tmp 1)⟩,
  ⟨some (18, false), some 20, .fieldAddr 37 (.tmp 3) 0⟩,
  ⟨some (18, false), some 21, .load 3 (.tmp 20)⟩,
  ⟨some (18, false), some 22, .binOp .gtr 3 (.tmp 19) (.tmp 21) 3⟩,
  ⟨none, some 23, .pick (.tmp 18) (.const (.bool true)) (.tmp 22)⟩,
  ⟨none, some 24, .move (.tmp 23)⟩,
  ⟨some (24, false), some 25, .move (.tmp 2)⟩,
  ⟨some (24, false), some 26, .binOp .lss 3 (.tmp 25) (.const (.int .i64 2)) 3⟩,
  ⟨none, some 27, .pick (.tmp 24) (.const (.bool true)) (.tmp 26)⟩,
  ⟨none, some 28, .move (.tmp 27)⟩,
  ⟨some (28, false), some 29, .move (.tmp 2)⟩,
  ⟨some (28, false), some 30, .fieldAddr 37 (.tmp 3) 1⟩,
  ⟨some (28, false), some 31, .load 3 (.tmp 30)⟩,
  ⟨some (28, false), some 32, .binOp .gtr 3 (.tmp 29) (.tmp 31) 3⟩,
  ⟨none, some 33, .pick (.tmp 28) (.const (.bool true)) (.tmp 32)⟩]
abbrev s37_4 : List Stp := [⟨none, some 6, .assign (.const (.slice none 0 0))⟩,
  ⟨none, some 7, .assign (.const (.int .i64 3))⟩]
abbrev s37_5 : List Stp := [⟨none, some 34, .buildSlice 67 0 #[]⟩,
  ⟨none, some 8, .assign (.tmp 34)⟩]
abbrev s37_6 : List Stp := [⟨none, some 9, .assign (.const (.int .i64 0))⟩]
abbrev s37_7 : List Stp := [⟨none, some 35, .move (.tmp 9)⟩,
  ⟨none, some 36, .move (.tmp 2)⟩,
  ⟨none, some 37, .binOp .add 3 (.tmp 35) (.tmp 36) 3⟩,
  ⟨none, some 38, .fieldAddr 37 (.tmp 3) 1⟩,
  ⟨none, some 39, .load 3 (.tmp 38)⟩,
  ⟨none, some 40, .binOp .leq 3 (.tmp 37) (.tmp 39) 3⟩]
abbrev s37_9 : List Stp := [⟨none, some 10, .assign (.const (.int .i64 0))⟩]
abbrev s37_10 : List Stp := [⟨none, some 43, .move (.tmp 10)⟩,
  ⟨none, some 44, .move (.tmp 1)⟩,
  ⟨none, some 45, .binOp .add 3 (.tmp 43) (.tmp 44) 3⟩,
  ⟨none, some 46, .fieldAddr 37 (.tmp 3) 0⟩,
  ⟨none, some 47, .load 3 (.tmp 46)⟩,
  ⟨none, some 48, .binOp .leq 3 (.tmp 45) (.tmp 47) 3⟩]
abbrev s37_12 : List Stp := [⟨none, some 52, .load 37 (.tmp 3)⟩,
  ⟨none, some 53, .move (.tmp 10)⟩,
  ⟨none, some 54, .move (.tmp 9)⟩,
  ⟨none, some 55, .move (.tmp 1)⟩,
  ⟨none, some 56, .move (.tmp 2)⟩,
  ⟨none, some 57, .call ⟨.value (.func 72), #[.tmp 52, .tmp 53, .tmp 54, .tmp 55, .tmp 56], #[37, 3, 3, 3, 3]⟩⟩,
  ⟨none, some 58, .call ⟨.value (.func 29), #[.tmp 57], #[37]⟩⟩,
  ⟨none, some 51, .move (.tmp 58)⟩,
  ⟨none, some 59, .extract (.tmp 51) 0⟩,
  ⟨none, some 60, .extract (.tmp 51) 1⟩,
  ⟨none, some 11, .alloc 49⟩,
  ⟨none, some 12, .alloc 49⟩,
  ⟨none, none, .store 49 (.tmp 11) (.tmp 59)⟩,
  ⟨none, none, .store 49 (.tmp 12) (.tmp 60)⟩]
abbrev s37_13 : List Stp := [⟨none, some 61, .move (.tmp 8)⟩,
  ⟨none, some 62, .load 49 (.tmp 12)⟩,
  ⟨none, some 63, .buildSlice 67 1 #[(0, .tmp 62)]⟩,
  ⟨none, some 64, .call ⟨.builtin .append, #[.tmp 61, .tmp 63], #[67, 67]⟩⟩,
  ⟨none, some 8, .assign (.tmp 64)⟩]
abbrev s37_11 : List Stp := [⟨none, some 49, .move (.tmp 10)⟩,
  ⟨none, some 50, .binOp .add 3 (.tmp 49) (.const (.int .i64 1)) 3⟩,
  ⟨none, some 10, .assign (.tmp 50)⟩]
abbrev l37_0 : Sk := .seq (.seq (.reg 10 false s37_10) (.cond (.tmp 48) .skip (.exit 2))) (.seq (.block 3 (.seq (.reg 12 false s37_12) (.reg 13 false s37_13))) (.reg 11 false s37_11))
abbrev s37_8 : List Stp := [⟨none, some 41, .move (.tmp 9)⟩,
  ⟨none, some 42, .binOp .add 3 (.tmp 41) (.const (.int .i64 1)) 3⟩,
  ⟨none, some 9, .assign (.tmp 42)⟩]
abbrev l37_1 : Sk := .seq (.seq (.reg 7 false s37_7) (.cond (.tmp 40) .skip (.exit 0))) (.seq (.block 1 (.seq (.reg 9 false s37_9) (.block 2 (.loop l37_0)))) (.reg 8 false s37_8))
abbrev s37_14 : List Stp := [⟨none, some 65, .move (.tmp 8)⟩,
  ⟨none, some 6, .assign (.tmp 65)⟩,
  ⟨none, some 7, .assign (.const (.int .i64 0))⟩]
abbrev k37 : Sk := .seq (.reg 0 false s37_0) (.seq (.seq (.reg 1 false s37_1) (.cond (.tmp 15) (.seq (.reg 2 false s37_2) .ret) .skip)) (.seq (.seq (.reg 3 false s37_3) (.cond (.tmp 33) (.seq (.reg 4 false s37_4) .ret) .skip)) (.seq (.reg 5 false s37_5) (.seq (.seq (.reg 6 false s37_6) (.block 0 (.loop l37_1))) (.seq (.reg 14 false s37_14) .ret)))))
theorem sk37 : (Try.f37.body.bind (skOf 66)) = some k37 := by kernel_rfl
theorem en37 {ys : Yls} {p0 p1 p2 : X} {S : St} {Q : Va → St → Bool → Prop} (h : ∀ R : St, S.n = R.n → S.h = R.h → R.lo = R.n → @Wp EE 37 ys false k37 [.x p0, .x p1, .x p2, .u, .u, .u, .u, .u, .u, .u, .u, .u, .u, .u, .u, .u, .u, .u, .u, .u, .u, .u, .u, .u, .u, .u, .u, .u, .u, .u, .u, .u, .u, .u, .u, .u, .u, .u, .u, .u, .u, .u, .u, .u, .u, .u, .u, .u, .u, .u, .u, .u, .u, .u, .u, .u, .u, .u, .u, .u, .u, .u, .u, .u, .u, .u] (ext R []) ⟨exitQ EE [.tmp 6, .tmp 7] S Q⟩) : ∃ r, res EE ys (.f 37) [p0, p1, p2] S = some r ∧ Q r.1 r.2.1 r.2.2 :=
  enter rfl (by kernel_rfl) sk37 (by kernel_rfl) (by kernel_rfl) ⟨rfl, by simp⟩ h

/-! ### function 38: boule/finish.Apart -/
abbrev s38_0 : List Stp := [⟨none, some 3, .box 35 (.tmp 0)⟩,
  ⟨none, some 4, .box 72 (.tmp 1)⟩,
  ⟨none, some 5, .box 72 (.tmp 2)⟩,
  ⟨none, some 6, .alloc 24⟩,
  ⟨none, some 7, .assign (.const (.int .i64 0))⟩]
abbrev s38_1 : List Stp := [⟨none, some 22, .makeFunc (.func 73) #[] #[.tmp 3]⟩,
  ⟨none, some 8, .assign (.tmp 22)⟩]
abbrev s38_2 : List Stp := [⟨none, some 24, .load 35 (.tmp 3)⟩,
  ⟨none, some 25, .call ⟨.builtin .len, #[.tmp 24], #[35]⟩⟩,
  ⟨none, some 26, .binOp .gtr 3 (.tmp 25) (.const (.int .i64 60)) 3⟩,
  ⟨none, some 23, .assign (.tmp 26)⟩]
abbrev s38_3 : List Stp := [⟨none, some 27, .build 24 #[]⟩,
  ⟨none, none, .store 24 (.tmp 6) (.tmp 27)⟩,
  ⟨none, some 7, .assign (.const (.int .i64 5))⟩]
abbrev s38_4 : List Stp := [⟨none, some 29, .call ⟨.value (.func 59), #[], #[]⟩⟩,
  ⟨none, some 30, .load 35 (.tmp 3)⟩,
  ⟨none, some 31, .call ⟨.value (.func 49), #[.tmp 29, .tmp 30], #[116, 35]⟩⟩,
  ⟨none, some 32, .unOp .not 4 (.tmp 31)⟩,
  ⟨none, some 33, .move (.tmp 32)⟩,
  ⟨some (33, false), some 34, .move (.tmp 8)⟩,
  ⟨some (33, false), some 35, .load 72 (.tmp 4)⟩,
  ⟨some (33, false), some 36, .call ⟨.value (.tmp 34), #[.tmp 35], #[72]⟩⟩,
  ⟨none, some 37, .pick (.tmp 33) (.const (.bool true)) (.tmp 36)⟩,
  ⟨none, some 38, .move (.tmp 37)⟩,
  ⟨some (38, false), some 39, .move (.tmp 8)⟩,
  ⟨some (38, false), some 40, .load 72 (.tmp 5)⟩,
  ⟨some (38, false), some 41, .call ⟨.value (.tmp 39), #[.tmp 40], #[72]⟩⟩,
  ⟨none, some 42, .pick (.tmp 38) (.const (.bool true)) (.tmp 41)⟩,
  ⟨none, some 28, .assign (.tmp 42)⟩]
abbrev s38_5 : List Stp := [⟨none, some 43, .build 24 #[]⟩,
  ⟨none, none, .store 24 (.tmp 6) (.tmp 43)⟩,
  ⟨none, some 7, .assign (.const (.int .i64 2))⟩]
abbrev s38_6 : List Stp := [⟨none, some 44, .makeMap 151 none⟩,
  ⟨none, some 9, .assign (.tmp 44)⟩]
abbrev s38_7 : List Stp := [⟨none, some 45, .fieldAddr 72 (.tmp 4) 1⟩,
  ⟨none, some 46, .load 30 (.tmp 45)⟩,
  ⟨none, some 47, .call ⟨.builtin .len, #[.tmp 46], #[30]⟩⟩,
  ⟨none, some 48, .move (.const (.int .i64 0))⟩]
abbrev s38_8 : List Stp := [⟨none, some 49, .binOp .lss 3 (.tmp 48) (.tmp 47) 3⟩]
abbrev s38_9 : List Stp := [⟨none, some 50, .indexAddr 30 (.tmp 46) (.tmp 48)⟩,
  ⟨none, some 51, .load 3 (.tmp 50)⟩,
  ⟨none, some 11, .assign (.tmp 51)⟩]
abbrev s38_10 : List Stp := [⟨none, some 52, .move (.tmp 9)⟩,
  ⟨none, some 53, .move (.tmp 11)⟩,
  ⟨none, none, .mapUpdate 151 (.tmp 52) (.tmp 53) (.const (.bool true))⟩]
abbrev s38_11 : List Stp := [⟨none, some 54, .binOp .add 3 (.tmp 48) (.const (.int .i64 1)) 3⟩,
  ⟨none, some 48, .move (.tmp 54)⟩]
abbrev l38_0 : Sk := .seq (.reg 8 false s38_8) (.seq (.cond (.tmp 49) .skip (.exit 1)) (.seq (.block 2 (.seq (.reg 9 false s38_9) (.reg 10 false s38_10))) (.reg 11 false s38_11)))
abbrev s38_12 : List Stp := [⟨none, some 55, .fieldAddr 72 (.tmp 5) 1⟩,
  ⟨none, some 56, .load 30 (.tmp 55)⟩,
  ⟨none, some 57, .call ⟨.builtin .len, #[.tmp 56], #[30]⟩⟩,
  ⟨none, some 58, .move (.const (.int .i64 0))⟩]
abbrev s38_13 : List Stp := [⟨none, some 59, .binOp .lss 3 (.tmp 58) (.tmp 57) 3⟩]
abbrev s38_14 : List Stp := [⟨none, some 60, .indexAddr 30 (.tmp 56) (.tmp 58)⟩,
  ⟨none, some 61, .load 3 (.tmp 60)⟩,
  ⟨none, some 13, .assign (.tmp 61)⟩]
abbrev s38_15 : List Stp := [⟨none, some 62, .move (.tmp 9)⟩,
  ⟨none, some 63, .move (.tmp 13)⟩,
  ⟨none, some 64, .lookup 151 (.tmp 62) (.tmp 63) false⟩]
abbrev s38_16 : List Stp := [⟨none, some 65, .move (.tmp 9)⟩,
  ⟨none, some 66, .move (.tmp 13)⟩,
  ⟨none, none, .call ⟨.builtin .delete, #[.tmp 65, .tmp 66], #[151, 3]⟩⟩]
abbrev s38_17 : List Stp := [⟨none, some 67, .move (.tmp 9)⟩,
  ⟨none, some 68, .move (.tmp 13)⟩,
  ⟨none, none, .mapUpdate 151 (.tmp 67) (.tmp 68) (.const (.bool false))⟩]
abbrev s38_18 : List Stp := [⟨none, some 69, .binOp .add 3 (.tmp 58) (.const (.int .i64 1)) 3⟩,
  ⟨none, some 58, .move (.tmp 69)⟩]
abbrev l38_1 : Sk := .seq (.reg 13 false s38_13) (.seq (.cond (.tmp 59) .skip (.exit 3)) (.seq (.block 4 (.seq (.reg 14 false s38_14) (.seq (.reg 15 false s38_15) (.cond (.tmp 64) (.reg 16 false s38_16) (.reg 17 false s38_17))))) (.reg 18 false s38_18)))
abbrev s38_19 : List Stp := [⟨none, some 70, .fieldAddr 72 (.tmp 4) 0⟩,
  ⟨none, some 71, .load 24 (.tmp 70)⟩,
  ⟨none, some 72, .buildSlice 35 1 #[(0, .tmp 71)]⟩,
  ⟨none, some 73, .fieldAddr 72 (.tmp 5) 0⟩,
  ⟨none, some 74, .load 24 (.tmp 73)⟩,
  ⟨none, some 75, .buildSlice 35 1 #[(0, .tmp 74)]⟩,
  ⟨none, some 14, .assign (.tmp 72)⟩,
  ⟨none, some 15, .assign (.tmp 75)⟩]
abbrev s38_20 : List Stp := [⟨none, some 76, .move (.tmp 9)⟩,
  ⟨none, some 77, .range 151 (.tmp 76)⟩]
abbrev s38_21 : List Stp := [⟨none, some 78, .next (.tmp 77) false⟩,
  ⟨none, some 79, .extract (.tmp 78) 0⟩]
abbrev s38_22 : List Stp := [⟨none, some 80, .entry (.tmp 77)⟩,
  ⟨none, some 81, .extract (.tmp 80) 0⟩,
  ⟨none, some 82, .extract (.tmp 80) 1⟩,
  ⟨none, some 16, .assign (.tmp 81)⟩,
  ⟨none, some 17, .assign (.tmp 82)⟩]
abbrev s38_23 : List Stp := [⟨none, some 83, .move (.tmp 17)⟩]
abbrev s38_24 : List Stp := [⟨none, some 84, .move (.tmp 15)⟩,
  ⟨none, some 85, .load 35 (.tmp 3)⟩,
  ⟨none, some 86, .move (.tmp 16)⟩,
  ⟨none, some 87, .indexAddr 35 (.tmp 85) (.tmp 86)⟩,
  ⟨none, some 88, .load 24 (.tmp 87)⟩,
  ⟨none, some 89, .buildSlice 35 1 #[(0, .tmp 88)]⟩,
  ⟨none, some 90, .call ⟨.builtin .append, #[.tmp 84, .tmp 89], #[35, 35]⟩⟩,
  ⟨none, some 15, .assign (.tmp 90)⟩]
abbrev s38_25 : List Stp := [⟨none, some 91, .move (.tmp 14)⟩,
  ⟨none, some 92, .load 35 (.tmp 3)⟩,
  ⟨none, some 93, .move (.tmp 16)⟩,
  ⟨none, some 94, .indexAddr 35 (.tmp 92) (.tmp 93)⟩,
  ⟨none, some 95, .load 24 (.tmp 94)⟩,
  ⟨none, some 96, .buildSlice 35 1 #[(0, .tmp 95)]⟩,
  ⟨none, some 97, .call ⟨.builtin .append, #[.tmp 91, .tmp 96], #[35, 35]⟩⟩,
  ⟨none, some 14, .assign (.tmp 97)⟩]
abbrev l38_2 : Sk := .seq (.reg 21 false s38_21) (.seq (.cond (.tmp 79) .skip (.exit 5)) (.block 6 (.seq (.reg 22 false s38_22) (.seq (.reg 23 false s38_23) (.cond (.tmp 83) (.reg 24 false s38_24) (.reg 25 false s38_25))))))
abbrev s38_26 : List Stp := [⟨none, some 99, .move (.tmp 14)⟩,
  ⟨none, some 100, .call ⟨.value (.func 54), #[.tmp 99], #[35]⟩⟩,
  ⟨none, some 98, .move (.tmp 100)⟩,
  ⟨none, some 101, .extract (.tmp 98) 0⟩,
  ⟨none, some 102, .extract (.tmp 98) 1⟩,
  ⟨none, some 18, .alloc 24⟩,
  ⟨none, none, .store 24 (.tmp 18) (.tmp 101)⟩,
  ⟨none, some 19, .assign (.tmp 102)⟩]
abbrev s38_27 : List Stp := [⟨none, some 104, .move (.tmp 15)⟩,
  ⟨none, some 105, .call ⟨.value (.func 54), #[.tmp 104], #[35]⟩⟩,
  ⟨none, some 103, .move (.tmp 105)⟩,
  ⟨none, some 106, .extract (.tmp 103) 0⟩,
  ⟨none, some 107, .extract (.tmp 103) 1⟩,
  ⟨none, some 20, .alloc 24⟩,
  ⟨none, none, .store 24 (.tmp 20) (.tmp 106)⟩,
  ⟨none, some 21, .assign (.tmp 107)⟩]
abbrev s38_28 : List Stp := [⟨none, some 108, .load 24 (.tmp 18)⟩,
  ⟨none, some 109, .load 24 (.tmp 20)⟩,
  ⟨none, some 110, .call ⟨.value (.func 74), #[.tmp 108, .tmp 109], #[24, 24]⟩⟩,
  ⟨none, some 111, .extract (.tmp 110) 0⟩,
  ⟨none, some 112, .extract (.tmp 110) 1⟩,
  ⟨none, none, .store 24 (.tmp 6) (.tmp 111)⟩,
  ⟨none, some 7, .assign (.tmp 112)⟩]
abbrev k38 : Sk := .seq (.reg 0 false s38_0) (.seq (.reg 1 false s38_1) (.seq (.block 0 (.seq (.reg 2 false s38_2) (.cond (.tmp 23) (.seq (.reg 3 false s38_3) .ret) (.seq (.reg 4 true s38_4) (.cond (.tmp 28) (.seq (.reg 5 false s38_5) .ret) .skip))))) (.seq (.reg 6 false s38_6) (.seq (.seq (.reg 7 false s38_7) (.block 1 (.loop l38_0))) (.seq (.seq (.reg 12 false s38_12) (.block 3 (.loop l38_1))) (.seq (.reg 19 true s38_19) (.seq (.seq (.reg 20 false s38_20) (.block 5 (.loop l38_2))) (.seq (.reg 26 false s38_26) (.seq (.reg 27 false s38_27) (.seq (.reg 28 false s38_28) .ret))))))))))
theorem sk38 : (Try.f38.body.bind (skOf 113)) = some k38 := by kernel_rfl

/-! ### function 39: boule/boulelaw09.ownTreated -/
abbrev s39_0 : List Stp := [⟨none, some 1, .box 72 (.tmp 0)⟩,
  ⟨none, some 2, .alloc 72⟩]
abbrev s39_1 : List Stp := [⟨none, some 3, .fieldAddr 72 (.tmp 1) 0⟩,
  ⟨none, some 4, .load 24 (.tmp 3)⟩,
  ⟨none, some 5, .buildSlice 30 0 #[]⟩,
  ⟨none, some 6, .fieldAddr 72 (.tmp 1) 1⟩,
  ⟨none, some 7, .load 30 (.tmp 6)⟩,
  ⟨none, some 8, .call ⟨.builtin .append, #[.tmp 5, .tmp 7], #[30, 30]⟩⟩,
  ⟨none, some 9, .build 72 #[(0, .tmp 4), (1, .tmp 8)]⟩,
  ⟨none, none, .store 72 (.tmp 2) (.tmp 9)⟩]
abbrev k39 : Sk := .seq (.reg 0 false s39_0) (.seq (.reg 1 true s39_1) .ret)
theorem sk39 : (Try.f39.body.bind (skOf 10)) = some k39 := by kernel_rfl
theorem en39 {ys : Yls} {p0 : X} {S : St} {Q : Va → St → Bool → Prop} (h : ∀ R : St, S.n = R.n → S.h = R.h → R.lo = R.n → @Wp EE 39 ys false k39 [.x p0, .u, .u, .u, .u, .u, .u, .u, .u, .u] (ext R []) ⟨exitQ EE [.cell 2 72] S Q⟩) : ∃ r, res EE ys (.f 39) [p0] S = some r ∧ Q r.1 r.2.1 r.2.2 :=
  enter rfl (by kernel_rfl) sk39 (by kernel_rfl) (by kernel_rfl) ⟨rfl, by simp⟩ h

/-! ### function 40: boule/bouleref09.Apart -/
abbrev s40_0 : List Stp := [⟨none, some 4, .box 72 (.tmp 1)⟩,
  ⟨none, some 5, .box 72 (.tmp 2)⟩,
  ⟨none, some 6, .alloc 24⟩,
  ⟨none, some 7, .assign (.const (.int .i64 0))⟩]
abbrev s40_1 : List Stp := [⟨none, some 12, .move (.tmp 0)⟩,
  ⟨none, some 13, .call ⟨.builtin .len, #[.tmp 12], #[35]⟩⟩,
  ⟨none, some 14, .binOp .gtr 3 (.tmp 13) (.const (.int .i64 60)) 3⟩]
abbrev s40_2 : List Stp := [⟨none, some 15, .build 24 #[]⟩,
  ⟨none, none, .store 24 (.tmp 6) (.tmp 15)⟩,
  ⟨none, some 7, .assign (.const (.int .i64 5))⟩]
abbrev s40_3 : List Stp := [⟨none, some 8, .assign (.const (.int .i64 0))⟩]
abbrev s40_4 : List Stp := [⟨none, some 16, .move (.tmp 8)⟩,
  ⟨none, some 17, .move (.tmp 0)⟩,
  ⟨none, some 18, .call ⟨.builtin .len, #[.tmp 17], #[35]⟩⟩,
  ⟨none, some 19, .binOp .lss 3 (.tmp 16) (.tmp 18) 3⟩]
abbrev s40_6 : List Stp := [⟨none, some 22, .move (.tmp 0)⟩,
  ⟨none, some 23, .move (.tmp 8)⟩,
  ⟨none, some 24, .indexAddr 35 (.tmp 22) (.tmp 23)⟩,
  ⟨none, some 25, .load 24 (.tmp 24)⟩,
  ⟨none, some 26, .call ⟨.value (.func 58), #[.tmp 25, .const (.int .i64 0), .const (.int .i64 10000000)], #[24, 3, 3]⟩⟩,
  ⟨none, some 27, .unOp .not 4 (.tmp 26)⟩]
abbrev s40_7 : List Stp := [⟨none, some 28, .build 24 #[]⟩,
  ⟨none, none, .store 24 (.tmp 6) (.tmp 28)⟩,
  ⟨none, some 7, .assign (.const (.int .i64 2))⟩]
abbrev s40_5 : List Stp := [⟨none, some 20, .move (.tmp 8)⟩,
  ⟨none, some 21, .binOp .add 3 (.tmp 20) (.const (.int .i64 1)) 3⟩,
  ⟨none, some 8, .assign (.tmp 21)⟩]
abbrev l40_0 : Sk := .seq (.seq (.reg 4 false s40_4) (.cond (.tmp 19) .skip (.exit 0))) (.seq (.block 1 (.seq (.reg 6 false s40_6) (.cond (.tmp 27) (.seq (.reg 7 false s40_7) .ret) .skip))) (.reg 5 false s40_5))
abbrev s40_8 : List Stp := [⟨none, some 29, .load 72 (.tmp 4)⟩,
  ⟨none, some 30, .move (.tmp 0)⟩,
  ⟨none, some 31, .call ⟨.builtin .len, #[.tmp 30], #[35]⟩⟩,
  ⟨none, some 32, .call ⟨.value (.func 75), #[.tmp 29, .tmp 31], #[72, 3]⟩⟩,
  ⟨none, some 33, .unOp .not 4 (.tmp 32)⟩,
  ⟨none, some 34, .move (.tmp 33)⟩,
  ⟨some (34, false), some 35, .load 72 (.tmp 5)⟩,
  ⟨some (34, false), some 36, .move (.tmp 0)⟩,
  ⟨some (34, false), some 37, .call ⟨.builtin .len, #[.tmp 36], #[35]⟩⟩,
  ⟨some (34, false), some 38, .call ⟨.value (.func 75), #[.tmp 35, .tmp 37], #[72, 3]⟩⟩,
  ⟨some (34, false), some 39, .unOp .not 4 (.tmp 38)⟩,
  ⟨none, some 40, .pick (.tmp 34) (.const (.bool true)) (.tmp 39)⟩]
abbrev s40_9 : List Stp := [⟨none, some 41, .build 24 #[]⟩,
  ⟨none, none, .store 24 (.tmp 6) (.tmp 41)⟩,
  ⟨none, some 7, .assign (.const (.int .i64 2))⟩]
abbrev s40_10 : List Stp := [⟨none, some 42, .fieldAddr 72 (.tmp 4) 0⟩,
  ⟨none, some 43, .fieldAddr 24 (.tmp 42) 0⟩,
  ⟨none, some 44, .load 3 (.tmp 43)⟩,
  ⟨none, some 45, .fieldAddr 72 (.tmp 5) 0⟩,
  ⟨none, some 46, .fieldAddr 24 (.tmp 45) 1⟩,
  ⟨none, some 47, .load 3 (.tmp 46)⟩,
  ⟨none, some 48, .binOp .sub 3 (.tmp 44) (.tmp 47) 3⟩,
  ⟨none, some 49, .fieldAddr 72 (.tmp 4) 0⟩,
  ⟨none, some 50, .fieldAddr 24 (.tmp 49) 1⟩,
  ⟨none, some 51, .load 3 (.tmp 50)⟩,
  ⟨none, some 52, .fieldAddr 72 (.tmp 5) 0⟩,
  ⟨none, some 53, .fieldAddr 24 (.tmp 52) 0⟩,
  ⟨none, some 54, .load 3 (.tmp 53)⟩,
  ⟨none, some 55, .binOp .sub 3 (.tmp 51) (.tmp 54) 3⟩,
  ⟨none, some 56, .build 24 #[(0, .tmp 48), (1, .tmp 55)]⟩,
  ⟨none, some 9, .alloc 24⟩,
  ⟨none, none, .store 24 (.tmp 9) (.tmp 56)⟩]
abbrev s40_11 : List Stp := [⟨none, some 10, .assign (.const (.int .i64 0))⟩]
abbrev s40_12 : List Stp := [⟨none, some 57, .move (.tmp 10)⟩,
  ⟨none, some 58, .move (.tmp 0)⟩,
  ⟨none, some 59, .call ⟨.builtin .len, #[.tmp 58], #[35]⟩⟩,
  ⟨none, some 60, .binOp .lss 3 (.tmp 57) (.tmp 59) 3⟩]
abbrev s40_14 : List Stp := [⟨none, some 63, .move (.tmp 0)⟩,
  ⟨none, some 64, .move (.tmp 10)⟩,
  ⟨none, some 65, .indexAddr 35 (.tmp 63) (.tmp 64)⟩,
  ⟨none, some 66, .load 24 (.tmp 65)⟩,
  ⟨none, some 11, .alloc 24⟩,
  ⟨none, none, .store 24 (.tmp 11) (.tmp 66)⟩]
abbrev s40_15 : List Stp := [⟨none, some 67, .load 72 (.tmp 4)⟩,
  ⟨none, some 68, .move (.tmp 10)⟩,
  ⟨none, some 69, .call ⟨.value (.func 76), #[.tmp 67, .tmp 68], #[72, 3]⟩⟩,
  ⟨none, some 70, .move (.tmp 69)⟩,
  ⟨some (70, true), some 71, .load 72 (.tmp 5)⟩,
  ⟨some (70, true), some 72, .move (.tmp 10)⟩,
  ⟨some (70, true), some 73, .call ⟨.value (.func 76), #[.tmp 71, .tmp 72], #[72, 3]⟩⟩,
  ⟨some (70, true), some 74, .unOp .not 4 (.tmp 73)⟩,
  ⟨none, some 75, .pick (.tmp 70) (.tmp 74) (.const (.bool false))⟩]
abbrev s40_16 : List Stp := [⟨none, some 76, .fieldAddr 24 (.tmp 9) 0⟩,
  ⟨none, some 77, .load 3 (.tmp 76)⟩,
  ⟨none, some 78, .fieldAddr 24 (.tmp 11) 1⟩,
  ⟨none, some 79, .load 3 (.tmp 78)⟩,
  ⟨none, some 80, .binOp .sub 3 (.tmp 77) (.tmp 79) 3⟩,
  ⟨none, some 81, .fieldAddr 24 (.tmp 9) 1⟩,
  ⟨none, some 82, .load 3 (.tmp 81)⟩,
  ⟨none, some 83, .fieldAddr 24 (.tmp 11) 0⟩,
  ⟨none, some 84, .load 3 (.tmp 83)⟩,
  ⟨none, some 85, .binOp .sub 3 (.tmp 82) (.tmp 84) 3⟩,
  ⟨none, some 86, .build 24 #[(0, .tmp 80), (1, .tmp 85)]⟩,
  ⟨none, none, .store 24 (.tmp 9) (.tmp 86)⟩]
abbrev s40_17 : List Stp := [⟨none, some 87, .load 72 (.tmp 5)⟩,
  ⟨none, some 88, .move (.tmp 10)⟩,
  ⟨none, some 89, .call ⟨.value (.func 76), #[.tmp 87, .tmp 88], #[72, 3]⟩⟩,
  ⟨none, some 90, .move (.tmp 89)⟩,
  ⟨some (90, true), some 91, .load 72 (.tmp 4)⟩,
  ⟨some (90, true), some 92, .move (.tmp 10)⟩,
  ⟨some (90, true), some 93, .call ⟨.value (.func 76), #[.tmp 91, .tmp 92], #[72, 3]⟩⟩,
  ⟨some (90, true), some 94, .unOp .not 4 (.tmp 93)⟩,
  ⟨none, some 95, .pick (.tmp 90) (.tmp 94) (.const (.bool false))⟩]
abbrev s40_18 : List Stp := [⟨none, some 96, .fieldAddr 24 (.tmp 9) 0⟩,
  ⟨none, some 97, .load 3 (.tmp 96)⟩,
  ⟨none, some 98, .fieldAddr 24 (.tmp 11) 0⟩,
  ⟨none, some 99, .load 3 (.tmp 98)⟩,
  ⟨none, some 100, .binOp .add 3 (.tmp 97) (.tmp 99) 3⟩,
  ⟨none, some 101, .fieldAddr 24 (.tmp 9) 1⟩,
  ⟨none, some 102, .load 3 (.tmp 101)⟩,
  ⟨none, some 103, .fieldAddr 24 (.tmp 11) 1⟩,
  ⟨none, some 104, .load 3 (.tmp 103)⟩,
  ⟨none, some 105, .binOp .add 3 (.tmp 102) (.tmp 104) 3⟩,
  ⟨none, some 106, .build 24 #[(0, .tmp 100), (1, .tmp 105)]⟩,
  ⟨none, none, .store 24 (.tmp 9) (.tmp 106)⟩]
abbrev s40_13 : List Stp := [⟨none, some 61, .move (.tmp 10)⟩,
  ⟨none, some 62, .binOp .add 3 (.tmp 61) (.const (.int .i64 1)) 3⟩,
  ⟨none, some 10, .assign (.tmp 62)⟩]
abbrev l40_1 : Sk := .seq (.seq (.reg 12 false s40_12) (.cond (.tmp 60) .skip (.exit 2))) (.seq (.block 3 (.seq (.reg 14 false s40_14) (.seq (.seq (.reg 15 false s40_15) (.cond (.tmp 75) (.reg 16 false s40_16) .skip)) (.seq (.reg 17 false s40_17) (.cond (.tmp 95) (.reg 18 false s40_18) .skip))))) (.reg 13 false s40_13))
abbrev s40_19 : List Stp := [⟨none, some 107, .load 24 (.tmp 9)⟩,
  ⟨none, none, .store 24 (.tmp 6) (.tmp 107)⟩,
  ⟨none, some 7, .assign (.const (.int .i64 0))⟩]
abbrev k40 : Sk := .seq (.reg 0 false s40_0) (.seq (.seq (.reg 1 false s40_1) (.cond (.tmp 14) (.seq (.reg 2 false s40_2) .ret) .skip)) (.seq (.seq (.reg 3 false s40_3) (.block 0 (.loop l40_0))) (.seq (.seq (.reg 8 false s40_8) (.cond (.tmp 40) (.seq (.reg 9 false s40_9) .ret) .skip)) (.seq (.reg 10 false s40_10) (.seq (.seq (.reg 11 false s40_11) (.block 2 (.loop l40_1))) (.seq (.reg 19 false s40_19) .ret))))))
theorem sk40 : (Try.f40.body.bind (skOf 108)) = some k40 := by kernel_rfl
theorem en40 {ys : Yls} {p0 p1 p2 : X} {S : St} {Q : Va → St → Bool → Prop} (h : ∀ R : St, S.n = R.n → S.h = R.h → R.lo = R.n → @Wp EE 40 ys false k40 [.x p0, .x p1, .x p2, .u, .u, .u, .u, .u, .u, .u, .u, .u, .u, .u, .u, .u, .u, .u, .u, .u, .u, .u, .u, .u, .u, .u, .u, .u, .u, .u, .u, .u, .u, .u, .u, .u, .u, .u, .u, .u, .u, .u, .u, .u, .u, .u, .u, .u, .u, .u, .u, .u, .u, .u, .u, .u, .u, .u, .u, .u, .u, .u, .u, .u, .u, .u, .u, .u, .u, .u, .u, .u, .u, .u, .u, .u, .u, .u, .u, .u, .u, .u, .u, .u, .u, .u, .u, .u, .u, .u, .u, .u, .u, .u, .u, .u, .u, .u, .u, .u, .u, .u, .u, .u, .u, .u, .u, .u] (ext R []) ⟨exitQ EE [.cell 6 24, .tmp 7] S Q⟩) : ∃ r, res EE ys (.f 40) [p0, p1, p2] S = some r ∧ Q r.1 r.2.1 r.2.2 :=
  enter rfl (by kernel_rfl) sk40 (by kernel_rfl) (by kernel_rfl) ⟨rfl, by simp⟩ h

/-! ### function 41: boule/finish.Remove -/
abbrev s41_0 : List Stp := [⟨none, some 2, .box 37 (.tmp 0)⟩,
  ⟨none, some 4, .alloc 37⟩,
  ⟨none, some 5, .assign (.const (.int .i64 0))⟩]
abbrev s41_1 : List Stp := [⟨none, some 12, .load 37 (.tmp 2)⟩,
  ⟨none, some 13, .call ⟨.value (.func 21), #[.tmp 12], #[37]⟩⟩,
  ⟨none, some 14, .binOp .neq 28 (.tmp 13) (.const (.int .i64 0)) 28⟩,
  ⟨none, some 11, .assign (.tmp 14)⟩]
abbrev s41_2 : List Stp := [⟨none, some 15, .build 37 #[]⟩,
  ⟨none, none, .store 37 (.tmp 4) (.tmp 15)⟩,
  ⟨none, some 5, .assign (.const (.int .i64 2))⟩]
abbrev s41_3 : List Stp := [⟨none, some 17, .move (.tmp 1)⟩,
  ⟨none, some 18, .call ⟨.builtin .len, #[.tmp 17], #[76]⟩⟩,
  ⟨none, some 19, .binOp .gtr 3 (.tmp 18) (.const (.int .i64 30)) 3⟩,
  ⟨none, some 16, .assign (.tmp 19)⟩]
abbrev s41_4 : List Stp := [⟨none, some 20, .build 37 #[]⟩,
  ⟨none, none, .store 37 (.tmp 4) (.tmp 20)⟩,
  ⟨none, some 5, .assign (.const (.int .i64 5))⟩]
abbrev s41_5 : List Stp := [⟨none, some 22, .move (.tmp 1)⟩,
  ⟨none, some 23, .call ⟨.value (.func 77), #[.tmp 22, .func 78], #[76, 155]⟩⟩,
  ⟨none, some 21, .assign (.tmp 23)⟩]
abbrev s41_6 : List Stp := [⟨none, some 24, .build 37 #[]⟩,
  ⟨none, none, .store 37 (.tmp 4) (.tmp 24)⟩,
  ⟨none, some 5, .assign (.const (.int .i64 2))⟩]
abbrev s41_7 : List Stp := [⟨none, some 26, .move (.tmp 1)⟩,
  ⟨none, some 27, .call ⟨.value (.func 79), #[.tmp 26, .func 80], #[76, 157]⟩⟩,
  ⟨none, some 28, .unOp .not 4 (.tmp 27)⟩,
  ⟨none, some 25, .assign (.tmp 28)⟩]
abbrev s41_8 : List Stp := [⟨none, some 29, .build 37 #[]⟩,
  ⟨none, none, .store 37 (.tmp 4) (.tmp 29)⟩,
  ⟨none, some 5, .assign (.const (.int .i64 9))⟩]
abbrev s41_9 : List Stp := [⟨none, some 30, .load 37 (.tmp 2)⟩,
  ⟨none, some 31, .call ⟨.value (.func 60), #[.tmp 30], #[37]⟩⟩,
  ⟨none, some 6, .alloc 24⟩,
  ⟨none, none, .store 24 (.tmp 6) (.tmp 31)⟩,
  ⟨none, some 7, .assign (.const (.int .i64 0))⟩]
abbrev s41_10 : List Stp := [⟨none, some 32, .move (.tmp 1)⟩,
  ⟨none, some 33, .call ⟨.builtin .len, #[.tmp 32], #[76]⟩⟩,
  ⟨none, some 34, .move (.const (.int .i64 0))⟩]
abbrev s41_11 : List Stp := [⟨none, some 35, .binOp .lss 3 (.tmp 34) (.tmp 33) 3⟩]
abbrev s41_12 : List Stp := [⟨none, some 36, .indexAddr 76 (.tmp 32) (.tmp 34)⟩,
  ⟨none, some 37, .load 88 (.tmp 36)⟩,
  ⟨none, some 9, .alloc 88⟩,
  ⟨none, none, .store 88 (.tmp 9) (.tmp 37)⟩]
abbrev s41_13 : List Stp := [⟨none, some 38, .fieldAddr 37 (.tmp 2) 2⟩,
  ⟨none, some 39, .fieldAddr 24 (.tmp 38) 0⟩,
  ⟨none, some 40, .load 3 (.tmp 39)⟩,
  ⟨none, some 41, .fieldAddr 88 (.tmp 9) 1⟩,
  ⟨none, some 42, .fieldAddr 24 (.tmp 41) 1⟩,
  ⟨none, some 43, .load 3 (.tmp 42)⟩,
  ⟨none, some 44, .binOp .sub 3 (.tmp 40) (.tmp 43) 3⟩,
  ⟨none, some 45, .fieldAddr 37 (.tmp 2) 2⟩,
  ⟨none, some 46, .fieldAddr 24 (.tmp 45) 0⟩,
  ⟨none, none, .store 3 (.tmp 46) (.tmp 44)⟩]
abbrev s41_14 : List Stp := [⟨none, some 47, .fieldAddr 37 (.tmp 2) 2⟩,
  ⟨none, some 48, .fieldAddr 24 (.tmp 47) 1⟩,
  ⟨none, some 49, .load 3 (.tmp 48)⟩,
  ⟨none, some 50, .fieldAddr 88 (.tmp 9) 1⟩,
  ⟨none, some 51, .fieldAddr 24 (.tmp 50) 0⟩,
  ⟨none, some 52, .load 3 (.tmp 51)⟩,
  ⟨none, some 53, .binOp .sub 3 (.tmp 49) (.tmp 52) 3⟩,
  ⟨none, some 54, .fieldAddr 37 (.tmp 2) 2⟩,
  ⟨none, some 55, .fieldAddr 24 (.tmp 54) 1⟩,
  ⟨none, none, .store 3 (.tmp 55) (.tmp 53)⟩]
abbrev s41_15 : List Stp := [⟨none, some 56, .move (.tmp 7)⟩,
  ⟨none, some 57, .fieldAddr 88 (.tmp 9) 2⟩,
  ⟨none, some 58, .load 3 (.tmp 57)⟩,
  ⟨none, some 59, .binOp .add 3 (.tmp 56) (.tmp 58) 3⟩,
  ⟨none, some 7, .assign (.tmp 59)⟩]
abbrev s41_16 : List Stp := [⟨none, some 61, .fieldAddr 37 (.tmp 2) 2⟩,
  ⟨none, some 62, .fieldAddr 24 (.tmp 61) 0⟩,
  ⟨none, some 63, .load 3 (.tmp 62)⟩,
  ⟨none, some 64, .binOp .lss 3 (.tmp 63) (.const (.int .i64 0)) 3⟩,
  ⟨none, some 65, .move (.tmp 64)⟩,
  ⟨some (65, false), some 66, .fieldAddr 37 (.tmp 2) 2⟩,
  ⟨some (65, false), some 67, .fieldAddr 24 (.tmp 66) 0⟩,
  ⟨some (65, false), some 68, .load 3 (.tmp 67)⟩,
  ⟨some (65, false), some 69, .fieldAddr 24 (.tmp 6) 0⟩,
  ⟨some (65, false), some 70, .load 3 (.tmp 69)⟩,
  ⟨some (65, false), some 71, .binOp .add 3 (.tmp 68) (.tmp 70) 3⟩,
  ⟨some (65, false), some 72, .move (.tmp 7)⟩,
  ⟨some (65, false), some 73, .binOp .sub 3 (.tmp 71) (.tmp 72) 3⟩,
  ⟨some (65, false), some 74, .binOp .lss 3 (.tmp 73) (.const (.int .i64 0)) 3⟩,
  ⟨none, some 75, .pick (.tmp 65) (.const (.bool true)) (.tmp 74)⟩,
  ⟨none, some 60, .assign (.tmp 75)⟩]
abbrev s41_17 : List Stp := [⟨none, some 76, .build 37 #[]⟩,
  ⟨none, none, .store 37 (.tmp 4) (.tmp 76)⟩,
  ⟨none, some 5, .assign (.const (.int .i64 91))⟩]
abbrev s41_18 : List Stp := [⟨none, some 78, .fieldAddr 24 (.tmp 6) 0⟩,
  ⟨none, some 79, .load 3 (.tmp 78)⟩,
  ⟨none, some 80, .move (.tmp 7)⟩,
  ⟨none, some 81, .binOp .sub 3 (.tmp 79) (.tmp 80) 3⟩,
  ⟨none, some 82, .binOp .lss 3 (.tmp 81) (.const (.int .i64 (-1000000))) 3⟩,
  ⟨none, some 83, .move (.tmp 82)⟩,
  ⟨some (83, false), some 84, .fieldAddr 24 (.tmp 6) 1⟩,
  ⟨some (83, false), some 85, .load 3 (.tmp 84)⟩,
  ⟨some (83, false), some 86, .move (.tmp 7)⟩,
  ⟨some (83, false), some 87, .binOp .add 3 (.tmp 85) (.tmp 86) 3⟩,
  ⟨some (83, false), some 88, .binOp .gtr 3 (.tmp 87) (.const (.int .i64 1000000)) 3⟩,
  ⟨none, some 89, .pick (.tmp 83) (.const (.bool true)) (.tmp 88)⟩,
  ⟨none, some 77, .assign (.tmp 89)⟩]
abbrev s41_19 : List Stp := [⟨none, some 90, .build 37 #[]⟩,
  ⟨none, none, .store 37 (.tmp 4) (.tmp 90)⟩,
  ⟨none, some 5, .assign (.const (.int .i64 10))⟩]
abbrev s41_20 : List Stp := [⟨none, some 91, .binOp .add 3 (.tmp 34) (.const (.int .i64 1)) 3⟩,
  ⟨none, some 34, .move (.tmp 91)⟩]
abbrev l41_0 : Sk := .seq (.reg 11 false s41_11) (.seq (.cond (.tmp 35) .skip (.exit 1)) (.seq (.block 2 (.seq (.reg 12 false s41_12) (.seq (.reg 13 false s41_13) (.seq (.reg 14 false s41_14) (.seq (.reg 15 false s41_15) (.block 3 (.seq (.reg 16 false s41_16) (.cond (.tmp 60) (.seq (.reg 17 false s41_17) .ret) (.seq (.reg 18 false s41_18) (.cond (.tmp 77) (.seq (.reg 19 false s41_19) .ret) .skip)))))))))) (.reg 20 false s41_20)))
abbrev s41_21 : List Stp := [⟨none, some 92, .fieldAddr 37 (.tmp 2) 3⟩,
  ⟨none, some 93, .load 35 (.tmp 92)⟩,
  ⟨none, some 94, .call ⟨.value (.func 81), #[.tmp 93], #[35]⟩⟩,
  ⟨none, some 95, .fieldAddr 37 (.tmp 2) 3⟩,
  ⟨none, none, .store 35 (.tmp 95) (.tmp 94)⟩]
abbrev s41_22 : List Stp := [⟨none, some 96, .fieldAddr 37 (.tmp 2) 3⟩,
  ⟨none, some 97, .load 35 (.tmp 96)⟩,
  ⟨none, some 98, .call ⟨.builtin .len, #[.tmp 97], #[35]⟩⟩,
  ⟨none, some 99, .move (.const (.int .i64 0))⟩]
abbrev s41_23 : List Stp := [⟨none, some 100, .binOp .lss 3 (.tmp 99) (.tmp 98) 3⟩]
abbrev s41_24 : List Stp := [⟨none, some 101, .move (.tmp 99)⟩,
  ⟨none, some 10, .assign (.tmp 101)⟩]
abbrev s41_25 : List Stp := [⟨none, some 102, .fieldAddr 37 (.tmp 2) 3⟩,
  ⟨none, some 103, .load 35 (.tmp 102)⟩,
  ⟨none, some 104, .move (.tmp 10)⟩,
  ⟨none, some 105, .indexAddr 35 (.tmp 103) (.tmp 104)⟩,
  ⟨none, some 106, .fieldAddr 24 (.tmp 105) 0⟩,
  ⟨none, some 107, .load 3 (.tmp 106)⟩,
  ⟨none, some 108, .move (.tmp 7)⟩,
  ⟨none, some 109, .binOp .sub 3 (.tmp 107) (.tmp 108) 3⟩,
  ⟨none, some 110, .indexAddr 35 (.tmp 103) (.tmp 104)⟩,
  ⟨none, some 111, .fieldAddr 24 (.tmp 110) 0⟩,
  ⟨none, none, .store 3 (.tmp 111) (.tmp 109)⟩]
abbrev s41_26 : List Stp := [⟨none, some 112, .fieldAddr 37 (.tmp 2) 3⟩,
  ⟨none, some 113, .load 35 (.tmp 112)⟩,
  ⟨none, some 114, .move (.tmp 10)⟩,
  ⟨none, some 115, .indexAddr 35 (.tmp 113) (.tmp 114)⟩,
  ⟨none, some 116, .fieldAddr 24 (.tmp 115) 1⟩,
  ⟨none, some 117, .load 3 (.tmp 116)⟩,
  ⟨none, some 118, .move (.tmp 7)⟩,
  ⟨none, some 119, .binOp .add 3 (.tmp 117) (.tmp 118) 3⟩,
  ⟨none, some 120, .indexAddr 35 (.tmp 113) (.tmp 114)⟩,
  ⟨none, some 121, .fieldAddr 24 (.tmp 120) 1⟩,
  ⟨none, none, .store 3 (.tmp 121) (.tmp 119)⟩]
abbrev s41_27 : List Stp := [⟨none, some 122, .binOp .add 3 (.tmp 99) (.const (.int .i64 1)) 3⟩,
  ⟨none, some 99, .move (.tmp 122)⟩]
abbrev l41_1 : Sk := .seq (.reg 23 false s41_23) (.seq (.cond (.tmp 100) .skip (.exit 4)) (.seq (.block 5 (.seq (.reg 24 false s41_24) (.seq (.reg 25 false s41_25) (.reg 26 false s41_26)))) (.reg 27 false s41_27)))
abbrev s41_28 : List Stp := [⟨none, some 123, .load 37 (.tmp 2)⟩,
  ⟨none, none, .store 37 (.tmp 4) (.tmp 123)⟩,
  ⟨none, some 5, .assign (.const (.int .i64 0))⟩]
abbrev k41 : Sk := .seq (.reg 0 false s41_0) (.seq (.block 0 (.seq (.reg 1 false s41_1) (.cond (.tmp 11) (.seq (.reg 2 false s41_2) .ret) (.seq (.reg 3 false s41_3) (.cond (.tmp 16) (.seq (.reg 4 false s41_4) .ret) (.seq (.reg 5 false s41_5) (.cond (.tmp 21) (.seq (.reg 6 false s41_6) .ret) (.seq (.reg 7 false s41_7) (.cond (.tmp 25) (.seq (.reg 8 false s41_8) .ret) .skip))))))))) (.seq (.reg 9 false s41_9) (.seq (.seq (.reg 10 false s41_10) (.block 1 (.loop l41_0))) (.seq (.reg 21 false s41_21) (.seq (.seq (.reg 22 false s41_22) (.block 4 (.loop l41_1))) (.seq (.reg 28 false s41_28) .ret))))))
theorem sk41 : (Try.f41.body.bind (skOf 124)) = some k41 := by kernel_rfl
theorem en41 {ys : Yls} {p0 p1 : X} {S : St} {Q : Va → St → Bool → Prop} (h : ∀ R : St, S.n = R.n → S.h = R.h → R.lo = R.n → @Wp EE 41 ys false k41 [.x p0, .x p1, .u, .u, .u, .u, .u, .u, .u, .u, .u, .u, .u, .u, .u, .u, .u, .u, .u, .u, .u, .u, .u, .u, .u, .u, .u, .u, .u, .u, .u, .u, .u, .u, .u, .u, .u, .u, .u, .u, .u, .u, .u, .u, .u, .u, .u, .u, .u, .u, .u, .u, .u, .u, .u, .u, .u, .u, .u, .u, .u, .u, .u, .u, .u, .u, .u, .u, .u, .u, .u, .u, .u, .u, .u, .u, .u, .u, .u, .u, .u, .u, .u, .u, .u, .u, .u, .u, .u, .u, .u, .u, .u, .u, .u, .u, .u, .u, .u, .u, .u, .u, .u, .u, .u, .u, .u, .u, .u, .u, .u, .u, .u, .u, .u, .u, .u, .u, .u, .u, .u, .u, .u, .u] (ext R []) ⟨exitQ EE [.cell 4 37, .tmp 5] S Q⟩) : ∃ r, res EE ys (.f 41) [p0, p1] S = some r ∧ Q r.1 r.2.1 r.2.2 :=
  enter rfl (by kernel_rfl) sk41 (by kernel_rfl) (by kernel_rfl) ⟨rfl, by simp⟩ h

/-! ### function 42: boule/boulelaw09.place -/
abbrev s42_0 : List Stp := [⟨none, some 2, .box 24 (.tmp 0)⟩,
  ⟨none, some 4, .assign (.const (.int .i64 0))⟩]
abbrev s42_1 : List Stp := [⟨none, some 5, .fieldAddr 24 (.tmp 2) 0⟩,
  ⟨none, some 6, .load 3 (.tmp 5)⟩,
  ⟨none, some 7, .fieldAddr 24 (.tmp 2) 1⟩,
  ⟨none, some 8, .load 3 (.tmp 7)⟩,
  ⟨none, some 9, .binOp .geq 3 (.tmp 6) (.tmp 8) 3⟩,
  ⟨none, some 10, .move (.tmp 9)⟩,
  ⟨some (10, false), some 11, .fieldAddr 24 (.tmp 2) 0⟩,
  ⟨some (10, false), some 12, .load 3 (.tmp 11)⟩,
  ⟨some (10, false), some 13, .binOp .lss 3 (.tmp 12) (.const (.int .i64 (-1000000000000000))) 3⟩,
  ⟨none, some 14, .pick (.tmp 10) (.const (.bool true)) (.tmp 13)⟩,
  ⟨none, some 15, .move (.tmp 14)⟩,
  ⟨some (15, false), some 16, .fieldAddr 24 (.tmp 2) 1⟩,
  ⟨some (15, false), some 17, .load 3 (.tmp 16)⟩,
  ⟨some (15, false), some 18, .binOp .gtr 3 (.tmp 17) (.const (.int .i64 1000000000000000)) 3⟩,
  ⟨none, some 19, .pick (.tmp 15) (.const (.bool true)) (.tmp 18)⟩]
abbrev s42_2 : List Stp := [⟨none, some 20, .fieldAddr 24 (.tmp 2) 0⟩,
  ⟨none, some 21, .load 3 (.tmp 20)⟩,
  ⟨none, some 4, .assign (.tmp 21)⟩]
abbrev s42_3 : List Stp := [⟨none, some 22, .fieldAddr 24 (.tmp 2) 0⟩,
  ⟨none, some 23, .load 3 (.tmp 22)⟩,
  ⟨none, some 24, .move (.tmp 1)⟩,
  ⟨none, some 25, .convert 77 3 (.tmp 24)⟩,
  ⟨none, some 26, .fieldAddr 24 (.tmp 2) 1⟩,
  ⟨none, some 27, .load 3 (.tmp 26)⟩,
  ⟨none, some 28, .fieldAddr 24 (.tmp 2) 0⟩,
  ⟨none, some 29, .load 3 (.tmp 28)⟩,
  ⟨none, some 30, .binOp .sub 3 (.tmp 27) (.tmp 29) 3⟩,
  ⟨none, some 31, .binOp .add 3 (.tmp 30) (.const (.int .i64 1)) 3⟩,
  ⟨none, some 32, .binOp .rem 3 (.tmp 25) (.tmp 31) 3⟩,
  ⟨none, some 33, .binOp .add 3 (.tmp 23) (.tmp 32) 3⟩,
  ⟨none, some 4, .assign (.tmp 33)⟩]
abbrev k42 : Sk := .seq (.reg 0 false s42_0) (.seq (.seq (.reg 1 false s42_1) (.cond (.tmp 19) (.seq (.reg 2 false s42_2) .ret) .skip)) (.seq (.reg 3 true s42_3) .ret))
theorem sk42 : (Try.f42.body.bind (skOf 34)) = some k42 := by kernel_rfl
theorem en42 {ys : Yls} {p0 p1 : X} {S : St} {Q : Va → St → Bool → Prop} (h : ∀ R : St, S.n = R.n → S.h = R.h → R.lo = R.n → @Wp EE 42 ys false k42 [.x p0, .x p1, .u, .u, .u, .u, .u, .u, .u, .u, .u, .u, .u, .u, .u, .u, .u, .u, .u, .u, .u, .u, .u, .u, .u, .u, .u, .u, .u, .u, .u, .u, .u, .u] (ext R []) ⟨exitQ EE [.tmp 4] S Q⟩) : ∃ r, res EE ys (.f 42) [p0, p1] S = some r ∧ Q r.1 r.2.1 r.2.2 :=
  enter rfl (by kernel_rfl) sk42 (by kernel_rfl) (by kernel_rfl) ⟨rfl, by simp⟩ h

/-! ### function 43: boule/boulelaw09.pick -/
abbrev s43_0 : List Stp := [⟨none, some 4, .assign (.const (.int .u16 0))⟩]
abbrev s43_1 : List Stp := [⟨none, some 5, .move (.tmp 1)⟩,
  ⟨none, some 6, .move (.tmp 0)⟩,
  ⟨none, some 7, .call ⟨.builtin .len, #[.tmp 6], #[78]⟩⟩,
  ⟨none, some 8, .binOp .lss 3 (.tmp 5) (.tmp 7) 3⟩]
abbrev s43_2 : List Stp := [⟨none, some 9, .move (.tmp 0)⟩,
  ⟨none, some 10, .move (.tmp 1)⟩,
  ⟨none, some 11, .indexAddr 78 (.tmp 9) (.tmp 10)⟩,
  ⟨none, some 12, .load 77 (.tmp 11)⟩,
  ⟨none, some 4, .assign (.tmp 12)⟩]
abbrev s43_3 : List Stp := [⟨none, some 4, .assign (.const (.int .u16 0))⟩]
abbrev k43 : Sk := .seq (.reg 0 false s43_0) (.seq (.seq (.reg 1 false s43_1) (.cond (.tmp 8) (.seq (.reg 2 false s43_2) .ret) .skip)) (.seq (.reg 3 false s43_3) .ret))
theorem sk43 : (Try.f43.body.bind (skOf 13)) = some k43 := by kernel_rfl
theorem en43 {ys : Yls} {p0 p1 : X} {S : St} {Q : Va → St → Bool → Prop} (h : ∀ R : St, S.n = R.n → S.h = R.h → R.lo = R.n → @Wp EE 43 ys false k43 [.x p0, .x p1, .u, .u, .u, .u, .u, .u, .u, .u, .u, .u, .u] (ext R []) ⟨exitQ EE [.tmp 4] S Q⟩) : ∃ r, res EE ys (.f 43) [p0, p1] S = some r ∧ Q r.1 r.2.1 r.2.2 :=
  enter rfl (by kernel_rfl) sk43 (by kernel_rfl) (by kernel_rfl) ⟨rfl, by simp⟩ h

/-! ### function 44: boule/boulelaw09.has -/
abbrev s44_0 : List Stp := [⟨none, some 2, .box 24 (.tmp 0)⟩,
  ⟨none, some 4, .assign (.const (.bool false))⟩]
abbrev s44_1 : List Stp := [⟨none, some 5, .move (.tmp 1)⟩,
  ⟨none, some 6, .fieldAddr 24 (.tmp 2) 0⟩,
  ⟨none, some 7, .load 3 (.tmp 6)⟩,
  ⟨none, some 8, .binOp .geq 3 (.tmp 5) (.tmp 7) 3⟩,
  ⟨none, some 9, .move (.tmp 8)⟩,
  ⟨some (9, true), some 10, .move (.tmp 1)⟩,
  ⟨some (9, true), some 11, .fieldAddr 24 (.tmp 2) 1⟩,
  ⟨some (9, true), some 12, .load 3 (.tmp 11)⟩,
  ⟨some (9, true), some 13, .binOp .leq 3 (.tmp 10) (.tmp 12) 3⟩,
  ⟨none, some 14, .pick (.tmp 9) (.tmp 13) (.const (.bool false))⟩,
  ⟨none, some 4, .assign (.tmp 14)⟩]
abbrev k44 : Sk := .seq (.reg 0 false s44_0) (.seq (.reg 1 false s44_1) .ret)
theorem sk44 : (Try.f44.body.bind (skOf 15)) = some k44 := by kernel_rfl
theorem en44 {ys : Yls} {p0 p1 : X} {S : St} {Q : Va → St → Bool → Prop} (h : ∀ R : St, S.n = R.n → S.h = R.h → R.lo = R.n → @Wp EE 44 ys false k44 [.x p0, .x p1, .u, .u, .u, .u, .u, .u, .u, .u, .u, .u, .u, .u, .u] (ext R []) ⟨exitQ EE [.tmp 4] S Q⟩) : ∃ r, res EE ys (.f 44) [p0, p1] S = some r ∧ Q r.1 r.2.1 r.2.2 :=
  enter rfl (by kernel_rfl) sk44 (by kernel_rfl) (by kernel_rfl) ⟨rfl, by simp⟩ h

/-! ### function 45: boule/units.Compare -/
abbrev s45_0 : List Stp := [⟨none, some 2, .box 49 (.tmp 0)⟩,
  ⟨none, some 3, .box 49 (.tmp 1)⟩,
  ⟨none, some 4, .assign (.const (.int .i64 0))⟩,
  ⟨none, some 5, .assign (.const (.int .i64 0))⟩]
abbrev s45_1 : List Stp := [⟨none, some 6, .load 49 (.tmp 2)⟩,
  ⟨none, some 7, .call ⟨.value (.func 82), #[.tmp 6], #[159]⟩⟩,
  ⟨none, some 8, .unOp .not 4 (.tmp 7)⟩,
  ⟨none, some 9, .move (.tmp 8)⟩,
  ⟨some (9, false), some 10, .load 49 (.tmp 3)⟩,
  ⟨some (9, false), some 11, .call ⟨.value (.func 82), #[.tmp 10], #[159]⟩⟩,
  ⟨some (9, false), some 12, .unOp .not 4 (.tmp 11)⟩,
  ⟨none, some 13, .pick (.tmp 9) (.const (.bool true)) (.tmp 12)⟩]
abbrev s45_2 : List Stp := [⟨none, some 4, .assign (.const (.int .i64 0))⟩,
  ⟨none, some 5, .assign (.const (.int .i64 2))⟩]
abbrev s45_3 : List Stp := [⟨none, some 14, .load 49 (.tmp 2)⟩,
  ⟨none, some 15, .load 49 (.tmp 3)⟩,
  ⟨none, some 16, .call ⟨.value (.func 83), #[.tmp 14, .tmp 15], #[159, 159]⟩⟩,
  ⟨none, some 4, .assign (.tmp 16)⟩,
  ⟨none, some 5, .assign (.const (.int .i64 0))⟩]
abbrev k45 : Sk := .seq (.reg 0 false s45_0) (.seq (.seq (.reg 1 false s45_1) (.cond (.tmp 13) (.seq (.reg 2 false s45_2) .ret) .skip)) (.seq (.reg 3 false s45_3) .ret))
theorem sk45 : (Try.f45.body.bind (skOf 17)) = some k45 := by kernel_rfl
theorem en45 {ys : Yls} {p0 p1 : X} {S : St} {Q : Va → St → Bool → Prop} (h : ∀ R : St, S.n = R.n → S.h = R.h → R.lo = R.n → @Wp EE 45 ys false k45 [.x p0, .x p1, .u, .u, .u, .u, .u, .u, .u, .u, .u, .u, .u, .u, .u, .u, .u] (ext R []) ⟨exitQ EE [.tmp 4, .tmp 5] S Q⟩) : ∃ r, res EE ys (.f 45) [p0, p1] S = some r ∧ Q r.1 r.2.1 r.2.2 :=
  enter rfl (by kernel_rfl) sk45 (by kernel_rfl) (by kernel_rfl) ⟨rfl, by simp⟩ h

/-! ### function 46: boule/units.MulDiv -/
abbrev s46_0 : List Stp := [⟨none, some 8, .assign (.const (.int .i64 0))⟩,
  ⟨none, some 9, .assign (.const (.int .i64 0))⟩,
  ⟨none, some 10, .assign (.const (.int .i64 0))⟩]
abbrev s46_1 : List Stp := [⟨none, some 14, .move (.tmp 3)⟩,
  ⟨none, some 15, .binOp .lss 111 (.tmp 14) (.const (.int .u8 1)) 111⟩,
  ⟨none, some 16, .move (.tmp 15)⟩,
  ⟨some (16, false), some 17, .move (.tmp 3)⟩,
  ⟨some (16, false), some 18, .binOp .gtr 111 (.tmp 17) (.const (.int .u8 3)) 111⟩,
  ⟨none, some 19, .pick (.tmp 16) (.const (.bool true)) (.tmp 18)⟩,
  ⟨none, some 13, .assign (.tmp 19)⟩]
abbrev s46_2 : List Stp := [⟨none, some 8, .assign (.const (.int .i64 0))⟩,
  ⟨none, some 9, .assign (.const (.int .i64 0))⟩,
  ⟨none, some 10, .assign (.const (.int .i64 2))⟩]
abbrev s46_3 : List Stp := [⟨none, some 21, .move (.tmp 0)⟩,
  ⟨none, some 22, .move (.tmp 1)⟩,
  ⟨none, some 23, .buildSlice 30 2 #[(0, .tmp 21), (1, .tmp 22)]⟩,
  ⟨none, some 24, .call ⟨.value (.func 84), #[.tmp 23], #[30]⟩⟩,
  ⟨none, some 25, .unOp .not 4 (.tmp 24)⟩,
  ⟨none, some 26, .move (.tmp 25)⟩,
  ⟨some (26, false), some 27, .move (.tmp 2)⟩,
  ⟨some (26, false), some 28, .binOp .lss 3 (.tmp 27) (.const (.int .i64 1)) 3⟩,
  ⟨none, some 29, .pick (.tmp 26) (.const (.bool true)) (.tmp 28)⟩,
  ⟨none, some 30, .move (.tmp 29)⟩,
  ⟨some (30, false), some 31, .move (.tmp 2)⟩,
  ⟨some (30, false), some 32, .binOp .gtr 3 (.tmp 31) (.const (.int .i64 1000000000000000)) 3⟩,
  ⟨none, some 33, .pick (.tmp 30) (.const (.bool true)) (.tmp 32)⟩,
  ⟨none, some 20, .assign (.tmp 33)⟩]
abbrev s46_4 : List Stp := [⟨none, some 8, .assign (.const (.int .i64 0))⟩,
  ⟨none, some 9, .assign (.const (.int .i64 0))⟩,
  ⟨none, some 10, .assign (.const (.int .i64 3))⟩]
abbrev s46_5 : List Stp := [⟨none, some 35, .move (.tmp 0)⟩,
  ⟨none, some 36, .move (.tmp 1)⟩,
  ⟨none, some 37, .call ⟨.value (.func 85), #[.tmp 35, .tmp 36], #[3, 3]⟩⟩,
  ⟨none, some 38, .move (.tmp 2)⟩,
  ⟨none, some 39, .call ⟨.value (.func 86), #[.tmp 37, .tmp 38], #[165, 3]⟩⟩,
  ⟨none, some 34, .move (.tmp 39)⟩,
  ⟨none, some 40, .extract (.tmp 34) 0⟩,
  ⟨none, some 41, .extract (.tmp 34) 1⟩,
  ⟨none, some 42, .extract (.tmp 34) 2⟩,
  ⟨none, some 8, .assign (.tmp 40)⟩,
  ⟨none, some 9, .assign (.tmp 41)⟩,
  ⟨none, some 11, .assign (.tmp 42)⟩]
abbrev s46_6 : List Stp := [⟨none, some 43, .move (.tmp 8)⟩,
  ⟨none, some 44, .binOp .and 3 (.tmp 43) (.const (.int .i64 1)) 3⟩,
  ⟨none, some 45, .binOp .eql 3 (.tmp 44) (.const (.int .i64 1)) 3⟩,
  ⟨none, some 12, .assign (.tmp 45)⟩]
abbrev s46_7 : List Stp := [⟨none, some 46, .move (.tmp 11)⟩,
  ⟨none, some 47, .move (.tmp 46)⟩,
  ⟨some (47, true), some 48, .move (.tmp 9)⟩,
  ⟨some (47, true), some 49, .binOp .gtr 3 (.tmp 48) (.const (.int .i64 0)) 3⟩,
  ⟨none, some 50, .pick (.tmp 47) (.tmp 49) (.const (.bool false))⟩,
  ⟨none, some 51, .move (.tmp 50)⟩,
  ⟨some (51, true), some 52, .move (.tmp 3)⟩,
  ⟨some (51, true), some 53, .binOp .eql 111 (.tmp 52) (.const (.int .u8 2)) 111⟩,
  ⟨some (51, true), some 54, .move (.tmp 53)⟩,
  ⟨some (54, false), some 55, .move (.tmp 3)⟩,
  ⟨some (54, false), some 56, .binOp .eql 111 (.tmp 55) (.const (.int .u8 3)) 111⟩,
  ⟨some (54, false), some 57, .move (.tmp 56)⟩,
  ⟨some (57, true), some 58, .move (.tmp 9)⟩,
  ⟨some (57, true), some 59, .move (.tmp 2)⟩,
  ⟨some (57, true), some 60, .move (.tmp 9)⟩,
  ⟨some (57, true), some 61, .binOp .sub 3 (.tmp 59) (.tmp 60) 3⟩,
  ⟨some (57, true), some 62, .binOp .gtr 3 (.tmp 58) (.tmp 61) 3⟩,
  ⟨some (57, true), some 63, .move (.tmp 62)⟩,
  ⟨some (63, false), some 64, .move (.tmp 9)⟩,
  ⟨some (63, false), some 65, .move (.tmp 2)⟩,
  ⟨some (63, false), some 66, .move (.tmp 9)⟩,
  ⟨some (63, false), some 67, .binOp .sub 3 (.tmp 65) (.tmp 66) 3⟩,
  ⟨some (63, false), some 68, .binOp .eql 3 (.tmp 64) (.tmp 67) 3⟩,
  ⟨some (63, false), some 69, .move (.tmp 68)⟩,
  ⟨some (69, true), some 70, .move (.tmp 12)⟩,
  ⟨some (63, false), some 71, .pick (.tmp 69) (.tmp 70) (.const (.bool false))⟩,
  ⟨some (57, true), some 72, .pick (.tmp 63) (.const (.bool true)) (.tmp 71)⟩,
  ⟨some (54, false), some 73, .pick (.tmp 57) (.tmp 72) (.const (.bool false))⟩,
  ⟨some (51, true), some 74, .pick (.tmp 54) (.const (.bool true)) (.tmp 73)⟩,
  ⟨none, some 75, .pick (.tmp 51) (.tmp 74) (.const (.bool false))⟩]
abbrev s46_8 : List Stp := [⟨none, some 76, .move (.tmp 8)⟩,
  ⟨none, some 77, .binOp .add 3 (.tmp 76) (.const (.int .i64 1)) 3⟩,
  ⟨none, some 78, .move (.tmp 9)⟩,
  ⟨none, some 79, .move (.tmp 2)⟩,
  ⟨none, some 80, .binOp .sub 3 (.tmp 78) (.tmp 79) 3⟩,
  ⟨none, some 8, .assign (.tmp 77)⟩,
  ⟨none, some 9, .assign (.tmp 80)⟩]
abbrev s46_9 : List Stp := [⟨none, some 81, .move (.tmp 11)⟩,
  ⟨none, some 82, .unOp .not 4 (.tmp 81)⟩,
  ⟨none, some 83, .move (.tmp 82)⟩,
  ⟨some (83, false), some 84, .move (.tmp 8)⟩,
  ⟨some (83, false), some 85, .buildSlice 30 1 #[(0, .tmp 84)]⟩,
  ⟨some (83, false), some 86, .call ⟨.value (.func 84), #[.tmp 85], #[30]⟩⟩,
  ⟨some (83, false), some 87, .unOp .not 4 (.tmp 86)⟩,
  ⟨none, some 88, .pick (.tmp 83) (.const (.bool true)) (.tmp 87)⟩]
abbrev s46_10 : List Stp := [⟨none, some 8, .assign (.const (.int .i64 0))⟩,
  ⟨none, some 9, .assign (.const (.int .i64 0))⟩,
  ⟨none, some 10, .assign (.const (.int .i64 10))⟩]
abbrev s46_11 : List Stp := [⟨none, some 89, .move (.tmp 8)⟩,
  ⟨none, some 90, .move (.tmp 9)⟩,
  ⟨none, some 8, .assign (.tmp 89)⟩,
  ⟨none, some 9, .assign (.tmp 90)⟩,
  ⟨none, some 10, .assign (.const (.int .i64 0))⟩]
abbrev k46 : Sk := .seq (.reg 0 false s46_0) (.seq (.block 0 (.seq (.reg 1 false s46_1) (.cond (.tmp 13) (.seq (.reg 2 false s46_2) .ret) (.seq (.reg 3 false s46_3) (.cond (.tmp 20) (.seq (.reg 4 false s46_4) .ret) .skip))))) (.seq (.reg 5 false s46_5) (.seq (.seq (.reg 6 false s46_6) (.seq (.reg 7 false s46_7) (.cond (.tmp 75) (.reg 8 false s46_8) .skip))) (.seq (.seq (.reg 9 false s46_9) (.cond (.tmp 88) (.seq (.reg 10 false s46_10) .ret) .skip)) (.seq (.reg 11 false s46_11) .ret)))))
theorem sk46 : (Try.f46.body.bind (skOf 91)) = some k46 := by kernel_rfl
theorem en46 {ys : Yls} {p0 p1 p2 p3 : X} {S : St} {Q : Va → St → Bool → Prop} (h : ∀ R : St, S.n = R.n → S.h = R.h → R.lo = R.n → @Wp EE 46 ys false k46 [.x p0, .x p1, .x p2, .x p3, .u, .u, .u, .u, .u, .u, .u, .u, .u, .u, .u, .u, .u, .u, .u, .u, .u, .u, .u, .u, .u, .u, .u, .u, .u, .u, .u, .u, .u, .u, .u, .u, .u, .u, .u, .u, .u, .u, .u, .u, .u, .u, .u, .u, .u, .u, .u, .u, .u, .u, .u, .u, .u, .u, .u, .u, .u, .u, .u, .u, .u, .u, .u, .u, .u, .u, .u, .u, .u, .u, .u, .u, .u, .u, .u, .u, .u, .u, .u, .u, .u, .u, .u, .u, .u, .u, .u] (ext R []) ⟨exitQ EE [.tmp 8, .tmp 9, .tmp 10] S Q⟩) : ∃ r, res EE ys (.f 46) [p0, p1, p2, p3] S = some r ∧ Q r.1 r.2.1 r.2.2 :=
  enter rfl (by kernel_rfl) sk46 (by kernel_rfl) (by kernel_rfl) ⟨rfl, by simp⟩ h

/-! ### function 47: boule/boulelaw09.pair -/
abbrev s47_0 : List Stp := [⟨none, some 0, .assign (.const (.slice none 0 0))⟩]
abbrev s47_1 : List Stp := [⟨none, some 1, .build 24 #[(0, .const (.int .i64 1000000)), (1, .const (.int .i64 1000000))]⟩,
  ⟨none, some 2, .build 108 #[(0, .const (.int .i64 (-1))), (1, .tmp 1), (3, .const (.int .i64 9))]⟩,
  ⟨none, some 3, .build 24 #[(0, .const (.int .i64 999000)), (1, .const (.int .i64 1001000))]⟩,
  ⟨none, some 4, .build 24 #[(0, .const (.int .i64 (-1))), (1, .const (.int .i64 1))]⟩,
  ⟨none, some 5, .build 108 #[(1, .tmp 3), (2, .tmp 4), (3, .const (.int .i64 5))]⟩,
  ⟨none, some 6, .buildSlice 22 2 #[(0, .tmp 2), (1, .tmp 5)]⟩,
  ⟨none, some 0, .assign (.tmp 6)⟩]
abbrev k47 : Sk := .seq (.reg 0 false s47_0) (.seq (.reg 1 false s47_1) .ret)
theorem sk47 : (Try.f47.body.bind (skOf 7)) = some k47 := by kernel_rfl
theorem en47 {ys : Yls} {S : St} {Q : Va → St → Bool → Prop} (h : ∀ R : St, S.n = R.n → S.h = R.h → R.lo = R.n → @Wp EE 47 ys false k47 [.u, .u, .u, .u, .u, .u, .u] (ext R []) ⟨exitQ EE [.tmp 0] S Q⟩) : ∃ r, res EE ys (.f 47) [] S = some r ∧ Q r.1 r.2.1 r.2.2 :=
  enter rfl (by kernel_rfl) sk47 (by kernel_rfl) (by kernel_rfl) ⟨rfl, by simp⟩ h

/-! ### function 48: boule/boulelaw09.small -/
abbrev s48_0 : List Stp := [⟨none, some 0, .alloc 37⟩]
abbrev s48_1 : List Stp := [⟨none, some 1, .build 24 #[(0, .const (.int .i64 700)), (1, .const (.int .i64 710))]⟩,
  ⟨none, some 2, .build 24 #[]⟩,
  ⟨none, some 3, .build 24 #[(0, .const (.int .i64 2)), (1, .const (.int .i64 2))]⟩,
  ⟨none, some 4, .build 24 #[(0, .const (.int .i64 3)), (1, .const (.int .i64 3))]⟩,
  ⟨none, some 5, .build 24 #[(0, .const (.int .i64 1)), (1, .const (.int .i64 2))]⟩,
  ⟨none, some 6, .buildSlice 35 4 #[(0, .tmp 2), (1, .tmp 3), (2, .tmp 4), (3, .tmp 5)]⟩,
  ⟨none, some 7, .build 37 #[(0, .const (.int .i64 2)), (1, .const (.int .i64 2)), (2, .tmp 1), (3, .tmp 6)]⟩,
  ⟨none, none, .store 37 (.tmp 0) (.tmp 7)⟩]
abbrev k48 : Sk := .seq (.reg 0 false s48_0) (.seq (.reg 1 false s48_1) .ret)
theorem sk48 : (Try.f48.body.bind (skOf 8)) = some k48 := by kernel_rfl
theorem en48 {ys : Yls} {S : St} {Q : Va → St → Bool → Prop} (h : ∀ R : St, S.n = R.n → S.h = R.h → R.lo = R.n → @Wp EE 48 ys false k48 [.u, .u, .u, .u, .u, .u, .u, .u] (ext R []) ⟨exitQ EE [.cell 0 37] S Q⟩) : ∃ r, res EE ys (.f 48) [] S = some r ∧ Q r.1 r.2.1 r.2.2 :=
  enter rfl (by kernel_rfl) sk48 (by kernel_rfl) (by kernel_rfl) ⟨rfl, by simp⟩ h

/-! ### function 49: (boule/finish.limits).has -/
abbrev s49_0 : List Stp := [⟨none, some 2, .box 116 (.tmp 0)⟩,
  ⟨none, some 4, .assign (.const (.bool false))⟩]
abbrev s49_1 : List Stp := [⟨none, some 5, .move (.tmp 1)⟩,
  ⟨none, some 6, .makeFunc (.func 88) #[] #[.tmp 2]⟩,
  ⟨none, some 7, .call ⟨.value (.func 87), #[.tmp 5, .tmp 6], #[35, 123]⟩⟩,
  ⟨none, some 8, .unOp .not 4 (.tmp 7)⟩,
  ⟨none, some 4, .assign (.tmp 8)⟩]
abbrev k49 : Sk := .seq (.reg 0 false s49_0) (.seq (.reg 1 false s49_1) .ret)
theorem sk49 : (Try.f49.body.bind (skOf 9)) = some k49 := by kernel_rfl
theorem en49 {ys : Yls} {p0 p1 : X} {S : St} {Q : Va → St → Bool → Prop} (h : ∀ R : St, S.n = R.n → S.h = R.h → R.lo = R.n → @Wp EE 49 ys false k49 [.x p0, .x p1, .u, .u, .u, .u, .u, .u, .u] (ext R []) ⟨exitQ EE [.tmp 4] S Q⟩) : ∃ r, res EE ys (.f 49) [p0, p1] S = some r ∧ Q r.1 r.2.1 r.2.2 :=
  enter rfl (by kernel_rfl) sk49 (by kernel_rfl) (by kernel_rfl) ⟨rfl, by simp⟩ h

/-! ### function 50: boule/finish.heights -/
abbrev s50_0 : List Stp := [⟨none, some 0, .alloc 116⟩]
abbrev s50_1 : List Stp := [⟨none, some 1, .build 116 #[(0, .const (.int .i64 (-1000000))), (1, .const (.int .i64 1000000))]⟩,
  ⟨none, none, .store 116 (.tmp 0) (.tmp 1)⟩]
abbrev k50 : Sk := .seq (.reg 0 false s50_0) (.seq (.reg 1 false s50_1) .ret)
theorem sk50 : (Try.f50.body.bind (skOf 2)) = some k50 := by kernel_rfl
theorem en50 {ys : Yls} {S : St} {Q : Va → St → Bool → Prop} (h : ∀ R : St, S.n = R.n → S.h = R.h → R.lo = R.n → @Wp EE 50 ys false k50 [.u, .u] (ext R []) ⟨exitQ EE [.cell 0 116] S Q⟩) : ∃ r, res EE ys (.f 50) [] S = some r ∧ Q r.1 r.2.1 r.2.2 :=
  enter rfl (by kernel_rfl) sk50 (by kernel_rfl) (by kernel_rfl) ⟨rfl, by simp⟩ h

/-! ### function 51: slices.ContainsFunc[[]int,int] -/
abbrev s51_0 : List Stp := [⟨none, some 4, .assign (.const (.bool false))⟩]
abbrev s51_1 : List Stp := [⟨none, some 5, .move (.tmp 0)⟩,
  ⟨none, some 6, .move (.tmp 1)⟩,
  ⟨none, some 7, .call ⟨.value (.func 89), #[.tmp 5, .tmp 6], #[30, 120]⟩⟩,
  ⟨none, some 8, .binOp .geq 3 (.tmp 7) (.const (.int .i64 0)) 3⟩,
  ⟨none, some 4, .assign (.tmp 8)⟩]
abbrev k51 : Sk := .seq (.reg 0 false s51_0) (.seq (.reg 1 false s51_1) .ret)
theorem sk51 : (Try.f51.body.bind (skOf 9)) = some k51 := by kernel_rfl
theorem en51 {ys : Yls} {p0 p1 : X} {S : St} {Q : Va → St → Bool → Prop} (h : ∀ R : St, S.n = R.n → S.h = R.h → R.lo = R.n → @Wp EE 51 ys false k51 [.x p0, .x p1, .u, .u, .u, .u, .u, .u, .u] (ext R []) ⟨exitQ EE [.tmp 4] S Q⟩) : ∃ r, res EE ys (.f 51) [p0, p1] S = some r ∧ Q r.1 r.2.1 r.2.2 :=
  enter rfl (by kernel_rfl) sk51 (by kernel_rfl) (by kernel_rfl) ⟨rfl, by simp⟩ h

/-! ### function 52: boule/finish.Trace$1 -/
abbrev s52_0 : List Stp := [⟨none, some 4, .assign (.const (.bool false))⟩]
abbrev s52_1 : List Stp := [⟨none, some 5, .load 3 (.tmp 1)⟩,
  ⟨none, some 6, .load 22 (.tmp 2)⟩,
  ⟨none, some 7, .move (.tmp 0)⟩,
  ⟨none, some 8, .indexAddr 22 (.tmp 6) (.tmp 7)⟩,
  ⟨none, some 9, .fieldAddr 108 (.tmp 8) 3⟩,
  ⟨none, some 10, .load 3 (.tmp 9)⟩,
  ⟨none, some 11, .binOp .gtr 3 (.tmp 5) (.tmp 10) 3⟩,
  ⟨none, some 4, .assign (.tmp 11)⟩]
abbrev k52 : Sk := .seq (.reg 0 false s52_0) (.seq (.reg 1 true s52_1) .ret)
theorem sk52 : (Try.f52.body.bind (skOf 12)) = some k52 := by kernel_rfl
theorem en52 {ys : Yls} {p0 p1 p2 : X} {S : St} {Q : Va → St → Bool → Prop} (h : ∀ R : St, S.n = R.n → S.h = R.h → R.lo = R.n → @Wp EE 52 ys false k52 [.x p0, .x p1, .x p2, .u, .u, .u, .u, .u, .u, .u, .u, .u] (ext R []) ⟨exitQ EE [.tmp 4] S Q⟩) : ∃ r, res EE ys (.f 52) [p0, p1, p2] S = some r ∧ Q r.1 r.2.1 r.2.2 :=
  enter rfl (by kernel_rfl) sk52 (by kernel_rfl) (by kernel_rfl) ⟨rfl, by simp⟩ h

/-! ### function 53: boule/units.Times -/
abbrev s53_0 : List Stp := [⟨none, some 3, .box 24 (.tmp 0)⟩,
  ⟨none, some 4, .box 24 (.tmp 1)⟩,
  ⟨none, some 6, .alloc 24⟩,
  ⟨none, some 7, .assign (.const (.int .i64 0))⟩]
abbrev s53_1 : List Stp := [⟨none, some 14, .load 24 (.tmp 3)⟩,
  ⟨none, some 15, .load 24 (.tmp 4)⟩,
  ⟨none, some 16, .buildSlice 35 2 #[(0, .tmp 14), (1, .tmp 15)]⟩,
  ⟨none, some 17, .call ⟨.value (.func 90), #[.tmp 16], #[35]⟩⟩,
  ⟨none, some 18, .unOp .not 4 (.tmp 17)⟩,
  ⟨none, some 13, .assign (.tmp 18)⟩]
abbrev s53_2 : List Stp := [⟨none, some 19, .build 24 #[]⟩,
  ⟨none, none, .store 24 (.tmp 6) (.tmp 19)⟩,
  ⟨none, some 7, .assign (.const (.int .i64 2))⟩]
abbrev s53_3 : List Stp := [⟨none, some 21, .move (.tmp 2)⟩,
  ⟨none, some 22, .binOp .lss 3 (.tmp 21) (.const (.int .i64 1)) 3⟩,
  ⟨none, some 23, .move (.tmp 22)⟩,
  ⟨some (23, false), some 24, .move (.tmp 2)⟩,
  ⟨some (23, false), some 25, .binOp .gtr 3 (.tmp 24) (.const (.int .i64 1000000000000000)) 3⟩,
  ⟨none, some 26, .pick (.tmp 23) (.const (.bool true)) (.tmp 25)⟩,
  ⟨none, some 20, .assign (.tmp 26)⟩]
abbrev s53_4 : List Stp := [⟨none, some 27, .build 24 #[]⟩,
  ⟨none, none, .store 24 (.tmp 6) (.tmp 27)⟩,
  ⟨none, some 7, .assign (.const (.int .i64 3))⟩]
abbrev s53_5 : List Stp := [⟨none, some 8, .alloc 171⟩]
abbrev s53_6 : List Stp := [⟨none, some 28, .fieldAddr 24 (.tmp 3) 0⟩,
  ⟨none, some 29, .load 3 (.tmp 28)⟩,
  ⟨none, some 30, .fieldAddr 24 (.tmp 3) 1⟩,
  ⟨none, some 31, .load 3 (.tmp 30)⟩,
  ⟨none, some 32, .build 115 #[(0, .tmp 29), (1, .tmp 31)]⟩,
  ⟨none, some 33, .move (.const (.int .i64 0))⟩]
abbrev s53_7 : List Stp := [⟨none, some 34, .binOp .lss 3 (.tmp 33) (.const (.int .i64 2)) 3⟩]
abbrev s53_8 : List Stp := [⟨none, some 35, .index 115 (.tmp 32) (.tmp 33)⟩,
  ⟨none, some 10, .assign (.tmp 35)⟩]
abbrev s53_9 : List Stp := [⟨none, some 36, .fieldAddr 24 (.tmp 4) 0⟩,
  ⟨none, some 37, .load 3 (.tmp 36)⟩,
  ⟨none, some 38, .fieldAddr 24 (.tmp 4) 1⟩,
  ⟨none, some 39, .load 3 (.tmp 38)⟩,
  ⟨none, some 40, .build 115 #[(0, .tmp 37), (1, .tmp 39)]⟩,
  ⟨none, some 41, .move (.const (.int .i64 0))⟩]
abbrev s53_10 : List Stp := [⟨none, some 42, .binOp .lss 3 (.tmp 41) (.const (.int .i64 2)) 3⟩]
abbrev s53_11 : List Stp := [⟨none, some 43, .index 115 (.tmp 40) (.tmp 41)⟩,
  ⟨none, some 12, .assign (.tmp 43)⟩]
abbrev s53_12 : List Stp := [⟨none, some 44, .move (.tmp 10)⟩,
  ⟨none, some 45, .move (.tmp 12)⟩,
  ⟨none, some 46, .move (.tmp 2)⟩,
  ⟨none, some 47, .call ⟨.value (.func 91), #[.tmp 8, .tmp 44, .tmp 45, .tmp 46], #[171, 3, 3, 3]⟩⟩]
abbrev s53_13 : List Stp := [⟨none, some 48, .binOp .add 3 (.tmp 41) (.const (.int .i64 1)) 3⟩,
  ⟨none, some 41, .move (.tmp 48)⟩]
abbrev l53_0 : Sk := .seq (.reg 10 false s53_10) (.seq (.cond (.tmp 42) .skip (.exit 3)) (.seq (.block 4 (.seq (.reg 11 false s53_11) (.reg 12 false s53_12))) (.reg 13 false s53_13)))
abbrev s53_14 : List Stp := [⟨none, some 49, .binOp .add 3 (.tmp 33) (.const (.int .i64 1)) 3⟩,
  ⟨none, some 33, .move (.tmp 49)⟩]
abbrev l53_1 : Sk := .seq (.reg 7 false s53_7) (.seq (.cond (.tmp 34) .skip (.exit 1)) (.seq (.block 2 (.seq (.reg 8 false s53_8) (.seq (.reg 9 false s53_9) (.block 3 (.loop l53_0))))) (.reg 14 false s53_14)))
abbrev s53_15 : List Stp := [⟨none, some 50, .call ⟨.value (.func 92), #[.tmp 8], #[171]⟩⟩,
  ⟨none, some 51, .extract (.tmp 50) 0⟩,
  ⟨none, some 52, .extract (.tmp 50) 1⟩,
  ⟨none, none, .store 24 (.tmp 6) (.tmp 51)⟩,
  ⟨none, some 7, .assign (.tmp 52)⟩]
abbrev k53 : Sk := .seq (.reg 0 false s53_0) (.seq (.block 0 (.seq (.reg 1 false s53_1) (.cond (.tmp 13) (.seq (.reg 2 false s53_2) .ret) (.seq (.reg 3 false s53_3) (.cond (.tmp 20) (.seq (.reg 4 false s53_4) .ret) .skip))))) (.seq (.reg 5 false s53_5) (.seq (.seq (.reg 6 false s53_6) (.block 1 (.loop l53_1))) (.seq (.reg 15 false s53_15) .ret))))
theorem sk53 : (Try.f53.body.bind (skOf 53)) = some k53 := by kernel_rfl
theorem en53 {ys : Yls} {p0 p1 p2 : X} {S : St} {Q : Va → St → Bool → Prop} (h : ∀ R : St, S.n = R.n → S.h = R.h → R.lo = R.n → @Wp EE 53 ys false k53 [.x p0, .x p1, .x p2, .u, .u, .u, .u, .u, .u, .u, .u, .u, .u, .u, .u, .u, .u, .u, .u, .u, .u, .u, .u, .u, .u, .u, .u, .u, .u, .u, .u, .u, .u, .u, .u, .u, .u, .u, .u, .u, .u, .u, .u, .u, .u, .u, .u, .u, .u, .u, .u, .u, .u] (ext R []) ⟨exitQ EE [.cell 6 24, .tmp 7] S Q⟩) : ∃ r, res EE ys (.f 53) [p0, p1, p2] S = some r ∧ Q r.1 r.2.1 r.2.2 :=
  enter rfl (by kernel_rfl) sk53 (by kernel_rfl) (by kernel_rfl) ⟨rfl, by simp⟩ h

/-! ### function 54: boule/units.Sum -/
abbrev s54_0 : List Stp := [⟨none, some 2, .alloc 24⟩,
  ⟨none, some 3, .assign (.const (.int .i64 0))⟩]
abbrev s54_1 : List Stp := [⟨none, some 5, .move (.tmp 0)⟩,
  ⟨none, some 6, .call ⟨.value (.func 93), #[.tmp 5], #[35]⟩⟩,
  ⟨none, some 4, .assign (.tmp 6)⟩]
abbrev s54_2 : List Stp := [⟨none, some 7, .move (.tmp 4)⟩,
  ⟨none, some 8, .binOp .neq 28 (.tmp 7) (.const (.int .i64 0)) 28⟩]
abbrev s54_3 : List Stp := [⟨none, some 9, .build 24 #[]⟩,
  ⟨none, some 10, .move (.tmp 4)⟩,
  ⟨none, none, .store 24 (.tmp 2) (.tmp 9)⟩,
  ⟨none, some 3, .assign (.tmp 10)⟩]
abbrev s54_4 : List Stp := [⟨none, some 11, .move (.tmp 0)⟩,
  ⟨none, some 12, .call ⟨.value (.func 95), #[.tmp 11], #[35]⟩⟩,
  ⟨none, some 13, .extract (.tmp 12) 0⟩,
  ⟨none, some 14, .extract (.tmp 12) 1⟩,
  ⟨none, some 15, .call ⟨.value (.func 94), #[.tmp 13, .tmp 14], #[3, 3]⟩⟩,
  ⟨none, some 16, .extract (.tmp 15) 0⟩,
  ⟨none, some 17, .extract (.tmp 15) 1⟩,
  ⟨none, none, .store 24 (.tmp 2) (.tmp 16)⟩,
  ⟨none, some 3, .assign (.tmp 17)⟩]
abbrev k54 : Sk := .seq (.reg 0 false s54_0) (.seq (.seq (.reg 1 false s54_1) (.seq (.reg 2 false s54_2) (.cond (.tmp 8) (.seq (.reg 3 false s54_3) .ret) .skip))) (.seq (.reg 4 false s54_4) .ret))
theorem sk54 : (Try.f54.body.bind (skOf 18)) = some k54 := by kernel_rfl
theorem en54 {ys : Yls} {p0 : X} {S : St} {Q : Va → St → Bool → Prop} (h : ∀ R : St, S.n = R.n → S.h = R.h → R.lo = R.n → @Wp EE 54 ys false k54 [.x p0, .u, .u, .u, .u, .u, .u, .u, .u, .u, .u, .u, .u, .u, .u, .u, .u, .u] (ext R []) ⟨exitQ EE [.cell 2 24, .tmp 3] S Q⟩) : ∃ r, res EE ys (.f 54) [p0] S = some r ∧ Q r.1 r.2.1 r.2.2 :=
  enter rfl (by kernel_rfl) sk54 (by kernel_rfl) (by kernel_rfl) ⟨rfl, by simp⟩ h

/-! ### function 55: boule/bouleref01.Range -/
abbrev s55_0 : List Stp := [⟨none, some 1, .box 24 (.tmp 0)⟩,
  ⟨none, some 2, .assign (.const (.bool false))⟩]
abbrev s55_1 : List Stp := [⟨none, some 3, .fieldAddr 24 (.tmp 1) 0⟩,
  ⟨none, some 4, .load 3 (.tmp 3)⟩,
  ⟨none, some 5, .call ⟨.value (.func 96), #[.tmp 4], #[3]⟩⟩,
  ⟨none, some 6, .move (.tmp 5)⟩,
  ⟨some (6, true), some 7, .fieldAddr 24 (.tmp 1) 1⟩,
  ⟨some (6, true), some 8, .load 3 (.tmp 7)⟩,
  ⟨some (6, true), some 9, .call ⟨.value (.func 96), #[.tmp 8], #[3]⟩⟩,
  ⟨none, some 10, .pick (.tmp 6) (.tmp 9) (.const (.bool false))⟩,
  ⟨none, some 11, .move (.tmp 10)⟩,
  ⟨some (11, true), some 12, .fieldAddr 24 (.tmp 1) 0⟩,
  ⟨some (11, true), some 13, .load 3 (.tmp 12)⟩,
  ⟨some (11, true), some 14, .fieldAddr 24 (.tmp 1) 1⟩,
  ⟨some (11, true), some 15, .load 3 (.tmp 14)⟩,
  ⟨some (11, true), some 16, .binOp .leq 3 (.tmp 13) (.tmp 15) 3⟩,
  ⟨none, some 17, .pick (.tmp 11) (.tmp 16) (.const (.bool false))⟩,
  ⟨none, some 2, .assign (.tmp 17)⟩]
abbrev k55 : Sk := .seq (.reg 0 false s55_0) (.seq (.reg 1 false s55_1) .ret)
theorem sk55 : (Try.f55.body.bind (skOf 18)) = some k55 := by kernel_rfl
theorem en55 {ys : Yls} {p0 : X} {S : St} {Q : Va → St → Bool → Prop} (h : ∀ R : St, S.n = R.n → S.h = R.h → R.lo = R.n → @Wp EE 55 ys false k55 [.x p0, .u, .u, .u, .u, .u, .u, .u, .u, .u, .u, .u, .u, .u, .u, .u, .u, .u] (ext R []) ⟨exitQ EE [.tmp 2] S Q⟩) : ∃ r, res EE ys (.f 55) [p0] S = some r ∧ Q r.1 r.2.1 r.2.2 :=
  enter rfl (by kernel_rfl) sk55 (by kernel_rfl) (by kernel_rfl) ⟨rfl, by simp⟩ h

/-! ### function 56: boule/bouleref01.Times -/
abbrev s56_0 : List Stp := [⟨none, some 3, .box 24 (.tmp 0)⟩,
  ⟨none, some 4, .box 24 (.tmp 1)⟩,
  ⟨none, some 6, .alloc 24⟩,
  ⟨none, some 7, .assign (.const (.int .i64 0))⟩]
abbrev s56_1 : List Stp := [⟨none, some 8, .load 24 (.tmp 3)⟩,
  ⟨none, some 9, .call ⟨.value (.func 55), #[.tmp 8], #[24]⟩⟩,
  ⟨none, some 10, .unOp .not 4 (.tmp 9)⟩,
  ⟨none, some 11, .move (.tmp 10)⟩,
  ⟨some (11, false), some 12, .load 24 (.tmp 4)⟩,
  ⟨some (11, false), some 13, .call ⟨.value (.func 55), #[.tmp 12], #[24]⟩⟩,
  ⟨some (11, false), some 14, .unOp .not 4 (.tmp 13)⟩,
  ⟨none, some 15, .pick (.tmp 11) (.const (.bool true)) (.tmp 14)⟩]
abbrev s56_2 : List Stp := [⟨none, some 16, .build 24 #[]⟩,
  ⟨none, none, .store 24 (.tmp 6) (.tmp 16)⟩,
  ⟨none, some 7, .assign (.const (.int .i64 2))⟩]
abbrev s56_3 : List Stp := [⟨none, some 17, .move (.tmp 2)⟩,
  ⟨none, some 18, .binOp .lss 3 (.tmp 17) (.const (.int .i64 1)) 3⟩,
  ⟨none, some 19, .move (.tmp 18)⟩,
  ⟨some (19, false), some 20, .move (.tmp 2)⟩,
  ⟨some (19, false), some 21, .binOp .gtr 3 (.tmp 20) (.const (.int .i64 1000000000000000)) 3⟩,
  ⟨none, some 22, .pick (.tmp 19) (.const (.bool true)) (.tmp 21)⟩]
abbrev s56_4 : List Stp := [⟨none, some 23, .build 24 #[]⟩,
  ⟨none, none, .store 24 (.tmp 6) (.tmp 23)⟩,
  ⟨none, some 7, .assign (.const (.int .i64 3))⟩]
abbrev s56_5 : List Stp := [⟨none, some 24, .fieldAddr 24 (.tmp 3) 0⟩,
  ⟨none, some 25, .load 3 (.tmp 24)⟩,
  ⟨none, some 26, .fieldAddr 24 (.tmp 3) 1⟩,
  ⟨none, some 27, .load 3 (.tmp 26)⟩,
  ⟨none, some 28, .buildSlice 30 2 #[(0, .tmp 25), (1, .tmp 27)]⟩,
  ⟨none, some 29, .fieldAddr 24 (.tmp 4) 0⟩,
  ⟨none, some 30, .load 3 (.tmp 29)⟩,
  ⟨none, some 31, .move (.tmp 2)⟩,
  ⟨none, some 32, .build 49 #[(0, .tmp 30), (1, .tmp 31)]⟩,
  ⟨none, some 33, .fieldAddr 24 (.tmp 4) 1⟩,
  ⟨none, some 34, .load 3 (.tmp 33)⟩,
  ⟨none, some 35, .move (.tmp 2)⟩,
  ⟨none, some 36, .build 49 #[(0, .tmp 34), (1, .tmp 35)]⟩,
  ⟨none, some 37, .buildSlice 67 2 #[(0, .tmp 32), (1, .tmp 36)]⟩,
  ⟨none, some 38, .call ⟨.value (.func 97), #[.tmp 28, .tmp 37], #[30, 67]⟩⟩,
  ⟨none, some 39, .extract (.tmp 38) 0⟩,
  ⟨none, some 40, .extract (.tmp 38) 1⟩,
  ⟨none, none, .store 24 (.tmp 6) (.tmp 39)⟩,
  ⟨none, some 7, .assign (.tmp 40)⟩]
abbrev k56 : Sk := .seq (.reg 0 false s56_0) (.seq (.seq (.reg 1 false s56_1) (.cond (.tmp 15) (.seq (.reg 2 false s56_2) .ret) .skip)) (.seq (.seq (.reg 3 false s56_3) (.cond (.tmp 22) (.seq (.reg 4 false s56_4) .ret) .skip)) (.seq (.reg 5 false s56_5) .ret)))
theorem sk56 : (Try.f56.body.bind (skOf 41)) = some k56 := by kernel_rfl
theorem en56 {ys : Yls} {p0 p1 p2 : X} {S : St} {Q : Va → St → Bool → Prop} (h : ∀ R : St, S.n = R.n → S.h = R.h → R.lo = R.n → @Wp EE 56 ys false k56 [.x p0, .x p1, .x p2, .u, .u, .u, .u, .u, .u, .u, .u, .u, .u, .u, .u, .u, .u, .u, .u, .u, .u, .u, .u, .u, .u, .u, .u, .u, .u, .u, .u, .u, .u, .u, .u, .u, .u, .u, .u, .u, .u] (ext R []) ⟨exitQ EE [.cell 6 24, .tmp 7] S Q⟩) : ∃ r, res EE ys (.f 56) [p0, p1, p2] S = some r ∧ Q r.1 r.2.1 r.2.2 :=
  enter rfl (by kernel_rfl) sk56 (by kernel_rfl) (by kernel_rfl) ⟨rfl, by simp⟩ h

/-! ### function 57: boule/bouleref01.Sum -/
abbrev s57_0 : List Stp := [⟨none, some 2, .alloc 24⟩,
  ⟨none, some 3, .assign (.const (.int .i64 0))⟩]
abbrev s57_1 : List Stp := [⟨none, some 8, .move (.tmp 0)⟩,
  ⟨none, some 9, .call ⟨.value (.func 98), #[.tmp 8], #[35]⟩⟩,
  ⟨none, some 4, .assign (.tmp 9)⟩]
abbrev s57_2 : List Stp := [⟨none, some 10, .move (.tmp 4)⟩,
  ⟨none, some 11, .binOp .neq 28 (.tmp 10) (.const (.int .i64 0)) 28⟩]
abbrev s57_3 : List Stp := [⟨none, some 12, .build 24 #[]⟩,
  ⟨none, some 13, .move (.tmp 4)⟩,
  ⟨none, none, .store 24 (.tmp 2) (.tmp 12)⟩,
  ⟨none, some 3, .assign (.tmp 13)⟩]
abbrev s57_4 : List Stp := [⟨none, some 5, .assign (.const (.int .i64 0))⟩,
  ⟨none, some 6, .assign (.const (.int .i64 0))⟩]
abbrev s57_5 : List Stp := [⟨none, some 7, .assign (.const (.int .i64 0))⟩]
abbrev s57_6 : List Stp := [⟨none, some 14, .move (.tmp 7)⟩,
  ⟨none, some 15, .move (.tmp 0)⟩,
  ⟨none, some 16, .call ⟨.builtin .len, #[.tmp 15], #[35]⟩⟩,
  ⟨none, some 17, .binOp .lss 3 (.tmp 14) (.tmp 16) 3⟩]
abbrev s57_8 : List Stp := [⟨none, some 20, .move (.tmp 5)⟩,
  ⟨none, some 21, .move (.tmp 0)⟩,
  ⟨none, some 22, .move (.tmp 7)⟩,
  ⟨none, some 23, .indexAddr 35 (.tmp 21) (.tmp 22)⟩,
  ⟨none, some 24, .fieldAddr 24 (.tmp 23) 0⟩,
  ⟨none, some 25, .load 3 (.tmp 24)⟩,
  ⟨none, some 26, .binOp .add 3 (.tmp 20) (.tmp 25) 3⟩,
  ⟨none, some 27, .move (.tmp 6)⟩,
  ⟨none, some 28, .move (.tmp 0)⟩,
  ⟨none, some 29, .move (.tmp 7)⟩,
  ⟨none, some 30, .indexAddr 35 (.tmp 28) (.tmp 29)⟩,
  ⟨none, some 31, .fieldAddr 24 (.tmp 30) 1⟩,
  ⟨none, some 32, .load 3 (.tmp 31)⟩,
  ⟨none, some 33, .binOp .add 3 (.tmp 27) (.tmp 32) 3⟩,
  ⟨none, some 5, .assign (.tmp 26)⟩,
  ⟨none, some 6, .assign (.tmp 33)⟩]
abbrev s57_7 : List Stp := [⟨none, some 18, .move (.tmp 7)⟩,
  ⟨none, some 19, .binOp .add 3 (.tmp 18) (.const (.int .i64 1)) 3⟩,
  ⟨none, some 7, .assign (.tmp 19)⟩]
abbrev l57_0 : Sk := .seq (.seq (.reg 6 false s57_6) (.cond (.tmp 17) .skip (.exit 0))) (.seq (.block 1 (.reg 8 true s57_8)) (.reg 7 false s57_7))
abbrev s57_9 : List Stp := [⟨none, some 34, .move (.tmp 5)⟩,
  ⟨none, some 35, .move (.tmp 6)⟩,
  ⟨none, some 36, .call ⟨.value (.func 99), #[.tmp 34, .tmp 35, .const (.bool true)], #[3, 3, 4]⟩⟩,
  ⟨none, some 37, .extract (.tmp 36) 0⟩,
  ⟨none, some 38, .extract (.tmp 36) 1⟩,
  ⟨none, none, .store 24 (.tmp 2) (.tmp 37)⟩,
  ⟨none, some 3, .assign (.tmp 38)⟩]
abbrev k57 : Sk := .seq (.reg 0 false s57_0) (.seq (.seq (.reg 1 false s57_1) (.seq (.reg 2 false s57_2) (.cond (.tmp 11) (.seq (.reg 3 false s57_3) .ret) .skip))) (.seq (.reg 4 false s57_4) (.seq (.seq (.reg 5 false s57_5) (.block 0 (.loop l57_0))) (.seq (.reg 9 false s57_9) .ret))))
theorem sk57 : (Try.f57.body.bind (skOf 39)) = some k57 := by kernel_rfl
theorem en57 {ys : Yls} {p0 : X} {S : St} {Q : Va → St → Bool → Prop} (h : ∀ R : St, S.n = R.n → S.h = R.h → R.lo = R.n → @Wp EE 57 ys false k57 [.x p0, .u, .u, .u, .u, .u, .u, .u, .u, .u, .u, .u, .u, .u, .u, .u, .u, .u, .u, .u, .u, .u, .u, .u, .u, .u, .u, .u, .u, .u, .u, .u, .u, .u, .u, .u, .u, .u, .u] (ext R []) ⟨exitQ EE [.cell 2 24, .tmp 3] S Q⟩) : ∃ r, res EE ys (.f 57) [p0] S = some r ∧ Q r.1 r.2.1 r.2.2 :=
  enter rfl (by kernel_rfl) sk57 (by kernel_rfl) (by kernel_rfl) ⟨rfl, by simp⟩ h

/-! ### function 58: boule/bouleref09.span -/
abbrev s58_0 : List Stp := [⟨none, some 3, .box 24 (.tmp 0)⟩,
  ⟨none, some 6, .assign (.const (.bool false))⟩]
abbrev s58_1 : List Stp := [⟨none, some 7, .fieldAddr 24 (.tmp 3) 0⟩,
  ⟨none, some 8, .load 3 (.tmp 7)⟩,
  ⟨none, some 9, .move (.tmp 1)⟩,
  ⟨none, some 10, .binOp .geq 3 (.tmp 8) (.tmp 9) 3⟩,
  ⟨none, some 11, .move (.tmp 10)⟩,
  ⟨some (11, true), some 12, .fieldAddr 24 (.tmp 3) 0⟩,
  ⟨some (11, true), some 13, .load 3 (.tmp 12)⟩,
  ⟨some (11, true), some 14, .fieldAddr 24 (.tmp 3) 1⟩,
  ⟨some (11, true), some 15, .load 3 (.tmp 14)⟩,
  ⟨some (11, true), some 16, .binOp .leq 3 (.tmp 13) (.tmp 15) 3⟩,
  ⟨none, some 17, .pick (.tmp 11) (.tmp 16) (.const (.bool false))⟩,
  ⟨none, some 18, .move (.tmp 17)⟩,
  ⟨some (18, true), some 19, .fieldAddr 24 (.tmp 3) 1⟩,
  ⟨some (18, true), some 20, .load 3 (.tmp 19)⟩,
  ⟨some (18, true), some 21, .move (.tmp 2)⟩,
  ⟨some (18, true), some 22, .binOp .leq 3 (.tmp 20) (.tmp 21) 3⟩,
  ⟨none, some 23, .pick (.tmp 18) (.tmp 22) (.const (.bool false))⟩,
  ⟨none, some 6, .assign (.tmp 23)⟩]
abbrev k58 : Sk := .seq (.reg 0 false s58_0) (.seq (.reg 1 false s58_1) .ret)
theorem sk58 : (Try.f58.body.bind (skOf 24)) = some k58 := by kernel_rfl
theorem en58 {ys : Yls} {p0 p1 p2 : X} {S : St} {Q : Va → St → Bool → Prop} (h : ∀ R : St, S.n = R.n → S.h = R.h → R.lo = R.n → @Wp EE 58 ys false k58 [.x p0, .x p1, .x p2, .u, .u, .u, .u, .u, .u, .u, .u, .u, .u, .u, .u, .u, .u, .u, .u, .u, .u, .u, .u, .u] (ext R []) ⟨exitQ EE [.tmp 6] S Q⟩) : ∃ r, res EE ys (.f 58) [p0, p1, p2] S = some r ∧ Q r.1 r.2.1 r.2.2 :=
  enter rfl (by kernel_rfl) sk58 (by kernel_rfl) (by kernel_rfl) ⟨rfl, by simp⟩ h

/-! ### function 59: boule/finish.amounts -/
abbrev s59_0 : List Stp := [⟨none, some 0, .alloc 116⟩]
abbrev s59_1 : List Stp := [⟨none, some 1, .build 116 #[(0, .const (.int .i64 0)), (1, .const (.int .i64 10000000))]⟩,
  ⟨none, none, .store 116 (.tmp 0) (.tmp 1)⟩]
abbrev k59 : Sk := .seq (.reg 0 false s59_0) (.seq (.reg 1 false s59_1) .ret)
theorem sk59 : (Try.f59.body.bind (skOf 2)) = some k59 := by kernel_rfl
theorem en59 {ys : Yls} {S : St} {Q : Va → St → Bool → Prop} (h : ∀ R : St, S.n = R.n → S.h = R.h → R.lo = R.n → @Wp EE 59 ys false k59 [.u, .u] (ext R []) ⟨exitQ EE [.cell 0 116] S Q⟩) : ∃ r, res EE ys (.f 59) [] S = some r ∧ Q r.1 r.2.1 r.2.2 :=
  enter rfl (by kernel_rfl) sk59 (by kernel_rfl) (by kernel_rfl) ⟨rfl, by simp⟩ h

/-! ### function 60: boule/finish.hull -/
abbrev s60_0 : List Stp := [⟨none, some 1, .box 37 (.tmp 0)⟩,
  ⟨none, some 2, .alloc 24⟩]
abbrev s60_1 : List Stp := [⟨none, some 6, .fieldAddr 37 (.tmp 1) 3⟩,
  ⟨none, some 7, .load 35 (.tmp 6)⟩,
  ⟨none, some 8, .call ⟨.value (.func 100), #[.tmp 7], #[35]⟩⟩,
  ⟨none, some 5, .move (.tmp 8)⟩,
  ⟨none, some 9, .extract (.tmp 5) 0⟩,
  ⟨none, some 10, .extract (.tmp 5) 1⟩,
  ⟨none, some 3, .alloc 24⟩,
  ⟨none, none, .store 24 (.tmp 3) (.tmp 9)⟩,
  ⟨none, some 4, .assign (.tmp 10)⟩]
abbrev s60_2 : List Stp := [⟨none, some 11, .load 24 (.tmp 3)⟩,
  ⟨none, none, .store 24 (.tmp 2) (.tmp 11)⟩]
abbrev k60 : Sk := .seq (.reg 0 false s60_0) (.seq (.reg 1 false s60_1) (.seq (.reg 2 false s60_2) .ret))
theorem sk60 : (Try.f60.body.bind (skOf 12)) = some k60 := by kernel_rfl
theorem en60 {ys : Yls} {p0 : X} {S : St} {Q : Va → St → Bool → Prop} (h : ∀ R : St, S.n = R.n → S.h = R.h → R.lo = R.n → @Wp EE 60 ys false k60 [.x p0, .u, .u, .u, .u, .u, .u, .u, .u, .u, .u, .u] (ext R []) ⟨exitQ EE [.cell 2 24] S Q⟩) : ∃ r, res EE ys (.f 60) [p0] S = some r ∧ Q r.1 r.2.1 r.2.2 :=
  enter rfl (by kernel_rfl) sk60 (by kernel_rfl) (by kernel_rfl) ⟨rfl, by simp⟩ h

/-! ### function 61: boule/bouleref09.ends -/
abbrev s61_0 : List Stp := [⟨none, some 1, .box 37 (.tmp 0)⟩,
  ⟨none, some 2, .assign (.const (.int .i64 0))⟩,
  ⟨none, some 3, .assign (.const (.int .i64 0))⟩]
abbrev s61_1 : List Stp := [⟨none, some 7, .fieldAddr 37 (.tmp 1) 3⟩,
  ⟨none, some 8, .load 35 (.tmp 7)⟩,
  ⟨none, some 9, .indexAddr 35 (.tmp 8) (.const (.int .i64 0))⟩,
  ⟨none, some 10, .fieldAddr 24 (.tmp 9) 0⟩,
  ⟨none, some 11, .load 3 (.tmp 10)⟩,
  ⟨none, some 12, .fieldAddr 37 (.tmp 1) 3⟩,
  ⟨none, some 13, .load 35 (.tmp 12)⟩,
  ⟨none, some 14, .indexAddr 35 (.tmp 13) (.const (.int .i64 0))⟩,
  ⟨none, some 15, .fieldAddr 24 (.tmp 14) 1⟩,
  ⟨none, some 16, .load 3 (.tmp 15)⟩,
  ⟨none, some 4, .assign (.tmp 11)⟩,
  ⟨none, some 5, .assign (.tmp 16)⟩]
abbrev s61_2 : List Stp := [⟨none, some 6, .assign (.const (.int .i64 1))⟩]
abbrev s61_3 : List Stp := [⟨none, some 17, .move (.tmp 6)⟩,
  ⟨none, some 18, .fieldAddr 37 (.tmp 1) 3⟩,
  ⟨none, some 19, .load 35 (.tmp 18)⟩,
  ⟨none, some 20, .call ⟨.builtin .len, #[.tmp 19], #[35]⟩⟩,
  ⟨none, some 21, .binOp .lss 3 (.tmp 17) (.tmp 20) 3⟩]
abbrev s61_5 : List Stp := [⟨none, some 24, .move (.tmp 4)⟩,
  ⟨none, some 25, .fieldAddr 37 (.tmp 1) 3⟩,
  ⟨none, some 26, .load 35 (.tmp 25)⟩,
  ⟨none, some 27, .move (.tmp 6)⟩,
  ⟨none, some 28, .indexAddr 35 (.tmp 26) (.tmp 27)⟩,
  ⟨none, some 29, .fieldAddr 24 (.tmp 28) 0⟩,
  ⟨none, some 30, .load 3 (.tmp 29)⟩,
  ⟨none, some 31, .call ⟨.builtin .min, #[.tmp 24, .tmp 30], #[3, 3]⟩⟩,
  ⟨none, some 32, .move (.tmp 5)⟩,
  ⟨none, some 33, .fieldAddr 37 (.tmp 1) 3⟩,
  ⟨none, some 34, .load 35 (.tmp 33)⟩,
  ⟨none, some 35, .move (.tmp 6)⟩,
  ⟨none, some 36, .indexAddr 35 (.tmp 34) (.tmp 35)⟩,
  ⟨none, some 37, .fieldAddr 24 (.tmp 36) 1⟩,
  ⟨none, some 38, .load 3 (.tmp 37)⟩,
  ⟨none, some 39, .call ⟨.builtin .max, #[.tmp 32, .tmp 38], #[3, 3]⟩⟩,
  ⟨none, some 4, .assign (.tmp 31)⟩,
  ⟨none, some 5, .assign (.tmp 39)⟩]
abbrev s61_4 : List Stp := [⟨none, some 22, .move (.tmp 6)⟩,
  ⟨none, some 23, .binOp .add 3 (.tmp 22) (.const (.int .i64 1)) 3⟩,
  ⟨none, some 6, .assign (.tmp 23)⟩]
abbrev l61_0 : Sk := .seq (.seq (.reg 3 false s61_3) (.cond (.tmp 21) .skip (.exit 0))) (.seq (.block 1 (.reg 5 true s61_5)) (.reg 4 false s61_4))
abbrev s61_6 : List Stp := [⟨none, some 40, .move (.tmp 4)⟩,
  ⟨none, some 41, .move (.tmp 5)⟩,
  ⟨none, some 2, .assign (.tmp 40)⟩,
  ⟨none, some 3, .assign (.tmp 41)⟩]
abbrev k61 : Sk := .seq (.reg 0 false s61_0) (.seq (.reg 1 true s61_1) (.seq (.seq (.reg 2 false s61_2) (.block 0 (.loop l61_0))) (.seq (.reg 6 false s61_6) .ret)))
theorem sk61 : (Try.f61.body.bind (skOf 42)) = some k61 := by kernel_rfl
theorem en61 {ys : Yls} {p0 : X} {S : St} {Q : Va → St → Bool → Prop} (h : ∀ R : St, S.n = R.n → S.h = R.h → R.lo = R.n → @Wp EE 61 ys false k61 [.x p0, .u, .u, .u, .u, .u, .u, .u, .u, .u, .u, .u, .u, .u, .u, .u, .u, .u, .u, .u, .u, .u, .u, .u, .u, .u, .u, .u, .u, .u, .u, .u, .u, .u, .u, .u, .u, .u, .u, .u, .u, .u] (ext R []) ⟨exitQ EE [.tmp 2, .tmp 3] S Q⟩) : ∃ r, res EE ys (.f 61) [p0] S = some r ∧ Q r.1 r.2.1 r.2.2 :=
  enter rfl (by kernel_rfl) sk61 (by kernel_rfl) (by kernel_rfl) ⟨rfl, by simp⟩ h

/-! ### function 62: boule/finish.exact -/
abbrev s62_0 : List Stp := [⟨none, some 2, .assign (.const (.slice none 0 0))⟩]
abbrev s62_1 : List Stp := [⟨none, some 6, .move (.tmp 0)⟩,
  ⟨none, some 7, .call ⟨.builtin .len, #[.tmp 6], #[30]⟩⟩,
  ⟨none, some 8, .makeSlice 35 (.tmp 7) (.tmp 7)⟩,
  ⟨none, some 3, .assign (.tmp 8)⟩]
abbrev s62_2 : List Stp := [⟨none, some 9, .move (.tmp 0)⟩,
  ⟨none, some 10, .call ⟨.builtin .len, #[.tmp 9], #[30]⟩⟩,
  ⟨none, some 11, .move (.const (.int .i64 0))⟩]
abbrev s62_3 : List Stp := [⟨none, some 12, .binOp .lss 3 (.tmp 11) (.tmp 10) 3⟩]
abbrev s62_4 : List Stp := [⟨none, some 13, .move (.tmp 11)⟩,
  ⟨none, some 14, .indexAddr 30 (.tmp 9) (.tmp 11)⟩,
  ⟨none, some 15, .load 3 (.tmp 14)⟩,
  ⟨none, some 4, .assign (.tmp 13)⟩,
  ⟨none, some 5, .assign (.tmp 15)⟩]
abbrev s62_5 : List Stp := [⟨none, some 16, .move (.tmp 3)⟩,
  ⟨none, some 17, .move (.tmp 4)⟩,
  ⟨none, some 18, .move (.tmp 5)⟩,
  ⟨none, some 19, .move (.tmp 5)⟩,
  ⟨none, some 20, .build 24 #[(0, .tmp 18), (1, .tmp 19)]⟩,
  ⟨none, some 21, .indexAddr 35 (.tmp 16) (.tmp 17)⟩,
  ⟨none, none, .store 24 (.tmp 21) (.tmp 20)⟩]
abbrev s62_6 : List Stp := [⟨none, some 22, .binOp .add 3 (.tmp 11) (.const (.int .i64 1)) 3⟩,
  ⟨none, some 11, .move (.tmp 22)⟩]
abbrev l62_0 : Sk := .seq (.reg 3 false s62_3) (.seq (.cond (.tmp 12) .skip (.exit 0)) (.seq (.block 1 (.seq (.reg 4 false s62_4) (.reg 5 false s62_5))) (.reg 6 false s62_6)))
abbrev s62_7 : List Stp := [⟨none, some 23, .move (.tmp 3)⟩,
  ⟨none, some 2, .assign (.tmp 23)⟩]
abbrev k62 : Sk := .seq (.reg 0 false s62_0) (.seq (.reg 1 false s62_1) (.seq (.seq (.reg 2 false s62_2) (.block 0 (.loop l62_0))) (.seq (.reg 7 false s62_7) .ret)))
theorem sk62 : (Try.f62.body.bind (skOf 24)) = some k62 := by kernel_rfl
theorem en62 {ys : Yls} {p0 : X} {S : St} {Q : Va → St → Bool → Prop} (h : ∀ R : St, S.n = R.n → S.h = R.h → R.lo = R.n → @Wp EE 62 ys false k62 [.x p0, .u, .u, .u, .u, .u, .u, .u, .u, .u, .u, .u, .u, .u, .u, .u, .u, .u, .u, .u, .u, .u, .u, .u] (ext R []) ⟨exitQ EE [.tmp 2] S Q⟩) : ∃ r, res EE ys (.f 62) [p0] S = some r ∧ Q r.1 r.2.1 r.2.2 :=
  enter rfl (by kernel_rfl) sk62 (by kernel_rfl) (by kernel_rfl) ⟨rfl, by simp⟩ h

/-! ### function 63: boule/finish.grid -/
abbrev s63_0 : List Stp := [⟨none, some 4, .assign (.const (.slice none 0 0))⟩]
abbrev s63_1 : List Stp := [⟨none, some 5, .assign (.const (.slice none 0 0))⟩]
abbrev s63_2 : List Stp := [⟨none, some 7, .move (.tmp 0)⟩,
  ⟨none, some 8, .move (.tmp 1)⟩,
  ⟨none, some 9, .binOp .mul 3 (.tmp 7) (.tmp 8) 3⟩,
  ⟨none, some 10, .move (.const (.int .i64 0))⟩]
abbrev s63_3 : List Stp := [⟨none, some 11, .binOp .lss 3 (.tmp 10) (.tmp 9) 3⟩]
abbrev s63_4 : List Stp := [⟨none, some 12, .move (.tmp 10)⟩,
  ⟨none, some 6, .assign (.tmp 12)⟩]
abbrev s63_5 : List Stp := [⟨none, some 13, .move (.tmp 5)⟩,
  ⟨none, some 14, .move (.tmp 6)⟩,
  ⟨none, some 15, .move (.tmp 6)⟩,
  ⟨none, some 16, .move (.tmp 0)⟩,
  ⟨none, some 17, .binOp .rem 3 (.tmp 15) (.tmp 16) 3⟩,
  ⟨none, some 18, .move (.tmp 6)⟩,
  ⟨none, some 19, .move (.tmp 0)⟩,
  ⟨none, some 20, .binOp .quo 3 (.tmp 18) (.tmp 19) 3⟩,
  ⟨none, some 21, .build 131 #[(0, .tmp 14), (1, .tmp 17), (2, .tmp 20)]⟩,
  ⟨none, some 22, .buildSlice 128 1 #[(0, .tmp 21)]⟩,
  ⟨none, some 23, .call ⟨.builtin .append, #[.tmp 13, .tmp 22], #[128, 128]⟩⟩,
  ⟨none, some 5, .assign (.tmp 23)⟩]
abbrev s63_6 : List Stp := [⟨none, some 24, .binOp .add 3 (.tmp 10) (.const (.int .i64 1)) 3⟩,
  ⟨none, some 10, .move (.tmp 24)⟩]
abbrev l63_0 : Sk := .seq (.reg 3 false s63_3) (.seq (.cond (.tmp 11) .skip (.exit 0)) (.seq (.block 1 (.seq (.reg 4 false s63_4) (.reg 5 true s63_5))) (.reg 6 false s63_6)))
abbrev s63_7 : List Stp := [⟨none, some 25, .move (.tmp 5)⟩,
  ⟨none, some 4, .assign (.tmp 25)⟩]
abbrev k63 : Sk := .seq (.reg 0 false s63_0) (.seq (.reg 1 false s63_1) (.seq (.seq (.reg 2 false s63_2) (.block 0 (.loop l63_0))) (.seq (.reg 7 false s63_7) .ret)))
theorem sk63 : (Try.f63.body.bind (skOf 26)) = some k63 := by kernel_rfl
theorem en63 {ys : Yls} {p0 p1 : X} {S : St} {Q : Va → St → Bool → Prop} (h : ∀ R : St, S.n = R.n → S.h = R.h → R.lo = R.n → @Wp EE 63 ys false k63 [.x p0, .x p1, .u, .u, .u, .u, .u, .u, .u, .u, .u, .u, .u, .u, .u, .u, .u, .u, .u, .u, .u, .u, .u, .u, .u, .u] (ext R []) ⟨exitQ EE [.tmp 4] S Q⟩) : ∃ r, res EE ys (.f 63) [p0, p1] S = some r ∧ Q r.1 r.2.1 r.2.2 :=
  enter rfl (by kernel_rfl) sk63 (by kernel_rfl) (by kernel_rfl) ⟨rfl, by simp⟩ h

/-! ### function 64: boule/finish.flatness -/
noncomputable def A64_0 : Code := ((rfOf (codeOf Try.f64))[0]?.map (·.1)).getD .skip
noncomputable def B64_0 : Code := ((rfOf (codeOf Try.f64))[0]?.map (·.2)).getD .skip
abbrev s64_0 : List Stp := [⟨none, some 3, .box 35 (.tmp 1)⟩,
  ⟨none, some 4, .alloc 137⟩,
  ⟨none, some 5, .alloc 137⟩]
abbrev s64_1 : List Stp := [⟨none, some 7, .move (.tmp 0)⟩,
  ⟨none, some 8, .call ⟨.value (.func 101), #[.tmp 7], #[128]⟩⟩]
abbrev s64_2 : List Stp := [⟨none, some 6, .alloc 135⟩,
  ⟨none, none, .store 135 (.tmp 6) (.tmp 9)⟩]
abbrev a64_0 : Sk := .reg 2 false s64_2
abbrev s64_3 : List Stp := [⟨none, some 10, .move (.const (.int .i64 0))⟩]
abbrev s64_4 : List Stp := [⟨none, some 11, .binOp .lss 3 (.tmp 10) (.const (.int .i64 2)) 3⟩]
abbrev s64_5 : List Stp := [⟨none, some 12, .load 135 (.tmp 6)⟩,
  ⟨none, some 13, .load 135 (.tmp 6)⟩,
  ⟨none, some 14, .load 35 (.tmp 3)⟩,
  ⟨none, some 15, .call ⟨.value (.func 103), #[.tmp 13, .tmp 14, .const (.bool false)], #[135, 35, 4]⟩⟩,
  ⟨none, some 16, .call ⟨.value (.func 102), #[.tmp 4, .tmp 12, .tmp 15], #[137, 135, 3]⟩⟩]
abbrev s64_6 : List Stp := [⟨none, some 17, .load 135 (.tmp 6)⟩,
  ⟨none, some 18, .load 135 (.tmp 6)⟩,
  ⟨none, some 19, .load 35 (.tmp 3)⟩,
  ⟨none, some 20, .call ⟨.value (.func 103), #[.tmp 18, .tmp 19, .const (.bool true)], #[135, 35, 4]⟩⟩,
  ⟨none, some 21, .call ⟨.value (.func 102), #[.tmp 5, .tmp 17, .tmp 20], #[137, 135, 3]⟩⟩]
abbrev s64_7 : List Stp := [⟨none, some 22, .load 135 (.tmp 6)⟩,
  ⟨none, some 23, .call ⟨.value (.func 104), #[.tmp 22], #[135]⟩⟩,
  ⟨none, none, .store 135 (.tmp 6) (.tmp 23)⟩]
abbrev s64_8 : List Stp := [⟨none, some 24, .binOp .add 3 (.tmp 10) (.const (.int .i64 1)) 3⟩,
  ⟨none, some 10, .move (.tmp 24)⟩]
abbrev l64_0 : Sk := .seq (.reg 4 false s64_4) (.seq (.cond (.tmp 11) .skip (.exit 2)) (.seq (.block 3 (.seq (.reg 5 true s64_5) (.seq (.reg 6 true s64_6) (.reg 7 false s64_7)))) (.reg 8 false s64_8)))
abbrev b64_0 : Sk := .block 1 (.seq (.reg 3 false s64_3) (.block 2 (.loop l64_0)))
abbrev s64_9 : List Stp := [⟨none, some 25, .load 137 (.tmp 4)⟩,
  ⟨none, some 26, .load 137 (.tmp 5)⟩,
  ⟨none, none, .store 137 (.tmp 4) (.tmp 25)⟩,
  ⟨none, none, .store 137 (.tmp 5) (.tmp 26)⟩]
noncomputable abbrev k64 : Sk := .seq (.reg 0 false s64_0) (.seq (.seq (.reg 1 false s64_1) (.block 0 (.rangeFunc (.tmp 8) [9] A64_0 B64_0))) (.seq (.reg 9 false s64_9) .ret))
theorem sk64 : (Try.f64.body.bind (skOf 27)) = some k64 := by kernel_rfl
theorem ska64_0 : skOf 27 A64_0 = some a64_0 := by kernel_rfl
theorem skb64_0 : skOf 27 B64_0 = some b64_0 := by kernel_rfl
theorem en64 {ys : Yls} {p0 p1 : X} {S : St} {Q : Va → St → Bool → Prop} (h : ∀ R : St, S.n = R.n → S.h = R.h → R.lo = R.n → @Wp EE 64 ys false k64 [.x p0, .x p1, .u, .u, .u, .u, .u, .u, .u, .u, .u, .u, .u, .u, .u, .u, .u, .u, .u, .u, .u, .u, .u, .u, .u, .u, .u] (ext R []) ⟨exitQ EE [.cell 4 137, .cell 5 137] S Q⟩) : ∃ r, res EE ys (.f 64) [p0, p1] S = some r ∧ Q r.1 r.2.1 r.2.2 :=
  enter rfl (by kernel_rfl) sk64 (by kernel_rfl) (by kernel_rfl) ⟨rfl, by simp⟩ h

/-! ### function 65: (*boule/finish.proof).flat -/
abbrev s65_0 : List Stp := [⟨none, some 2, .alloc 60⟩]
abbrev s65_1 : List Stp := [⟨none, some 6, .move (.tmp 0)⟩,
  ⟨none, some 7, .nilCheck (.tmp 6)⟩,
  ⟨none, some 8, .fieldAddr 137 (.tmp 7) 2⟩,
  ⟨none, some 9, .load 4 (.tmp 8)⟩,
  ⟨none, some 10, .unOp .not 4 (.tmp 9)⟩]
abbrev s65_2 : List Stp := [⟨none, some 11, .build 49 #[(1, .const (.int .i64 1))]⟩,
  ⟨none, some 12, .build 60 #[(0, .tmp 11)]⟩,
  ⟨none, none, .store 60 (.tmp 2) (.tmp 12)⟩]
abbrev s65_3 : List Stp := [⟨none, some 13, .move (.tmp 0)⟩,
  ⟨none, some 14, .nilCheck (.tmp 13)⟩,
  ⟨none, some 15, .fieldAddr 137 (.tmp 14) 1⟩,
  ⟨none, some 16, .load 3 (.tmp 15)⟩,
  ⟨none, some 17, .move (.tmp 0)⟩,
  ⟨none, some 18, .nilCheck (.tmp 17)⟩,
  ⟨none, some 19, .fieldAddr 137 (.tmp 18) 0⟩,
  ⟨none, some 20, .fieldAddr 135 (.tmp 19) 2⟩,
  ⟨none, some 21, .load 3 (.tmp 20)⟩,
  ⟨none, some 22, .call ⟨.value (.func 105), #[.tmp 16, .tmp 21], #[3, 3]⟩⟩,
  ⟨none, some 23, .build 60 #[(0, .tmp 22)]⟩,
  ⟨none, some 3, .alloc 60⟩,
  ⟨none, none, .store 60 (.tmp 3) (.tmp 23)⟩]
abbrev s65_4 : List Stp := [⟨none, some 24, .move (.tmp 0)⟩,
  ⟨none, some 25, .nilCheck (.tmp 24)⟩,
  ⟨none, some 26, .fieldAddr 137 (.tmp 25) 0⟩,
  ⟨none, some 27, .fieldAddr 135 (.tmp 26) 0⟩,
  ⟨none, some 28, .load 132 (.tmp 27)⟩,
  ⟨none, some 29, .move (.const (.int .i64 0))⟩]
abbrev s65_5 : List Stp := [⟨none, some 30, .binOp .lss 3 (.tmp 29) (.const (.int .i64 4)) 3⟩]
abbrev s65_6 : List Stp := [⟨none, some 31, .move (.tmp 29)⟩,
  ⟨none, some 32, .index 132 (.tmp 28) (.tmp 29)⟩,
  ⟨none, some 5, .alloc 131⟩,
  ⟨none, some 4, .assign (.tmp 31)⟩,
  ⟨none, none, .store 131 (.tmp 5) (.tmp 32)⟩]
abbrev s65_7 : List Stp := [⟨none, some 33, .move (.tmp 0)⟩,
  ⟨none, some 34, .move (.tmp 4)⟩,
  ⟨none, some 35, .nilCheck (.tmp 33)⟩,
  ⟨none, some 36, .fieldAddr 137 (.tmp 35) 0⟩,
  ⟨none, some 37, .fieldAddr 135 (.tmp 36) 1⟩,
  ⟨none, some 38, .indexAddr 133 (.tmp 37) (.tmp 34)⟩,
  ⟨none, some 39, .load 3 (.tmp 38)⟩,
  ⟨none, some 40, .binOp .neq 3 (.tmp 39) (.const (.int .i64 0)) 3⟩]
abbrev s65_8 : List Stp := [⟨none, some 41, .fieldAddr 60 (.tmp 3) 1⟩,
  ⟨none, some 42, .load 30 (.tmp 41)⟩,
  ⟨none, some 43, .fieldAddr 131 (.tmp 5) 0⟩,
  ⟨none, some 44, .load 3 (.tmp 43)⟩,
  ⟨none, some 45, .buildSlice 30 1 #[(0, .tmp 44)]⟩,
  ⟨none, some 46, .call ⟨.builtin .append, #[.tmp 42, .tmp 45], #[30, 30]⟩⟩,
  ⟨none, some 47, .fieldAddr 60 (.tmp 3) 2⟩,
  ⟨none, some 48, .load 30 (.tmp 47)⟩,
  ⟨none, some 49, .move (.tmp 0)⟩,
  ⟨none, some 50, .move (.tmp 4)⟩,
  ⟨none, some 51, .nilCheck (.tmp 49)⟩,
  ⟨none, some 52, .fieldAddr 137 (.tmp 51) 0⟩,
  ⟨none, some 53, .fieldAddr 135 (.tmp 52) 1⟩,
  ⟨none, some 54, .indexAddr 133 (.tmp 53) (.tmp 50)⟩,
  ⟨none, some 55, .load 3 (.tmp 54)⟩,
  ⟨none, some 56, .buildSlice 30 1 #[(0, .tmp 55)]⟩,
  ⟨none, some 57, .call ⟨.builtin .append, #[.tmp 48, .tmp 56], #[30, 30]⟩⟩,
  ⟨none, some 58, .fieldAddr 60 (.tmp 3) 1⟩,
  ⟨none, none, .store 30 (.tmp 58) (.tmp 46)⟩,
  ⟨none, some 59, .fieldAddr 60 (.tmp 3) 2⟩,
  ⟨none, none, .store 30 (.tmp 59) (.tmp 57)⟩]
abbrev s65_9 : List Stp := [⟨none, some 60, .binOp .add 3 (.tmp 29) (.const (.int .i64 1)) 3⟩,
  ⟨none, some 29, .move (.tmp 60)⟩]
abbrev l65_0 : Sk := .seq (.reg 5 false s65_5) (.seq (.cond (.tmp 30) .skip (.exit 0)) (.seq (.block 1 (.seq (.reg 6 false s65_6) (.seq (.reg 7 false s65_7) (.cond (.tmp 40) (.reg 8 true s65_8) .skip)))) (.reg 9 false s65_9)))
abbrev s65_10 : List Stp := [⟨none, some 61, .load 60 (.tmp 3)⟩,
  ⟨none, none, .store 60 (.tmp 2) (.tmp 61)⟩]
abbrev k65 : Sk := .seq (.reg 0 false s65_0) (.seq (.seq (.reg 1 false s65_1) (.cond (.tmp 10) (.seq (.reg 2 false s65_2) .ret) .skip)) (.seq (.reg 3 true s65_3) (.seq (.seq (.reg 4 false s65_4) (.block 0 (.loop l65_0))) (.seq (.reg 10 false s65_10) .ret))))
theorem sk65 : (Try.f65.body.bind (skOf 62)) = some k65 := by kernel_rfl
theorem en65 {ys : Yls} {p0 : X} {S : St} {Q : Va → St → Bool → Prop} (h : ∀ R : St, S.n = R.n → S.h = R.h → R.lo = R.n → @Wp EE 65 ys false k65 [.x p0, .u, .u, .u, .u, .u, .u, .u, .u, .u, .u, .u, .u, .u, .u, .u, .u, .u, .u, .u, .u, .u, .u, .u, .u, .u, .u, .u, .u, .u, .u, .u, .u, .u, .u, .u, .u, .u, .u, .u, .u, .u, .u, .u, .u, .u, .u, .u, .u, .u, .u, .u, .u, .u, .u, .u, .u, .u, .u, .u, .u, .u] (ext R []) ⟨exitQ EE [.cell 2 60] S Q⟩) : ∃ r, res EE ys (.f 65) [p0] S = some r ∧ Q r.1 r.2.1 r.2.2 :=
  enter rfl (by kernel_rfl) sk65 (by kernel_rfl) (by kernel_rfl) ⟨rfl, by simp⟩ h

/-! ### function 66: boule/finish.touching -/
abbrev s66_0 : List Stp := [⟨none, some 5, .box 49 (.tmp 2)⟩,
  ⟨none, some 6, .alloc 142⟩]
abbrev s66_1 : List Stp := [⟨none, some 19, .move (.tmp 0)⟩,
  ⟨none, some 20, .call ⟨.builtin .len, #[.tmp 19], #[128]⟩⟩,
  ⟨none, some 21, .move (.const (.int .i64 0))⟩]
abbrev s66_2 : List Stp := [⟨none, some 22, .binOp .lss 3 (.tmp 21) (.tmp 20) 3⟩]
abbrev s66_3 : List Stp := [⟨none, some 23, .move (.tmp 21)⟩,
  ⟨none, some 24, .indexAddr 128 (.tmp 19) (.tmp 21)⟩,
  ⟨none, some 25, .load 131 (.tmp 24)⟩,
  ⟨none, some 8, .alloc 131⟩,
  ⟨none, some 7, .assign (.tmp 23)⟩,
  ⟨none, none, .store 131 (.tmp 8) (.tmp 25)⟩]
abbrev s66_4 : List Stp := [⟨none, some 26, .move (.tmp 0)⟩,
  ⟨none, some 27, .move (.tmp 7)⟩,
  ⟨none, some 28, .slice 128 (.tmp 26) none (some (.tmp 27)) none⟩,
  ⟨none, some 29, .call ⟨.builtin .len, #[.tmp 28], #[128]⟩⟩,
  ⟨none, some 30, .move (.const (.int .i64 0))⟩]
abbrev s66_5 : List Stp := [⟨none, some 31, .binOp .lss 3 (.tmp 30) (.tmp 29) 3⟩]
abbrev s66_6 : List Stp := [⟨none, some 32, .move (.tmp 30)⟩,
  ⟨none, some 33, .indexAddr 128 (.tmp 28) (.tmp 30)⟩,
  ⟨none, some 34, .load 131 (.tmp 33)⟩,
  ⟨none, some 10, .alloc 131⟩,
  ⟨none, some 9, .assign (.tmp 32)⟩,
  ⟨none, none, .store 131 (.tmp 10) (.tmp 34)⟩]
abbrev s66_7 : List Stp := [⟨none, some 35, .move (.tmp 0)⟩,
  ⟨none, some 36, .move (.tmp 9)⟩,
  ⟨none, some 37, .slice 128 (.tmp 35) none (some (.tmp 36)) none⟩,
  ⟨none, some 38, .call ⟨.builtin .len, #[.tmp 37], #[128]⟩⟩,
  ⟨none, some 39, .move (.const (.int .i64 0))⟩]
abbrev s66_8 : List Stp := [⟨none, some 40, .binOp .lss 3 (.tmp 39) (.tmp 38) 3⟩]
abbrev s66_9 : List Stp := [⟨none, some 41, .indexAddr 128 (.tmp 37) (.tmp 39)⟩,
  ⟨none, some 42, .load 131 (.tmp 41)⟩,
  ⟨none, some 12, .alloc 131⟩,
  ⟨none, none, .store 131 (.tmp 12) (.tmp 42)⟩]
abbrev s66_10 : List Stp := [⟨none, some 43, .move (.const (.int .i64 0))⟩]
abbrev s66_11 : List Stp := [⟨none, some 44, .binOp .lss 3 (.tmp 43) (.const (.int .i64 8)) 3⟩]
abbrev s66_12 : List Stp := [⟨none, some 45, .move (.tmp 43)⟩,
  ⟨none, some 13, .assign (.tmp 45)⟩]
abbrev s66_13 : List Stp := [⟨none, some 14, .alloc 148⟩]
abbrev s66_14 : List Stp := [⟨none, some 46, .load 131 (.tmp 8)⟩,
  ⟨none, some 47, .load 131 (.tmp 10)⟩,
  ⟨none, some 48, .load 131 (.tmp 12)⟩,
  ⟨none, some 49, .build 185 #[(0, .tmp 46), (1, .tmp 47), (2, .tmp 48)]⟩,
  ⟨none, some 50, .move (.const (.int .i64 0))⟩]
abbrev s66_15 : List Stp := [⟨none, some 51, .binOp .lss 3 (.tmp 50) (.const (.int .i64 3)) 3⟩]
abbrev s66_16 : List Stp := [⟨none, some 52, .move (.tmp 50)⟩,
  ⟨none, some 53, .index 185 (.tmp 49) (.tmp 50)⟩,
  ⟨none, some 16, .alloc 131⟩,
  ⟨none, some 15, .assign (.tmp 52)⟩,
  ⟨none, none, .store 131 (.tmp 16) (.tmp 53)⟩]
abbrev s66_17 : List Stp := [⟨none, some 54, .move (.tmp 15)⟩,
  ⟨none, some 55, .move (.tmp 1)⟩,
  ⟨none, some 56, .fieldAddr 131 (.tmp 16) 0⟩,
  ⟨none, some 57, .load 3 (.tmp 56)⟩,
  ⟨none, some 58, .indexAddr 30 (.tmp 55) (.tmp 57)⟩,
  ⟨none, some 59, .load 3 (.tmp 58)⟩,
  ⟨none, some 60, .fieldAddr 49 (.tmp 5) 1⟩,
  ⟨none, some 61, .load 3 (.tmp 60)⟩,
  ⟨none, some 62, .binOp .mul 3 (.tmp 59) (.tmp 61) 3⟩,
  ⟨none, some 63, .fieldAddr 49 (.tmp 5) 0⟩,
  ⟨none, some 64, .load 3 (.tmp 63)⟩,
  ⟨none, some 65, .move (.tmp 13)⟩,
  ⟨none, some 66, .move (.tmp 15)⟩,
  ⟨none, some 67, .binOp .shr 3 (.tmp 65) (.tmp 66) 3⟩,
  ⟨none, some 68, .binOp .and 3 (.tmp 67) (.const (.int .i64 1)) 3⟩,
  ⟨none, some 69, .binOp .mul 3 (.tmp 68) (.const (.int .i64 2)) 3⟩,
  ⟨none, some 70, .binOp .sub 3 (.tmp 69) (.const (.int .i64 1)) 3⟩,
  ⟨none, some 71, .binOp .mul 3 (.tmp 64) (.tmp 70) 3⟩,
  ⟨none, some 72, .binOp .add 3 (.tmp 62) (.tmp 71) 3⟩,
  ⟨none, some 73, .indexAddr 148 (.tmp 14) (.tmp 54)⟩,
  ⟨none, none, .store 3 (.tmp 73) (.tmp 72)⟩]
abbrev s66_18 : List Stp := [⟨none, some 74, .binOp .add 3 (.tmp 50) (.const (.int .i64 1)) 3⟩,
  ⟨none, some 50, .move (.tmp 74)⟩]
abbrev l66_0 : Sk := .seq (.reg 15 false s66_15) (.seq (.cond (.tmp 51) .skip (.exit 8)) (.seq (.block 9 (.seq (.reg 16 false s66_16) (.reg 17 true s66_17))) (.reg 18 false s66_18)))
abbrev s66_19 : List Stp := [⟨none, some 76, .load 131 (.tmp 8)⟩,
  ⟨none, some 77, .load 131 (.tmp 10)⟩,
  ⟨none, some 78, .load 131 (.tmp 12)⟩,
  ⟨none, some 79, .build 185 #[(0, .tmp 76), (1, .tmp 77), (2, .tmp 78)]⟩,
  ⟨none, some 80, .load 148 (.tmp 14)⟩,
  ⟨none, some 81, .fieldAddr 49 (.tmp 5) 1⟩,
  ⟨none, some 82, .load 3 (.tmp 81)⟩,
  ⟨none, some 83, .call ⟨.value (.func 106), #[.tmp 79, .tmp 80, .tmp 82], #[185, 148, 3]⟩⟩,
  ⟨none, some 75, .move (.tmp 83)⟩,
  ⟨none, some 84, .extract (.tmp 75) 0⟩,
  ⟨none, some 85, .extract (.tmp 75) 1⟩,
  ⟨none, some 17, .alloc 142⟩,
  ⟨none, none, .store 142 (.tmp 17) (.tmp 84)⟩,
  ⟨none, some 18, .assign (.tmp 85)⟩]
abbrev s66_20 : List Stp := [⟨none, some 86, .move (.tmp 18)⟩,
  ⟨none, some 87, .move (.tmp 86)⟩,
  ⟨some (87, true), some 88, .load 142 (.tmp 17)⟩,
  ⟨some (87, true), some 89, .move (.tmp 0)⟩,
  ⟨some (87, true), some 90, .move (.tmp 1)⟩,
  ⟨some (87, true), some 91, .load 49 (.tmp 5)⟩,
  ⟨some (87, true), some 92, .call ⟨.value (.func 67), #[.tmp 88, .tmp 89, .tmp 90, .tmp 91], #[142, 128, 30, 49]⟩⟩,
  ⟨none, some 93, .pick (.tmp 87) (.tmp 92) (.const (.bool false))⟩]
abbrev s66_21 : List Stp := [⟨none, some 94, .load 142 (.tmp 17)⟩,
  ⟨none, none, .store 142 (.tmp 6) (.tmp 94)⟩]
abbrev s66_22 : List Stp := [⟨none, some 95, .binOp .add 3 (.tmp 43) (.const (.int .i64 1)) 3⟩,
  ⟨none, some 43, .move (.tmp 95)⟩]
abbrev l66_1 : Sk := .seq (.reg 11 false s66_11) (.seq (.cond (.tmp 44) .skip (.exit 6)) (.seq (.block 7 (.seq (.reg 12 false s66_12) (.seq (.reg 13 false s66_13) (.seq (.seq (.reg 14 false s66_14) (.block 8 (.loop l66_0))) (.seq (.reg 19 false s66_19) (.seq (.reg 20 false s66_20) (.cond (.tmp 93) (.seq (.reg 21 false s66_21) .ret) .skip))))))) (.reg 22 false s66_22)))
abbrev s66_23 : List Stp := [⟨none, some 96, .binOp .add 3 (.tmp 39) (.const (.int .i64 1)) 3⟩,
  ⟨none, some 39, .move (.tmp 96)⟩]
abbrev l66_2 : Sk := .seq (.reg 8 false s66_8) (.seq (.cond (.tmp 40) .skip (.exit 4)) (.seq (.block 5 (.seq (.reg 9 false s66_9) (.seq (.reg 10 false s66_10) (.block 6 (.loop l66_1))))) (.reg 23 false s66_23)))
abbrev s66_24 : List Stp := [⟨none, some 97, .binOp .add 3 (.tmp 30) (.const (.int .i64 1)) 3⟩,
  ⟨none, some 30, .move (.tmp 97)⟩]
abbrev l66_3 : Sk := .seq (.reg 5 false s66_5) (.seq (.cond (.tmp 31) .skip (.exit 2)) (.seq (.block 3 (.seq (.reg 6 false s66_6) (.seq (.reg 7 false s66_7) (.block 4 (.loop l66_2))))) (.reg 24 false s66_24)))
abbrev s66_25 : List Stp := [⟨none, some 98, .binOp .add 3 (.tmp 21) (.const (.int .i64 1)) 3⟩,
  ⟨none, some 21, .move (.tmp 98)⟩]
abbrev l66_4 : Sk := .seq (.reg 2 false s66_2) (.seq (.cond (.tmp 22) .skip (.exit 0)) (.seq (.block 1 (.seq (.reg 3 false s66_3) (.seq (.reg 4 false s66_4) (.block 2 (.loop l66_3))))) (.reg 25 false s66_25)))
abbrev s66_26 : List Stp := [⟨none, some 99, .build 142 #[(3, .const (.int .i64 1))]⟩,
  ⟨none, none, .store 142 (.tmp 6) (.tmp 99)⟩]
abbrev k66 : Sk := .seq (.reg 0 false s66_0) (.seq (.seq (.reg 1 false s66_1) (.block 0 (.loop l66_4))) (.seq (.reg 26 false s66_26) .ret))
theorem sk66 : (Try.f66.body.bind (skOf 100)) = some k66 := by kernel_rfl
theorem en66 {ys : Yls} {p0 p1 p2 : X} {S : St} {Q : Va → St → Bool → Prop} (h : ∀ R : St, S.n = R.n → S.h = R.h → R.lo = R.n → @Wp EE 66 ys false k66 [.x p0, .x p1, .x p2, .u, .u, .u, .u, .u, .u, .u, .u, .u, .u, .u, .u, .u, .u, .u, .u, .u, .u, .u, .u, .u, .u, .u, .u, .u, .u, .u, .u, .u, .u, .u, .u, .u, .u, .u, .u, .u, .u, .u, .u, .u, .u, .u, .u, .u, .u, .u, .u, .u, .u, .u, .u, .u, .u, .u, .u, .u, .u, .u, .u, .u, .u, .u, .u, .u, .u, .u, .u, .u, .u, .u, .u, .u, .u, .u, .u, .u, .u, .u, .u, .u, .u, .u, .u, .u, .u, .u, .u, .u, .u, .u, .u, .u, .u, .u, .u, .u] (ext R []) ⟨exitQ EE [.cell 6 142] S Q⟩) : ∃ r, res EE ys (.f 66) [p0, p1, p2] S = some r ∧ Q r.1 r.2.1 r.2.2 :=
  enter rfl (by kernel_rfl) sk66 (by kernel_rfl) (by kernel_rfl) ⟨rfl, by simp⟩ h

/-! ### function 67: (boule/finish.plane).near -/
abbrev s67_0 : List Stp := [⟨none, some 4, .box 142 (.tmp 0)⟩,
  ⟨none, some 7, .box 49 (.tmp 3)⟩,
  ⟨none, some 8, .assign (.const (.bool false))⟩]
abbrev s67_1 : List Stp := [⟨none, some 12, .move (.tmp 1)⟩,
  ⟨none, some 13, .call ⟨.builtin .len, #[.tmp 12], #[128]⟩⟩,
  ⟨none, some 14, .move (.const (.int .i64 0))⟩]
abbrev s67_2 : List Stp := [⟨none, some 15, .binOp .lss 3 (.tmp 14) (.tmp 13) 3⟩]
abbrev s67_3 : List Stp := [⟨none, some 16, .indexAddr 128 (.tmp 12) (.tmp 14)⟩,
  ⟨none, some 17, .load 131 (.tmp 16)⟩,
  ⟨none, some 10, .alloc 131⟩,
  ⟨none, none, .store 131 (.tmp 10) (.tmp 17)⟩]
abbrev s67_4 : List Stp := [⟨none, some 18, .load 142 (.tmp 4)⟩,
  ⟨none, some 19, .load 131 (.tmp 10)⟩,
  ⟨none, some 20, .move (.tmp 2)⟩,
  ⟨none, some 21, .fieldAddr 131 (.tmp 10) 0⟩,
  ⟨none, some 22, .load 3 (.tmp 21)⟩,
  ⟨none, some 23, .indexAddr 30 (.tmp 20) (.tmp 22)⟩,
  ⟨none, some 24, .load 3 (.tmp 23)⟩,
  ⟨none, some 25, .call ⟨.value (.func 68), #[.tmp 18, .tmp 19, .tmp 24], #[142, 131, 3]⟩⟩,
  ⟨none, some 11, .assign (.tmp 25)⟩]
abbrev s67_5 : List Stp := [⟨none, some 26, .move (.tmp 11)⟩,
  ⟨none, some 27, .move (.tmp 11)⟩,
  ⟨none, some 28, .unOp .neg 3 (.tmp 27)⟩,
  ⟨none, some 29, .call ⟨.builtin .max, #[.tmp 26, .tmp 28], #[3, 3]⟩⟩,
  ⟨none, some 30, .fieldAddr 49 (.tmp 7) 1⟩,
  ⟨none, some 31, .load 3 (.tmp 30)⟩,
  ⟨none, some 32, .binOp .mul 3 (.tmp 29) (.tmp 31) 3⟩,
  ⟨none, some 33, .fieldAddr 49 (.tmp 7) 0⟩,
  ⟨none, some 34, .load 3 (.tmp 33)⟩,
  ⟨none, some 35, .fieldAddr 142 (.tmp 4) 3⟩,
  ⟨none, some 36, .load 3 (.tmp 35)⟩,
  ⟨none, some 37, .binOp .mul 3 (.tmp 34) (.tmp 36) 3⟩,
  ⟨none, some 38, .binOp .gtr 3 (.tmp 32) (.tmp 37) 3⟩]
abbrev s67_6 : List Stp := [⟨none, some 8, .assign (.const (.bool false))⟩]
abbrev s67_7 : List Stp := [⟨none, some 39, .binOp .add 3 (.tmp 14) (.const (.int .i64 1)) 3⟩,
  ⟨none, some 14, .move (.tmp 39)⟩]
abbrev l67_0 : Sk := .seq (.reg 2 false s67_2) (.seq (.cond (.tmp 15) .skip (.exit 0)) (.seq (.block 1 (.seq (.reg 3 false s67_3) (.seq (.reg 4 true s67_4) (.seq (.reg 5 false s67_5) (.cond (.tmp 38) (.seq (.reg 6 false s67_6) .ret) .skip))))) (.reg 7 false s67_7)))
abbrev s67_8 : List Stp := [⟨none, some 8, .assign (.const (.bool true))⟩]
abbrev k67 : Sk := .seq (.reg 0 false s67_0) (.seq (.seq (.reg 1 false s67_1) (.block 0 (.loop l67_0))) (.seq (.reg 8 false s67_8) .ret))
theorem sk67 : (Try.f67.body.bind (skOf 40)) = some k67 := by kernel_rfl
theorem en67 {ys : Yls} {p0 p1 p2 p3 : X} {S : St} {Q : Va → St → Bool → Prop} (h : ∀ R : St, S.n = R.n → S.h = R.h → R.lo = R.n → @Wp EE 67 ys false k67 [.x p0, .x p1, .x p2, .x p3, .u, .u, .u, .u, .u, .u, .u, .u, .u, .u, .u, .u, .u, .u, .u, .u, .u, .u, .u, .u, .u, .u, .u, .u, .u, .u, .u, .u, .u, .u, .u, .u, .u, .u, .u, .u] (ext R []) ⟨exitQ EE [.tmp 8] S Q⟩) : ∃ r, res EE ys (.f 67) [p0, p1, p2, p3] S = some r ∧ Q r.1 r.2.1 r.2.2 :=
  enter rfl (by kernel_rfl) sk67 (by kernel_rfl) (by kernel_rfl) ⟨rfl, by simp⟩ h

/-! ### function 68: (boule/finish.plane).off -/
abbrev s68_0 : List Stp := [⟨none, some 3, .box 142 (.tmp 0)⟩,
  ⟨none, some 4, .box 131 (.tmp 1)⟩,
  ⟨none, some 6, .assign (.const (.int .i64 0))⟩]
abbrev s68_1 : List Stp := [⟨none, some 7, .move (.tmp 2)⟩,
  ⟨none, some 8, .fieldAddr 142 (.tmp 3) 3⟩,
  ⟨none, some 9, .load 3 (.tmp 8)⟩,
  ⟨none, some 10, .binOp .mul 3 (.tmp 7) (.tmp 9) 3⟩,
  ⟨none, some 11, .fieldAddr 142 (.tmp 3) 0⟩,
  ⟨none, some 12, .load 3 (.tmp 11)⟩,
  ⟨none, some 13, .fieldAddr 131 (.tmp 4) 1⟩,
  ⟨none, some 14, .load 3 (.tmp 13)⟩,
  ⟨none, some 15, .binOp .mul 3 (.tmp 12) (.tmp 14) 3⟩,
  ⟨none, some 16, .binOp .sub 3 (.tmp 10) (.tmp 15) 3⟩,
  ⟨none, some 17, .fieldAddr 142 (.tmp 3) 1⟩,
  ⟨none, some 18, .load 3 (.tmp 17)⟩,
  ⟨none, some 19, .fieldAddr 131 (.tmp 4) 2⟩,
  ⟨none, some 20, .load 3 (.tmp 19)⟩,
  ⟨none, some 21, .binOp .mul 3 (.tmp 18) (.tmp 20) 3⟩,
  ⟨none, some 22, .binOp .sub 3 (.tmp 16) (.tmp 21) 3⟩,
  ⟨none, some 23, .fieldAddr 142 (.tmp 3) 2⟩,
  ⟨none, some 24, .load 3 (.tmp 23)⟩,
  ⟨none, some 25, .binOp .sub 3 (.tmp 22) (.tmp 24) 3⟩,
  ⟨none, some 6, .assign (.tmp 25)⟩]
abbrev k68 : Sk := .seq (.reg 0 false s68_0) (.seq (.reg 1 false s68_1) .ret)
theorem sk68 : (Try.f68.body.bind (skOf 26)) = some k68 := by kernel_rfl
theorem en68 {ys : Yls} {p0 p1 p2 : X} {S : St} {Q : Va → St → Bool → Prop} (h : ∀ R : St, S.n = R.n → S.h = R.h → R.lo = R.n → @Wp EE 68 ys false k68 [.x p0, .x p1, .x p2, .u, .u, .u, .u, .u, .u, .u, .u, .u, .u, .u, .u, .u, .u, .u, .u, .u, .u, .u, .u, .u, .u, .u] (ext R []) ⟨exitQ EE [.tmp 6] S Q⟩) : ∃ r, res EE ys (.f 68) [p0, p1, p2] S = some r ∧ Q r.1 r.2.1 r.2.2 :=
  enter rfl (by kernel_rfl) sk68 (by kernel_rfl) (by kernel_rfl) ⟨rfl, by simp⟩ h

/-! ### function 69: boule/bouleref09.turn -/
abbrev s69_0 : List Stp := [⟨none, some 8, .assign (.const (.int .i64 0))⟩]
abbrev s69_1 : List Stp := [⟨none, some 11, .move (.tmp 1)⟩,
  ⟨none, some 12, .move (.tmp 0)⟩,
  ⟨none, some 13, .binOp .rem 3 (.tmp 11) (.tmp 12) 3⟩,
  ⟨none, some 14, .move (.tmp 1)⟩,
  ⟨none, some 15, .move (.tmp 0)⟩,
  ⟨none, some 16, .binOp .quo 3 (.tmp 14) (.tmp 15) 3⟩,
  ⟨none, some 9, .assign (.tmp 13)⟩,
  ⟨none, some 10, .assign (.tmp 16)⟩]
abbrev s69_2 : List Stp := [⟨none, some 17, .move (.tmp 2)⟩,
  ⟨none, some 18, .move (.tmp 0)⟩,
  ⟨none, some 19, .binOp .rem 3 (.tmp 17) (.tmp 18) 3⟩,
  ⟨none, some 20, .move (.tmp 9)⟩,
  ⟨none, some 21, .binOp .sub 3 (.tmp 19) (.tmp 20) 3⟩,
  ⟨none, some 22, .move (.tmp 3)⟩,
  ⟨none, some 23, .move (.tmp 0)⟩,
  ⟨none, some 24, .binOp .quo 3 (.tmp 22) (.tmp 23) 3⟩,
  ⟨none, some 25, .move (.tmp 10)⟩,
  ⟨none, some 26, .binOp .sub 3 (.tmp 24) (.tmp 25) 3⟩,
  ⟨none, some 27, .binOp .mul 3 (.tmp 21) (.tmp 26) 3⟩,
  ⟨none, some 28, .move (.tmp 3)⟩,
  ⟨none, some 29, .move (.tmp 0)⟩,
  ⟨none, some 30, .binOp .rem 3 (.tmp 28) (.tmp 29) 3⟩,
  ⟨none, some 31, .move (.tmp 9)⟩,
  ⟨none, some 32, .binOp .sub 3 (.tmp 30) (.tmp 31) 3⟩,
  ⟨none, some 33, .move (.tmp 2)⟩,
  ⟨none, some 34, .move (.tmp 0)⟩,
  ⟨none, some 35, .binOp .quo 3 (.tmp 33) (.tmp 34) 3⟩,
  ⟨none, some 36, .move (.tmp 10)⟩,
  ⟨none, some 37, .binOp .sub 3 (.tmp 35) (.tmp 36) 3⟩,
  ⟨none, some 38, .binOp .mul 3 (.tmp 32) (.tmp 37) 3⟩,
  ⟨none, some 39, .binOp .sub 3 (.tmp 27) (.tmp 38) 3⟩,
  ⟨none, some 8, .assign (.tmp 39)⟩]
abbrev k69 : Sk := .seq (.reg 0 false s69_0) (.seq (.reg 1 true s69_1) (.seq (.reg 2 true s69_2) .ret))
theorem sk69 : (Try.f69.body.bind (skOf 40)) = some k69 := by kernel_rfl
theorem en69 {ys : Yls} {p0 p1 p2 p3 : X} {S : St} {Q : Va → St → Bool → Prop} (h : ∀ R : St, S.n = R.n → S.h = R.h → R.lo = R.n → @Wp EE 69 ys false k69 [.x p0, .x p1, .x p2, .x p3, .u, .u, .u, .u, .u, .u, .u, .u, .u, .u, .u, .u, .u, .u, .u, .u, .u, .u, .u, .u, .u, .u, .u, .u, .u, .u, .u, .u, .u, .u, .u, .u, .u, .u, .u, .u] (ext R []) ⟨exitQ EE [.tmp 8] S Q⟩) : ∃ r, res EE ys (.f 69) [p0, p1, p2, p3] S = some r ∧ Q r.1 r.2.1 r.2.2 :=
  enter rfl (by kernel_rfl) sk69 (by kernel_rfl) (by kernel_rfl) ⟨rfl, by simp⟩ h

/-! ### function 70: boule/bouleref01.Frac -/
abbrev s70_0 : List Stp := [⟨none, some 1, .box 49 (.tmp 0)⟩,
  ⟨none, some 2, .assign (.const (.bool false))⟩]
abbrev s70_1 : List Stp := [⟨none, some 3, .fieldAddr 49 (.tmp 1) 0⟩,
  ⟨none, some 4, .load 3 (.tmp 3)⟩,
  ⟨none, some 5, .call ⟨.value (.func 96), #[.tmp 4], #[3]⟩⟩,
  ⟨none, some 6, .move (.tmp 5)⟩,
  ⟨some (6, true), some 7, .fieldAddr 49 (.tmp 1) 1⟩,
  ⟨some (6, true), some 8, .load 3 (.tmp 7)⟩,
  ⟨some (6, true), some 9, .binOp .geq 3 (.tmp 8) (.const (.int .i64 1)) 3⟩,
  ⟨none, some 10, .pick (.tmp 6) (.tmp 9) (.const (.bool false))⟩,
  ⟨none, some 11, .move (.tmp 10)⟩,
  ⟨some (11, true), some 12, .fieldAddr 49 (.tmp 1) 1⟩,
  ⟨some (11, true), some 13, .load 3 (.tmp 12)⟩,
  ⟨some (11, true), some 14, .binOp .leq 3 (.tmp 13) (.const (.int .i64 1000000000000000)) 3⟩,
  ⟨none, some 15, .pick (.tmp 11) (.tmp 14) (.const (.bool false))⟩,
  ⟨none, some 2, .assign (.tmp 15)⟩]
abbrev k70 : Sk := .seq (.reg 0 false s70_0) (.seq (.reg 1 false s70_1) .ret)
theorem sk70 : (Try.f70.body.bind (skOf 16)) = some k70 := by kernel_rfl
theorem en70 {ys : Yls} {p0 : X} {S : St} {Q : Va → St → Bool → Prop} (h : ∀ R : St, S.n = R.n → S.h = R.h → R.lo = R.n → @Wp EE 70 ys false k70 [.x p0, .u, .u, .u, .u, .u, .u, .u, .u, .u, .u, .u, .u, .u, .u, .u] (ext R []) ⟨exitQ EE [.tmp 2] S Q⟩) : ∃ r, res EE ys (.f 70) [p0] S = some r ∧ Q r.1 r.2.1 r.2.2 :=
  enter rfl (by kernel_rfl) sk70 (by kernel_rfl) (by kernel_rfl) ⟨rfl, by simp⟩ h

/-! ### function 71: boule/bouleref01.Cmp -/
abbrev s71_0 : List Stp := [⟨none, some 8, .assign (.const (.int .i64 0))⟩]
abbrev s71_1 : List Stp := [⟨none, some 14, .move (.tmp 0)⟩,
  ⟨none, some 15, .move (.tmp 1)⟩,
  ⟨none, some 16, .call ⟨.value (.func 107), #[.tmp 14, .tmp 15], #[3, 3]⟩⟩,
  ⟨none, some 13, .move (.tmp 16)⟩,
  ⟨none, some 17, .extract (.tmp 13) 0⟩,
  ⟨none, some 18, .extract (.tmp 13) 1⟩,
  ⟨none, some 9, .assign (.tmp 17)⟩,
  ⟨none, some 10, .assign (.tmp 18)⟩]
abbrev s71_2 : List Stp := [⟨none, some 20, .move (.tmp 2)⟩,
  ⟨none, some 21, .move (.tmp 3)⟩,
  ⟨none, some 22, .call ⟨.value (.func 107), #[.tmp 20, .tmp 21], #[3, 3]⟩⟩,
  ⟨none, some 19, .move (.tmp 22)⟩,
  ⟨none, some 23, .extract (.tmp 19) 0⟩,
  ⟨none, some 24, .extract (.tmp 19) 1⟩,
  ⟨none, some 11, .assign (.tmp 23)⟩,
  ⟨none, some 12, .assign (.tmp 24)⟩]
abbrev s71_3 : List Stp := [⟨none, some 26, .move (.tmp 9)⟩,
  ⟨none, some 27, .move (.tmp 11)⟩,
  ⟨none, some 28, .binOp .lss 3 (.tmp 26) (.tmp 27) 3⟩,
  ⟨none, some 25, .assign (.tmp 28)⟩]
abbrev s71_4 : List Stp := [⟨none, some 8, .assign (.const (.int .i64 (-1)))⟩]
abbrev s71_5 : List Stp := [⟨none, some 30, .move (.tmp 9)⟩,
  ⟨none, some 31, .move (.tmp 11)⟩,
  ⟨none, some 32, .binOp .gtr 3 (.tmp 30) (.tmp 31) 3⟩,
  ⟨none, some 29, .assign (.tmp 32)⟩]
abbrev s71_6 : List Stp := [⟨none, some 8, .assign (.const (.int .i64 1))⟩]
abbrev s71_7 : List Stp := [⟨none, some 34, .move (.tmp 10)⟩,
  ⟨none, some 35, .binOp .eql 3 (.tmp 34) (.const (.int .i64 0)) 3⟩,
  ⟨none, some 36, .move (.tmp 35)⟩,
  ⟨some (36, true), some 37, .move (.tmp 12)⟩,
  ⟨some (36, true), some 38, .binOp .eql 3 (.tmp 37) (.const (.int .i64 0)) 3⟩,
  ⟨none, some 39, .pick (.tmp 36) (.tmp 38) (.const (.bool false))⟩,
  ⟨none, some 33, .assign (.tmp 39)⟩]
abbrev s71_8 : List Stp := [⟨none, some 8, .assign (.const (.int .i64 0))⟩]
abbrev s71_9 : List Stp := [⟨none, some 41, .move (.tmp 10)⟩,
  ⟨none, some 42, .binOp .eql 3 (.tmp 41) (.const (.int .i64 0)) 3⟩,
  ⟨none, some 40, .assign (.tmp 42)⟩]
abbrev s71_10 : List Stp := [⟨none, some 8, .assign (.const (.int .i64 (-1)))⟩]
abbrev s71_11 : List Stp := [⟨none, some 44, .move (.tmp 12)⟩,
  ⟨none, some 45, .binOp .eql 3 (.tmp 44) (.const (.int .i64 0)) 3⟩,
  ⟨none, some 43, .assign (.tmp 45)⟩]
abbrev s71_12 : List Stp := [⟨none, some 8, .assign (.const (.int .i64 1))⟩]
abbrev s71_13 : List Stp := [⟨none, some 46, .move (.tmp 3)⟩,
  ⟨none, some 47, .move (.tmp 12)⟩,
  ⟨none, some 48, .move (.tmp 1)⟩,
  ⟨none, some 49, .move (.tmp 10)⟩,
  ⟨none, some 50, .call ⟨.value (.func 71), #[.tmp 46, .tmp 47, .tmp 48, .tmp 49], #[3, 3, 3, 3]⟩⟩,
  ⟨none, some 8, .assign (.tmp 50)⟩]
abbrev k71 : Sk := .seq (.reg 0 false s71_0) (.seq (.reg 1 false s71_1) (.seq (.reg 2 false s71_2) (.seq (.block 0 (.seq (.reg 3 false s71_3) (.cond (.tmp 25) (.seq (.reg 4 false s71_4) .ret) (.seq (.reg 5 false s71_5) (.cond (.tmp 29) (.seq (.reg 6 false s71_6) .ret) (.seq (.reg 7 false s71_7) (.cond (.tmp 33) (.seq (.reg 8 false s71_8) .ret) (.seq (.reg 9 false s71_9) (.cond (.tmp 40) (.seq (.reg 10 false s71_10) .ret) (.seq (.reg 11 false s71_11) (.cond (.tmp 43) (.seq (.reg 12 false s71_12) .ret) .skip))))))))))) (.seq (.reg 13 false s71_13) .ret))))
theorem sk71 : (Try.f71.body.bind (skOf 51)) = some k71 := by kernel_rfl
theorem en71 {ys : Yls} {p0 p1 p2 p3 : X} {S : St} {Q : Va → St → Bool → Prop} (h : ∀ R : St, S.n = R.n → S.h = R.h → R.lo = R.n → @Wp EE 71 ys false k71 [.x p0, .x p1, .x p2, .x p3, .u, .u, .u, .u, .u, .u, .u, .u, .u, .u, .u, .u, .u, .u, .u, .u, .u, .u, .u, .u, .u, .u, .u, .u, .u, .u, .u, .u, .u, .u, .u, .u, .u, .u, .u, .u, .u, .u, .u, .u, .u, .u, .u, .u, .u, .u, .u] (ext R []) ⟨exitQ EE [.tmp 8] S Q⟩) : ∃ r, res EE ys (.f 71) [p0, p1, p2, p3] S = some r ∧ Q r.1 r.2.1 r.2.2 :=
  enter rfl (by kernel_rfl) sk71 (by kernel_rfl) (by kernel_rfl) ⟨rfl, by simp⟩ h

/-! ### function 72: boule/bouleref09.Window -/
abbrev s72_0 : List Stp := [⟨none, some 5, .box 37 (.tmp 0)⟩,
  ⟨none, some 10, .alloc 37⟩]
abbrev s72_1 : List Stp := [⟨none, some 14, .move (.tmp 3)⟩,
  ⟨none, some 15, .move (.tmp 4)⟩,
  ⟨none, some 16, .build 37 #[(0, .tmp 14), (1, .tmp 15)]⟩,
  ⟨none, some 11, .alloc 37⟩,
  ⟨none, none, .store 37 (.tmp 11) (.tmp 16)⟩]
abbrev s72_2 : List Stp := [⟨none, some 12, .assign (.const (.int .i64 0))⟩]
abbrev s72_3 : List Stp := [⟨none, some 17, .move (.tmp 12)⟩,
  ⟨none, some 18, .move (.tmp 4)⟩,
  ⟨none, some 19, .binOp .lss 3 (.tmp 17) (.tmp 18) 3⟩]
abbrev s72_5 : List Stp := [⟨none, some 13, .assign (.const (.int .i64 0))⟩]
abbrev s72_6 : List Stp := [⟨none, some 22, .move (.tmp 13)⟩,
  ⟨none, some 23, .move (.tmp 3)⟩,
  ⟨none, some 24, .binOp .lss 3 (.tmp 22) (.tmp 23) 3⟩]
abbrev s72_8 : List Stp := [⟨none, some 27, .fieldAddr 37 (.tmp 11) 3⟩,
  ⟨none, some 28, .load 35 (.tmp 27)⟩,
  ⟨none, some 29, .fieldAddr 37 (.tmp 5) 3⟩,
  ⟨none, some 30, .load 35 (.tmp 29)⟩,
  ⟨none, some 31, .move (.tmp 2)⟩,
  ⟨none, some 32, .move (.tmp 12)⟩,
  ⟨none, some 33, .binOp .add 3 (.tmp 31) (.tmp 32) 3⟩,
  ⟨none, some 34, .fieldAddr 37 (.tmp 5) 0⟩,
  ⟨none, some 35, .load 3 (.tmp 34)⟩,
  ⟨none, some 36, .binOp .mul 3 (.tmp 33) (.tmp 35) 3⟩,
  ⟨none, some 37, .move (.tmp 1)⟩,
  ⟨none, some 38, .binOp .add 3 (.tmp 36) (.tmp 37) 3⟩,
  ⟨none, some 39, .move (.tmp 13)⟩,
  ⟨none, some 40, .binOp .add 3 (.tmp 38) (.tmp 39) 3⟩,
  ⟨none, some 41, .indexAddr 35 (.tmp 30) (.tmp 40)⟩,
  ⟨none, some 42, .load 24 (.tmp 41)⟩,
  ⟨none, some 43, .buildSlice 35 1 #[(0, .tmp 42)]⟩,
  ⟨none, some 44, .call ⟨.builtin .append, #[.tmp 28, .tmp 43], #[35, 35]⟩⟩,
  ⟨none, some 45, .fieldAddr 37 (.tmp 11) 3⟩,
  ⟨none, none, .store 35 (.tmp 45) (.tmp 44)⟩]
abbrev s72_7 : List Stp := [⟨none, some 25, .move (.tmp 13)⟩,
  ⟨none, some 26, .binOp .add 3 (.tmp 25) (.const (.int .i64 1)) 3⟩,
  ⟨none, some 13, .assign (.tmp 26)⟩]
abbrev l72_0 : Sk := .seq (.seq (.reg 6 false s72_6) (.cond (.tmp 24) .skip (.exit 2))) (.seq (.block 3 (.reg 8 true s72_8)) (.reg 7 false s72_7))
abbrev s72_4 : List Stp := [⟨none, some 20, .move (.tmp 12)⟩,
  ⟨none, some 21, .binOp .add 3 (.tmp 20) (.const (.int .i64 1)) 3⟩,
  ⟨none, some 12, .assign (.tmp 21)⟩]
abbrev l72_1 : Sk := .seq (.seq (.reg 3 false s72_3) (.cond (.tmp 19) .skip (.exit 0))) (.seq (.block 1 (.seq (.reg 5 false s72_5) (.block 2 (.loop l72_0)))) (.reg 4 false s72_4))
abbrev s72_9 : List Stp := [⟨none, some 46, .load 37 (.tmp 11)⟩,
  ⟨none, none, .store 37 (.tmp 10) (.tmp 46)⟩]
abbrev k72 : Sk := .seq (.reg 0 false s72_0) (.seq (.reg 1 false s72_1) (.seq (.seq (.reg 2 false s72_2) (.block 0 (.loop l72_1))) (.seq (.reg 9 false s72_9) .ret)))
theorem sk72 : (Try.f72.body.bind (skOf 47)) = some k72 := by kernel_rfl
theorem en72 {ys : Yls} {p0 p1 p2 p3 p4 : X} {S : St} {Q : Va → St → Bool → Prop} (h : ∀ R : St, S.n = R.n → S.h = R.h → R.lo = R.n → @Wp EE 72 ys false k72 [.x p0, .x p1, .x p2, .x p3, .x p4, .u, .u, .u, .u, .u, .u, .u, .u, .u, .u, .u, .u, .u, .u, .u, .u, .u, .u, .u, .u, .u, .u, .u, .u, .u, .u, .u, .u, .u, .u, .u, .u, .u, .u, .u, .u, .u, .u, .u, .u, .u, .u] (ext R []) ⟨exitQ EE [.cell 10 37] S Q⟩) : ∃ r, res EE ys (.f 72) [p0, p1, p2, p3, p4] S = some r ∧ Q r.1 r.2.1 r.2.2 :=
  enter rfl (by kernel_rfl) sk72 (by kernel_rfl) (by kernel_rfl) ⟨rfl, by simp⟩ h

/-! ### function 73: boule/finish.Apart$1 -/
abbrev s73_0 : List Stp := [⟨none, some 2, .box 72 (.tmp 0)⟩,
  ⟨none, some 3, .assign (.const (.bool false))⟩]
abbrev s73_1 : List Stp := [⟨none, some 6, .fieldAddr 72 (.tmp 2) 1⟩,
  ⟨none, some 7, .load 30 (.tmp 6)⟩,
  ⟨none, some 8, .call ⟨.builtin .len, #[.tmp 7], #[30]⟩⟩,
  ⟨none, some 9, .move (.const (.int .i64 0))⟩]
abbrev s73_2 : List Stp := [⟨none, some 10, .binOp .lss 3 (.tmp 9) (.tmp 8) 3⟩]
abbrev s73_3 : List Stp := [⟨none, some 11, .move (.tmp 9)⟩,
  ⟨none, some 12, .indexAddr 30 (.tmp 7) (.tmp 9)⟩,
  ⟨none, some 13, .load 3 (.tmp 12)⟩,
  ⟨none, some 4, .assign (.tmp 11)⟩,
  ⟨none, some 5, .assign (.tmp 13)⟩]
abbrev s73_4 : List Stp := [⟨none, some 14, .move (.tmp 5)⟩,
  ⟨none, some 15, .binOp .lss 3 (.tmp 14) (.const (.int .i64 0)) 3⟩,
  ⟨none, some 16, .move (.tmp 15)⟩,
  ⟨some (16, false), some 17, .move (.tmp 5)⟩,
  ⟨some (16, false), some 18, .load 35 (.tmp 1)⟩,
  ⟨some (16, false), some 19, .call ⟨.builtin .len, #[.tmp 18], #[35]⟩⟩,
  ⟨some (16, false), some 20, .binOp .geq 3 (.tmp 17) (.tmp 19) 3⟩,
  ⟨none, some 21, .pick (.tmp 16) (.const (.bool true)) (.tmp 20)⟩,
  ⟨none, some 22, .move (.tmp 21)⟩,
  ⟨some (22, false), some 23, .move (.tmp 4)⟩,
  ⟨some (22, false), some 24, .binOp .gtr 3 (.tmp 23) (.const (.int .i64 0)) 3⟩,
  ⟨some (22, false), some 25, .move (.tmp 24)⟩,
  ⟨some (25, true), some 26, .move (.tmp 5)⟩,
  ⟨some (25, true), some 27, .fieldAddr 72 (.tmp 2) 1⟩,
  ⟨some (25, true), some 28, .load 30 (.tmp 27)⟩,
  ⟨some (25, true), some 29, .move (.tmp 4)⟩,
  ⟨some (25, true), some 30, .binOp .sub 3 (.tmp 29) (.const (.int .i64 1)) 3⟩,
  ⟨some (25, true), some 31, .indexAddr 30 (.tmp 28) (.tmp 30)⟩,
  ⟨some (25, true), some 32, .load 3 (.tmp 31)⟩,
  ⟨some (25, true), some 33, .binOp .leq 3 (.tmp 26) (.tmp 32) 3⟩,
  ⟨some (22, false), some 34, .pick (.tmp 25) (.tmp 33) (.const (.bool false))⟩,
  ⟨none, some 35, .pick (.tmp 22) (.const (.bool true)) (.tmp 34)⟩]
abbrev s73_5 : List Stp := [⟨none, some 3, .assign (.const (.bool true))⟩]
abbrev s73_6 : List Stp := [⟨none, some 36, .binOp .add 3 (.tmp 9) (.const (.int .i64 1)) 3⟩,
  ⟨none, some 9, .move (.tmp 36)⟩]
abbrev l73_0 : Sk := .seq (.reg 2 false s73_2) (.seq (.cond (.tmp 10) .skip (.exit 0)) (.seq (.block 1 (.seq (.reg 3 false s73_3) (.seq (.reg 4 false s73_4) (.cond (.tmp 35) (.seq (.reg 5 false s73_5) .ret) .skip)))) (.reg 6 false s73_6)))
abbrev s73_7 : List Stp := [⟨none, some 37, .call ⟨.value (.func 59), #[], #[]⟩⟩,
  ⟨none, some 38, .fieldAddr 72 (.tmp 2) 0⟩,
  ⟨none, some 39, .load 24 (.tmp 38)⟩,
  ⟨none, some 40, .buildSlice 35 1 #[(0, .tmp 39)]⟩,
  ⟨none, some 41, .call ⟨.value (.func 49), #[.tmp 37, .tmp 40], #[116, 35]⟩⟩,
  ⟨none, some 42, .unOp .not 4 (.tmp 41)⟩,
  ⟨none, some 3, .assign (.tmp 42)⟩]
abbrev k73 : Sk := .seq (.reg 0 false s73_0) (.seq (.seq (.reg 1 false s73_1) (.block 0 (.loop l73_0))) (.seq (.reg 7 true s73_7) .ret))
theorem sk73 : (Try.f73.body.bind (skOf 43)) = some k73 := by kernel_rfl
theorem en73 {ys : Yls} {p0 p1 : X} {S : St} {Q : Va → St → Bool → Prop} (h : ∀ R : St, S.n = R.n → S.h = R.h → R.lo = R.n → @Wp EE 73 ys false k73 [.x p0, .x p1, .u, .u, .u, .u, .u, .u, .u, .u, .u, .u, .u, .u, .u, .u, .u, .u, .u, .u, .u, .u, .u, .u, .u, .u, .u, .u, .u, .u, .u, .u, .u, .u, .u, .u, .u, .u, .u, .u, .u, .u, .u] (ext R []) ⟨exitQ EE [.tmp 3] S Q⟩) : ∃ r, res EE ys (.f 73) [p0, p1] S = some r ∧ Q r.1 r.2.1 r.2.2 :=
  enter rfl (by kernel_rfl) sk73 (by kernel_rfl) (by kernel_rfl) ⟨rfl, by simp⟩ h

/-! ### function 74: boule/units.Less -/
abbrev s74_0 : List Stp := [⟨none, some 2, .box 24 (.tmp 0)⟩,
  ⟨none, some 3, .box 24 (.tmp 1)⟩,
  ⟨none, some 4, .alloc 24⟩,
  ⟨none, some 5, .assign (.const (.int .i64 0))⟩]
abbrev s74_1 : List Stp := [⟨none, some 6, .load 24 (.tmp 2)⟩,
  ⟨none, some 7, .load 24 (.tmp 3)⟩,
  ⟨none, some 8, .buildSlice 35 2 #[(0, .tmp 6), (1, .tmp 7)]⟩,
  ⟨none, some 9, .call ⟨.value (.func 90), #[.tmp 8], #[35]⟩⟩,
  ⟨none, some 10, .unOp .not 4 (.tmp 9)⟩]
abbrev s74_2 : List Stp := [⟨none, some 11, .build 24 #[]⟩,
  ⟨none, none, .store 24 (.tmp 4) (.tmp 11)⟩,
  ⟨none, some 5, .assign (.const (.int .i64 2))⟩]
abbrev s74_3 : List Stp := [⟨none, some 12, .fieldAddr 24 (.tmp 2) 0⟩,
  ⟨none, some 13, .load 3 (.tmp 12)⟩,
  ⟨none, some 14, .fieldAddr 24 (.tmp 3) 1⟩,
  ⟨none, some 15, .load 3 (.tmp 14)⟩,
  ⟨none, some 16, .binOp .sub 3 (.tmp 13) (.tmp 15) 3⟩,
  ⟨none, some 17, .fieldAddr 24 (.tmp 2) 1⟩,
  ⟨none, some 18, .load 3 (.tmp 17)⟩,
  ⟨none, some 19, .fieldAddr 24 (.tmp 3) 0⟩,
  ⟨none, some 20, .load 3 (.tmp 19)⟩,
  ⟨none, some 21, .binOp .sub 3 (.tmp 18) (.tmp 20) 3⟩,
  ⟨none, some 22, .call ⟨.value (.func 94), #[.tmp 16, .tmp 21], #[3, 3]⟩⟩,
  ⟨none, some 23, .extract (.tmp 22) 0⟩,
  ⟨none, some 24, .extract (.tmp 22) 1⟩,
  ⟨none, none, .store 24 (.tmp 4) (.tmp 23)⟩,
  ⟨none, some 5, .assign (.tmp 24)⟩]
abbrev k74 : Sk := .seq (.reg 0 false s74_0) (.seq (.seq (.reg 1 false s74_1) (.cond (.tmp 10) (.seq (.reg 2 false s74_2) .ret) .skip)) (.seq (.reg 3 false s74_3) .ret))
theorem sk74 : (Try.f74.body.bind (skOf 25)) = some k74 := by kernel_rfl
theorem en74 {ys : Yls} {p0 p1 : X} {S : St} {Q : Va → St → Bool → Prop} (h : ∀ R : St, S.n = R.n → S.h = R.h → R.lo = R.n → @Wp EE 74 ys false k74 [.x p0, .x p1, .u, .u, .u, .u, .u, .u, .u, .u, .u, .u, .u, .u, .u, .u, .u, .u, .u, .u, .u, .u, .u, .u, .u] (ext R []) ⟨exitQ EE [.cell 4 24, .tmp 5] S Q⟩) : ∃ r, res EE ys (.f 74) [p0, p1] S = some r ∧ Q r.1 r.2.1 r.2.2 :=
  enter rfl (by kernel_rfl) sk74 (by kernel_rfl) (by kernel_rfl) ⟨rfl, by simp⟩ h

/-! ### function 75: boule/bouleref09.treated -/
abbrev s75_0 : List Stp := [⟨none, some 2, .box 72 (.tmp 0)⟩,
  ⟨none, some 4, .assign (.const (.bool false))⟩]
abbrev s75_1 : List Stp := [⟨none, some 5, .assign (.const (.int .i64 0))⟩]
abbrev s75_2 : List Stp := [⟨none, some 6, .move (.tmp 5)⟩,
  ⟨none, some 7, .fieldAddr 72 (.tmp 2) 1⟩,
  ⟨none, some 8, .load 30 (.tmp 7)⟩,
  ⟨none, some 9, .call ⟨.builtin .len, #[.tmp 8], #[30]⟩⟩,
  ⟨none, some 10, .binOp .lss 3 (.tmp 6) (.tmp 9) 3⟩]
abbrev s75_4 : List Stp := [⟨none, some 13, .fieldAddr 72 (.tmp 2) 1⟩,
  ⟨none, some 14, .load 30 (.tmp 13)⟩,
  ⟨none, some 15, .move (.tmp 5)⟩,
  ⟨none, some 16, .indexAddr 30 (.tmp 14) (.tmp 15)⟩,
  ⟨none, some 17, .load 3 (.tmp 16)⟩,
  ⟨none, some 18, .binOp .lss 3 (.tmp 17) (.const (.int .i64 0)) 3⟩,
  ⟨none, some 19, .move (.tmp 18)⟩,
  ⟨some (19, false), some 20, .fieldAddr 72 (.tmp 2) 1⟩,
  ⟨some (19, false), some 21, .load 30 (.tmp 20)⟩,
  ⟨some (19, false), some 22, .move (.tmp 5)⟩,
  ⟨some (19, false), some 23, .indexAddr 30 (.tmp 21) (.tmp 22)⟩,
  ⟨some (19, false), some 24, .load 3 (.tmp 23)⟩,
  ⟨some (19, false), some 25, .move (.tmp 1)⟩,
  ⟨some (19, false), some 26, .binOp .geq 3 (.tmp 24) (.tmp 25) 3⟩,
  ⟨none, some 27, .pick (.tmp 19) (.const (.bool true)) (.tmp 26)⟩,
  ⟨none, some 28, .move (.tmp 27)⟩,
  ⟨some (28, false), some 29, .move (.tmp 5)⟩,
  ⟨some (28, false), some 30, .binOp .gtr 3 (.tmp 29) (.const (.int .i64 0)) 3⟩,
  ⟨some (28, false), some 31, .move (.tmp 30)⟩,
  ⟨some (31, true), some 32, .fieldAddr 72 (.tmp 2) 1⟩,
  ⟨some (31, true), some 33, .load 30 (.tmp 32)⟩,
  ⟨some (31, true), some 34, .move (.tmp 5)⟩,
  ⟨some (31, true), some 35, .binOp .sub 3 (.tmp 34) (.const (.int .i64 1)) 3⟩,
  ⟨some (31, true), some 36, .indexAddr 30 (.tmp 33) (.tmp 35)⟩,
  ⟨some (31, true), some 37, .load 3 (.tmp 36)⟩,
  ⟨some (31, true), some 38, .fieldAddr 72 (.tmp 2) 1⟩,
  ⟨some (31, true), some 39, .load 30 (.tmp 38)⟩,
  ⟨some (31, true), some 40, .move (.tmp 5)⟩,
  ⟨some (31, true), some 41, .indexAddr 30 (.tmp 39) (.tmp 40)⟩,
  ⟨some (31, true), some 42, .load 3 (.tmp 41)⟩,
  ⟨some (31, true), some 43, .binOp .geq 3 (.tmp 37) (.tmp 42) 3⟩,
  ⟨some (28, false), some 44, .pick (.tmp 31) (.tmp 43) (.const (.bool false))⟩,
  ⟨none, some 45, .pick (.tmp 28) (.const (.bool true)) (.tmp 44)⟩]
abbrev s75_5 : List Stp := [⟨none, some 4, .assign (.const (.bool false))⟩]
abbrev s75_3 : List Stp := [⟨none, some 11, .move (.tmp 5)⟩,
  ⟨none, some 12, .binOp .add 3 (.tmp 11) (.const (.int .i64 1)) 3⟩,
  ⟨none, some 5, .assign (.tmp 12)⟩]
abbrev l75_0 : Sk := .seq (.seq (.reg 2 false s75_2) (.cond (.tmp 10) .skip (.exit 0))) (.seq (.block 1 (.seq (.reg 4 true s75_4) (.cond (.tmp 45) (.seq (.reg 5 false s75_5) .ret) .skip))) (.reg 3 false s75_3))
abbrev s75_6 : List Stp := [⟨none, some 46, .fieldAddr 72 (.tmp 2) 0⟩,
  ⟨none, some 47, .load 24 (.tmp 46)⟩,
  ⟨none, some 48, .call ⟨.value (.func 58), #[.tmp 47, .const (.int .i64 0), .const (.int .i64 10000000)], #[24, 3, 3]⟩⟩,
  ⟨none, some 4, .assign (.tmp 48)⟩]
abbrev k75 : Sk := .seq (.reg 0 false s75_0) (.seq (.seq (.reg 1 false s75_1) (.block 0 (.loop l75_0))) (.seq (.reg 6 false s75_6) .ret))
theorem sk75 : (Try.f75.body.bind (skOf 49)) = some k75 := by kernel_rfl
theorem en75 {ys : Yls} {p0 p1 : X} {S : St} {Q : Va → St → Bool → Prop} (h : ∀ R : St, S.n = R.n → S.h = R.h → R.lo = R.n → @Wp EE 75 ys false k75 [.x p0, .x p1, .u, .u, .u, .u, .u, .u, .u, .u, .u, .u, .u, .u, .u, .u, .u, .u, .u, .u, .u, .u, .u, .u, .u, .u, .u, .u, .u, .u, .u, .u, .u, .u, .u, .u, .u, .u, .u, .u, .u, .u, .u, .u, .u, .u, .u, .u, .u] (ext R []) ⟨exitQ EE [.tmp 4] S Q⟩) : ∃ r, res EE ys (.f 75) [p0, p1] S = some r ∧ Q r.1 r.2.1 r.2.2 :=
  enter rfl (by kernel_rfl) sk75 (by kernel_rfl) (by kernel_rfl) ⟨rfl, by simp⟩ h

/-! ### function 76: boule/bouleref09.in -/
abbrev s76_0 : List Stp := [⟨none, some 2, .box 72 (.tmp 0)⟩,
  ⟨none, some 4, .assign (.const (.bool false))⟩]
abbrev s76_1 : List Stp := [⟨none, some 5, .assign (.const (.int .i64 0))⟩]
abbrev s76_2 : List Stp := [⟨none, some 6, .move (.tmp 5)⟩,
  ⟨none, some 7, .fieldAddr 72 (.tmp 2) 1⟩,
  ⟨none, some 8, .load 30 (.tmp 7)⟩,
  ⟨none, some 9, .call ⟨.builtin .len, #[.tmp 8], #[30]⟩⟩,
  ⟨none, some 10, .binOp .lss 3 (.tmp 6) (.tmp 9) 3⟩]
abbrev s76_4 : List Stp := [⟨none, some 13, .fieldAddr 72 (.tmp 2) 1⟩,
  ⟨none, some 14, .load 30 (.tmp 13)⟩,
  ⟨none, some 15, .move (.tmp 5)⟩,
  ⟨none, some 16, .indexAddr 30 (.tmp 14) (.tmp 15)⟩,
  ⟨none, some 17, .load 3 (.tmp 16)⟩,
  ⟨none, some 18, .move (.tmp 1)⟩,
  ⟨none, some 19, .binOp .eql 3 (.tmp 17) (.tmp 18) 3⟩]
abbrev s76_5 : List Stp := [⟨none, some 4, .assign (.const (.bool true))⟩]
abbrev s76_3 : List Stp := [⟨none, some 11, .move (.tmp 5)⟩,
  ⟨none, some 12, .binOp .add 3 (.tmp 11) (.const (.int .i64 1)) 3⟩,
  ⟨none, some 5, .assign (.tmp 12)⟩]
abbrev l76_0 : Sk := .seq (.seq (.reg 2 false s76_2) (.cond (.tmp 10) .skip (.exit 0))) (.seq (.block 1 (.seq (.reg 4 false s76_4) (.cond (.tmp 19) (.seq (.reg 5 false s76_5) .ret) .skip))) (.reg 3 false s76_3))
abbrev s76_6 : List Stp := [⟨none, some 4, .assign (.const (.bool false))⟩]
abbrev k76 : Sk := .seq (.reg 0 false s76_0) (.seq (.seq (.reg 1 false s76_1) (.block 0 (.loop l76_0))) (.seq (.reg 6 false s76_6) .ret))
theorem sk76 : (Try.f76.body.bind (skOf 20)) = some k76 := by kernel_rfl
theorem en76 {ys : Yls} {p0 p1 : X} {S : St} {Q : Va → St → Bool → Prop} (h : ∀ R : St, S.n = R.n → S.h = R.h → R.lo = R.n → @Wp EE 76 ys false k76 [.x p0, .x p1, .u, .u, .u, .u, .u, .u, .u, .u, .u, .u, .u, .u, .u, .u, .u, .u, .u, .u] (ext R []) ⟨exitQ EE [.tmp 4] S Q⟩) : ∃ r, res EE ys (.f 76) [p0, p1] S = some r ∧ Q r.1 r.2.1 r.2.2 :=
  enter rfl (by kernel_rfl) sk76 (by kernel_rfl) (by kernel_rfl) ⟨rfl, by simp⟩ h

/-! ### function 77: slices.ContainsFunc[[]boule/api.Removal,boule/api.Removal] -/
abbrev s77_0 : List Stp := [⟨none, some 4, .assign (.const (.bool false))⟩]
abbrev s77_1 : List Stp := [⟨none, some 5, .move (.tmp 0)⟩,
  ⟨none, some 6, .move (.tmp 1)⟩,
  ⟨none, some 7, .call ⟨.value (.func 108), #[.tmp 5, .tmp 6], #[76, 155]⟩⟩,
  ⟨none, some 8, .binOp .geq 3 (.tmp 7) (.const (.int .i64 0)) 3⟩,
  ⟨none, some 4, .assign (.tmp 8)⟩]
abbrev k77 : Sk := .seq (.reg 0 false s77_0) (.seq (.reg 1 false s77_1) .ret)
theorem sk77 : (Try.f77.body.bind (skOf 9)) = some k77 := by kernel_rfl
theorem en77 {ys : Yls} {p0 p1 : X} {S : St} {Q : Va → St → Bool → Prop} (h : ∀ R : St, S.n = R.n → S.h = R.h → R.lo = R.n → @Wp EE 77 ys false k77 [.x p0, .x p1, .u, .u, .u, .u, .u, .u, .u] (ext R []) ⟨exitQ EE [.tmp 4] S Q⟩) : ∃ r, res EE ys (.f 77) [p0, p1] S = some r ∧ Q r.1 r.2.1 r.2.2 :=
  enter rfl (by kernel_rfl) sk77 (by kernel_rfl) (by kernel_rfl) ⟨rfl, by simp⟩ h

/-! ### function 78: boule/finish.Remove$1 -/
abbrev s78_0 : List Stp := [⟨none, some 1, .box 88 (.tmp 0)⟩,
  ⟨none, some 2, .assign (.const (.bool false))⟩]
abbrev s78_1 : List Stp := [⟨none, some 3, .fieldAddr 88 (.tmp 1) 0⟩,
  ⟨none, some 4, .load 86 (.tmp 3)⟩,
  ⟨none, some 5, .binOp .lss 86 (.tmp 4) (.const (.int .i64 1)) 86⟩,
  ⟨none, some 6, .move (.tmp 5)⟩,
  ⟨some (6, false), some 7, .fieldAddr 88 (.tmp 1) 0⟩,
  ⟨some (6, false), some 8, .load 86 (.tmp 7)⟩,
  ⟨some (6, false), some 9, .binOp .gtr 86 (.tmp 8) (.const (.int .i64 4)) 86⟩,
  ⟨none, some 10, .pick (.tmp 6) (.const (.bool true)) (.tmp 9)⟩,
  ⟨none, some 11, .move (.tmp 10)⟩,
  ⟨some (11, false), some 12, .call ⟨.value (.func 59), #[], #[]⟩⟩,
  ⟨some (11, false), some 13, .fieldAddr 88 (.tmp 1) 1⟩,
  ⟨some (11, false), some 14, .load 24 (.tmp 13)⟩,
  ⟨some (11, false), some 15, .buildSlice 35 1 #[(0, .tmp 14)]⟩,
  ⟨some (11, false), some 16, .call ⟨.value (.func 49), #[.tmp 12, .tmp 15], #[116, 35]⟩⟩,
  ⟨some (11, false), some 17, .unOp .not 4 (.tmp 16)⟩,
  ⟨none, some 18, .pick (.tmp 11) (.const (.bool true)) (.tmp 17)⟩,
  ⟨none, some 19, .move (.tmp 18)⟩,
  ⟨some (19, false), some 20, .fieldAddr 88 (.tmp 1) 2⟩,
  ⟨some (19, false), some 21, .load 3 (.tmp 20)⟩,
  ⟨some (19, false), some 22, .binOp .lss 3 (.tmp 21) (.const (.int .i64 0)) 3⟩,
  ⟨none, some 23, .pick (.tmp 19) (.const (.bool true)) (.tmp 22)⟩,
  ⟨none, some 24, .move (.tmp 23)⟩,
  ⟨some (24, false), some 25, .fieldAddr 88 (.tmp 1) 2⟩,
  ⟨some (24, false), some 26, .load 3 (.tmp 25)⟩,
  ⟨some (24, false), some 27, .binOp .gtr 3 (.tmp 26) (.const (.int .i64 1000000)) 3⟩,
  ⟨none, some 28, .pick (.tmp 24) (.const (.bool true)) (.tmp 27)⟩,
  ⟨none, some 2, .assign (.tmp 28)⟩]
abbrev k78 : Sk := .seq (.reg 0 false s78_0) (.seq (.reg 1 true s78_1) .ret)
theorem sk78 : (Try.f78.body.bind (skOf 29)) = some k78 := by kernel_rfl
theorem en78 {ys : Yls} {p0 : X} {S : St} {Q : Va → St → Bool → Prop} (h : ∀ R : St, S.n = R.n → S.h = R.h → R.lo = R.n → @Wp EE 78 ys false k78 [.x p0, .u, .u, .u, .u, .u, .u, .u, .u, .u, .u, .u, .u, .u, .u, .u, .u, .u, .u, .u, .u, .u, .u, .u, .u, .u, .u, .u, .u] (ext R []) ⟨exitQ EE [.tmp 2] S Q⟩) : ∃ r, res EE ys (.f 78) [p0] S = some r ∧ Q r.1 r.2.1 r.2.2 :=
  enter rfl (by kernel_rfl) sk78 (by kernel_rfl) (by kernel_rfl) ⟨rfl, by simp⟩ h

/-! ### function 79: slices.IsSortedFunc[[]boule/api.Removal,boule/api.Removal] -/
abbrev s79_0 : List Stp := [⟨none, some 4, .assign (.const (.bool false))⟩]
abbrev s79_1 : List Stp := [⟨none, some 6, .move (.tmp 0)⟩,
  ⟨none, some 7, .call ⟨.builtin .len, #[.tmp 6], #[76]⟩⟩,
  ⟨none, some 8, .binOp .sub 3 (.tmp 7) (.const (.int .i64 1)) 3⟩,
  ⟨none, some 5, .assign (.tmp 8)⟩]
abbrev s79_2 : List Stp := [⟨none, some 9, .move (.tmp 5)⟩,
  ⟨none, some 10, .binOp .gtr 3 (.tmp 9) (.const (.int .i64 0)) 3⟩]
abbrev s79_4 : List Stp := [⟨none, some 13, .move (.tmp 1)⟩,
  ⟨none, some 14, .move (.tmp 0)⟩,
  ⟨none, some 15, .move (.tmp 5)⟩,
  ⟨none, some 16, .indexAddr 76 (.tmp 14) (.tmp 15)⟩,
  ⟨none, some 17, .load 88 (.tmp 16)⟩,
  ⟨none, some 18, .move (.tmp 0)⟩,
  ⟨none, some 19, .move (.tmp 5)⟩,
  ⟨none, some 20, .binOp .sub 3 (.tmp 19) (.const (.int .i64 1)) 3⟩,
  ⟨none, some 21, .indexAddr 76 (.tmp 18) (.tmp 20)⟩,
  ⟨none, some 22, .load 88 (.tmp 21)⟩,
  ⟨none, some 23, .call ⟨.value (.tmp 13), #[.tmp 17, .tmp 22], #[88, 88]⟩⟩,
  ⟨none, some 24, .binOp .lss 3 (.tmp 23) (.const (.int .i64 0)) 3⟩]
abbrev s79_5 : List Stp := [⟨none, some 4, .assign (.const (.bool false))⟩]
abbrev s79_3 : List Stp := [⟨none, some 11, .move (.tmp 5)⟩,
  ⟨none, some 12, .binOp .sub 3 (.tmp 11) (.const (.int .i64 1)) 3⟩,
  ⟨none, some 5, .assign (.tmp 12)⟩]
abbrev l79_0 : Sk := .seq (.seq (.reg 2 false s79_2) (.cond (.tmp 10) .skip (.exit 0))) (.seq (.block 1 (.seq (.reg 4 true s79_4) (.cond (.tmp 24) (.seq (.reg 5 false s79_5) .ret) .skip))) (.reg 3 false s79_3))
abbrev s79_6 : List Stp := [⟨none, some 4, .assign (.const (.bool true))⟩]
abbrev k79 : Sk := .seq (.reg 0 false s79_0) (.seq (.seq (.reg 1 false s79_1) (.block 0 (.loop l79_0))) (.seq (.reg 6 false s79_6) .ret))
theorem sk79 : (Try.f79.body.bind (skOf 25)) = some k79 := by kernel_rfl
theorem en79 {ys : Yls} {p0 p1 : X} {S : St} {Q : Va → St → Bool → Prop} (h : ∀ R : St, S.n = R.n → S.h = R.h → R.lo = R.n → @Wp EE 79 ys false k79 [.x p0, .x p1, .u, .u, .u, .u, .u, .u, .u, .u, .u, .u, .u, .u, .u, .u, .u, .u, .u, .u, .u, .u, .u, .u, .u] (ext R []) ⟨exitQ EE [.tmp 4] S Q⟩) : ∃ r, res EE ys (.f 79) [p0, p1] S = some r ∧ Q r.1 r.2.1 r.2.2 :=
  enter rfl (by kernel_rfl) sk79 (by kernel_rfl) (by kernel_rfl) ⟨rfl, by simp⟩ h

/-! ### function 80: boule/finish.Remove$2 -/
abbrev s80_0 : List Stp := [⟨none, some 2, .box 88 (.tmp 0)⟩,
  ⟨none, some 3, .box 88 (.tmp 1)⟩,
  ⟨none, some 4, .assign (.const (.int .i64 0))⟩]
abbrev s80_1 : List Stp := [⟨none, some 5, .fieldAddr 88 (.tmp 2) 0⟩,
  ⟨none, some 6, .load 86 (.tmp 5)⟩,
  ⟨none, some 7, .fieldAddr 88 (.tmp 3) 0⟩,
  ⟨none, some 8, .load 86 (.tmp 7)⟩,
  ⟨none, some 9, .binOp .sub 86 (.tmp 6) (.tmp 8) 86⟩,
  ⟨none, some 4, .assign (.tmp 9)⟩]
abbrev k80 : Sk := .seq (.reg 0 false s80_0) (.seq (.reg 1 false s80_1) .ret)
theorem sk80 : (Try.f80.body.bind (skOf 10)) = some k80 := by kernel_rfl
theorem en80 {ys : Yls} {p0 p1 : X} {S : St} {Q : Va → St → Bool → Prop} (h : ∀ R : St, S.n = R.n → S.h = R.h → R.lo = R.n → @Wp EE 80 ys false k80 [.x p0, .x p1, .u, .u, .u, .u, .u, .u, .u, .u] (ext R []) ⟨exitQ EE [.tmp 4] S Q⟩) : ∃ r, res EE ys (.f 80) [p0, p1] S = some r ∧ Q r.1 r.2.1 r.2.2 :=
  enter rfl (by kernel_rfl) sk80 (by kernel_rfl) (by kernel_rfl) ⟨rfl, by simp⟩ h

/-! ### function 81: slices.Clone[[]boule/api.Range,boule/api.Range] -/
abbrev s81_0 : List Stp := [⟨none, some 2, .assign (.const (.slice none 0 0))⟩]
abbrev s81_1 : List Stp := [⟨none, some 3, .move (.tmp 0)⟩,
  ⟨none, some 4, .binOp .eql 35 (.tmp 3) (.const (.slice none 0 0)) 35⟩]
abbrev s81_2 : List Stp := [⟨none, some 2, .assign (.const (.slice none 0 0))⟩]
abbrev s81_3 : List Stp := [⟨none, some 5, .buildSlice 35 0 #[]⟩,
  ⟨none, some 6, .move (.tmp 0)⟩,
  ⟨none, some 7, .call ⟨.builtin .append, #[.tmp 5, .tmp 6], #[35, 35]⟩⟩,
  ⟨none, some 2, .assign (.tmp 7)⟩]
abbrev k81 : Sk := .seq (.reg 0 false s81_0) (.seq (.seq (.reg 1 false s81_1) (.cond (.tmp 4) (.seq (.reg 2 false s81_2) .ret) .skip)) (.seq (.reg 3 false s81_3) .ret))
theorem sk81 : (Try.f81.body.bind (skOf 8)) = some k81 := by kernel_rfl
theorem en81 {ys : Yls} {p0 : X} {S : St} {Q : Va → St → Bool → Prop} (h : ∀ R : St, S.n = R.n → S.h = R.h → R.lo = R.n → @Wp EE 81 ys false k81 [.x p0, .u, .u, .u, .u, .u, .u, .u] (ext R []) ⟨exitQ EE [.tmp 2] S Q⟩) : ∃ r, res EE ys (.f 81) [p0] S = some r ∧ Q r.1 r.2.1 r.2.2 :=
  enter rfl (by kernel_rfl) sk81 (by kernel_rfl) (by kernel_rfl) ⟨rfl, by simp⟩ h

/-! ### function 82: (boule/units.frac).ok -/
abbrev s82_0 : List Stp := [⟨none, some 1, .box 159 (.tmp 0)⟩,
  ⟨none, some 2, .assign (.const (.bool false))⟩]
abbrev s82_1 : List Stp := [⟨none, some 3, .fieldAddr 159 (.tmp 1) 0⟩,
  ⟨none, some 4, .load 3 (.tmp 3)⟩,
  ⟨none, some 5, .buildSlice 30 1 #[(0, .tmp 4)]⟩,
  ⟨none, some 6, .call ⟨.value (.func 84), #[.tmp 5], #[30]⟩⟩,
  ⟨none, some 7, .move (.tmp 6)⟩,
  ⟨some (7, true), some 8, .fieldAddr 159 (.tmp 1) 1⟩,
  ⟨some (7, true), some 9, .load 3 (.tmp 8)⟩,
  ⟨some (7, true), some 10, .binOp .geq 3 (.tmp 9) (.const (.int .i64 1)) 3⟩,
  ⟨none, some 11, .pick (.tmp 7) (.tmp 10) (.const (.bool false))⟩,
  ⟨none, some 12, .move (.tmp 11)⟩,
  ⟨some (12, true), some 13, .fieldAddr 159 (.tmp 1) 1⟩,
  ⟨some (12, true), some 14, .load 3 (.tmp 13)⟩,
  ⟨some (12, true), some 15, .binOp .leq 3 (.tmp 14) (.const (.int .i64 1000000000000000)) 3⟩,
  ⟨none, some 16, .pick (.tmp 12) (.tmp 15) (.const (.bool false))⟩,
  ⟨none, some 2, .assign (.tmp 16)⟩]
abbrev k82 : Sk := .seq (.reg 0 false s82_0) (.seq (.reg 1 false s82_1) .ret)
theorem sk82 : (Try.f82.body.bind (skOf 17)) = some k82 := by kernel_rfl
theorem en82 {ys : Yls} {p0 : X} {S : St} {Q : Va → St → Bool → Prop} (h : ∀ R : St, S.n = R.n → S.h = R.h → R.lo = R.n → @Wp EE 82 ys false k82 [.x p0, .u, .u, .u, .u, .u, .u, .u, .u, .u, .u, .u, .u, .u, .u, .u, .u] (ext R []) ⟨exitQ EE [.tmp 2] S Q⟩) : ∃ r, res EE ys (.f 82) [p0] S = some r ∧ Q r.1 r.2.1 r.2.2 :=
  enter rfl (by kernel_rfl) sk82 (by kernel_rfl) (by kernel_rfl) ⟨rfl, by simp⟩ h

/-! ### function 83: (boule/units.frac).cmp -/
abbrev s83_0 : List Stp := [⟨none, some 2, .box 159 (.tmp 0)⟩,
  ⟨none, some 3, .box 159 (.tmp 1)⟩,
  ⟨none, some 4, .assign (.const (.int .i64 0))⟩]
abbrev s83_1 : List Stp := [⟨none, some 5, .fieldAddr 159 (.tmp 2) 0⟩,
  ⟨none, some 6, .load 3 (.tmp 5)⟩,
  ⟨none, some 7, .fieldAddr 159 (.tmp 3) 1⟩,
  ⟨none, some 8, .load 3 (.tmp 7)⟩,
  ⟨none, some 9, .call ⟨.value (.func 85), #[.tmp 6, .tmp 8], #[3, 3]⟩⟩,
  ⟨none, some 10, .fieldAddr 159 (.tmp 3) 0⟩,
  ⟨none, some 11, .load 3 (.tmp 10)⟩,
  ⟨none, some 12, .fieldAddr 159 (.tmp 2) 1⟩,
  ⟨none, some 13, .load 3 (.tmp 12)⟩,
  ⟨none, some 14, .call ⟨.value (.func 85), #[.tmp 11, .tmp 13], #[3, 3]⟩⟩,
  ⟨none, some 15, .call ⟨.value (.func 109), #[.tmp 9, .tmp 14], #[165, 165]⟩⟩,
  ⟨none, some 4, .assign (.tmp 15)⟩]
abbrev k83 : Sk := .seq (.reg 0 false s83_0) (.seq (.reg 1 true s83_1) .ret)
theorem sk83 : (Try.f83.body.bind (skOf 16)) = some k83 := by kernel_rfl
theorem en83 {ys : Yls} {p0 p1 : X} {S : St} {Q : Va → St → Bool → Prop} (h : ∀ R : St, S.n = R.n → S.h = R.h → R.lo = R.n → @Wp EE 83 ys false k83 [.x p0, .x p1, .u, .u, .u, .u, .u, .u, .u, .u, .u, .u, .u, .u, .u, .u] (ext R []) ⟨exitQ EE [.tmp 4] S Q⟩) : ∃ r, res EE ys (.f 83) [p0, p1] S = some r ∧ Q r.1 r.2.1 r.2.2 :=
  enter rfl (by kernel_rfl) sk83 (by kernel_rfl) (by kernel_rfl) ⟨rfl, by simp⟩ h

/-! ### function 84: boule/units.is -/
abbrev s84_0 : List Stp := [⟨none, some 2, .assign (.const (.bool false))⟩]
abbrev s84_1 : List Stp := [⟨none, some 3, .move (.tmp 0)⟩,
  ⟨none, some 4, .call ⟨.value (.func 51), #[.tmp 3, .func 110], #[30, 120]⟩⟩,
  ⟨none, some 5, .unOp .not 4 (.tmp 4)⟩,
  ⟨none, some 2, .assign (.tmp 5)⟩]
abbrev k84 : Sk := .seq (.reg 0 false s84_0) (.seq (.reg 1 false s84_1) .ret)
theorem sk84 : (Try.f84.body.bind (skOf 6)) = some k84 := by kernel_rfl
theorem en84 {ys : Yls} {p0 : X} {S : St} {Q : Va → St → Bool → Prop} (h : ∀ R : St, S.n = R.n → S.h = R.h → R.lo = R.n → @Wp EE 84 ys false k84 [.x p0, .u, .u, .u, .u, .u] (ext R []) ⟨exitQ EE [.tmp 2] S Q⟩) : ∃ r, res EE ys (.f 84) [p0] S = some r ∧ Q r.1 r.2.1 r.2.2 :=
  enter rfl (by kernel_rfl) sk84 (by kernel_rfl) (by kernel_rfl) ⟨rfl, by simp⟩ h

/-! ### function 85: boule/units.product -/
abbrev s85_0 : List Stp := [⟨none, some 4, .alloc 165⟩]
abbrev s85_1 : List Stp := [⟨none, some 12, .move (.tmp 0)⟩,
  ⟨none, some 13, .call ⟨.value (.func 111), #[.tmp 12], #[3]⟩⟩,
  ⟨none, some 11, .move (.tmp 13)⟩,
  ⟨none, some 14, .extract (.tmp 11) 0⟩,
  ⟨none, some 15, .extract (.tmp 11) 1⟩,
  ⟨none, some 5, .assign (.tmp 14)⟩,
  ⟨none, some 6, .assign (.tmp 15)⟩]
abbrev s85_2 : List Stp := [⟨none, some 17, .move (.tmp 1)⟩,
  ⟨none, some 18, .call ⟨.value (.func 111), #[.tmp 17], #[3]⟩⟩,
  ⟨none, some 16, .move (.tmp 18)⟩,
  ⟨none, some 19, .extract (.tmp 16) 0⟩,
  ⟨none, some 20, .extract (.tmp 16) 1⟩,
  ⟨none, some 7, .assign (.tmp 19)⟩,
  ⟨none, some 8, .assign (.tmp 20)⟩]
abbrev s85_3 : List Stp := [⟨none, some 22, .move (.tmp 5)⟩,
  ⟨none, some 23, .move (.tmp 7)⟩,
  ⟨none, some 24, .call ⟨.value (.func 112), #[.tmp 22, .tmp 23], #[163, 163]⟩⟩,
  ⟨none, some 21, .move (.tmp 24)⟩,
  ⟨none, some 25, .extract (.tmp 21) 0⟩,
  ⟨none, some 26, .extract (.tmp 21) 1⟩,
  ⟨none, some 9, .assign (.tmp 25)⟩,
  ⟨none, some 10, .assign (.tmp 26)⟩]
abbrev s85_4 : List Stp := [⟨none, some 27, .move (.tmp 9)⟩,
  ⟨none, some 28, .move (.tmp 10)⟩,
  ⟨none, some 29, .move (.tmp 6)⟩,
  ⟨none, some 30, .move (.tmp 8)⟩,
  ⟨none, some 31, .binOp .neq 4 (.tmp 29) (.tmp 30) 4⟩,
  ⟨none, some 32, .move (.tmp 31)⟩,
  ⟨some (32, true), some 33, .move (.tmp 9)⟩,
  ⟨some (32, true), some 34, .move (.tmp 10)⟩,
  ⟨some (32, true), some 35, .binOp .or 163 (.tmp 33) (.tmp 34) 163⟩,
  ⟨some (32, true), some 36, .binOp .neq 163 (.tmp 35) (.const (.int .u64 0)) 163⟩,
  ⟨none, some 37, .pick (.tmp 32) (.tmp 36) (.const (.bool false))⟩,
  ⟨none, some 38, .build 165 #[(0, .tmp 27), (1, .tmp 28), (2, .tmp 37)]⟩,
  ⟨none, none, .store 165 (.tmp 4) (.tmp 38)⟩]
abbrev k85 : Sk := .seq (.reg 0 false s85_0) (.seq (.reg 1 false s85_1) (.seq (.reg 2 false s85_2) (.seq (.reg 3 false s85_3) (.seq (.reg 4 false s85_4) .ret))))
theorem sk85 : (Try.f85.body.bind (skOf 39)) = some k85 := by kernel_rfl
theorem en85 {ys : Yls} {p0 p1 : X} {S : St} {Q : Va → St → Bool → Prop} (h : ∀ R : St, S.n = R.n → S.h = R.h → R.lo = R.n → @Wp EE 85 ys false k85 [.x p0, .x p1, .u, .u, .u, .u, .u, .u, .u, .u, .u, .u, .u, .u, .u, .u, .u, .u, .u, .u, .u, .u, .u, .u, .u, .u, .u, .u, .u, .u, .u, .u, .u, .u, .u, .u, .u, .u, .u] (ext R []) ⟨exitQ EE [.cell 4 165] S Q⟩) : ∃ r, res EE ys (.f 85) [p0, p1] S = some r ∧ Q r.1 r.2.1 r.2.2 :=
  enter rfl (by kernel_rfl) sk85 (by kernel_rfl) (by kernel_rfl) ⟨rfl, by simp⟩ h

/-! ### function 86: (boule/units.wide).over -/
abbrev s86_0 : List Stp := [⟨none, some 2, .box 165 (.tmp 0)⟩,
  ⟨none, some 4, .assign (.const (.int .i64 0))⟩,
  ⟨none, some 5, .assign (.const (.int .i64 0))⟩,
  ⟨none, some 6, .assign (.const (.bool false))⟩]
abbrev s86_1 : List Stp := [⟨none, some 9, .fieldAddr 165 (.tmp 2) 0⟩,
  ⟨none, some 10, .load 163 (.tmp 9)⟩,
  ⟨none, some 11, .move (.tmp 1)⟩,
  ⟨none, some 12, .convert 3 163 (.tmp 11)⟩,
  ⟨none, some 13, .binOp .geq 163 (.tmp 10) (.tmp 12) 163⟩]
abbrev s86_2 : List Stp := [⟨none, some 4, .assign (.const (.int .i64 0))⟩,
  ⟨none, some 5, .assign (.const (.int .i64 0))⟩,
  ⟨none, some 6, .assign (.const (.bool false))⟩]
abbrev s86_3 : List Stp := [⟨none, some 15, .fieldAddr 165 (.tmp 2) 0⟩,
  ⟨none, some 16, .load 163 (.tmp 15)⟩,
  ⟨none, some 17, .fieldAddr 165 (.tmp 2) 1⟩,
  ⟨none, some 18, .load 163 (.tmp 17)⟩,
  ⟨none, some 19, .move (.tmp 1)⟩,
  ⟨none, some 20, .convert 3 163 (.tmp 19)⟩,
  ⟨none, some 21, .call ⟨.value (.func 113), #[.tmp 16, .tmp 18, .tmp 20], #[163, 163, 163]⟩⟩,
  ⟨none, some 14, .move (.tmp 21)⟩,
  ⟨none, some 22, .extract (.tmp 14) 0⟩,
  ⟨none, some 23, .extract (.tmp 14) 1⟩,
  ⟨none, some 7, .assign (.tmp 22)⟩,
  ⟨none, some 8, .assign (.tmp 23)⟩]
abbrev s86_4 : List Stp := [⟨none, some 24, .move (.tmp 7)⟩,
  ⟨none, some 25, .binOp .gtr 163 (.tmp 24) (.const (.int .u64 1000000000000000)) 163⟩]
abbrev s86_5 : List Stp := [⟨none, some 4, .assign (.const (.int .i64 0))⟩,
  ⟨none, some 5, .assign (.const (.int .i64 0))⟩,
  ⟨none, some 6, .assign (.const (.bool false))⟩]
abbrev s86_6 : List Stp := [⟨none, some 26, .move (.tmp 7)⟩,
  ⟨none, some 27, .convert 163 3 (.tmp 26)⟩,
  ⟨none, some 28, .move (.tmp 8)⟩,
  ⟨none, some 29, .convert 163 3 (.tmp 28)⟩,
  ⟨none, some 4, .assign (.tmp 27)⟩,
  ⟨none, some 5, .assign (.tmp 29)⟩]
abbrev s86_7 : List Stp := [⟨none, some 30, .fieldAddr 165 (.tmp 2) 2⟩,
  ⟨none, some 31, .load 4 (.tmp 30)⟩]
abbrev s86_8 : List Stp := [⟨none, some 32, .move (.tmp 4)⟩,
  ⟨none, some 33, .unOp .neg 3 (.tmp 32)⟩,
  ⟨none, some 34, .move (.tmp 5)⟩,
  ⟨none, some 35, .unOp .neg 3 (.tmp 34)⟩,
  ⟨none, some 4, .assign (.tmp 33)⟩,
  ⟨none, some 5, .assign (.tmp 35)⟩]
abbrev s86_9 : List Stp := [⟨none, some 36, .move (.tmp 5)⟩,
  ⟨none, some 37, .binOp .lss 3 (.tmp 36) (.const (.int .i64 0)) 3⟩]
abbrev s86_10 : List Stp := [⟨none, some 38, .move (.tmp 4)⟩,
  ⟨none, some 39, .binOp .sub 3 (.tmp 38) (.const (.int .i64 1)) 3⟩,
  ⟨none, some 40, .move (.tmp 5)⟩,
  ⟨none, some 41, .move (.tmp 1)⟩,
  ⟨none, some 42, .binOp .add 3 (.tmp 40) (.tmp 41) 3⟩,
  ⟨none, some 4, .assign (.tmp 39)⟩,
  ⟨none, some 5, .assign (.tmp 42)⟩]
abbrev s86_11 : List Stp := [⟨none, some 43, .move (.tmp 4)⟩,
  ⟨none, some 44, .move (.tmp 5)⟩,
  ⟨none, some 4, .assign (.tmp 43)⟩,
  ⟨none, some 5, .assign (.tmp 44)⟩,
  ⟨none, some 6, .assign (.const (.bool true))⟩]
abbrev k86 : Sk := .seq (.reg 0 false s86_0) (.seq (.seq (.reg 1 false s86_1) (.cond (.tmp 13) (.seq (.reg 2 false s86_2) .ret) .skip)) (.seq (.reg 3 false s86_3) (.seq (.seq (.reg 4 false s86_4) (.cond (.tmp 25) (.seq (.reg 5 false s86_5) .ret) .skip)) (.seq (.reg 6 false s86_6) (.seq (.seq (.reg 7 false s86_7) (.cond (.tmp 31) (.reg 8 false s86_8) .skip)) (.seq (.seq (.reg 9 false s86_9) (.cond (.tmp 37) (.reg 10 false s86_10) .skip)) (.seq (.reg 11 false s86_11) .ret)))))))
theorem sk86 : (Try.f86.body.bind (skOf 45)) = some k86 := by kernel_rfl
theorem en86 {ys : Yls} {p0 p1 : X} {S : St} {Q : Va → St → Bool → Prop} (h : ∀ R : St, S.n = R.n → S.h = R.h → R.lo = R.n → @Wp EE 86 ys false k86 [.x p0, .x p1, .u, .u, .u, .u, .u, .u, .u, .u, .u, .u, .u, .u, .u, .u, .u, .u, .u, .u, .u, .u, .u, .u, .u, .u, .u, .u, .u, .u, .u, .u, .u, .u, .u, .u, .u, .u, .u, .u, .u, .u, .u, .u, .u] (ext R []) ⟨exitQ EE [.tmp 4, .tmp 5, .tmp 6] S Q⟩) : ∃ r, res EE ys (.f 86) [p0, p1] S = some r ∧ Q r.1 r.2.1 r.2.2 :=
  enter rfl (by kernel_rfl) sk86 (by kernel_rfl) (by kernel_rfl) ⟨rfl, by simp⟩ h

/-! ### function 87: slices.ContainsFunc[[]boule/api.Range,boule/api.Range] -/
abbrev s87_0 : List Stp := [⟨none, some 4, .assign (.const (.bool false))⟩]
abbrev s87_1 : List Stp := [⟨none, some 5, .move (.tmp 0)⟩,
  ⟨none, some 6, .move (.tmp 1)⟩,
  ⟨none, some 7, .call ⟨.value (.func 114), #[.tmp 5, .tmp 6], #[35, 123]⟩⟩,
  ⟨none, some 8, .binOp .geq 3 (.tmp 7) (.const (.int .i64 0)) 3⟩,
  ⟨none, some 4, .assign (.tmp 8)⟩]
abbrev k87 : Sk := .seq (.reg 0 false s87_0) (.seq (.reg 1 false s87_1) .ret)
theorem sk87 : (Try.f87.body.bind (skOf 9)) = some k87 := by kernel_rfl
theorem en87 {ys : Yls} {p0 p1 : X} {S : St} {Q : Va → St → Bool → Prop} (h : ∀ R : St, S.n = R.n → S.h = R.h → R.lo = R.n → @Wp EE 87 ys false k87 [.x p0, .x p1, .u, .u, .u, .u, .u, .u, .u] (ext R []) ⟨exitQ EE [.tmp 4] S Q⟩) : ∃ r, res EE ys (.f 87) [p0, p1] S = some r ∧ Q r.1 r.2.1 r.2.2 :=
  enter rfl (by kernel_rfl) sk87 (by kernel_rfl) (by kernel_rfl) ⟨rfl, by simp⟩ h

/-! ### function 88: (boule/finish.limits).has$1 -/
abbrev s88_0 : List Stp := [⟨none, some 2, .box 24 (.tmp 0)⟩,
  ⟨none, some 3, .assign (.const (.bool false))⟩]
abbrev s88_1 : List Stp := [⟨none, some 4, .fieldAddr 24 (.tmp 2) 0⟩,
  ⟨none, some 5, .load 3 (.tmp 4)⟩,
  ⟨none, some 6, .indexAddr 116 (.tmp 1) (.const (.int .i64 0))⟩,
  ⟨none, some 7, .load 3 (.tmp 6)⟩,
  ⟨none, some 8, .binOp .lss 3 (.tmp 5) (.tmp 7) 3⟩,
  ⟨none, some 9, .move (.tmp 8)⟩,
  ⟨some (9, false), some 10, .fieldAddr 24 (.tmp 2) 0⟩,
  ⟨some (9, false), some 11, .load 3 (.tmp 10)⟩,
  ⟨some (9, false), some 12, .fieldAddr 24 (.tmp 2) 1⟩,
  ⟨some (9, false), some 13, .load 3 (.tmp 12)⟩,
  ⟨some (9, false), some 14, .binOp .gtr 3 (.tmp 11) (.tmp 13) 3⟩,
  ⟨none, some 15, .pick (.tmp 9) (.const (.bool true)) (.tmp 14)⟩,
  ⟨none, some 16, .move (.tmp 15)⟩,
  ⟨some (16, false), some 17, .fieldAddr 24 (.tmp 2) 1⟩,
  ⟨some (16, false), some 18, .load 3 (.tmp 17)⟩,
  ⟨some (16, false), some 19, .indexAddr 116 (.tmp 1) (.const (.int .i64 1))⟩,
  ⟨some (16, false), some 20, .load 3 (.tmp 19)⟩,
  ⟨some (16, false), some 21, .binOp .gtr 3 (.tmp 18) (.tmp 20) 3⟩,
  ⟨none, some 22, .pick (.tmp 16) (.const (.bool true)) (.tmp 21)⟩,
  ⟨none, some 3, .assign (.tmp 22)⟩]
abbrev k88 : Sk := .seq (.reg 0 false s88_0) (.seq (.reg 1 false s88_1) .ret)
theorem sk88 : (Try.f88.body.bind (skOf 23)) = some k88 := by kernel_rfl
theorem en88 {ys : Yls} {p0 p1 : X} {S : St} {Q : Va → St → Bool → Prop} (h : ∀ R : St, S.n = R.n → S.h = R.h → R.lo = R.n → @Wp EE 88 ys false k88 [.x p0, .x p1, .u, .u, .u, .u, .u, .u, .u, .u, .u, .u, .u, .u, .u, .u, .u, .u, .u, .u, .u, .u, .u] (ext R []) ⟨exitQ EE [.tmp 3] S Q⟩) : ∃ r, res EE ys (.f 88) [p0, p1] S = some r ∧ Q r.1 r.2.1 r.2.2 :=
  enter rfl (by kernel_rfl) sk88 (by kernel_rfl) (by kernel_rfl) ⟨rfl, by simp⟩ h

/-! ### function 89: slices.IndexFunc[[]int,int] -/
abbrev s89_0 : List Stp := [⟨none, some 4, .assign (.const (.int .i64 0))⟩]
abbrev s89_1 : List Stp := [⟨none, some 6, .move (.tmp 0)⟩,
  ⟨none, some 7, .call ⟨.builtin .len, #[.tmp 6], #[30]⟩⟩,
  ⟨none, some 8, .move (.const (.int .i64 0))⟩]
abbrev s89_2 : List Stp := [⟨none, some 9, .binOp .lss 3 (.tmp 8) (.tmp 7) 3⟩]
abbrev s89_3 : List Stp := [⟨none, some 10, .move (.tmp 8)⟩,
  ⟨none, some 5, .assign (.tmp 10)⟩]
abbrev s89_4 : List Stp := [⟨none, some 11, .move (.tmp 1)⟩,
  ⟨none, some 12, .move (.tmp 0)⟩,
  ⟨none, some 13, .move (.tmp 5)⟩,
  ⟨none, some 14, .indexAddr 30 (.tmp 12) (.tmp 13)⟩,
  ⟨none, some 15, .load 3 (.tmp 14)⟩,
  ⟨none, some 16, .call ⟨.value (.tmp 11), #[.tmp 15], #[3]⟩⟩]
abbrev s89_5 : List Stp := [⟨none, some 17, .move (.tmp 5)⟩,
  ⟨none, some 4, .assign (.tmp 17)⟩]
abbrev s89_6 : List Stp := [⟨none, some 18, .binOp .add 3 (.tmp 8) (.const (.int .i64 1)) 3⟩,
  ⟨none, some 8, .move (.tmp 18)⟩]
abbrev l89_0 : Sk := .seq (.reg 2 false s89_2) (.seq (.cond (.tmp 9) .skip (.exit 0)) (.seq (.block 1 (.seq (.reg 3 false s89_3) (.seq (.reg 4 false s89_4) (.cond (.tmp 16) (.seq (.reg 5 false s89_5) .ret) .skip)))) (.reg 6 false s89_6)))
abbrev s89_7 : List Stp := [⟨none, some 4, .assign (.const (.int .i64 (-1)))⟩]
abbrev k89 : Sk := .seq (.reg 0 false s89_0) (.seq (.seq (.reg 1 false s89_1) (.block 0 (.loop l89_0))) (.seq (.reg 7 false s89_7) .ret))
theorem sk89 : (Try.f89.body.bind (skOf 19)) = some k89 := by kernel_rfl
theorem en89 {ys : Yls} {p0 p1 : X} {S : St} {Q : Va → St → Bool → Prop} (h : ∀ R : St, S.n = R.n → S.h = R.h → R.lo = R.n → @Wp EE 89 ys false k89 [.x p0, .x p1, .u, .u, .u, .u, .u, .u, .u, .u, .u, .u, .u, .u, .u, .u, .u, .u, .u] (ext R []) ⟨exitQ EE [.tmp 4] S Q⟩) : ∃ r, res EE ys (.f 89) [p0, p1] S = some r ∧ Q r.1 r.2.1 r.2.2 :=
  enter rfl (by kernel_rfl) sk89 (by kernel_rfl) (by kernel_rfl) ⟨rfl, by simp⟩ h

/-! ### function 90: boule/units.valid -/
abbrev s90_0 : List Stp := [⟨none, some 2, .assign (.const (.bool false))⟩]
abbrev s90_1 : List Stp := [⟨none, some 3, .move (.tmp 0)⟩,
  ⟨none, some 4, .call ⟨.value (.func 87), #[.tmp 3, .func 115], #[35, 123]⟩⟩,
  ⟨none, some 5, .unOp .not 4 (.tmp 4)⟩,
  ⟨none, some 2, .assign (.tmp 5)⟩]
abbrev k90 : Sk := .seq (.reg 0 false s90_0) (.seq (.reg 1 false s90_1) .ret)
theorem sk90 : (Try.f90.body.bind (skOf 6)) = some k90 := by kernel_rfl
theorem en90 {ys : Yls} {p0 : X} {S : St} {Q : Va → St → Bool → Prop} (h : ∀ R : St, S.n = R.n → S.h = R.h → R.lo = R.n → @Wp EE 90 ys false k90 [.x p0, .u, .u, .u, .u, .u] (ext R []) ⟨exitQ EE [.tmp 2] S Q⟩) : ∃ r, res EE ys (.f 90) [p0] S = some r ∧ Q r.1 r.2.1 r.2.2 :=
  enter rfl (by kernel_rfl) sk90 (by kernel_rfl) (by kernel_rfl) ⟨rfl, by simp⟩ h

/-! ### function 91: (*boule/units.hull).add -/
abbrev s91_0 : List Stp := [⟨none, some 13, .move (.tmp 1)⟩,
  ⟨none, some 14, .move (.tmp 2)⟩,
  ⟨none, some 15, .call ⟨.value (.func 85), #[.tmp 13, .tmp 14], #[3, 3]⟩⟩,
  ⟨none, some 16, .move (.tmp 3)⟩,
  ⟨none, some 17, .call ⟨.value (.func 86), #[.tmp 15, .tmp 16], #[165, 3]⟩⟩,
  ⟨none, some 12, .move (.tmp 17)⟩,
  ⟨none, some 18, .extract (.tmp 12) 0⟩,
  ⟨none, some 19, .extract (.tmp 12) 1⟩,
  ⟨none, some 20, .extract (.tmp 12) 2⟩,
  ⟨none, some 8, .assign (.tmp 18)⟩,
  ⟨none, some 9, .assign (.tmp 19)⟩,
  ⟨none, some 10, .assign (.tmp 20)⟩]
abbrev s91_1 : List Stp := [⟨none, some 21, .move (.tmp 10)⟩,
  ⟨none, some 22, .unOp .not 4 (.tmp 21)⟩]
abbrev s91_2 : List Stp := [⟨none, some 23, .move (.tmp 0)⟩,
  ⟨none, some 24, .nilCheck (.tmp 23)⟩,
  ⟨none, some 25, .fieldAddr 171 (.tmp 24) 2⟩,
  ⟨none, none, .store 4 (.tmp 25) (.const (.bool true))⟩]
abbrev s91_3 : List Stp := [⟨none, some 26, .move (.tmp 8)⟩,
  ⟨none, some 11, .assign (.tmp 26)⟩]
abbrev s91_4 : List Stp := [⟨none, some 27, .move (.tmp 9)⟩,
  ⟨none, some 28, .binOp .gtr 3 (.tmp 27) (.const (.int .i64 0)) 3⟩]
abbrev s91_5 : List Stp := [⟨none, some 29, .move (.tmp 11)⟩,
  ⟨none, some 30, .binOp .add 3 (.tmp 29) (.const (.int .i64 1)) 3⟩,
  ⟨none, some 11, .assign (.tmp 30)⟩]
abbrev s91_6 : List Stp := [⟨none, some 31, .move (.tmp 0)⟩,
  ⟨none, some 32, .nilCheck (.tmp 31)⟩,
  ⟨none, some 33, .fieldAddr 171 (.tmp 32) 1⟩,
  ⟨none, some 34, .load 4 (.tmp 33)⟩,
  ⟨none, some 35, .unOp .not 4 (.tmp 34)⟩]
abbrev s91_7 : List Stp := [⟨none, some 36, .move (.tmp 0)⟩,
  ⟨none, some 37, .move (.tmp 0)⟩,
  ⟨none, some 38, .move (.tmp 8)⟩,
  ⟨none, some 39, .move (.tmp 11)⟩,
  ⟨none, some 40, .build 24 #[(0, .tmp 38), (1, .tmp 39)]⟩,
  ⟨none, some 41, .nilCheck (.tmp 36)⟩,
  ⟨none, some 42, .fieldAddr 171 (.tmp 41) 0⟩,
  ⟨none, none, .store 24 (.tmp 42) (.tmp 40)⟩,
  ⟨none, some 43, .nilCheck (.tmp 37)⟩,
  ⟨none, some 44, .fieldAddr 171 (.tmp 43) 1⟩,
  ⟨none, none, .store 4 (.tmp 44) (.const (.bool true))⟩]
abbrev s91_8 : List Stp := [⟨none, some 45, .move (.tmp 0)⟩,
  ⟨none, some 46, .move (.tmp 0)⟩,
  ⟨none, some 47, .move (.tmp 0)⟩,
  ⟨none, some 48, .nilCheck (.tmp 47)⟩,
  ⟨none, some 49, .fieldAddr 171 (.tmp 48) 0⟩,
  ⟨none, some 50, .fieldAddr 24 (.tmp 49) 0⟩,
  ⟨none, some 51, .load 3 (.tmp 50)⟩,
  ⟨none, some 52, .move (.tmp 8)⟩,
  ⟨none, some 53, .call ⟨.builtin .min, #[.tmp 51, .tmp 52], #[3, 3]⟩⟩,
  ⟨none, some 54, .move (.tmp 0)⟩,
  ⟨none, some 55, .nilCheck (.tmp 54)⟩,
  ⟨none, some 56, .fieldAddr 171 (.tmp 55) 0⟩,
  ⟨none, some 57, .fieldAddr 24 (.tmp 56) 1⟩,
  ⟨none, some 58, .load 3 (.tmp 57)⟩,
  ⟨none, some 59, .move (.tmp 11)⟩,
  ⟨none, some 60, .call ⟨.builtin .max, #[.tmp 58, .tmp 59], #[3, 3]⟩⟩,
  ⟨none, some 61, .nilCheck (.tmp 45)⟩,
  ⟨none, some 62, .fieldAddr 171 (.tmp 61) 0⟩,
  ⟨none, some 63, .fieldAddr 24 (.tmp 62) 0⟩,
  ⟨none, none, .store 3 (.tmp 63) (.tmp 53)⟩,
  ⟨none, some 64, .nilCheck (.tmp 46)⟩,
  ⟨none, some 65, .fieldAddr 171 (.tmp 64) 0⟩,
  ⟨none, some 66, .fieldAddr 24 (.tmp 65) 1⟩,
  ⟨none, none, .store 3 (.tmp 66) (.tmp 60)⟩]
abbrev k91 : Sk := .seq (.reg 0 false s91_0) (.seq (.seq (.reg 1 false s91_1) (.cond (.tmp 22) (.seq (.reg 2 false s91_2) .ret) .skip)) (.seq (.reg 3 false s91_3) (.seq (.seq (.reg 4 false s91_4) (.cond (.tmp 28) (.reg 5 false s91_5) .skip)) (.seq (.seq (.reg 6 false s91_6) (.cond (.tmp 35) (.reg 7 false s91_7) .skip)) (.reg 8 true s91_8)))))
theorem sk91 : (Try.f91.body.bind (skOf 67)) = some k91 := by kernel_rfl
theorem en91 {ys : Yls} {p0 p1 p2 p3 : X} {S : St} {Q : Va → St → Bool → Prop} (h : ∀ R : St, S.n = R.n → S.h = R.h → R.lo = R.n → @Wp EE 91 ys false k91 [.x p0, .x p1, .x p2, .x p3, .u, .u, .u, .u, .u, .u, .u, .u, .u, .u, .u, .u, .u, .u, .u, .u, .u, .u, .u, .u, .u, .u, .u, .u, .u, .u, .u, .u, .u, .u, .u, .u, .u, .u, .u, .u, .u, .u, .u, .u, .u, .u, .u, .u, .u, .u, .u, .u, .u, .u, .u, .u, .u, .u, .u, .u, .u, .u, .u, .u, .u, .u, .u] (ext R []) ⟨exitQ EE [] S Q⟩) : ∃ r, res EE ys (.f 91) [p0, p1, p2, p3] S = some r ∧ Q r.1 r.2.1 r.2.2 :=
  enter rfl (by kernel_rfl) sk91 (by kernel_rfl) (by kernel_rfl) ⟨rfl, by simp⟩ h

/-! ### function 92: (*boule/units.hull).result -/
abbrev s92_0 : List Stp := [⟨none, some 2, .alloc 24⟩,
  ⟨none, some 3, .assign (.const (.int .i64 0))⟩]
abbrev s92_1 : List Stp := [⟨none, some 4, .move (.tmp 0)⟩,
  ⟨none, some 5, .nilCheck (.tmp 4)⟩,
  ⟨none, some 6, .fieldAddr 171 (.tmp 5) 2⟩,
  ⟨none, some 7, .load 4 (.tmp 6)⟩]
abbrev s92_2 : List Stp := [⟨none, some 8, .build 24 #[]⟩,
  ⟨none, none, .store 24 (.tmp 2) (.tmp 8)⟩,
  ⟨none, some 3, .assign (.const (.int .i64 10))⟩]
abbrev s92_3 : List Stp := [⟨none, some 9, .move (.tmp 0)⟩,
  ⟨none, some 10, .nilCheck (.tmp 9)⟩,
  ⟨none, some 11, .fieldAddr 171 (.tmp 10) 0⟩,
  ⟨none, some 12, .fieldAddr 24 (.tmp 11) 0⟩,
  ⟨none, some 13, .load 3 (.tmp 12)⟩,
  ⟨none, some 14, .move (.tmp 0)⟩,
  ⟨none, some 15, .nilCheck (.tmp 14)⟩,
  ⟨none, some 16, .fieldAddr 171 (.tmp 15) 0⟩,
  ⟨none, some 17, .fieldAddr 24 (.tmp 16) 1⟩,
  ⟨none, some 18, .load 3 (.tmp 17)⟩,
  ⟨none, some 19, .call ⟨.value (.func 94), #[.tmp 13, .tmp 18], #[3, 3]⟩⟩,
  ⟨none, some 20, .extract (.tmp 19) 0⟩,
  ⟨none, some 21, .extract (.tmp 19) 1⟩,
  ⟨none, none, .store 24 (.tmp 2) (.tmp 20)⟩,
  ⟨none, some 3, .assign (.tmp 21)⟩]
abbrev k92 : Sk := .seq (.reg 0 false s92_0) (.seq (.seq (.reg 1 false s92_1) (.cond (.tmp 7) (.seq (.reg 2 false s92_2) .ret) .skip)) (.seq (.reg 3 true s92_3) .ret))
theorem sk92 : (Try.f92.body.bind (skOf 22)) = some k92 := by kernel_rfl
theorem en92 {ys : Yls} {p0 : X} {S : St} {Q : Va → St → Bool → Prop} (h : ∀ R : St, S.n = R.n → S.h = R.h → R.lo = R.n → @Wp EE 92 ys false k92 [.x p0, .u, .u, .u, .u, .u, .u, .u, .u, .u, .u, .u, .u, .u, .u, .u, .u, .u, .u, .u, .u, .u] (ext R []) ⟨exitQ EE [.cell 2 24, .tmp 3] S Q⟩) : ∃ r, res EE ys (.f 92) [p0] S = some r ∧ Q r.1 r.2.1 r.2.2 :=
  enter rfl (by kernel_rfl) sk92 (by kernel_rfl) (by kernel_rfl) ⟨rfl, by simp⟩ h

/-! ### function 93: boule/units.check -/
abbrev s93_0 : List Stp := [⟨none, some 2, .assign (.const (.int .i64 0))⟩]
abbrev s93_1 : List Stp := [⟨none, some 4, .move (.tmp 0)⟩,
  ⟨none, some 5, .call ⟨.builtin .len, #[.tmp 4], #[35]⟩⟩,
  ⟨none, some 6, .binOp .gtr 3 (.tmp 5) (.const (.int .i64 100)) 3⟩,
  ⟨none, some 3, .assign (.tmp 6)⟩]
abbrev s93_2 : List Stp := [⟨none, some 2, .assign (.const (.int .i64 5))⟩]
abbrev s93_3 : List Stp := [⟨none, some 8, .move (.tmp 0)⟩,
  ⟨none, some 9, .call ⟨.value (.func 90), #[.tmp 8], #[35]⟩⟩,
  ⟨none, some 10, .unOp .not 4 (.tmp 9)⟩,
  ⟨none, some 7, .assign (.tmp 10)⟩]
abbrev s93_4 : List Stp := [⟨none, some 2, .assign (.const (.int .i64 2))⟩]
abbrev s93_5 : List Stp := [⟨none, some 2, .assign (.const (.int .i64 0))⟩]
abbrev k93 : Sk := .seq (.reg 0 false s93_0) (.seq (.block 0 (.seq (.reg 1 false s93_1) (.cond (.tmp 3) (.seq (.reg 2 false s93_2) .ret) (.seq (.reg 3 false s93_3) (.cond (.tmp 7) (.seq (.reg 4 false s93_4) .ret) .skip))))) (.seq (.reg 5 false s93_5) .ret))
theorem sk93 : (Try.f93.body.bind (skOf 11)) = some k93 := by kernel_rfl
theorem en93 {ys : Yls} {p0 : X} {S : St} {Q : Va → St → Bool → Prop} (h : ∀ R : St, S.n = R.n → S.h = R.h → R.lo = R.n → @Wp EE 93 ys false k93 [.x p0, .u, .u, .u, .u, .u, .u, .u, .u, .u, .u] (ext R []) ⟨exitQ EE [.tmp 2] S Q⟩) : ∃ r, res EE ys (.f 93) [p0] S = some r ∧ Q r.1 r.2.1 r.2.2 :=
  enter rfl (by kernel_rfl) sk93 (by kernel_rfl) (by kernel_rfl) ⟨rfl, by simp⟩ h

/-! ### function 94: boule/units.fits -/
abbrev s94_0 : List Stp := [⟨none, some 4, .alloc 24⟩,
  ⟨none, some 5, .assign (.const (.int .i64 0))⟩]
abbrev s94_1 : List Stp := [⟨none, some 6, .move (.tmp 0)⟩,
  ⟨none, some 7, .move (.tmp 1)⟩,
  ⟨none, some 8, .buildSlice 30 2 #[(0, .tmp 6), (1, .tmp 7)]⟩,
  ⟨none, some 9, .call ⟨.value (.func 84), #[.tmp 8], #[30]⟩⟩,
  ⟨none, some 10, .unOp .not 4 (.tmp 9)⟩]
abbrev s94_2 : List Stp := [⟨none, some 11, .build 24 #[]⟩,
  ⟨none, none, .store 24 (.tmp 4) (.tmp 11)⟩,
  ⟨none, some 5, .assign (.const (.int .i64 10))⟩]
abbrev s94_3 : List Stp := [⟨none, some 12, .move (.tmp 0)⟩,
  ⟨none, some 13, .move (.tmp 1)⟩,
  ⟨none, some 14, .build 24 #[(0, .tmp 12), (1, .tmp 13)]⟩,
  ⟨none, none, .store 24 (.tmp 4) (.tmp 14)⟩,
  ⟨none, some 5, .assign (.const (.int .i64 0))⟩]
abbrev k94 : Sk := .seq (.reg 0 false s94_0) (.seq (.seq (.reg 1 false s94_1) (.cond (.tmp 10) (.seq (.reg 2 false s94_2) .ret) .skip)) (.seq (.reg 3 false s94_3) .ret))
theorem sk94 : (Try.f94.body.bind (skOf 15)) = some k94 := by kernel_rfl
theorem en94 {ys : Yls} {p0 p1 : X} {S : St} {Q : Va → St → Bool → Prop} (h : ∀ R : St, S.n = R.n → S.h = R.h → R.lo = R.n → @Wp EE 94 ys false k94 [.x p0, .x p1, .u, .u, .u, .u, .u, .u, .u, .u, .u, .u, .u, .u, .u] (ext R []) ⟨exitQ EE [.cell 4 24, .tmp 5] S Q⟩) : ∃ r, res EE ys (.f 94) [p0, p1] S = some r ∧ Q r.1 r.2.1 r.2.2 :=
  enter rfl (by kernel_rfl) sk94 (by kernel_rfl) (by kernel_rfl) ⟨rfl, by simp⟩ h

/-! ### function 95: boule/units.added -/
abbrev s95_0 : List Stp := [⟨none, some 2, .assign (.const (.int .i64 0))⟩,
  ⟨none, some 3, .assign (.const (.int .i64 0))⟩]
abbrev s95_1 : List Stp := [⟨none, some 6, .move (.tmp 0)⟩,
  ⟨none, some 7, .call ⟨.builtin .len, #[.tmp 6], #[35]⟩⟩,
  ⟨none, some 8, .move (.const (.int .i64 0))⟩]
abbrev s95_2 : List Stp := [⟨none, some 9, .binOp .lss 3 (.tmp 8) (.tmp 7) 3⟩]
abbrev s95_3 : List Stp := [⟨none, some 10, .indexAddr 35 (.tmp 6) (.tmp 8)⟩,
  ⟨none, some 11, .load 24 (.tmp 10)⟩,
  ⟨none, some 5, .alloc 24⟩,
  ⟨none, none, .store 24 (.tmp 5) (.tmp 11)⟩]
abbrev s95_4 : List Stp := [⟨none, some 12, .move (.tmp 2)⟩,
  ⟨none, some 13, .fieldAddr 24 (.tmp 5) 0⟩,
  ⟨none, some 14, .load 3 (.tmp 13)⟩,
  ⟨none, some 15, .binOp .add 3 (.tmp 12) (.tmp 14) 3⟩,
  ⟨none, some 16, .move (.tmp 3)⟩,
  ⟨none, some 17, .fieldAddr 24 (.tmp 5) 1⟩,
  ⟨none, some 18, .load 3 (.tmp 17)⟩,
  ⟨none, some 19, .binOp .add 3 (.tmp 16) (.tmp 18) 3⟩,
  ⟨none, some 2, .assign (.tmp 15)⟩,
  ⟨none, some 3, .assign (.tmp 19)⟩]
abbrev s95_5 : List Stp := [⟨none, some 20, .binOp .add 3 (.tmp 8) (.const (.int .i64 1)) 3⟩,
  ⟨none, some 8, .move (.tmp 20)⟩]
abbrev l95_0 : Sk := .seq (.reg 2 false s95_2) (.seq (.cond (.tmp 9) .skip (.exit 0)) (.seq (.block 1 (.seq (.reg 3 false s95_3) (.reg 4 true s95_4))) (.reg 5 false s95_5)))
abbrev s95_6 : List Stp := [⟨none, some 21, .move (.tmp 2)⟩,
  ⟨none, some 22, .move (.tmp 3)⟩,
  ⟨none, some 2, .assign (.tmp 21)⟩,
  ⟨none, some 3, .assign (.tmp 22)⟩]
abbrev k95 : Sk := .seq (.reg 0 false s95_0) (.seq (.seq (.reg 1 false s95_1) (.block 0 (.loop l95_0))) (.seq (.reg 6 false s95_6) .ret))
theorem sk95 : (Try.f95.body.bind (skOf 23)) = some k95 := by kernel_rfl
theorem en95 {ys : Yls} {p0 : X} {S : St} {Q : Va → St → Bool → Prop} (h : ∀ R : St, S.n = R.n → S.h = R.h → R.lo = R.n → @Wp EE 95 ys false k95 [.x p0, .u, .u, .u, .u, .u, .u, .u, .u, .u, .u, .u, .u, .u, .u, .u, .u, .u, .u, .u, .u, .u, .u] (ext R []) ⟨exitQ EE [.tmp 2, .tmp 3] S Q⟩) : ∃ r, res EE ys (.f 95) [p0] S = some r ∧ Q r.1 r.2.1 r.2.2 :=
  enter rfl (by kernel_rfl) sk95 (by kernel_rfl) (by kernel_rfl) ⟨rfl, by simp⟩ h

/-! ### function 96: boule/bouleref01.Number -/
abbrev s96_0 : List Stp := [⟨none, some 2, .assign (.const (.bool false))⟩]
abbrev s96_1 : List Stp := [⟨none, some 3, .move (.tmp 0)⟩,
  ⟨none, some 4, .binOp .geq 3 (.tmp 3) (.const (.int .i64 (-1000000000000000))) 3⟩,
  ⟨none, some 5, .move (.tmp 4)⟩,
  ⟨some (5, true), some 6, .move (.tmp 0)⟩,
  ⟨some (5, true), some 7, .binOp .leq 3 (.tmp 6) (.const (.int .i64 1000000000000000)) 3⟩,
  ⟨none, some 8, .pick (.tmp 5) (.tmp 7) (.const (.bool false))⟩,
  ⟨none, some 2, .assign (.tmp 8)⟩]
abbrev k96 : Sk := .seq (.reg 0 false s96_0) (.seq (.reg 1 false s96_1) .ret)
theorem sk96 : (Try.f96.body.bind (skOf 9)) = some k96 := by kernel_rfl
theorem en96 {ys : Yls} {p0 : X} {S : St} {Q : Va → St → Bool → Prop} (h : ∀ R : St, S.n = R.n → S.h = R.h → R.lo = R.n → @Wp EE 96 ys false k96 [.x p0, .u, .u, .u, .u, .u, .u, .u, .u] (ext R []) ⟨exitQ EE [.tmp 2] S Q⟩) : ∃ r, res EE ys (.f 96) [p0] S = some r ∧ Q r.1 r.2.1 r.2.2 :=
  enter rfl (by kernel_rfl) sk96 (by kernel_rfl) (by kernel_rfl) ⟨rfl, by simp⟩ h

/-! ### function 97: boule/bouleref01.spread -/
abbrev s97_0 : List Stp := [⟨none, some 4, .alloc 24⟩,
  ⟨none, some 5, .assign (.const (.int .i64 0))⟩]
abbrev s97_1 : List Stp := [⟨none, some 6, .assign (.const (.int .i64 0))⟩,
  ⟨none, some 7, .assign (.const (.int .i64 0))⟩,
  ⟨none, some 8, .assign (.const (.bool true))⟩]
abbrev s97_2 : List Stp := [⟨none, some 9, .assign (.const (.int .i64 0))⟩]
abbrev s97_3 : List Stp := [⟨none, some 15, .move (.tmp 9)⟩,
  ⟨none, some 16, .move (.tmp 0)⟩,
  ⟨none, some 17, .call ⟨.builtin .len, #[.tmp 16], #[30]⟩⟩,
  ⟨none, some 18, .binOp .lss 3 (.tmp 15) (.tmp 17) 3⟩]
abbrev s97_5 : List Stp := [⟨none, some 10, .assign (.const (.int .i64 0))⟩]
abbrev s97_6 : List Stp := [⟨none, some 21, .move (.tmp 10)⟩,
  ⟨none, some 22, .move (.tmp 1)⟩,
  ⟨none, some 23, .call ⟨.builtin .len, #[.tmp 22], #[67]⟩⟩,
  ⟨none, some 24, .binOp .lss 3 (.tmp 21) (.tmp 23) 3⟩]
abbrev s97_8 : List Stp := [⟨none, some 28, .move (.tmp 0)⟩,
  ⟨none, some 29, .move (.tmp 9)⟩,
  ⟨none, some 30, .indexAddr 30 (.tmp 28) (.tmp 29)⟩,
  ⟨none, some 31, .load 3 (.tmp 30)⟩,
  ⟨none, some 32, .move (.tmp 1)⟩,
  ⟨none, some 33, .move (.tmp 10)⟩,
  ⟨none, some 34, .indexAddr 67 (.tmp 32) (.tmp 33)⟩,
  ⟨none, some 35, .fieldAddr 49 (.tmp 34) 0⟩,
  ⟨none, some 36, .load 3 (.tmp 35)⟩,
  ⟨none, some 37, .move (.tmp 1)⟩,
  ⟨none, some 38, .move (.tmp 10)⟩,
  ⟨none, some 39, .indexAddr 67 (.tmp 37) (.tmp 38)⟩,
  ⟨none, some 40, .fieldAddr 49 (.tmp 39) 1⟩,
  ⟨none, some 41, .load 3 (.tmp 40)⟩,
  ⟨none, some 42, .call ⟨.value (.func 116), #[.tmp 31, .tmp 36, .tmp 41], #[3, 3, 3]⟩⟩,
  ⟨none, some 27, .move (.tmp 42)⟩,
  ⟨none, some 43, .extract (.tmp 27) 0⟩,
  ⟨none, some 44, .extract (.tmp 27) 1⟩,
  ⟨none, some 45, .extract (.tmp 27) 2⟩,
  ⟨none, some 11, .assign (.tmp 43)⟩,
  ⟨none, some 12, .assign (.tmp 44)⟩,
  ⟨none, some 13, .assign (.tmp 45)⟩]
abbrev s97_9 : List Stp := [⟨none, some 46, .move (.tmp 11)⟩,
  ⟨none, some 14, .assign (.tmp 46)⟩]
abbrev s97_10 : List Stp := [⟨none, some 47, .move (.tmp 12)⟩,
  ⟨none, some 48, .binOp .gtr 3 (.tmp 47) (.const (.int .i64 0)) 3⟩]
abbrev s97_11 : List Stp := [⟨none, some 49, .move (.tmp 14)⟩,
  ⟨none, some 50, .binOp .add 3 (.tmp 49) (.const (.int .i64 1)) 3⟩,
  ⟨none, some 14, .assign (.tmp 50)⟩]
abbrev s97_12 : List Stp := [⟨none, some 51, .move (.tmp 8)⟩,
  ⟨none, some 52, .move (.tmp 51)⟩,
  ⟨some (52, true), some 53, .move (.tmp 13)⟩,
  ⟨none, some 54, .pick (.tmp 52) (.tmp 53) (.const (.bool false))⟩,
  ⟨none, some 8, .assign (.tmp 54)⟩]
abbrev s97_13 : List Stp := [⟨none, some 55, .move (.tmp 9)⟩,
  ⟨none, some 56, .binOp .eql 3 (.tmp 55) (.const (.int .i64 0)) 3⟩,
  ⟨none, some 57, .move (.tmp 56)⟩,
  ⟨some (57, true), some 58, .move (.tmp 10)⟩,
  ⟨some (57, true), some 59, .binOp .eql 3 (.tmp 58) (.const (.int .i64 0)) 3⟩,
  ⟨none, some 60, .pick (.tmp 57) (.tmp 59) (.const (.bool false))⟩]
abbrev s97_14 : List Stp := [⟨none, some 61, .move (.tmp 11)⟩,
  ⟨none, some 62, .move (.tmp 14)⟩,
  ⟨none, some 6, .assign (.tmp 61)⟩,
  ⟨none, some 7, .assign (.tmp 62)⟩]
abbrev s97_15 : List Stp := [⟨none, some 63, .move (.tmp 6)⟩,
  ⟨none, some 64, .move (.tmp 11)⟩,
  ⟨none, some 65, .call ⟨.builtin .min, #[.tmp 63, .tmp 64], #[3, 3]⟩⟩,
  ⟨none, some 66, .move (.tmp 7)⟩,
  ⟨none, some 67, .move (.tmp 14)⟩,
  ⟨none, some 68, .call ⟨.builtin .max, #[.tmp 66, .tmp 67], #[3, 3]⟩⟩,
  ⟨none, some 6, .assign (.tmp 65)⟩,
  ⟨none, some 7, .assign (.tmp 68)⟩]
abbrev s97_7 : List Stp := [⟨none, some 25, .move (.tmp 10)⟩,
  ⟨none, some 26, .binOp .add 3 (.tmp 25) (.const (.int .i64 1)) 3⟩,
  ⟨none, some 10, .assign (.tmp 26)⟩]
abbrev l97_0 : Sk := .seq (.seq (.reg 6 false s97_6) (.cond (.tmp 24) .skip (.exit 2))) (.seq (.block 3 (.seq (.reg 8 true s97_8) (.seq (.reg 9 false s97_9) (.seq (.seq (.reg 10 false s97_10) (.cond (.tmp 48) (.reg 11 false s97_11) .skip)) (.seq (.reg 12 false s97_12) (.seq (.seq (.reg 13 false s97_13) (.cond (.tmp 60) (.reg 14 false s97_14) .skip)) (.reg 15 false s97_15))))))) (.reg 7 false s97_7))
abbrev s97_4 : List Stp := [⟨none, some 19, .move (.tmp 9)⟩,
  ⟨none, some 20, .binOp .add 3 (.tmp 19) (.const (.int .i64 1)) 3⟩,
  ⟨none, some 9, .assign (.tmp 20)⟩]
abbrev l97_1 : Sk := .seq (.seq (.reg 3 false s97_3) (.cond (.tmp 18) .skip (.exit 0))) (.seq (.block 1 (.seq (.reg 5 false s97_5) (.block 2 (.loop l97_0)))) (.reg 4 false s97_4))
abbrev s97_16 : List Stp := [⟨none, some 69, .move (.tmp 6)⟩,
  ⟨none, some 70, .move (.tmp 7)⟩,
  ⟨none, some 71, .move (.tmp 8)⟩,
  ⟨none, some 72, .call ⟨.value (.func 99), #[.tmp 69, .tmp 70, .tmp 71], #[3, 3, 4]⟩⟩,
  ⟨none, some 73, .extract (.tmp 72) 0⟩,
  ⟨none, some 74, .extract (.tmp 72) 1⟩,
  ⟨none, none, .store 24 (.tmp 4) (.tmp 73)⟩,
  ⟨none, some 5, .assign (.tmp 74)⟩]
abbrev k97 : Sk := .seq (.reg 0 false s97_0) (.seq (.reg 1 false s97_1) (.seq (.seq (.reg 2 false s97_2) (.block 0 (.loop l97_1))) (.seq (.reg 16 false s97_16) .ret)))
theorem sk97 : (Try.f97.body.bind (skOf 75)) = some k97 := by kernel_rfl
theorem en97 {ys : Yls} {p0 p1 : X} {S : St} {Q : Va → St → Bool → Prop} (h : ∀ R : St, S.n = R.n → S.h = R.h → R.lo = R.n → @Wp EE 97 ys false k97 [.x p0, .x p1, .u, .u, .u, .u, .u, .u, .u, .u, .u, .u, .u, .u, .u, .u, .u, .u, .u, .u, .u, .u, .u, .u, .u, .u, .u, .u, .u, .u, .u, .u, .u, .u, .u, .u, .u, .u, .u, .u, .u, .u, .u, .u, .u, .u, .u, .u, .u, .u, .u, .u, .u, .u, .u, .u, .u, .u, .u, .u, .u, .u, .u, .u, .u, .u, .u, .u, .u, .u, .u, .u, .u, .u, .u] (ext R []) ⟨exitQ EE [.cell 4 24, .tmp 5] S Q⟩) : ∃ r, res EE ys (.f 97) [p0, p1] S = some r ∧ Q r.1 r.2.1 r.2.2 :=
  enter rfl (by kernel_rfl) sk97 (by kernel_rfl) (by kernel_rfl) ⟨rfl, by simp⟩ h

/-! ### function 98: boule/bouleref01.list -/
abbrev s98_0 : List Stp := [⟨none, some 2, .assign (.const (.int .i64 0))⟩]
abbrev s98_1 : List Stp := [⟨none, some 3, .move (.tmp 0)⟩,
  ⟨none, some 4, .call ⟨.builtin .len, #[.tmp 3], #[35]⟩⟩,
  ⟨none, some 5, .binOp .gtr 3 (.tmp 4) (.const (.int .i64 100)) 3⟩]
abbrev s98_2 : List Stp := [⟨none, some 2, .assign (.const (.int .i64 5))⟩]
abbrev s98_3 : List Stp := [⟨none, some 6, .move (.tmp 0)⟩,
  ⟨none, some 7, .call ⟨.value (.func 117), #[.tmp 6], #[35]⟩⟩,
  ⟨none, some 8, .unOp .not 4 (.tmp 7)⟩]
abbrev s98_4 : List Stp := [⟨none, some 2, .assign (.const (.int .i64 2))⟩]
abbrev s98_5 : List Stp := [⟨none, some 2, .assign (.const (.int .i64 0))⟩]
abbrev k98 : Sk := .seq (.reg 0 false s98_0) (.seq (.seq (.reg 1 false s98_1) (.cond (.tmp 5) (.seq (.reg 2 false s98_2) .ret) .skip)) (.seq (.seq (.reg 3 false s98_3) (.cond (.tmp 8) (.seq (.reg 4 false s98_4) .ret) .skip)) (.seq (.reg 5 false s98_5) .ret)))
theorem sk98 : (Try.f98.body.bind (skOf 9)) = some k98 := by kernel_rfl
theorem en98 {ys : Yls} {p0 : X} {S : St} {Q : Va → St → Bool → Prop} (h : ∀ R : St, S.n = R.n → S.h = R.h → R.lo = R.n → @Wp EE 98 ys false k98 [.x p0, .u, .u, .u, .u, .u, .u, .u, .u] (ext R []) ⟨exitQ EE [.tmp 2] S Q⟩) : ∃ r, res EE ys (.f 98) [p0] S = some r ∧ Q r.1 r.2.1 r.2.2 :=
  enter rfl (by kernel_rfl) sk98 (by kernel_rfl) (by kernel_rfl) ⟨rfl, by simp⟩ h

/-! ### function 99: boule/bouleref01.fits -/
abbrev s99_0 : List Stp := [⟨none, some 6, .alloc 24⟩,
  ⟨none, some 7, .assign (.const (.int .i64 0))⟩]
abbrev s99_1 : List Stp := [⟨none, some 8, .move (.tmp 2)⟩,
  ⟨none, some 9, .unOp .not 4 (.tmp 8)⟩,
  ⟨none, some 10, .move (.tmp 9)⟩,
  ⟨some (10, false), some 11, .move (.tmp 0)⟩,
  ⟨some (10, false), some 12, .call ⟨.value (.func 96), #[.tmp 11], #[3]⟩⟩,
  ⟨some (10, false), some 13, .unOp .not 4 (.tmp 12)⟩,
  ⟨none, some 14, .pick (.tmp 10) (.const (.bool true)) (.tmp 13)⟩,
  ⟨none, some 15, .move (.tmp 14)⟩,
  ⟨some (15, false), some 16, .move (.tmp 1)⟩,
  ⟨some (15, false), some 17, .call ⟨.value (.func 96), #[.tmp 16], #[3]⟩⟩,
  ⟨some (15, false), some 18, .unOp .not 4 (.tmp 17)⟩,
  ⟨none, some 19, .pick (.tmp 15) (.const (.bool true)) (.tmp 18)⟩]
abbrev s99_2 : List Stp := [⟨none, some 20, .build 24 #[]⟩,
  ⟨none, none, .store 24 (.tmp 6) (.tmp 20)⟩,
  ⟨none, some 7, .assign (.const (.int .i64 10))⟩]
abbrev s99_3 : List Stp := [⟨none, some 21, .move (.tmp 0)⟩,
  ⟨none, some 22, .move (.tmp 1)⟩,
  ⟨none, some 23, .build 24 #[(0, .tmp 21), (1, .tmp 22)]⟩,
  ⟨none, none, .store 24 (.tmp 6) (.tmp 23)⟩,
  ⟨none, some 7, .assign (.const (.int .i64 0))⟩]
abbrev k99 : Sk := .seq (.reg 0 false s99_0) (.seq (.seq (.reg 1 false s99_1) (.cond (.tmp 19) (.seq (.reg 2 false s99_2) .ret) .skip)) (.seq (.reg 3 false s99_3) .ret))
theorem sk99 : (Try.f99.body.bind (skOf 24)) = some k99 := by kernel_rfl
theorem en99 {ys : Yls} {p0 p1 p2 : X} {S : St} {Q : Va → St → Bool → Prop} (h : ∀ R : St, S.n = R.n → S.h = R.h → R.lo = R.n → @Wp EE 99 ys false k99 [.x p0, .x p1, .x p2, .u, .u, .u, .u, .u, .u, .u, .u, .u, .u, .u, .u, .u, .u, .u, .u, .u, .u, .u, .u, .u] (ext R []) ⟨exitQ EE [.cell 6 24, .tmp 7] S Q⟩) : ∃ r, res EE ys (.f 99) [p0, p1, p2] S = some r ∧ Q r.1 r.2.1 r.2.2 :=
  enter rfl (by kernel_rfl) sk99 (by kernel_rfl) (by kernel_rfl) ⟨rfl, by simp⟩ h

/-! ### function 100: boule/units.Hull -/
abbrev s100_0 : List Stp := [⟨none, some 2, .alloc 24⟩,
  ⟨none, some 3, .assign (.const (.int .i64 0))⟩]
abbrev s100_1 : List Stp := [⟨none, some 4, .move (.tmp 0)⟩,
  ⟨none, some 5, .call ⟨.value (.func 118), #[.tmp 4, .func 119], #[35, 201]⟩⟩,
  ⟨none, some 6, .extract (.tmp 5) 0⟩,
  ⟨none, some 7, .extract (.tmp 5) 1⟩,
  ⟨none, none, .store 24 (.tmp 2) (.tmp 6)⟩,
  ⟨none, some 3, .assign (.tmp 7)⟩]
abbrev k100 : Sk := .seq (.reg 0 false s100_0) (.seq (.reg 1 false s100_1) .ret)
theorem sk100 : (Try.f100.body.bind (skOf 8)) = some k100 := by kernel_rfl
theorem en100 {ys : Yls} {p0 : X} {S : St} {Q : Va → St → Bool → Prop} (h : ∀ R : St, S.n = R.n → S.h = R.h → R.lo = R.n → @Wp EE 100 ys false k100 [.x p0, .u, .u, .u, .u, .u, .u, .u] (ext R []) ⟨exitQ EE [.cell 2 24, .tmp 3] S Q⟩) : ∃ r, res EE ys (.f 100) [p0] S = some r ∧ Q r.1 r.2.1 r.2.2 :=
  enter rfl (by kernel_rfl) sk100 (by kernel_rfl) (by kernel_rfl) ⟨rfl, by simp⟩ h

/-! ### function 101: boule/finish.balances -/
abbrev s101_0 : List Stp := [⟨none, some 1, .box 128 (.tmp 0)⟩,
  ⟨none, some 2, .assign (.const .nilFunc)⟩]
abbrev s101_1 : List Stp := [⟨none, some 3, .makeFunc (.func 120) #[] #[.tmp 1]⟩,
  ⟨none, some 2, .assign (.tmp 3)⟩]
abbrev k101 : Sk := .seq (.reg 0 false s101_0) (.seq (.reg 1 false s101_1) .ret)
theorem sk101 : (Try.f101.body.bind (skOf 4)) = some k101 := by kernel_rfl
theorem en101 {ys : Yls} {p0 : X} {S : St} {Q : Va → St → Bool → Prop} (h : ∀ R : St, S.n = R.n → S.h = R.h → R.lo = R.n → @Wp EE 101 ys false k101 [.x p0, .u, .u, .u] (ext R []) ⟨exitQ EE [.tmp 2] S Q⟩) : ∃ r, res EE ys (.f 101) [p0] S = some r ∧ Q r.1 r.2.1 r.2.2 :=
  enter rfl (by kernel_rfl) sk101 (by kernel_rfl) (by kernel_rfl) ⟨rfl, by simp⟩ h

/-! ### function 102: (*boule/finish.proof).take -/
abbrev s102_0 : List Stp := [⟨none, some 4, .box 135 (.tmp 1)⟩]
abbrev s102_1 : List Stp := [⟨none, some 6, .move (.tmp 2)⟩,
  ⟨none, some 7, .binOp .gtr 3 (.tmp 6) (.const (.int .i64 0)) 3⟩,
  ⟨none, some 8, .move (.tmp 7)⟩,
  ⟨some (8, true), some 9, .move (.tmp 0)⟩,
  ⟨some (8, true), some 10, .nilCheck (.tmp 9)⟩,
  ⟨some (8, true), some 11, .fieldAddr 137 (.tmp 10) 2⟩,
  ⟨some (8, true), some 12, .load 4 (.tmp 11)⟩,
  ⟨some (8, true), some 13, .unOp .not 4 (.tmp 12)⟩,
  ⟨some (8, true), some 14, .move (.tmp 13)⟩,
  ⟨some (14, false), some 15, .move (.tmp 2)⟩,
  ⟨some (14, false), some 16, .move (.tmp 0)⟩,
  ⟨some (14, false), some 17, .nilCheck (.tmp 16)⟩,
  ⟨some (14, false), some 18, .fieldAddr 137 (.tmp 17) 0⟩,
  ⟨some (14, false), some 19, .fieldAddr 135 (.tmp 18) 2⟩,
  ⟨some (14, false), some 20, .load 3 (.tmp 19)⟩,
  ⟨some (14, false), some 21, .binOp .mul 3 (.tmp 15) (.tmp 20) 3⟩,
  ⟨some (14, false), some 22, .move (.tmp 0)⟩,
  ⟨some (14, false), some 23, .nilCheck (.tmp 22)⟩,
  ⟨some (14, false), some 24, .fieldAddr 137 (.tmp 23) 1⟩,
  ⟨some (14, false), some 25, .load 3 (.tmp 24)⟩,
  ⟨some (14, false), some 26, .fieldAddr 135 (.tmp 4) 2⟩,
  ⟨some (14, false), some 27, .load 3 (.tmp 26)⟩,
  ⟨some (14, false), some 28, .binOp .mul 3 (.tmp 25) (.tmp 27) 3⟩,
  ⟨some (14, false), some 29, .binOp .gtr 3 (.tmp 21) (.tmp 28) 3⟩,
  ⟨some (8, true), some 30, .pick (.tmp 14) (.const (.bool true)) (.tmp 29)⟩,
  ⟨none, some 31, .pick (.tmp 8) (.tmp 30) (.const (.bool false))⟩]
abbrev s102_2 : List Stp := [⟨none, some 32, .move (.tmp 0)⟩,
  ⟨none, some 33, .load 135 (.tmp 4)⟩,
  ⟨none, some 34, .move (.tmp 2)⟩,
  ⟨none, some 35, .build 137 #[(0, .tmp 33), (1, .tmp 34), (2, .const (.bool true))]⟩,
  ⟨none, some 36, .nilCheck (.tmp 32)⟩,
  ⟨none, none, .store 137 (.tmp 36) (.tmp 35)⟩]
abbrev k102 : Sk := .seq (.reg 0 false s102_0) (.seq (.reg 1 true s102_1) (.cond (.tmp 31) (.reg 2 false s102_2) .skip))
theorem sk102 : (Try.f102.body.bind (skOf 37)) = some k102 := by kernel_rfl
theorem en102 {ys : Yls} {p0 p1 p2 : X} {S : St} {Q : Va → St → Bool → Prop} (h : ∀ R : St, S.n = R.n → S.h = R.h → R.lo = R.n → @Wp EE 102 ys false k102 [.x p0, .x p1, .x p2, .u, .u, .u, .u, .u, .u, .u, .u, .u, .u, .u, .u, .u, .u, .u, .u, .u, .u, .u, .u, .u, .u, .u, .u, .u, .u, .u, .u, .u, .u, .u, .u, .u, .u] (ext R []) ⟨exitQ EE [] S Q⟩) : ∃ r, res EE ys (.f 102) [p0, p1, p2] S = some r ∧ Q r.1 r.2.1 r.2.2 :=
  enter rfl (by kernel_rfl) sk102 (by kernel_rfl) (by kernel_rfl) ⟨rfl, by simp⟩ h

/-! ### function 103: (boule/finish.balance).sum -/
abbrev s103_0 : List Stp := [⟨none, some 3, .box 135 (.tmp 0)⟩,
  ⟨none, some 6, .assign (.const (.int .i64 0))⟩]
abbrev s103_1 : List Stp := [⟨none, some 7, .assign (.const (.int .i64 0))⟩]
abbrev s103_2 : List Stp := [⟨none, some 11, .fieldAddr 135 (.tmp 3) 0⟩,
  ⟨none, some 12, .load 132 (.tmp 11)⟩,
  ⟨none, some 13, .move (.const (.int .i64 0))⟩]
abbrev s103_3 : List Stp := [⟨none, some 14, .binOp .lss 3 (.tmp 13) (.const (.int .i64 4)) 3⟩]
abbrev s103_4 : List Stp := [⟨none, some 15, .move (.tmp 13)⟩,
  ⟨none, some 16, .index 132 (.tmp 12) (.tmp 13)⟩,
  ⟨none, some 9, .alloc 131⟩,
  ⟨none, some 8, .assign (.tmp 15)⟩,
  ⟨none, none, .store 131 (.tmp 9) (.tmp 16)⟩]
abbrev s103_5 : List Stp := [⟨none, some 17, .move (.tmp 8)⟩,
  ⟨none, some 18, .fieldAddr 135 (.tmp 3) 1⟩,
  ⟨none, some 19, .indexAddr 133 (.tmp 18) (.tmp 17)⟩,
  ⟨none, some 20, .load 3 (.tmp 19)⟩,
  ⟨none, some 10, .assign (.tmp 20)⟩]
abbrev s103_6 : List Stp := [⟨none, some 21, .move (.tmp 10)⟩,
  ⟨none, some 22, .binOp .gtr 3 (.tmp 21) (.const (.int .i64 0)) 3⟩,
  ⟨none, some 23, .move (.tmp 2)⟩,
  ⟨none, some 24, .binOp .eql 4 (.tmp 22) (.tmp 23) 4⟩]
abbrev s103_7 : List Stp := [⟨none, some 25, .move (.tmp 7)⟩,
  ⟨none, some 26, .move (.tmp 10)⟩,
  ⟨none, some 27, .move (.tmp 1)⟩,
  ⟨none, some 28, .fieldAddr 131 (.tmp 9) 0⟩,
  ⟨none, some 29, .load 3 (.tmp 28)⟩,
  ⟨none, some 30, .indexAddr 35 (.tmp 27) (.tmp 29)⟩,
  ⟨none, some 31, .fieldAddr 24 (.tmp 30) 1⟩,
  ⟨none, some 32, .load 3 (.tmp 31)⟩,
  ⟨none, some 33, .binOp .mul 3 (.tmp 26) (.tmp 32) 3⟩,
  ⟨none, some 34, .binOp .add 3 (.tmp 25) (.tmp 33) 3⟩,
  ⟨none, some 7, .assign (.tmp 34)⟩]
abbrev s103_8 : List Stp := [⟨none, some 35, .move (.tmp 7)⟩,
  ⟨none, some 36, .move (.tmp 10)⟩,
  ⟨none, some 37, .move (.tmp 1)⟩,
  ⟨none, some 38, .fieldAddr 131 (.tmp 9) 0⟩,
  ⟨none, some 39, .load 3 (.tmp 38)⟩,
  ⟨none, some 40, .indexAddr 35 (.tmp 37) (.tmp 39)⟩,
  ⟨none, some 41, .fieldAddr 24 (.tmp 40) 0⟩,
  ⟨none, some 42, .load 3 (.tmp 41)⟩,
  ⟨none, some 43, .binOp .mul 3 (.tmp 36) (.tmp 42) 3⟩,
  ⟨none, some 44, .binOp .add 3 (.tmp 35) (.tmp 43) 3⟩,
  ⟨none, some 7, .assign (.tmp 44)⟩]
abbrev s103_9 : List Stp := [⟨none, some 45, .binOp .add 3 (.tmp 13) (.const (.int .i64 1)) 3⟩,
  ⟨none, some 13, .move (.tmp 45)⟩]
abbrev l103_0 : Sk := .seq (.reg 3 false s103_3) (.seq (.cond (.tmp 14) .skip (.exit 0)) (.seq (.block 1 (.seq (.reg 4 false s103_4) (.seq (.reg 5 false s103_5) (.seq (.reg 6 false s103_6) (.cond (.tmp 24) (.reg 7 false s103_7) (.reg 8 false s103_8)))))) (.reg 9 false s103_9)))
abbrev s103_10 : List Stp := [⟨none, some 46, .move (.tmp 7)⟩,
  ⟨none, some 6, .assign (.tmp 46)⟩]
abbrev k103 : Sk := .seq (.reg 0 false s103_0) (.seq (.reg 1 false s103_1) (.seq (.seq (.reg 2 false s103_2) (.block 0 (.loop l103_0))) (.seq (.reg 10 false s103_10) .ret)))
theorem sk103 : (Try.f103.body.bind (skOf 47)) = some k103 := by kernel_rfl
theorem en103 {ys : Yls} {p0 p1 p2 : X} {S : St} {Q : Va → St → Bool → Prop} (h : ∀ R : St, S.n = R.n → S.h = R.h → R.lo = R.n → @Wp EE 103 ys false k103 [.x p0, .x p1, .x p2, .u, .u, .u, .u, .u, .u, .u, .u, .u, .u, .u, .u, .u, .u, .u, .u, .u, .u, .u, .u, .u, .u, .u, .u, .u, .u, .u, .u, .u, .u, .u, .u, .u, .u, .u, .u, .u, .u, .u, .u, .u, .u, .u, .u] (ext R []) ⟨exitQ EE [.tmp 6] S Q⟩) : ∃ r, res EE ys (.f 103) [p0, p1, p2] S = some r ∧ Q r.1 r.2.1 r.2.2 :=
  enter rfl (by kernel_rfl) sk103 (by kernel_rfl) (by kernel_rfl) ⟨rfl, by simp⟩ h

/-! ### function 104: (boule/finish.balance).turned -/
abbrev s104_0 : List Stp := [⟨none, some 1, .box 135 (.tmp 0)⟩,
  ⟨none, some 2, .alloc 135⟩]
abbrev s104_1 : List Stp := [⟨none, some 4, .move (.const (.int .i64 0))⟩]
abbrev s104_2 : List Stp := [⟨none, some 5, .binOp .lss 3 (.tmp 4) (.const (.int .i64 4)) 3⟩]
abbrev s104_3 : List Stp := [⟨none, some 6, .move (.tmp 4)⟩,
  ⟨none, some 3, .assign (.tmp 6)⟩]
abbrev s104_4 : List Stp := [⟨none, some 7, .move (.tmp 3)⟩,
  ⟨none, some 8, .move (.tmp 3)⟩,
  ⟨none, some 9, .fieldAddr 135 (.tmp 1) 1⟩,
  ⟨none, some 10, .indexAddr 133 (.tmp 9) (.tmp 8)⟩,
  ⟨none, some 11, .load 3 (.tmp 10)⟩,
  ⟨none, some 12, .unOp .neg 3 (.tmp 11)⟩,
  ⟨none, some 13, .fieldAddr 135 (.tmp 1) 1⟩,
  ⟨none, some 14, .indexAddr 133 (.tmp 13) (.tmp 7)⟩,
  ⟨none, none, .store 3 (.tmp 14) (.tmp 12)⟩]
abbrev s104_5 : List Stp := [⟨none, some 15, .binOp .add 3 (.tmp 4) (.const (.int .i64 1)) 3⟩,
  ⟨none, some 4, .move (.tmp 15)⟩]
abbrev l104_0 : Sk := .seq (.reg 2 false s104_2) (.seq (.cond (.tmp 5) .skip (.exit 0)) (.seq (.block 1 (.seq (.reg 3 false s104_3) (.reg 4 false s104_4))) (.reg 5 false s104_5)))
abbrev s104_6 : List Stp := [⟨none, some 16, .load 135 (.tmp 1)⟩,
  ⟨none, none, .store 135 (.tmp 2) (.tmp 16)⟩]
abbrev k104 : Sk := .seq (.reg 0 false s104_0) (.seq (.seq (.reg 1 false s104_1) (.block 0 (.loop l104_0))) (.seq (.reg 6 false s104_6) .ret))
theorem sk104 : (Try.f104.body.bind (skOf 17)) = some k104 := by kernel_rfl
theorem en104 {ys : Yls} {p0 : X} {S : St} {Q : Va → St → Bool → Prop} (h : ∀ R : St, S.n = R.n → S.h = R.h → R.lo = R.n → @Wp EE 104 ys false k104 [.x p0, .u, .u, .u, .u, .u, .u, .u, .u, .u, .u, .u, .u, .u, .u, .u, .u] (ext R []) ⟨exitQ EE [.cell 2 135] S Q⟩) : ∃ r, res EE ys (.f 104) [p0] S = some r ∧ Q r.1 r.2.1 r.2.2 :=
  enter rfl (by kernel_rfl) sk104 (by kernel_rfl) (by kernel_rfl) ⟨rfl, by simp⟩ h

/-! ### function 105: boule/finish.lowest -/
abbrev s105_0 : List Stp := [⟨none, some 4, .alloc 49⟩]
abbrev s105_1 : List Stp := [⟨none, some 8, .move (.tmp 0)⟩,
  ⟨none, some 9, .move (.tmp 1)⟩,
  ⟨none, some 10, .build 49 #[(0, .tmp 8), (1, .tmp 9)]⟩,
  ⟨none, some 5, .alloc 49⟩,
  ⟨none, none, .store 49 (.tmp 5) (.tmp 10)⟩]
abbrev s105_2 : List Stp := [⟨none, some 12, .load 49 (.tmp 5)⟩,
  ⟨none, some 13, .load 49 (.tmp 5)⟩,
  ⟨none, some 14, .call ⟨.value (.func 122), #[.tmp 12, .tmp 13], #[49, 49]⟩⟩,
  ⟨none, some 11, .move (.tmp 14)⟩,
  ⟨none, some 15, .extract (.tmp 11) 0⟩,
  ⟨none, some 16, .extract (.tmp 11) 1⟩,
  ⟨none, some 6, .alloc 49⟩,
  ⟨none, none, .store 49 (.tmp 6) (.tmp 15)⟩,
  ⟨none, some 7, .assign (.tmp 16)⟩]
abbrev s105_3 : List Stp := [⟨none, some 17, .load 49 (.tmp 6)⟩,
  ⟨none, none, .store 49 (.tmp 4) (.tmp 17)⟩]
abbrev k105 : Sk := .seq (.reg 0 false s105_0) (.seq (.reg 1 false s105_1) (.seq (.reg 2 false s105_2) (.seq (.reg 3 false s105_3) .ret)))
theorem sk105 : (Try.f105.body.bind (skOf 18)) = some k105 := by kernel_rfl
theorem en105 {ys : Yls} {p0 p1 : X} {S : St} {Q : Va → St → Bool → Prop} (h : ∀ R : St, S.n = R.n → S.h = R.h → R.lo = R.n → @Wp EE 105 ys false k105 [.x p0, .x p1, .u, .u, .u, .u, .u, .u, .u, .u, .u, .u, .u, .u, .u, .u, .u, .u] (ext R []) ⟨exitQ EE [.cell 4 49] S Q⟩) : ∃ r, res EE ys (.f 105) [p0, p1] S = some r ∧ Q r.1 r.2.1 r.2.2 :=
  enter rfl (by kernel_rfl) sk105 (by kernel_rfl) (by kernel_rfl) ⟨rfl, by simp⟩ h

/-! ### function 106: boule/finish.through -/
abbrev s106_0 : List Stp := [⟨none, some 3, .box 185 (.tmp 0)⟩,
  ⟨none, some 4, .box 148 (.tmp 1)⟩,
  ⟨none, some 6, .alloc 142⟩,
  ⟨none, some 7, .assign (.const (.bool false))⟩]
abbrev s106_1 : List Stp := [⟨none, some 16, .indexAddr 185 (.tmp 3) (.const (.int .i64 0))⟩,
  ⟨none, some 17, .load 131 (.tmp 16)⟩,
  ⟨none, some 18, .indexAddr 185 (.tmp 3) (.const (.int .i64 1))⟩,
  ⟨none, some 19, .load 131 (.tmp 18)⟩,
  ⟨none, some 20, .indexAddr 185 (.tmp 3) (.const (.int .i64 2))⟩,
  ⟨none, some 21, .load 131 (.tmp 20)⟩,
  ⟨none, some 22, .call ⟨.value (.func 121), #[.tmp 17, .tmp 19, .tmp 21], #[131, 131, 131]⟩⟩,
  ⟨none, some 8, .assign (.tmp 22)⟩]
abbrev s106_2 : List Stp := [⟨none, some 23, .move (.tmp 8)⟩,
  ⟨none, some 24, .binOp .eql 3 (.tmp 23) (.const (.int .i64 0)) 3⟩]
abbrev s106_3 : List Stp := [⟨none, some 25, .build 142 #[]⟩,
  ⟨none, none, .store 142 (.tmp 6) (.tmp 25)⟩,
  ⟨none, some 7, .assign (.const (.bool false))⟩]
abbrev s106_4 : List Stp := [⟨none, some 27, .indexAddr 185 (.tmp 3) (.const (.int .i64 1))⟩,
  ⟨none, some 28, .load 131 (.tmp 27)⟩,
  ⟨none, some 29, .indexAddr 185 (.tmp 3) (.const (.int .i64 0))⟩,
  ⟨none, some 30, .load 131 (.tmp 29)⟩,
  ⟨none, some 31, .call ⟨.value (.func 123), #[.tmp 28, .tmp 30], #[131, 131]⟩⟩,
  ⟨none, some 26, .move (.tmp 31)⟩,
  ⟨none, some 32, .extract (.tmp 26) 0⟩,
  ⟨none, some 33, .extract (.tmp 26) 1⟩,
  ⟨none, some 9, .assign (.tmp 32)⟩,
  ⟨none, some 10, .assign (.tmp 33)⟩]
abbrev s106_5 : List Stp := [⟨none, some 35, .indexAddr 185 (.tmp 3) (.const (.int .i64 2))⟩,
  ⟨none, some 36, .load 131 (.tmp 35)⟩,
  ⟨none, some 37, .indexAddr 185 (.tmp 3) (.const (.int .i64 0))⟩,
  ⟨none, some 38, .load 131 (.tmp 37)⟩,
  ⟨none, some 39, .call ⟨.value (.func 123), #[.tmp 36, .tmp 38], #[131, 131]⟩⟩,
  ⟨none, some 34, .move (.tmp 39)⟩,
  ⟨none, some 40, .extract (.tmp 34) 0⟩,
  ⟨none, some 41, .extract (.tmp 34) 1⟩,
  ⟨none, some 11, .assign (.tmp 40)⟩,
  ⟨none, some 12, .assign (.tmp 41)⟩]
abbrev s106_6 : List Stp := [⟨none, some 42, .indexAddr 148 (.tmp 4) (.const (.int .i64 1))⟩,
  ⟨none, some 43, .load 3 (.tmp 42)⟩,
  ⟨none, some 44, .indexAddr 148 (.tmp 4) (.const (.int .i64 0))⟩,
  ⟨none, some 45, .load 3 (.tmp 44)⟩,
  ⟨none, some 46, .binOp .sub 3 (.tmp 43) (.tmp 45) 3⟩,
  ⟨none, some 47, .indexAddr 148 (.tmp 4) (.const (.int .i64 2))⟩,
  ⟨none, some 48, .load 3 (.tmp 47)⟩,
  ⟨none, some 49, .indexAddr 148 (.tmp 4) (.const (.int .i64 0))⟩,
  ⟨none, some 50, .load 3 (.tmp 49)⟩,
  ⟨none, some 51, .binOp .sub 3 (.tmp 48) (.tmp 50) 3⟩,
  ⟨none, some 13, .assign (.tmp 46)⟩,
  ⟨none, some 14, .assign (.tmp 51)⟩]
abbrev s106_7 : List Stp := [⟨none, some 52, .move (.tmp 13)⟩,
  ⟨none, some 53, .move (.tmp 12)⟩,
  ⟨none, some 54, .binOp .mul 3 (.tmp 52) (.tmp 53) 3⟩,
  ⟨none, some 55, .move (.tmp 14)⟩,
  ⟨none, some 56, .move (.tmp 10)⟩,
  ⟨none, some 57, .binOp .mul 3 (.tmp 55) (.tmp 56) 3⟩,
  ⟨none, some 58, .binOp .sub 3 (.tmp 54) (.tmp 57) 3⟩,
  ⟨none, some 59, .move (.tmp 9)⟩,
  ⟨none, some 60, .move (.tmp 14)⟩,
  ⟨none, some 61, .binOp .mul 3 (.tmp 59) (.tmp 60) 3⟩,
  ⟨none, some 62, .move (.tmp 11)⟩,
  ⟨none, some 63, .move (.tmp 13)⟩,
  ⟨none, some 64, .binOp .mul 3 (.tmp 62) (.tmp 63) 3⟩,
  ⟨none, some 65, .binOp .sub 3 (.tmp 61) (.tmp 64) 3⟩,
  ⟨none, some 66, .move (.tmp 8)⟩,
  ⟨none, some 67, .move (.tmp 2)⟩,
  ⟨none, some 68, .binOp .mul 3 (.tmp 66) (.tmp 67) 3⟩,
  ⟨none, some 69, .build 142 #[(0, .tmp 58), (1, .tmp 65), (3, .tmp 68)]⟩,
  ⟨none, some 15, .alloc 142⟩,
  ⟨none, none, .store 142 (.tmp 15) (.tmp 69)⟩]
abbrev s106_8 : List Stp := [⟨none, some 70, .move (.tmp 8)⟩,
  ⟨none, some 71, .indexAddr 148 (.tmp 4) (.const (.int .i64 0))⟩,
  ⟨none, some 72, .load 3 (.tmp 71)⟩,
  ⟨none, some 73, .binOp .mul 3 (.tmp 70) (.tmp 72) 3⟩,
  ⟨none, some 74, .fieldAddr 142 (.tmp 15) 0⟩,
  ⟨none, some 75, .load 3 (.tmp 74)⟩,
  ⟨none, some 76, .indexAddr 185 (.tmp 3) (.const (.int .i64 0))⟩,
  ⟨none, some 77, .fieldAddr 131 (.tmp 76) 1⟩,
  ⟨none, some 78, .load 3 (.tmp 77)⟩,
  ⟨none, some 79, .binOp .mul 3 (.tmp 75) (.tmp 78) 3⟩,
  ⟨none, some 80, .binOp .sub 3 (.tmp 73) (.tmp 79) 3⟩,
  ⟨none, some 81, .fieldAddr 142 (.tmp 15) 1⟩,
  ⟨none, some 82, .load 3 (.tmp 81)⟩,
  ⟨none, some 83, .indexAddr 185 (.tmp 3) (.const (.int .i64 0))⟩,
  ⟨none, some 84, .fieldAddr 131 (.tmp 83) 2⟩,
  ⟨none, some 85, .load 3 (.tmp 84)⟩,
  ⟨none, some 86, .binOp .mul 3 (.tmp 82) (.tmp 85) 3⟩,
  ⟨none, some 87, .binOp .sub 3 (.tmp 80) (.tmp 86) 3⟩,
  ⟨none, some 88, .fieldAddr 142 (.tmp 15) 2⟩,
  ⟨none, none, .store 3 (.tmp 88) (.tmp 87)⟩]
abbrev s106_9 : List Stp := [⟨none, some 89, .fieldAddr 142 (.tmp 15) 3⟩,
  ⟨none, some 90, .load 3 (.tmp 89)⟩,
  ⟨none, some 91, .binOp .lss 3 (.tmp 90) (.const (.int .i64 0)) 3⟩]
abbrev s106_10 : List Stp := [⟨none, some 92, .fieldAddr 142 (.tmp 15) 0⟩,
  ⟨none, some 93, .load 3 (.tmp 92)⟩,
  ⟨none, some 94, .unOp .neg 3 (.tmp 93)⟩,
  ⟨none, some 95, .fieldAddr 142 (.tmp 15) 1⟩,
  ⟨none, some 96, .load 3 (.tmp 95)⟩,
  ⟨none, some 97, .unOp .neg 3 (.tmp 96)⟩,
  ⟨none, some 98, .fieldAddr 142 (.tmp 15) 2⟩,
  ⟨none, some 99, .load 3 (.tmp 98)⟩,
  ⟨none, some 100, .unOp .neg 3 (.tmp 99)⟩,
  ⟨none, some 101, .fieldAddr 142 (.tmp 15) 3⟩,
  ⟨none, some 102, .load 3 (.tmp 101)⟩,
  ⟨none, some 103, .unOp .neg 3 (.tmp 102)⟩,
  ⟨none, some 104, .build 142 #[(0, .tmp 94), (1, .tmp 97), (2, .tmp 100), (3, .tmp 103)]⟩,
  ⟨none, none, .store 142 (.tmp 15) (.tmp 104)⟩]
abbrev s106_11 : List Stp := [⟨none, some 105, .load 142 (.tmp 15)⟩,
  ⟨none, none, .store 142 (.tmp 6) (.tmp 105)⟩,
  ⟨none, some 7, .assign (.const (.bool true))⟩]
abbrev k106 : Sk := .seq (.reg 0 false s106_0) (.seq (.reg 1 false s106_1) (.seq (.seq (.reg 2 false s106_2) (.cond (.tmp 24) (.seq (.reg 3 false s106_3) .ret) .skip)) (.seq (.reg 4 false s106_4) (.seq (.reg 5 false s106_5) (.seq (.reg 6 true s106_6) (.seq (.reg 7 false s106_7) (.seq (.reg 8 false s106_8) (.seq (.seq (.reg 9 false s106_9) (.cond (.tmp 91) (.reg 10 false s106_10) .skip)) (.seq (.reg 11 false s106_11) .ret)))))))))
theorem sk106 : (Try.f106.body.bind (skOf 106)) = some k106 := by kernel_rfl
theorem en106 {ys : Yls} {p0 p1 p2 : X} {S : St} {Q : Va → St → Bool → Prop} (h : ∀ R : St, S.n = R.n → S.h = R.h → R.lo = R.n → @Wp EE 106 ys false k106 [.x p0, .x p1, .x p2, .u, .u, .u, .u, .u, .u, .u, .u, .u, .u, .u, .u, .u, .u, .u, .u, .u, .u, .u, .u, .u, .u, .u, .u, .u, .u, .u, .u, .u, .u, .u, .u, .u, .u, .u, .u, .u, .u, .u, .u, .u, .u, .u, .u, .u, .u, .u, .u, .u, .u, .u, .u, .u, .u, .u, .u, .u, .u, .u, .u, .u, .u, .u, .u, .u, .u, .u, .u, .u, .u, .u, .u, .u, .u, .u, .u, .u, .u, .u, .u, .u, .u, .u, .u, .u, .u, .u, .u, .u, .u, .u, .u, .u, .u, .u, .u, .u, .u, .u, .u, .u, .u, .u] (ext R []) ⟨exitQ EE [.cell 6 142, .tmp 7] S Q⟩) : ∃ r, res EE ys (.f 106) [p0, p1, p2] S = some r ∧ Q r.1 r.2.1 r.2.2 :=
  enter rfl (by kernel_rfl) sk106 (by kernel_rfl) (by kernel_rfl) ⟨rfl, by simp⟩ h

/-! ### function 107: boule/bouleref01.whole -/
abbrev s107_0 : List Stp := [⟨none, some 4, .assign (.const (.int .i64 0))⟩,
  ⟨none, some 5, .assign (.const (.int .i64 0))⟩]
abbrev s107_1 : List Stp := [⟨none, some 8, .move (.tmp 0)⟩,
  ⟨none, some 9, .move (.tmp 1)⟩,
  ⟨none, some 10, .binOp .quo 3 (.tmp 8) (.tmp 9) 3⟩,
  ⟨none, some 11, .move (.tmp 0)⟩,
  ⟨none, some 12, .move (.tmp 1)⟩,
  ⟨none, some 13, .binOp .rem 3 (.tmp 11) (.tmp 12) 3⟩,
  ⟨none, some 6, .assign (.tmp 10)⟩,
  ⟨none, some 7, .assign (.tmp 13)⟩]
abbrev s107_2 : List Stp := [⟨none, some 14, .move (.tmp 7)⟩,
  ⟨none, some 15, .binOp .lss 3 (.tmp 14) (.const (.int .i64 0)) 3⟩]
abbrev s107_3 : List Stp := [⟨none, some 16, .move (.tmp 6)⟩,
  ⟨none, some 17, .binOp .sub 3 (.tmp 16) (.const (.int .i64 1)) 3⟩,
  ⟨none, some 18, .move (.tmp 7)⟩,
  ⟨none, some 19, .move (.tmp 1)⟩,
  ⟨none, some 20, .binOp .add 3 (.tmp 18) (.tmp 19) 3⟩,
  ⟨none, some 4, .assign (.tmp 17)⟩,
  ⟨none, some 5, .assign (.tmp 20)⟩]
abbrev s107_4 : List Stp := [⟨none, some 21, .move (.tmp 6)⟩,
  ⟨none, some 22, .move (.tmp 7)⟩,
  ⟨none, some 4, .assign (.tmp 21)⟩,
  ⟨none, some 5, .assign (.tmp 22)⟩]
abbrev k107 : Sk := .seq (.reg 0 false s107_0) (.seq (.reg 1 true s107_1) (.seq (.seq (.reg 2 false s107_2) (.cond (.tmp 15) (.seq (.reg 3 false s107_3) .ret) .skip)) (.seq (.reg 4 false s107_4) .ret)))
theorem sk107 : (Try.f107.body.bind (skOf 23)) = some k107 := by kernel_rfl
theorem en107 {ys : Yls} {p0 p1 : X} {S : St} {Q : Va → St → Bool → Prop} (h : ∀ R : St, S.n = R.n → S.h = R.h → R.lo = R.n → @Wp EE 107 ys false k107 [.x p0, .x p1, .u, .u, .u, .u, .u, .u, .u, .u, .u, .u, .u, .u, .u, .u, .u, .u, .u, .u, .u, .u, .u] (ext R []) ⟨exitQ EE [.tmp 4, .tmp 5] S Q⟩) : ∃ r, res EE ys (.f 107) [p0, p1] S = some r ∧ Q r.1 r.2.1 r.2.2 :=
  enter rfl (by kernel_rfl) sk107 (by kernel_rfl) (by kernel_rfl) ⟨rfl, by simp⟩ h

/-! ### function 108: slices.IndexFunc[[]boule/api.Removal,boule/api.Removal] -/
abbrev s108_0 : List Stp := [⟨none, some 4, .assign (.const (.int .i64 0))⟩]
abbrev s108_1 : List Stp := [⟨none, some 6, .move (.tmp 0)⟩,
  ⟨none, some 7, .call ⟨.builtin .len, #[.tmp 6], #[76]⟩⟩,
  ⟨none, some 8, .move (.const (.int .i64 0))⟩]
abbrev s108_2 : List Stp := [⟨none, some 9, .binOp .lss 3 (.tmp 8) (.tmp 7) 3⟩]
abbrev s108_3 : List Stp := [⟨none, some 10, .move (.tmp 8)⟩,
  ⟨none, some 5, .assign (.tmp 10)⟩]
abbrev s108_4 : List Stp := [⟨none, some 11, .move (.tmp 1)⟩,
  ⟨none, some 12, .move (.tmp 0)⟩,
  ⟨none, some 13, .move (.tmp 5)⟩,
  ⟨none, some 14, .indexAddr 76 (.tmp 12) (.tmp 13)⟩,
  ⟨none, some 15, .load 88 (.tmp 14)⟩,
  ⟨none, some 16, .call ⟨.value (.tmp 11), #[.tmp 15], #[88]⟩⟩]
abbrev s108_5 : List Stp := [⟨none, some 17, .move (.tmp 5)⟩,
  ⟨none, some 4, .assign (.tmp 17)⟩]
abbrev s108_6 : List Stp := [⟨none, some 18, .binOp .add 3 (.tmp 8) (.const (.int .i64 1)) 3⟩,
  ⟨none, some 8, .move (.tmp 18)⟩]
abbrev l108_0 : Sk := .seq (.reg 2 false s108_2) (.seq (.cond (.tmp 9) .skip (.exit 0)) (.seq (.block 1 (.seq (.reg 3 false s108_3) (.seq (.reg 4 false s108_4) (.cond (.tmp 16) (.seq (.reg 5 false s108_5) .ret) .skip)))) (.reg 6 false s108_6)))
abbrev s108_7 : List Stp := [⟨none, some 4, .assign (.const (.int .i64 (-1)))⟩]
abbrev k108 : Sk := .seq (.reg 0 false s108_0) (.seq (.seq (.reg 1 false s108_1) (.block 0 (.loop l108_0))) (.seq (.reg 7 false s108_7) .ret))
theorem sk108 : (Try.f108.body.bind (skOf 19)) = some k108 := by kernel_rfl
theorem en108 {ys : Yls} {p0 p1 : X} {S : St} {Q : Va → St → Bool → Prop} (h : ∀ R : St, S.n = R.n → S.h = R.h → R.lo = R.n → @Wp EE 108 ys false k108 [.x p0, .x p1, .u, .u, .u, .u, .u, .u, .u, .u, .u, .u, .u, .u, .u, .u, .u, .u, .u] (ext R []) ⟨exitQ EE [.tmp 4] S Q⟩) : ∃ r, res EE ys (.f 108) [p0, p1] S = some r ∧ Q r.1 r.2.1 r.2.2 :=
  enter rfl (by kernel_rfl) sk108 (by kernel_rfl) (by kernel_rfl) ⟨rfl, by simp⟩ h

/-! ### function 109: (boule/units.wide).cmp -/
abbrev s109_0 : List Stp := [⟨none, some 2, .box 165 (.tmp 0)⟩,
  ⟨none, some 3, .box 165 (.tmp 1)⟩,
  ⟨none, some 4, .assign (.const (.int .i64 0))⟩]
abbrev s109_1 : List Stp := [⟨none, some 7, .fieldAddr 165 (.tmp 2) 2⟩,
  ⟨none, some 8, .load 4 (.tmp 7)⟩,
  ⟨none, some 9, .fieldAddr 165 (.tmp 3) 2⟩,
  ⟨none, some 10, .load 4 (.tmp 9)⟩,
  ⟨none, some 11, .binOp .neq 4 (.tmp 8) (.tmp 10) 4⟩]
abbrev s109_2 : List Stp := [⟨none, some 12, .fieldAddr 165 (.tmp 2) 2⟩,
  ⟨none, some 13, .load 4 (.tmp 12)⟩]
abbrev s109_3 : List Stp := [⟨none, some 4, .assign (.const (.int .i64 (-1)))⟩]
abbrev s109_4 : List Stp := [⟨none, some 4, .assign (.const (.int .i64 1))⟩]
abbrev s109_5 : List Stp := [⟨none, some 15, .fieldAddr 165 (.tmp 2) 1⟩,
  ⟨none, some 16, .load 163 (.tmp 15)⟩,
  ⟨none, some 17, .fieldAddr 165 (.tmp 3) 1⟩,
  ⟨none, some 18, .load 163 (.tmp 17)⟩,
  ⟨none, some 19, .call ⟨.value (.func 124), #[.tmp 16, .tmp 18, .const (.int .u64 0)], #[163, 163, 163]⟩⟩,
  ⟨none, some 14, .move (.tmp 19)⟩,
  ⟨none, some 20, .extract (.tmp 14) 0⟩,
  ⟨none, some 21, .extract (.tmp 14) 1⟩,
  ⟨none, some 5, .assign (.tmp 20)⟩,
  ⟨none, some 6, .assign (.tmp 21)⟩]
abbrev s109_6 : List Stp := [⟨none, some 23, .fieldAddr 165 (.tmp 2) 0⟩,
  ⟨none, some 24, .load 163 (.tmp 23)⟩,
  ⟨none, some 25, .fieldAddr 165 (.tmp 3) 0⟩,
  ⟨none, some 26, .load 163 (.tmp 25)⟩,
  ⟨none, some 27, .move (.tmp 6)⟩,
  ⟨none, some 28, .call ⟨.value (.func 124), #[.tmp 24, .tmp 26, .tmp 27], #[163, 163, 163]⟩⟩,
  ⟨none, some 22, .move (.tmp 28)⟩,
  ⟨none, some 29, .extract (.tmp 22) 0⟩,
  ⟨none, some 30, .extract (.tmp 22) 1⟩,
  ⟨none, some 6, .assign (.tmp 30)⟩]
abbrev s109_7 : List Stp := [⟨none, some 32, .load 165 (.tmp 2)⟩,
  ⟨none, some 33, .load 165 (.tmp 3)⟩,
  ⟨none, some 34, .binOp .eql 165 (.tmp 32) (.tmp 33) 165⟩,
  ⟨none, some 31, .assign (.tmp 34)⟩]
abbrev s109_8 : List Stp := [⟨none, some 4, .assign (.const (.int .i64 0))⟩]
abbrev s109_9 : List Stp := [⟨none, some 36, .move (.tmp 6)⟩,
  ⟨none, some 37, .binOp .eql 163 (.tmp 36) (.const (.int .u64 1)) 163⟩,
  ⟨none, some 38, .fieldAddr 165 (.tmp 2) 2⟩,
  ⟨none, some 39, .load 4 (.tmp 38)⟩,
  ⟨none, some 40, .binOp .neq 4 (.tmp 37) (.tmp 39) 4⟩,
  ⟨none, some 35, .assign (.tmp 40)⟩]
abbrev s109_10 : List Stp := [⟨none, some 4, .assign (.const (.int .i64 (-1)))⟩]
abbrev s109_11 : List Stp := [⟨none, some 4, .assign (.const (.int .i64 1))⟩]
abbrev k109 : Sk := .seq (.reg 0 false s109_0) (.seq (.seq (.reg 1 false s109_1) (.cond (.tmp 11) (.seq (.seq (.reg 2 false s109_2) (.cond (.tmp 13) (.seq (.reg 3 false s109_3) .ret) .skip)) (.seq (.reg 4 false s109_4) .ret)) .skip)) (.seq (.reg 5 false s109_5) (.seq (.reg 6 false s109_6) (.seq (.block 0 (.seq (.reg 7 false s109_7) (.cond (.tmp 31) (.seq (.reg 8 false s109_8) .ret) (.seq (.reg 9 false s109_9) (.cond (.tmp 35) (.seq (.reg 10 false s109_10) .ret) .skip))))) (.seq (.reg 11 false s109_11) .ret)))))
theorem sk109 : (Try.f109.body.bind (skOf 41)) = some k109 := by kernel_rfl
theorem en109 {ys : Yls} {p0 p1 : X} {S : St} {Q : Va → St → Bool → Prop} (h : ∀ R : St, S.n = R.n → S.h = R.h → R.lo = R.n → @Wp EE 109 ys false k109 [.x p0, .x p1, .u, .u, .u, .u, .u, .u, .u, .u, .u, .u, .u, .u, .u, .u, .u, .u, .u, .u, .u, .u, .u, .u, .u, .u, .u, .u, .u, .u, .u, .u, .u, .u, .u, .u, .u, .u, .u, .u, .u] (ext R []) ⟨exitQ EE [.tmp 4] S Q⟩) : ∃ r, res EE ys (.f 109) [p0, p1] S = some r ∧ Q r.1 r.2.1 r.2.2 :=
  enter rfl (by kernel_rfl) sk109 (by kernel_rfl) (by kernel_rfl) ⟨rfl, by simp⟩ h

/-! ### function 110: boule/units.is$1 -/
abbrev s110_0 : List Stp := [⟨none, some 2, .assign (.const (.bool false))⟩]
abbrev s110_1 : List Stp := [⟨none, some 3, .move (.tmp 0)⟩,
  ⟨none, some 4, .binOp .lss 3 (.tmp 3) (.const (.int .i64 (-1000000000000000))) 3⟩,
  ⟨none, some 5, .move (.tmp 4)⟩,
  ⟨some (5, false), some 6, .move (.tmp 0)⟩,
  ⟨some (5, false), some 7, .binOp .gtr 3 (.tmp 6) (.const (.int .i64 1000000000000000)) 3⟩,
  ⟨none, some 8, .pick (.tmp 5) (.const (.bool true)) (.tmp 7)⟩,
  ⟨none, some 2, .assign (.tmp 8)⟩]
abbrev k110 : Sk := .seq (.reg 0 false s110_0) (.seq (.reg 1 false s110_1) .ret)
theorem sk110 : (Try.f110.body.bind (skOf 9)) = some k110 := by kernel_rfl
theorem en110 {ys : Yls} {p0 : X} {S : St} {Q : Va → St → Bool → Prop} (h : ∀ R : St, S.n = R.n → S.h = R.h → R.lo = R.n → @Wp EE 110 ys false k110 [.x p0, .u, .u, .u, .u, .u, .u, .u, .u] (ext R []) ⟨exitQ EE [.tmp 2] S Q⟩) : ∃ r, res EE ys (.f 110) [p0] S = some r ∧ Q r.1 r.2.1 r.2.2 :=
  enter rfl (by kernel_rfl) sk110 (by kernel_rfl) (by kernel_rfl) ⟨rfl, by simp⟩ h

/-! ### function 111: boule/units.magnitude -/
abbrev s111_0 : List Stp := [⟨none, some 2, .assign (.const (.int .u64 0))⟩,
  ⟨none, some 3, .assign (.const (.bool false))⟩]
abbrev s111_1 : List Stp := [⟨none, some 4, .move (.tmp 0)⟩,
  ⟨none, some 5, .binOp .lss 3 (.tmp 4) (.const (.int .i64 0)) 3⟩]
abbrev s111_2 : List Stp := [⟨none, some 6, .move (.tmp 0)⟩,
  ⟨none, some 7, .unOp .neg 3 (.tmp 6)⟩,
  ⟨none, some 8, .convert 3 163 (.tmp 7)⟩,
  ⟨none, some 2, .assign (.tmp 8)⟩,
  ⟨none, some 3, .assign (.const (.bool true))⟩]
abbrev s111_3 : List Stp := [⟨none, some 9, .move (.tmp 0)⟩,
  ⟨none, some 10, .convert 3 163 (.tmp 9)⟩,
  ⟨none, some 2, .assign (.tmp 10)⟩,
  ⟨none, some 3, .assign (.const (.bool false))⟩]
abbrev k111 : Sk := .seq (.reg 0 false s111_0) (.seq (.seq (.reg 1 false s111_1) (.cond (.tmp 5) (.seq (.reg 2 false s111_2) .ret) .skip)) (.seq (.reg 3 false s111_3) .ret))
theorem sk111 : (Try.f111.body.bind (skOf 11)) = some k111 := by kernel_rfl
theorem en111 {ys : Yls} {p0 : X} {S : St} {Q : Va → St → Bool → Prop} (h : ∀ R : St, S.n = R.n → S.h = R.h → R.lo = R.n → @Wp EE 111 ys false k111 [.x p0, .u, .u, .u, .u, .u, .u, .u, .u, .u, .u] (ext R []) ⟨exitQ EE [.tmp 2, .tmp 3] S Q⟩) : ∃ r, res EE ys (.f 111) [p0] S = some r ∧ Q r.1 r.2.1 r.2.2 :=
  enter rfl (by kernel_rfl) sk111 (by kernel_rfl) (by kernel_rfl) ⟨rfl, by simp⟩ h

/-! ### function 112: math/bits.Mul64 -/
abbrev s112_0 : List Stp := [⟨none, some 4, .assign (.const (.int .u64 0))⟩,
  ⟨none, some 5, .assign (.const (.int .u64 0))⟩]
abbrev s112_1 : List Stp := [⟨none, some 14, .move (.tmp 0)⟩,
  ⟨none, some 15, .binOp .and 163 (.tmp 14) (.const (.int .u64 4294967295)) 163⟩,
  ⟨none, some 6, .assign (.tmp 15)⟩]
abbrev s112_2 : List Stp := [⟨none, some 16, .move (.tmp 0)⟩,
  ⟨none, some 17, .binOp .shr 163 (.tmp 16) (.const (.int .u64 32)) 207⟩,
  ⟨none, some 7, .assign (.tmp 17)⟩]
abbrev s112_3 : List Stp := [⟨none, some 18, .move (.tmp 1)⟩,
  ⟨none, some 19, .binOp .and 163 (.tmp 18) (.const (.int .u64 4294967295)) 163⟩,
  ⟨none, some 8, .assign (.tmp 19)⟩]
abbrev s112_4 : List Stp := [⟨none, some 20, .move (.tmp 1)⟩,
  ⟨none, some 21, .binOp .shr 163 (.tmp 20) (.const (.int .u64 32)) 207⟩,
  ⟨none, some 9, .assign (.tmp 21)⟩]
abbrev s112_5 : List Stp := [⟨none, some 22, .move (.tmp 6)⟩,
  ⟨none, some 23, .move (.tmp 8)⟩,
  ⟨none, some 24, .binOp .mul 163 (.tmp 22) (.tmp 23) 163⟩,
  ⟨none, some 10, .assign (.tmp 24)⟩]
abbrev s112_6 : List Stp := [⟨none, some 25, .move (.tmp 7)⟩,
  ⟨none, some 26, .move (.tmp 8)⟩,
  ⟨none, some 27, .binOp .mul 163 (.tmp 25) (.tmp 26) 163⟩,
  ⟨none, some 28, .move (.tmp 10)⟩,
  ⟨none, some 29, .binOp .shr 163 (.tmp 28) (.const (.int .u64 32)) 207⟩,
  ⟨none, some 30, .binOp .add 163 (.tmp 27) (.tmp 29) 163⟩,
  ⟨none, some 11, .assign (.tmp 30)⟩]
abbrev s112_7 : List Stp := [⟨none, some 31, .move (.tmp 11)⟩,
  ⟨none, some 32, .binOp .and 163 (.tmp 31) (.const (.int .u64 4294967295)) 163⟩,
  ⟨none, some 12, .assign (.tmp 32)⟩]
abbrev s112_8 : List Stp := [⟨none, some 33, .move (.tmp 11)⟩,
  ⟨none, some 34, .binOp .shr 163 (.tmp 33) (.const (.int .u64 32)) 207⟩,
  ⟨none, some 13, .assign (.tmp 34)⟩]
abbrev s112_9 : List Stp := [⟨none, some 35, .move (.tmp 12)⟩,
  ⟨none, some 36, .move (.tmp 6)⟩,
  ⟨none, some 37, .move (.tmp 9)⟩,
  ⟨none, some 38, .binOp .mul 163 (.tmp 36) (.tmp 37) 163⟩,
  ⟨none, some 39, .binOp .add 163 (.tmp 35) (.tmp 38) 163⟩,
  ⟨none, some 12, .assign (.tmp 39)⟩]
abbrev s112_10 : List Stp := [⟨none, some 40, .move (.tmp 7)⟩,
  ⟨none, some 41, .move (.tmp 9)⟩,
  ⟨none, some 42, .binOp .mul 163 (.tmp 40) (.tmp 41) 163⟩,
  ⟨none, some 43, .move (.tmp 13)⟩,
  ⟨none, some 44, .binOp .add 163 (.tmp 42) (.tmp 43) 163⟩,
  ⟨none, some 45, .move (.tmp 12)⟩,
  ⟨none, some 46, .binOp .shr 163 (.tmp 45) (.const (.int .u64 32)) 207⟩,
  ⟨none, some 47, .binOp .add 163 (.tmp 44) (.tmp 46) 163⟩,
  ⟨none, some 4, .assign (.tmp 47)⟩]
abbrev s112_11 : List Stp := [⟨none, some 48, .move (.tmp 0)⟩,
  ⟨none, some 49, .move (.tmp 1)⟩,
  ⟨none, some 50, .binOp .mul 163 (.tmp 48) (.tmp 49) 163⟩,
  ⟨none, some 5, .assign (.tmp 50)⟩]
abbrev k112 : Sk := .seq (.reg 0 false s112_0) (.seq (.reg 1 false s112_1) (.seq (.reg 2 false s112_2) (.seq (.reg 3 false s112_3) (.seq (.reg 4 false s112_4) (.seq (.reg 5 false s112_5) (.seq (.reg 6 false s112_6) (.seq (.reg 7 false s112_7) (.seq (.reg 8 false s112_8) (.seq (.reg 9 false s112_9) (.seq (.reg 10 false s112_10) (.seq (.reg 11 false s112_11) .ret)))))))))))
theorem sk112 : (Try.f112.body.bind (skOf 51)) = some k112 := by kernel_rfl
theorem en112 {ys : Yls} {p0 p1 : X} {S : St} {Q : Va → St → Bool → Prop} (h : ∀ R : St, S.n = R.n → S.h = R.h → R.lo = R.n → @Wp EE 112 ys false k112 [.x p0, .x p1, .u, .u, .u, .u, .u, .u, .u, .u, .u, .u, .u, .u, .u, .u, .u, .u, .u, .u, .u, .u, .u, .u, .u, .u, .u, .u, .u, .u, .u, .u, .u, .u, .u, .u, .u, .u, .u, .u, .u, .u, .u, .u, .u, .u, .u, .u, .u, .u, .u] (ext R []) ⟨exitQ EE [.tmp 4, .tmp 5] S Q⟩) : ∃ r, res EE ys (.f 112) [p0, p1] S = some r ∧ Q r.1 r.2.1 r.2.2 :=
  enter rfl (by kernel_rfl) sk112 (by kernel_rfl) (by kernel_rfl) ⟨rfl, by simp⟩ h

end Go.Proofs.Ytemjdhglaljhbaa
