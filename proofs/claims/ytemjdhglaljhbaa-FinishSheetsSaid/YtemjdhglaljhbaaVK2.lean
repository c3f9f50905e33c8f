/- The functions' code as steps. Printed by genpieces.py out of the translation. -/
import Derived.Test.YtemjdhglaljhbaaVT
import Derived.KernelRfl
namespace Go.Proofs.Ytemjdhglaljhbaa
open Go.V
set_option maxRecDepth 100000
set_option linter.unusedSimpArgs false

/-! ### function 113: math/bits.Div64 -/
abbrev s113_0 : List Stp := [⟨none, some 6, .assign (.const (.int .u64 0))⟩,
  ⟨none, some 7, .assign (.const (.int .u64 0))⟩]
abbrev s113_1 : List Stp := [⟨none, some 19, .move (.tmp 2)⟩,
  ⟨none, some 20, .binOp .eql 163 (.tmp 19) (.const (.int .u64 0)) 163⟩]
abbrev s113_2 : List Stp := [⟨none, some 21, .load 209 (.global 0)⟩,
  ⟨none, none, .panic (.tmp 21)⟩]
abbrev s113_3 : List Stp := [⟨none, some 22, .move (.tmp 2)⟩,
  ⟨none, some 23, .move (.tmp 0)⟩,
  ⟨none, some 24, .binOp .leq 163 (.tmp 22) (.tmp 23) 163⟩]
abbrev s113_4 : List Stp := [⟨none, some 25, .load 209 (.global 1)⟩,
  ⟨none, none, .panic (.tmp 25)⟩]
abbrev s113_5 : List Stp := [⟨none, some 26, .move (.tmp 0)⟩,
  ⟨none, some 27, .binOp .eql 163 (.tmp 26) (.const (.int .u64 0)) 163⟩]
abbrev s113_6 : List Stp := [⟨none, some 28, .move (.tmp 1)⟩,
  ⟨none, some 29, .move (.tmp 2)⟩,
  ⟨none, some 30, .binOp .quo 163 (.tmp 28) (.tmp 29) 163⟩,
  ⟨none, some 31, .move (.tmp 1)⟩,
  ⟨none, some 32, .move (.tmp 2)⟩,
  ⟨none, some 33, .binOp .rem 163 (.tmp 31) (.tmp 32) 163⟩,
  ⟨none, some 6, .assign (.tmp 30)⟩,
  ⟨none, some 7, .assign (.tmp 33)⟩]
abbrev s113_7 : List Stp := [⟨none, some 34, .move (.tmp 2)⟩,
  ⟨none, some 35, .call ⟨.value (.func 125), #[.tmp 34], #[163]⟩⟩,
  ⟨none, some 36, .convert 3 207 (.tmp 35)⟩,
  ⟨none, some 8, .assign (.tmp 36)⟩]
abbrev s113_8 : List Stp := [⟨none, some 37, .move (.tmp 2)⟩,
  ⟨none, some 38, .move (.tmp 8)⟩,
  ⟨none, some 39, .binOp .shl 163 (.tmp 37) (.tmp 38) 207⟩,
  ⟨none, some 2, .assign (.tmp 39)⟩]
abbrev s113_9 : List Stp := [⟨none, some 40, .move (.tmp 2)⟩,
  ⟨none, some 41, .binOp .shr 163 (.tmp 40) (.const (.int .u64 32)) 207⟩,
  ⟨none, some 9, .assign (.tmp 41)⟩]
abbrev s113_10 : List Stp := [⟨none, some 42, .move (.tmp 2)⟩,
  ⟨none, some 43, .binOp .and 163 (.tmp 42) (.const (.int .u64 4294967295)) 163⟩,
  ⟨none, some 10, .assign (.tmp 43)⟩]
abbrev s113_11 : List Stp := [⟨none, some 44, .move (.tmp 0)⟩,
  ⟨none, some 45, .move (.tmp 8)⟩,
  ⟨none, some 46, .binOp .shl 163 (.tmp 44) (.tmp 45) 207⟩,
  ⟨none, some 47, .move (.tmp 1)⟩,
  ⟨none, some 48, .move (.tmp 8)⟩,
  ⟨none, some 49, .binOp .sub 207 (.const (.int .u64 64)) (.tmp 48) 207⟩,
  ⟨none, some 50, .binOp .shr 163 (.tmp 47) (.tmp 49) 207⟩,
  ⟨none, some 51, .binOp .or 163 (.tmp 46) (.tmp 50) 163⟩,
  ⟨none, some 11, .assign (.tmp 51)⟩]
abbrev s113_12 : List Stp := [⟨none, some 52, .move (.tmp 1)⟩,
  ⟨none, some 53, .move (.tmp 8)⟩,
  ⟨none, some 54, .binOp .shl 163 (.tmp 52) (.tmp 53) 207⟩,
  ⟨none, some 12, .assign (.tmp 54)⟩]
abbrev s113_13 : List Stp := [⟨none, some 55, .move (.tmp 12)⟩,
  ⟨none, some 56, .binOp .shr 163 (.tmp 55) (.const (.int .u64 32)) 207⟩,
  ⟨none, some 13, .assign (.tmp 56)⟩]
abbrev s113_14 : List Stp := [⟨none, some 57, .move (.tmp 12)⟩,
  ⟨none, some 58, .binOp .and 163 (.tmp 57) (.const (.int .u64 4294967295)) 163⟩,
  ⟨none, some 14, .assign (.tmp 58)⟩]
abbrev s113_15 : List Stp := [⟨none, some 59, .move (.tmp 11)⟩,
  ⟨none, some 60, .move (.tmp 9)⟩,
  ⟨none, some 61, .binOp .quo 163 (.tmp 59) (.tmp 60) 163⟩,
  ⟨none, some 15, .assign (.tmp 61)⟩]
abbrev s113_16 : List Stp := [⟨none, some 62, .move (.tmp 11)⟩,
  ⟨none, some 63, .move (.tmp 15)⟩,
  ⟨none, some 64, .move (.tmp 9)⟩,
  ⟨none, some 65, .binOp .mul 163 (.tmp 63) (.tmp 64) 163⟩,
  ⟨none, some 66, .binOp .sub 163 (.tmp 62) (.tmp 65) 163⟩,
  ⟨none, some 16, .assign (.tmp 66)⟩]
abbrev s113_17 : List Stp := [⟨none, some 67, .move (.tmp 15)⟩,
  ⟨none, some 68, .binOp .geq 163 (.tmp 67) (.const (.int .u64 4294967296)) 163⟩,
  ⟨none, some 69, .move (.tmp 68)⟩,
  ⟨some (69, false), some 70, .move (.tmp 15)⟩,
  ⟨some (69, false), some 71, .move (.tmp 10)⟩,
  ⟨some (69, false), some 72, .binOp .mul 163 (.tmp 70) (.tmp 71) 163⟩,
  ⟨some (69, false), some 73, .move (.tmp 16)⟩,
  ⟨some (69, false), some 74, .binOp .mul 163 (.const (.int .u64 4294967296)) (.tmp 73) 163⟩,
  ⟨some (69, false), some 75, .move (.tmp 13)⟩,
  ⟨some (69, false), some 76, .binOp .add 163 (.tmp 74) (.tmp 75) 163⟩,
  ⟨some (69, false), some 77, .binOp .gtr 163 (.tmp 72) (.tmp 76) 163⟩,
  ⟨none, some 78, .pick (.tmp 69) (.const (.bool true)) (.tmp 77)⟩]
abbrev s113_18 : List Stp := [⟨none, some 79, .move (.tmp 15)⟩,
  ⟨none, some 80, .binOp .sub 163 (.tmp 79) (.const (.int .u64 1)) 163⟩,
  ⟨none, some 15, .assign (.tmp 80)⟩]
abbrev s113_19 : List Stp := [⟨none, some 81, .move (.tmp 16)⟩,
  ⟨none, some 82, .move (.tmp 9)⟩,
  ⟨none, some 83, .binOp .add 163 (.tmp 81) (.tmp 82) 163⟩,
  ⟨none, some 16, .assign (.tmp 83)⟩]
abbrev s113_20 : List Stp := [⟨none, some 84, .move (.tmp 16)⟩,
  ⟨none, some 85, .binOp .geq 163 (.tmp 84) (.const (.int .u64 4294967296)) 163⟩]
abbrev l113_0 : Sk := .seq (.seq (.reg 17 false s113_17) (.cond (.tmp 78) .skip (.exit 0))) (.block 1 (.seq (.reg 18 false s113_18) (.seq (.reg 19 false s113_19) (.seq (.reg 20 false s113_20) (.cond (.tmp 85) (.exit 0) .skip)))))
abbrev s113_21 : List Stp := [⟨none, some 86, .move (.tmp 11)⟩,
  ⟨none, some 87, .binOp .mul 163 (.tmp 86) (.const (.int .u64 4294967296)) 163⟩,
  ⟨none, some 88, .move (.tmp 13)⟩,
  ⟨none, some 89, .binOp .add 163 (.tmp 87) (.tmp 88) 163⟩,
  ⟨none, some 90, .move (.tmp 15)⟩,
  ⟨none, some 91, .move (.tmp 2)⟩,
  ⟨none, some 92, .binOp .mul 163 (.tmp 90) (.tmp 91) 163⟩,
  ⟨none, some 93, .binOp .sub 163 (.tmp 89) (.tmp 92) 163⟩,
  ⟨none, some 17, .assign (.tmp 93)⟩]
abbrev s113_22 : List Stp := [⟨none, some 94, .move (.tmp 17)⟩,
  ⟨none, some 95, .move (.tmp 9)⟩,
  ⟨none, some 96, .binOp .quo 163 (.tmp 94) (.tmp 95) 163⟩,
  ⟨none, some 18, .assign (.tmp 96)⟩]
abbrev s113_23 : List Stp := [⟨none, some 97, .move (.tmp 17)⟩,
  ⟨none, some 98, .move (.tmp 18)⟩,
  ⟨none, some 99, .move (.tmp 9)⟩,
  ⟨none, some 100, .binOp .mul 163 (.tmp 98) (.tmp 99) 163⟩,
  ⟨none, some 101, .binOp .sub 163 (.tmp 97) (.tmp 100) 163⟩,
  ⟨none, some 16, .assign (.tmp 101)⟩]
abbrev s113_24 : List Stp := [⟨none, some 102, .move (.tmp 18)⟩,
  ⟨none, some 103, .binOp .geq 163 (.tmp 102) (.const (.int .u64 4294967296)) 163⟩,
  ⟨none, some 104, .move (.tmp 103)⟩,
  ⟨some (104, false), some 105, .move (.tmp 18)⟩,
  ⟨some (104, false), some 106, .move (.tmp 10)⟩,
  ⟨some (104, false), some 107, .binOp .mul 163 (.tmp 105) (.tmp 106) 163⟩,
  ⟨some (104, false), some 108, .move (.tmp 16)⟩,
  ⟨some (104, false), some 109, .binOp .mul 163 (.const (.int .u64 4294967296)) (.tmp 108) 163⟩,
  ⟨some (104, false), some 110, .move (.tmp 14)⟩,
  ⟨some (104, false), some 111, .binOp .add 163 (.tmp 109) (.tmp 110) 163⟩,
  ⟨some (104, false), some 112, .binOp .gtr 163 (.tmp 107) (.tmp 111) 163⟩,
  ⟨none, some 113, .pick (.tmp 104) (.const (.bool true)) (.tmp 112)⟩]
abbrev s113_25 : List Stp := [⟨none, some 114, .move (.tmp 18)⟩,
  ⟨none, some 115, .binOp .sub 163 (.tmp 114) (.const (.int .u64 1)) 163⟩,
  ⟨none, some 18, .assign (.tmp 115)⟩]
abbrev s113_26 : List Stp := [⟨none, some 116, .move (.tmp 16)⟩,
  ⟨none, some 117, .move (.tmp 9)⟩,
  ⟨none, some 118, .binOp .add 163 (.tmp 116) (.tmp 117) 163⟩,
  ⟨none, some 16, .assign (.tmp 118)⟩]
abbrev s113_27 : List Stp := [⟨none, some 119, .move (.tmp 16)⟩,
  ⟨none, some 120, .binOp .geq 163 (.tmp 119) (.const (.int .u64 4294967296)) 163⟩]
abbrev l113_1 : Sk := .seq (.seq (.reg 24 false s113_24) (.cond (.tmp 113) .skip (.exit 2))) (.block 3 (.seq (.reg 25 false s113_25) (.seq (.reg 26 false s113_26) (.seq (.reg 27 false s113_27) (.cond (.tmp 120) (.exit 2) .skip)))))
abbrev s113_28 : List Stp := [⟨none, some 121, .move (.tmp 15)⟩,
  ⟨none, some 122, .binOp .mul 163 (.tmp 121) (.const (.int .u64 4294967296)) 163⟩,
  ⟨none, some 123, .move (.tmp 18)⟩,
  ⟨none, some 124, .binOp .add 163 (.tmp 122) (.tmp 123) 163⟩,
  ⟨none, some 125, .move (.tmp 17)⟩,
  ⟨none, some 126, .binOp .mul 163 (.tmp 125) (.const (.int .u64 4294967296)) 163⟩,
  ⟨none, some 127, .move (.tmp 14)⟩,
  ⟨none, some 128, .binOp .add 163 (.tmp 126) (.tmp 127) 163⟩,
  ⟨none, some 129, .move (.tmp 18)⟩,
  ⟨none, some 130, .move (.tmp 2)⟩,
  ⟨none, some 131, .binOp .mul 163 (.tmp 129) (.tmp 130) 163⟩,
  ⟨none, some 132, .binOp .sub 163 (.tmp 128) (.tmp 131) 163⟩,
  ⟨none, some 133, .move (.tmp 8)⟩,
  ⟨none, some 134, .binOp .shr 163 (.tmp 132) (.tmp 133) 207⟩,
  ⟨none, some 6, .assign (.tmp 124)⟩,
  ⟨none, some 7, .assign (.tmp 134)⟩]
abbrev k113 : Sk := .seq (.reg 0 false s113_0) (.seq (.seq (.reg 1 false s113_1) (.cond (.tmp 20) (.reg 2 false s113_2) .skip)) (.seq (.seq (.reg 3 false s113_3) (.cond (.tmp 24) (.reg 4 false s113_4) .skip)) (.seq (.seq (.reg 5 false s113_5) (.cond (.tmp 27) (.seq (.reg 6 true s113_6) .ret) .skip)) (.seq (.reg 7 false s113_7) (.seq (.reg 8 false s113_8) (.seq (.reg 9 false s113_9) (.seq (.reg 10 false s113_10) (.seq (.reg 11 false s113_11) (.seq (.reg 12 false s113_12) (.seq (.reg 13 false s113_13) (.seq (.reg 14 false s113_14) (.seq (.reg 15 false s113_15) (.seq (.reg 16 false s113_16) (.seq (.block 0 (.loop l113_0)) (.seq (.reg 21 false s113_21) (.seq (.reg 22 false s113_22) (.seq (.reg 23 false s113_23) (.seq (.block 2 (.loop l113_1)) (.seq (.reg 28 false s113_28) .ret)))))))))))))))))))
theorem sk113 : (Try.f113.body.bind (skOf 135)) = some k113 := by kernel_rfl
theorem en113 {ys : Yls} {p0 p1 p2 : X} {S : St} {Q : Va → St → Bool → Prop} (h : ∀ R : St, S.n = R.n → S.h = R.h → R.lo = R.n → @Wp EE 113 ys false k113 [.x p0, .x p1, .x p2, .u, .u, .u, .u, .u, .u, .u, .u, .u, .u, .u, .u, .u, .u, .u, .u, .u, .u, .u, .u, .u, .u, .u, .u, .u, .u, .u, .u, .u, .u, .u, .u, .u, .u, .u, .u, .u, .u, .u, .u, .u, .u, .u, .u, .u, .u, .u, .u, .u, .u, .u, .u, .u, .u, .u, .u, .u, .u, .u, .u, .u, .u, .u, .u, .u, .u, .u, .u, .u, .u, .u, .u, .u, .u, .u, .u, .u, .u, .u, .u, .u, .u, .u, .u, .u, .u, .u, .u, .u, .u, .u, .u, .u, .u, .u, .u, .u, .u, .u, .u, .u, .u, .u, .u, .u, .u, .u, .u, .u, .u, .u, .u, .u, .u, .u, .u, .u, .u, .u, .u, .u, .u, .u, .u, .u, .u, .u, .u, .u, .u, .u, .u] (ext R []) ⟨exitQ EE [.tmp 6, .tmp 7] S Q⟩) : ∃ r, res EE ys (.f 113) [p0, p1, p2] S = some r ∧ Q r.1 r.2.1 r.2.2 :=
  enter rfl (by kernel_rfl) sk113 (by kernel_rfl) (by kernel_rfl) ⟨rfl, by simp⟩ h

/-! ### function 114: slices.IndexFunc[[]boule/api.Range,boule/api.Range] -/
abbrev s114_0 : List Stp := [⟨none, some 4, .assign (.const (.int .i64 0))⟩]
abbrev s114_1 : List Stp := [⟨none, some 6, .move (.tmp 0)⟩,
  ⟨none, some 7, .call ⟨.builtin .len, #[.tmp 6], #[35]⟩⟩,
  ⟨none, some 8, .move (.const (.int .i64 0))⟩]
abbrev s114_2 : List Stp := [⟨none, some 9, .binOp .lss 3 (.tmp 8) (.tmp 7) 3⟩]
abbrev s114_3 : List Stp := [⟨none, some 10, .move (.tmp 8)⟩,
  ⟨none, some 5, .assign (.tmp 10)⟩]
abbrev s114_4 : List Stp := [⟨none, some 11, .move (.tmp 1)⟩,
  ⟨none, some 12, .move (.tmp 0)⟩,
  ⟨none, some 13, .move (.tmp 5)⟩,
  ⟨none, some 14, .indexAddr 35 (.tmp 12) (.tmp 13)⟩,
  ⟨none, some 15, .load 24 (.tmp 14)⟩,
  ⟨none, some 16, .call ⟨.value (.tmp 11), #[.tmp 15], #[24]⟩⟩]
abbrev s114_5 : List Stp := [⟨none, some 17, .move (.tmp 5)⟩,
  ⟨none, some 4, .assign (.tmp 17)⟩]
abbrev s114_6 : List Stp := [⟨none, some 18, .binOp .add 3 (.tmp 8) (.const (.int .i64 1)) 3⟩,
  ⟨none, some 8, .move (.tmp 18)⟩]
abbrev l114_0 : Sk := .seq (.reg 2 false s114_2) (.seq (.cond (.tmp 9) .skip (.exit 0)) (.seq (.block 1 (.seq (.reg 3 false s114_3) (.seq (.reg 4 false s114_4) (.cond (.tmp 16) (.seq (.reg 5 false s114_5) .ret) .skip)))) (.reg 6 false s114_6)))
abbrev s114_7 : List Stp := [⟨none, some 4, .assign (.const (.int .i64 (-1)))⟩]
abbrev k114 : Sk := .seq (.reg 0 false s114_0) (.seq (.seq (.reg 1 false s114_1) (.block 0 (.loop l114_0))) (.seq (.reg 7 false s114_7) .ret))
theorem sk114 : (Try.f114.body.bind (skOf 19)) = some k114 := by kernel_rfl
theorem en114 {ys : Yls} {p0 p1 : X} {S : St} {Q : Va → St → Bool → Prop} (h : ∀ R : St, S.n = R.n → S.h = R.h → R.lo = R.n → @Wp EE 114 ys false k114 [.x p0, .x p1, .u, .u, .u, .u, .u, .u, .u, .u, .u, .u, .u, .u, .u, .u, .u, .u, .u] (ext R []) ⟨exitQ EE [.tmp 4] S Q⟩) : ∃ r, res EE ys (.f 114) [p0, p1] S = some r ∧ Q r.1 r.2.1 r.2.2 :=
  enter rfl (by kernel_rfl) sk114 (by kernel_rfl) (by kernel_rfl) ⟨rfl, by simp⟩ h

/-! ### function 115: boule/units.valid$1 -/
abbrev s115_0 : List Stp := [⟨none, some 1, .box 24 (.tmp 0)⟩,
  ⟨none, some 2, .assign (.const (.bool false))⟩]
abbrev s115_1 : List Stp := [⟨none, some 3, .fieldAddr 24 (.tmp 1) 0⟩,
  ⟨none, some 4, .load 3 (.tmp 3)⟩,
  ⟨none, some 5, .fieldAddr 24 (.tmp 1) 1⟩,
  ⟨none, some 6, .load 3 (.tmp 5)⟩,
  ⟨none, some 7, .buildSlice 30 2 #[(0, .tmp 4), (1, .tmp 6)]⟩,
  ⟨none, some 8, .call ⟨.value (.func 84), #[.tmp 7], #[30]⟩⟩,
  ⟨none, some 9, .unOp .not 4 (.tmp 8)⟩,
  ⟨none, some 10, .move (.tmp 9)⟩,
  ⟨some (10, false), some 11, .fieldAddr 24 (.tmp 1) 0⟩,
  ⟨some (10, false), some 12, .load 3 (.tmp 11)⟩,
  ⟨some (10, false), some 13, .fieldAddr 24 (.tmp 1) 1⟩,
  ⟨some (10, false), some 14, .load 3 (.tmp 13)⟩,
  ⟨some (10, false), some 15, .binOp .gtr 3 (.tmp 12) (.tmp 14) 3⟩,
  ⟨none, some 16, .pick (.tmp 10) (.const (.bool true)) (.tmp 15)⟩,
  ⟨none, some 2, .assign (.tmp 16)⟩]
abbrev k115 : Sk := .seq (.reg 0 false s115_0) (.seq (.reg 1 false s115_1) .ret)
theorem sk115 : (Try.f115.body.bind (skOf 17)) = some k115 := by kernel_rfl
theorem en115 {ys : Yls} {p0 : X} {S : St} {Q : Va → St → Bool → Prop} (h : ∀ R : St, S.n = R.n → S.h = R.h → R.lo = R.n → @Wp EE 115 ys false k115 [.x p0, .u, .u, .u, .u, .u, .u, .u, .u, .u, .u, .u, .u, .u, .u, .u, .u] (ext R []) ⟨exitQ EE [.tmp 2] S Q⟩) : ∃ r, res EE ys (.f 115) [p0] S = some r ∧ Q r.1 r.2.1 r.2.2 :=
  enter rfl (by kernel_rfl) sk115 (by kernel_rfl) (by kernel_rfl) ⟨rfl, by simp⟩ h

/-! ### function 116: boule/bouleref01.Floor -/
abbrev s116_0 : List Stp := [⟨none, some 6, .assign (.const (.int .i64 0))⟩,
  ⟨none, some 7, .assign (.const (.int .i64 0))⟩,
  ⟨none, some 8, .assign (.const (.bool false))⟩]
abbrev s116_1 : List Stp := [⟨none, some 13, .move (.tmp 0)⟩,
  ⟨none, some 14, .binOp .lss 3 (.tmp 13) (.const (.int .i64 0)) 3⟩,
  ⟨none, some 15, .move (.tmp 1)⟩,
  ⟨none, some 16, .binOp .lss 3 (.tmp 15) (.const (.int .i64 0)) 3⟩,
  ⟨none, some 17, .binOp .neq 4 (.tmp 14) (.tmp 16) 4⟩,
  ⟨none, some 9, .assign (.tmp 17)⟩]
abbrev s116_2 : List Stp := [⟨none, some 19, .move (.tmp 0)⟩,
  ⟨none, some 20, .move (.tmp 0)⟩,
  ⟨none, some 21, .unOp .neg 3 (.tmp 20)⟩,
  ⟨none, some 22, .call ⟨.builtin .max, #[.tmp 19, .tmp 21], #[3, 3]⟩⟩,
  ⟨none, some 23, .move (.tmp 1)⟩,
  ⟨none, some 24, .move (.tmp 1)⟩,
  ⟨none, some 25, .unOp .neg 3 (.tmp 24)⟩,
  ⟨none, some 26, .call ⟨.builtin .max, #[.tmp 23, .tmp 25], #[3, 3]⟩⟩,
  ⟨none, some 27, .move (.tmp 2)⟩,
  ⟨none, some 28, .call ⟨.value (.func 126), #[.tmp 22, .tmp 26, .tmp 27], #[3, 3, 3]⟩⟩,
  ⟨none, some 18, .move (.tmp 28)⟩,
  ⟨none, some 29, .extract (.tmp 18) 0⟩,
  ⟨none, some 30, .extract (.tmp 18) 1⟩,
  ⟨none, some 31, .extract (.tmp 18) 2⟩,
  ⟨none, some 10, .assign (.tmp 29)⟩,
  ⟨none, some 11, .assign (.tmp 30)⟩,
  ⟨none, some 12, .assign (.tmp 31)⟩]
abbrev s116_3 : List Stp := [⟨none, some 32, .move (.tmp 12)⟩,
  ⟨none, some 33, .unOp .not 4 (.tmp 32)⟩]
abbrev s116_4 : List Stp := [⟨none, some 6, .assign (.const (.int .i64 0))⟩,
  ⟨none, some 7, .assign (.const (.int .i64 0))⟩,
  ⟨none, some 8, .assign (.const (.bool false))⟩]
abbrev s116_5 : List Stp := [⟨none, some 34, .move (.tmp 9)⟩,
  ⟨none, some 35, .move (.tmp 34)⟩,
  ⟨some (35, true), some 36, .move (.tmp 11)⟩,
  ⟨some (35, true), some 37, .binOp .gtr 3 (.tmp 36) (.const (.int .i64 0)) 3⟩,
  ⟨none, some 38, .pick (.tmp 35) (.tmp 37) (.const (.bool false))⟩]
abbrev s116_6 : List Stp := [⟨none, some 39, .move (.tmp 10)⟩,
  ⟨none, some 40, .unOp .neg 3 (.tmp 39)⟩,
  ⟨none, some 41, .binOp .sub 3 (.tmp 40) (.const (.int .i64 1)) 3⟩,
  ⟨none, some 42, .move (.tmp 2)⟩,
  ⟨none, some 43, .move (.tmp 11)⟩,
  ⟨none, some 44, .binOp .sub 3 (.tmp 42) (.tmp 43) 3⟩,
  ⟨none, some 6, .assign (.tmp 41)⟩,
  ⟨none, some 7, .assign (.tmp 44)⟩,
  ⟨none, some 8, .assign (.const (.bool true))⟩]
abbrev s116_7 : List Stp := [⟨none, some 45, .move (.tmp 9)⟩]
abbrev s116_8 : List Stp := [⟨none, some 46, .move (.tmp 10)⟩,
  ⟨none, some 47, .unOp .neg 3 (.tmp 46)⟩,
  ⟨none, some 6, .assign (.tmp 47)⟩,
  ⟨none, some 7, .assign (.const (.int .i64 0))⟩,
  ⟨none, some 8, .assign (.const (.bool true))⟩]
abbrev s116_9 : List Stp := [⟨none, some 48, .move (.tmp 10)⟩,
  ⟨none, some 49, .move (.tmp 11)⟩,
  ⟨none, some 6, .assign (.tmp 48)⟩,
  ⟨none, some 7, .assign (.tmp 49)⟩,
  ⟨none, some 8, .assign (.const (.bool true))⟩]
abbrev k116 : Sk := .seq (.reg 0 false s116_0) (.seq (.reg 1 false s116_1) (.seq (.reg 2 false s116_2) (.seq (.seq (.reg 3 false s116_3) (.cond (.tmp 33) (.seq (.reg 4 false s116_4) .ret) .skip)) (.seq (.seq (.reg 5 false s116_5) (.cond (.tmp 38) (.seq (.reg 6 false s116_6) .ret) .skip)) (.seq (.seq (.reg 7 false s116_7) (.cond (.tmp 45) (.seq (.reg 8 false s116_8) .ret) .skip)) (.seq (.reg 9 false s116_9) .ret))))))
theorem sk116 : (Try.f116.body.bind (skOf 50)) = some k116 := by kernel_rfl
theorem en116 {ys : Yls} {p0 p1 p2 : X} {S : St} {Q : Va → St → Bool → Prop} (h : ∀ R : St, S.n = R.n → S.h = R.h → R.lo = R.n → @Wp EE 116 ys false k116 [.x p0, .x p1, .x p2, .u, .u, .u, .u, .u, .u, .u, .u, .u, .u, .u, .u, .u, .u, .u, .u, .u, .u, .u, .u, .u, .u, .u, .u, .u, .u, .u, .u, .u, .u, .u, .u, .u, .u, .u, .u, .u, .u, .u, .u, .u, .u, .u, .u, .u, .u, .u] (ext R []) ⟨exitQ EE [.tmp 6, .tmp 7, .tmp 8] S Q⟩) : ∃ r, res EE ys (.f 116) [p0, p1, p2] S = some r ∧ Q r.1 r.2.1 r.2.2 :=
  enter rfl (by kernel_rfl) sk116 (by kernel_rfl) (by kernel_rfl) ⟨rfl, by simp⟩ h

/-! ### function 117: boule/bouleref01.Ranges -/
abbrev s117_0 : List Stp := [⟨none, some 2, .assign (.const (.bool false))⟩]
abbrev s117_1 : List Stp := [⟨none, some 3, .assign (.const (.int .i64 0))⟩]
abbrev s117_2 : List Stp := [⟨none, some 4, .move (.tmp 3)⟩,
  ⟨none, some 5, .move (.tmp 0)⟩,
  ⟨none, some 6, .call ⟨.builtin .len, #[.tmp 5], #[35]⟩⟩,
  ⟨none, some 7, .binOp .lss 3 (.tmp 4) (.tmp 6) 3⟩]
abbrev s117_4 : List Stp := [⟨none, some 10, .move (.tmp 0)⟩,
  ⟨none, some 11, .move (.tmp 3)⟩,
  ⟨none, some 12, .indexAddr 35 (.tmp 10) (.tmp 11)⟩,
  ⟨none, some 13, .load 24 (.tmp 12)⟩,
  ⟨none, some 14, .call ⟨.value (.func 55), #[.tmp 13], #[24]⟩⟩,
  ⟨none, some 15, .unOp .not 4 (.tmp 14)⟩]
abbrev s117_5 : List Stp := [⟨none, some 2, .assign (.const (.bool false))⟩]
abbrev s117_3 : List Stp := [⟨none, some 8, .move (.tmp 3)⟩,
  ⟨none, some 9, .binOp .add 3 (.tmp 8) (.const (.int .i64 1)) 3⟩,
  ⟨none, some 3, .assign (.tmp 9)⟩]
abbrev l117_0 : Sk := .seq (.seq (.reg 2 false s117_2) (.cond (.tmp 7) .skip (.exit 0))) (.seq (.block 1 (.seq (.reg 4 false s117_4) (.cond (.tmp 15) (.seq (.reg 5 false s117_5) .ret) .skip))) (.reg 3 false s117_3))
abbrev s117_6 : List Stp := [⟨none, some 2, .assign (.const (.bool true))⟩]
abbrev k117 : Sk := .seq (.reg 0 false s117_0) (.seq (.seq (.reg 1 false s117_1) (.block 0 (.loop l117_0))) (.seq (.reg 6 false s117_6) .ret))
theorem sk117 : (Try.f117.body.bind (skOf 16)) = some k117 := by kernel_rfl
theorem en117 {ys : Yls} {p0 : X} {S : St} {Q : Va → St → Bool → Prop} (h : ∀ R : St, S.n = R.n → S.h = R.h → R.lo = R.n → @Wp EE 117 ys false k117 [.x p0, .u, .u, .u, .u, .u, .u, .u, .u, .u, .u, .u, .u, .u, .u, .u] (ext R []) ⟨exitQ EE [.tmp 2] S Q⟩) : ∃ r, res EE ys (.f 117) [p0] S = some r ∧ Q r.1 r.2.1 r.2.2 :=
  enter rfl (by kernel_rfl) sk117 (by kernel_rfl) (by kernel_rfl) ⟨rfl, by simp⟩ h

/-! ### function 118: boule/units.fold -/
abbrev s118_0 : List Stp := [⟨none, some 4, .alloc 24⟩,
  ⟨none, some 5, .assign (.const (.int .i64 0))⟩]
abbrev s118_1 : List Stp := [⟨none, some 10, .move (.tmp 0)⟩,
  ⟨none, some 11, .call ⟨.value (.func 93), #[.tmp 10], #[35]⟩⟩,
  ⟨none, some 6, .assign (.tmp 11)⟩]
abbrev s118_2 : List Stp := [⟨none, some 12, .move (.tmp 6)⟩,
  ⟨none, some 13, .binOp .neq 28 (.tmp 12) (.const (.int .i64 0)) 28⟩]
abbrev s118_3 : List Stp := [⟨none, some 14, .build 24 #[]⟩,
  ⟨none, some 15, .move (.tmp 6)⟩,
  ⟨none, none, .store 24 (.tmp 4) (.tmp 14)⟩,
  ⟨none, some 5, .assign (.tmp 15)⟩]
abbrev s118_4 : List Stp := [⟨none, some 16, .move (.tmp 0)⟩,
  ⟨none, some 17, .call ⟨.builtin .len, #[.tmp 16], #[35]⟩⟩,
  ⟨none, some 18, .binOp .eql 3 (.tmp 17) (.const (.int .i64 0)) 3⟩]
abbrev s118_5 : List Stp := [⟨none, some 19, .build 24 #[]⟩,
  ⟨none, none, .store 24 (.tmp 4) (.tmp 19)⟩,
  ⟨none, some 5, .assign (.const (.int .i64 2))⟩]
abbrev s118_6 : List Stp := [⟨none, some 20, .move (.tmp 0)⟩,
  ⟨none, some 21, .indexAddr 35 (.tmp 20) (.const (.int .i64 0))⟩,
  ⟨none, some 22, .load 24 (.tmp 21)⟩,
  ⟨none, some 7, .alloc 24⟩,
  ⟨none, none, .store 24 (.tmp 7) (.tmp 22)⟩]
abbrev s118_7 : List Stp := [⟨none, some 23, .move (.tmp 0)⟩,
  ⟨none, some 24, .slice 35 (.tmp 23) (some (.const (.int .i64 1))) none none⟩,
  ⟨none, some 25, .call ⟨.builtin .len, #[.tmp 24], #[35]⟩⟩,
  ⟨none, some 26, .move (.const (.int .i64 0))⟩]
abbrev s118_8 : List Stp := [⟨none, some 27, .binOp .lss 3 (.tmp 26) (.tmp 25) 3⟩]
abbrev s118_9 : List Stp := [⟨none, some 28, .indexAddr 35 (.tmp 24) (.tmp 26)⟩,
  ⟨none, some 29, .load 24 (.tmp 28)⟩,
  ⟨none, some 9, .alloc 24⟩,
  ⟨none, none, .store 24 (.tmp 9) (.tmp 29)⟩]
abbrev s118_10 : List Stp := [⟨none, some 30, .move (.tmp 1)⟩,
  ⟨none, some 31, .load 24 (.tmp 7)⟩,
  ⟨none, some 32, .load 24 (.tmp 9)⟩,
  ⟨none, some 33, .call ⟨.value (.tmp 30), #[.tmp 31, .tmp 32], #[24, 24]⟩⟩,
  ⟨none, none, .store 24 (.tmp 7) (.tmp 33)⟩]
abbrev s118_11 : List Stp := [⟨none, some 34, .binOp .add 3 (.tmp 26) (.const (.int .i64 1)) 3⟩,
  ⟨none, some 26, .move (.tmp 34)⟩]
abbrev l118_0 : Sk := .seq (.reg 8 false s118_8) (.seq (.cond (.tmp 27) .skip (.exit 0)) (.seq (.block 1 (.seq (.reg 9 false s118_9) (.reg 10 false s118_10))) (.reg 11 false s118_11)))
abbrev s118_12 : List Stp := [⟨none, some 35, .fieldAddr 24 (.tmp 7) 0⟩,
  ⟨none, some 36, .load 3 (.tmp 35)⟩,
  ⟨none, some 37, .fieldAddr 24 (.tmp 7) 1⟩,
  ⟨none, some 38, .load 3 (.tmp 37)⟩,
  ⟨none, some 39, .binOp .gtr 3 (.tmp 36) (.tmp 38) 3⟩]
abbrev s118_13 : List Stp := [⟨none, some 40, .build 24 #[]⟩,
  ⟨none, none, .store 24 (.tmp 4) (.tmp 40)⟩,
  ⟨none, some 5, .assign (.const (.int .i64 7))⟩]
abbrev s118_14 : List Stp := [⟨none, some 41, .load 24 (.tmp 7)⟩,
  ⟨none, none, .store 24 (.tmp 4) (.tmp 41)⟩,
  ⟨none, some 5, .assign (.const (.int .i64 0))⟩]
abbrev k118 : Sk := .seq (.reg 0 false s118_0) (.seq (.seq (.reg 1 false s118_1) (.seq (.reg 2 false s118_2) (.cond (.tmp 13) (.seq (.reg 3 false s118_3) .ret) .skip))) (.seq (.seq (.reg 4 false s118_4) (.cond (.tmp 18) (.seq (.reg 5 false s118_5) .ret) .skip)) (.seq (.reg 6 false s118_6) (.seq (.seq (.reg 7 false s118_7) (.block 0 (.loop l118_0))) (.seq (.seq (.reg 12 false s118_12) (.cond (.tmp 39) (.seq (.reg 13 false s118_13) .ret) .skip)) (.seq (.reg 14 false s118_14) .ret))))))
theorem sk118 : (Try.f118.body.bind (skOf 42)) = some k118 := by kernel_rfl
theorem en118 {ys : Yls} {p0 p1 : X} {S : St} {Q : Va → St → Bool → Prop} (h : ∀ R : St, S.n = R.n → S.h = R.h → R.lo = R.n → @Wp EE 118 ys false k118 [.x p0, .x p1, .u, .u, .u, .u, .u, .u, .u, .u, .u, .u, .u, .u, .u, .u, .u, .u, .u, .u, .u, .u, .u, .u, .u, .u, .u, .u, .u, .u, .u, .u, .u, .u, .u, .u, .u, .u, .u, .u, .u, .u] (ext R []) ⟨exitQ EE [.cell 4 24, .tmp 5] S Q⟩) : ∃ r, res EE ys (.f 118) [p0, p1] S = some r ∧ Q r.1 r.2.1 r.2.2 :=
  enter rfl (by kernel_rfl) sk118 (by kernel_rfl) (by kernel_rfl) ⟨rfl, by simp⟩ h

/-! ### function 119: boule/units.Hull$1 -/
abbrev s119_0 : List Stp := [⟨none, some 2, .box 24 (.tmp 0)⟩,
  ⟨none, some 3, .box 24 (.tmp 1)⟩,
  ⟨none, some 4, .alloc 24⟩]
abbrev s119_1 : List Stp := [⟨none, some 5, .fieldAddr 24 (.tmp 2) 0⟩,
  ⟨none, some 6, .load 3 (.tmp 5)⟩,
  ⟨none, some 7, .fieldAddr 24 (.tmp 3) 0⟩,
  ⟨none, some 8, .load 3 (.tmp 7)⟩,
  ⟨none, some 9, .call ⟨.builtin .min, #[.tmp 6, .tmp 8], #[3, 3]⟩⟩,
  ⟨none, some 10, .fieldAddr 24 (.tmp 2) 1⟩,
  ⟨none, some 11, .load 3 (.tmp 10)⟩,
  ⟨none, some 12, .fieldAddr 24 (.tmp 3) 1⟩,
  ⟨none, some 13, .load 3 (.tmp 12)⟩,
  ⟨none, some 14, .call ⟨.builtin .max, #[.tmp 11, .tmp 13], #[3, 3]⟩⟩,
  ⟨none, some 15, .build 24 #[(0, .tmp 9), (1, .tmp 14)]⟩,
  ⟨none, none, .store 24 (.tmp 4) (.tmp 15)⟩]
abbrev k119 : Sk := .seq (.reg 0 false s119_0) (.seq (.reg 1 false s119_1) .ret)
theorem sk119 : (Try.f119.body.bind (skOf 16)) = some k119 := by kernel_rfl
theorem en119 {ys : Yls} {p0 p1 : X} {S : St} {Q : Va → St → Bool → Prop} (h : ∀ R : St, S.n = R.n → S.h = R.h → R.lo = R.n → @Wp EE 119 ys false k119 [.x p0, .x p1, .u, .u, .u, .u, .u, .u, .u, .u, .u, .u, .u, .u, .u, .u] (ext R []) ⟨exitQ EE [.cell 4 24] S Q⟩) : ∃ r, res EE ys (.f 119) [p0, p1] S = some r ∧ Q r.1 r.2.1 r.2.2 :=
  enter rfl (by kernel_rfl) sk119 (by kernel_rfl) (by kernel_rfl) ⟨rfl, by simp⟩ h

/-! ### function 120: boule/finish.balances$1 -/
abbrev s120_0 : List Stp := [⟨none, some 14, .load 128 (.tmp 1)⟩,
  ⟨none, some 15, .call ⟨.builtin .len, #[.tmp 14], #[128]⟩⟩,
  ⟨none, some 16, .move (.const (.int .i64 0))⟩]
abbrev s120_1 : List Stp := [⟨none, some 17, .binOp .lss 3 (.tmp 16) (.tmp 15) 3⟩]
abbrev s120_2 : List Stp := [⟨none, some 18, .move (.tmp 16)⟩,
  ⟨none, some 19, .indexAddr 128 (.tmp 14) (.tmp 16)⟩,
  ⟨none, some 20, .load 131 (.tmp 19)⟩,
  ⟨none, some 4, .alloc 131⟩,
  ⟨none, some 3, .assign (.tmp 18)⟩,
  ⟨none, none, .store 131 (.tmp 4) (.tmp 20)⟩]
abbrev s120_3 : List Stp := [⟨none, some 21, .move (.tmp 3)⟩,
  ⟨none, some 22, .binOp .add 3 (.tmp 21) (.const (.int .i64 1)) 3⟩,
  ⟨none, some 5, .assign (.tmp 22)⟩]
abbrev s120_4 : List Stp := [⟨none, some 23, .move (.tmp 5)⟩,
  ⟨none, some 24, .load 128 (.tmp 1)⟩,
  ⟨none, some 25, .call ⟨.builtin .len, #[.tmp 24], #[128]⟩⟩,
  ⟨none, some 26, .binOp .lss 3 (.tmp 23) (.tmp 25) 3⟩]
abbrev s120_6 : List Stp := [⟨none, some 29, .move (.tmp 5)⟩,
  ⟨none, some 30, .binOp .add 3 (.tmp 29) (.const (.int .i64 1)) 3⟩,
  ⟨none, some 6, .assign (.tmp 30)⟩]
abbrev s120_7 : List Stp := [⟨none, some 31, .move (.tmp 6)⟩,
  ⟨none, some 32, .load 128 (.tmp 1)⟩,
  ⟨none, some 33, .call ⟨.builtin .len, #[.tmp 32], #[128]⟩⟩,
  ⟨none, some 34, .binOp .lss 3 (.tmp 31) (.tmp 33) 3⟩]
abbrev s120_9 : List Stp := [⟨none, some 37, .load 128 (.tmp 1)⟩,
  ⟨none, some 38, .move (.tmp 6)⟩,
  ⟨none, some 39, .binOp .add 3 (.tmp 38) (.const (.int .i64 1)) 3⟩,
  ⟨none, some 40, .slice 128 (.tmp 37) (some (.tmp 39)) none none⟩,
  ⟨none, some 41, .call ⟨.builtin .len, #[.tmp 40], #[128]⟩⟩,
  ⟨none, some 42, .move (.const (.int .i64 0))⟩]
abbrev s120_10 : List Stp := [⟨none, some 43, .binOp .lss 3 (.tmp 42) (.tmp 41) 3⟩]
abbrev s120_11 : List Stp := [⟨none, some 44, .indexAddr 128 (.tmp 40) (.tmp 42)⟩,
  ⟨none, some 45, .load 131 (.tmp 44)⟩,
  ⟨none, some 8, .alloc 131⟩,
  ⟨none, none, .store 131 (.tmp 8) (.tmp 45)⟩]
abbrev s120_12 : List Stp := [⟨none, some 46, .load 128 (.tmp 1)⟩,
  ⟨none, some 47, .move (.tmp 5)⟩,
  ⟨none, some 48, .indexAddr 128 (.tmp 46) (.tmp 47)⟩,
  ⟨none, some 49, .load 131 (.tmp 48)⟩,
  ⟨none, some 50, .load 128 (.tmp 1)⟩,
  ⟨none, some 51, .move (.tmp 6)⟩,
  ⟨none, some 52, .indexAddr 128 (.tmp 50) (.tmp 51)⟩,
  ⟨none, some 53, .load 131 (.tmp 52)⟩,
  ⟨none, some 9, .alloc 131⟩,
  ⟨none, some 10, .alloc 131⟩,
  ⟨none, none, .store 131 (.tmp 9) (.tmp 49)⟩,
  ⟨none, none, .store 131 (.tmp 10) (.tmp 53)⟩]
abbrev s120_13 : List Stp := [⟨none, some 54, .load 131 (.tmp 4)⟩,
  ⟨none, some 55, .load 131 (.tmp 9)⟩,
  ⟨none, some 56, .load 131 (.tmp 10)⟩,
  ⟨none, some 57, .load 131 (.tmp 8)⟩,
  ⟨none, some 58, .build 132 #[(0, .tmp 54), (1, .tmp 55), (2, .tmp 56), (3, .tmp 57)]⟩,
  ⟨none, some 59, .load 131 (.tmp 9)⟩,
  ⟨none, some 60, .load 131 (.tmp 10)⟩,
  ⟨none, some 61, .load 131 (.tmp 8)⟩,
  ⟨none, some 62, .call ⟨.value (.func 121), #[.tmp 59, .tmp 60, .tmp 61], #[131, 131, 131]⟩⟩,
  ⟨none, some 63, .load 131 (.tmp 4)⟩,
  ⟨none, some 64, .load 131 (.tmp 10)⟩,
  ⟨none, some 65, .load 131 (.tmp 8)⟩,
  ⟨none, some 66, .call ⟨.value (.func 121), #[.tmp 63, .tmp 64, .tmp 65], #[131, 131, 131]⟩⟩,
  ⟨none, some 67, .unOp .neg 3 (.tmp 66)⟩,
  ⟨none, some 68, .load 131 (.tmp 4)⟩,
  ⟨none, some 69, .load 131 (.tmp 9)⟩,
  ⟨none, some 70, .load 131 (.tmp 8)⟩,
  ⟨none, some 71, .call ⟨.value (.func 121), #[.tmp 68, .tmp 69, .tmp 70], #[131, 131, 131]⟩⟩,
  ⟨none, some 72, .load 131 (.tmp 4)⟩,
  ⟨none, some 73, .load 131 (.tmp 9)⟩,
  ⟨none, some 74, .load 131 (.tmp 10)⟩,
  ⟨none, some 75, .call ⟨.value (.func 121), #[.tmp 72, .tmp 73, .tmp 74], #[131, 131, 131]⟩⟩,
  ⟨none, some 76, .unOp .neg 3 (.tmp 75)⟩,
  ⟨none, some 77, .build 133 #[(0, .tmp 62), (1, .tmp 67), (2, .tmp 71), (3, .tmp 76)]⟩,
  ⟨none, some 78, .build 135 #[(0, .tmp 58), (1, .tmp 77)]⟩,
  ⟨none, some 11, .alloc 135⟩,
  ⟨none, none, .store 135 (.tmp 11) (.tmp 78)⟩]
abbrev s120_14 : List Stp := [⟨none, some 79, .fieldAddr 135 (.tmp 11) 1⟩,
  ⟨none, some 80, .load 133 (.tmp 79)⟩,
  ⟨none, some 81, .move (.const (.int .i64 0))⟩]
abbrev s120_15 : List Stp := [⟨none, some 82, .binOp .lss 3 (.tmp 81) (.const (.int .i64 4)) 3⟩]
abbrev s120_16 : List Stp := [⟨none, some 83, .index 133 (.tmp 80) (.tmp 81)⟩,
  ⟨none, some 13, .assign (.tmp 83)⟩]
abbrev s120_17 : List Stp := [⟨none, some 84, .fieldAddr 135 (.tmp 11) 2⟩,
  ⟨none, some 85, .load 3 (.tmp 84)⟩,
  ⟨none, some 86, .move (.tmp 13)⟩,
  ⟨none, some 87, .move (.tmp 13)⟩,
  ⟨none, some 88, .unOp .neg 3 (.tmp 87)⟩,
  ⟨none, some 89, .call ⟨.builtin .max, #[.tmp 86, .tmp 88], #[3, 3]⟩⟩,
  ⟨none, some 90, .binOp .add 3 (.tmp 85) (.tmp 89) 3⟩,
  ⟨none, some 91, .fieldAddr 135 (.tmp 11) 2⟩,
  ⟨none, none, .store 3 (.tmp 91) (.tmp 90)⟩]
abbrev s120_18 : List Stp := [⟨none, some 92, .binOp .add 3 (.tmp 81) (.const (.int .i64 1)) 3⟩,
  ⟨none, some 81, .move (.tmp 92)⟩]
abbrev l120_0 : Sk := .seq (.reg 15 false s120_15) (.seq (.cond (.tmp 82) .skip (.exit 8)) (.seq (.block 9 (.seq (.reg 16 false s120_16) (.reg 17 false s120_17))) (.reg 18 false s120_18)))
abbrev s120_19 : List Stp := [⟨none, some 93, .fieldAddr 135 (.tmp 11) 2⟩,
  ⟨none, some 94, .load 3 (.tmp 93)⟩,
  ⟨none, some 95, .binOp .gtr 3 (.tmp 94) (.const (.int .i64 0)) 3⟩,
  ⟨none, some 96, .move (.tmp 95)⟩,
  ⟨some (96, true), some 97, .move (.tmp 0)⟩,
  ⟨some (96, true), some 98, .load 135 (.tmp 11)⟩,
  ⟨some (96, true), some 99, .call ⟨.value (.tmp 97), #[.tmp 98], #[135]⟩⟩,
  ⟨some (96, true), some 100, .unOp .not 4 (.tmp 99)⟩,
  ⟨none, some 101, .pick (.tmp 96) (.tmp 100) (.const (.bool false))⟩]
abbrev s120_20 : List Stp := [⟨none, some 102, .binOp .add 3 (.tmp 42) (.const (.int .i64 1)) 3⟩,
  ⟨none, some 42, .move (.tmp 102)⟩]
abbrev l120_1 : Sk := .seq (.reg 10 false s120_10) (.seq (.cond (.tmp 43) .skip (.exit 6)) (.seq (.block 7 (.seq (.reg 11 false s120_11) (.seq (.reg 12 true s120_12) (.seq (.reg 13 true s120_13) (.seq (.seq (.reg 14 false s120_14) (.block 8 (.loop l120_0))) (.seq (.reg 19 false s120_19) (.cond (.tmp 101) .ret .skip))))))) (.reg 20 false s120_20)))
abbrev s120_8 : List Stp := [⟨none, some 35, .move (.tmp 6)⟩,
  ⟨none, some 36, .binOp .add 3 (.tmp 35) (.const (.int .i64 1)) 3⟩,
  ⟨none, some 6, .assign (.tmp 36)⟩]
abbrev l120_2 : Sk := .seq (.seq (.reg 7 false s120_7) (.cond (.tmp 34) .skip (.exit 4))) (.seq (.block 5 (.seq (.reg 9 false s120_9) (.block 6 (.loop l120_1)))) (.reg 8 false s120_8))
abbrev s120_5 : List Stp := [⟨none, some 27, .move (.tmp 5)⟩,
  ⟨none, some 28, .binOp .add 3 (.tmp 27) (.const (.int .i64 1)) 3⟩,
  ⟨none, some 5, .assign (.tmp 28)⟩]
abbrev l120_3 : Sk := .seq (.seq (.reg 4 false s120_4) (.cond (.tmp 26) .skip (.exit 2))) (.seq (.block 3 (.seq (.reg 6 false s120_6) (.block 4 (.loop l120_2)))) (.reg 5 false s120_5))
abbrev s120_21 : List Stp := [⟨none, some 103, .binOp .add 3 (.tmp 16) (.const (.int .i64 1)) 3⟩,
  ⟨none, some 16, .move (.tmp 103)⟩]
abbrev l120_4 : Sk := .seq (.reg 1 false s120_1) (.seq (.cond (.tmp 17) .skip (.exit 0)) (.seq (.block 1 (.seq (.reg 2 false s120_2) (.seq (.reg 3 false s120_3) (.block 2 (.loop l120_3))))) (.reg 21 false s120_21)))
abbrev k120 : Sk := .seq (.reg 0 false s120_0) (.block 0 (.loop l120_4))
theorem sk120 : (Try.f120.body.bind (skOf 104)) = some k120 := by kernel_rfl
theorem en120 {ys : Yls} {p0 p1 : X} {S : St} {Q : Va → St → Bool → Prop} (h : ∀ R : St, S.n = R.n → S.h = R.h → R.lo = R.n → @Wp EE 120 ys false k120 [.x p0, .x p1, .u, .u, .u, .u, .u, .u, .u, .u, .u, .u, .u, .u, .u, .u, .u, .u, .u, .u, .u, .u, .u, .u, .u, .u, .u, .u, .u, .u, .u, .u, .u, .u, .u, .u, .u, .u, .u, .u, .u, .u, .u, .u, .u, .u, .u, .u, .u, .u, .u, .u, .u, .u, .u, .u, .u, .u, .u, .u, .u, .u, .u, .u, .u, .u, .u, .u, .u, .u, .u, .u, .u, .u, .u, .u, .u, .u, .u, .u, .u, .u, .u, .u, .u, .u, .u, .u, .u, .u, .u, .u, .u, .u, .u, .u, .u, .u, .u, .u, .u, .u, .u, .u] (ext R []) ⟨exitQ EE [] S Q⟩) : ∃ r, res EE ys (.f 120) [p0, p1] S = some r ∧ Q r.1 r.2.1 r.2.2 :=
  enter rfl (by kernel_rfl) sk120 (by kernel_rfl) (by kernel_rfl) ⟨rfl, by simp⟩ h

/-! ### function 121: boule/finish.cross -/
abbrev s121_0 : List Stp := [⟨none, some 3, .box 131 (.tmp 0)⟩,
  ⟨none, some 4, .box 131 (.tmp 1)⟩,
  ⟨none, some 5, .box 131 (.tmp 2)⟩,
  ⟨none, some 6, .assign (.const (.int .i64 0))⟩]
abbrev s121_1 : List Stp := [⟨none, some 12, .load 131 (.tmp 4)⟩,
  ⟨none, some 13, .load 131 (.tmp 3)⟩,
  ⟨none, some 14, .call ⟨.value (.func 123), #[.tmp 12, .tmp 13], #[131, 131]⟩⟩,
  ⟨none, some 11, .move (.tmp 14)⟩,
  ⟨none, some 15, .extract (.tmp 11) 0⟩,
  ⟨none, some 16, .extract (.tmp 11) 1⟩,
  ⟨none, some 7, .assign (.tmp 15)⟩,
  ⟨none, some 8, .assign (.tmp 16)⟩]
abbrev s121_2 : List Stp := [⟨none, some 18, .load 131 (.tmp 5)⟩,
  ⟨none, some 19, .load 131 (.tmp 3)⟩,
  ⟨none, some 20, .call ⟨.value (.func 123), #[.tmp 18, .tmp 19], #[131, 131]⟩⟩,
  ⟨none, some 17, .move (.tmp 20)⟩,
  ⟨none, some 21, .extract (.tmp 17) 0⟩,
  ⟨none, some 22, .extract (.tmp 17) 1⟩,
  ⟨none, some 9, .assign (.tmp 21)⟩,
  ⟨none, some 10, .assign (.tmp 22)⟩]
abbrev s121_3 : List Stp := [⟨none, some 23, .move (.tmp 7)⟩,
  ⟨none, some 24, .move (.tmp 10)⟩,
  ⟨none, some 25, .binOp .mul 3 (.tmp 23) (.tmp 24) 3⟩,
  ⟨none, some 26, .move (.tmp 9)⟩,
  ⟨none, some 27, .move (.tmp 8)⟩,
  ⟨none, some 28, .binOp .mul 3 (.tmp 26) (.tmp 27) 3⟩,
  ⟨none, some 29, .binOp .sub 3 (.tmp 25) (.tmp 28) 3⟩,
  ⟨none, some 6, .assign (.tmp 29)⟩]
abbrev k121 : Sk := .seq (.reg 0 false s121_0) (.seq (.reg 1 false s121_1) (.seq (.reg 2 false s121_2) (.seq (.reg 3 false s121_3) .ret)))
theorem sk121 : (Try.f121.body.bind (skOf 30)) = some k121 := by kernel_rfl
theorem en121 {ys : Yls} {p0 p1 p2 : X} {S : St} {Q : Va → St → Bool → Prop} (h : ∀ R : St, S.n = R.n → S.h = R.h → R.lo = R.n → @Wp EE 121 ys false k121 [.x p0, .x p1, .x p2, .u, .u, .u, .u, .u, .u, .u, .u, .u, .u, .u, .u, .u, .u, .u, .u, .u, .u, .u, .u, .u, .u, .u, .u, .u, .u, .u] (ext R []) ⟨exitQ EE [.tmp 6] S Q⟩) : ∃ r, res EE ys (.f 121) [p0, p1, p2] S = some r ∧ Q r.1 r.2.1 r.2.2 :=
  enter rfl (by kernel_rfl) sk121 (by kernel_rfl) (by kernel_rfl) ⟨rfl, by simp⟩ h

/-! ### function 122: boule/units.Simplest -/
abbrev s122_0 : List Stp := [⟨none, some 2, .box 49 (.tmp 0)⟩,
  ⟨none, some 3, .box 49 (.tmp 1)⟩,
  ⟨none, some 4, .alloc 49⟩,
  ⟨none, some 5, .assign (.const (.int .i64 0))⟩]
abbrev s122_1 : List Stp := [⟨none, some 8, .load 49 (.tmp 2)⟩,
  ⟨none, some 9, .load 49 (.tmp 3)⟩,
  ⟨none, some 6, .alloc 159⟩,
  ⟨none, some 7, .alloc 159⟩,
  ⟨none, none, .store 159 (.tmp 6) (.tmp 8)⟩,
  ⟨none, none, .store 159 (.tmp 7) (.tmp 9)⟩]
abbrev s122_2 : List Stp := [⟨none, some 10, .load 159 (.tmp 6)⟩,
  ⟨none, some 11, .call ⟨.value (.func 82), #[.tmp 10], #[159]⟩⟩,
  ⟨none, some 12, .unOp .not 4 (.tmp 11)⟩,
  ⟨none, some 13, .move (.tmp 12)⟩,
  ⟨some (13, false), some 14, .load 159 (.tmp 7)⟩,
  ⟨some (13, false), some 15, .call ⟨.value (.func 82), #[.tmp 14], #[159]⟩⟩,
  ⟨some (13, false), some 16, .unOp .not 4 (.tmp 15)⟩,
  ⟨none, some 17, .pick (.tmp 13) (.const (.bool true)) (.tmp 16)⟩,
  ⟨none, some 18, .move (.tmp 17)⟩,
  ⟨some (18, false), some 19, .load 159 (.tmp 6)⟩,
  ⟨some (18, false), some 20, .load 159 (.tmp 7)⟩,
  ⟨some (18, false), some 21, .call ⟨.value (.func 83), #[.tmp 19, .tmp 20], #[159, 159]⟩⟩,
  ⟨some (18, false), some 22, .binOp .gtr 3 (.tmp 21) (.const (.int .i64 0)) 3⟩,
  ⟨none, some 23, .pick (.tmp 18) (.const (.bool true)) (.tmp 22)⟩]
abbrev s122_3 : List Stp := [⟨none, some 24, .build 49 #[]⟩,
  ⟨none, none, .store 49 (.tmp 4) (.tmp 24)⟩,
  ⟨none, some 5, .assign (.const (.int .i64 2))⟩]
abbrev s122_4 : List Stp := [⟨none, some 25, .load 159 (.tmp 6)⟩,
  ⟨none, some 26, .load 159 (.tmp 7)⟩,
  ⟨none, some 27, .call ⟨.value (.func 127), #[.tmp 25, .tmp 26], #[159, 159]⟩⟩,
  ⟨none, none, .store 49 (.tmp 4) (.tmp 27)⟩,
  ⟨none, some 5, .assign (.const (.int .i64 0))⟩]
abbrev k122 : Sk := .seq (.reg 0 false s122_0) (.seq (.reg 1 true s122_1) (.seq (.seq (.reg 2 false s122_2) (.cond (.tmp 23) (.seq (.reg 3 false s122_3) .ret) .skip)) (.seq (.reg 4 false s122_4) .ret)))
theorem sk122 : (Try.f122.body.bind (skOf 28)) = some k122 := by kernel_rfl
theorem en122 {ys : Yls} {p0 p1 : X} {S : St} {Q : Va → St → Bool → Prop} (h : ∀ R : St, S.n = R.n → S.h = R.h → R.lo = R.n → @Wp EE 122 ys false k122 [.x p0, .x p1, .u, .u, .u, .u, .u, .u, .u, .u, .u, .u, .u, .u, .u, .u, .u, .u, .u, .u, .u, .u, .u, .u, .u, .u, .u, .u] (ext R []) ⟨exitQ EE [.cell 4 49, .tmp 5] S Q⟩) : ∃ r, res EE ys (.f 122) [p0, p1] S = some r ∧ Q r.1 r.2.1 r.2.2 :=
  enter rfl (by kernel_rfl) sk122 (by kernel_rfl) (by kernel_rfl) ⟨rfl, by simp⟩ h

/-! ### function 123: (boule/finish.point).minus -/
abbrev s123_0 : List Stp := [⟨none, some 2, .box 131 (.tmp 0)⟩,
  ⟨none, some 3, .box 131 (.tmp 1)⟩,
  ⟨none, some 4, .assign (.const (.int .i64 0))⟩,
  ⟨none, some 5, .assign (.const (.int .i64 0))⟩]
abbrev s123_1 : List Stp := [⟨none, some 6, .fieldAddr 131 (.tmp 2) 1⟩,
  ⟨none, some 7, .load 3 (.tmp 6)⟩,
  ⟨none, some 8, .fieldAddr 131 (.tmp 3) 1⟩,
  ⟨none, some 9, .load 3 (.tmp 8)⟩,
  ⟨none, some 10, .binOp .sub 3 (.tmp 7) (.tmp 9) 3⟩,
  ⟨none, some 11, .fieldAddr 131 (.tmp 2) 2⟩,
  ⟨none, some 12, .load 3 (.tmp 11)⟩,
  ⟨none, some 13, .fieldAddr 131 (.tmp 3) 2⟩,
  ⟨none, some 14, .load 3 (.tmp 13)⟩,
  ⟨none, some 15, .binOp .sub 3 (.tmp 12) (.tmp 14) 3⟩,
  ⟨none, some 4, .assign (.tmp 10)⟩,
  ⟨none, some 5, .assign (.tmp 15)⟩]
abbrev k123 : Sk := .seq (.reg 0 false s123_0) (.seq (.reg 1 true s123_1) .ret)
theorem sk123 : (Try.f123.body.bind (skOf 16)) = some k123 := by kernel_rfl
theorem en123 {ys : Yls} {p0 p1 : X} {S : St} {Q : Va → St → Bool → Prop} (h : ∀ R : St, S.n = R.n → S.h = R.h → R.lo = R.n → @Wp EE 123 ys false k123 [.x p0, .x p1, .u, .u, .u, .u, .u, .u, .u, .u, .u, .u, .u, .u, .u, .u] (ext R []) ⟨exitQ EE [.tmp 4, .tmp 5] S Q⟩) : ∃ r, res EE ys (.f 123) [p0, p1] S = some r ∧ Q r.1 r.2.1 r.2.2 :=
  enter rfl (by kernel_rfl) sk123 (by kernel_rfl) (by kernel_rfl) ⟨rfl, by simp⟩ h

/-! ### function 125: math/bits.LeadingZeros64 -/
abbrev s125_0 : List Stp := [⟨none, some 2, .assign (.const (.int .i64 0))⟩]
abbrev s125_1 : List Stp := [⟨none, some 3, .move (.tmp 0)⟩,
  ⟨none, some 4, .call ⟨.value (.func 128), #[.tmp 3], #[163]⟩⟩,
  ⟨none, some 5, .binOp .sub 3 (.const (.int .i64 64)) (.tmp 4) 3⟩,
  ⟨none, some 2, .assign (.tmp 5)⟩]
abbrev k125 : Sk := .seq (.reg 0 false s125_0) (.seq (.reg 1 false s125_1) .ret)
theorem sk125 : (Try.f125.body.bind (skOf 6)) = some k125 := by kernel_rfl
theorem en125 {ys : Yls} {p0 : X} {S : St} {Q : Va → St → Bool → Prop} (h : ∀ R : St, S.n = R.n → S.h = R.h → R.lo = R.n → @Wp EE 125 ys false k125 [.x p0, .u, .u, .u, .u, .u] (ext R []) ⟨exitQ EE [.tmp 2] S Q⟩) : ∃ r, res EE ys (.f 125) [p0] S = some r ∧ Q r.1 r.2.1 r.2.2 :=
  enter rfl (by kernel_rfl) sk125 (by kernel_rfl) (by kernel_rfl) ⟨rfl, by simp⟩ h

/-! ### function 126: boule/bouleref01.quotient -/
abbrev s126_0 : List Stp := [⟨none, some 6, .assign (.const (.int .i64 0))⟩,
  ⟨none, some 7, .assign (.const (.int .i64 0))⟩,
  ⟨none, some 8, .assign (.const (.bool false))⟩]
abbrev s126_1 : List Stp := [⟨none, some 9, .assign (.const (.int .i64 0))⟩,
  ⟨none, some 10, .assign (.const (.int .i64 0))⟩]
abbrev s126_2 : List Stp := [⟨none, some 11, .assign (.const (.int .i64 49))⟩]
abbrev s126_3 : List Stp := [⟨none, some 12, .move (.tmp 11)⟩,
  ⟨none, some 13, .binOp .geq 3 (.tmp 12) (.const (.int .i64 0)) 3⟩]
abbrev s126_5 : List Stp := [⟨none, some 16, .move (.tmp 9)⟩,
  ⟨none, some 17, .binOp .mul 3 (.const (.int .i64 2)) (.tmp 16) 3⟩,
  ⟨none, some 18, .move (.tmp 10)⟩,
  ⟨none, some 19, .binOp .mul 3 (.const (.int .i64 2)) (.tmp 18) 3⟩,
  ⟨none, some 9, .assign (.tmp 17)⟩,
  ⟨none, some 10, .assign (.tmp 19)⟩]
abbrev s126_6 : List Stp := [⟨none, some 20, .move (.tmp 0)⟩,
  ⟨none, some 21, .move (.tmp 11)⟩,
  ⟨none, some 22, .convert 3 207 (.tmp 21)⟩,
  ⟨none, some 23, .binOp .shr 3 (.tmp 20) (.tmp 22) 207⟩,
  ⟨none, some 24, .binOp .and 3 (.tmp 23) (.const (.int .i64 1)) 3⟩,
  ⟨none, some 25, .binOp .eql 3 (.tmp 24) (.const (.int .i64 1)) 3⟩]
abbrev s126_7 : List Stp := [⟨none, some 26, .move (.tmp 9)⟩,
  ⟨none, some 27, .move (.tmp 1)⟩,
  ⟨none, some 28, .move (.tmp 2)⟩,
  ⟨none, some 29, .binOp .quo 3 (.tmp 27) (.tmp 28) 3⟩,
  ⟨none, some 30, .binOp .add 3 (.tmp 26) (.tmp 29) 3⟩,
  ⟨none, some 31, .move (.tmp 10)⟩,
  ⟨none, some 32, .move (.tmp 1)⟩,
  ⟨none, some 33, .move (.tmp 2)⟩,
  ⟨none, some 34, .binOp .rem 3 (.tmp 32) (.tmp 33) 3⟩,
  ⟨none, some 35, .binOp .add 3 (.tmp 31) (.tmp 34) 3⟩,
  ⟨none, some 9, .assign (.tmp 30)⟩,
  ⟨none, some 10, .assign (.tmp 35)⟩]
abbrev s126_8 : List Stp := [⟨none, some 36, .move (.tmp 10)⟩,
  ⟨none, some 37, .move (.tmp 2)⟩,
  ⟨none, some 38, .binOp .geq 3 (.tmp 36) (.tmp 37) 3⟩]
abbrev s126_9 : List Stp := [⟨none, some 39, .move (.tmp 9)⟩,
  ⟨none, some 40, .binOp .add 3 (.tmp 39) (.const (.int .i64 1)) 3⟩,
  ⟨none, some 41, .move (.tmp 10)⟩,
  ⟨none, some 42, .move (.tmp 2)⟩,
  ⟨none, some 43, .binOp .sub 3 (.tmp 41) (.tmp 42) 3⟩,
  ⟨none, some 9, .assign (.tmp 40)⟩,
  ⟨none, some 10, .assign (.tmp 43)⟩]
abbrev l126_0 : Sk := .seq (.seq (.reg 8 false s126_8) (.cond (.tmp 38) .skip (.exit 2))) (.block 3 (.reg 9 false s126_9))
abbrev s126_10 : List Stp := [⟨none, some 44, .move (.tmp 9)⟩,
  ⟨none, some 45, .binOp .gtr 3 (.tmp 44) (.const (.int .i64 2000000000000000)) 3⟩]
abbrev s126_11 : List Stp := [⟨none, some 6, .assign (.const (.int .i64 0))⟩,
  ⟨none, some 7, .assign (.const (.int .i64 0))⟩,
  ⟨none, some 8, .assign (.const (.bool false))⟩]
abbrev s126_4 : List Stp := [⟨none, some 14, .move (.tmp 11)⟩,
  ⟨none, some 15, .binOp .sub 3 (.tmp 14) (.const (.int .i64 1)) 3⟩,
  ⟨none, some 11, .assign (.tmp 15)⟩]
abbrev l126_1 : Sk := .seq (.seq (.reg 3 false s126_3) (.cond (.tmp 13) .skip (.exit 0))) (.seq (.block 1 (.seq (.reg 5 false s126_5) (.seq (.seq (.reg 6 false s126_6) (.cond (.tmp 25) (.reg 7 true s126_7) .skip)) (.seq (.block 2 (.loop l126_0)) (.seq (.reg 10 false s126_10) (.cond (.tmp 45) (.seq (.reg 11 false s126_11) .ret) .skip)))))) (.reg 4 false s126_4))
abbrev s126_12 : List Stp := [⟨none, some 46, .move (.tmp 9)⟩,
  ⟨none, some 47, .move (.tmp 10)⟩,
  ⟨none, some 6, .assign (.tmp 46)⟩,
  ⟨none, some 7, .assign (.tmp 47)⟩,
  ⟨none, some 8, .assign (.const (.bool true))⟩]
abbrev k126 : Sk := .seq (.reg 0 false s126_0) (.seq (.reg 1 false s126_1) (.seq (.seq (.reg 2 false s126_2) (.block 0 (.loop l126_1))) (.seq (.reg 12 false s126_12) .ret)))
theorem sk126 : (Try.f126.body.bind (skOf 48)) = some k126 := by kernel_rfl
theorem en126 {ys : Yls} {p0 p1 p2 : X} {S : St} {Q : Va → St → Bool → Prop} (h : ∀ R : St, S.n = R.n → S.h = R.h → R.lo = R.n → @Wp EE 126 ys false k126 [.x p0, .x p1, .x p2, .u, .u, .u, .u, .u, .u, .u, .u, .u, .u, .u, .u, .u, .u, .u, .u, .u, .u, .u, .u, .u, .u, .u, .u, .u, .u, .u, .u, .u, .u, .u, .u, .u, .u, .u, .u, .u, .u, .u, .u, .u, .u, .u, .u, .u] (ext R []) ⟨exitQ EE [.tmp 6, .tmp 7, .tmp 8] S Q⟩) : ∃ r, res EE ys (.f 126) [p0, p1, p2] S = some r ∧ Q r.1 r.2.1 r.2.2 :=
  enter rfl (by kernel_rfl) sk126 (by kernel_rfl) (by kernel_rfl) ⟨rfl, by simp⟩ h

/-! ### function 127: boule/units.simplest -/
abbrev s127_0 : List Stp := [⟨none, some 2, .box 159 (.tmp 0)⟩,
  ⟨none, some 3, .box 159 (.tmp 1)⟩,
  ⟨none, some 4, .alloc 159⟩]
abbrev s127_1 : List Stp := [⟨none, some 13, .load 159 (.tmp 2)⟩,
  ⟨none, some 14, .call ⟨.value (.func 129), #[.tmp 13], #[159]⟩⟩,
  ⟨none, some 12, .move (.tmp 14)⟩,
  ⟨none, some 15, .extract (.tmp 12) 0⟩,
  ⟨none, some 16, .extract (.tmp 12) 1⟩,
  ⟨none, some 6, .alloc 159⟩,
  ⟨none, some 5, .assign (.tmp 15)⟩,
  ⟨none, none, .store 159 (.tmp 6) (.tmp 16)⟩]
abbrev s127_2 : List Stp := [⟨none, some 17, .fieldAddr 159 (.tmp 6) 0⟩,
  ⟨none, some 18, .load 3 (.tmp 17)⟩,
  ⟨none, some 19, .binOp .eql 3 (.tmp 18) (.const (.int .i64 0)) 3⟩]
abbrev s127_3 : List Stp := [⟨none, some 20, .move (.tmp 5)⟩,
  ⟨none, some 21, .build 159 #[(0, .tmp 20), (1, .const (.int .i64 1))]⟩,
  ⟨none, none, .store 159 (.tmp 4) (.tmp 21)⟩]
abbrev s127_4 : List Stp := [⟨none, some 23, .load 159 (.tmp 3)⟩,
  ⟨none, some 24, .call ⟨.value (.func 129), #[.tmp 23], #[159]⟩⟩,
  ⟨none, some 22, .move (.tmp 24)⟩,
  ⟨none, some 25, .extract (.tmp 22) 0⟩,
  ⟨none, some 26, .extract (.tmp 22) 1⟩,
  ⟨none, some 8, .alloc 159⟩,
  ⟨none, some 7, .assign (.tmp 25)⟩,
  ⟨none, none, .store 159 (.tmp 8) (.tmp 26)⟩]
abbrev s127_5 : List Stp := [⟨none, some 27, .move (.tmp 7)⟩,
  ⟨none, some 28, .move (.tmp 5)⟩,
  ⟨none, some 29, .binOp .gtr 3 (.tmp 27) (.tmp 28) 3⟩]
abbrev s127_6 : List Stp := [⟨none, some 30, .move (.tmp 5)⟩,
  ⟨none, some 31, .binOp .add 3 (.tmp 30) (.const (.int .i64 1)) 3⟩,
  ⟨none, some 32, .build 159 #[(0, .tmp 31), (1, .const (.int .i64 1))]⟩,
  ⟨none, none, .store 159 (.tmp 4) (.tmp 32)⟩]
abbrev s127_7 : List Stp := [⟨none, some 34, .load 159 (.tmp 3)⟩,
  ⟨none, some 35, .call ⟨.value (.func 129), #[.tmp 34], #[159]⟩⟩,
  ⟨none, some 33, .move (.tmp 35)⟩,
  ⟨none, some 36, .extract (.tmp 33) 0⟩,
  ⟨none, some 37, .extract (.tmp 33) 1⟩,
  ⟨none, some 10, .alloc 159⟩,
  ⟨none, some 9, .assign (.tmp 36)⟩,
  ⟨none, none, .store 159 (.tmp 10) (.tmp 37)⟩]
abbrev s127_8 : List Stp := [⟨none, some 38, .fieldAddr 159 (.tmp 10) 1⟩,
  ⟨none, some 39, .load 3 (.tmp 38)⟩,
  ⟨none, some 40, .fieldAddr 159 (.tmp 10) 0⟩,
  ⟨none, some 41, .load 3 (.tmp 40)⟩,
  ⟨none, some 42, .build 159 #[(0, .tmp 39), (1, .tmp 41)]⟩,
  ⟨none, some 43, .fieldAddr 159 (.tmp 6) 1⟩,
  ⟨none, some 44, .load 3 (.tmp 43)⟩,
  ⟨none, some 45, .fieldAddr 159 (.tmp 6) 0⟩,
  ⟨none, some 46, .load 3 (.tmp 45)⟩,
  ⟨none, some 47, .build 159 #[(0, .tmp 44), (1, .tmp 46)]⟩,
  ⟨none, some 48, .call ⟨.value (.func 127), #[.tmp 42, .tmp 47], #[159, 159]⟩⟩,
  ⟨none, some 11, .alloc 159⟩,
  ⟨none, none, .store 159 (.tmp 11) (.tmp 48)⟩]
abbrev s127_9 : List Stp := [⟨none, some 49, .move (.tmp 5)⟩,
  ⟨none, some 50, .fieldAddr 159 (.tmp 11) 0⟩,
  ⟨none, some 51, .load 3 (.tmp 50)⟩,
  ⟨none, some 52, .binOp .mul 3 (.tmp 49) (.tmp 51) 3⟩,
  ⟨none, some 53, .fieldAddr 159 (.tmp 11) 1⟩,
  ⟨none, some 54, .load 3 (.tmp 53)⟩,
  ⟨none, some 55, .binOp .add 3 (.tmp 52) (.tmp 54) 3⟩,
  ⟨none, some 56, .fieldAddr 159 (.tmp 11) 0⟩,
  ⟨none, some 57, .load 3 (.tmp 56)⟩,
  ⟨none, some 58, .build 159 #[(0, .tmp 55), (1, .tmp 57)]⟩,
  ⟨none, none, .store 159 (.tmp 4) (.tmp 58)⟩]
abbrev k127 : Sk := .seq (.reg 0 false s127_0) (.seq (.reg 1 false s127_1) (.seq (.seq (.reg 2 false s127_2) (.cond (.tmp 19) (.seq (.reg 3 false s127_3) .ret) .skip)) (.seq (.seq (.reg 4 false s127_4) (.seq (.reg 5 false s127_5) (.cond (.tmp 29) (.seq (.reg 6 false s127_6) .ret) .skip))) (.seq (.reg 7 false s127_7) (.seq (.reg 8 false s127_8) (.seq (.reg 9 false s127_9) .ret))))))
theorem sk127 : (Try.f127.body.bind (skOf 59)) = some k127 := by kernel_rfl
theorem en127 {ys : Yls} {p0 p1 : X} {S : St} {Q : Va → St → Bool → Prop} (h : ∀ R : St, S.n = R.n → S.h = R.h → R.lo = R.n → @Wp EE 127 ys false k127 [.x p0, .x p1, .u, .u, .u, .u, .u, .u, .u, .u, .u, .u, .u, .u, .u, .u, .u, .u, .u, .u, .u, .u, .u, .u, .u, .u, .u, .u, .u, .u, .u, .u, .u, .u, .u, .u, .u, .u, .u, .u, .u, .u, .u, .u, .u, .u, .u, .u, .u, .u, .u, .u, .u, .u, .u, .u, .u, .u, .u] (ext R []) ⟨exitQ EE [.cell 4 159] S Q⟩) : ∃ r, res EE ys (.f 127) [p0, p1] S = some r ∧ Q r.1 r.2.1 r.2.2 :=
  enter rfl (by kernel_rfl) sk127 (by kernel_rfl) (by kernel_rfl) ⟨rfl, by simp⟩ h

/-! ### function 129: (boule/units.frac).split -/
abbrev s129_0 : List Stp := [⟨none, some 1, .box 159 (.tmp 0)⟩,
  ⟨none, some 2, .assign (.const (.int .i64 0))⟩,
  ⟨none, some 3, .alloc 159⟩]
abbrev s129_1 : List Stp := [⟨none, some 6, .fieldAddr 159 (.tmp 1) 0⟩,
  ⟨none, some 7, .load 3 (.tmp 6)⟩,
  ⟨none, some 8, .fieldAddr 159 (.tmp 1) 1⟩,
  ⟨none, some 9, .load 3 (.tmp 8)⟩,
  ⟨none, some 10, .binOp .quo 3 (.tmp 7) (.tmp 9) 3⟩,
  ⟨none, some 11, .fieldAddr 159 (.tmp 1) 0⟩,
  ⟨none, some 12, .load 3 (.tmp 11)⟩,
  ⟨none, some 13, .fieldAddr 159 (.tmp 1) 1⟩,
  ⟨none, some 14, .load 3 (.tmp 13)⟩,
  ⟨none, some 15, .binOp .rem 3 (.tmp 12) (.tmp 14) 3⟩,
  ⟨none, some 4, .assign (.tmp 10)⟩,
  ⟨none, some 5, .assign (.tmp 15)⟩]
abbrev s129_2 : List Stp := [⟨none, some 16, .move (.tmp 5)⟩,
  ⟨none, some 17, .binOp .lss 3 (.tmp 16) (.const (.int .i64 0)) 3⟩]
abbrev s129_3 : List Stp := [⟨none, some 18, .move (.tmp 4)⟩,
  ⟨none, some 19, .binOp .sub 3 (.tmp 18) (.const (.int .i64 1)) 3⟩,
  ⟨none, some 20, .move (.tmp 5)⟩,
  ⟨none, some 21, .fieldAddr 159 (.tmp 1) 1⟩,
  ⟨none, some 22, .load 3 (.tmp 21)⟩,
  ⟨none, some 23, .binOp .add 3 (.tmp 20) (.tmp 22) 3⟩,
  ⟨none, some 4, .assign (.tmp 19)⟩,
  ⟨none, some 5, .assign (.tmp 23)⟩]
abbrev s129_4 : List Stp := [⟨none, some 24, .move (.tmp 4)⟩,
  ⟨none, some 25, .move (.tmp 5)⟩,
  ⟨none, some 26, .fieldAddr 159 (.tmp 1) 1⟩,
  ⟨none, some 27, .load 3 (.tmp 26)⟩,
  ⟨none, some 28, .build 159 #[(0, .tmp 25), (1, .tmp 27)]⟩,
  ⟨none, some 2, .assign (.tmp 24)⟩,
  ⟨none, none, .store 159 (.tmp 3) (.tmp 28)⟩]
abbrev k129 : Sk := .seq (.reg 0 false s129_0) (.seq (.reg 1 true s129_1) (.seq (.seq (.reg 2 false s129_2) (.cond (.tmp 17) (.reg 3 true s129_3) .skip)) (.seq (.reg 4 true s129_4) .ret)))
theorem sk129 : (Try.f129.body.bind (skOf 29)) = some k129 := by kernel_rfl
theorem en129 {ys : Yls} {p0 : X} {S : St} {Q : Va → St → Bool → Prop} (h : ∀ R : St, S.n = R.n → S.h = R.h → R.lo = R.n → @Wp EE 129 ys false k129 [.x p0, .u, .u, .u, .u, .u, .u, .u, .u, .u, .u, .u, .u, .u, .u, .u, .u, .u, .u, .u, .u, .u, .u, .u, .u, .u, .u, .u, .u] (ext R []) ⟨exitQ EE [.tmp 2, .cell 3 159] S Q⟩) : ∃ r, res EE ys (.f 129) [p0] S = some r ∧ Q r.1 r.2.1 r.2.2 :=
  enter rfl (by kernel_rfl) sk129 (by kernel_rfl) (by kernel_rfl) ⟨rfl, by simp⟩ h

end Go.Proofs.Ytemjdhglaljhbaa
