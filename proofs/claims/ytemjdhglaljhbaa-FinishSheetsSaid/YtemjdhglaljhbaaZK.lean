/- The functions' code as steps. Printed by genpieces.py out of the translation. -/
import Derived.Test.YtemjdhglaljhbaaZT
import Derived.KernelRfl
namespace Go.Proofs.Ytemjdhglaljhbaa.Z
open Go.V
set_option maxRecDepth 100000
set_option linter.unusedSimpArgs false

/-! ### function 38: boule/finish.Apart -/
abbrev s38_0 : List Stp := [⟨none, some 3, .box 35 (.tmp 0)⟩,
  ⟨none, some 4, .box 72 (.tmp 1)⟩,
  ⟨none, some 5, .box 72 (.tmp 2)⟩,
  ⟨none, some 6, .alloc 24⟩,
  ⟨none, some 7, .assign (.const (.int .i64 0))⟩]
abbrev s38_1 : List Stp := [⟨none, some 22, .makeFunc (.func 73) #[] #[.tmp 3]⟩,
  ⟨none, some 8, .assign (.tmp 22)⟩]
abbrev s38_2 : List Stp := [⟨none, some 24, .load 35 (.tmp 3)⟩,
  ⟨none, some 25, .call ⟨.builtin .len, #[.tmp 24], #[35]⟩⟩,
  ⟨none, some 26, .binOp .gtr 3 (.tmp 25) (.const (.int .i64 60)) 3⟩,
  ⟨none, some 23, .assign (.tmp 26)⟩]
abbrev s38_3 : List Stp := [⟨none, some 27, .build 24 #[]⟩,
  ⟨none, none, .store 24 (.tmp 6) (.tmp 27)⟩,
  ⟨none, some 7, .assign (.const (.int .i64 5))⟩]
abbrev s38_4 : List Stp := [⟨none, some 29, .call ⟨.value (.func 59), #[], #[]⟩⟩,
  ⟨none, some 30, .load 35 (.tmp 3)⟩,
  ⟨none, some 31, .call ⟨.value (.func 49), #[.tmp 29, .tmp 30], #[116, 35]⟩⟩,
  ⟨none, some 32, .unOp .not 4 (.tmp 31)⟩,
  ⟨none, some 33, .move (.tmp 32)⟩,
  ⟨some (33, false), some 34, .move (.tmp 8)⟩,
  ⟨some (33, false), some 35, .load 72 (.tmp 4)⟩,
  ⟨some (33, false), some 36, .call ⟨.value (.tmp 34), #[.tmp 35], #[72]⟩⟩,
  ⟨none, some 37, .pick (.tmp 33) (.const (.bool true)) (.tmp 36)⟩,
  ⟨none, some 38, .move (.tmp 37)⟩,
  ⟨some (38, false), some 39, .move (.tmp 8)⟩,
  ⟨some (38, false), some 40, .load 72 (.tmp 5)⟩,
  ⟨some (38, false), some 41, .call ⟨.value (.tmp 39), #[.tmp 40], #[72]⟩⟩,
  ⟨none, some 42, .pick (.tmp 38) (.const (.bool true)) (.tmp 41)⟩,
  ⟨none, some 28, .assign (.tmp 42)⟩]
abbrev s38_5 : List Stp := [⟨none, some 43, .build 24 #[]⟩,
  ⟨none, none, .store 24 (.tmp 6) (.tmp 43)⟩,
  ⟨none, some 7, .assign (.const (.int .i64 2))⟩]
abbrev s38_6 : List Stp := [⟨none, some 44, .makeMap 151 none⟩,
  ⟨none, some 9, .assign (.tmp 44)⟩]
abbrev s38_7 : List Stp := [⟨none, some 45, .fieldAddr 72 (.tmp 4) 1⟩,
  ⟨none, some 46, .load 30 (.tmp 45)⟩,
  ⟨none, some 47, .call ⟨.builtin .len, #[.tmp 46], #[30]⟩⟩,
  ⟨none, some 48, .move (.const (.int .i64 0))⟩]
abbrev s38_8 : List Stp := [⟨none, some 49, .binOp .lss 3 (.tmp 48) (.tmp 47) 3⟩]
abbrev s38_9 : List Stp := [⟨none, some 50, .indexAddr 30 (.tmp 46) (.tmp 48)⟩,
  ⟨none, some 51, .load 3 (.tmp 50)⟩,
  ⟨none, some 11, .assign (.tmp 51)⟩]
abbrev s38_10 : List Stp := [⟨none, some 52, .move (.tmp 9)⟩,
  ⟨none, some 53, .move (.tmp 11)⟩,
  ⟨none, none, .mapUpdate 151 (.tmp 52) (.tmp 53) (.const (.bool true))⟩]
abbrev s38_11 : List Stp := [⟨none, some 54, .binOp .add 3 (.tmp 48) (.const (.int .i64 1)) 3⟩,
  ⟨none, some 48, .move (.tmp 54)⟩]
abbrev l38_0 : Sk := .seq (.reg 8 false s38_8) (.seq (.cond (.tmp 49) .skip (.exit 1)) (.seq (.block 2 (.seq (.reg 9 false s38_9) (.reg 10 false s38_10))) (.reg 11 false s38_11)))
abbrev s38_12 : List Stp := [⟨none, some 55, .fieldAddr 72 (.tmp 5) 1⟩,
  ⟨none, some 56, .load 30 (.tmp 55)⟩,
  ⟨none, some 57, .call ⟨.builtin .len, #[.tmp 56], #[30]⟩⟩,
  ⟨none, some 58, .move (.const (.int .i64 0))⟩]
abbrev s38_13 : List Stp := [⟨none, some 59, .binOp .lss 3 (.tmp 58) (.tmp 57) 3⟩]
abbrev s38_14 : List Stp := [⟨none, some 60, .indexAddr 30 (.tmp 56) (.tmp 58)⟩,
  ⟨none, some 61, .load 3 (.tmp 60)⟩,
  ⟨none, some 13, .assign (.tmp 61)⟩]
abbrev s38_15 : List Stp := [⟨none, some 62, .move (.tmp 9)⟩,
  ⟨none, some 63, .move (.tmp 13)⟩,
  ⟨none, some 64, .lookup 151 (.tmp 62) (.tmp 63) false⟩]
abbrev s38_16 : List Stp := [⟨none, some 65, .move (.tmp 9)⟩,
  ⟨none, some 66, .move (.tmp 13)⟩,
  ⟨none, none, .call ⟨.builtin .delete, #[.tmp 65, .tmp 66], #[151, 3]⟩⟩]
abbrev s38_17 : List Stp := [⟨none, some 67, .move (.tmp 9)⟩,
  ⟨none, some 68, .move (.tmp 13)⟩,
  ⟨none, none, .mapUpdate 151 (.tmp 67) (.tmp 68) (.const (.bool false))⟩]
abbrev s38_18 : List Stp := [⟨none, some 69, .binOp .add 3 (.tmp 58) (.const (.int .i64 1)) 3⟩,
  ⟨none, some 58, .move (.tmp 69)⟩]
abbrev l38_1 : Sk := .seq (.reg 13 false s38_13) (.seq (.cond (.tmp 59) .skip (.exit 3)) (.seq (.block 4 (.seq (.reg 14 false s38_14) (.seq (.reg 15 false s38_15) (.cond (.tmp 64) (.reg 16 false s38_16) (.reg 17 false s38_17))))) (.reg 18 false s38_18)))
abbrev s38_19 : List Stp := [⟨none, some 70, .fieldAddr 72 (.tmp 4) 0⟩,
  ⟨none, some 71, .load 24 (.tmp 70)⟩,
  ⟨none, some 72, .buildSlice 35 1 #[(0, .tmp 71)]⟩,
  ⟨none, some 73, .fieldAddr 72 (.tmp 5) 0⟩,
  ⟨none, some 74, .load 24 (.tmp 73)⟩,
  ⟨none, some 75, .buildSlice 35 1 #[(0, .tmp 74)]⟩,
  ⟨none, some 14, .assign (.tmp 72)⟩,
  ⟨none, some 15, .assign (.tmp 75)⟩]
abbrev s38_20 : List Stp := [⟨none, some 76, .move (.tmp 9)⟩,
  ⟨none, some 77, .range 151 (.tmp 76)⟩]
abbrev s38_21 : List Stp := [⟨none, some 78, .next (.tmp 77) false⟩,
  ⟨none, some 79, .extract (.tmp 78) 0⟩]
abbrev s38_22 : List Stp := [⟨none, some 80, .entry (.tmp 77)⟩,
  ⟨none, some 81, .extract (.tmp 80) 0⟩,
  ⟨none, some 82, .extract (.tmp 80) 1⟩,
  ⟨none, some 16, .assign (.tmp 81)⟩,
  ⟨none, some 17, .assign (.tmp 82)⟩]
abbrev s38_23 : List Stp := [⟨none, some 83, .move (.tmp 17)⟩]
abbrev s38_24 : List Stp := [⟨none, some 84, .move (.tmp 15)⟩,
  ⟨none, some 85, .load 35 (.tmp 3)⟩,
  ⟨none, some 86, .move (.tmp 16)⟩,
  ⟨none, some 87, .indexAddr 35 (.tmp 85) (.tmp 86)⟩,
  ⟨none, some 88, .load 24 (.tmp 87)⟩,
  ⟨none, some 89, .buildSlice 35 1 #[(0, .tmp 88)]⟩,
  ⟨none, some 90, .call ⟨.builtin .append, #[.tmp 84, .tmp 89], #[35, 35]⟩⟩,
  ⟨none, some 15, .assign (.tmp 90)⟩]
abbrev s38_25 : List Stp := [⟨none, some 91, .move (.tmp 14)⟩,
  ⟨none, some 92, .load 35 (.tmp 3)⟩,
  ⟨none, some 93, .move (.tmp 16)⟩,
  ⟨none, some 94, .indexAddr 35 (.tmp 92) (.tmp 93)⟩,
  ⟨none, some 95, .load 24 (.tmp 94)⟩,
  ⟨none, some 96, .buildSlice 35 1 #[(0, .tmp 95)]⟩,
  ⟨none, some 97, .call ⟨.builtin .append, #[.tmp 91, .tmp 96], #[35, 35]⟩⟩,
  ⟨none, some 14, .assign (.tmp 97)⟩]
abbrev l38_2 : Sk := .seq (.reg 21 false s38_21) (.seq (.cond (.tmp 79) .skip (.exit 5)) (.block 6 (.seq (.reg 22 false s38_22) (.seq (.reg 23 false s38_23) (.cond (.tmp 83) (.reg 24 false s38_24) (.reg 25 false s38_25))))))
abbrev s38_26 : List Stp := [⟨none, some 99, .move (.tmp 14)⟩,
  ⟨none, some 100, .call ⟨.value (.func 54), #[.tmp 99], #[35]⟩⟩,
  ⟨none, some 98, .move (.tmp 100)⟩,
  ⟨none, some 101, .extract (.tmp 98) 0⟩,
  ⟨none, some 102, .extract (.tmp 98) 1⟩,
  ⟨none, some 18, .alloc 24⟩,
  ⟨none, none, .store 24 (.tmp 18) (.tmp 101)⟩,
  ⟨none, some 19, .assign (.tmp 102)⟩]
abbrev s38_27 : List Stp := [⟨none, some 104, .move (.tmp 15)⟩,
  ⟨none, some 105, .call ⟨.value (.func 54), #[.tmp 104], #[35]⟩⟩,
  ⟨none, some 103, .move (.tmp 105)⟩,
  ⟨none, some 106, .extract (.tmp 103) 0⟩,
  ⟨none, some 107, .extract (.tmp 103) 1⟩,
  ⟨none, some 20, .alloc 24⟩,
  ⟨none, none, .store 24 (.tmp 20) (.tmp 106)⟩,
  ⟨none, some 21, .assign (.tmp 107)⟩]
abbrev s38_28 : List Stp := [⟨none, some 108, .load 24 (.tmp 18)⟩,
  ⟨none, some 109, .load 24 (.tmp 20)⟩,
  ⟨none, some 110, .call ⟨.value (.func 74), #[.tmp 108, .tmp 109], #[24, 24]⟩⟩,
  ⟨none, some 111, .extract (.tmp 110) 0⟩,
  ⟨none, some 112, .extract (.tmp 110) 1⟩,
  ⟨none, none, .store 24 (.tmp 6) (.tmp 111)⟩,
  ⟨none, some 7, .assign (.tmp 112)⟩]
abbrev k38 : Sk := .seq (.reg 0 false s38_0) (.seq (.reg 1 false s38_1) (.seq (.block 0 (.seq (.reg 2 false s38_2) (.cond (.tmp 23) (.seq (.reg 3 false s38_3) .ret) (.seq (.reg 4 true s38_4) (.cond (.tmp 28) (.seq (.reg 5 false s38_5) .ret) .skip))))) (.seq (.reg 6 false s38_6) (.seq (.seq (.reg 7 false s38_7) (.block 1 (.loop l38_0))) (.seq (.seq (.reg 12 false s38_12) (.block 3 (.loop l38_1))) (.seq (.reg 19 true s38_19) (.seq (.seq (.reg 20 false s38_20) (.block 5 (.loop l38_2))) (.seq (.reg 26 false s38_26) (.seq (.reg 27 false s38_27) (.seq (.reg 28 false s38_28) .ret))))))))))
theorem sk38 : (Try.f38.body.bind (skOf 113)) = some k38 := by kernel_rfl

/-! ### function 49: (boule/finish.limits).has -/
abbrev s49_0 : List Stp := [⟨none, some 2, .box 116 (.tmp 0)⟩,
  ⟨none, some 4, .assign (.const (.bool false))⟩]
abbrev s49_1 : List Stp := [⟨none, some 5, .move (.tmp 1)⟩,
  ⟨none, some 6, .makeFunc (.func 88) #[] #[.tmp 2]⟩,
  ⟨none, some 7, .call ⟨.value (.func 87), #[.tmp 5, .tmp 6], #[35, 123]⟩⟩,
  ⟨none, some 8, .unOp .not 4 (.tmp 7)⟩,
  ⟨none, some 4, .assign (.tmp 8)⟩]
abbrev k49 : Sk := .seq (.reg 0 false s49_0) (.seq (.reg 1 false s49_1) .ret)
theorem sk49 : (Try.f49.body.bind (skOf 9)) = some k49 := by kernel_rfl
theorem en49 {ys : Yls} {p0 p1 : X} {S : St} {Q : Va → St → Bool → Prop} (h : ∀ R : St, S.n = R.n → S.h = R.h → R.lo = R.n → @Wp EE 49 ys false k49 [.x p0, .x p1, .u, .u, .u, .u, .u, .u, .u] (ext R []) ⟨exitQ EE [.tmp 4] S Q⟩) : ∃ r, res EE ys (.f 49) [p0, p1] S = some r ∧ Q r.1 r.2.1 r.2.2 :=
  enter rfl (by kernel_rfl) sk49 (by kernel_rfl) (by kernel_rfl) ⟨rfl, by simp⟩ h

/-! ### function 50: boule/finish.heights -/
abbrev s50_0 : List Stp := [⟨none, some 0, .alloc 116⟩]
abbrev s50_1 : List Stp := [⟨none, some 1, .build 116 #[(0, .const (.int .i64 (-1000000))), (1, .const (.int .i64 1000000))]⟩,
  ⟨none, none, .store 116 (.tmp 0) (.tmp 1)⟩]
abbrev k50 : Sk := .seq (.reg 0 false s50_0) (.seq (.reg 1 false s50_1) .ret)
theorem sk50 : (Try.f50.body.bind (skOf 2)) = some k50 := by kernel_rfl
theorem en50 {ys : Yls} {S : St} {Q : Va → St → Bool → Prop} (h : ∀ R : St, S.n = R.n → S.h = R.h → R.lo = R.n → @Wp EE 50 ys false k50 [.u, .u] (ext R []) ⟨exitQ EE [.cell 0 116] S Q⟩) : ∃ r, res EE ys (.f 50) [] S = some r ∧ Q r.1 r.2.1 r.2.2 :=
  enter rfl (by kernel_rfl) sk50 (by kernel_rfl) (by kernel_rfl) ⟨rfl, by simp⟩ h

/-! ### function 51: slices.ContainsFunc[[]int,int] -/
abbrev s51_0 : List Stp := [⟨none, some 4, .assign (.const (.bool false))⟩]
abbrev s51_1 : List Stp := [⟨none, some 5, .move (.tmp 0)⟩,
  ⟨none, some 6, .move (.tmp 1)⟩,
  ⟨none, some 7, .call ⟨.value (.func 89), #[.tmp 5, .tmp 6], #[30, 120]⟩⟩,
  ⟨none, some 8, .binOp .geq 3 (.tmp 7) (.const (.int .i64 0)) 3⟩,
  ⟨none, some 4, .assign (.tmp 8)⟩]
abbrev k51 : Sk := .seq (.reg 0 false s51_0) (.seq (.reg 1 false s51_1) .ret)
theorem sk51 : (Try.f51.body.bind (skOf 9)) = some k51 := by kernel_rfl
theorem en51 {ys : Yls} {p0 p1 : X} {S : St} {Q : Va → St → Bool → Prop} (h : ∀ R : St, S.n = R.n → S.h = R.h → R.lo = R.n → @Wp EE 51 ys false k51 [.x p0, .x p1, .u, .u, .u, .u, .u, .u, .u] (ext R []) ⟨exitQ EE [.tmp 4] S Q⟩) : ∃ r, res EE ys (.f 51) [p0, p1] S = some r ∧ Q r.1 r.2.1 r.2.2 :=
  enter rfl (by kernel_rfl) sk51 (by kernel_rfl) (by kernel_rfl) ⟨rfl, by simp⟩ h

/-! ### function 54: boule/units.Sum -/
abbrev s54_0 : List Stp := [⟨none, some 2, .alloc 24⟩,
  ⟨none, some 3, .assign (.const (.int .i64 0))⟩]
abbrev s54_1 : List Stp := [⟨none, some 5, .move (.tmp 0)⟩,
  ⟨none, some 6, .call ⟨.value (.func 93), #[.tmp 5], #[35]⟩⟩,
  ⟨none, some 4, .assign (.tmp 6)⟩]
abbrev s54_2 : List Stp := [⟨none, some 7, .move (.tmp 4)⟩,
  ⟨none, some 8, .binOp .neq 28 (.tmp 7) (.const (.int .i64 0)) 28⟩]
abbrev s54_3 : List Stp := [⟨none, some 9, .build 24 #[]⟩,
  ⟨none, some 10, .move (.tmp 4)⟩,
  ⟨none, none, .store 24 (.tmp 2) (.tmp 9)⟩,
  ⟨none, some 3, .assign (.tmp 10)⟩]
abbrev s54_4 : List Stp := [⟨none, some 11, .move (.tmp 0)⟩,
  ⟨none, some 12, .call ⟨.value (.func 95), #[.tmp 11], #[35]⟩⟩,
  ⟨none, some 13, .extract (.tmp 12) 0⟩,
  ⟨none, some 14, .extract (.tmp 12) 1⟩,
  ⟨none, some 15, .call ⟨.value (.func 94), #[.tmp 13, .tmp 14], #[3, 3]⟩⟩,
  ⟨none, some 16, .extract (.tmp 15) 0⟩,
  ⟨none, some 17, .extract (.tmp 15) 1⟩,
  ⟨none, none, .store 24 (.tmp 2) (.tmp 16)⟩,
  ⟨none, some 3, .assign (.tmp 17)⟩]
abbrev k54 : Sk := .seq (.reg 0 false s54_0) (.seq (.seq (.reg 1 false s54_1) (.seq (.reg 2 false s54_2) (.cond (.tmp 8) (.seq (.reg 3 false s54_3) .ret) .skip))) (.seq (.reg 4 false s54_4) .ret))
theorem sk54 : (Try.f54.body.bind (skOf 18)) = some k54 := by kernel_rfl
theorem en54 {ys : Yls} {p0 : X} {S : St} {Q : Va → St → Bool → Prop} (h : ∀ R : St, S.n = R.n → S.h = R.h → R.lo = R.n → @Wp EE 54 ys false k54 [.x p0, .u, .u, .u, .u, .u, .u, .u, .u, .u, .u, .u, .u, .u, .u, .u, .u, .u] (ext R []) ⟨exitQ EE [.cell 2 24, .tmp 3] S Q⟩) : ∃ r, res EE ys (.f 54) [p0] S = some r ∧ Q r.1 r.2.1 r.2.2 :=
  enter rfl (by kernel_rfl) sk54 (by kernel_rfl) (by kernel_rfl) ⟨rfl, by simp⟩ h

/-! ### function 59: boule/finish.amounts -/
abbrev s59_0 : List Stp := [⟨none, some 0, .alloc 116⟩]
abbrev s59_1 : List Stp := [⟨none, some 1, .build 116 #[(0, .const (.int .i64 0)), (1, .const (.int .i64 10000000))]⟩,
  ⟨none, none, .store 116 (.tmp 0) (.tmp 1)⟩]
abbrev k59 : Sk := .seq (.reg 0 false s59_0) (.seq (.reg 1 false s59_1) .ret)
theorem sk59 : (Try.f59.body.bind (skOf 2)) = some k59 := by kernel_rfl
theorem en59 {ys : Yls} {S : St} {Q : Va → St → Bool → Prop} (h : ∀ R : St, S.n = R.n → S.h = R.h → R.lo = R.n → @Wp EE 59 ys false k59 [.u, .u] (ext R []) ⟨exitQ EE [.cell 0 116] S Q⟩) : ∃ r, res EE ys (.f 59) [] S = some r ∧ Q r.1 r.2.1 r.2.2 :=
  enter rfl (by kernel_rfl) sk59 (by kernel_rfl) (by kernel_rfl) ⟨rfl, by simp⟩ h

/-! ### function 73: boule/finish.Apart$1 -/
abbrev s73_0 : List Stp := [⟨none, some 2, .box 72 (.tmp 0)⟩,
  ⟨none, some 3, .assign (.const (.bool false))⟩]
abbrev s73_1 : List Stp := [⟨none, some 6, .fieldAddr 72 (.tmp 2) 1⟩,
  ⟨none, some 7, .load 30 (.tmp 6)⟩,
  ⟨none, some 8, .call ⟨.builtin .len, #[.tmp 7], #[30]⟩⟩,
  ⟨none, some 9, .move (.const (.int .i64 0))⟩]
abbrev s73_2 : List Stp := [⟨none, some 10, .binOp .lss 3 (.tmp 9) (.tmp 8) 3⟩]
abbrev s73_3 : List Stp := [⟨none, some 11, .move (.tmp 9)⟩,
  ⟨none, some 12, .indexAddr 30 (.tmp 7) (.tmp 9)⟩,
  ⟨none, some 13, .load 3 (.tmp 12)⟩,
  ⟨none, some 4, .assign (.tmp 11)⟩,
  ⟨none, some 5, .assign (.tmp 13)⟩]
abbrev s73_4 : List Stp := [⟨none, some 14, .move (.tmp 5)⟩,
  ⟨none, some 15, .binOp .lss 3 (.tmp 14) (.const (.int .i64 0)) 3⟩,
  ⟨none, some 16, .move (.tmp 15)⟩,
  ⟨some (16, false), some 17, .move (.tmp 5)⟩,
  ⟨some (16, false), some 18, .load 35 (.tmp 1)⟩,
  ⟨some (16, false), some 19, .call ⟨.builtin .len, #[.tmp 18], #[35]⟩⟩,
  ⟨some (16, false), some 20, .binOp .geq 3 (.tmp 17) (.tmp 19) 3⟩,
  ⟨none, some 21, .pick (.tmp 16) (.const (.bool true)) (.tmp 20)⟩,
  ⟨none, some 22, .move (.tmp 21)⟩,
  ⟨some (22, false), some 23, .move (.tmp 4)⟩,
  ⟨some (22, false), some 24, .binOp .gtr 3 (.tmp 23) (.const (.int .i64 0)) 3⟩,
  ⟨some (22, false), some 25, .move (.tmp 24)⟩,
  ⟨some (25, true), some 26, .move (.tmp 5)⟩,
  ⟨some (25, true), some 27, .fieldAddr 72 (.tmp 2) 1⟩,
  ⟨some (25, true), some 28, .load 30 (.tmp 27)⟩,
  ⟨some (25, true), some 29, .move (.tmp 4)⟩,
  ⟨some (25, true), some 30, .binOp .sub 3 (.tmp 29) (.const (.int .i64 1)) 3⟩,
  ⟨some (25, true), some 31, .indexAddr 30 (.tmp 28) (.tmp 30)⟩,
  ⟨some (25, true), some 32, .load 3 (.tmp 31)⟩,
  ⟨some (25, true), some 33, .binOp .leq 3 (.tmp 26) (.tmp 32) 3⟩,
  ⟨some (22, false), some 34, .pick (.tmp 25) (.tmp 33) (.const (.bool false))⟩,
  ⟨none, some 35, .pick (.tmp 22) (.const (.bool true)) (.tmp 34)⟩]
abbrev s73_5 : List Stp := [⟨none, some 3, .assign (.const (.bool true))⟩]
abbrev s73_6 : List Stp := [⟨none, some 36, .binOp .add 3 (.tmp 9) (.const (.int .i64 1)) 3⟩,
  ⟨none, some 9, .move (.tmp 36)⟩]
abbrev l73_0 : Sk := .seq (.reg 2 false s73_2) (.seq (.cond (.tmp 10) .skip (.exit 0)) (.seq (.block 1 (.seq (.reg 3 false s73_3) (.seq (.reg 4 false s73_4) (.cond (.tmp 35) (.seq (.reg 5 false s73_5) .ret) .skip)))) (.reg 6 false s73_6)))
abbrev s73_7 : List Stp := [⟨none, some 37, .call ⟨.value (.func 59), #[], #[]⟩⟩,
  ⟨none, some 38, .fieldAddr 72 (.tmp 2) 0⟩,
  ⟨none, some 39, .load 24 (.tmp 38)⟩,
  ⟨none, some 40, .buildSlice 35 1 #[(0, .tmp 39)]⟩,
  ⟨none, some 41, .call ⟨.value (.func 49), #[.tmp 37, .tmp 40], #[116, 35]⟩⟩,
  ⟨none, some 42, .unOp .not 4 (.tmp 41)⟩,
  ⟨none, some 3, .assign (.tmp 42)⟩]
abbrev k73 : Sk := .seq (.reg 0 false s73_0) (.seq (.seq (.reg 1 false s73_1) (.block 0 (.loop l73_0))) (.seq (.reg 7 true s73_7) .ret))
theorem sk73 : (Try.f73.body.bind (skOf 43)) = some k73 := by kernel_rfl
theorem en73 {ys : Yls} {p0 p1 : X} {S : St} {Q : Va → St → Bool → Prop} (h : ∀ R : St, S.n = R.n → S.h = R.h → R.lo = R.n → @Wp EE 73 ys false k73 [.x p0, .x p1, .u, .u, .u, .u, .u, .u, .u, .u, .u, .u, .u, .u, .u, .u, .u, .u, .u, .u, .u, .u, .u, .u, .u, .u, .u, .u, .u, .u, .u, .u, .u, .u, .u, .u, .u, .u, .u, .u, .u, .u, .u] (ext R []) ⟨exitQ EE [.tmp 3] S Q⟩) : ∃ r, res EE ys (.f 73) [p0, p1] S = some r ∧ Q r.1 r.2.1 r.2.2 :=
  enter rfl (by kernel_rfl) sk73 (by kernel_rfl) (by kernel_rfl) ⟨rfl, by simp⟩ h

/-! ### function 74: boule/units.Less -/
abbrev s74_0 : List Stp := [⟨none, some 2, .box 24 (.tmp 0)⟩,
  ⟨none, some 3, .box 24 (.tmp 1)⟩,
  ⟨none, some 4, .alloc 24⟩,
  ⟨none, some 5, .assign (.const (.int .i64 0))⟩]
abbrev s74_1 : List Stp := [⟨none, some 6, .load 24 (.tmp 2)⟩,
  ⟨none, some 7, .load 24 (.tmp 3)⟩,
  ⟨none, some 8, .buildSlice 35 2 #[(0, .tmp 6), (1, .tmp 7)]⟩,
  ⟨none, some 9, .call ⟨.value (.func 90), #[.tmp 8], #[35]⟩⟩,
  ⟨none, some 10, .unOp .not 4 (.tmp 9)⟩]
abbrev s74_2 : List Stp := [⟨none, some 11, .build 24 #[]⟩,
  ⟨none, none, .store 24 (.tmp 4) (.tmp 11)⟩,
  ⟨none, some 5, .assign (.const (.int .i64 2))⟩]
abbrev s74_3 : List Stp := [⟨none, some 12, .fieldAddr 24 (.tmp 2) 0⟩,
  ⟨none, some 13, .load 3 (.tmp 12)⟩,
  ⟨none, some 14, .fieldAddr 24 (.tmp 3) 1⟩,
  ⟨none, some 15, .load 3 (.tmp 14)⟩,
  ⟨none, some 16, .binOp .sub 3 (.tmp 13) (.tmp 15) 3⟩,
  ⟨none, some 17, .fieldAddr 24 (.tmp 2) 1⟩,
  ⟨none, some 18, .load 3 (.tmp 17)⟩,
  ⟨none, some 19, .fieldAddr 24 (.tmp 3) 0⟩,
  ⟨none, some 20, .load 3 (.tmp 19)⟩,
  ⟨none, some 21, .binOp .sub 3 (.tmp 18) (.tmp 20) 3⟩,
  ⟨none, some 22, .call ⟨.value (.func 94), #[.tmp 16, .tmp 21], #[3, 3]⟩⟩,
  ⟨none, some 23, .extract (.tmp 22) 0⟩,
  ⟨none, some 24, .extract (.tmp 22) 1⟩,
  ⟨none, none, .store 24 (.tmp 4) (.tmp 23)⟩,
  ⟨none, some 5, .assign (.tmp 24)⟩]
abbrev k74 : Sk := .seq (.reg 0 false s74_0) (.seq (.seq (.reg 1 false s74_1) (.cond (.tmp 10) (.seq (.reg 2 false s74_2) .ret) .skip)) (.seq (.reg 3 false s74_3) .ret))
theorem sk74 : (Try.f74.body.bind (skOf 25)) = some k74 := by kernel_rfl
theorem en74 {ys : Yls} {p0 p1 : X} {S : St} {Q : Va → St → Bool → Prop} (h : ∀ R : St, S.n = R.n → S.h = R.h → R.lo = R.n → @Wp EE 74 ys false k74 [.x p0, .x p1, .u, .u, .u, .u, .u, .u, .u, .u, .u, .u, .u, .u, .u, .u, .u, .u, .u, .u, .u, .u, .u, .u, .u] (ext R []) ⟨exitQ EE [.cell 4 24, .tmp 5] S Q⟩) : ∃ r, res EE ys (.f 74) [p0, p1] S = some r ∧ Q r.1 r.2.1 r.2.2 :=
  enter rfl (by kernel_rfl) sk74 (by kernel_rfl) (by kernel_rfl) ⟨rfl, by simp⟩ h

/-! ### function 84: boule/units.is -/
abbrev s84_0 : List Stp := [⟨none, some 2, .assign (.const (.bool false))⟩]
abbrev s84_1 : List Stp := [⟨none, some 3, .move (.tmp 0)⟩,
  ⟨none, some 4, .call ⟨.value (.func 51), #[.tmp 3, .func 110], #[30, 120]⟩⟩,
  ⟨none, some 5, .unOp .not 4 (.tmp 4)⟩,
  ⟨none, some 2, .assign (.tmp 5)⟩]
abbrev k84 : Sk := .seq (.reg 0 false s84_0) (.seq (.reg 1 false s84_1) .ret)
theorem sk84 : (Try.f84.body.bind (skOf 6)) = some k84 := by kernel_rfl
theorem en84 {ys : Yls} {p0 : X} {S : St} {Q : Va → St → Bool → Prop} (h : ∀ R : St, S.n = R.n → S.h = R.h → R.lo = R.n → @Wp EE 84 ys false k84 [.x p0, .u, .u, .u, .u, .u] (ext R []) ⟨exitQ EE [.tmp 2] S Q⟩) : ∃ r, res EE ys (.f 84) [p0] S = some r ∧ Q r.1 r.2.1 r.2.2 :=
  enter rfl (by kernel_rfl) sk84 (by kernel_rfl) (by kernel_rfl) ⟨rfl, by simp⟩ h

/-! ### function 87: slices.ContainsFunc[[]boule/api.Range,boule/api.Range] -/
abbrev s87_0 : List Stp := [⟨none, some 4, .assign (.const (.bool false))⟩]
abbrev s87_1 : List Stp := [⟨none, some 5, .move (.tmp 0)⟩,
  ⟨none, some 6, .move (.tmp 1)⟩,
  ⟨none, some 7, .call ⟨.value (.func 114), #[.tmp 5, .tmp 6], #[35, 123]⟩⟩,
  ⟨none, some 8, .binOp .geq 3 (.tmp 7) (.const (.int .i64 0)) 3⟩,
  ⟨none, some 4, .assign (.tmp 8)⟩]
abbrev k87 : Sk := .seq (.reg 0 false s87_0) (.seq (.reg 1 false s87_1) .ret)
theorem sk87 : (Try.f87.body.bind (skOf 9)) = some k87 := by kernel_rfl
theorem en87 {ys : Yls} {p0 p1 : X} {S : St} {Q : Va → St → Bool → Prop} (h : ∀ R : St, S.n = R.n → S.h = R.h → R.lo = R.n → @Wp EE 87 ys false k87 [.x p0, .x p1, .u, .u, .u, .u, .u, .u, .u] (ext R []) ⟨exitQ EE [.tmp 4] S Q⟩) : ∃ r, res EE ys (.f 87) [p0, p1] S = some r ∧ Q r.1 r.2.1 r.2.2 :=
  enter rfl (by kernel_rfl) sk87 (by kernel_rfl) (by kernel_rfl) ⟨rfl, by simp⟩ h

/-! ### function 88: (boule/finish.limits).has$1 -/
abbrev s88_0 : List Stp := [⟨none, some 2, .box 24 (.tmp 0)⟩,
  ⟨none, some 3, .assign (.const (.bool false))⟩]
abbrev s88_1 : List Stp := [⟨none, some 4, .fieldAddr 24 (.tmp 2) 0⟩,
  ⟨none, some 5, .load 3 (.tmp 4)⟩,
  ⟨none, some 6, .indexAddr 116 (.tmp 1) (.const (.int .i64 0))⟩,
  ⟨none, some 7, .load 3 (.tmp 6)⟩,
  ⟨none, some 8, .binOp .lss 3 (.tmp 5) (.tmp 7) 3⟩,
  ⟨none, some 9, .move (.tmp 8)⟩,
  ⟨some (9, false), some 10, .fieldAddr 24 (.tmp 2) 0⟩,
  ⟨some (9, false), some 11, .load 3 (.tmp 10)⟩,
  ⟨some (9, false), some 12, .fieldAddr 24 (.tmp 2) 1⟩,
  ⟨some (9, false), some 13, .load 3 (.tmp 12)⟩,
  ⟨some (9, false), some 14, .binOp .gtr 3 (.tmp 11) (.tmp 13) 3⟩,
  ⟨none, some 15, .pick (.tmp 9) (.const (.bool true)) (.tmp 14)⟩,
  ⟨none, some 16, .move (.tmp 15)⟩,
  ⟨some (16, false), some 17, .fieldAddr 24 (.tmp 2) 1⟩,
  ⟨some (16, false), some 18, .load 3 (.tmp 17)⟩,
  ⟨some (16, false), some 19, .indexAddr 116 (.tmp 1) (.const (.int .i64 1))⟩,
  ⟨some (16, false), some 20, .load 3 (.tmp 19)⟩,
  ⟨some (16, false), some 21, .binOp .gtr 3 (.tmp 18) (.tmp 20) 3⟩,
  ⟨none, some 22, .pick (.tmp 16) (.const (.bool true)) (.tmp 21)⟩,
  ⟨none, some 3, .assign (.tmp 22)⟩]
abbrev k88 : Sk := .seq (.reg 0 false s88_0) (.seq (.reg 1 false s88_1) .ret)
theorem sk88 : (Try.f88.body.bind (skOf 23)) = some k88 := by kernel_rfl
theorem en88 {ys : Yls} {p0 p1 : X} {S : St} {Q : Va → St → Bool → Prop} (h : ∀ R : St, S.n = R.n → S.h = R.h → R.lo = R.n → @Wp EE 88 ys false k88 [.x p0, .x p1, .u, .u, .u, .u, .u, .u, .u, .u, .u, .u, .u, .u, .u, .u, .u, .u, .u, .u, .u, .u, .u] (ext R []) ⟨exitQ EE [.tmp 3] S Q⟩) : ∃ r, res EE ys (.f 88) [p0, p1] S = some r ∧ Q r.1 r.2.1 r.2.2 :=
  enter rfl (by kernel_rfl) sk88 (by kernel_rfl) (by kernel_rfl) ⟨rfl, by simp⟩ h

/-! ### function 89: slices.IndexFunc[[]int,int] -/
abbrev s89_0 : List Stp := [⟨none, some 4, .assign (.const (.int .i64 0))⟩]
abbrev s89_1 : List Stp := [⟨none, some 6, .move (.tmp 0)⟩,
  ⟨none, some 7, .call ⟨.builtin .len, #[.tmp 6], #[30]⟩⟩,
  ⟨none, some 8, .move (.const (.int .i64 0))⟩]
abbrev s89_2 : List Stp := [⟨none, some 9, .binOp .lss 3 (.tmp 8) (.tmp 7) 3⟩]
abbrev s89_3 : List Stp := [⟨none, some 10, .move (.tmp 8)⟩,
  ⟨none, some 5, .assign (.tmp 10)⟩]
abbrev s89_4 : List Stp := [⟨none, some 11, .move (.tmp 1)⟩,
  ⟨none, some 12, .move (.tmp 0)⟩,
  ⟨none, some 13, .move (.tmp 5)⟩,
  ⟨none, some 14, .indexAddr 30 (.tmp 12) (.tmp 13)⟩,
  ⟨none, some 15, .load 3 (.tmp 14)⟩,
  ⟨none, some 16, .call ⟨.value (.tmp 11), #[.tmp 15], #[3]⟩⟩]
abbrev s89_5 : List Stp := [⟨none, some 17, .move (.tmp 5)⟩,
  ⟨none, some 4, .assign (.tmp 17)⟩]
abbrev s89_6 : List Stp := [⟨none, some 18, .binOp .add 3 (.tmp 8) (.const (.int .i64 1)) 3⟩,
  ⟨none, some 8, .move (.tmp 18)⟩]
abbrev l89_0 : Sk := .seq (.reg 2 false s89_2) (.seq (.cond (.tmp 9) .skip (.exit 0)) (.seq (.block 1 (.seq (.reg 3 false s89_3) (.seq (.reg 4 false s89_4) (.cond (.tmp 16) (.seq (.reg 5 false s89_5) .ret) .skip)))) (.reg 6 false s89_6)))
abbrev s89_7 : List Stp := [⟨none, some 4, .assign (.const (.int .i64 (-1)))⟩]
abbrev k89 : Sk := .seq (.reg 0 false s89_0) (.seq (.seq (.reg 1 false s89_1) (.block 0 (.loop l89_0))) (.seq (.reg 7 false s89_7) .ret))
theorem sk89 : (Try.f89.body.bind (skOf 19)) = some k89 := by kernel_rfl
theorem en89 {ys : Yls} {p0 p1 : X} {S : St} {Q : Va → St → Bool → Prop} (h : ∀ R : St, S.n = R.n → S.h = R.h → R.lo = R.n → @Wp EE 89 ys false k89 [.x p0, .x p1, .u, .u, .u, .u, .u, .u, .u, .u, .u, .u, .u, .u, .u, .u, .u, .u, .u] (ext R []) ⟨exitQ EE [.tmp 4] S Q⟩) : ∃ r, res EE ys (.f 89) [p0, p1] S = some r ∧ Q r.1 r.2.1 r.2.2 :=
  enter rfl (by kernel_rfl) sk89 (by kernel_rfl) (by kernel_rfl) ⟨rfl, by simp⟩ h

/-! ### function 90: boule/units.valid -/
abbrev s90_0 : List Stp := [⟨none, some 2, .assign (.const (.bool false))⟩]
abbrev s90_1 : List Stp := [⟨none, some 3, .move (.tmp 0)⟩,
  ⟨none, some 4, .call ⟨.value (.func 87), #[.tmp 3, .func 115], #[35, 123]⟩⟩,
  ⟨none, some 5, .unOp .not 4 (.tmp 4)⟩,
  ⟨none, some 2, .assign (.tmp 5)⟩]
abbrev k90 : Sk := .seq (.reg 0 false s90_0) (.seq (.reg 1 false s90_1) .ret)
theorem sk90 : (Try.f90.body.bind (skOf 6)) = some k90 := by kernel_rfl
theorem en90 {ys : Yls} {p0 : X} {S : St} {Q : Va → St → Bool → Prop} (h : ∀ R : St, S.n = R.n → S.h = R.h → R.lo = R.n → @Wp EE 90 ys false k90 [.x p0, .u, .u, .u, .u, .u] (ext R []) ⟨exitQ EE [.tmp 2] S Q⟩) : ∃ r, res EE ys (.f 90) [p0] S = some r ∧ Q r.1 r.2.1 r.2.2 :=
  enter rfl (by kernel_rfl) sk90 (by kernel_rfl) (by kernel_rfl) ⟨rfl, by simp⟩ h

/-! ### function 93: boule/units.check -/
abbrev s93_0 : List Stp := [⟨none, some 2, .assign (.const (.int .i64 0))⟩]
abbrev s93_1 : List Stp := [⟨none, some 4, .move (.tmp 0)⟩,
  ⟨none, some 5, .call ⟨.builtin .len, #[.tmp 4], #[35]⟩⟩,
  ⟨none, some 6, .binOp .gtr 3 (.tmp 5) (.const (.int .i64 100)) 3⟩,
  ⟨none, some 3, .assign (.tmp 6)⟩]
abbrev s93_2 : List Stp := [⟨none, some 2, .assign (.const (.int .i64 5))⟩]
abbrev s93_3 : List Stp := [⟨none, some 8, .move (.tmp 0)⟩,
  ⟨none, some 9, .call ⟨.value (.func 90), #[.tmp 8], #[35]⟩⟩,
  ⟨none, some 10, .unOp .not 4 (.tmp 9)⟩,
  ⟨none, some 7, .assign (.tmp 10)⟩]
abbrev s93_4 : List Stp := [⟨none, some 2, .assign (.const (.int .i64 2))⟩]
abbrev s93_5 : List Stp := [⟨none, some 2, .assign (.const (.int .i64 0))⟩]
abbrev k93 : Sk := .seq (.reg 0 false s93_0) (.seq (.block 0 (.seq (.reg 1 false s93_1) (.cond (.tmp 3) (.seq (.reg 2 false s93_2) .ret) (.seq (.reg 3 false s93_3) (.cond (.tmp 7) (.seq (.reg 4 false s93_4) .ret) .skip))))) (.seq (.reg 5 false s93_5) .ret))
theorem sk93 : (Try.f93.body.bind (skOf 11)) = some k93 := by kernel_rfl
theorem en93 {ys : Yls} {p0 : X} {S : St} {Q : Va → St → Bool → Prop} (h : ∀ R : St, S.n = R.n → S.h = R.h → R.lo = R.n → @Wp EE 93 ys false k93 [.x p0, .u, .u, .u, .u, .u, .u, .u, .u, .u, .u] (ext R []) ⟨exitQ EE [.tmp 2] S Q⟩) : ∃ r, res EE ys (.f 93) [p0] S = some r ∧ Q r.1 r.2.1 r.2.2 :=
  enter rfl (by kernel_rfl) sk93 (by kernel_rfl) (by kernel_rfl) ⟨rfl, by simp⟩ h

/-! ### function 94: boule/units.fits -/
abbrev s94_0 : List Stp := [⟨none, some 4, .alloc 24⟩,
  ⟨none, some 5, .assign (.const (.int .i64 0))⟩]
abbrev s94_1 : List Stp := [⟨none, some 6, .move (.tmp 0)⟩,
  ⟨none, some 7, .move (.tmp 1)⟩,
  ⟨none, some 8, .buildSlice 30 2 #[(0, .tmp 6), (1, .tmp 7)]⟩,
  ⟨none, some 9, .call ⟨.value (.func 84), #[.tmp 8], #[30]⟩⟩,
  ⟨none, some 10, .unOp .not 4 (.tmp 9)⟩]
abbrev s94_2 : List Stp := [⟨none, some 11, .build 24 #[]⟩,
  ⟨none, none, .store 24 (.tmp 4) (.tmp 11)⟩,
  ⟨none, some 5, .assign (.const (.int .i64 10))⟩]
abbrev s94_3 : List Stp := [⟨none, some 12, .move (.tmp 0)⟩,
  ⟨none, some 13, .move (.tmp 1)⟩,
  ⟨none, some 14, .build 24 #[(0, .tmp 12), (1, .tmp 13)]⟩,
  ⟨none, none, .store 24 (.tmp 4) (.tmp 14)⟩,
  ⟨none, some 5, .assign (.const (.int .i64 0))⟩]
abbrev k94 : Sk := .seq (.reg 0 false s94_0) (.seq (.seq (.reg 1 false s94_1) (.cond (.tmp 10) (.seq (.reg 2 false s94_2) .ret) .skip)) (.seq (.reg 3 false s94_3) .ret))
theorem sk94 : (Try.f94.body.bind (skOf 15)) = some k94 := by kernel_rfl
theorem en94 {ys : Yls} {p0 p1 : X} {S : St} {Q : Va → St → Bool → Prop} (h : ∀ R : St, S.n = R.n → S.h = R.h → R.lo = R.n → @Wp EE 94 ys false k94 [.x p0, .x p1, .u, .u, .u, .u, .u, .u, .u, .u, .u, .u, .u, .u, .u] (ext R []) ⟨exitQ EE [.cell 4 24, .tmp 5] S Q⟩) : ∃ r, res EE ys (.f 94) [p0, p1] S = some r ∧ Q r.1 r.2.1 r.2.2 :=
  enter rfl (by kernel_rfl) sk94 (by kernel_rfl) (by kernel_rfl) ⟨rfl, by simp⟩ h

/-! ### function 95: boule/units.added -/
abbrev s95_0 : List Stp := [⟨none, some 2, .assign (.const (.int .i64 0))⟩,
  ⟨none, some 3, .assign (.const (.int .i64 0))⟩]
abbrev s95_1 : List Stp := [⟨none, some 6, .move (.tmp 0)⟩,
  ⟨none, some 7, .call ⟨.builtin .len, #[.tmp 6], #[35]⟩⟩,
  ⟨none, some 8, .move (.const (.int .i64 0))⟩]
abbrev s95_2 : List Stp := [⟨none, some 9, .binOp .lss 3 (.tmp 8) (.tmp 7) 3⟩]
abbrev s95_3 : List Stp := [⟨none, some 10, .indexAddr 35 (.tmp 6) (.tmp 8)⟩,
  ⟨none, some 11, .load 24 (.tmp 10)⟩,
  ⟨none, some 5, .alloc 24⟩,
  ⟨none, none, .store 24 (.tmp 5) (.tmp 11)⟩]
abbrev s95_4 : List Stp := [⟨none, some 12, .move (.tmp 2)⟩,
  ⟨none, some 13, .fieldAddr 24 (.tmp 5) 0⟩,
  ⟨none, some 14, .load 3 (.tmp 13)⟩,
  ⟨none, some 15, .binOp .add 3 (.tmp 12) (.tmp 14) 3⟩,
  ⟨none, some 16, .move (.tmp 3)⟩,
  ⟨none, some 17, .fieldAddr 24 (.tmp 5) 1⟩,
  ⟨none, some 18, .load 3 (.tmp 17)⟩,
  ⟨none, some 19, .binOp .add 3 (.tmp 16) (.tmp 18) 3⟩,
  ⟨none, some 2, .assign (.tmp 15)⟩,
  ⟨none, some 3, .assign (.tmp 19)⟩]
abbrev s95_5 : List Stp := [⟨none, some 20, .binOp .add 3 (.tmp 8) (.const (.int .i64 1)) 3⟩,
  ⟨none, some 8, .move (.tmp 20)⟩]
abbrev l95_0 : Sk := .seq (.reg 2 false s95_2) (.seq (.cond (.tmp 9) .skip (.exit 0)) (.seq (.block 1 (.seq (.reg 3 false s95_3) (.reg 4 true s95_4))) (.reg 5 false s95_5)))
abbrev s95_6 : List Stp := [⟨none, some 21, .move (.tmp 2)⟩,
  ⟨none, some 22, .move (.tmp 3)⟩,
  ⟨none, some 2, .assign (.tmp 21)⟩,
  ⟨none, some 3, .assign (.tmp 22)⟩]
abbrev k95 : Sk := .seq (.reg 0 false s95_0) (.seq (.seq (.reg 1 false s95_1) (.block 0 (.loop l95_0))) (.seq (.reg 6 false s95_6) .ret))
theorem sk95 : (Try.f95.body.bind (skOf 23)) = some k95 := by kernel_rfl
theorem en95 {ys : Yls} {p0 : X} {S : St} {Q : Va → St → Bool → Prop} (h : ∀ R : St, S.n = R.n → S.h = R.h → R.lo = R.n → @Wp EE 95 ys false k95 [.x p0, .u, .u, .u, .u, .u, .u, .u, .u, .u, .u, .u, .u, .u, .u, .u, .u, .u, .u, .u, .u, .u, .u] (ext R []) ⟨exitQ EE [.tmp 2, .tmp 3] S Q⟩) : ∃ r, res EE ys (.f 95) [p0] S = some r ∧ Q r.1 r.2.1 r.2.2 :=
  enter rfl (by kernel_rfl) sk95 (by kernel_rfl) (by kernel_rfl) ⟨rfl, by simp⟩ h

/-! ### function 110: boule/units.is$1 -/
abbrev s110_0 : List Stp := [⟨none, some 2, .assign (.const (.bool false))⟩]
abbrev s110_1 : List Stp := [⟨none, some 3, .move (.tmp 0)⟩,
  ⟨none, some 4, .binOp .lss 3 (.tmp 3) (.const (.int .i64 (-1000000000000000))) 3⟩,
  ⟨none, some 5, .move (.tmp 4)⟩,
  ⟨some (5, false), some 6, .move (.tmp 0)⟩,
  ⟨some (5, false), some 7, .binOp .gtr 3 (.tmp 6) (.const (.int .i64 1000000000000000)) 3⟩,
  ⟨none, some 8, .pick (.tmp 5) (.const (.bool true)) (.tmp 7)⟩,
  ⟨none, some 2, .assign (.tmp 8)⟩]
abbrev k110 : Sk := .seq (.reg 0 false s110_0) (.seq (.reg 1 false s110_1) .ret)
theorem sk110 : (Try.f110.body.bind (skOf 9)) = some k110 := by kernel_rfl
theorem en110 {ys : Yls} {p0 : X} {S : St} {Q : Va → St → Bool → Prop} (h : ∀ R : St, S.n = R.n → S.h = R.h → R.lo = R.n → @Wp EE 110 ys false k110 [.x p0, .u, .u, .u, .u, .u, .u, .u, .u] (ext R []) ⟨exitQ EE [.tmp 2] S Q⟩) : ∃ r, res EE ys (.f 110) [p0] S = some r ∧ Q r.1 r.2.1 r.2.2 :=
  enter rfl (by kernel_rfl) sk110 (by kernel_rfl) (by kernel_rfl) ⟨rfl, by simp⟩ h

/-! ### function 114: slices.IndexFunc[[]boule/api.Range,boule/api.Range] -/
abbrev s114_0 : List Stp := [⟨none, some 4, .assign (.const (.int .i64 0))⟩]
abbrev s114_1 : List Stp := [⟨none, some 6, .move (.tmp 0)⟩,
  ⟨none, some 7, .call ⟨.builtin .len, #[.tmp 6], #[35]⟩⟩,
  ⟨none, some 8, .move (.const (.int .i64 0))⟩]
abbrev s114_2 : List Stp := [⟨none, some 9, .binOp .lss 3 (.tmp 8) (.tmp 7) 3⟩]
abbrev s114_3 : List Stp := [⟨none, some 10, .move (.tmp 8)⟩,
  ⟨none, some 5, .assign (.tmp 10)⟩]
abbrev s114_4 : List Stp := [⟨none, some 11, .move (.tmp 1)⟩,
  ⟨none, some 12, .move (.tmp 0)⟩,
  ⟨none, some 13, .move (.tmp 5)⟩,
  ⟨none, some 14, .indexAddr 35 (.tmp 12) (.tmp 13)⟩,
  ⟨none, some 15, .load 24 (.tmp 14)⟩,
  ⟨none, some 16, .call ⟨.value (.tmp 11), #[.tmp 15], #[24]⟩⟩]
abbrev s114_5 : List Stp := [⟨none, some 17, .move (.tmp 5)⟩,
  ⟨none, some 4, .assign (.tmp 17)⟩]
abbrev s114_6 : List Stp := [⟨none, some 18, .binOp .add 3 (.tmp 8) (.const (.int .i64 1)) 3⟩,
  ⟨none, some 8, .move (.tmp 18)⟩]
abbrev l114_0 : Sk := .seq (.reg 2 false s114_2) (.seq (.cond (.tmp 9) .skip (.exit 0)) (.seq (.block 1 (.seq (.reg 3 false s114_3) (.seq (.reg 4 false s114_4) (.cond (.tmp 16) (.seq (.reg 5 false s114_5) .ret) .skip)))) (.reg 6 false s114_6)))
abbrev s114_7 : List Stp := [⟨none, some 4, .assign (.const (.int .i64 (-1)))⟩]
abbrev k114 : Sk := .seq (.reg 0 false s114_0) (.seq (.seq (.reg 1 false s114_1) (.block 0 (.loop l114_0))) (.seq (.reg 7 false s114_7) .ret))
theorem sk114 : (Try.f114.body.bind (skOf 19)) = some k114 := by kernel_rfl
theorem en114 {ys : Yls} {p0 p1 : X} {S : St} {Q : Va → St → Bool → Prop} (h : ∀ R : St, S.n = R.n → S.h = R.h → R.lo = R.n → @Wp EE 114 ys false k114 [.x p0, .x p1, .u, .u, .u, .u, .u, .u, .u, .u, .u, .u, .u, .u, .u, .u, .u, .u, .u] (ext R []) ⟨exitQ EE [.tmp 4] S Q⟩) : ∃ r, res EE ys (.f 114) [p0, p1] S = some r ∧ Q r.1 r.2.1 r.2.2 :=
  enter rfl (by kernel_rfl) sk114 (by kernel_rfl) (by kernel_rfl) ⟨rfl, by simp⟩ h

/-! ### function 115: boule/units.valid$1 -/
abbrev s115_0 : List Stp := [⟨none, some 1, .box 24 (.tmp 0)⟩,
  ⟨none, some 2, .assign (.const (.bool false))⟩]
abbrev s115_1 : List Stp := [⟨none, some 3, .fieldAddr 24 (.tmp 1) 0⟩,
  ⟨none, some 4, .load 3 (.tmp 3)⟩,
  ⟨none, some 5, .fieldAddr 24 (.tmp 1) 1⟩,
  ⟨none, some 6, .load 3 (.tmp 5)⟩,
  ⟨none, some 7, .buildSlice 30 2 #[(0, .tmp 4), (1, .tmp 6)]⟩,
  ⟨none, some 8, .call ⟨.value (.func 84), #[.tmp 7], #[30]⟩⟩,
  ⟨none, some 9, .unOp .not 4 (.tmp 8)⟩,
  ⟨none, some 10, .move (.tmp 9)⟩,
  ⟨some (10, false), some 11, .fieldAddr 24 (.tmp 1) 0⟩,
  ⟨some (10, false), some 12, .load 3 (.tmp 11)⟩,
  ⟨some (10, false), some 13, .fieldAddr 24 (.tmp 1) 1⟩,
  ⟨some (10, false), some 14, .load 3 (.tmp 13)⟩,
  ⟨some (10, false), some 15, .binOp .gtr 3 (.tmp 12) (.tmp 14) 3⟩,
  ⟨none, some 16, .pick (.tmp 10) (.const (.bool true)) (.tmp 15)⟩,
  ⟨none, some 2, .assign (.tmp 16)⟩]
abbrev k115 : Sk := .seq (.reg 0 false s115_0) (.seq (.reg 1 false s115_1) .ret)
theorem sk115 : (Try.f115.body.bind (skOf 17)) = some k115 := by kernel_rfl
theorem en115 {ys : Yls} {p0 : X} {S : St} {Q : Va → St → Bool → Prop} (h : ∀ R : St, S.n = R.n → S.h = R.h → R.lo = R.n → @Wp EE 115 ys false k115 [.x p0, .u, .u, .u, .u, .u, .u, .u, .u, .u, .u, .u, .u, .u, .u, .u, .u] (ext R []) ⟨exitQ EE [.tmp 2] S Q⟩) : ∃ r, res EE ys (.f 115) [p0] S = some r ∧ Q r.1 r.2.1 r.2.2 :=
  enter rfl (by kernel_rfl) sk115 (by kernel_rfl) (by kernel_rfl) ⟨rfl, by simp⟩ h

end Go.Proofs.Ytemjdhglaljhbaa.Z
