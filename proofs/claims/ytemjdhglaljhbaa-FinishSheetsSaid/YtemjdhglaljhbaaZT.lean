/- Facts of the seat's types, as the walks use them. Printed by genpieces.py. -/
import Derived.Test.YtemjdhglaljhbaaVGG
import Derived.KernelRfl
namespace Go.Proofs.Ytemjdhglaljhbaa.Z
open Go.V
set_option maxRecDepth 100000
set_option linter.unusedSimpArgs false

/-- The environment without functions that are taken as given. -/
noncomputable def EE : Env := envOf fun _ => none
@[simp] theorem ti3 : EE.ti 3 = some ⟨false, 1, 8, .c (.int .i64 0)⟩ := by kernel_rfl
@[simp] theorem sz3 : size? EE 3 = some 1 := by kernel_rfl
@[simp] theorem ze3 : zero? EE 3 = some (.c (.int .i64 0)) := by kernel_rfl
@[simp] theorem sh3 : EE.sh 3 = some (.int .i64) := by kernel_rfl
@[simp] theorem ti24 : EE.ti 24 = some ⟨true, 2, 16, .a [.int .i64 0, .int .i64 0]⟩ := by kernel_rfl
@[simp] theorem sz24 : size? EE 24 = some 2 := by kernel_rfl
@[simp] theorem ze24 : zero? EE 24 = some (.a [.int .i64 0, .int .i64 0]) := by kernel_rfl
@[simp] theorem sh24 : EE.sh 24 = some (.struct [(0, 3), (1, 3)]) := by kernel_rfl
@[simp] theorem st24 : stF EE 24 = some [(0, 3), (1, 3)] := by kernel_rfl
@[simp] theorem ti28 : EE.ti 28 = some ⟨false, 1, 8, .c (.int .i64 0)⟩ := by kernel_rfl
@[simp] theorem sz28 : size? EE 28 = some 1 := by kernel_rfl
@[simp] theorem ze28 : zero? EE 28 = some (.c (.int .i64 0)) := by kernel_rfl
@[simp] theorem sh28 : EE.sh 28 = some (.int .i64) := by kernel_rfl
@[simp] theorem ti30 : EE.ti 30 = some ⟨false, 1, 24, .c (.sl none 0)⟩ := by kernel_rfl
@[simp] theorem sz30 : size? EE 30 = some 1 := by kernel_rfl
@[simp] theorem ze30 : zero? EE 30 = some (.c (.sl none 0)) := by kernel_rfl
@[simp] theorem sh30 : EE.sh 30 = some (.slice 3) := by kernel_rfl
@[simp] theorem sl30 : slE EE 30 = some 3 := by kernel_rfl
@[simp] theorem ti35 : EE.ti 35 = some ⟨false, 1, 24, .c (.sl none 0)⟩ := by kernel_rfl
@[simp] theorem sz35 : size? EE 35 = some 1 := by kernel_rfl
@[simp] theorem ze35 : zero? EE 35 = some (.c (.sl none 0)) := by kernel_rfl
@[simp] theorem sh35 : EE.sh 35 = some (.slice 24) := by kernel_rfl
@[simp] theorem sl35 : slE EE 35 = some 24 := by kernel_rfl
@[simp] theorem ti72 : EE.ti 72 = some ⟨true, 3, 40, .a [.int .i64 0, .int .i64 0, .sl none 0]⟩ := by kernel_rfl
@[simp] theorem sz72 : size? EE 72 = some 3 := by kernel_rfl
@[simp] theorem ze72 : zero? EE 72 = some (.a [.int .i64 0, .int .i64 0, .sl none 0]) := by kernel_rfl
@[simp] theorem sh72 : EE.sh 72 = some (.struct [(0, 24), (2, 30)]) := by kernel_rfl
@[simp] theorem st72 : stF EE 72 = some [(0, 24), (2, 30)] := by kernel_rfl
@[simp] theorem ti116 : EE.ti 116 = some ⟨true, 2, 16, .a [.int .i64 0, .int .i64 0]⟩ := by kernel_rfl
@[simp] theorem sz116 : size? EE 116 = some 2 := by kernel_rfl
@[simp] theorem ze116 : zero? EE 116 = some (.a [.int .i64 0, .int .i64 0]) := by kernel_rfl
@[simp] theorem sh116 : EE.sh 116 = some (.array 2 3) := by kernel_rfl
@[simp] theorem pa3 (cs : List C) (o : Nat) : part? EE 3 cs o = (cs[o]?).map .c := part_one (i := ⟨false, 1, 8, .c (.int .i64 0)⟩) (by kernel_rfl) rfl
@[simp] theorem pa24 (cs : List C) (o : Nat) : part? EE 24 cs o = if o + 2 ≤ cs.length then some (.a ((cs.drop o).take 2)) else none := part_agg (by kernel_rfl) (by kernel_rfl)
@[simp] theorem pl24 : place EE 24 = some fun i => [(0, 1), (1, 1)][i]? := by kernel_rfl
@[simp] theorem pa28 (cs : List C) (o : Nat) : part? EE 28 cs o = (cs[o]?).map .c := part_one (i := ⟨false, 1, 8, .c (.int .i64 0)⟩) (by kernel_rfl) rfl
@[simp] theorem pa30 (cs : List C) (o : Nat) : part? EE 30 cs o = (cs[o]?).map .c := part_one (i := ⟨false, 1, 24, .c (.sl none 0)⟩) (by kernel_rfl) rfl
@[simp] theorem ix30 (p : Nat × Nat) (n : Nat) (j : Int) : ixP EE 30 (.c (.sl (some p) n)) j = if 0 ≤ j ∧ j < n then some (p.1, p.2 + j.toNat * 1) else none := ix_slice sh30 sz3
@[simp] theorem mk30 (n m : Int) : mks EE 30 n m = if n = m ∧ 0 ≤ n ∧ n * 8 ≤ maxBytes ∧ n ≤ maxBytes then some ((List.replicate n.toNat (X.cells (.c (.int .i64 0)))).flatten, 1) else none := mks_of sl30 ti3 (by decide) rfl
@[simp] theorem pa35 (cs : List C) (o : Nat) : part? EE 35 cs o = (cs[o]?).map .c := part_one (i := ⟨false, 1, 24, .c (.sl none 0)⟩) (by kernel_rfl) rfl
@[simp] theorem ix35 (p : Nat × Nat) (n : Nat) (j : Int) : ixP EE 35 (.c (.sl (some p) n)) j = if 0 ≤ j ∧ j < n then some (p.1, p.2 + j.toNat * 2) else none := ix_slice sh35 sz24
@[simp] theorem mk35 (n m : Int) : mks EE 35 n m = if n = m ∧ 0 ≤ n ∧ n * 16 ≤ maxBytes ∧ n ≤ maxBytes then some ((List.replicate n.toNat (X.cells (.a [.int .i64 0, .int .i64 0]))).flatten, 2) else none := mks_of sl35 ti24 (by decide) rfl
@[simp] theorem pa72 (cs : List C) (o : Nat) : part? EE 72 cs o = if o + 3 ≤ cs.length then some (.a ((cs.drop o).take 3)) else none := part_agg (by kernel_rfl) (by kernel_rfl)
@[simp] theorem pl72 : place EE 72 = some fun i => [(0, 2), (2, 1)][i]? := by kernel_rfl
@[simp] theorem pa116 (cs : List C) (o : Nat) : part? EE 116 cs o = if o + 2 ≤ cs.length then some (.a ((cs.drop o).take 2)) else none := part_agg (by kernel_rfl) (by kernel_rfl)
@[simp] theorem ar116 : arE EE 116 = some (2, 3) := by kernel_rfl
@[simp] theorem ix116 (p : Nat × Nat) (j : Int) : ixP EE 116 (.c (.ptr (some p))) j = if 0 ≤ j ∧ j < 2 then some (p.1, p.2 + j.toNat * 1) else none := ix_array sh116 sz3
theorem pl116 : place EE 116 = some fun i => some (i * 1, 1) := by kernel_rfl
@[simp] theorem pl116' : place EE 116 = some fun i => some (i * 1, 1) := pl116
@[simp] theorem fa24_0 : faOff EE 24 0 = some 0 := by kernel_rfl
@[simp] theorem fa24_1 : faOff EE 24 1 = some 1 := by kernel_rfl
@[simp] theorem fa72_0 : faOff EE 72 0 = some 0 := by kernel_rfl
@[simp] theorem fa72_1 : faOff EE 72 1 = some 2 := by kernel_rfl
@[simp] theorem bs30_2 (ps : List (Nat × X)) : bsl EE 30 2 ps = (fill (fun j => some (j * 1, 1)) (List.replicate 2 (X.cells (.c (.int .i64 0)))).flatten ps).map fun cs => (cs, 1) := bsl_of sl30 ti3 (by decide) (by decide) rfl
@[simp] theorem bs35_1 (ps : List (Nat × X)) : bsl EE 35 1 ps = (fill (fun j => some (j * 2, 2)) (List.replicate 1 (X.cells (.a [.int .i64 0, .int .i64 0]))).flatten ps).map fun cs => (cs, 2) := bsl_of sl35 ti24 (by decide) (by decide) rfl
@[simp] theorem bs35_2 (ps : List (Nat × X)) : bsl EE 35 2 ps = (fill (fun j => some (j * 2, 2)) (List.replicate 2 (X.cells (.a [.int .i64 0, .int .i64 0]))).flatten ps).map fun cs => (cs, 2) := bsl_of sl35 ti24 (by decide) (by decide) rfl
@[simp] theorem ap35_35 : apI EE #[35, 35] = some (2, 16) := by kernel_rfl
@[simp] theorem cd38_4 : EE.cd 38 4 = [(0, 1)] := by kernel_rfl
@[simp] theorem cd38_19 : EE.cd 38 19 = [] := by kernel_rfl
@[simp] theorem cd73_7 : EE.cd 73 7 = [(0, 2)] := by kernel_rfl
@[simp] theorem cd95_4 : EE.cd 95 4 = [] := by kernel_rfl
theorem eqT_EE : EE.eqT = [24, 49, 51, 165, 148] := by kernel_rfl
@[simp] theorem eql24 (a0 b0 : Int) (a1 b1 : Int) : bin EE .eql 24 (.a [.int .i64 a0, .int .i64 a1]) (.a [.int .i64 b0, .int .i64 b1]) = some (.bool (decide (a0 = b0) && (decide (a1 = b1)))) := by
  have hc : (EE.eqT.contains 24 && (zero? EE 24).any fun z => (eqCells [.int .i64 a0, .int .i64 a1] z.cells).isSome) = true := by rw [eqT_EE, ze24]; simp [eqCells, C.eq?]
  simp only [bin, hc, if_true, eqCells, C.eq?, eqOut, Option.bind_eq_bind, Option.bind_some]
  simp only [int_beq, bool_beq, Bool.and_true]
@[simp] theorem neq24 (a0 b0 : Int) (a1 b1 : Int) : bin EE .neq 24 (.a [.int .i64 a0, .int .i64 a1]) (.a [.int .i64 b0, .int .i64 b1]) = some (.bool (!(decide (a0 = b0) && (decide (a1 = b1))))) := by
  have hc : (EE.eqT.contains 24 && (zero? EE 24).any fun z => (eqCells [.int .i64 a0, .int .i64 a1] z.cells).isSome) = true := by rw [eqT_EE, ze24]; simp [eqCells, C.eq?]
  simp only [bin, hc, if_true, eqCells, C.eq?, eqOut, Option.bind_eq_bind, Option.bind_some]
  simp only [int_beq, bool_beq, Bool.and_true]
end Go.Proofs.Ytemjdhglaljhbaa.Z
