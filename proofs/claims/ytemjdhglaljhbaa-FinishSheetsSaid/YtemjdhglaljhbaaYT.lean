/- Facts of the seat's types, as the walks use them. Printed by genpieces.py. -/
import Derived.Test.YtemjdhglaljhbaaYC
import Derived.KernelRfl
namespace Go.Proofs.Ytemjdhglaljhbaa.Y
open Go.V
set_option maxRecDepth 100000
set_option linter.unusedSimpArgs false

@[simp] theorem ti3 : EE.ti 3 = some ⟨false, 1, 8, .c (.int .i64 0)⟩ := by kernel_rfl
@[simp] theorem sz3 : size? EE 3 = some 1 := by kernel_rfl
@[simp] theorem ze3 : zero? EE 3 = some (.c (.int .i64 0)) := by kernel_rfl
@[simp] theorem sh3 : EE.sh 3 = some (.int .i64) := by kernel_rfl
@[simp] theorem ti24 : EE.ti 24 = some ⟨true, 2, 16, .a [.int .i64 0, .int .i64 0]⟩ := by kernel_rfl
@[simp] theorem sz24 : size? EE 24 = some 2 := by kernel_rfl
@[simp] theorem ze24 : zero? EE 24 = some (.a [.int .i64 0, .int .i64 0]) := by kernel_rfl
@[simp] theorem sh24 : EE.sh 24 = some (.struct [(0, 3), (1, 3)]) := by kernel_rfl
@[simp] theorem st24 : stF EE 24 = some [(0, 3), (1, 3)] := by kernel_rfl
@[simp] theorem ti28 : EE.ti 28 = some ⟨false, 1, 8, .c (.int .i64 0)⟩ := by kernel_rfl
@[simp] theorem sz28 : size? EE 28 = some 1 := by kernel_rfl
@[simp] theorem ze28 : zero? EE 28 = some (.c (.int .i64 0)) := by kernel_rfl
@[simp] theorem sh28 : EE.sh 28 = some (.int .i64) := by kernel_rfl
@[simp] theorem ti30 : EE.ti 30 = some ⟨false, 1, 24, .c (.sl none 0)⟩ := by kernel_rfl
@[simp] theorem sz30 : size? EE 30 = some 1 := by kernel_rfl
@[simp] theorem ze30 : zero? EE 30 = some (.c (.sl none 0)) := by kernel_rfl
@[simp] theorem sh30 : EE.sh 30 = some (.slice 3) := by kernel_rfl
@[simp] theorem sl30 : slE EE 30 = some 3 := by kernel_rfl
@[simp] theorem ti35 : EE.ti 35 = some ⟨false, 1, 24, .c (.sl none 0)⟩ := by kernel_rfl
@[simp] theorem sz35 : size? EE 35 = some 1 := by kernel_rfl
@[simp] theorem ze35 : zero? EE 35 = some (.c (.sl none 0)) := by kernel_rfl
@[simp] theorem sh35 : EE.sh 35 = some (.slice 24) := by kernel_rfl
@[simp] theorem sl35 : slE EE 35 = some 24 := by kernel_rfl
@[simp] theorem ti37 : EE.ti 37 = some ⟨true, 5, 56, .a [.int .i64 0, .int .i64 0, .int .i64 0, .int .i64 0, .sl none 0]⟩ := by kernel_rfl
@[simp] theorem sz37 : size? EE 37 = some 5 := by kernel_rfl
@[simp] theorem ze37 : zero? EE 37 = some (.a [.int .i64 0, .int .i64 0, .int .i64 0, .int .i64 0, .sl none 0]) := by kernel_rfl
@[simp] theorem sh37 : EE.sh 37 = some (.struct [(0, 3), (1, 3), (2, 24), (4, 35)]) := by kernel_rfl
@[simp] theorem st37 : stF EE 37 = some [(0, 3), (1, 3), (2, 24), (4, 35)] := by kernel_rfl
@[simp] theorem ti49 : EE.ti 49 = some ⟨true, 2, 16, .a [.int .i64 0, .int .i64 0]⟩ := by kernel_rfl
@[simp] theorem sz49 : size? EE 49 = some 2 := by kernel_rfl
@[simp] theorem ze49 : zero? EE 49 = some (.a [.int .i64 0, .int .i64 0]) := by kernel_rfl
@[simp] theorem sh49 : EE.sh 49 = some (.struct [(0, 3), (1, 3)]) := by kernel_rfl
@[simp] theorem st49 : stF EE 49 = some [(0, 3), (1, 3)] := by kernel_rfl
@[simp] theorem ti51 : EE.ti 51 = some ⟨true, 6, 48, .a [.int .i64 0, .int .i64 0, .int .i64 0, .int .i64 0, .int .i64 0, .int .i64 0]⟩ := by kernel_rfl
@[simp] theorem sz51 : size? EE 51 = some 6 := by kernel_rfl
@[simp] theorem ze51 : zero? EE 51 = some (.a [.int .i64 0, .int .i64 0, .int .i64 0, .int .i64 0, .int .i64 0, .int .i64 0]) := by kernel_rfl
@[simp] theorem sh51 : EE.sh 51 = some (.struct [(0, 3), (1, 3), (2, 3), (3, 3), (4, 49)]) := by kernel_rfl
@[simp] theorem st51 : stF EE 51 = some [(0, 3), (1, 3), (2, 3), (3, 3), (4, 49)] := by kernel_rfl
@[simp] theorem ti60 : EE.ti 60 = some ⟨true, 4, 64, .a [.int .i64 0, .int .i64 0, .sl none 0, .sl none 0]⟩ := by kernel_rfl
@[simp] theorem sz60 : size? EE 60 = some 4 := by kernel_rfl
@[simp] theorem ze60 : zero? EE 60 = some (.a [.int .i64 0, .int .i64 0, .sl none 0, .sl none 0]) := by kernel_rfl
@[simp] theorem sh60 : EE.sh 60 = some (.struct [(0, 49), (2, 30), (3, 30)]) := by kernel_rfl
@[simp] theorem st60 : stF EE 60 = some [(0, 49), (2, 30), (3, 30)] := by kernel_rfl
@[simp] theorem ti67 : EE.ti 67 = some ⟨false, 1, 24, .c (.sl none 0)⟩ := by kernel_rfl
@[simp] theorem sz67 : size? EE 67 = some 1 := by kernel_rfl
@[simp] theorem ze67 : zero? EE 67 = some (.c (.sl none 0)) := by kernel_rfl
@[simp] theorem sh67 : EE.sh 67 = some (.slice 49) := by kernel_rfl
@[simp] theorem sl67 : slE EE 67 = some 49 := by kernel_rfl
@[simp] theorem ti72 : EE.ti 72 = some ⟨true, 3, 40, .a [.int .i64 0, .int .i64 0, .sl none 0]⟩ := by kernel_rfl
@[simp] theorem sz72 : size? EE 72 = some 3 := by kernel_rfl
@[simp] theorem ze72 : zero? EE 72 = some (.a [.int .i64 0, .int .i64 0, .sl none 0]) := by kernel_rfl
@[simp] theorem sh72 : EE.sh 72 = some (.struct [(0, 24), (2, 30)]) := by kernel_rfl
@[simp] theorem st72 : stF EE 72 = some [(0, 24), (2, 30)] := by kernel_rfl
@[simp] theorem ti76 : EE.ti 76 = some ⟨false, 1, 24, .c (.sl none 0)⟩ := by kernel_rfl
@[simp] theorem sz76 : size? EE 76 = some 1 := by kernel_rfl
@[simp] theorem ze76 : zero? EE 76 = some (.c (.sl none 0)) := by kernel_rfl
@[simp] theorem sh76 : EE.sh 76 = some (.slice 88) := by kernel_rfl
@[simp] theorem sl76 : slE EE 76 = some 88 := by kernel_rfl
@[simp] theorem ti86 : EE.ti 86 = some ⟨false, 1, 8, .c (.int .i64 0)⟩ := by kernel_rfl
@[simp] theorem sz86 : size? EE 86 = some 1 := by kernel_rfl
@[simp] theorem ze86 : zero? EE 86 = some (.c (.int .i64 0)) := by kernel_rfl
@[simp] theorem sh86 : EE.sh 86 = some (.int .i64) := by kernel_rfl
@[simp] theorem ti88 : EE.ti 88 = some ⟨true, 4, 32, .a [.int .i64 0, .int .i64 0, .int .i64 0, .int .i64 0]⟩ := by kernel_rfl
@[simp] theorem sz88 : size? EE 88 = some 4 := by kernel_rfl
@[simp] theorem ze88 : zero? EE 88 = some (.a [.int .i64 0, .int .i64 0, .int .i64 0, .int .i64 0]) := by kernel_rfl
@[simp] theorem sh88 : EE.sh 88 = some (.struct [(0, 86), (1, 24), (3, 3)]) := by kernel_rfl
@[simp] theorem st88 : stF EE 88 = some [(0, 86), (1, 24), (3, 3)] := by kernel_rfl
@[simp] theorem pa3 (cs : List C) (o : Nat) : part? EE 3 cs o = (cs[o]?).map .c := part_one (i := ⟨false, 1, 8, .c (.int .i64 0)⟩) (by kernel_rfl) rfl
@[simp] theorem pa24 (cs : List C) (o : Nat) : part? EE 24 cs o = if o + 2 ≤ cs.length then some (.a ((cs.drop o).take 2)) else none := part_agg (by kernel_rfl) (by kernel_rfl)
@[simp] theorem pl24 : place EE 24 = some fun i => [(0, 1), (1, 1)][i]? := by kernel_rfl
@[simp] theorem pa28 (cs : List C) (o : Nat) : part? EE 28 cs o = (cs[o]?).map .c := part_one (i := ⟨false, 1, 8, .c (.int .i64 0)⟩) (by kernel_rfl) rfl
@[simp] theorem pa30 (cs : List C) (o : Nat) : part? EE 30 cs o = (cs[o]?).map .c := part_one (i := ⟨false, 1, 24, .c (.sl none 0)⟩) (by kernel_rfl) rfl
@[simp] theorem ix30 (p : Nat × Nat) (n : Nat) (j : Int) : ixP EE 30 (.c (.sl (some p) n)) j = if 0 ≤ j ∧ j < n then some (p.1, p.2 + j.toNat * 1) else none := ix_slice sh30 sz3
@[simp] theorem mk30 (n m : Int) : mks EE 30 n m = if n = m ∧ 0 ≤ n ∧ n * 8 ≤ maxBytes ∧ n ≤ maxBytes then some ((List.replicate n.toNat (X.cells (.c (.int .i64 0)))).flatten, 1) else none := mks_of sl30 ti3 (by decide) rfl
@[simp] theorem pa35 (cs : List C) (o : Nat) : part? EE 35 cs o = (cs[o]?).map .c := part_one (i := ⟨false, 1, 24, .c (.sl none 0)⟩) (by kernel_rfl) rfl
@[simp] theorem ix35 (p : Nat × Nat) (n : Nat) (j : Int) : ixP EE 35 (.c (.sl (some p) n)) j = if 0 ≤ j ∧ j < n then some (p.1, p.2 + j.toNat * 2) else none := ix_slice sh35 sz24
@[simp] theorem mk35 (n m : Int) : mks EE 35 n m = if n = m ∧ 0 ≤ n ∧ n * 16 ≤ maxBytes ∧ n ≤ maxBytes then some ((List.replicate n.toNat (X.cells (.a [.int .i64 0, .int .i64 0]))).flatten, 2) else none := mks_of sl35 ti24 (by decide) rfl
@[simp] theorem pa37 (cs : List C) (o : Nat) : part? EE 37 cs o = if o + 5 ≤ cs.length then some (.a ((cs.drop o).take 5)) else none := part_agg (by kernel_rfl) (by kernel_rfl)
@[simp] theorem pl37 : place EE 37 = some fun i => [(0, 1), (1, 1), (2, 2), (4, 1)][i]? := by kernel_rfl
@[simp] theorem pa49 (cs : List C) (o : Nat) : part? EE 49 cs o = if o + 2 ≤ cs.length then some (.a ((cs.drop o).take 2)) else none := part_agg (by kernel_rfl) (by kernel_rfl)
@[simp] theorem pl49 : place EE 49 = some fun i => [(0, 1), (1, 1)][i]? := by kernel_rfl
@[simp] theorem pa51 (cs : List C) (o : Nat) : part? EE 51 cs o = if o + 6 ≤ cs.length then some (.a ((cs.drop o).take 6)) else none := part_agg (by kernel_rfl) (by kernel_rfl)
@[simp] theorem pl51 : place EE 51 = some fun i => [(0, 1), (1, 1), (2, 1), (3, 1), (4, 2)][i]? := by kernel_rfl
@[simp] theorem pa60 (cs : List C) (o : Nat) : part? EE 60 cs o = if o + 4 ≤ cs.length then some (.a ((cs.drop o).take 4)) else none := part_agg (by kernel_rfl) (by kernel_rfl)
@[simp] theorem pl60 : place EE 60 = some fun i => [(0, 2), (2, 1), (3, 1)][i]? := by kernel_rfl
@[simp] theorem pa67 (cs : List C) (o : Nat) : part? EE 67 cs o = (cs[o]?).map .c := part_one (i := ⟨false, 1, 24, .c (.sl none 0)⟩) (by kernel_rfl) rfl
@[simp] theorem ix67 (p : Nat × Nat) (n : Nat) (j : Int) : ixP EE 67 (.c (.sl (some p) n)) j = if 0 ≤ j ∧ j < n then some (p.1, p.2 + j.toNat * 2) else none := ix_slice sh67 sz49
@[simp] theorem mk67 (n m : Int) : mks EE 67 n m = if n = m ∧ 0 ≤ n ∧ n * 16 ≤ maxBytes ∧ n ≤ maxBytes then some ((List.replicate n.toNat (X.cells (.a [.int .i64 0, .int .i64 0]))).flatten, 2) else none := mks_of sl67 ti49 (by decide) rfl
@[simp] theorem pa72 (cs : List C) (o : Nat) : part? EE 72 cs o = if o + 3 ≤ cs.length then some (.a ((cs.drop o).take 3)) else none := part_agg (by kernel_rfl) (by kernel_rfl)
@[simp] theorem pl72 : place EE 72 = some fun i => [(0, 2), (2, 1)][i]? := by kernel_rfl
@[simp] theorem pa76 (cs : List C) (o : Nat) : part? EE 76 cs o = (cs[o]?).map .c := part_one (i := ⟨false, 1, 24, .c (.sl none 0)⟩) (by kernel_rfl) rfl
@[simp] theorem ix76 (p : Nat × Nat) (n : Nat) (j : Int) : ixP EE 76 (.c (.sl (some p) n)) j = if 0 ≤ j ∧ j < n then some (p.1, p.2 + j.toNat * 4) else none := ix_slice sh76 sz88
@[simp] theorem mk76 (n m : Int) : mks EE 76 n m = if n = m ∧ 0 ≤ n ∧ n * 32 ≤ maxBytes ∧ n ≤ maxBytes then some ((List.replicate n.toNat (X.cells (.a [.int .i64 0, .int .i64 0, .int .i64 0, .int .i64 0]))).flatten, 4) else none := mks_of sl76 ti88 (by decide) rfl
@[simp] theorem pa86 (cs : List C) (o : Nat) : part? EE 86 cs o = (cs[o]?).map .c := part_one (i := ⟨false, 1, 8, .c (.int .i64 0)⟩) (by kernel_rfl) rfl
@[simp] theorem pa88 (cs : List C) (o : Nat) : part? EE 88 cs o = if o + 4 ≤ cs.length then some (.a ((cs.drop o).take 4)) else none := part_agg (by kernel_rfl) (by kernel_rfl)
@[simp] theorem pl88 : place EE 88 = some fun i => [(0, 1), (1, 2), (3, 1)][i]? := by kernel_rfl
@[simp] theorem fa37_2 : faOff EE 37 2 = some 2 := by kernel_rfl
@[simp] theorem fa37_3 : faOff EE 37 3 = some 4 := by kernel_rfl
@[simp] theorem fa51_4 : faOff EE 51 4 = some 4 := by kernel_rfl
@[simp] theorem fa60_0 : faOff EE 60 0 = some 0 := by kernel_rfl
@[simp] theorem bs30_1 (ps : List (Nat × X)) : bsl EE 30 1 ps = (fill (fun j => some (j * 1, 1)) (List.replicate 1 (X.cells (.c (.int .i64 0)))).flatten ps).map fun cs => (cs, 1) := bsl_of sl30 ti3 (by decide) (by decide) rfl
@[simp] theorem bs30_2 (ps : List (Nat × X)) : bsl EE 30 2 ps = (fill (fun j => some (j * 1, 1)) (List.replicate 2 (X.cells (.c (.int .i64 0)))).flatten ps).map fun cs => (cs, 1) := bsl_of sl30 ti3 (by decide) (by decide) rfl
@[simp] theorem bs30_4 (ps : List (Nat × X)) : bsl EE 30 4 ps = (fill (fun j => some (j * 1, 1)) (List.replicate 4 (X.cells (.c (.int .i64 0)))).flatten ps).map fun cs => (cs, 1) := bsl_of sl30 ti3 (by decide) (by decide) rfl
@[simp] theorem bs35_2 (ps : List (Nat × X)) : bsl EE 35 2 ps = (fill (fun j => some (j * 2, 2)) (List.replicate 2 (X.cells (.a [.int .i64 0, .int .i64 0]))).flatten ps).map fun cs => (cs, 2) := bsl_of sl35 ti24 (by decide) (by decide) rfl
@[simp] theorem bs76_1 (ps : List (Nat × X)) : bsl EE 76 1 ps = (fill (fun j => some (j * 4, 4)) (List.replicate 1 (X.cells (.a [.int .i64 0, .int .i64 0, .int .i64 0, .int .i64 0]))).flatten ps).map fun cs => (cs, 4) := bsl_of sl76 ti88 (by decide) (by decide) rfl
@[simp] theorem cd16_14 : EE.cd 16 14 = [] := by kernel_rfl
theorem eqT_EE : EE.eqT = [24, 49, 51, 165, 148] := by kernel_rfl
@[simp] theorem eql24 (a0 b0 : Int) (a1 b1 : Int) : bin EE .eql 24 (.a [.int .i64 a0, .int .i64 a1]) (.a [.int .i64 b0, .int .i64 b1]) = some (.bool (decide (a0 = b0) && (decide (a1 = b1)))) := by
  have hc : (EE.eqT.contains 24 && (zero? EE 24).any fun z => (eqCells [.int .i64 a0, .int .i64 a1] z.cells).isSome) = true := by rw [eqT_EE, ze24]; simp [eqCells, C.eq?]
  simp only [bin, hc, if_true, eqCells, C.eq?, eqOut, Option.bind_eq_bind, Option.bind_some]
  simp only [int_beq, bool_beq, Bool.and_true]
@[simp] theorem neq24 (a0 b0 : Int) (a1 b1 : Int) : bin EE .neq 24 (.a [.int .i64 a0, .int .i64 a1]) (.a [.int .i64 b0, .int .i64 b1]) = some (.bool (!(decide (a0 = b0) && (decide (a1 = b1))))) := by
  have hc : (EE.eqT.contains 24 && (zero? EE 24).any fun z => (eqCells [.int .i64 a0, .int .i64 a1] z.cells).isSome) = true := by rw [eqT_EE, ze24]; simp [eqCells, C.eq?]
  simp only [bin, hc, if_true, eqCells, C.eq?, eqOut, Option.bind_eq_bind, Option.bind_some]
  simp only [int_beq, bool_beq, Bool.and_true]
@[simp] theorem eql49 (a0 b0 : Int) (a1 b1 : Int) : bin EE .eql 49 (.a [.int .i64 a0, .int .i64 a1]) (.a [.int .i64 b0, .int .i64 b1]) = some (.bool (decide (a0 = b0) && (decide (a1 = b1)))) := by
  have hc : (EE.eqT.contains 49 && (zero? EE 49).any fun z => (eqCells [.int .i64 a0, .int .i64 a1] z.cells).isSome) = true := by rw [eqT_EE, ze49]; simp [eqCells, C.eq?]
  simp only [bin, hc, if_true, eqCells, C.eq?, eqOut, Option.bind_eq_bind, Option.bind_some]
  simp only [int_beq, bool_beq, Bool.and_true]
@[simp] theorem neq49 (a0 b0 : Int) (a1 b1 : Int) : bin EE .neq 49 (.a [.int .i64 a0, .int .i64 a1]) (.a [.int .i64 b0, .int .i64 b1]) = some (.bool (!(decide (a0 = b0) && (decide (a1 = b1))))) := by
  have hc : (EE.eqT.contains 49 && (zero? EE 49).any fun z => (eqCells [.int .i64 a0, .int .i64 a1] z.cells).isSome) = true := by rw [eqT_EE, ze49]; simp [eqCells, C.eq?]
  simp only [bin, hc, if_true, eqCells, C.eq?, eqOut, Option.bind_eq_bind, Option.bind_some]
  simp only [int_beq, bool_beq, Bool.and_true]
@[simp] theorem eql51 (a0 b0 : Int) (a1 b1 : Int) (a2 b2 : Int) (a3 b3 : Int) (a4 b4 : Int) (a5 b5 : Int) : bin EE .eql 51 (.a [.int .i64 a0, .int .i64 a1, .int .i64 a2, .int .i64 a3, .int .i64 a4, .int .i64 a5]) (.a [.int .i64 b0, .int .i64 b1, .int .i64 b2, .int .i64 b3, .int .i64 b4, .int .i64 b5]) = some (.bool (decide (a0 = b0) && (decide (a1 = b1) && (decide (a2 = b2) && (decide (a3 = b3) && (decide (a4 = b4) && (decide (a5 = b5)))))))) := by
  have hc : (EE.eqT.contains 51 && (zero? EE 51).any fun z => (eqCells [.int .i64 a0, .int .i64 a1, .int .i64 a2, .int .i64 a3, .int .i64 a4, .int .i64 a5] z.cells).isSome) = true := by rw [eqT_EE, ze51]; simp [eqCells, C.eq?]
  simp only [bin, hc, if_true, eqCells, C.eq?, eqOut, Option.bind_eq_bind, Option.bind_some]
  simp only [int_beq, bool_beq, Bool.and_true]
@[simp] theorem neq51 (a0 b0 : Int) (a1 b1 : Int) (a2 b2 : Int) (a3 b3 : Int) (a4 b4 : Int) (a5 b5 : Int) : bin EE .neq 51 (.a [.int .i64 a0, .int .i64 a1, .int .i64 a2, .int .i64 a3, .int .i64 a4, .int .i64 a5]) (.a [.int .i64 b0, .int .i64 b1, .int .i64 b2, .int .i64 b3, .int .i64 b4, .int .i64 b5]) = some (.bool (!(decide (a0 = b0) && (decide (a1 = b1) && (decide (a2 = b2) && (decide (a3 = b3) && (decide (a4 = b4) && (decide (a5 = b5))))))))) := by
  have hc : (EE.eqT.contains 51 && (zero? EE 51).any fun z => (eqCells [.int .i64 a0, .int .i64 a1, .int .i64 a2, .int .i64 a3, .int .i64 a4, .int .i64 a5] z.cells).isSome) = true := by rw [eqT_EE, ze51]; simp [eqCells, C.eq?]
  simp only [bin, hc, if_true, eqCells, C.eq?, eqOut, Option.bind_eq_bind, Option.bind_some]
  simp only [int_beq, bool_beq, Bool.and_true]
end Go.Proofs.Ytemjdhglaljhbaa.Y
