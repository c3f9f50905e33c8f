/- known: the calls of the law's own run of the example, run by the kernel in the empty state. -/
import Derived.Test.YtemjdhglaljhbaaYK
namespace Go.Proofs.Ytemjdhglaljhbaa.Y
open Go.V
set_option maxRecDepth 10000
set_option linter.unusedSimpArgs false
set_option linter.unusedVariables false

abbrev bl (l : List Int) (k : Option Nat) : Option Blk := some ⟨l.map fun n => .int .i64 n, k, true⟩
theorem c47 {L : List (Option Blk)} (hL : L = []) : res EE (fun _ => none) (.f 47) [] (ext St0 L) = some (.x (.c (.sl (some (St0.n, 0)) 2)), ext St0 (L ++ [bl [-1, 1000000, 1000000, 0, 0, 9, 0, 999000, 1001000, -1, 1, 5] (some 6)]), true) := by
  subst hL
  exact res_run (by decide) (by kernel_rfl)
/-- The blocks, in the order in which they are laid. -/
def LL : List (Option Blk) := [bl [-1, 1000000, 1000000, 0, 0, 9, 0, 999000, 1001000, -1, 1, 5] (some 6),
  bl [1, 0] (some 1),
  some ⟨[.int .i64 998, .int .i64 1002], none, true⟩,
  bl [0, 0, 2, 2, 3, 3, 1, 2] (some 2),
  some ⟨[.int .i64 700, .int .i64 713], none, true⟩,
  bl [0, 0, 2, 2, 3, 3, 1, 2] (some 2),
  some ⟨[.int .i64 3, .int .i64 3], none, true⟩,
  bl [0, 0, 2, 2, 3, 3, 1, 2] (some 2),
  some ⟨[.int .i64 1, .int .i64 20, .int .i64 25, .int .i64 1], some 4, true⟩,
  bl [-1, 1, 1, 3, 2, 4, 0, 3] (some 2),
  some ⟨[.int .i64 2, .int .i64 2, .int .i64 675, .int .i64 690, .sl (some (St0.n + 9, 0)) 4], none, true⟩,
  some ⟨[.int .i64 0, .int .i64 0, .int .i64 0, .int .i64 4], some 1, true⟩,
  some ⟨[.int .i64 2, .int .i64 2, .int .i64 (-1), .int .i64 1, .int .i64 1, .int .i64 1], none, true⟩,
  bl [0, 0, 2, 2, 3, 3, 1, 2] (some 2),
  bl [0, 1, 2, 3] (some 1),
  bl [-1, 1, 1, -1] (some 1),
  bl [0, 1, 2, 3] (some 1),
  bl [-1, 1, 1, -1] (some 1),
  some ⟨[.int .i64 3, .int .i64 4, .sl (some (St0.n + 14, 0)) 4, .sl (some (St0.n + 15, 0)) 4], none, true⟩,
  some ⟨[.int .i64 1, .int .i64 1, .sl (some (St0.n + 16, 0)) 4, .sl (some (St0.n + 17, 0)) 4], none, true⟩,
  bl [0, 0, 2, 2, 3, 3, 1, 2] (some 2),
  some ⟨[.int .i64 0, .int .i64 1, .int .i64 2, .int .i64 3], some 1, true⟩,
  some ⟨[.int .i64 (-1), .int .i64 1, .int .i64 1, .int .i64 (-1)], some 1, true⟩,
  bl [0, 0, 2, 2, 3, 3, 1, 2] (some 2),
  bl [1, 1] (some 2),
  some ⟨[.int .i64 10, .int .i64 12, .int .i64 5, .int .i64 6], some 2, true⟩,
  some ⟨[.int .i64 0, .int .i64 1], some 1, true⟩,
  some ⟨[.int .i64 0], some 1, true⟩]
theorem c18 {L : List (Option Blk)} (hL : L = LL.take 1) : res EE (fun _ => none) (.f 18) [.c (.sl (some (St0.n, 0)) 2), .c (.int .i64 1), .c (.int .i64 5), .a [.int .i64 1000, .int .i64 1000]] (ext St0 L) = some (.t [.a [.int .i64 998, .int .i64 1002], .c (.sl (some (St0.n + 1, 0)) 2), .c (.int .i64 0)], ext St0 (L ++ [bl [1, 0] (some 1)]), true) := by
  subst hL
  exact res_run (by decide) (by kernel_rfl)
theorem c48a {L : List (Option Blk)} (hL : L = LL.take 3) : res EE (fun _ => none) (.f 48) [] (ext St0 L) = some (.x (.a [.int .i64 2, .int .i64 2, .int .i64 700, .int .i64 710, .sl (some (St0.n + 3, 0)) 4]), ext St0 (L ++ [bl [0, 0, 2, 2, 3, 3, 1, 2] (some 2)]), true) := by
  subst hL
  exact res_run (by decide) (by kernel_rfl)
theorem c23 {L : List (Option Blk)} (hL : L = LL.take 4) : res EE (fun _ => none) (.f 23) [.a [.int .i64 2, .int .i64 2, .int .i64 700, .int .i64 710, .sl (some (St0.n + 3, 0)) 4]] (ext St0 L) = some (.t [.a [.int .i64 700, .int .i64 713], .c (.int .i64 0)], ext St0 (L ++ []), true) := by
  subst hL
  exact res_run (by decide) (by kernel_rfl)
theorem c48b {L : List (Option Blk)} (hL : L = LL.take 5) : res EE (fun _ => none) (.f 48) [] (ext St0 L) = some (.x (.a [.int .i64 2, .int .i64 2, .int .i64 700, .int .i64 710, .sl (some (St0.n + 5, 0)) 4]), ext St0 (L ++ [bl [0, 0, 2, 2, 3, 3, 1, 2] (some 2)]), true) := by
  subst hL
  exact res_run (by decide) (by kernel_rfl)
theorem c24 {L : List (Option Blk)} (hL : L = LL.take 6) : res EE (fun _ => none) (.f 24) [.a [.int .i64 2, .int .i64 2, .int .i64 700, .int .i64 710, .sl (some (St0.n + 5, 0)) 4]] (ext St0 L) = some (.t [.a [.int .i64 3, .int .i64 3], .c (.int .i64 2), .c (.int .i64 0), .c (.int .i64 0)], ext St0 (L ++ []), true) := by
  subst hL
  exact res_run (by decide) (by kernel_rfl)
theorem c48c {L : List (Option Blk)} (hL : L = LL.take 7) : res EE (fun _ => none) (.f 48) [] (ext St0 L) = some (.x (.a [.int .i64 2, .int .i64 2, .int .i64 700, .int .i64 710, .sl (some (St0.n + 7, 0)) 4]), ext St0 (L ++ [bl [0, 0, 2, 2, 3, 3, 1, 2] (some 2)]), true) := by
  subst hL
  exact res_run (by decide) (by kernel_rfl)
theorem c41 {L : List (Option Blk)} (hL : L = LL.take 9) : res EE (fun _ => none) (.f 41) [.a [.int .i64 2, .int .i64 2, .int .i64 700, .int .i64 710, .sl (some (St0.n + 7, 0)) 4], .c (.sl (some (St0.n + 8, 0)) 1)] (ext St0 L) = some (.t [.a [.int .i64 2, .int .i64 2, .int .i64 675, .int .i64 690, .sl (some (St0.n + 9, 0)) 4], .c (.int .i64 0)], ext St0 (L ++ [bl [-1, 1, 1, 3, 2, 4, 0, 3] (some 2)]), true) := by
  subst hL
  exact res_run (by decide) (by kernel_rfl)
theorem c28 {L : List (Option Blk)} (hL : L = LL.take 12) : res EE (fun _ => none) (.f 28) [.c (.int .i64 2), .c (.int .i64 2), .c (.sl (some (St0.n + 11, 0)) 4)] (ext St0 L) = some (.t [.a [.int .i64 2, .int .i64 2, .int .i64 (-1), .int .i64 1, .int .i64 1, .int .i64 1], .c (.int .i64 0)], ext St0 (L ++ []), true) := by
  subst hL
  exact res_run (by decide) (by kernel_rfl)
theorem c48d {L : List (Option Blk)} (hL : L = LL.take 13) : res EE (fun _ => none) (.f 48) [] (ext St0 L) = some (.x (.a [.int .i64 2, .int .i64 2, .int .i64 700, .int .i64 710, .sl (some (St0.n + 13, 0)) 4]), ext St0 (L ++ [bl [0, 0, 2, 2, 3, 3, 1, 2] (some 2)]), true) := by
  subst hL
  exact res_run (by decide) (by kernel_rfl)
theorem c32 {L : List (Option Blk)} (hL : L = LL.take 14) : res EE (fun _ => none) (.f 32) [.a [.int .i64 2, .int .i64 2, .int .i64 700, .int .i64 710, .sl (some (St0.n + 13, 0)) 4]] (ext St0 L) = some (.t [.a [.int .i64 3, .int .i64 4, .sl (some (St0.n + 14, 0)) 4, .sl (some (St0.n + 15, 0)) 4], .a [.int .i64 1, .int .i64 1, .sl (some (St0.n + 16, 0)) 4, .sl (some (St0.n + 17, 0)) 4], .c (.int .i64 0)], ext St0 (L ++ [bl [0, 1, 2, 3] (some 1), bl [-1, 1, 1, -1] (some 1), bl [0, 1, 2, 3] (some 1), bl [-1, 1, 1, -1] (some 1)]), true) := by
  subst hL
  exact res_run (by decide) (by kernel_rfl)
theorem c48e {L : List (Option Blk)} (hL : L = LL.take 20) : res EE (fun _ => none) (.f 48) [] (ext St0 L) = some (.x (.a [.int .i64 2, .int .i64 2, .int .i64 700, .int .i64 710, .sl (some (St0.n + 20, 0)) 4]), ext St0 (L ++ [bl [0, 0, 2, 2, 3, 3, 1, 2] (some 2)]), true) := by
  subst hL
  exact res_run (by decide) (by kernel_rfl)
theorem c34 {L : List (Option Blk)} (hL : L = LL.take 23) : res EE (fun _ => none) (.f 34) [.a [.int .i64 2, .int .i64 2, .int .i64 700, .int .i64 710, .sl (some (St0.n + 20, 0)) 4], .a [.int .i64 1, .int .i64 1, .sl (some (St0.n + 21, 0)) 4, .sl (some (St0.n + 22, 0)) 4], .c (.bool true)] (ext St0 L) = some (.t [.c (.bool true), .c (.int .i64 0)], ext St0 (L ++ []), true) := by
  subst hL
  exact res_run (by decide) (by kernel_rfl)
theorem c48f {L : List (Option Blk)} (hL : L = LL.take 23) : res EE (fun _ => none) (.f 48) [] (ext St0 L) = some (.x (.a [.int .i64 2, .int .i64 2, .int .i64 700, .int .i64 710, .sl (some (St0.n + 23, 0)) 4]), ext St0 (L ++ [bl [0, 0, 2, 2, 3, 3, 1, 2] (some 2)]), true) := by
  subst hL
  exact res_run (by decide) (by kernel_rfl)
theorem c36 {L : List (Option Blk)} (hL : L = LL.take 24) : res EE (fun _ => none) (.f 36) [.a [.int .i64 2, .int .i64 2, .int .i64 700, .int .i64 710, .sl (some (St0.n + 23, 0)) 4], .c (.int .i64 2), .c (.int .i64 2)] (ext St0 L) = some (.t [.c (.sl (some (St0.n + 24, 0)) 1), .c (.int .i64 0)], ext St0 (L ++ [bl [1, 1] (some 2)]), true) := by
  subst hL
  exact res_run (by decide) (by kernel_rfl)
theorem c38 {L : List (Option Blk)} (hL : L = LL.take 28) : res EE (fun _ => none) (.f 38) [.c (.sl (some (St0.n + 25, 0)) 2), .a [.int .i64 100, .int .i64 101, .sl (some (St0.n + 26, 0)) 2], .a [.int .i64 90, .int .i64 90, .sl (some (St0.n + 27, 0)) 1]] (ext St0 L) = some (.t [.a [.int .i64 4, .int .i64 6], .c (.int .i64 0)], ext St0 (L ++ []), true) := by
  subst hL
  exact res_run (by decide) (by kernel_rfl)
end Go.Proofs.Ytemjdhglaljhbaa.Y
