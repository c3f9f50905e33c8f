/- Facts of the seat's types, as the walks use them. Printed by genpieces.py. -/
import Derived.Test.YtemjdhglaljhbaaVGG
import Derived.KernelRfl
namespace Go.Proofs.Ytemjdhglaljhbaa
open Go.V
set_option maxRecDepth 100000
set_option linter.unusedSimpArgs false

@[simp] theorem ti3 : EE.ti 3 = some ⟨false, 1, 8, .c (.int .i64 0)⟩ := by kernel_rfl
@[simp] theorem sz3 : size? EE 3 = some 1 := by kernel_rfl
@[simp] theorem ze3 : zero? EE 3 = some (.c (.int .i64 0)) := by kernel_rfl
@[simp] theorem sh3 : EE.sh 3 = some (.int .i64) := by kernel_rfl
@[simp] theorem ti4 : EE.ti 4 = some ⟨false, 1, 1, .c (.bool false)⟩ := by kernel_rfl
@[simp] theorem sz4 : size? EE 4 = some 1 := by kernel_rfl
@[simp] theorem ze4 : zero? EE 4 = some (.c (.bool false)) := by kernel_rfl
@[simp] theorem sh4 : EE.sh 4 = some (.bool) := by kernel_rfl
@[simp] theorem ti5 : EE.ti 5 = some ⟨false, 1, 1, .c (.int .u8 0)⟩ := by kernel_rfl
@[simp] theorem sz5 : size? EE 5 = some 1 := by kernel_rfl
@[simp] theorem ze5 : zero? EE 5 = some (.c (.int .u8 0)) := by kernel_rfl
@[simp] theorem sh5 : EE.sh 5 = some (.int .u8) := by kernel_rfl
@[simp] theorem ti21 : EE.ti 21 = some ⟨false, 1, 4, .c (.int .i32 0)⟩ := by kernel_rfl
@[simp] theorem sz21 : size? EE 21 = some 1 := by kernel_rfl
@[simp] theorem ze21 : zero? EE 21 = some (.c (.int .i32 0)) := by kernel_rfl
@[simp] theorem sh21 : EE.sh 21 = some (.int .i32) := by kernel_rfl
@[simp] theorem ti22 : EE.ti 22 = some ⟨false, 1, 24, .c (.sl none 0)⟩ := by kernel_rfl
@[simp] theorem sz22 : size? EE 22 = some 1 := by kernel_rfl
@[simp] theorem ze22 : zero? EE 22 = some (.c (.sl none 0)) := by kernel_rfl
@[simp] theorem sh22 : EE.sh 22 = some (.slice 108) := by kernel_rfl
@[simp] theorem sl22 : slE EE 22 = some 108 := by kernel_rfl
@[simp] theorem ti24 : EE.ti 24 = some ⟨true, 2, 16, .a [.int .i64 0, .int .i64 0]⟩ := by kernel_rfl
@[simp] theorem sz24 : size? EE 24 = some 2 := by kernel_rfl
@[simp] theorem ze24 : zero? EE 24 = some (.a [.int .i64 0, .int .i64 0]) := by kernel_rfl
@[simp] theorem sh24 : EE.sh 24 = some (.struct [(0, 3), (1, 3)]) := by kernel_rfl
@[simp] theorem st24 : stF EE 24 = some [(0, 3), (1, 3)] := by kernel_rfl
@[simp] theorem ti26 : EE.ti 26 = some ⟨true, 4, 32, .a [.int .i64 0, .int .i64 0, .int .i64 0, .int .i64 0]⟩ := by kernel_rfl
@[simp] theorem sz26 : size? EE 26 = some 4 := by kernel_rfl
@[simp] theorem ze26 : zero? EE 26 = some (.a [.int .i64 0, .int .i64 0, .int .i64 0, .int .i64 0]) := by kernel_rfl
@[simp] theorem sh26 : EE.sh 26 = some (.struct [(0, 3), (1, 3), (2, 24)]) := by kernel_rfl
@[simp] theorem st26 : stF EE 26 = some [(0, 3), (1, 3), (2, 24)] := by kernel_rfl
@[simp] theorem ti28 : EE.ti 28 = some ⟨false, 1, 8, .c (.int .i64 0)⟩ := by kernel_rfl
@[simp] theorem sz28 : size? EE 28 = some 1 := by kernel_rfl
@[simp] theorem ze28 : zero? EE 28 = some (.c (.int .i64 0)) := by kernel_rfl
@[simp] theorem sh28 : EE.sh 28 = some (.int .i64) := by kernel_rfl
@[simp] theorem ti30 : EE.ti 30 = some ⟨false, 1, 24, .c (.sl none 0)⟩ := by kernel_rfl
@[simp] theorem sz30 : size? EE 30 = some 1 := by kernel_rfl
@[simp] theorem ze30 : zero? EE 30 = some (.c (.sl none 0)) := by kernel_rfl
@[simp] theorem sh30 : EE.sh 30 = some (.slice 3) := by kernel_rfl
@[simp] theorem sl30 : slE EE 30 = some 3 := by kernel_rfl
@[simp] theorem ti35 : EE.ti 35 = some ⟨false, 1, 24, .c (.sl none 0)⟩ := by kernel_rfl
@[simp] theorem sz35 : size? EE 35 = some 1 := by kernel_rfl
@[simp] theorem ze35 : zero? EE 35 = some (.c (.sl none 0)) := by kernel_rfl
@[simp] theorem sh35 : EE.sh 35 = some (.slice 24) := by kernel_rfl
@[simp] theorem sl35 : slE EE 35 = some 24 := by kernel_rfl
@[simp] theorem ti37 : EE.ti 37 = some ⟨true, 5, 56, .a [.int .i64 0, .int .i64 0, .int .i64 0, .int .i64 0, .sl none 0]⟩ := by kernel_rfl
@[simp] theorem sz37 : size? EE 37 = some 5 := by kernel_rfl
@[simp] theorem ze37 : zero? EE 37 = some (.a [.int .i64 0, .int .i64 0, .int .i64 0, .int .i64 0, .sl none 0]) := by kernel_rfl
@[simp] theorem sh37 : EE.sh 37 = some (.struct [(0, 3), (1, 3), (2, 24), (4, 35)]) := by kernel_rfl
@[simp] theorem st37 : stF EE 37 = some [(0, 3), (1, 3), (2, 24), (4, 35)] := by kernel_rfl
@[simp] theorem ti49 : EE.ti 49 = some ⟨true, 2, 16, .a [.int .i64 0, .int .i64 0]⟩ := by kernel_rfl
@[simp] theorem sz49 : size? EE 49 = some 2 := by kernel_rfl
@[simp] theorem ze49 : zero? EE 49 = some (.a [.int .i64 0, .int .i64 0]) := by kernel_rfl
@[simp] theorem sh49 : EE.sh 49 = some (.struct [(0, 3), (1, 3)]) := by kernel_rfl
@[simp] theorem st49 : stF EE 49 = some [(0, 3), (1, 3)] := by kernel_rfl
@[simp] theorem ti51 : EE.ti 51 = some ⟨true, 6, 48, .a [.int .i64 0, .int .i64 0, .int .i64 0, .int .i64 0, .int .i64 0, .int .i64 0]⟩ := by kernel_rfl
@[simp] theorem sz51 : size? EE 51 = some 6 := by kernel_rfl
@[simp] theorem ze51 : zero? EE 51 = some (.a [.int .i64 0, .int .i64 0, .int .i64 0, .int .i64 0, .int .i64 0, .int .i64 0]) := by kernel_rfl
@[simp] theorem sh51 : EE.sh 51 = some (.struct [(0, 3), (1, 3), (2, 3), (3, 3), (4, 49)]) := by kernel_rfl
@[simp] theorem st51 : stF EE 51 = some [(0, 3), (1, 3), (2, 3), (3, 3), (4, 49)] := by kernel_rfl
@[simp] theorem ti60 : EE.ti 60 = some ⟨true, 4, 64, .a [.int .i64 0, .int .i64 0, .sl none 0, .sl none 0]⟩ := by kernel_rfl
@[simp] theorem sz60 : size? EE 60 = some 4 := by kernel_rfl
@[simp] theorem ze60 : zero? EE 60 = some (.a [.int .i64 0, .int .i64 0, .sl none 0, .sl none 0]) := by kernel_rfl
@[simp] theorem sh60 : EE.sh 60 = some (.struct [(0, 49), (2, 30), (3, 30)]) := by kernel_rfl
@[simp] theorem st60 : stF EE 60 = some [(0, 49), (2, 30), (3, 30)] := by kernel_rfl
@[simp] theorem ti67 : EE.ti 67 = some ⟨false, 1, 24, .c (.sl none 0)⟩ := by kernel_rfl
@[simp] theorem sz67 : size? EE 67 = some 1 := by kernel_rfl
@[simp] theorem ze67 : zero? EE 67 = some (.c (.sl none 0)) := by kernel_rfl
@[simp] theorem sh67 : EE.sh 67 = some (.slice 49) := by kernel_rfl
@[simp] theorem sl67 : slE EE 67 = some 49 := by kernel_rfl
@[simp] theorem ti72 : EE.ti 72 = some ⟨true, 3, 40, .a [.int .i64 0, .int .i64 0, .sl none 0]⟩ := by kernel_rfl
@[simp] theorem sz72 : size? EE 72 = some 3 := by kernel_rfl
@[simp] theorem ze72 : zero? EE 72 = some (.a [.int .i64 0, .int .i64 0, .sl none 0]) := by kernel_rfl
@[simp] theorem sh72 : EE.sh 72 = some (.struct [(0, 24), (2, 30)]) := by kernel_rfl
@[simp] theorem st72 : stF EE 72 = some [(0, 24), (2, 30)] := by kernel_rfl
@[simp] theorem ti76 : EE.ti 76 = some ⟨false, 1, 24, .c (.sl none 0)⟩ := by kernel_rfl
@[simp] theorem sz76 : size? EE 76 = some 1 := by kernel_rfl
@[simp] theorem ze76 : zero? EE 76 = some (.c (.sl none 0)) := by kernel_rfl
@[simp] theorem sh76 : EE.sh 76 = some (.slice 88) := by kernel_rfl
@[simp] theorem sl76 : slE EE 76 = some 88 := by kernel_rfl
@[simp] theorem ti77 : EE.ti 77 = some ⟨false, 1, 2, .c (.int .u16 0)⟩ := by kernel_rfl
@[simp] theorem sz77 : size? EE 77 = some 1 := by kernel_rfl
@[simp] theorem ze77 : zero? EE 77 = some (.c (.int .u16 0)) := by kernel_rfl
@[simp] theorem sh77 : EE.sh 77 = some (.int .u16) := by kernel_rfl
@[simp] theorem ti78 : EE.ti 78 = some ⟨false, 1, 24, .c (.sl none 0)⟩ := by kernel_rfl
@[simp] theorem sz78 : size? EE 78 = some 1 := by kernel_rfl
@[simp] theorem ze78 : zero? EE 78 = some (.c (.sl none 0)) := by kernel_rfl
@[simp] theorem sh78 : EE.sh 78 = some (.slice 77) := by kernel_rfl
@[simp] theorem sl78 : slE EE 78 = some 77 := by kernel_rfl
@[simp] theorem ti79 : EE.ti 79 = some ⟨false, 1, 24, .c (.sl none 0)⟩ := by kernel_rfl
@[simp] theorem sz79 : size? EE 79 = some 1 := by kernel_rfl
@[simp] theorem ze79 : zero? EE 79 = some (.c (.sl none 0)) := by kernel_rfl
@[simp] theorem sh79 : EE.sh 79 = some (.slice 89) := by kernel_rfl
@[simp] theorem sl79 : slE EE 79 = some 89 := by kernel_rfl
@[simp] theorem ti81 : EE.ti 81 = some ⟨true, 4, 80, .a [.int .u16 0, .sl none 0, .sl none 0, .sl none 0]⟩ := by kernel_rfl
@[simp] theorem sz81 : size? EE 81 = some 4 := by kernel_rfl
@[simp] theorem ze81 : zero? EE 81 = some (.a [.int .u16 0, .sl none 0, .sl none 0, .sl none 0]) := by kernel_rfl
@[simp] theorem sh81 : EE.sh 81 = some (.struct [(0, 77), (1, 78), (2, 78), (3, 79)]) := by kernel_rfl
@[simp] theorem st81 : stF EE 81 = some [(0, 77), (1, 78), (2, 78), (3, 79)] := by kernel_rfl
@[simp] theorem ti86 : EE.ti 86 = some ⟨false, 1, 8, .c (.int .i64 0)⟩ := by kernel_rfl
@[simp] theorem sz86 : size? EE 86 = some 1 := by kernel_rfl
@[simp] theorem ze86 : zero? EE 86 = some (.c (.int .i64 0)) := by kernel_rfl
@[simp] theorem sh86 : EE.sh 86 = some (.int .i64) := by kernel_rfl
@[simp] theorem ti88 : EE.ti 88 = some ⟨true, 4, 32, .a [.int .i64 0, .int .i64 0, .int .i64 0, .int .i64 0]⟩ := by kernel_rfl
@[simp] theorem sz88 : size? EE 88 = some 4 := by kernel_rfl
@[simp] theorem ze88 : zero? EE 88 = some (.a [.int .i64 0, .int .i64 0, .int .i64 0, .int .i64 0]) := by kernel_rfl
@[simp] theorem sh88 : EE.sh 88 = some (.struct [(0, 86), (1, 24), (3, 3)]) := by kernel_rfl
@[simp] theorem st88 : stF EE 88 = some [(0, 86), (1, 24), (3, 3)] := by kernel_rfl
@[simp] theorem ti89 : EE.ti 89 = some ⟨true, 4, 8, .a [.int .u16 0, .int .u16 0, .int .u16 0, .int .u16 0]⟩ := by kernel_rfl
@[simp] theorem sz89 : size? EE 89 = some 4 := by kernel_rfl
@[simp] theorem ze89 : zero? EE 89 = some (.a [.int .u16 0, .int .u16 0, .int .u16 0, .int .u16 0]) := by kernel_rfl
@[simp] theorem sh89 : EE.sh 89 = some (.array 4 77) := by kernel_rfl
@[simp] theorem ti95 : EE.ti 95 = some ⟨false, 1, 2, .c (.int .i16 0)⟩ := by kernel_rfl
@[simp] theorem sz95 : size? EE 95 = some 1 := by kernel_rfl
@[simp] theorem ze95 : zero? EE 95 = some (.c (.int .i16 0)) := by kernel_rfl
@[simp] theorem sh95 : EE.sh 95 = some (.int .i16) := by kernel_rfl
@[simp] theorem ti97 : EE.ti 97 = some ⟨true, 4, 12, .a [.int .i16 0, .int .i16 0, .int .i32 0, .int .u8 0]⟩ := by kernel_rfl
@[simp] theorem sz97 : size? EE 97 = some 4 := by kernel_rfl
@[simp] theorem ze97 : zero? EE 97 = some (.a [.int .i16 0, .int .i16 0, .int .i32 0, .int .u8 0]) := by kernel_rfl
@[simp] theorem sh97 : EE.sh 97 = some (.struct [(0, 95), (1, 95), (2, 21), (3, 5)]) := by kernel_rfl
@[simp] theorem st97 : stF EE 97 = some [(0, 95), (1, 95), (2, 21), (3, 5)] := by kernel_rfl
@[simp] theorem ti98 : EE.ti 98 = some ⟨false, 1, 1, .c (.int .i8 0)⟩ := by kernel_rfl
@[simp] theorem sz98 : size? EE 98 = some 1 := by kernel_rfl
@[simp] theorem ze98 : zero? EE 98 = some (.c (.int .i8 0)) := by kernel_rfl
@[simp] theorem sh98 : EE.sh 98 = some (.int .i8) := by kernel_rfl
@[simp] theorem ti99 : EE.ti 99 = some ⟨true, 3, 3, .a [.int .i8 0, .int .i8 0, .int .i8 0]⟩ := by kernel_rfl
@[simp] theorem sz99 : size? EE 99 = some 3 := by kernel_rfl
@[simp] theorem ze99 : zero? EE 99 = some (.a [.int .i8 0, .int .i8 0, .int .i8 0]) := by kernel_rfl
@[simp] theorem sh99 : EE.sh 99 = some (.array 3 98) := by kernel_rfl
@[simp] theorem ti101 : EE.ti 101 = some ⟨true, 8, 40, .a [.sl none 0, .int .i16 0, .int .i16 0, .int .i32 0, .int .u8 0, .int .i8 0, .int .i8 0, .int .i8 0]⟩ := by kernel_rfl
@[simp] theorem sz101 : size? EE 101 = some 8 := by kernel_rfl
@[simp] theorem ze101 : zero? EE 101 = some (.a [.sl none 0, .int .i16 0, .int .i16 0, .int .i32 0, .int .u8 0, .int .i8 0, .int .i8 0, .int .i8 0]) := by kernel_rfl
@[simp] theorem sh101 : EE.sh 101 = some (.struct [(0, 30), (1, 97), (5, 99)]) := by kernel_rfl
@[simp] theorem st101 : stF EE 101 = some [(0, 30), (1, 97), (5, 99)] := by kernel_rfl
@[simp] theorem ti105 : EE.ti 105 = some ⟨true, 6, 80, .a [.int .i64 0, .int .i64 0, .sl none 0, .int .i64 0, .int .i64 0, .sl none 0]⟩ := by kernel_rfl
@[simp] theorem sz105 : size? EE 105 = some 6 := by kernel_rfl
@[simp] theorem ze105 : zero? EE 105 = some (.a [.int .i64 0, .int .i64 0, .sl none 0, .int .i64 0, .int .i64 0, .sl none 0]) := by kernel_rfl
@[simp] theorem sh105 : EE.sh 105 = some (.struct [(0, 72), (3, 72)]) := by kernel_rfl
@[simp] theorem st105 : stF EE 105 = some [(0, 72), (3, 72)] := by kernel_rfl
@[simp] theorem ti108 : EE.ti 108 = some ⟨true, 6, 48, .a [.int .i64 0, .int .i64 0, .int .i64 0, .int .i64 0, .int .i64 0, .int .i64 0]⟩ := by kernel_rfl
@[simp] theorem sz108 : size? EE 108 = some 6 := by kernel_rfl
@[simp] theorem ze108 : zero? EE 108 = some (.a [.int .i64 0, .int .i64 0, .int .i64 0, .int .i64 0, .int .i64 0, .int .i64 0]) := by kernel_rfl
@[simp] theorem sh108 : EE.sh 108 = some (.struct [(0, 3), (1, 24), (3, 24), (5, 3)]) := by kernel_rfl
@[simp] theorem st108 : stF EE 108 = some [(0, 3), (1, 24), (3, 24), (5, 3)] := by kernel_rfl
@[simp] theorem ti111 : EE.ti 111 = some ⟨false, 1, 1, .c (.int .u8 0)⟩ := by kernel_rfl
@[simp] theorem sz111 : size? EE 111 = some 1 := by kernel_rfl
@[simp] theorem ze111 : zero? EE 111 = some (.c (.int .u8 0)) := by kernel_rfl
@[simp] theorem sh111 : EE.sh 111 = some (.int .u8) := by kernel_rfl
@[simp] theorem ti115 : EE.ti 115 = some ⟨true, 2, 16, .a [.int .i64 0, .int .i64 0]⟩ := by kernel_rfl
@[simp] theorem sz115 : size? EE 115 = some 2 := by kernel_rfl
@[simp] theorem ze115 : zero? EE 115 = some (.a [.int .i64 0, .int .i64 0]) := by kernel_rfl
@[simp] theorem sh115 : EE.sh 115 = some (.array 2 3) := by kernel_rfl
@[simp] theorem ti116 : EE.ti 116 = some ⟨true, 2, 16, .a [.int .i64 0, .int .i64 0]⟩ := by kernel_rfl
@[simp] theorem sz116 : size? EE 116 = some 2 := by kernel_rfl
@[simp] theorem ze116 : zero? EE 116 = some (.a [.int .i64 0, .int .i64 0]) := by kernel_rfl
@[simp] theorem sh116 : EE.sh 116 = some (.array 2 3) := by kernel_rfl
@[simp] theorem ti128 : EE.ti 128 = some ⟨false, 1, 24, .c (.sl none 0)⟩ := by kernel_rfl
@[simp] theorem sz128 : size? EE 128 = some 1 := by kernel_rfl
@[simp] theorem ze128 : zero? EE 128 = some (.c (.sl none 0)) := by kernel_rfl
@[simp] theorem sh128 : EE.sh 128 = some (.slice 131) := by kernel_rfl
@[simp] theorem sl128 : slE EE 128 = some 131 := by kernel_rfl
@[simp] theorem ti131 : EE.ti 131 = some ⟨true, 3, 24, .a [.int .i64 0, .int .i64 0, .int .i64 0]⟩ := by kernel_rfl
@[simp] theorem sz131 : size? EE 131 = some 3 := by kernel_rfl
@[simp] theorem ze131 : zero? EE 131 = some (.a [.int .i64 0, .int .i64 0, .int .i64 0]) := by kernel_rfl
@[simp] theorem sh131 : EE.sh 131 = some (.struct [(0, 3), (1, 3), (2, 3)]) := by kernel_rfl
@[simp] theorem st131 : stF EE 131 = some [(0, 3), (1, 3), (2, 3)] := by kernel_rfl
@[simp] theorem ti132 : EE.ti 132 = some ⟨true, 12, 96, .a [.int .i64 0, .int .i64 0, .int .i64 0, .int .i64 0, .int .i64 0, .int .i64 0, .int .i64 0, .int .i64 0, .int .i64 0, .int .i64 0, .int .i64 0, .int .i64 0]⟩ := by kernel_rfl
@[simp] theorem sz132 : size? EE 132 = some 12 := by kernel_rfl
@[simp] theorem ze132 : zero? EE 132 = some (.a [.int .i64 0, .int .i64 0, .int .i64 0, .int .i64 0, .int .i64 0, .int .i64 0, .int .i64 0, .int .i64 0, .int .i64 0, .int .i64 0, .int .i64 0, .int .i64 0]) := by kernel_rfl
@[simp] theorem sh132 : EE.sh 132 = some (.array 4 131) := by kernel_rfl
@[simp] theorem ti133 : EE.ti 133 = some ⟨true, 4, 32, .a [.int .i64 0, .int .i64 0, .int .i64 0, .int .i64 0]⟩ := by kernel_rfl
@[simp] theorem sz133 : size? EE 133 = some 4 := by kernel_rfl
@[simp] theorem ze133 : zero? EE 133 = some (.a [.int .i64 0, .int .i64 0, .int .i64 0, .int .i64 0]) := by kernel_rfl
@[simp] theorem sh133 : EE.sh 133 = some (.array 4 3) := by kernel_rfl
@[simp] theorem ti135 : EE.ti 135 = some ⟨true, 17, 136, .a [.int .i64 0, .int .i64 0, .int .i64 0, .int .i64 0, .int .i64 0, .int .i64 0, .int .i64 0, .int .i64 0, .int .i64 0, .int .i64 0, .int .i64 0, .int .i64 0, .int .i64 0, .int .i64 0, .int .i64 0, .int .i64 0, .int .i64 0]⟩ := by kernel_rfl
@[simp] theorem sz135 : size? EE 135 = some 17 := by kernel_rfl
@[simp] theorem ze135 : zero? EE 135 = some (.a [.int .i64 0, .int .i64 0, .int .i64 0, .int .i64 0, .int .i64 0, .int .i64 0, .int .i64 0, .int .i64 0, .int .i64 0, .int .i64 0, .int .i64 0, .int .i64 0, .int .i64 0, .int .i64 0, .int .i64 0, .int .i64 0, .int .i64 0]) := by kernel_rfl
@[simp] theorem sh135 : EE.sh 135 = some (.struct [(0, 132), (12, 133), (16, 3)]) := by kernel_rfl
@[simp] theorem st135 : stF EE 135 = some [(0, 132), (12, 133), (16, 3)] := by kernel_rfl
@[simp] theorem ti137 : EE.ti 137 = some ⟨true, 19, 152, .a [.int .i64 0, .int .i64 0, .int .i64 0, .int .i64 0, .int .i64 0, .int .i64 0, .int .i64 0, .int .i64 0, .int .i64 0, .int .i64 0, .int .i64 0, .int .i64 0, .int .i64 0, .int .i64 0, .int .i64 0, .int .i64 0, .int .i64 0, .int .i64 0, .bool false]⟩ := by kernel_rfl
@[simp] theorem sz137 : size? EE 137 = some 19 := by kernel_rfl
@[simp] theorem ze137 : zero? EE 137 = some (.a [.int .i64 0, .int .i64 0, .int .i64 0, .int .i64 0, .int .i64 0, .int .i64 0, .int .i64 0, .int .i64 0, .int .i64 0, .int .i64 0, .int .i64 0, .int .i64 0, .int .i64 0, .int .i64 0, .int .i64 0, .int .i64 0, .int .i64 0, .int .i64 0, .bool false]) := by kernel_rfl
@[simp] theorem sh137 : EE.sh 137 = some (.struct [(0, 135), (17, 3), (18, 4)]) := by kernel_rfl
@[simp] theorem st137 : stF EE 137 = some [(0, 135), (17, 3), (18, 4)] := by kernel_rfl
@[simp] theorem ti142 : EE.ti 142 = some ⟨true, 4, 32, .a [.int .i64 0, .int .i64 0, .int .i64 0, .int .i64 0]⟩ := by kernel_rfl
@[simp] theorem sz142 : size? EE 142 = some 4 := by kernel_rfl
@[simp] theorem ze142 : zero? EE 142 = some (.a [.int .i64 0, .int .i64 0, .int .i64 0, .int .i64 0]) := by kernel_rfl
@[simp] theorem sh142 : EE.sh 142 = some (.struct [(0, 3), (1, 3), (2, 3), (3, 3)]) := by kernel_rfl
@[simp] theorem st142 : stF EE 142 = some [(0, 3), (1, 3), (2, 3), (3, 3)] := by kernel_rfl
@[simp] theorem ti148 : EE.ti 148 = some ⟨true, 3, 24, .a [.int .i64 0, .int .i64 0, .int .i64 0]⟩ := by kernel_rfl
@[simp] theorem sz148 : size? EE 148 = some 3 := by kernel_rfl
@[simp] theorem ze148 : zero? EE 148 = some (.a [.int .i64 0, .int .i64 0, .int .i64 0]) := by kernel_rfl
@[simp] theorem sh148 : EE.sh 148 = some (.array 3 3) := by kernel_rfl
@[simp] theorem ti159 : EE.ti 159 = some ⟨true, 2, 16, .a [.int .i64 0, .int .i64 0]⟩ := by kernel_rfl
@[simp] theorem sz159 : size? EE 159 = some 2 := by kernel_rfl
@[simp] theorem ze159 : zero? EE 159 = some (.a [.int .i64 0, .int .i64 0]) := by kernel_rfl
@[simp] theorem sh159 : EE.sh 159 = some (.struct [(0, 3), (1, 3)]) := by kernel_rfl
@[simp] theorem st159 : stF EE 159 = some [(0, 3), (1, 3)] := by kernel_rfl
@[simp] theorem ti163 : EE.ti 163 = some ⟨false, 1, 8, .c (.int .u64 0)⟩ := by kernel_rfl
@[simp] theorem sz163 : size? EE 163 = some 1 := by kernel_rfl
@[simp] theorem ze163 : zero? EE 163 = some (.c (.int .u64 0)) := by kernel_rfl
@[simp] theorem sh163 : EE.sh 163 = some (.int .u64) := by kernel_rfl
@[simp] theorem ti165 : EE.ti 165 = some ⟨true, 3, 24, .a [.int .u64 0, .int .u64 0, .bool false]⟩ := by kernel_rfl
@[simp] theorem sz165 : size? EE 165 = some 3 := by kernel_rfl
@[simp] theorem ze165 : zero? EE 165 = some (.a [.int .u64 0, .int .u64 0, .bool false]) := by kernel_rfl
@[simp] theorem sh165 : EE.sh 165 = some (.struct [(0, 163), (1, 163), (2, 4)]) := by kernel_rfl
@[simp] theorem st165 : stF EE 165 = some [(0, 163), (1, 163), (2, 4)] := by kernel_rfl
@[simp] theorem ti171 : EE.ti 171 = some ⟨true, 4, 24, .a [.int .i64 0, .int .i64 0, .bool false, .bool false]⟩ := by kernel_rfl
@[simp] theorem sz171 : size? EE 171 = some 4 := by kernel_rfl
@[simp] theorem ze171 : zero? EE 171 = some (.a [.int .i64 0, .int .i64 0, .bool false, .bool false]) := by kernel_rfl
@[simp] theorem sh171 : EE.sh 171 = some (.struct [(0, 24), (2, 4), (3, 4)]) := by kernel_rfl
@[simp] theorem st171 : stF EE 171 = some [(0, 24), (2, 4), (3, 4)] := by kernel_rfl
@[simp] theorem ti185 : EE.ti 185 = some ⟨true, 9, 72, .a [.int .i64 0, .int .i64 0, .int .i64 0, .int .i64 0, .int .i64 0, .int .i64 0, .int .i64 0, .int .i64 0, .int .i64 0]⟩ := by kernel_rfl
@[simp] theorem sz185 : size? EE 185 = some 9 := by kernel_rfl
@[simp] theorem ze185 : zero? EE 185 = some (.a [.int .i64 0, .int .i64 0, .int .i64 0, .int .i64 0, .int .i64 0, .int .i64 0, .int .i64 0, .int .i64 0, .int .i64 0]) := by kernel_rfl
@[simp] theorem sh185 : EE.sh 185 = some (.array 3 131) := by kernel_rfl
@[simp] theorem ti207 : EE.ti 207 = some ⟨false, 1, 8, .c (.int .u64 0)⟩ := by kernel_rfl
@[simp] theorem sz207 : size? EE 207 = some 1 := by kernel_rfl
@[simp] theorem ze207 : zero? EE 207 = some (.c (.int .u64 0)) := by kernel_rfl
@[simp] theorem sh207 : EE.sh 207 = some (.int .u64) := by kernel_rfl
@[simp] theorem ti209 : EE.ti 209 = some ⟨false, 1, 16, .c (.nif)⟩ := by kernel_rfl
@[simp] theorem sz209 : size? EE 209 = some 1 := by kernel_rfl
@[simp] theorem ze209 : zero? EE 209 = some (.c (.nif)) := by kernel_rfl
@[simp] theorem pa3 (cs : List C) (o : Nat) : part? EE 3 cs o = (cs[o]?).map .c := part_one (i := ⟨false, 1, 8, .c (.int .i64 0)⟩) (by kernel_rfl) rfl
@[simp] theorem pa4 (cs : List C) (o : Nat) : part? EE 4 cs o = (cs[o]?).map .c := part_one (i := ⟨false, 1, 1, .c (.bool false)⟩) (by kernel_rfl) rfl
@[simp] theorem pa5 (cs : List C) (o : Nat) : part? EE 5 cs o = (cs[o]?).map .c := part_one (i := ⟨false, 1, 1, .c (.int .u8 0)⟩) (by kernel_rfl) rfl
@[simp] theorem pa21 (cs : List C) (o : Nat) : part? EE 21 cs o = (cs[o]?).map .c := part_one (i := ⟨false, 1, 4, .c (.int .i32 0)⟩) (by kernel_rfl) rfl
@[simp] theorem pa22 (cs : List C) (o : Nat) : part? EE 22 cs o = (cs[o]?).map .c := part_one (i := ⟨false, 1, 24, .c (.sl none 0)⟩) (by kernel_rfl) rfl
@[simp] theorem ix22 (p : Nat × Nat) (n : Nat) (j : Int) : ixP EE 22 (.c (.sl (some p) n)) j = if 0 ≤ j ∧ j < n then some (p.1, p.2 + j.toNat * 6) else none := ix_slice sh22 sz108
@[simp] theorem mk22 (n m : Int) : mks EE 22 n m = if n = m ∧ 0 ≤ n ∧ n * 48 ≤ maxBytes ∧ n ≤ maxBytes then some ((List.replicate n.toNat (X.cells (.a [.int .i64 0, .int .i64 0, .int .i64 0, .int .i64 0, .int .i64 0, .int .i64 0]))).flatten, 6) else none := mks_of sl22 ti108 (by decide) rfl
@[simp] theorem pa24 (cs : List C) (o : Nat) : part? EE 24 cs o = if o + 2 ≤ cs.length then some (.a ((cs.drop o).take 2)) else none := part_agg (by kernel_rfl) (by kernel_rfl)
@[simp] theorem pl24 : place EE 24 = some fun i => [(0, 1), (1, 1)][i]? := by kernel_rfl
@[simp] theorem pa26 (cs : List C) (o : Nat) : part? EE 26 cs o = if o + 4 ≤ cs.length then some (.a ((cs.drop o).take 4)) else none := part_agg (by kernel_rfl) (by kernel_rfl)
@[simp] theorem pl26 : place EE 26 = some fun i => [(0, 1), (1, 1), (2, 2)][i]? := by kernel_rfl
@[simp] theorem pa28 (cs : List C) (o : Nat) : part? EE 28 cs o = (cs[o]?).map .c := part_one (i := ⟨false, 1, 8, .c (.int .i64 0)⟩) (by kernel_rfl) rfl
@[simp] theorem pa30 (cs : List C) (o : Nat) : part? EE 30 cs o = (cs[o]?).map .c := part_one (i := ⟨false, 1, 24, .c (.sl none 0)⟩) (by kernel_rfl) rfl
@[simp] theorem ix30 (p : Nat × Nat) (n : Nat) (j : Int) : ixP EE 30 (.c (.sl (some p) n)) j = if 0 ≤ j ∧ j < n then some (p.1, p.2 + j.toNat * 1) else none := ix_slice sh30 sz3
@[simp] theorem mk30 (n m : Int) : mks EE 30 n m = if n = m ∧ 0 ≤ n ∧ n * 8 ≤ maxBytes ∧ n ≤ maxBytes then some ((List.replicate n.toNat (X.cells (.c (.int .i64 0)))).flatten, 1) else none := mks_of sl30 ti3 (by decide) rfl
@[simp] theorem pa35 (cs : List C) (o : Nat) : part? EE 35 cs o = (cs[o]?).map .c := part_one (i := ⟨false, 1, 24, .c (.sl none 0)⟩) (by kernel_rfl) rfl
@[simp] theorem ix35 (p : Nat × Nat) (n : Nat) (j : Int) : ixP EE 35 (.c (.sl (some p) n)) j = if 0 ≤ j ∧ j < n then some (p.1, p.2 + j.toNat * 2) else none := ix_slice sh35 sz24
@[simp] theorem mk35 (n m : Int) : mks EE 35 n m = if n = m ∧ 0 ≤ n ∧ n * 16 ≤ maxBytes ∧ n ≤ maxBytes then some ((List.replicate n.toNat (X.cells (.a [.int .i64 0, .int .i64 0]))).flatten, 2) else none := mks_of sl35 ti24 (by decide) rfl
@[simp] theorem pa37 (cs : List C) (o : Nat) : part? EE 37 cs o = if o + 5 ≤ cs.length then some (.a ((cs.drop o).take 5)) else none := part_agg (by kernel_rfl) (by kernel_rfl)
@[simp] theorem pl37 : place EE 37 = some fun i => [(0, 1), (1, 1), (2, 2), (4, 1)][i]? := by kernel_rfl
@[simp] theorem pa49 (cs : List C) (o : Nat) : part? EE 49 cs o = if o + 2 ≤ cs.length then some (.a ((cs.drop o).take 2)) else none := part_agg (by kernel_rfl) (by kernel_rfl)
@[simp] theorem pl49 : place EE 49 = some fun i => [(0, 1), (1, 1)][i]? := by kernel_rfl
@[simp] theorem pa51 (cs : List C) (o : Nat) : part? EE 51 cs o = if o + 6 ≤ cs.length then some (.a ((cs.drop o).take 6)) else none := part_agg (by kernel_rfl) (by kernel_rfl)
@[simp] theorem pl51 : place EE 51 = some fun i => [(0, 1), (1, 1), (2, 1), (3, 1), (4, 2)][i]? := by kernel_rfl
@[simp] theorem pa60 (cs : List C) (o : Nat) : part? EE 60 cs o = if o + 4 ≤ cs.length then some (.a ((cs.drop o).take 4)) else none := part_agg (by kernel_rfl) (by kernel_rfl)
@[simp] theorem pl60 : place EE 60 = some fun i => [(0, 2), (2, 1), (3, 1)][i]? := by kernel_rfl
@[simp] theorem pa67 (cs : List C) (o : Nat) : part? EE 67 cs o = (cs[o]?).map .c := part_one (i := ⟨false, 1, 24, .c (.sl none 0)⟩) (by kernel_rfl) rfl
@[simp] theorem ix67 (p : Nat × Nat) (n : Nat) (j : Int) : ixP EE 67 (.c (.sl (some p) n)) j = if 0 ≤ j ∧ j < n then some (p.1, p.2 + j.toNat * 2) else none := ix_slice sh67 sz49
@[simp] theorem mk67 (n m : Int) : mks EE 67 n m = if n = m ∧ 0 ≤ n ∧ n * 16 ≤ maxBytes ∧ n ≤ maxBytes then some ((List.replicate n.toNat (X.cells (.a [.int .i64 0, .int .i64 0]))).flatten, 2) else none := mks_of sl67 ti49 (by decide) rfl
@[simp] theorem pa72 (cs : List C) (o : Nat) : part? EE 72 cs o = if o + 3 ≤ cs.length then some (.a ((cs.drop o).take 3)) else none := part_agg (by kernel_rfl) (by kernel_rfl)
@[simp] theorem pl72 : place EE 72 = some fun i => [(0, 2), (2, 1)][i]? := by kernel_rfl
@[simp] theorem pa76 (cs : List C) (o : Nat) : part? EE 76 cs o = (cs[o]?).map .c := part_one (i := ⟨false, 1, 24, .c (.sl none 0)⟩) (by kernel_rfl) rfl
@[simp] theorem ix76 (p : Nat × Nat) (n : Nat) (j : Int) : ixP EE 76 (.c (.sl (some p) n)) j = if 0 ≤ j ∧ j < n then some (p.1, p.2 + j.toNat * 4) else none := ix_slice sh76 sz88
@[simp] theorem mk76 (n m : Int) : mks EE 76 n m = if n = m ∧ 0 ≤ n ∧ n * 32 ≤ maxBytes ∧ n ≤ maxBytes then some ((List.replicate n.toNat (X.cells (.a [.int .i64 0, .int .i64 0, .int .i64 0, .int .i64 0]))).flatten, 4) else none := mks_of sl76 ti88 (by decide) rfl
@[simp] theorem pa77 (cs : List C) (o : Nat) : part? EE 77 cs o = (cs[o]?).map .c := part_one (i := ⟨false, 1, 2, .c (.int .u16 0)⟩) (by kernel_rfl) rfl
@[simp] theorem pa78 (cs : List C) (o : Nat) : part? EE 78 cs o = (cs[o]?).map .c := part_one (i := ⟨false, 1, 24, .c (.sl none 0)⟩) (by kernel_rfl) rfl
@[simp] theorem ix78 (p : Nat × Nat) (n : Nat) (j : Int) : ixP EE 78 (.c (.sl (some p) n)) j = if 0 ≤ j ∧ j < n then some (p.1, p.2 + j.toNat * 1) else none := ix_slice sh78 sz77
@[simp] theorem mk78 (n m : Int) : mks EE 78 n m = if n = m ∧ 0 ≤ n ∧ n * 2 ≤ maxBytes ∧ n ≤ maxBytes then some ((List.replicate n.toNat (X.cells (.c (.int .u16 0)))).flatten, 1) else none := mks_of sl78 ti77 (by decide) rfl
@[simp] theorem pa79 (cs : List C) (o : Nat) : part? EE 79 cs o = (cs[o]?).map .c := part_one (i := ⟨false, 1, 24, .c (.sl none 0)⟩) (by kernel_rfl) rfl
@[simp] theorem ix79 (p : Nat × Nat) (n : Nat) (j : Int) : ixP EE 79 (.c (.sl (some p) n)) j = if 0 ≤ j ∧ j < n then some (p.1, p.2 + j.toNat * 4) else none := ix_slice sh79 sz89
@[simp] theorem mk79 (n m : Int) : mks EE 79 n m = if n = m ∧ 0 ≤ n ∧ n * 8 ≤ maxBytes ∧ n ≤ maxBytes then some ((List.replicate n.toNat (X.cells (.a [.int .u16 0, .int .u16 0, .int .u16 0, .int .u16 0]))).flatten, 4) else none := mks_of sl79 ti89 (by decide) rfl
@[simp] theorem pa81 (cs : List C) (o : Nat) : part? EE 81 cs o = if o + 4 ≤ cs.length then some (.a ((cs.drop o).take 4)) else none := part_agg (by kernel_rfl) (by kernel_rfl)
@[simp] theorem pl81 : place EE 81 = some fun i => [(0, 1), (1, 1), (2, 1), (3, 1)][i]? := by kernel_rfl
@[simp] theorem pa86 (cs : List C) (o : Nat) : part? EE 86 cs o = (cs[o]?).map .c := part_one (i := ⟨false, 1, 8, .c (.int .i64 0)⟩) (by kernel_rfl) rfl
@[simp] theorem pa88 (cs : List C) (o : Nat) : part? EE 88 cs o = if o + 4 ≤ cs.length then some (.a ((cs.drop o).take 4)) else none := part_agg (by kernel_rfl) (by kernel_rfl)
@[simp] theorem pl88 : place EE 88 = some fun i => [(0, 1), (1, 2), (3, 1)][i]? := by kernel_rfl
@[simp] theorem pa89 (cs : List C) (o : Nat) : part? EE 89 cs o = if o + 4 ≤ cs.length then some (.a ((cs.drop o).take 4)) else none := part_agg (by kernel_rfl) (by kernel_rfl)
@[simp] theorem ar89 : arE EE 89 = some (4, 77) := by kernel_rfl
@[simp] theorem ix89 (p : Nat × Nat) (j : Int) : ixP EE 89 (.c (.ptr (some p))) j = if 0 ≤ j ∧ j < 4 then some (p.1, p.2 + j.toNat * 1) else none := ix_array sh89 sz77
theorem pl89 : place EE 89 = some fun i => some (i * 1, 1) := by kernel_rfl
@[simp] theorem pl89' : place EE 89 = some fun i => some (i * 1, 1) := pl89
@[simp] theorem pa95 (cs : List C) (o : Nat) : part? EE 95 cs o = (cs[o]?).map .c := part_one (i := ⟨false, 1, 2, .c (.int .i16 0)⟩) (by kernel_rfl) rfl
@[simp] theorem pa97 (cs : List C) (o : Nat) : part? EE 97 cs o = if o + 4 ≤ cs.length then some (.a ((cs.drop o).take 4)) else none := part_agg (by kernel_rfl) (by kernel_rfl)
@[simp] theorem pl97 : place EE 97 = some fun i => [(0, 1), (1, 1), (2, 1), (3, 1)][i]? := by kernel_rfl
@[simp] theorem pa98 (cs : List C) (o : Nat) : part? EE 98 cs o = (cs[o]?).map .c := part_one (i := ⟨false, 1, 1, .c (.int .i8 0)⟩) (by kernel_rfl) rfl
@[simp] theorem pa99 (cs : List C) (o : Nat) : part? EE 99 cs o = if o + 3 ≤ cs.length then some (.a ((cs.drop o).take 3)) else none := part_agg (by kernel_rfl) (by kernel_rfl)
@[simp] theorem ar99 : arE EE 99 = some (3, 98) := by kernel_rfl
@[simp] theorem ix99 (p : Nat × Nat) (j : Int) : ixP EE 99 (.c (.ptr (some p))) j = if 0 ≤ j ∧ j < 3 then some (p.1, p.2 + j.toNat * 1) else none := ix_array sh99 sz98
theorem pl99 : place EE 99 = some fun i => some (i * 1, 1) := by kernel_rfl
@[simp] theorem pl99' : place EE 99 = some fun i => some (i * 1, 1) := pl99
@[simp] theorem pa101 (cs : List C) (o : Nat) : part? EE 101 cs o = if o + 8 ≤ cs.length then some (.a ((cs.drop o).take 8)) else none := part_agg (by kernel_rfl) (by kernel_rfl)
@[simp] theorem pl101 : place EE 101 = some fun i => [(0, 1), (1, 4), (5, 3)][i]? := by kernel_rfl
@[simp] theorem pa105 (cs : List C) (o : Nat) : part? EE 105 cs o = if o + 6 ≤ cs.length then some (.a ((cs.drop o).take 6)) else none := part_agg (by kernel_rfl) (by kernel_rfl)
@[simp] theorem pl105 : place EE 105 = some fun i => [(0, 3), (3, 3)][i]? := by kernel_rfl
@[simp] theorem pa108 (cs : List C) (o : Nat) : part? EE 108 cs o = if o + 6 ≤ cs.length then some (.a ((cs.drop o).take 6)) else none := part_agg (by kernel_rfl) (by kernel_rfl)
@[simp] theorem pl108 : place EE 108 = some fun i => [(0, 1), (1, 2), (3, 2), (5, 1)][i]? := by kernel_rfl
@[simp] theorem pa111 (cs : List C) (o : Nat) : part? EE 111 cs o = (cs[o]?).map .c := part_one (i := ⟨false, 1, 1, .c (.int .u8 0)⟩) (by kernel_rfl) rfl
@[simp] theorem pa115 (cs : List C) (o : Nat) : part? EE 115 cs o = if o + 2 ≤ cs.length then some (.a ((cs.drop o).take 2)) else none := part_agg (by kernel_rfl) (by kernel_rfl)
@[simp] theorem ar115 : arE EE 115 = some (2, 3) := by kernel_rfl
@[simp] theorem ix115 (p : Nat × Nat) (j : Int) : ixP EE 115 (.c (.ptr (some p))) j = if 0 ≤ j ∧ j < 2 then some (p.1, p.2 + j.toNat * 1) else none := ix_array sh115 sz3
theorem pl115 : place EE 115 = some fun i => some (i * 1, 1) := by kernel_rfl
@[simp] theorem pl115' : place EE 115 = some fun i => some (i * 1, 1) := pl115
@[simp] theorem pa116 (cs : List C) (o : Nat) : part? EE 116 cs o = if o + 2 ≤ cs.length then some (.a ((cs.drop o).take 2)) else none := part_agg (by kernel_rfl) (by kernel_rfl)
@[simp] theorem ar116 : arE EE 116 = some (2, 3) := by kernel_rfl
@[simp] theorem ix116 (p : Nat × Nat) (j : Int) : ixP EE 116 (.c (.ptr (some p))) j = if 0 ≤ j ∧ j < 2 then some (p.1, p.2 + j.toNat * 1) else none := ix_array sh116 sz3
theorem pl116 : place EE 116 = some fun i => some (i * 1, 1) := by kernel_rfl
@[simp] theorem pl116' : place EE 116 = some fun i => some (i * 1, 1) := pl116
@[simp] theorem pa128 (cs : List C) (o : Nat) : part? EE 128 cs o = (cs[o]?).map .c := part_one (i := ⟨false, 1, 24, .c (.sl none 0)⟩) (by kernel_rfl) rfl
@[simp] theorem ix128 (p : Nat × Nat) (n : Nat) (j : Int) : ixP EE 128 (.c (.sl (some p) n)) j = if 0 ≤ j ∧ j < n then some (p.1, p.2 + j.toNat * 3) else none := ix_slice sh128 sz131
@[simp] theorem mk128 (n m : Int) : mks EE 128 n m = if n = m ∧ 0 ≤ n ∧ n * 24 ≤ maxBytes ∧ n ≤ maxBytes then some ((List.replicate n.toNat (X.cells (.a [.int .i64 0, .int .i64 0, .int .i64 0]))).flatten, 3) else none := mks_of sl128 ti131 (by decide) rfl
@[simp] theorem pa131 (cs : List C) (o : Nat) : part? EE 131 cs o = if o + 3 ≤ cs.length then some (.a ((cs.drop o).take 3)) else none := part_agg (by kernel_rfl) (by kernel_rfl)
@[simp] theorem pl131 : place EE 131 = some fun i => [(0, 1), (1, 1), (2, 1)][i]? := by kernel_rfl
@[simp] theorem pa132 (cs : List C) (o : Nat) : part? EE 132 cs o = if o + 12 ≤ cs.length then some (.a ((cs.drop o).take 12)) else none := part_agg (by kernel_rfl) (by kernel_rfl)
@[simp] theorem ar132 : arE EE 132 = some (4, 131) := by kernel_rfl
@[simp] theorem ix132 (p : Nat × Nat) (j : Int) : ixP EE 132 (.c (.ptr (some p))) j = if 0 ≤ j ∧ j < 4 then some (p.1, p.2 + j.toNat * 3) else none := ix_array sh132 sz131
theorem pl132 : place EE 132 = some fun i => some (i * 3, 3) := by kernel_rfl
@[simp] theorem pl132' : place EE 132 = some fun i => some (i * 3, 3) := pl132
@[simp] theorem pa133 (cs : List C) (o : Nat) : part? EE 133 cs o = if o + 4 ≤ cs.length then some (.a ((cs.drop o).take 4)) else none := part_agg (by kernel_rfl) (by kernel_rfl)
@[simp] theorem ar133 : arE EE 133 = some (4, 3) := by kernel_rfl
@[simp] theorem ix133 (p : Nat × Nat) (j : Int) : ixP EE 133 (.c (.ptr (some p))) j = if 0 ≤ j ∧ j < 4 then some (p.1, p.2 + j.toNat * 1) else none := ix_array sh133 sz3
theorem pl133 : place EE 133 = some fun i => some (i * 1, 1) := by kernel_rfl
@[simp] theorem pl133' : place EE 133 = some fun i => some (i * 1, 1) := pl133
@[simp] theorem pa135 (cs : List C) (o : Nat) : part? EE 135 cs o = if o + 17 ≤ cs.length then some (.a ((cs.drop o).take 17)) else none := part_agg (by kernel_rfl) (by kernel_rfl)
@[simp] theorem pl135 : place EE 135 = some fun i => [(0, 12), (12, 4), (16, 1)][i]? := by kernel_rfl
@[simp] theorem pa137 (cs : List C) (o : Nat) : part? EE 137 cs o = if o + 19 ≤ cs.length then some (.a ((cs.drop o).take 19)) else none := part_agg (by kernel_rfl) (by kernel_rfl)
@[simp] theorem pl137 : place EE 137 = some fun i => [(0, 17), (17, 1), (18, 1)][i]? := by kernel_rfl
@[simp] theorem pa142 (cs : List C) (o : Nat) : part? EE 142 cs o = if o + 4 ≤ cs.length then some (.a ((cs.drop o).take 4)) else none := part_agg (by kernel_rfl) (by kernel_rfl)
@[simp] theorem pl142 : place EE 142 = some fun i => [(0, 1), (1, 1), (2, 1), (3, 1)][i]? := by kernel_rfl
@[simp] theorem pa148 (cs : List C) (o : Nat) : part? EE 148 cs o = if o + 3 ≤ cs.length then some (.a ((cs.drop o).take 3)) else none := part_agg (by kernel_rfl) (by kernel_rfl)
@[simp] theorem ar148 : arE EE 148 = some (3, 3) := by kernel_rfl
@[simp] theorem ix148 (p : Nat × Nat) (j : Int) : ixP EE 148 (.c (.ptr (some p))) j = if 0 ≤ j ∧ j < 3 then some (p.1, p.2 + j.toNat * 1) else none := ix_array sh148 sz3
theorem pl148 : place EE 148 = some fun i => some (i * 1, 1) := by kernel_rfl
@[simp] theorem pl148' : place EE 148 = some fun i => some (i * 1, 1) := pl148
@[simp] theorem pa159 (cs : List C) (o : Nat) : part? EE 159 cs o = if o + 2 ≤ cs.length then some (.a ((cs.drop o).take 2)) else none := part_agg (by kernel_rfl) (by kernel_rfl)
@[simp] theorem pl159 : place EE 159 = some fun i => [(0, 1), (1, 1)][i]? := by kernel_rfl
@[simp] theorem pa163 (cs : List C) (o : Nat) : part? EE 163 cs o = (cs[o]?).map .c := part_one (i := ⟨false, 1, 8, .c (.int .u64 0)⟩) (by kernel_rfl) rfl
@[simp] theorem pa165 (cs : List C) (o : Nat) : part? EE 165 cs o = if o + 3 ≤ cs.length then some (.a ((cs.drop o).take 3)) else none := part_agg (by kernel_rfl) (by kernel_rfl)
@[simp] theorem pl165 : place EE 165 = some fun i => [(0, 1), (1, 1), (2, 1)][i]? := by kernel_rfl
@[simp] theorem pa171 (cs : List C) (o : Nat) : part? EE 171 cs o = if o + 4 ≤ cs.length then some (.a ((cs.drop o).take 4)) else none := part_agg (by kernel_rfl) (by kernel_rfl)
@[simp] theorem pl171 : place EE 171 = some fun i => [(0, 2), (2, 1), (3, 1)][i]? := by kernel_rfl
@[simp] theorem pa185 (cs : List C) (o : Nat) : part? EE 185 cs o = if o + 9 ≤ cs.length then some (.a ((cs.drop o).take 9)) else none := part_agg (by kernel_rfl) (by kernel_rfl)
@[simp] theorem ar185 : arE EE 185 = some (3, 131) := by kernel_rfl
@[simp] theorem ix185 (p : Nat × Nat) (j : Int) : ixP EE 185 (.c (.ptr (some p))) j = if 0 ≤ j ∧ j < 3 then some (p.1, p.2 + j.toNat * 3) else none := ix_array sh185 sz131
theorem pl185 : place EE 185 = some fun i => some (i * 3, 3) := by kernel_rfl
@[simp] theorem pl185' : place EE 185 = some fun i => some (i * 3, 3) := pl185
@[simp] theorem pa207 (cs : List C) (o : Nat) : part? EE 207 cs o = (cs[o]?).map .c := part_one (i := ⟨false, 1, 8, .c (.int .u64 0)⟩) (by kernel_rfl) rfl
@[simp] theorem pa209 (cs : List C) (o : Nat) : part? EE 209 cs o = (cs[o]?).map .c := part_one (i := ⟨false, 1, 16, .c (.nif)⟩) (by kernel_rfl) rfl
@[simp] theorem fa24_0 : faOff EE 24 0 = some 0 := by kernel_rfl
@[simp] theorem fa24_1 : faOff EE 24 1 = some 1 := by kernel_rfl
@[simp] theorem fa26_0 : faOff EE 26 0 = some 0 := by kernel_rfl
@[simp] theorem fa26_1 : faOff EE 26 1 = some 1 := by kernel_rfl
@[simp] theorem fa26_2 : faOff EE 26 2 = some 2 := by kernel_rfl
@[simp] theorem fa37_0 : faOff EE 37 0 = some 0 := by kernel_rfl
@[simp] theorem fa37_1 : faOff EE 37 1 = some 1 := by kernel_rfl
@[simp] theorem fa37_2 : faOff EE 37 2 = some 2 := by kernel_rfl
@[simp] theorem fa37_3 : faOff EE 37 3 = some 4 := by kernel_rfl
@[simp] theorem fa49_0 : faOff EE 49 0 = some 0 := by kernel_rfl
@[simp] theorem fa49_1 : faOff EE 49 1 = some 1 := by kernel_rfl
@[simp] theorem fa51_0 : faOff EE 51 0 = some 0 := by kernel_rfl
@[simp] theorem fa51_1 : faOff EE 51 1 = some 1 := by kernel_rfl
@[simp] theorem fa51_2 : faOff EE 51 2 = some 2 := by kernel_rfl
@[simp] theorem fa51_3 : faOff EE 51 3 = some 3 := by kernel_rfl
@[simp] theorem fa51_4 : faOff EE 51 4 = some 4 := by kernel_rfl
@[simp] theorem fa60_0 : faOff EE 60 0 = some 0 := by kernel_rfl
@[simp] theorem fa60_1 : faOff EE 60 1 = some 2 := by kernel_rfl
@[simp] theorem fa60_2 : faOff EE 60 2 = some 3 := by kernel_rfl
@[simp] theorem fa72_0 : faOff EE 72 0 = some 0 := by kernel_rfl
@[simp] theorem fa72_1 : faOff EE 72 1 = some 2 := by kernel_rfl
@[simp] theorem fa81_0 : faOff EE 81 0 = some 0 := by kernel_rfl
@[simp] theorem fa81_1 : faOff EE 81 1 = some 1 := by kernel_rfl
@[simp] theorem fa81_2 : faOff EE 81 2 = some 2 := by kernel_rfl
@[simp] theorem fa81_3 : faOff EE 81 3 = some 3 := by kernel_rfl
@[simp] theorem fa88_0 : faOff EE 88 0 = some 0 := by kernel_rfl
@[simp] theorem fa88_1 : faOff EE 88 1 = some 1 := by kernel_rfl
@[simp] theorem fa88_2 : faOff EE 88 2 = some 3 := by kernel_rfl
@[simp] theorem fa97_0 : faOff EE 97 0 = some 0 := by kernel_rfl
@[simp] theorem fa97_1 : faOff EE 97 1 = some 1 := by kernel_rfl
@[simp] theorem fa97_2 : faOff EE 97 2 = some 2 := by kernel_rfl
@[simp] theorem fa97_3 : faOff EE 97 3 = some 3 := by kernel_rfl
@[simp] theorem fa101_0 : faOff EE 101 0 = some 0 := by kernel_rfl
@[simp] theorem fa101_1 : faOff EE 101 1 = some 1 := by kernel_rfl
@[simp] theorem fa101_2 : faOff EE 101 2 = some 5 := by kernel_rfl
@[simp] theorem fa105_0 : faOff EE 105 0 = some 0 := by kernel_rfl
@[simp] theorem fa105_1 : faOff EE 105 1 = some 3 := by kernel_rfl
@[simp] theorem fa108_0 : faOff EE 108 0 = some 0 := by kernel_rfl
@[simp] theorem fa108_1 : faOff EE 108 1 = some 1 := by kernel_rfl
@[simp] theorem fa108_2 : faOff EE 108 2 = some 3 := by kernel_rfl
@[simp] theorem fa108_3 : faOff EE 108 3 = some 5 := by kernel_rfl
@[simp] theorem fa131_0 : faOff EE 131 0 = some 0 := by kernel_rfl
@[simp] theorem fa131_1 : faOff EE 131 1 = some 1 := by kernel_rfl
@[simp] theorem fa131_2 : faOff EE 131 2 = some 2 := by kernel_rfl
@[simp] theorem fa135_0 : faOff EE 135 0 = some 0 := by kernel_rfl
@[simp] theorem fa135_1 : faOff EE 135 1 = some 12 := by kernel_rfl
@[simp] theorem fa135_2 : faOff EE 135 2 = some 16 := by kernel_rfl
@[simp] theorem fa137_0 : faOff EE 137 0 = some 0 := by kernel_rfl
@[simp] theorem fa137_1 : faOff EE 137 1 = some 17 := by kernel_rfl
@[simp] theorem fa137_2 : faOff EE 137 2 = some 18 := by kernel_rfl
@[simp] theorem fa142_0 : faOff EE 142 0 = some 0 := by kernel_rfl
@[simp] theorem fa142_1 : faOff EE 142 1 = some 1 := by kernel_rfl
@[simp] theorem fa142_2 : faOff EE 142 2 = some 2 := by kernel_rfl
@[simp] theorem fa142_3 : faOff EE 142 3 = some 3 := by kernel_rfl
@[simp] theorem fa159_0 : faOff EE 159 0 = some 0 := by kernel_rfl
@[simp] theorem fa159_1 : faOff EE 159 1 = some 1 := by kernel_rfl
@[simp] theorem fa165_0 : faOff EE 165 0 = some 0 := by kernel_rfl
@[simp] theorem fa165_1 : faOff EE 165 1 = some 1 := by kernel_rfl
@[simp] theorem fa165_2 : faOff EE 165 2 = some 2 := by kernel_rfl
@[simp] theorem fa171_0 : faOff EE 171 0 = some 0 := by kernel_rfl
@[simp] theorem fa171_1 : faOff EE 171 1 = some 2 := by kernel_rfl
@[simp] theorem fa171_2 : faOff EE 171 2 = some 3 := by kernel_rfl
@[simp] theorem bs22_0 (ps : List (Nat × X)) : bsl EE 22 0 ps = (fill (fun j => some (j * 6, 6)) (List.replicate 0 (X.cells (.a [.int .i64 0, .int .i64 0, .int .i64 0, .int .i64 0, .int .i64 0, .int .i64 0]))).flatten ps).map fun cs => (cs, 6) := bsl_of sl22 ti108 (by decide) (by decide) rfl
@[simp] theorem bs22_2 (ps : List (Nat × X)) : bsl EE 22 2 ps = (fill (fun j => some (j * 6, 6)) (List.replicate 2 (X.cells (.a [.int .i64 0, .int .i64 0, .int .i64 0, .int .i64 0, .int .i64 0, .int .i64 0]))).flatten ps).map fun cs => (cs, 6) := bsl_of sl22 ti108 (by decide) (by decide) rfl
@[simp] theorem bs30_0 (ps : List (Nat × X)) : bsl EE 30 0 ps = (fill (fun j => some (j * 1, 1)) (List.replicate 0 (X.cells (.c (.int .i64 0)))).flatten ps).map fun cs => (cs, 1) := bsl_of sl30 ti3 (by decide) (by decide) rfl
@[simp] theorem bs30_1 (ps : List (Nat × X)) : bsl EE 30 1 ps = (fill (fun j => some (j * 1, 1)) (List.replicate 1 (X.cells (.c (.int .i64 0)))).flatten ps).map fun cs => (cs, 1) := bsl_of sl30 ti3 (by decide) (by decide) rfl
@[simp] theorem bs30_2 (ps : List (Nat × X)) : bsl EE 30 2 ps = (fill (fun j => some (j * 1, 1)) (List.replicate 2 (X.cells (.c (.int .i64 0)))).flatten ps).map fun cs => (cs, 1) := bsl_of sl30 ti3 (by decide) (by decide) rfl
@[simp] theorem bs30_4 (ps : List (Nat × X)) : bsl EE 30 4 ps = (fill (fun j => some (j * 1, 1)) (List.replicate 4 (X.cells (.c (.int .i64 0)))).flatten ps).map fun cs => (cs, 1) := bsl_of sl30 ti3 (by decide) (by decide) rfl
@[simp] theorem bs35_0 (ps : List (Nat × X)) : bsl EE 35 0 ps = (fill (fun j => some (j * 2, 2)) (List.replicate 0 (X.cells (.a [.int .i64 0, .int .i64 0]))).flatten ps).map fun cs => (cs, 2) := bsl_of sl35 ti24 (by decide) (by decide) rfl
@[simp] theorem bs35_1 (ps : List (Nat × X)) : bsl EE 35 1 ps = (fill (fun j => some (j * 2, 2)) (List.replicate 1 (X.cells (.a [.int .i64 0, .int .i64 0]))).flatten ps).map fun cs => (cs, 2) := bsl_of sl35 ti24 (by decide) (by decide) rfl
@[simp] theorem bs35_2 (ps : List (Nat × X)) : bsl EE 35 2 ps = (fill (fun j => some (j * 2, 2)) (List.replicate 2 (X.cells (.a [.int .i64 0, .int .i64 0]))).flatten ps).map fun cs => (cs, 2) := bsl_of sl35 ti24 (by decide) (by decide) rfl
@[simp] theorem bs35_4 (ps : List (Nat × X)) : bsl EE 35 4 ps = (fill (fun j => some (j * 2, 2)) (List.replicate 4 (X.cells (.a [.int .i64 0, .int .i64 0]))).flatten ps).map fun cs => (cs, 2) := bsl_of sl35 ti24 (by decide) (by decide) rfl
@[simp] theorem bs67_0 (ps : List (Nat × X)) : bsl EE 67 0 ps = (fill (fun j => some (j * 2, 2)) (List.replicate 0 (X.cells (.a [.int .i64 0, .int .i64 0]))).flatten ps).map fun cs => (cs, 2) := bsl_of sl67 ti49 (by decide) (by decide) rfl
@[simp] theorem bs67_1 (ps : List (Nat × X)) : bsl EE 67 1 ps = (fill (fun j => some (j * 2, 2)) (List.replicate 1 (X.cells (.a [.int .i64 0, .int .i64 0]))).flatten ps).map fun cs => (cs, 2) := bsl_of sl67 ti49 (by decide) (by decide) rfl
@[simp] theorem bs67_2 (ps : List (Nat × X)) : bsl EE 67 2 ps = (fill (fun j => some (j * 2, 2)) (List.replicate 2 (X.cells (.a [.int .i64 0, .int .i64 0]))).flatten ps).map fun cs => (cs, 2) := bsl_of sl67 ti49 (by decide) (by decide) rfl
@[simp] theorem bs76_0 (ps : List (Nat × X)) : bsl EE 76 0 ps = (fill (fun j => some (j * 4, 4)) (List.replicate 0 (X.cells (.a [.int .i64 0, .int .i64 0, .int .i64 0, .int .i64 0]))).flatten ps).map fun cs => (cs, 4) := bsl_of sl76 ti88 (by decide) (by decide) rfl
@[simp] theorem bs76_1 (ps : List (Nat × X)) : bsl EE 76 1 ps = (fill (fun j => some (j * 4, 4)) (List.replicate 1 (X.cells (.a [.int .i64 0, .int .i64 0, .int .i64 0, .int .i64 0]))).flatten ps).map fun cs => (cs, 4) := bsl_of sl76 ti88 (by decide) (by decide) rfl
@[simp] theorem bs128_1 (ps : List (Nat × X)) : bsl EE 128 1 ps = (fill (fun j => some (j * 3, 3)) (List.replicate 1 (X.cells (.a [.int .i64 0, .int .i64 0, .int .i64 0]))).flatten ps).map fun cs => (cs, 3) := bsl_of sl128 ti131 (by decide) (by decide) rfl
@[simp] theorem bs128_4 (ps : List (Nat × X)) : bsl EE 128 4 ps = (fill (fun j => some (j * 3, 3)) (List.replicate 4 (X.cells (.a [.int .i64 0, .int .i64 0, .int .i64 0]))).flatten ps).map fun cs => (cs, 3) := bsl_of sl128 ti131 (by decide) (by decide) rfl
@[simp] theorem ap22_22 : apI EE #[22, 22] = some (6, 48) := by kernel_rfl
@[simp] theorem ap30_30 : apI EE #[30, 30] = some (1, 8) := by kernel_rfl
@[simp] theorem ap35_35 : apI EE #[35, 35] = some (2, 16) := by kernel_rfl
@[simp] theorem ap67_67 : apI EE #[67, 67] = some (2, 16) := by kernel_rfl
@[simp] theorem ap76_76 : apI EE #[76, 76] = some (4, 32) := by kernel_rfl
@[simp] theorem ap128_128 : apI EE #[128, 128] = some (3, 24) := by kernel_rfl
@[simp] theorem cd3_4 : EE.cd 3 4 = [(2, 4), (2, 6), (2, 8)] := by kernel_rfl
@[simp] theorem cd3_11 : EE.cd 3 11 = [] := by kernel_rfl
@[simp] theorem cd4_9 : EE.cd 4 9 = [(11, 13)] := by kernel_rfl
@[simp] theorem cd5_8 : EE.cd 5 8 = [] := by kernel_rfl
@[simp] theorem cd5_14 : EE.cd 5 14 = [(3, 5)] := by kernel_rfl
@[simp] theorem cd5_15 : EE.cd 5 15 = [(4, 5)] := by kernel_rfl
@[simp] theorem cd7_3 : EE.cd 7 3 = [(1, 2)] := by kernel_rfl
@[simp] theorem cd8_10 : EE.cd 8 10 = [] := by kernel_rfl
@[simp] theorem cd9_3 : EE.cd 9 3 = [(2, 3), (2, 5), (4, 5)] := by kernel_rfl
@[simp] theorem cd10_12 : EE.cd 10 12 = [(2, 9), (5, 9)] := by kernel_rfl
@[simp] theorem cd10_16 : EE.cd 10 16 = [(5, 9)] := by kernel_rfl
@[simp] theorem cd10_23 : EE.cd 10 23 = [(3, 17)] := by kernel_rfl
@[simp] theorem cd10_26 : EE.cd 10 26 = [] := by kernel_rfl
@[simp] theorem cd10_28 : EE.cd 10 28 = [] := by kernel_rfl
@[simp] theorem cd10_32 : EE.cd 10 32 = [] := by kernel_rfl
@[simp] theorem cd10_34 : EE.cd 10 34 = [] := by kernel_rfl
@[simp] theorem cd11_3 : EE.cd 11 3 = [(1, 2)] := by kernel_rfl
@[simp] theorem cd11_4 : EE.cd 11 4 = [(1, 2)] := by kernel_rfl
@[simp] theorem cd12_13 : EE.cd 12 13 = [(3, 5), (3, 8)] := by kernel_rfl
@[simp] theorem cd12_20 : EE.cd 12 20 = [(7, 12), (7, 15), (7, 24), (7, 33)] := by kernel_rfl
@[simp] theorem cd12_31 : EE.cd 12 31 = [] := by kernel_rfl
@[simp] theorem cd13_6 : EE.cd 13 6 = [(1, 2)] := by kernel_rfl
@[simp] theorem cd13_7 : EE.cd 13 7 = [(1, 2)] := by kernel_rfl
@[simp] theorem cd13_14 : EE.cd 13 14 = [(2, 8), (5, 8)] := by kernel_rfl
@[simp] theorem cd13_39 : EE.cd 13 39 = [] := by kernel_rfl
@[simp] theorem cd13_42 : EE.cd 13 42 = [(1, 3), (1, 5)] := by kernel_rfl
@[simp] theorem cd13_43 : EE.cd 13 43 = [] := by kernel_rfl
@[simp] theorem cd14_3 : EE.cd 14 3 = [(2, 4), (2, 7), (5, 7)] := by kernel_rfl
@[simp] theorem cd14_4 : EE.cd 14 4 = [(2, 4), (2, 7), (5, 7)] := by kernel_rfl
@[simp] theorem cd14_7 : EE.cd 14 7 = [(2, 4), (4, 8), (5, 8), (8, 10)] := by kernel_rfl
@[simp] theorem cd14_14 : EE.cd 14 14 = [(4, 8)] := by kernel_rfl
@[simp] theorem cd14_21 : EE.cd 14 21 = [(4, 8)] := by kernel_rfl
@[simp] theorem cd14_28 : EE.cd 14 28 = [(2, 7), (2, 10)] := by kernel_rfl
@[simp] theorem cd14_29 : EE.cd 14 29 = [(2, 7), (2, 10)] := by kernel_rfl
@[simp] theorem cd15_3 : EE.cd 15 3 = [(2, 4), (2, 6), (2, 8)] := by kernel_rfl
@[simp] theorem cd15_6 : EE.cd 15 6 = [(1, 3), (3, 6), (4, 6)] := by kernel_rfl
@[simp] theorem cd15_7 : EE.cd 15 7 = [(2, 4), (2, 6)] := by kernel_rfl
@[simp] theorem cd15_13 : EE.cd 15 13 = [] := by kernel_rfl
@[simp] theorem cd15_15 : EE.cd 15 15 = [(5, 10)] := by kernel_rfl
@[simp] theorem cd15_18 : EE.cd 15 18 = [(5, 10), (10, 17), (11, 17)] := by kernel_rfl
@[simp] theorem cd16_14 : EE.cd 16 14 = [] := by kernel_rfl
@[simp] theorem cd17_7 : EE.cd 17 7 = [(18, 20)] := by kernel_rfl
@[simp] theorem cd18_15 : EE.cd 18 15 = [] := by kernel_rfl
@[simp] theorem cd18_17 : EE.cd 18 17 = [] := by kernel_rfl
@[simp] theorem cd19_16 : EE.cd 19 16 = [] := by kernel_rfl
@[simp] theorem cd19_19 : EE.cd 19 19 = [] := by kernel_rfl
@[simp] theorem cd21_1 : EE.cd 21 1 = [(30, 32), (37, 39)] := by kernel_rfl
@[simp] theorem cd22_1 : EE.cd 22 1 = [(1, 9), (3, 9), (5, 9)] := by kernel_rfl
@[simp] theorem cd23_3 : EE.cd 23 3 = [(1, 3)] := by kernel_rfl
@[simp] theorem cd26_9 : EE.cd 26 9 = [] := by kernel_rfl
@[simp] theorem cd26_10 : EE.cd 26 10 = [] := by kernel_rfl
@[simp] theorem cd28_5 : EE.cd 28 5 = [] := by kernel_rfl
@[simp] theorem cd28_15 : EE.cd 28 15 = [] := by kernel_rfl
@[simp] theorem cd29_16 : EE.cd 29 16 = [(5, 7), (5, 14), (11, 14), (5, 20), (11, 20), (18, 20)] := by kernel_rfl
@[simp] theorem cd29_24 : EE.cd 29 24 = [(12, 15)] := by kernel_rfl
@[simp] theorem cd29_25 : EE.cd 29 25 = [] := by kernel_rfl
@[simp] theorem cd29_32 : EE.cd 29 32 = [(1, 2)] := by kernel_rfl
@[simp] theorem cd30_5 : EE.cd 30 5 = [] := by kernel_rfl
@[simp] theorem cd31_3 : EE.cd 31 3 = [] := by kernel_rfl
@[simp] theorem cd31_4 : EE.cd 31 4 = [] := by kernel_rfl
@[simp] theorem cd32_2 : EE.cd 32 2 = [(1, 2)] := by kernel_rfl
@[simp] theorem cd32_3 : EE.cd 32 3 = [(4, 6)] := by kernel_rfl
@[simp] theorem cd33_7 : EE.cd 33 7 = [] := by kernel_rfl
@[simp] theorem cd33_10 : EE.cd 33 10 = [] := by kernel_rfl
@[simp] theorem cd34_16 : EE.cd 34 16 = [] := by kernel_rfl
@[simp] theorem cd35_1 : EE.cd 35 1 = [(1, 5), (5, 8), (1, 9)] := by kernel_rfl
@[simp] theorem cd36_16 : EE.cd 36 16 = [] := by kernel_rfl
@[simp] theorem cd38_4 : EE.cd 38 4 = [(0, 1)] := by kernel_rfl
@[simp] theorem cd38_19 : EE.cd 38 19 = [] := by kernel_rfl
@[simp] theorem cd39_1 : EE.cd 39 1 = [(1, 5)] := by kernel_rfl
@[simp] theorem cd42_3 : EE.cd 42 3 = [] := by kernel_rfl
@[simp] theorem cd52_1 : EE.cd 52 1 = [] := by kernel_rfl
@[simp] theorem cd57_8 : EE.cd 57 8 = [] := by kernel_rfl
@[simp] theorem cd61_1 : EE.cd 61 1 = [] := by kernel_rfl
@[simp] theorem cd61_5 : EE.cd 61 5 = [] := by kernel_rfl
@[simp] theorem cd63_5 : EE.cd 63 5 = [] := by kernel_rfl
@[simp] theorem cd64_5 : EE.cd 64 5 = [(0, 3)] := by kernel_rfl
@[simp] theorem cd64_6 : EE.cd 64 6 = [(0, 3)] := by kernel_rfl
@[simp] theorem cd65_3 : EE.cd 65 3 = [] := by kernel_rfl
@[simp] theorem cd65_8 : EE.cd 65 8 = [(5, 7), (5, 14)] := by kernel_rfl
@[simp] theorem cd66_17 : EE.cd 66 17 = [] := by kernel_rfl
@[simp] theorem cd67_4 : EE.cd 67 4 = [] := by kernel_rfl
@[simp] theorem cd69_1 : EE.cd 69 1 = [] := by kernel_rfl
@[simp] theorem cd69_2 : EE.cd 69 2 = [] := by kernel_rfl
@[simp] theorem cd72_8 : EE.cd 72 8 = [] := by kernel_rfl
@[simp] theorem cd73_7 : EE.cd 73 7 = [(0, 2)] := by kernel_rfl
@[simp] theorem cd75_4 : EE.cd 75 4 = [] := by kernel_rfl
@[simp] theorem cd78_1 : EE.cd 78 1 = [(9, 11)] := by kernel_rfl
@[simp] theorem cd79_4 : EE.cd 79 4 = [] := by kernel_rfl
@[simp] theorem cd83_1 : EE.cd 83 1 = [(4, 6), (4, 8)] := by kernel_rfl
@[simp] theorem cd91_8 : EE.cd 91 8 = [] := by kernel_rfl
@[simp] theorem cd92_3 : EE.cd 92 3 = [] := by kernel_rfl
@[simp] theorem cd95_4 : EE.cd 95 4 = [] := by kernel_rfl
@[simp] theorem cd97_8 : EE.cd 97 8 = [] := by kernel_rfl
@[simp] theorem cd102_1 : EE.cd 102 1 = [] := by kernel_rfl
@[simp] theorem cd106_6 : EE.cd 106 6 = [] := by kernel_rfl
@[simp] theorem cd107_1 : EE.cd 107 1 = [] := by kernel_rfl
@[simp] theorem cd113_6 : EE.cd 113 6 = [] := by kernel_rfl
@[simp] theorem cd120_12 : EE.cd 120 12 = [(4, 10), (7, 10)] := by kernel_rfl
@[simp] theorem cd120_13 : EE.cd 120 13 = [(0, 8), (1, 8), (2, 8), (3, 8), (8, 9), (8, 10), (8, 11), (0, 12), (1, 12), (2, 12), (3, 12), (8, 14), (12, 14), (8, 15), (12, 15), (8, 16), (12, 16), (0, 17), (1, 17), (2, 17), (3, 17), (8, 18), (12, 18), (17, 18), (8, 19), (12, 19), (17, 19), (8, 20), (12, 20), (17, 20), (0, 21), (1, 21), (2, 21), (3, 21)] := by kernel_rfl
@[simp] theorem cd122_1 : EE.cd 122 1 = [(1, 4)] := by kernel_rfl
@[simp] theorem cd123_1 : EE.cd 123 1 = [] := by kernel_rfl
@[simp] theorem cd126_7 : EE.cd 126 7 = [] := by kernel_rfl
@[simp] theorem cd129_1 : EE.cd 129 1 = [] := by kernel_rfl
@[simp] theorem cd129_3 : EE.cd 129 3 = [] := by kernel_rfl
@[simp] theorem cd129_4 : EE.cd 129 4 = [] := by kernel_rfl
theorem eqT_EE : EE.eqT = [24, 49, 51, 165, 148] := by kernel_rfl
@[simp] theorem eql24 (a0 b0 : Int) (a1 b1 : Int) : bin EE .eql 24 (.a [.int .i64 a0, .int .i64 a1]) (.a [.int .i64 b0, .int .i64 b1]) = some (.bool (decide (a0 = b0) && (decide (a1 = b1)))) := by
  have hc : (EE.eqT.contains 24 && (zero? EE 24).any fun z => (eqCells [.int .i64 a0, .int .i64 a1] z.cells).isSome) = true := by rw [eqT_EE, ze24]; simp [eqCells, C.eq?]
  simp only [bin, hc, if_true, eqCells, C.eq?, eqOut, Option.bind_eq_bind, Option.bind_some]
  simp only [int_beq, bool_beq, Bool.and_true]
@[simp] theorem neq24 (a0 b0 : Int) (a1 b1 : Int) : bin EE .neq 24 (.a [.int .i64 a0, .int .i64 a1]) (.a [.int .i64 b0, .int .i64 b1]) = some (.bool (!(decide (a0 = b0) && (decide (a1 = b1))))) := by
  have hc : (EE.eqT.contains 24 && (zero? EE 24).any fun z => (eqCells [.int .i64 a0, .int .i64 a1] z.cells).isSome) = true := by rw [eqT_EE, ze24]; simp [eqCells, C.eq?]
  simp only [bin, hc, if_true, eqCells, C.eq?, eqOut, Option.bind_eq_bind, Option.bind_some]
  simp only [int_beq, bool_beq, Bool.and_true]
@[simp] theorem eql49 (a0 b0 : Int) (a1 b1 : Int) : bin EE .eql 49 (.a [.int .i64 a0, .int .i64 a1]) (.a [.int .i64 b0, .int .i64 b1]) = some (.bool (decide (a0 = b0) && (decide (a1 = b1)))) := by
  have hc : (EE.eqT.contains 49 && (zero? EE 49).any fun z => (eqCells [.int .i64 a0, .int .i64 a1] z.cells).isSome) = true := by rw [eqT_EE, ze49]; simp [eqCells, C.eq?]
  simp only [bin, hc, if_true, eqCells, C.eq?, eqOut, Option.bind_eq_bind, Option.bind_some]
  simp only [int_beq, bool_beq, Bool.and_true]
@[simp] theorem neq49 (a0 b0 : Int) (a1 b1 : Int) : bin EE .neq 49 (.a [.int .i64 a0, .int .i64 a1]) (.a [.int .i64 b0, .int .i64 b1]) = some (.bool (!(decide (a0 = b0) && (decide (a1 = b1))))) := by
  have hc : (EE.eqT.contains 49 && (zero? EE 49).any fun z => (eqCells [.int .i64 a0, .int .i64 a1] z.cells).isSome) = true := by rw [eqT_EE, ze49]; simp [eqCells, C.eq?]
  simp only [bin, hc, if_true, eqCells, C.eq?, eqOut, Option.bind_eq_bind, Option.bind_some]
  simp only [int_beq, bool_beq, Bool.and_true]
@[simp] theorem eql51 (a0 b0 : Int) (a1 b1 : Int) (a2 b2 : Int) (a3 b3 : Int) (a4 b4 : Int) (a5 b5 : Int) : bin EE .eql 51 (.a [.int .i64 a0, .int .i64 a1, .int .i64 a2, .int .i64 a3, .int .i64 a4, .int .i64 a5]) (.a [.int .i64 b0, .int .i64 b1, .int .i64 b2, .int .i64 b3, .int .i64 b4, .int .i64 b5]) = some (.bool (decide (a0 = b0) && (decide (a1 = b1) && (decide (a2 = b2) && (decide (a3 = b3) && (decide (a4 = b4) && (decide (a5 = b5)))))))) := by
  have hc : (EE.eqT.contains 51 && (zero? EE 51).any fun z => (eqCells [.int .i64 a0, .int .i64 a1, .int .i64 a2, .int .i64 a3, .int .i64 a4, .int .i64 a5] z.cells).isSome) = true := by rw [eqT_EE, ze51]; simp [eqCells, C.eq?]
  simp only [bin, hc, if_true, eqCells, C.eq?, eqOut, Option.bind_eq_bind, Option.bind_some]
  simp only [int_beq, bool_beq, Bool.and_true]
@[simp] theorem neq51 (a0 b0 : Int) (a1 b1 : Int) (a2 b2 : Int) (a3 b3 : Int) (a4 b4 : Int) (a5 b5 : Int) : bin EE .neq 51 (.a [.int .i64 a0, .int .i64 a1, .int .i64 a2, .int .i64 a3, .int .i64 a4, .int .i64 a5]) (.a [.int .i64 b0, .int .i64 b1, .int .i64 b2, .int .i64 b3, .int .i64 b4, .int .i64 b5]) = some (.bool (!(decide (a0 = b0) && (decide (a1 = b1) && (decide (a2 = b2) && (decide (a3 = b3) && (decide (a4 = b4) && (decide (a5 = b5))))))))) := by
  have hc : (EE.eqT.contains 51 && (zero? EE 51).any fun z => (eqCells [.int .i64 a0, .int .i64 a1, .int .i64 a2, .int .i64 a3, .int .i64 a4, .int .i64 a5] z.cells).isSome) = true := by rw [eqT_EE, ze51]; simp [eqCells, C.eq?]
  simp only [bin, hc, if_true, eqCells, C.eq?, eqOut, Option.bind_eq_bind, Option.bind_some]
  simp only [int_beq, bool_beq, Bool.and_true]
@[simp] theorem eql165 (a0 b0 : Int) (a1 b1 : Int) (a2 b2 : Bool) : bin EE .eql 165 (.a [.int .u64 a0, .int .u64 a1, .bool a2]) (.a [.int .u64 b0, .int .u64 b1, .bool b2]) = some (.bool (decide (a0 = b0) && (decide (a1 = b1) && (decide (a2 = b2))))) := by
  have hc : (EE.eqT.contains 165 && (zero? EE 165).any fun z => (eqCells [.int .u64 a0, .int .u64 a1, .bool a2] z.cells).isSome) = true := by rw [eqT_EE, ze165]; simp [eqCells, C.eq?]
  simp only [bin, hc, if_true, eqCells, C.eq?, eqOut, Option.bind_eq_bind, Option.bind_some]
  simp only [int_beq, bool_beq, Bool.and_true]
@[simp] theorem neq165 (a0 b0 : Int) (a1 b1 : Int) (a2 b2 : Bool) : bin EE .neq 165 (.a [.int .u64 a0, .int .u64 a1, .bool a2]) (.a [.int .u64 b0, .int .u64 b1, .bool b2]) = some (.bool (!(decide (a0 = b0) && (decide (a1 = b1) && (decide (a2 = b2)))))) := by
  have hc : (EE.eqT.contains 165 && (zero? EE 165).any fun z => (eqCells [.int .u64 a0, .int .u64 a1, .bool a2] z.cells).isSome) = true := by rw [eqT_EE, ze165]; simp [eqCells, C.eq?]
  simp only [bin, hc, if_true, eqCells, C.eq?, eqOut, Option.bind_eq_bind, Option.bind_some]
  simp only [int_beq, bool_beq, Bool.and_true]
@[simp] theorem eql148 (a0 b0 : Int) (a1 b1 : Int) (a2 b2 : Int) : bin EE .eql 148 (.a [.int .i64 a0, .int .i64 a1, .int .i64 a2]) (.a [.int .i64 b0, .int .i64 b1, .int .i64 b2]) = some (.bool (decide (a0 = b0) && (decide (a1 = b1) && (decide (a2 = b2))))) := by
  have hc : (EE.eqT.contains 148 && (zero? EE 148).any fun z => (eqCells [.int .i64 a0, .int .i64 a1, .int .i64 a2] z.cells).isSome) = true := by rw [eqT_EE, ze148]; simp [eqCells, C.eq?]
  simp only [bin, hc, if_true, eqCells, C.eq?, eqOut, Option.bind_eq_bind, Option.bind_some]
  simp only [int_beq, bool_beq, Bool.and_true]
@[simp] theorem neq148 (a0 b0 : Int) (a1 b1 : Int) (a2 b2 : Int) : bin EE .neq 148 (.a [.int .i64 a0, .int .i64 a1, .int .i64 a2]) (.a [.int .i64 b0, .int .i64 b1, .int .i64 b2]) = some (.bool (!(decide (a0 = b0) && (decide (a1 = b1) && (decide (a2 = b2)))))) := by
  have hc : (EE.eqT.contains 148 && (zero? EE 148).any fun z => (eqCells [.int .i64 a0, .int .i64 a1, .int .i64 a2] z.cells).isSome) = true := by rw [eqT_EE, ze148]; simp [eqCells, C.eq?]
  simp only [bin, hc, if_true, eqCells, C.eq?, eqOut, Option.bind_eq_bind, Option.bind_some]
  simp only [int_beq, bool_beq, Bool.and_true]
end Go.Proofs.Ytemjdhglaljhbaa
