/- The seat's program: what the evaluator says of it is so. -/
import Derived.Test.YtemjdhglaljhbaaVSeat
import Derived.Test.YtemjdhglaljhbaaVEq
namespace Go.Proofs.Ytemjdhglaljhbaa
open Go.V
set_option maxRecDepth 100000

theorem flat24 : flatF Try.prog 9 (Try.prog.fieldsOf 24).toList [.int .i64 0, .int .i64 0] = true := by kernel_rfl
theorem flat49 : flatF Try.prog 9 (Try.prog.fieldsOf 49).toList [.int .i64 0, .int .i64 0] = true := by kernel_rfl
theorem flat51 : flatF Try.prog 9 (Try.prog.fieldsOf 51).toList [.int .i64 0, .int .i64 0, .int .i64 0, .int .i64 0, .int .i64 0, .int .i64 0] = true := by kernel_rfl
theorem flat165 : flatF Try.prog 9 (Try.prog.fieldsOf 165).toList [.int .u64 0, .int .u64 0, .bool false] = true := by kernel_rfl
theorem tyOk_size3 (_G : FuncId → Option (List X → St → Option (Va × St × Bool))) (w : World) : (sizeOf 3).run Try.prog w = .ok 1 w := by
  have h : (Try.prog.info? 3).map (·.size) = some 1 := by kernel_rfl
  obtain ⟨i, h1, h2⟩ := Option.map_eq_some_iff.1 h
  simp [sizeOf, typeInfo, h1, h2]
theorem tyOk (G : FuncId → Option (List X → St → Option (Va × St × Bool))) : TyOk Try.prog (envOf G) where
  ti t i h := tiCheck_ok (by have := allAt_ok tiTab_ok t i h; rwa [Nat.zero_add] at this)
  int t k h := by
    have := allAt_ok shTab_ok t _ h
    rw [Nat.zero_add] at this
    unfold shCheck at this
    split at this <;> simp_all
  str t h := by
    have := allAt_ok shTab_ok t _ h
    rw [Nat.zero_add] at this
    unfold shCheck at this
    split at this <;> simp_all
  bool t h := by
    have := allAt_ok shTab_ok t _ h
    rw [Nat.zero_add] at this
    unfold shCheck at this
    split at this <;> simp_all
  ptr t h := by
    have := allAt_ok shTab_ok t _ h
    rw [Nat.zero_add] at this
    unfold shCheck at this
    split at this <;> simp_all
  sl t e h := by
    have := allAt_ok shTab_ok t _ h
    rw [Nat.zero_add] at this
    unfold shCheck at this
    split at this <;> simp_all
  ar t n e h := by
    have := allAt_ok shTab_ok t _ h
    rw [Nat.zero_add] at this
    unfold shCheck at this
    split at this <;> simp_all
  st t fs h := by
    have := allAt_ok shTab_ok t _ h
    rw [Nat.zero_add] at this
    unfold shCheck at this
    split at this <;> first | (rename_i h1 h2; cases h1; exact ⟨_, h2, fieldsSame_eq this⟩) | simp_all
  eq t z ht hz := by
    intro β xs ys vx vy b h1 h2 h3 h4 op x y w
    have ht : t = 24 ∨ t = 49 ∨ t = 51 ∨ t = 165 ∨ t = 148 := by
      have : ([24, 49, 51, 165, 148] : List Nat).contains t = true := ht
      simpa using this
    rcases ht with rfl | rfl | rfl | rfl | rfl
    · cases hz; exact eq_struct (by kernel_rfl) (by kernel_rfl) (by kernel_rfl) flat24 h1 h2 h3 h4 op x y w
    · cases hz; exact eq_struct (by kernel_rfl) (by kernel_rfl) (by kernel_rfl) flat49 h1 h2 h3 h4 op x y w
    · cases hz; exact eq_struct (by kernel_rfl) (by kernel_rfl) (by kernel_rfl) flat51 h1 h2 h3 h4 op x y w
    · cases hz; exact eq_struct (by kernel_rfl) (by kernel_rfl) (by kernel_rfl) flat165 h1 h2 h3 h4 op x y w
    · cases hz; exact eq_arr3 (by kernel_rfl) (by kernel_rfl) (k := .i64) (e := 3) (by kernel_rfl) (fun w => (tyOk_size3 G w)) h1 h2 h3 h4 op x y w
theorem envOk {G : FuncId → Option (List X → St → Option (Va × St × Bool))} (hG : ∀ f g, G f = some g → OracleOk Try.prog f g) : EnvOk Try.prog (envOf G) where
  ty := tyOk G
  mixed := by kernel_rfl
  fn f fn h := by
    have h : fnTab[f]? = some fn := h
    refine ⟨?_, ?_⟩
    · rw [← h, ← fnTab_ok]
      simp
    · have := List.all_eq_true.1 names_ok fn (List.mem_of_getElem? h)
      simpa using this
  code f fn c h hb := by
    have := codesOk_get codes_ok f fn c h hb
    rwa [Nat.zero_add] at this
  G := hG
end Go.Proofs.Ytemjdhglaljhbaa
