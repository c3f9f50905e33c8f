/- FinishSheets: the row. -/
import Derived.Test.YtemjdhglaljhbaaLSheets
import Derived.Test.YtemjdhglaljhbaaCData
import Derived.Test.YtemjdhglaljhbaaRows
namespace Go.Proofs.Ytemjdhglaljhbaa
open Go.V
namespace FSheets
open Go.ChangeShapes Go.WideShapes Go.ChangeAt Go.RowKit
set_option linter.unusedVariables false

theorem law (S : St) (xs : List X) (h : DatAll EE S 9 [37] xs) : ∃ S' p, res EE (fun _ => none) (.f 4) xs S = some (.x (.c (.bool true)), S', p) := by
  cases xs with
  | nil => exact h.elim
  | cons x xs =>
    cases xs with
    | cons y xs => exact h.2.elim
    | nil =>
      have h1 := h.1
      simp only [DatX, sh37] at h1
      obtain ⟨cs, rfl, h1⟩ := h1
      obtain ⟨w, hh, cl, ch, c, l, rfl, h2, h3, _⟩ := dat37 (d := 5) h1
      exact ⟨_, _, r4 h2 (by unfold reachBytes at h3; unfold maxBytes; omega)⟩
set_option maxRecDepth 100000 in
theorem lifted (os : Os) (started : os.Started) (H : Type) (enc : TypeId × Value → H) :
    ReturnsInHanded {} Try.checked os 4 .any (Rows.finishSheetsSpec.pre6 enc Try.prog Try.f4 Rows.finishSheetsRow.domain false) (Rows.finishSheetsSpec.post enc Try.prog Try.f4 false true false false) := by
  refine returnsInHanded_of_change_sized (C := Try.checked) ownTry started (by kernel_rfl) Try.func4
    (ChangeSpec.witness6 (enc := enc) (C := Try.checked) false ⟨#[], #[.agg #[.int .i64 0, .int .i64 0, .int .i64 0, .int .i64 0, .slice none 0 0]], []⟩ 8 (by kernel_rfl) (by kernel_rfl) (by kernel_rfl) (by kernel_rfl)) ?_
  intro W base args ds gs before hval0 hW hcnd hsz0 _
  exact law_row (E := EE) (f := 4) (d := 9) (ts := [37]) envEE (by kernel_rfl) rfl (by rw [Try.params4]) (tb := 4) (by kernel_rfl) Try.underlying4 (fun ds h => by match ds, h with | [d], _ => rfl) laidTry (by kernel_rfl) (by kernel_rfl) hval0 hW hsz0 law
theorem over : Rows.finishSheetsRow.holds Try.pinned (OpenSpec.ofChange Rows.finishSheetsSpec) :=
  OpenClaim.holds_of_wide 4 Try.f4 rfl rfl rfl rfl rfl rfl rfl ⟨rfl, rfl, rfl, rfl, rfl⟩ rfl rfl rfl rfl rfl (by kernel_rfl) Try.func4 (by kernel_rfl)
    (of_decide_eq_true (by kernel_rfl)) (by unfold Func.isWrapper; first | (rw [if_pos (by decide +kernel)]; kernel_rfl) | (rw [if_neg (by decide +kernel)]; exact ⟨rfl, rfl⟩))
    (fun os started H enc _ => lifted os started H enc)
end FSheets
theorem finishSheets_holds : Rows.FinishSheetsSaid := FSheets.over
#print axioms finishSheets_holds
end Go.Proofs.Ytemjdhglaljhbaa
