/- The seat's program, as the evaluator reads it, and that it is so. -/
import Derived.Test.YtemjdhglaljhbaaVEnv
import Derived.Test.YtemjdhglaljhbaaVFacts
import Derived.Test.YtemjdhglaljhbaaChecked
import Derived.KernelRfl
namespace Go.Proofs.Ytemjdhglaljhbaa
open Go.V
set_option maxRecDepth 100000

def cdAt (f : FuncId) (id : Nat) : List (Nat × Nat) := ((cdTab[f]?).bind fun l => (l.find? (·.1 == id)).map (·.2)).getD []
/-- The evaluator's tables; G: the functions that are taken as given. -/
noncomputable def envOf (G : FuncId → Option (List X → St → Option (Va × St × Bool))) : Env := { fn := fun f => fnTab[f]?, ti := fun t => (tiTab[t]?).join, sh := fun t => (shTab[t]?).join, eqT := [24, 49, 51, 165, 148], cd := cdAt, G }
theorem tiTab_ok : allAt (tiCheck Try.prog) 0 tiTab = true := by kernel_rfl
theorem shTab_ok : allAt (shCheck Try.prog) 0 shTab = true := by kernel_rfl
theorem fnTab_ok : Try.prog.funcs.toList = fnTab := by kernel_rfl
theorem names_ok : fnTab.all (fun f => f.name != "runtime.NumGoroutine") = true := by kernel_rfl
def codesOk : Nat → List Func → Bool
  | _, [] => true
  | k, f :: l => (match f.body with | some c => codeOk (cdAt k) c | none => true) && codesOk (k + 1) l
theorem codes_ok : codesOk 0 fnTab = true := by kernel_rfl

theorem codesOk_get : ∀ {l : List Func} {k : Nat}, codesOk k l = true → ∀ (f : Nat) fn c, l[f]? = some fn → fn.body = some c → codeOk (cdAt (k + f)) c = true
  | [], k, _, f, fn, c, e, _ => by simp at e
  | x :: l, k, h, f, fn, c, e, hb => by
    simp only [codesOk, Bool.and_eq_true] at h
    cases f with
    | zero =>
      simp at e
      subst e
      rw [hb] at h
      exact h.1
    | succ f =>
      have := codesOk_get h.2 f fn c (by simpa using e) hb
      rw [show k + (f + 1) = k + 1 + f from by omega]
      exact this
end Go.Proofs.Ytemjdhglaljhbaa
