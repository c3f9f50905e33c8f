/- Functions that are taken as given: bits.Sub64. -/
import Derived.Test.YtemjdhglaljhbaaVEnvOk
import Derived.Test.YtemjdhglaljhbaaVGG
namespace Go.Proofs.Ytemjdhglaljhbaa
open Go.V
set_option maxRecDepth 100000

theorem find124 : Extern.find Try.f124 = (Extern.MathBitsCarry.rows[1]?).map (·.2) := by kernel_rfl
theorem findNext124 : (Extern.findNext Try.f124).isNone = true := by kernel_rfl
theorem body124 : Try.f124.body.isNone = true := by kernel_rfl
theorem name124 : (Try.f124.name == "runtime.NumGoroutine") = false := by kernel_rfl
theorem three_eq (name : String) (u v c : Value) : Extern.MathBitsCarry.three name #[u, v, c] = (do
    let c := (← asInt c).toNat
    if c > 1 then unsupported (.noEntry ("extern/math/bits." ++ name ++ ": a carry that is neither 0 nor 1"))
    pure ((← asInt u).toNat, (← asInt v).toNat, c)) := rfl
theorem three_run {k1 k2 k3 : IntKind} {x y b : Int} (hb : b.toNat ≤ 1) (w : World) : (Extern.MathBitsCarry.three "Sub64" #[.int k1 x, .int k2 y, .int k3 b]).run Try.prog w = .ok (x.toNat, y.toNat, b.toNat) w := by
  have hm : ¬ (b.toNat > 1) := by omega
  rw [three_eq]
  simp only [asInt, asIntOf, Sem.run_bind, Sem.run_pure, Result.andThen_ok, if_neg hm]
theorem sub64_ok : OracleOk Try.prog 124 sub64 := by
  intro args S v S' p h ho
  unfold sub64 at h
  split at h
  · rename_i k1 x k2 y k3 b S0
    split at h
    · rename_i hb
      cases h
      refine ⟨⟨.refl ho, fun _ _ _ => rfl⟩, fun β w vargs hr hargs => ?_⟩
      cases hargs with
      | cons h1 t =>
        cases t with
        | cons h2 t =>
          cases t with
          | cons h3 t =>
            cases t
            obtain rfl := (show _ = _ from h1)
            obtain rfl := (show _ = _ from h2)
            obtain rfl := (show _ = _ from h3)
            right
            refine ⟨_, w, ?_, β, ⟨_, .cons rfl (.cons rfl .nil), rfl⟩, .refl hr⟩
            have hn : Extern.findNext Try.f124 = none := by
              have := findNext124
              cases hx : Extern.findNext Try.f124 with
              | none => rfl
              | some e => rw [hx] at this; cases this
            have hrow : ∀ _ : Array Value, ((Extern.MathBitsCarry.rows[1]?).map (·.2)) = some (fun (args : Array Value) => (do let (x, y, b) ← Extern.MathBitsCarry.three "Sub64" args; pure (Extern.MathBitsCarry.pair ((x + Extern.MathBitsCarry.m64 - y - b) % Extern.MathBitsCarry.m64) (if x < y + b then 1 else 0)))) := fun _ => rfl
            have hfind := find124.trans (hrow #[])
            have hb' : Try.f124.body = none := by simpa using body124
            have hname : Try.f124.name ≠ "runtime.NumGoroutine" := by simpa using name124
            rw [run_callFunc_extern Try.func124 name124 body124 hn hfind]
            simp only [Sem.run_bind, three_run hb, Result.andThen_ok, Sem.run_pure]
            by_cases hc : k2.toNat < k3.toNat + S0.toNat <;> simp [Extern.MathBitsCarry.pair, Extern.MathBitsCarry.m64, hc]
    · cases h
  · cases h
end Go.Proofs.Ytemjdhglaljhbaa
