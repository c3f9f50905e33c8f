/- known: the law's own run of the example, in the empty state; its calls are run by the kernel. -/
import Derived.Test.YtemjdhglaljhbaaYKc
namespace Go.Proofs.Ytemjdhglaljhbaa.Y
open Go.V
set_option maxRecDepth 10000
set_option linter.unusedSimpArgs false
set_option linter.unusedVariables false

set_option maxHeartbeats 4000000 in
theorem knownRun : res EE (fun _ => none) (.f 16) [] St0 = some (.x (.c (.bool true)), St0, true) := by
  refine res_is (en16 fun R hn hh hlo => ?_)
  obtain rfl : R = St0 := by
    cases R
    simp only [St0] at *
    subst hn hh hlo
    rfl
  have hlo : St0.lo = St0.n := rfl
  simp
  rw [c47 rfl]
  simp
  rw [c18]
  simp [hlo]
  rw [c48a]
  simp [hlo]
  rw [c23]
  simp [hlo]
  rw [c48b]
  simp [hlo]
  rw [c24]
  simp [hlo]
  rw [c48c]
  simp [hlo]
  rw [c41]
  simp [hlo]
  rw [c28]
  simp [hlo]
  rw [c48d]
  simp [hlo]
  rw [c32]
  simp [hlo]
  rw [c48e]
  simp [hlo]
  rw [c34]
  simp [hlo]
  rw [c48f]
  simp [hlo]
  rw [c36]
  simp [hlo]
  rw [c38]
  simp [hlo]
  all_goals rfl
end Go.Proofs.Ytemjdhglaljhbaa.Y
namespace Go.Proofs.Ytemjdhglaljhbaa
open Go.V
theorem known_ok : OracleOk Try.prog 16 knownO := by
  intro args S v S' p h ho
  unfold knownO at h
  split at h
  · cases h
    refine ⟨⟨.refl ho, fun _ _ _ => rfl⟩, fun β w vargs hr hargs => ?_⟩
    cases hargs
    obtain ⟨K, hK⟩ := of_res Y.knownRun
    have hrel : Rel (fun _ => none) St0 w := ⟨fun _ _ h => (by cases h), fun _ _ => rfl, fun _ _ _ h => (by cases h), fun _ _ _ _ _ _ _ h => (by cases h)⟩
    have hs := xCall_sound Y.eeOk K (fun _ => none) (.f 16) [] St0 _ _ _ (hK K (Nat.le_refl _)) ⟨Nat.le_refl _, fun _ _ => rfl⟩ (fun _ => none) w [] hrel (fun _ _ h => by cases h) .nil
    have key : ∀ u w', (∃ β', (Va.x (.c (.bool true))).rel β' u ∧ Step (fun _ => none) St0 w β' St0 w') → ∃ β', (Va.x (.c (.bool true))).rel β' u ∧ Step β S w β' S w' := by
      rintro u w' ⟨β', h1, h2⟩
      have hfr : ∀ k, k < w.heap.size → w'.heap[k]? = w.heap[k]? := fun k hk => h2.frame k hk (fun ⟨i, q, b, hq, _⟩ => by cases hq)
      refine ⟨β, h1, Map.le_refl _, fun i q hq => .inl hq, Nat.le_refl _, ⟨hr.dom, hr.ok, fun i q b hq hb => ?_, hr.inj⟩, h2.size, fun k hk _ => hfr k hk, fun k _ h => h, fun k _ h => h, h2.os, h2.tape, h2.output⟩
      have hbr := hr.blk i q b hq hb
      refine Blk.rel_mono (Map.le_refl _) hbr (hfr _ ?_)
      obtain ⟨cs, ty, fz, h3, _⟩ := hbr
      exact lt_of_heap h3
    rcases hs with ⟨h1, h2⟩ | ⟨u, w', h1, h2⟩
    · refine .inl ⟨h1, Calls.mono h2 ?_⟩
      intro e w' hq
      cases e with
      | returned u => exact key u w' hq
      | _ => exact hq.elim
    · exact .inr ⟨u, w', h1, key u w' h2⟩
  · cases h
end Go.Proofs.Ytemjdhglaljhbaa
