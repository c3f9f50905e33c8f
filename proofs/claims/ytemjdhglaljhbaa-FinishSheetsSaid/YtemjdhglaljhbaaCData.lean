/- What the arguments' types say, as plain data. -/
import Derived.Test.YtemjdhglaljhbaaVRow
import Derived.Test.YtemjdhglaljhbaaVT
import Derived.Test.YtemjdhglaljhbaaVEnvOk
import Derived.Test.YtemjdhglaljhbaaYKn
namespace Go.Proofs.Ytemjdhglaljhbaa
open Go.V
set_option linter.unusedSimpArgs false
set_option linter.unusedVariables false

theorem dat3 {S : St} {d : Nat} {cs : List C} (h : Dat EE S (d + 1) 3 cs) : ∃ n : Int, cs = [.int .i64 n] ∧ (Lit.int .i64 n).wf = true := by simpa [Dat] using h
theorem dat24 {S : St} {d : Nat} {cs : List C} (h : Dat EE S (d + 2) 24 cs) : ∃ a b : Int, cs = [.int .i64 a, .int .i64 b] ∧ (Lit.int .i64 a).wf = true ∧ (Lit.int .i64 b).wf = true := by
  rw [show d + 2 = (d + 1) + 1 from rfl] at h
  unfold Dat at h
  simp only [sh24] at h
  simp only [DatF] at h
  obtain ⟨a, b, rfl, _, ha, c, e, rfl, _, hc, rfl⟩ := h
  obtain ⟨x, rfl, hx⟩ := dat3 ha
  obtain ⟨y, rfl, hy⟩ := dat3 hc
  exact ⟨x, y, rfl, hx, hy⟩
theorem datN24 {S : St} {d : Nat} : ∀ {n : Nat} {cs : List C}, DatN (Dat EE S (d + 2) 24) 2 n cs → ∃ l : List (Int × Int), cs = encR l ∧ l.length = n ∧ ∀ r ∈ l, (Lit.int .i64 r.1).wf = true ∧ (Lit.int .i64 r.2).wf = true
  | 0, cs, h => by cases h; exact ⟨[], rfl, rfl, fun r hr => by cases hr⟩
  | n + 1, cs, ⟨a, b, h1, h2, h3, h4⟩ => by
    obtain ⟨l, rfl, hl, hw⟩ := datN24 h4
    obtain ⟨x, y, rfl, hx, hy⟩ := dat24 h3
    subst h1
    refine ⟨(x, y) :: l, rfl, by simp [hl], fun r hr => ?_⟩
    rcases List.mem_cons.1 hr with rfl | hr
    · exact ⟨hx, hy⟩
    · exact hw r hr
theorem datN3 {S : St} {d : Nat} : ∀ {n : Nat} {cs : List C}, DatN (Dat EE S (d + 1) 3) 1 n cs → ∃ l : List Int, cs = encI l ∧ l.length = n ∧ ∀ r ∈ l, (Lit.int .i64 r).wf = true
  | 0, cs, h => by cases h; exact ⟨[], rfl, rfl, fun r hr => by cases hr⟩
  | n + 1, cs, ⟨a, b, h1, h2, h3, h4⟩ => by
    obtain ⟨l, rfl, hl, hw⟩ := datN3 h4
    obtain ⟨x, rfl, hx⟩ := dat3 h3
    subst h1
    refine ⟨x :: l, rfl, by simp [hl], fun r hr => ?_⟩
    rcases List.mem_cons.1 hr with rfl | hr
    · exact hx
    · exact hw r hr
/-- A slice of ranges. -/
theorem dat35 {S : St} {d : Nat} {cs : List C} (h : Dat EE S (d + 3) 35 cs) : ∃ c l, cs = [c] ∧ SlR S c l ∧ l.length * 16 ≤ reachBytes ∧ ∀ r ∈ l, (Lit.int .i64 r.1).wf = true ∧ (Lit.int .i64 r.2).wf = true := by
  rw [show d + 3 = (d + 2) + 1 from rfl] at h
  unfold Dat at h
  simp only [sh35, ti24] at h
  obtain ⟨c, n, es, i, rfl, hi, h1, h2, h3, h4⟩ := h
  cases hi
  obtain ⟨l, rfl, rfl, hw⟩ := datN24 h4
  exact ⟨c, l, rfl, h1, h2, hw⟩
/-- A slice of numbers. -/
theorem dat30 {S : St} {d : Nat} {cs : List C} (h : Dat EE S (d + 2) 30 cs) : ∃ c l, cs = [c] ∧ SlI S c l ∧ l.length * 8 ≤ reachBytes ∧ ∀ r ∈ l, (Lit.int .i64 r).wf = true := by
  rw [show d + 2 = (d + 1) + 1 from rfl] at h
  unfold Dat at h
  simp only [sh30, ti3] at h
  obtain ⟨c, n, es, i, rfl, hi, h1, h2, h3, h4⟩ := h
  cases hi
  obtain ⟨l, rfl, rfl, hw⟩ := datN3 h4
  exact ⟨c, l, rfl, h1, h2, hw⟩
/-- A sheet. -/
theorem dat37 {S : St} {d : Nat} {cs : List C} (h : Dat EE S (d + 4) 37 cs) : ∃ w h cl ch c l, cs = [.int .i64 w, .int .i64 h, .int .i64 cl, .int .i64 ch, c] ∧ SlR S c l ∧ l.length * 16 ≤ reachBytes ∧ (∀ r ∈ l, (Lit.int .i64 r.1).wf = true ∧ (Lit.int .i64 r.2).wf = true) ∧
    (Lit.int .i64 w).wf = true ∧ (Lit.int .i64 h).wf = true ∧ (Lit.int .i64 cl).wf = true ∧ (Lit.int .i64 ch).wf = true := by
  rw [show d + 4 = (d + 3) + 1 from rfl] at h
  unfold Dat at h
  simp only [sh37] at h
  simp only [DatF] at h
  obtain ⟨a, _, rfl, _, ha, b, _, rfl, _, hb, c, _, rfl, _, hc, e, _, rfl, _, he, rfl⟩ := h
  obtain ⟨x, rfl, hx⟩ := dat3 ha
  obtain ⟨y, rfl, hy⟩ := dat3 hb
  obtain ⟨u, v, rfl, hu, hv⟩ := dat24 hc
  obtain ⟨s, l, rfl, h1, h2, h3⟩ := dat35 he
  exact ⟨x, y, u, v, s, l, rfl, h1, h2, h3, hx, hy, hu, hv⟩
/-! ### The environment, and the program's own facts -/
theorem envEE : EnvOk Try.prog EE := envOk (G := GG) fun f g h => by
  unfold GG at h
  split at h
  · rename_i e; cases h; subst e; exact known_ok
  · unfold G0 at h
    split at h
    · rename_i e; cases h; subst e; exact sub64_ok
    · split at h
      · rename_i e; cases h; subst e; exact apart_ok
      · split at h
        · rename_i e; cases h; subst e; exact len64_ok
        · cases h
theorem ownTry : ownKnob Try.prog.godebug = none := by kernel_rfl
theorem laidTry : laidOutB Try.prog = true := by kernel_rfl
end Go.Proofs.Ytemjdhglaljhbaa
