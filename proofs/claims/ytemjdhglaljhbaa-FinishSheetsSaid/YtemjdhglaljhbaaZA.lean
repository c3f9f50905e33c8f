/- Contracts that Apart needs, over the environment without functions that are taken as given: Less, and its own closure. -/
import Derived.Test.YtemjdhglaljhbaaZCU
namespace Go.Proofs.Ytemjdhglaljhbaa.Z
open Go.V
set_option maxRecDepth 10000
set_option linter.unusedSimpArgs false
set_option linter.unusedVariables false

theorem ascS_iff : ∀ (l : List Int) (p : Int), ascS p l = true ↔ ∀ i (h : i < l.length), ((p :: l)[i]'(by simp; omega)) < l[i]
  | [], p => by simp [ascS]
  | n :: l, p => by
    have ih := ascS_iff l n
    simp only [ascS, Bool.and_eq_true, decide_eq_true_eq, ih]
    constructor
    · rintro ⟨h1, h2⟩ i h
      cases i with
      | zero => exact h1
      | succ i => exact h2 i (by simpa using h)
    · intro h
      exact ⟨h 0 (by simp), fun i hi => h (i + 1) (by simpa using hi)⟩
theorem treated_iff (l : List Int) (many : Nat) : (ascS (-1) l && l.all (· < (many : Int))) = true ↔ ∀ i (h : i < l.length), 0 ≤ l[i] ∧ l[i] < many ∧ (0 < i → l[i - 1]'(by omega) < l[i]) := by
  rw [Bool.and_eq_true, ascS_iff]
  constructor
  · rintro ⟨h1, h2⟩ i
    have h3 : ∀ i (h : i < l.length), l[i] < many := fun i h => by
      have := List.all_eq_true.1 h2 _ (List.getElem_mem h)
      simpa using this
    induction i with
    | zero => intro h; have := h1 0 h; simp at this; exact ⟨by omega, h3 0 h, fun h => by omega⟩
    | succ i ih =>
      intro h
      have h4 := h1 (i + 1) h
      have h5 := ih (by omega)
      simp only [List.getElem_cons_succ] at h4
      exact ⟨by omega, h3 _ h, fun _ => h4⟩
  · intro h
    refine ⟨fun i hi => ?_, List.all_eq_true.2 fun x hx => ?_⟩
    · cases i with
      | zero => have := h 0 hi; simp; omega
      | succ i => have := (h (i + 1) hi).2.2 (by omega); simpa using this
    · obtain ⟨i, hi, rfl⟩ := List.getElem_of_mem hx
      have := (h i hi).2.1
      simpa using this
def lessR (a b : Int × Int) : (Int × Int) × Int := if validR a && validR b then fitsR (a.1 - b.2) (a.2 - b.1) else ((0, 0), 2)
theorem r74 {ys : Yls} {S : St} {a b c d : Int} : res EE ys (.f 74) [.a [.int .i64 a, .int .i64 b], .a [.int .i64 c, .int .i64 d]] S = some (.t [.a [.int .i64 (lessR (a, b) (c, d)).1.1, .int .i64 (lessR (a, b) (c, d)).1.2], .c (.int .i64 (lessR (a, b) (c, d)).2)], S, true) := by
  refine res_is (en74 fun R hn hh hlo => ?_)
  simp
  rw [r90 (l := [(a, b), (c, d)]) (SlR.mk (n := 2) (by simp) (by simp; rfl) (by simp [encR]) rfl) (by simp)]
  simp
  refine Br_i (fun h1 => ?_) (fun h1 => ?_) <;> simp [hlo, hn, h1]
  · have hf : ¬ (validR (a, b) = true ∧ validR (c, d) = true) := by rintro ⟨e1, e2⟩; simp [e1, e2] at h1
    simp [lessR, hf]
  · have hf : validR (a, b) = true ∧ validR (c, d) = true := by simpa using h1
    have h1' := hf
    simp [validR, isN] at h1'
    rw [wrap64 _ (by omega) (by omega), wrap64 _ (by omega) (by omega), r94]
    simp [hlo, hn, lessR, hf]
set_option maxHeartbeats 4000000 in
theorem r73 {ys : Yls} {S : St} {i : Nat} {cb ca : C} {bs : List (Int × Int)} {l : List Int} {lo hi : Int} (hi' : i < S.n) (hS : S.h i = some ⟨[cb], none, true⟩) (hb : SlR S cb bs) (hbl : bs.length < 2 ^ 62) (hl : SlI S ca l) (hlen : l.length < 2 ^ 62) :
    res EE ys (.f 73) [.a [.int .i64 lo, .int .i64 hi, ca], .c (.ptr (some (i, 0)))] S = some (.x (.c (.bool (!treatedS bs.length ((lo, hi), l)))), S, true) := by
  refine res_is (en73 fun R hn hh hlo => ?_)
  have hl : SlI R ca l := hl.mono (by omega) (fun i _ => by rw [hh])
  have hb : SlR R cb bs := hb.mono (by omega) (fun i _ => by rw [hh])
  rw [hn] at hi'
  rw [hh] at hS
  simp [hl.lenC]
  refine Wp_loop (fun (k : Nat) T S' => k ≤ l.length ∧ (∃ g, S' = ext R (some ⟨[.int .i64 lo, .int .i64 hi, ca], none, true⟩ :: g)) ∧ (∀ i (h : i < l.length), i < k → 0 ≤ l[i] ∧ l[i] < bs.length ∧ (0 < i → l[i - 1]'(by omega) < l[i])) ∧ Jk (fun J1 => [J1 0, .x (.c (.ptr (some (i, 0)))), .x (.c (.ptr (some (R.n, 0)))), .x (.c (.bool false)), J1 4, J1 5, J1 6, .x (.c ca), .x (.c (.int .i64 l.length)), .x (.c (.int .i64 k)), J1 10, J1 11, J1 12, J1 13, J1 14, J1 15, J1 16, J1 17, J1 18, J1 19, J1 20, J1 21, J1 22, J1 23, J1 24, J1 25, J1 26, J1 27, J1 28, J1 29, J1 30, J1 31, J1 32, J1 33, J1 34, J1 35, J1 36, J1 37, J1 38, J1 39, J1 40, J1 41, J1 42]) T)
    (fun k => l.length - k) ?_ 0 ⟨Nat.zero_le _, ⟨[], rfl⟩, fun i h h0 => by omega, Jk_mk rfl⟩
  rintro k T _ ⟨hk, ⟨g, rfl⟩, hg, ⟨J1, rfl⟩⟩
  simp
  refine Br_i (fun h1 => ?_) (fun h1 => ?_) <;> simp at h1
  · obtain ⟨j, o, b, rfl, hbk, hj, he⟩ := hl.at h1
    simp [h1, hi', hbk, hj, he, hlo, hS, hb.lenC]
    have hno : ¬ (0 ≤ l[k] ∧ l[k] < bs.length ∧ (0 < k → l[k - 1]'(by omega) < l[k])) → treatedS bs.length ((lo, hi), l) = false := fun hx => by
      cases ht : ascS (-1) l && l.all (· < (bs.length : Int)) with
      | false => simp only [treatedS, ht, Bool.false_and]
      | true => exact absurd ((treated_iff l bs.length).1 ht k h1) hx
    refine Br_i (fun h2 => ?_) (fun h2 => ?_) <;> simp [hi', hbk, hj, he, hlo, hS, hb.lenC, hn, h2] <;> simp at h2
    · exact hno (by omega)
    refine Br_i (fun h3 => ?_) (fun h3 => ?_) <;> simp [hi', hbk, hj, he, hlo, hS, hb.lenC, hn, h3] <;> simp at h3
    · exact hno (by omega)
    refine Br_i (fun h4 => ?_) (fun h4 => ?_) <;> simp [hi', hbk, hj, he, hlo, hS, hb.lenC, hn, h4] <;> simp at h4
    · obtain ⟨j', o', b', hc, hbk', _, he'⟩ := hl.at (k := k - 1) (by omega)
      cases hc
      rw [hbk] at hbk'
      cases hbk'
      have hk1 : ((k : Int) - 1).toNat = k - 1 := by omega
      have hk2 : (0 : Int) ≤ (k : Int) - 1 ∧ (k : Int) - 1 < l.length := by omega
      have hk3 : (1 : Int) ≤ k := by omega
      rw [wrap64 _ (by omega) (by omega), hk1]
      simp [hi', hbk, hj, he', hlo, hS, hb.lenC, hn, hk2, hk3]
      refine Br_i (fun h5 => ?_) (fun h5 => ?_) <;> simp [hi', hbk, hj, he, hlo, hS, hb.lenC, hn, h5] <;> simp at h5
      · exact hno (by omega)
      · rw [wrap64 _ (by omega) (by omega)]
        exact ⟨k + 1, by omega, by omega, ⟨_, rfl⟩, fun i h hi => by
          by_cases e : i = k
          · subst e; exact ⟨by omega, by omega, fun _ => by omega⟩
          · exact hg i h (by omega), Jk_mk rfl⟩
    · rw [wrap64 _ (by omega) (by omega)]
      exact ⟨k + 1, by omega, by omega, ⟨_, rfl⟩, fun i h hi => by
        by_cases e : i = k
        · subst e; exact ⟨by omega, by omega, fun _ => by omega⟩
        · exact hg i h (by omega), Jk_mk rfl⟩
  · have ht : (ascS (-1) l && l.all (· < (bs.length : Int))) = true := (treated_iff l bs.length).2 fun i h => hg i h (by omega)
    simp [hlo, hn]
    rw [r59]
    simp
    rw [r49 (l := [(lo, hi)]) (SlR.mk (n := 1) (by simp) (by simp; rfl) (by simp [encR]) rfl) (by simp)]
    have ht' : treatedS bs.length ((lo, hi), l) = spanS (lo, hi) 0 10000000 := by simp only [treatedS, ht, Bool.true_and]
    simp [hlo, hn, ht']
end Go.Proofs.Ytemjdhglaljhbaa.Z
