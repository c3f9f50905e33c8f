/- Contracts of the small functions of units and finish, and of the reference's: ranges, sums, hulls, sheets. -/
import Derived.Test.YtemjdhglaljhbaaZK
namespace Go.Proofs.Ytemjdhglaljhbaa.Z
open Go.V
set_option maxRecDepth 10000
set_option linter.unusedSimpArgs false
set_option linter.unusedVariables false

/-! ### What they compute -/
def isN (n : Int) : Bool := decide (-1000000000000000 ≤ n) && decide (n ≤ 1000000000000000)
def validR (r : Int × Int) : Bool := isN r.1 && isN r.2 && decide (r.1 ≤ r.2)
def checkR (l : List (Int × Int)) : Int := if 100 < l.length then 5 else if l.all validR then 0 else 2
def fitsR (lo hi : Int) : (Int × Int) × Int := if isN lo && isN hi then ((lo, hi), 0) else ((0, 0), 10)
def sumLo (l : List (Int × Int)) : Int := (l.map (·.1)).sum
def sumHi (l : List (Int × Int)) : Int := (l.map (·.2)).sum
def sumR (l : List (Int × Int)) : (Int × Int) × Int := if checkR l = 0 then fitsR (sumLo l) (sumHi l) else ((0, 0), checkR l)
def hull2 (a b : Int × Int) : Int × Int := (min a.1 b.1, max a.2 b.2)
def sheetS (w h : Int) (c : Int × Int) (l : List (Int × Int)) : Bool :=
  decide (2 ≤ w) && decide (w ≤ 6) && decide (2 ≤ h) && decide (h ≤ 6) && decide ((l.length : Int) = w * h) && (l.all fun r => spanS r (-1000000) 1000000) && spanS c 0 10000000

theorem isN_iff (n : Int) : isN n = true ↔ -1000000000000000 ≤ n ∧ n ≤ 1000000000000000 := by simp [isN]
theorem sides {w h : Int} (h1 : 2 ≤ w) (h2 : w ≤ 6) (h3 : 2 ≤ h) (h4 : h ≤ 6) : 4 ≤ w * h ∧ w * h ≤ 36 := by
  have : w = 2 ∨ w = 3 ∨ w = 4 ∨ w = 5 ∨ w = 6 := by omega
  rcases this with rfl | rfl | rfl | rfl | rfl <;> omega
/-! ### slices.ContainsFunc -/
theorem r114 {ys : Yls} {S : St} {c : C} {l : List (Int × Int)} {g : FuncId} {caps : List (Nat × Nat)} {p : Int × Int → Bool} (hl : SlR S c l) (hlen : l.length < 2 ^ 62) (hp : ∀ r ∈ l, ∀ S' : St, S'.n = S.n → S'.h = S.h → res EE ys (.f g) (.a [.int .i64 r.1, .int .i64 r.2] :: caps.map fun p => .c (.ptr (some p))) S' = some (.x (.c (.bool (p r))), S', true)) :
    res EE ys (.f 114) [.c c, .c (.fn g caps)] S = some (.x (.c (.int .i64 (match l.findIdx? p with | some i => (i : Int) | none => -1))), S, true) := by
  refine res_is (en114 fun R hn hh hlo => ?_)
  have hl : SlR R c l := hl.mono (by omega) (fun i _ => by rw [hh])
  simp only [hn, hh] at hp
  simp [hl.lenC]
  refine Wp_loop (fun (k : Nat) T S => k ≤ l.length ∧ (∀ i (h : i < l.length), i < k → p l[i] = false) ∧ S = ext R [] ∧ Jk (fun J1 => [.x (.c c), .x (.c (.fn g caps)), J1 2, J1 3, .x (.c (.int .i64 0)), J1 5, .x (.c c), .x (.c (.int .i64 l.length)), .x (.c (.int .i64 k)), J1 9, J1 10, J1 11, J1 12, J1 13, J1 14, J1 15, J1 16, J1 17, J1 18]) T)
    (fun k => l.length - k) ?_ 0 ⟨Nat.zero_le _, fun i _ h => by omega, rfl, Jk_mk rfl⟩
  rintro k T _ ⟨hk, hq, rfl, ⟨J1, rfl⟩⟩
  simp
  refine Br_i (fun h1 => ?_) (fun h1 => ?_) <;> simp at h1
  · obtain ⟨i, o, b, rfl, hb, hi, hle, he, _, _⟩ := hl.at h1
    simp [h1, hi, hb, hle, he]
    rw [hp _ (List.getElem_mem h1) _ (by simp) (by simp [ext_nil])]
    simp
    refine Br_i (fun h2 => ?_) (fun h2 => ?_) <;> simp [h2, hlo, hn]
    · rw [show l.findIdx? p = some k from ?_]
      rw [List.findIdx?_eq_some_iff_getElem]
      exact ⟨h1, h2, fun j hj => by simpa using hq j (by omega) hj⟩
    · rw [wrap64 _ (by omega) (by omega)]
      exact ⟨k + 1, by omega, by omega, fun i hi hik => by
        by_cases e : i = k
        · subst e; exact h2
        · exact hq i hi (by omega), Jk_mk rfl⟩
  · simp [hlo, hn]
    rw [show l.findIdx? p = none from ?_]
    rw [List.findIdx?_eq_none_iff]
    intro x hx
    obtain ⟨i, hi, rfl⟩ := List.getElem_of_mem hx
    exact hq i hi (by omega)
theorem any_of_idx {α : Type} {l : List α} {p : α → Bool} : decide (0 ≤ (match l.findIdx? p with | some i => (i : Int) | none => -1)) = l.any p := by
  cases h : l.findIdx? p with
  | none =>
    simp [List.findIdx?_eq_none_iff] at h
    simpa using h
  | some i =>
    simp
    rw [List.findIdx?_eq_some_iff_getElem] at h
    obtain ⟨h1, h2, _⟩ := h
    exact ⟨_, List.getElem_mem h1, h2⟩
theorem r87 {ys : Yls} {S : St} {c : C} {l : List (Int × Int)} {g : FuncId} {caps : List (Nat × Nat)} {p : Int × Int → Bool} (hl : SlR S c l) (hlen : l.length < 2 ^ 62) (hp : ∀ r ∈ l, ∀ S' : St, S'.n = S.n → S'.h = S.h → res EE ys (.f g) (.a [.int .i64 r.1, .int .i64 r.2] :: caps.map fun p => .c (.ptr (some p))) S' = some (.x (.c (.bool (p r))), S', true)) :
    res EE ys (.f 87) [.c c, .c (.fn g caps)] S = some (.x (.c (.bool (l.any p))), S, true) := by
  refine res_is (en87 fun R hn hh hlo => ?_)
  have hl : SlR R c l := hl.mono (by omega) (fun i _ => by rw [hh])
  simp only [hn, hh] at hp
  simp
  rw [r114 (p := p) (hl.ext _) hlen (by simpa [ext_nil] using hp)]
  simp only [Rn_some, Lt_eval]
  simp [hlo, hn]
  exact any_of_idx
theorem r89 {ys : Yls} {S : St} {c : C} {l : List Int} {g : FuncId} {caps : List (Nat × Nat)} {p : Int → Bool} (hl : SlI S c l) (hlen : l.length < 2 ^ 62) (hp : ∀ r ∈ l, ∀ S' : St, S'.n = S.n → S'.h = S.h → res EE ys (.f g) (.c (.int .i64 r) :: caps.map fun p => .c (.ptr (some p))) S' = some (.x (.c (.bool (p r))), S', true)) :
    res EE ys (.f 89) [.c c, .c (.fn g caps)] S = some (.x (.c (.int .i64 (match l.findIdx? p with | some i => (i : Int) | none => -1))), S, true) := by
  refine res_is (en89 fun R hn hh hlo => ?_)
  have hl : SlI R c l := hl.mono (by omega) (fun i _ => by rw [hh])
  simp only [hn, hh] at hp
  simp [hl.lenC]
  refine Wp_loop (fun (k : Nat) T S => k ≤ l.length ∧ (∀ i (h : i < l.length), i < k → p l[i] = false) ∧ S = ext R [] ∧ Jk (fun J1 => [.x (.c c), .x (.c (.fn g caps)), J1 2, J1 3, .x (.c (.int .i64 0)), J1 5, .x (.c c), .x (.c (.int .i64 l.length)), .x (.c (.int .i64 k)), J1 9, J1 10, J1 11, J1 12, J1 13, J1 14, J1 15, J1 16, J1 17, J1 18]) T)
    (fun k => l.length - k) ?_ 0 ⟨Nat.zero_le _, fun i _ h => by omega, rfl, Jk_mk rfl⟩
  rintro k T _ ⟨hk, hq, rfl, ⟨J1, rfl⟩⟩
  simp
  refine Br_i (fun h1 => ?_) (fun h1 => ?_) <;> simp at h1
  · obtain ⟨i, o, b, rfl, hb, hi, he⟩ := hl.at h1
    simp [h1, hi, hb, he]
    rw [hp _ (List.getElem_mem h1) _ (by simp) (by simp [ext_nil])]
    simp
    refine Br_i (fun h2 => ?_) (fun h2 => ?_) <;> simp [h2, hlo, hn]
    · rw [show l.findIdx? p = some k from ?_]
      rw [List.findIdx?_eq_some_iff_getElem]
      exact ⟨h1, h2, fun j hj => by simpa using hq j (by omega) hj⟩
    · rw [wrap64 _ (by omega) (by omega)]
      exact ⟨k + 1, by omega, by omega, fun i hi hik => by
        by_cases e : i = k
        · subst e; exact h2
        · exact hq i hi (by omega), Jk_mk rfl⟩
  · simp [hlo, hn]
    rw [show l.findIdx? p = none from ?_]
    rw [List.findIdx?_eq_none_iff]
    intro x hx
    obtain ⟨i, hi, rfl⟩ := List.getElem_of_mem hx
    exact hq i hi (by omega)
theorem r51 {ys : Yls} {S : St} {c : C} {l : List Int} {g : FuncId} {caps : List (Nat × Nat)} {p : Int → Bool} (hl : SlI S c l) (hlen : l.length < 2 ^ 62) (hp : ∀ r ∈ l, ∀ S' : St, S'.n = S.n → S'.h = S.h → res EE ys (.f g) (.c (.int .i64 r) :: caps.map fun p => .c (.ptr (some p))) S' = some (.x (.c (.bool (p r))), S', true)) :
    res EE ys (.f 51) [.c c, .c (.fn g caps)] S = some (.x (.c (.bool (l.any p))), S, true) := by
  refine res_is (en51 fun R hn hh hlo => ?_)
  have hl : SlI R c l := hl.mono (by omega) (fun i _ => by rw [hh])
  simp only [hn, hh] at hp
  simp
  rw [r89 (p := p) (hl.ext _) hlen (by simpa [ext_nil] using hp)]
  simp only [Rn_some, Lt_eval]
  simp [hlo, hn]
  exact any_of_idx

/-! ### finish: limits, CheckSheet -/
theorem r50 {ys : Yls} {S : St} : res EE ys (.f 50) [] S = some (.x (.a [.int .i64 (-1000000), .int .i64 1000000]), S, true) := by
  refine res_is (en50 fun R hn hh hlo => ?_)
  simp [hlo, hn]
theorem r59 {ys : Yls} {S : St} : res EE ys (.f 59) [] S = some (.x (.a [.int .i64 0, .int .i64 10000000]), S, true) := by
  refine res_is (en59 fun R hn hh hlo => ?_)
  simp [hlo, hn]
theorem r88 {ys : Yls} {S : St} {i : Nat} {lo hi a b : Int} (hi' : i < S.n) (hS : S.h i = some ⟨[.int .i64 lo, .int .i64 hi], none, true⟩) : res EE ys (.f 88) [.a [.int .i64 a, .int .i64 b], .c (.ptr (some (i, 0)))] S = some (.x (.c (.bool (!spanS (a, b) lo hi))), S, true) := by
  refine res_is (en88 fun R hn hh hlo => ?_)
  rw [hn] at hi'
  rw [hh] at hS
  simp [hi', hS]
  refine Br_i (fun h1 => ?_) (fun h1 => ?_) <;> simp [hlo, hn, hi', hS, h1]
  · simp at h1; simp [spanS]; omega
  refine Br_i (fun h2 => ?_) (fun h2 => ?_) <;> simp [hlo, hn, hi', hS, h1, h2]
  · simp at h1 h2; simp [spanS]; omega
  · simp at h1 h2; simp [spanS, h1, h2, ← Int.not_lt]
theorem r49 {ys : Yls} {S : St} {c : C} {l : List (Int × Int)} {lo hi : Int} (hl : SlR S c l) (hlen : l.length < 2 ^ 62) :
    res EE ys (.f 49) [.a [.int .i64 lo, .int .i64 hi], .c c] S = some (.x (.c (.bool (l.all fun r => spanS r lo hi))), S, true) := by
  refine res_is (en49 fun R hn hh hlo => ?_)
  have hl : SlR R c l := hl.mono (by omega) (fun i _ => by rw [hh])
  simp
  rw [r87 (p := fun r => !spanS r lo hi) (hl.ext _) hlen]
  · simp [hlo, hn, List.all_eq_not_any_not]
  · intro r hr S' h1 h2
    exact r88 (by rw [h1]; simp) (by rw [h2]; simp)

set_option maxRecDepth 10000
set_option linter.unusedSimpArgs false
set_option linter.unusedVariables false

theorem r110 {ys : Yls} {S : St} {n : Int} : res EE ys (.f 110) [.c (.int .i64 n)] S = some (.x (.c (.bool (!isN n))), S, true) := by
  refine res_is (en110 fun R hn hh hlo => ?_)
  simp
  refine Br_i (fun h1 => ?_) (fun h1 => ?_) <;> simp [hlo, hn, h1]
  · simp at h1; simp [isN]; omega
  · simp at h1; rw [Bool.eq_iff_iff]; simp [isN]; omega
theorem r84 {ys : Yls} {S : St} {c : C} {l : List Int} (hl : SlI S c l) (hlen : l.length < 2 ^ 62) : res EE ys (.f 84) [.c c] S = some (.x (.c (.bool (l.all isN))), S, true) := by
  refine res_is (en84 fun R hn hh hlo => ?_)
  have hl : SlI R c l := hl.mono (by omega) (fun i _ => by rw [hh])
  simp
  rw [r51 (p := fun n => !isN n) (hl.ext _) hlen (fun n _ S' _ _ => r110)]
  simp [hlo, hn, List.all_eq_not_any_not]
theorem r115 {ys : Yls} {S : St} {a b : Int} : res EE ys (.f 115) [.a [.int .i64 a, .int .i64 b]] S = some (.x (.c (.bool (!validR (a, b)))), S, true) := by
  refine res_is (en115 fun R hn hh hlo => ?_)
  simp
  rw [r84 (l := [a, b]) (SlI.mk (n := 2) (by simp) (by simp; rfl) (by simp [encI]) rfl) (by simp)]
  simp [hlo, hn]
  refine Br_i (fun h1 => ?_) (fun h1 => ?_) <;> simp [hlo, hn, h1]
  · cases h3 : isN a <;> cases h4 : isN b <;> simp_all [validR]
    rw [Bool.eq_iff_iff]
    simp
  · cases h3 : isN a <;> cases h4 : isN b <;> simp_all [validR]
theorem r90 {ys : Yls} {S : St} {c : C} {l : List (Int × Int)} (hl : SlR S c l) (hlen : l.length < 2 ^ 62) : res EE ys (.f 90) [.c c] S = some (.x (.c (.bool (l.all validR))), S, true) := by
  refine res_is (en90 fun R hn hh hlo => ?_)
  have hl : SlR R c l := hl.mono (by omega) (fun i _ => by rw [hh])
  simp
  rw [r87 (p := fun n => !validR n) (hl.ext _) hlen (fun n _ S' _ _ => r115)]
  simp [hlo, hn, List.all_eq_not_any_not]
theorem r93 {ys : Yls} {S : St} {c : C} {l : List (Int × Int)} (hl : SlR S c l) (hlen : l.length < 2 ^ 62) : res EE ys (.f 93) [.c c] S = some (.x (.c (.int .i64 (checkR l))), S, true) := by
  refine res_is (en93 fun R hn hh hlo => ?_)
  have hl : SlR R c l := hl.mono (by omega) (fun i _ => by rw [hh])
  simp [hl.lenC]
  refine Br_i (fun h1 => ?_) (fun h1 => ?_) <;> simp [hlo, hn, h1]
  · simp at h1; simp [checkR]; omega
  rw [r90 (hl.ext _) hlen]
  simp [hlo, hn, h1]
  refine Br_i (fun h2 => ?_) (fun h2 => ?_) <;> simp [hlo, hn, h1, h2]
  all_goals (simp at h1; simp [checkR, h2]; omega)
theorem r94 {ys : Yls} {S : St} {a b : Int} : res EE ys (.f 94) [.c (.int .i64 a), .c (.int .i64 b)] S = some (.t [.a [.int .i64 (fitsR a b).1.1, .int .i64 (fitsR a b).1.2], .c (.int .i64 (fitsR a b).2)], S, true) := by
  refine res_is (en94 fun R hn hh hlo => ?_)
  simp
  rw [r84 (l := [a, b]) (SlI.mk (n := 2) (by simp) (by simp; rfl) (by simp [encI]) rfl) (by simp)]
  simp [hlo, hn]
  refine Br_i (fun h1 => ?_) (fun h1 => ?_) <;> simp [hlo, hn, h1]
  · cases h3 : isN a <;> cases h4 : isN b <;> simp_all [fitsR]
  · cases h3 : isN a <;> cases h4 : isN b <;> simp_all [fitsR]
theorem sum_bound {f : Int × Int → Int} : ∀ {l : List (Int × Int)}, (∀ r ∈ l, -1000000000000000 ≤ f r ∧ f r ≤ 1000000000000000) → -1000000000000000 * l.length ≤ (l.map f).sum ∧ (l.map f).sum ≤ 1000000000000000 * l.length
  | [], _ => by simp
  | r :: l, h => by
    have h1 := h r List.mem_cons_self
    have h2 := sum_bound (f := f) (l := l) fun r hr => h r (List.mem_cons_of_mem _ hr)
    simp only [List.map_cons, List.sum_cons, List.length_cons]
    omega
theorem r95 {ys : Yls} {S : St} {c : C} {l : List (Int × Int)} (hl : SlR S c l) (hlen : l.length ≤ 100) (hv : l.all validR = true) : res EE ys (.f 95) [.c c] S = some (.t [.c (.int .i64 (sumLo l)), .c (.int .i64 (sumHi l))], S, true) := by
  have hv1 : ∀ r ∈ l, -1000000000000000 ≤ r.1 ∧ r.1 ≤ 1000000000000000 := fun r hr => by have := List.all_eq_true.1 hv r hr; simp [validR, isN] at this; omega
  have hv2 : ∀ r ∈ l, -1000000000000000 ≤ r.2 ∧ r.2 ≤ 1000000000000000 := fun r hr => by have := List.all_eq_true.1 hv r hr; simp [validR, isN] at this; omega
  refine res_is (en95 fun R hn hh hlo => ?_)
  have hl : SlR R c l := hl.mono (by omega) (fun i _ => by rw [hh])
  simp [hl.lenC]
  refine Wp_loop (fun (k : Nat) T S' => k ≤ l.length ∧ (∃ g, S' = ext R g) ∧ Jk (fun J1 => [.x (.c c), J1 1, .x (.c (.int .i64 (sumLo (l.take k)))), .x (.c (.int .i64 (sumHi (l.take k)))), J1 4, J1 5, .x (.c c), .x (.c (.int .i64 l.length)), .x (.c (.int .i64 k)), J1 9, J1 10, J1 11, J1 12, J1 13, J1 14, J1 15, J1 16, J1 17, J1 18, J1 19, J1 20, J1 21, J1 22]) T)
    (fun k => l.length - k) ?_ 0 ⟨Nat.zero_le _, ⟨[], rfl⟩, Jk_mk rfl⟩
  rintro k T _ ⟨hk, ⟨g, rfl⟩, ⟨J1, rfl⟩⟩
  simp
  refine Br_i (fun h1 => ?_) (fun h1 => ?_) <;> simp at h1
  · obtain ⟨i, o, b, rfl, hb, hi, hle, he, _, _⟩ := hl.at h1
    have b1 := sum_bound (f := (·.1)) (l := l.take (k + 1)) fun r hr => hv1 r (List.mem_of_mem_take hr)
    have b2 := sum_bound (f := (·.2)) (l := l.take (k + 1)) fun r hr => hv2 r (List.mem_of_mem_take hr)
    have e1 : sumLo (l.take (k + 1)) = sumLo (l.take k) + l[k].1 := by
      unfold sumLo
      rw [List.take_succ_eq_append_getElem h1, List.map_append, List.sum_append]
      simp
    have e2 : sumHi (l.take (k + 1)) = sumHi (l.take k) + l[k].2 := by
      unfold sumHi
      rw [List.take_succ_eq_append_getElem h1, List.map_append, List.sum_append]
      simp
    have hlt : (l.take (k + 1)).length = k + 1 := by simp; omega
    rw [hlt] at b1 b2
    have b1 : -1000000000000000 * ((k + 1 : Nat) : Int) ≤ sumLo (l.take (k + 1)) ∧ sumLo (l.take (k + 1)) ≤ 1000000000000000 * ((k + 1 : Nat) : Int) := b1
    have b2 : -1000000000000000 * ((k + 1 : Nat) : Int) ≤ sumHi (l.take (k + 1)) ∧ sumHi (l.take (k + 1)) ≤ 1000000000000000 * ((k + 1 : Nat) : Int) := b2
    simp [h1, hi, hb, hle, he, hlo]
    rw [wrap64 _ (by omega) (by omega), wrap64 _ (by omega) (by omega), wrap64 _ (by omega) (by omega)]
    rw [← e1, ← e2]
    exact ⟨k + 1, by omega, by omega, ⟨_, rfl⟩, Jk_mk rfl⟩
  · simp [hlo, hn]
    have : k = l.length := by omega
    subst this
    simp
theorem sum_valid {l : List (Int × Int)} (h : checkR l = 0) : l.length ≤ 100 ∧ l.all validR = true := by
  unfold checkR at h
  split at h
  · omega
  · split at h
    · rename_i h1 h2; exact ⟨by omega, h2⟩
    · omega
theorem r54 {ys : Yls} {S : St} {c : C} {l : List (Int × Int)} (hl : SlR S c l) (hlen : l.length < 2 ^ 62) : res EE ys (.f 54) [.c c] S = some (.t [.a [.int .i64 (sumR l).1.1, .int .i64 (sumR l).1.2], .c (.int .i64 (sumR l).2)], S, true) := by
  refine res_is (en54 fun R hn hh hlo => ?_)
  have hl : SlR R c l := hl.mono (by omega) (fun i _ => by rw [hh])
  simp
  rw [r93 (hl.ext _) hlen]
  simp
  refine Br_i (fun h1 => ?_) (fun h1 => ?_) <;> simp [hlo, hn, h1]
  · simp at h1
    have := sum_valid h1
    rw [r95 (hl.ext _) this.1 this.2]
    simp
    rw [r94]
    simp [hlo, hn, sumR, h1]
  · simp at h1
    simp [sumR, h1]
end Go.Proofs.Ytemjdhglaljhbaa.Z
