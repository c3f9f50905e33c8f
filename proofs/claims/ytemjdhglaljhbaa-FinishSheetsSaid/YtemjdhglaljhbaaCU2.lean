/- Contracts of units' sums and hulls. -/
import Derived.Test.YtemjdhglaljhbaaCU
namespace Go.Proofs.Ytemjdhglaljhbaa
open Go.V
set_option maxRecDepth 10000
set_option linter.unusedSimpArgs false
set_option linter.unusedVariables false

theorem r110 {ys : Yls} {S : St} {n : Int} : res EE ys (.f 110) [.c (.int .i64 n)] S = some (.x (.c (.bool (!isN n))), S, true) := by
  refine res_is (en110 fun R hn hh hlo => ?_)
  simp
  refine Br_i (fun h1 => ?_) (fun h1 => ?_) <;> simp [hlo, hn, h1]
  · simp at h1; simp [isN]; omega
  · simp at h1; rw [Bool.eq_iff_iff]; simp [isN]; omega
theorem r84 {ys : Yls} {S : St} {c : C} {l : List Int} (hl : SlI S c l) (hlen : l.length < 2 ^ 62) : res EE ys (.f 84) [.c c] S = some (.x (.c (.bool (l.all isN))), S, true) := by
  refine res_is (en84 fun R hn hh hlo => ?_)
  have hl : SlI R c l := hl.mono (by omega) (fun i _ => by rw [hh])
  simp
  rw [r51 (p := fun n => !isN n) (hl.ext _) hlen (fun n _ S' _ _ => r110)]
  simp [hlo, hn, List.all_eq_not_any_not]
theorem r115 {ys : Yls} {S : St} {a b : Int} : res EE ys (.f 115) [.a [.int .i64 a, .int .i64 b]] S = some (.x (.c (.bool (!validR (a, b)))), S, true) := by
  refine res_is (en115 fun R hn hh hlo => ?_)
  simp
  rw [r84 (l := [a, b]) (SlI.mk (n := 2) (by simp) (by simp; rfl) (by simp [encI]) rfl) (by simp)]
  simp [hlo, hn]
  refine Br_i (fun h1 => ?_) (fun h1 => ?_) <;> simp [hlo, hn, h1]
  · cases h3 : isN a <;> cases h4 : isN b <;> simp_all [validR]
    rw [Bool.eq_iff_iff]
    simp
  · cases h3 : isN a <;> cases h4 : isN b <;> simp_all [validR]
theorem r90 {ys : Yls} {S : St} {c : C} {l : List (Int × Int)} (hl : SlR S c l) (hlen : l.length < 2 ^ 62) : res EE ys (.f 90) [.c c] S = some (.x (.c (.bool (l.all validR))), S, true) := by
  refine res_is (en90 fun R hn hh hlo => ?_)
  have hl : SlR R c l := hl.mono (by omega) (fun i _ => by rw [hh])
  simp
  rw [r87 (p := fun n => !validR n) (hl.ext _) hlen (fun n _ S' _ _ => r115)]
  simp [hlo, hn, List.all_eq_not_any_not]
theorem r93 {ys : Yls} {S : St} {c : C} {l : List (Int × Int)} (hl : SlR S c l) (hlen : l.length < 2 ^ 62) : res EE ys (.f 93) [.c c] S = some (.x (.c (.int .i64 (checkR l))), S, true) := by
  refine res_is (en93 fun R hn hh hlo => ?_)
  have hl : SlR R c l := hl.mono (by omega) (fun i _ => by rw [hh])
  simp [hl.lenC]
  refine Br_i (fun h1 => ?_) (fun h1 => ?_) <;> simp [hlo, hn, h1]
  · simp at h1; simp [checkR]; omega
  rw [r90 (hl.ext _) hlen]
  simp [hlo, hn, h1]
  refine Br_i (fun h2 => ?_) (fun h2 => ?_) <;> simp [hlo, hn, h1, h2]
  all_goals (simp at h1; simp [checkR, h2]; omega)
theorem r94 {ys : Yls} {S : St} {a b : Int} : res EE ys (.f 94) [.c (.int .i64 a), .c (.int .i64 b)] S = some (.t [.a [.int .i64 (fitsR a b).1.1, .int .i64 (fitsR a b).1.2], .c (.int .i64 (fitsR a b).2)], S, true) := by
  refine res_is (en94 fun R hn hh hlo => ?_)
  simp
  rw [r84 (l := [a, b]) (SlI.mk (n := 2) (by simp) (by simp; rfl) (by simp [encI]) rfl) (by simp)]
  simp [hlo, hn]
  refine Br_i (fun h1 => ?_) (fun h1 => ?_) <;> simp [hlo, hn, h1]
  · cases h3 : isN a <;> cases h4 : isN b <;> simp_all [fitsR]
  · cases h3 : isN a <;> cases h4 : isN b <;> simp_all [fitsR]
theorem sum_bound {f : Int × Int → Int} : ∀ {l : List (Int × Int)}, (∀ r ∈ l, -1000000000000000 ≤ f r ∧ f r ≤ 1000000000000000) → -1000000000000000 * l.length ≤ (l.map f).sum ∧ (l.map f).sum ≤ 1000000000000000 * l.length
  | [], _ => by simp
  | r :: l, h => by
    have h1 := h r List.mem_cons_self
    have h2 := sum_bound (f := f) (l := l) fun r hr => h r (List.mem_cons_of_mem _ hr)
    simp only [List.map_cons, List.sum_cons, List.length_cons]
    omega
theorem r95 {ys : Yls} {S : St} {c : C} {l : List (Int × Int)} (hl : SlR S c l) (hlen : l.length ≤ 100) (hv : l.all validR = true) : res EE ys (.f 95) [.c c] S = some (.t [.c (.int .i64 (sumLo l)), .c (.int .i64 (sumHi l))], S, true) := by
  have hv1 : ∀ r ∈ l, -1000000000000000 ≤ r.1 ∧ r.1 ≤ 1000000000000000 := fun r hr => by have := List.all_eq_true.1 hv r hr; simp [validR, isN] at this; omega
  have hv2 : ∀ r ∈ l, -1000000000000000 ≤ r.2 ∧ r.2 ≤ 1000000000000000 := fun r hr => by have := List.all_eq_true.1 hv r hr; simp [validR, isN] at this; omega
  refine res_is (en95 fun R hn hh hlo => ?_)
  have hl : SlR R c l := hl.mono (by omega) (fun i _ => by rw [hh])
  simp [hl.lenC]
  refine Wp_loop (fun (k : Nat) T S' => k ≤ l.length ∧ (∃ g, S' = ext R g) ∧ Jk (fun J1 => [.x (.c c), J1 1, .x (.c (.int .i64 (sumLo (l.take k)))), .x (.c (.int .i64 (sumHi (l.take k)))), J1 4, J1 5, .x (.c c), .x (.c (.int .i64 l.length)), .x (.c (.int .i64 k)), J1 9, J1 10, J1 11, J1 12, J1 13, J1 14, J1 15, J1 16, J1 17, J1 18, J1 19, J1 20, J1 21, J1 22]) T)
    (fun k => l.length - k) ?_ 0 ⟨Nat.zero_le _, ⟨[], rfl⟩, Jk_mk rfl⟩
  rintro k T _ ⟨hk, ⟨g, rfl⟩, ⟨J1, rfl⟩⟩
  simp
  refine Br_i (fun h1 => ?_) (fun h1 => ?_) <;> simp at h1
  · obtain ⟨i, o, b, rfl, hb, hi, hle, he, _, _⟩ := hl.at h1
    have b1 := sum_bound (f := (·.1)) (l := l.take (k + 1)) fun r hr => hv1 r (List.mem_of_mem_take hr)
    have b2 := sum_bound (f := (·.2)) (l := l.take (k + 1)) fun r hr => hv2 r (List.mem_of_mem_take hr)
    have e1 : sumLo (l.take (k + 1)) = sumLo (l.take k) + l[k].1 := by
      unfold sumLo
      rw [List.take_succ_eq_append_getElem h1, List.map_append, List.sum_append]
      simp
    have e2 : sumHi (l.take (k + 1)) = sumHi (l.take k) + l[k].2 := by
      unfold sumHi
      rw [List.take_succ_eq_append_getElem h1, List.map_append, List.sum_append]
      simp
    have hlt : (l.take (k + 1)).length = k + 1 := by simp; omega
    rw [hlt] at b1 b2
    have b1 : -1000000000000000 * ((k + 1 : Nat) : Int) ≤ sumLo (l.take (k + 1)) ∧ sumLo (l.take (k + 1)) ≤ 1000000000000000 * ((k + 1 : Nat) : Int) := b1
    have b2 : -1000000000000000 * ((k + 1 : Nat) : Int) ≤ sumHi (l.take (k + 1)) ∧ sumHi (l.take (k + 1)) ≤ 1000000000000000 * ((k + 1 : Nat) : Int) := b2
    simp [h1, hi, hb, hle, he, hlo]
    rw [wrap64 _ (by omega) (by omega), wrap64 _ (by omega) (by omega), wrap64 _ (by omega) (by omega)]
    rw [← e1, ← e2]
    exact ⟨k + 1, by omega, by omega, ⟨_, rfl⟩, Jk_mk rfl⟩
  · simp [hlo, hn]
    have : k = l.length := by omega
    subst this
    simp
theorem sum_valid {l : List (Int × Int)} (h : checkR l = 0) : l.length ≤ 100 ∧ l.all validR = true := by
  unfold checkR at h
  split at h
  · omega
  · split at h
    · rename_i h1 h2; exact ⟨by omega, h2⟩
    · omega
theorem r54 {ys : Yls} {S : St} {c : C} {l : List (Int × Int)} (hl : SlR S c l) (hlen : l.length < 2 ^ 62) : res EE ys (.f 54) [.c c] S = some (.t [.a [.int .i64 (sumR l).1.1, .int .i64 (sumR l).1.2], .c (.int .i64 (sumR l).2)], S, true) := by
  refine res_is (en54 fun R hn hh hlo => ?_)
  have hl : SlR R c l := hl.mono (by omega) (fun i _ => by rw [hh])
  simp
  rw [r93 (hl.ext _) hlen]
  simp
  refine Br_i (fun h1 => ?_) (fun h1 => ?_) <;> simp [hlo, hn, h1]
  · simp at h1
    have := sum_valid h1
    rw [r95 (hl.ext _) this.1 this.2]
    simp
    rw [r94]
    simp [hlo, hn, sumR, h1]
  · simp at h1
    simp [sumR, h1]
theorem r119 {ys : Yls} {S : St} {a b c d : Int} : res EE ys (.f 119) [.a [.int .i64 a, .int .i64 b], .a [.int .i64 c, .int .i64 d]] S = some (.x (.a [.int .i64 (hull2 (a, b) (c, d)).1, .int .i64 (hull2 (a, b) (c, d)).2]), S, true) := by
  refine res_is (en119 fun R hn hh hlo => ?_)
  simp [hlo, hn, hull2]
def foldS (j : Int × Int → Int × Int → Int × Int) (l : List (Int × Int)) : (Int × Int) × Int :=
  if checkR l ≠ 0 then ((0, 0), checkR l) else
  match l with
  | [] => ((0, 0), 2)
  | r :: l => let x := l.foldl j r; if x.1 > x.2 then ((0, 0), 7) else (x, 0)
theorem r118 {ys : Yls} {S : St} {c : C} {l : List (Int × Int)} {g : FuncId} {j : Int × Int → Int × Int → Int × Int} (hl : SlR S c l) (hlen : l.length < 2 ^ 62)
    (hj : ∀ a b S', res EE ys (.f g) [.a [.int .i64 a.1, .int .i64 a.2], .a [.int .i64 b.1, .int .i64 b.2]] S' = some (.x (.a [.int .i64 (j a b).1, .int .i64 (j a b).2]), S', true)) :
    res EE ys (.f 118) [.c c, .c (.fn g [])] S = some (.t [.a [.int .i64 (foldS j l).1.1, .int .i64 (foldS j l).1.2], .c (.int .i64 (foldS j l).2)], S, true) := by
  refine res_is (en118 fun R hn hh hlo => ?_)
  have hl : SlR R c l := hl.mono (by omega) (fun i _ => by rw [hh])
  simp
  rw [r93 (hl.ext _) hlen]
  simp [hlo]
  refine Br_i (fun h1 => ?_) (fun h1 => ?_) <;> simp [hlo, hn, h1]
  rotate_left
  · simp at h1; simp [foldS, h1]
  simp at h1
  cases l with
  | nil => simp [hl.lenC, hlo, hn, foldS]; simp [checkR]
  | cons r l =>
    obtain ⟨i, o, b, rfl, hb, hi, hle, he, _, _⟩ := hl.at (k := 0) (by simp)
    have h0 : ¬ ((l.length : Int) + 1 = 0) := by omega
    simp [hb, hi, hlo, hn, h0]
    simp at hle he
    simp [hb, hi, hlo, hn, hle, he]
    obtain ⟨c', hc', hsl⟩ := SlR.slice (lo := 1) (hi := l.length + 1) (a := 1) (b := l.length + 1) hl rfl rfl (by omega) (by simp)
    rw [show (r :: l).length = l.length + 1 from rfl] at hc'
    simp at hsl
    simp [hc', hsl.lenC]
    have hlen' : l.length < 2 ^ 62 := by simp at hlen; omega
    refine Wp_loop (fun (k : Nat) T S' => k ≤ l.length ∧ (∃ g, S' = ext R (some ⟨[.int .i64 0, .int .i64 0], none, true⟩ :: some ⟨[.int .i64 ((l.take k).foldl j r).1, .int .i64 ((l.take k).foldl j r).2], none, true⟩ :: g)) ∧ Jk (fun J1 => [J1 0, .x (.c (.fn g [])), J1 2, J1 3, .x (.c (.ptr (some (R.n, 0)))), .x (.c (.int .i64 0)), J1 6, .x (.c (.ptr (some (R.n + 1, 0)))), J1 8, J1 9, J1 10, J1 11, J1 12, J1 13, J1 14, J1 15, J1 16, J1 17, J1 18, J1 19, J1 20, J1 21, J1 22, J1 23, .x (.c c'), .x (.c (.int .i64 l.length)), .x (.c (.int .i64 k)), J1 27, J1 28, J1 29, J1 30, J1 31, J1 32, J1 33, J1 34, J1 35, J1 36, J1 37, J1 38, J1 39, J1 40, J1 41]) T)
      (fun k => l.length - k) ?_ 0 ⟨Nat.zero_le _, ⟨[], rfl⟩, Jk_mk rfl⟩
    rintro k T _ ⟨hk, ⟨gg, rfl⟩, ⟨J1, rfl⟩⟩
    simp
    refine Br_i (fun h2 => ?_) (fun h2 => ?_) <;> simp at h2
    · obtain ⟨i', o', b', rfl, hb', hi', hle', he', _, _⟩ := hsl.at h2
      simp [h2, hi', hb', hle', he', hlo]
      rw [hj]
      simp [hlo]
      rw [wrap64 _ (by omega) (by omega)]
      have ef : (l.take (k + 1)).foldl j r = j ((l.take k).foldl j r) l[k] := by
        rw [List.take_succ_eq_append_getElem h2, List.foldl_append]
        rfl
      rw [← ef]
      exact ⟨k + 1, by omega, by omega, ⟨_, rfl⟩, Jk_mk rfl⟩
    · have : k = l.length := by omega
      subst this
      simp [hlo]
      refine Br_i (fun h3 => ?_) (fun h3 => ?_) <;> simp [hlo, hn, h3]
      · have h3' := of_decide_eq_true h3
        simp [foldS, h1, h3']
      · have h3' := of_decide_eq_false h3
        simp [foldS, h1, h3']
end Go.Proofs.Ytemjdhglaljhbaa
