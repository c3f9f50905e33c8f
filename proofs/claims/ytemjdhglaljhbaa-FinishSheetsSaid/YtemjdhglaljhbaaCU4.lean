/- Contracts of the reference's sheets: span, Sheet, ends, Thickness, Variation; ownSheet. -/
import Derived.Test.YtemjdhglaljhbaaCU3
namespace Go.Proofs.Ytemjdhglaljhbaa
open Go.V
set_option maxRecDepth 10000
set_option linter.unusedSimpArgs false
set_option linter.unusedVariables false

theorem r58 {ys : Yls} {S : St} {a b lo hi : Int} : res EE ys (.f 58) [.a [.int .i64 a, .int .i64 b], .c (.int .i64 lo), .c (.int .i64 hi)] S = some (.x (.c (.bool (spanS (a, b) lo hi))), S, true) := by
  refine res_is (en58 fun R hn hh hlo => ?_)
  simp
  refine Br_i (fun h1 => ?_) (fun h1 => ?_) <;> simp [hlo, hn, h1]
  · refine Br_i (fun h2 => ?_) (fun h2 => ?_) <;> simp [hlo, hn, h1, h2]
    · simp at h1 h2; simp [spanS, h1, h2]
    · simp at h1 h2; simp [spanS]; omega
  · simp at h1; simp [spanS]; omega
theorem r25 {ys : Yls} {S : St} {w h cl ch : Int} {c : C} {l : List (Int × Int)} (hl : SlR S c l) (hlen : l.length < 2 ^ 62) :
    res EE ys (.f 25) [.a [.int .i64 w, .int .i64 h, .int .i64 cl, .int .i64 ch, c]] S = some (.x (.c (.bool (sheetS w h (cl, ch) l))), S, true) := by
  refine res_is (en25 fun R hn hh hlo => ?_)
  have hl : SlR R c l := hl.mono (by omega) (fun i _ => by rw [hh])
  simp
  refine Br_i (fun h1 => ?_) (fun h1 => ?_) <;> simp [hlo, hn, h1]
  · simp at h1; simp [sheetS]; omega
  refine Br_i (fun h2 => ?_) (fun h2 => ?_) <;> simp [hlo, hn, h1, h2]
  · simp at h2; simp [sheetS]; omega
  refine Br_i (fun h3 => ?_) (fun h3 => ?_) <;> simp [hlo, hn, h1, h2, h3]
  · simp at h3; simp [sheetS]; omega
  refine Br_i (fun h4 => ?_) (fun h4 => ?_) <;> simp [hlo, hn, h1, h2, h3, h4, hl.lenC]
  · simp at h4; simp [sheetS]; omega
  simp at h1 h2 h3 h4
  have hw := sides h1 h2 h3 h4
  rw [wrap64 (w * h) (by omega) (by omega)]
  refine Br_i (fun h5 => ?_) (fun h5 => ?_) <;> simp [hlo, hn, h5]
  rotate_left
  · simp at h5; simp [sheetS, h5]
  have h5 := of_decide_eq_true h5
  refine Wp_loop (fun (k : Nat) T S' => k ≤ l.length ∧ (∀ i (h : i < l.length), i < k → spanS l[i] (-1000000) 1000000 = true) ∧ S' = ext R [some ⟨[.int .i64 w, .int .i64 h, .int .i64 cl, .int .i64 ch, c], none, true⟩] ∧ Jk (fun J1 => [J1 0, .x (.c (.ptr (some (R.n, 0)))), .x (.c (.bool false)), .x (.c (.int .i64 k)), J1 4, J1 5, J1 6, J1 7, J1 8, J1 9, J1 10, J1 11, J1 12, J1 13, J1 14, J1 15, J1 16, J1 17, J1 18, J1 19, J1 20, J1 21, J1 22, J1 23, J1 24, J1 25, J1 26, J1 27, J1 28, J1 29, J1 30, J1 31, J1 32, J1 33, J1 34, J1 35, J1 36, J1 37, J1 38, J1 39, J1 40, J1 41, J1 42, J1 43, J1 44, J1 45, J1 46, J1 47, J1 48, J1 49]) T)
    (fun k => l.length - k) ?_ 0 ⟨Nat.zero_le _, fun i _ h => by omega, rfl, Jk_mk rfl⟩
  rintro k T _ ⟨hk, hq, rfl, ⟨J1, rfl⟩⟩
  simp [hl.lenC]
  refine Br_i (fun h6 => ?_) (fun h6 => ?_) <;> simp at h6
  · obtain ⟨i, o, b, rfl, hb, hi, hle, he, _, _⟩ := hl.at h6
    simp [h6, hb, hi, hle, he]
    rw [r58]
    simp
    refine Br_i (fun h7 => ?_) (fun h7 => ?_) <;> simp [hlo, hn, h7]
    · rw [wrap64 _ (by omega) (by omega)]
      exact ⟨k + 1, by omega, by omega, fun i hi hik => by
        by_cases e : i = k
        · subst e; exact h7
        · exact hq i hi (by omega), Jk_mk rfl⟩
    · simp [sheetS]
      intro _ _ _ _ _ hall
      exact absurd (hall l[k].1 l[k].2 (List.getElem_mem h6)) (by simp [h7])
  · simp [hlo, hn]
    rw [r58]
    have hall : (l.all fun r => spanS r (-1000000) 1000000) = true := by
      rw [List.all_eq_true]
      intro x hx
      obtain ⟨i, hi, rfl⟩ := List.getElem_of_mem hx
      exact hq i hi (by omega)
    simp [hlo, hn, sheetS, h1, h2, h3, h4, h5, hall]
def endLo (l : List (Int × Int)) (k : Nat) : Int := (l.take k).foldl (fun x r => min x r.1) ((l[0]?).getD (0, 0)).1
def endHi (l : List (Int × Int)) (k : Nat) : Int := (l.take k).foldl (fun x r => max x r.2) ((l[0]?).getD (0, 0)).2
theorem endLo_succ {l : List (Int × Int)} {k : Nat} (h : k < l.length) : endLo l (k + 1) = min (endLo l k) l[k].1 := by
  unfold endLo
  rw [List.take_succ_eq_append_getElem h, List.foldl_append]
  rfl
theorem endHi_succ {l : List (Int × Int)} {k : Nat} (h : k < l.length) : endHi l (k + 1) = max (endHi l k) l[k].2 := by
  unfold endHi
  rw [List.take_succ_eq_append_getElem h, List.foldl_append]
  rfl
theorem r61 {ys : Yls} {S : St} {w h cl ch : Int} {c : C} {l : List (Int × Int)} (hl : SlR S c l) (hp : 0 < l.length) (hlen : l.length < 2 ^ 62) :
    res EE ys (.f 61) [.a [.int .i64 w, .int .i64 h, .int .i64 cl, .int .i64 ch, c]] S = some (.t [.c (.int .i64 (endLo l l.length)), .c (.int .i64 (endHi l l.length))], S, true) := by
  refine res_is (en61 fun R hn hh hlo => ?_)
  have hl : SlR R c l := hl.mono (by omega) (fun i _ => by rw [hh])
  obtain ⟨ib, o, b, rfl, hbb, hib, hat⟩ := hl.all hp
  obtain ⟨h01, h02, h03, h04⟩ := hat 0 hp
  simp at h01 h02 h03 h04
  simp [hp, hbb, hib, h03, h04]
  have e0 : l[0]? = some l[0] := List.getElem?_eq_getElem hp
  have e1 : endLo l 1 = l[0].1 := by rw [endLo_succ hp]; simp [endLo, e0]
  have e2 : endHi l 1 = l[0].2 := by rw [endHi_succ hp]; simp [endHi, e0]
  rw [← e1, ← e2]
  refine Wp_loop (fun (k : Nat) T S' => 1 ≤ k ∧ k ≤ l.length ∧ S' = ext R [some ⟨[.int .i64 w, .int .i64 h, .int .i64 cl, .int .i64 ch, .sl (some (ib, o)) l.length], none, true⟩] ∧ Jk (fun J1 => [J1 0, .x (.c (.ptr (some (R.n, 0)))), J1 2, J1 3, .x (.c (.int .i64 (endLo l k))), .x (.c (.int .i64 (endHi l k))), .x (.c (.int .i64 k)), J1 7, J1 8, J1 9, J1 10, J1 11, J1 12, J1 13, J1 14, J1 15, J1 16, J1 17, J1 18, J1 19, J1 20, J1 21, J1 22, J1 23, J1 24, J1 25, J1 26, J1 27, J1 28, J1 29, J1 30, J1 31, J1 32, J1 33, J1 34, J1 35, J1 36, J1 37, J1 38, J1 39, J1 40, J1 41]) T)
    (fun k => l.length - k) ?_ 1 ⟨Nat.le_refl _, hp, rfl, Jk_mk rfl⟩
  rintro k T _ ⟨hk0, hk, rfl, ⟨J1, rfl⟩⟩
  simp
  refine Br_i (fun h6 => ?_) (fun h6 => ?_) <;> simp at h6
  · obtain ⟨h11, h12, h13, h14⟩ := hat k h6
    simp [h6, hbb, hib, h13, h14]
    rw [wrap64 _ (by omega) (by omega), ← endLo_succ h6, ← endHi_succ h6]
    exact ⟨k + 1, by omega, by omega, by omega, Jk_mk rfl⟩
  · obtain rfl : k = l.length := by omega
    simp [hlo, hn]
def thickR (c : Int × Int) (l : List (Int × Int)) : Int × Int := (c.1 + endLo l l.length, c.2 + endHi l l.length)
theorem end_bound {l : List (Int × Int)} (hb : ∀ i (h : i < l.length), -1000000 ≤ l[i].1 ∧ l[i].1 ≤ l[i].2 ∧ l[i].2 ≤ 1000000) (hp : 0 < l.length) : ∀ k, k ≤ l.length → (-1000000 ≤ endLo l k ∧ endLo l k ≤ 1000000) ∧ -1000000 ≤ endHi l k ∧ endHi l k ≤ 1000000
  | 0, _ => by
    have e0 : l[0]? = some l[0] := List.getElem?_eq_getElem hp
    have := hb 0 hp
    simp [endLo, endHi, e0]
    omega
  | k + 1, hk => by
    have h1 := end_bound hb hp k (by omega)
    have h2 := hb k hk
    rw [endLo_succ hk, endHi_succ hk]
    omega
theorem r27 {ys : Yls} {S : St} {w h cl ch : Int} {c : C} {l : List (Int × Int)} (hl : SlR S c l) (hs : sheetS w h (cl, ch) l = true) :
    res EE ys (.f 27) [.a [.int .i64 w, .int .i64 h, .int .i64 cl, .int .i64 ch, c]] S = some (.x (.a [.int .i64 (thickR (cl, ch) l).1, .int .i64 (thickR (cl, ch) l).2]), S, true) := by
  obtain ⟨hwh, hb, hc⟩ := sheet_parts hs
  have hsd := sides hwh.1 hwh.2.1 hwh.2.2.1 hwh.2.2.2.1
  have hp : 0 < l.length := by omega
  have he := end_bound hb hp l.length (Nat.le_refl _)
  refine res_is (en27 fun R hn hh hlo => ?_)
  have hl : SlR R c l := hl.mono (by omega) (fun i _ => by rw [hh])
  simp at hc
  simp
  rw [r61 (hl.ext _) hp (by omega)]
  simp [hlo, hn]
  rw [wrap64 _ (by omega) (by omega), wrap64 _ (by omega) (by omega)]
  exact ⟨rfl, rfl⟩
/-- A sheet with cells of its own. -/
theorem r22 {ys : Yls} {S : St} {w h cl ch : Int} {c : C} {l : List (Int × Int)} (hl : SlR S c l) (hlen : l.length * 16 ≤ maxBytes) :
    res EE ys (.f 22) [.a [.int .i64 w, .int .i64 h, .int .i64 cl, .int .i64 ch, c]] S = some (.x (.a [.int .i64 w, .int .i64 h, .int .i64 cl, .int .i64 ch, .sl (some (S.n, 0)) l.length]), S.new ⟨encR l, some 2, true⟩, true) := by
  refine res_is (en22 fun R hn hh hlo => ?_)
  have hl : SlR R c l := hl.mono (by omega) (fun i _ => by rw [hh])
  obtain ⟨q, hq, hrow⟩ := Sl.rdC hl
  have hqlt : ∀ i o, q = some (i, o) → i < R.n := by
    rintro i o rfl
    have := hl.lt
    cases c with
    | sl p n => simp at hq; exact this i o n (by rw [hq.1])
    | _ => simp [rdC] at hq
  simp [hq]
  cases hc : l with
  | nil =>
    simp [hlo, hn]
    rw [tidy_row2 (cs := [.int .i64 w, .int .i64 h, .int .i64 cl, .int .i64 ch, .sl (some (R.n + 2, 0)) 0]) [.int .i64 w, .int .i64 h, .int .i64 cl, .int .i64 ch] (R.n + 2) 0 ⟨[], some 2, true⟩ rfl (by simp [hn, hlo]) (by simp) (by omega) (by simp) (by simp) rfl rfl]
    simp [hn, encR]
  | cons r l' =>
    rw [← hc]
    have hpos : 0 < l.length := by rw [hc]; simp
    rw [appR_own (cs := encR l) (b := ⟨[], some 2, true⟩) (by simp) rfl rfl rfl hpos (rowAt_ext hrow hqlt) (by simpa using hlen) (by have := hlen; omega)]
    simp [hlo, hn]
    rw [tidy_row2 (cs := [.int .i64 w, .int .i64 h, .int .i64 cl, .int .i64 ch, .sl (some (R.n + 3, 0)) l.length]) [.int .i64 w, .int .i64 h, .int .i64 cl, .int .i64 ch] (R.n + 3) l.length ⟨encR l, some 2, true⟩ rfl (by simp [hn, hlo]) (by simp) (by omega) (by simp) (encR_flat l) rfl rfl]
    simp [hn]
end Go.Proofs.Ytemjdhglaljhbaa
