/- Contract of the reference's Variation. -/
import Derived.Test.YtemjdhglaljhbaaCU4
namespace Go.Proofs.Ytemjdhglaljhbaa
open Go.V
set_option maxRecDepth 10000
set_option linter.unusedSimpArgs false
set_option linter.unusedVariables false

theorem varStep_lo {l : List (Int × Int)} {x : (Int × Int) × Int × Int} {i k : Nat} (h : 0 ≤ x.1.1) : 0 ≤ (varStep l x i k).1.1 := by
  show 0 ≤ max _ _
  have : 0 ≤ (if i ≠ k ∧ ((l[i]?).getD (0, 0)).2 - ((l[k]?).getD (0, 0)).1 > x.1.2 then ((x.1.1, ((l[i]?).getD (0, 0)).2 - ((l[k]?).getD (0, 0)).1), (i : Int), (k : Int)) else x).1.1 := by
    split <;> exact h
  omega
theorem varRow_lo {l : List (Int × Int)} {x : (Int × Int) × Int × Int} {i : Nat} (h : 0 ≤ x.1.1) : ∀ k, 0 ≤ (varRow l x i k).1.1
  | 0 => by simpa [varRow] using h
  | k + 1 => by rw [varRow_succ]; exact varStep_lo (varRow_lo h k)
theorem varN_lo (l : List (Int × Int)) : ∀ i, 0 ≤ (varN l i).1.1
  | 0 => by simp [varN]
  | i + 1 => by rw [varN_succ]; exact varRow_lo (varN_lo l i) _
set_option maxHeartbeats 4000000 in
theorem r26 {ys : Yls} {S : St} {w h cl ch : Int} {c : C} {l : List (Int × Int)} (hl : SlR S c l) (hs : sheetS w h (cl, ch) l = true) : res EE ys (.f 26) [.a [.int .i64 w, .int .i64 h, .int .i64 cl, .int .i64 ch, c]] S =
    some (.t [.a [.int .i64 (varN l l.length).1.1, .int .i64 (varN l l.length).1.2], .c (.int .i64 (varN l l.length).2.1), .c (.int .i64 (varN l l.length).2.2)], S, true) := by
  refine res_is (en26 fun R hn hh hlo => ?_)
  have hl : SlR R c l := hl.mono (by omega) (fun i _ => by rw [hh])
  obtain ⟨hwh, hb, _⟩ := sheet_parts hs
  have hsd := sides hwh.1 hwh.2.1 hwh.2.2.1 hwh.2.2.2.1
  have hpos : 0 < l.length := by omega
  obtain ⟨ib, o, b, rfl, hbb, hib, hat⟩ := hl.all hpos
  simp [hlo]
  refine Wp_loop (fun (i : Nat) T S' => i ≤ l.length ∧ (∃ g, S' = ext R (some ⟨[.int .i64 w, .int .i64 h, .int .i64 cl, .int .i64 ch, .sl (some (ib, o)) l.length], none, true⟩ :: some ⟨[.int .i64 0, .int .i64 0], none, true⟩ :: some ⟨[.int .i64 (varN l i).1.1, .int .i64 (varN l i).1.2], none, true⟩ :: g)) ∧ Jk (fun J1 => [J1 0, .x (.c (.ptr (some (R.n, 0)))), .x (.c (.ptr (some (R.n + 1, 0)))), J1 3, J1 4, .x (.c (.ptr (some (R.n + 2, 0)))), .x (.c (.int .i64 (varN l i).2.1)), .x (.c (.int .i64 (varN l i).2.2)), .x (.c (.int .i64 i)), J1 9, J1 10, J1 11, J1 12, J1 13, J1 14, J1 15, J1 16, J1 17, J1 18, J1 19, J1 20, J1 21, J1 22, J1 23, J1 24, J1 25, J1 26, J1 27, J1 28, J1 29, J1 30, J1 31, J1 32, J1 33, J1 34, J1 35, J1 36, J1 37, J1 38, J1 39, J1 40, J1 41, J1 42, J1 43, J1 44, J1 45, J1 46, J1 47, J1 48, J1 49, J1 50, J1 51, J1 52, J1 53, J1 54, J1 55, J1 56, J1 57, J1 58, J1 59, J1 60, J1 61, J1 62, J1 63, J1 64, J1 65, J1 66, J1 67, J1 68, J1 69]) T)
    (fun i => l.length - i) ?_ 0 ⟨Nat.zero_le _, ⟨[], rfl⟩, Jk_mk rfl⟩
  rintro i T _ ⟨hi, ⟨g, rfl⟩, ⟨J1, rfl⟩⟩
  simp
  refine Br_i (fun h1 => ?_) (fun h1 => ?_) <;> simp at h1
  · obtain ⟨hle, he, hx1, hx2⟩ := hat i h1
    simp [h1]
    have hx0l := varN_lo l i
    generalize hx0 : varN l i = x0v at *
    refine Wp_loop (fun (k : Nat) T S' => k ≤ l.length ∧ (∃ g', S' = ext R (some ⟨[.int .i64 w, .int .i64 h, .int .i64 cl, .int .i64 ch, .sl (some (ib, o)) l.length], none, true⟩ :: some ⟨[.int .i64 0, .int .i64 0], none, true⟩ :: some ⟨[.int .i64 (varRow l x0v i k).1.1, .int .i64 (varRow l x0v i k).1.2], none, true⟩ :: g')) ∧ Jk (fun J2 => [J2 0, .x (.c (.ptr (some (R.n, 0)))), .x (.c (.ptr (some (R.n + 1, 0)))), J2 3, J2 4, .x (.c (.ptr (some (R.n + 2, 0)))), .x (.c (.int .i64 (varRow l x0v i k).2.1)), .x (.c (.int .i64 (varRow l x0v i k).2.2)), .x (.c (.int .i64 i)), .x (.c (.int .i64 k)), J2 10, J2 11, J2 12, J2 13, J2 14, J2 15, J2 16, J2 17, J2 18, J2 19, J2 20, J2 21, J2 22, J2 23, J2 24, J2 25, J2 26, J2 27, J2 28, J2 29, J2 30, J2 31, J2 32, J2 33, J2 34, J2 35, J2 36, J2 37, J2 38, J2 39, J2 40, J2 41, J2 42, J2 43, J2 44, J2 45, J2 46, J2 47, J2 48, J2 49, J2 50, J2 51, J2 52, J2 53, J2 54, J2 55, J2 56, J2 57, J2 58, J2 59, J2 60, J2 61, J2 62, J2 63, J2 64, J2 65, J2 66, J2 67, J2 68, J2 69]) T)
      (fun k => l.length - k) ?_ 0 ⟨Nat.zero_le _, ⟨_, rfl⟩, Jk_mk rfl⟩
    rintro k T _ ⟨hk, ⟨g', rfl⟩, ⟨J2, rfl⟩⟩
    simp
    refine Br_i (fun h2 => ?_) (fun h2 => ?_) <;> simp at h2
    · obtain ⟨hle2, he2, hy1, hy2⟩ := hat k h2
      have hs1 : varRow l x0v i (k + 1) = varStep l (varRow l x0v i k) i k := varRow_succ ..
      have hvl := varRow_lo (l := l) (i := i) hx0l k
      have e1 : l[i]? = some l[i] := List.getElem?_eq_getElem h1
      have e2 : l[k]? = some l[k] := List.getElem?_eq_getElem h2
      have b1 := hb i h1
      have b2 := hb k h2
      simp only [varStep, e1, e2, Option.getD_some] at hs1
      generalize varRow l x0v i k = v at hs1 hvl
      simp [h2]
      refine Br_i (fun h3 => ?_) (fun h3 => ?_) <;> simp [h3, hlo]
      · rw [wrap64 _ (by omega) (by omega)]
        have h3 : i = k := by simp at h3; omega
        subst h3
        have hm : max v.1.1 (l[i].1 - l[i].2) = v.1.1 := by omega
        simp [hm] at hs1
        refine ⟨i + 1, by omega, by omega, ?_⟩
        rw [hs1]
        exact ⟨⟨_, rfl⟩, Jk_mk rfl⟩
      · have h3' : ¬ i = k := by simp at h3; omega
        simp [h1, h2, hbb, hib, hx1, hx2, hy1, hy2, hlo]
        rw [wrap64 (l[i].1 - l[k].2) (by omega) (by omega), wrap64 (l[i].2 - l[k].1) (by omega) (by omega)]
        refine Br_i (fun h4 => ?_) (fun h4 => ?_) <;> simp [h3, h4, hlo]
        · have h4 := of_decide_eq_true h4
          simp [h3', h4] at hs1
          rw [wrap64 ((k : Int) + 1) (by omega) (by omega)]
          refine ⟨k + 1, by omega, by omega, ?_⟩
          rw [hs1]
          exact ⟨⟨_, rfl⟩, Jk_mk rfl⟩
        · have h4 := of_decide_eq_false h4
          simp [h3', h4] at hs1
          rw [wrap64 ((k : Int) + 1) (by omega) (by omega)]
          refine ⟨k + 1, by omega, by omega, ?_⟩
          rw [hs1]
          exact ⟨⟨_, rfl⟩, Jk_mk rfl⟩
    · obtain rfl : k = l.length := by omega
      simp [hlo]
      rw [wrap64 _ (by omega) (by omega)]
      have hsN := varN_succ l i
      rw [hx0] at hsN
      refine ⟨i + 1, by omega, by omega, ?_⟩
      rw [hsN]
      exact ⟨⟨_, rfl⟩, Jk_mk rfl⟩
  · obtain rfl : i = l.length := by omega
    simp [hlo, hn]
end Go.Proofs.Ytemjdhglaljhbaa
