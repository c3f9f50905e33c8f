/- Contracts of Thickness and Variation, of the program and of the reference. -/
import Derived.Test.YtemjdhglaljhbaaCU2
namespace Go.Proofs.Ytemjdhglaljhbaa
open Go.V
set_option maxRecDepth 10000
set_option linter.unusedSimpArgs false
set_option linter.unusedVariables false

def hullS (l : List (Int × Int)) : Int × Int := (foldS hull2 l).1
theorem r100 {ys : Yls} {S : St} {c : C} {l : List (Int × Int)} (hl : SlR S c l) (hlen : l.length < 2 ^ 62) : res EE ys (.f 100) [.c c] S = some (.t [.a [.int .i64 (foldS hull2 l).1.1, .int .i64 (foldS hull2 l).1.2], .c (.int .i64 (foldS hull2 l).2)], S, true) := by
  refine res_is (en100 fun R hn hh hlo => ?_)
  have hl : SlR R c l := hl.mono (by omega) (fun i _ => by rw [hh])
  simp
  rw [r118 (j := hull2) (hl.ext _) hlen (fun a b S' => r119)]
  simp [hlo, hn]
theorem r60 {ys : Yls} {S : St} {w h cl ch : Int} {c : C} {l : List (Int × Int)} (hl : SlR S c l) (hlen : l.length < 2 ^ 62) : res EE ys (.f 60) [.a [.int .i64 w, .int .i64 h, .int .i64 cl, .int .i64 ch, c]] S = some (.x (.a [.int .i64 (hullS l).1, .int .i64 (hullS l).2]), S, true) := by
  refine res_is (en60 fun R hn hh hlo => ?_)
  have hl : SlR R c l := hl.mono (by omega) (fun i _ => by rw [hh])
  simp
  rw [r100 (hl.ext _) hlen]
  simp [hlo, hn, hullS]
def thickS (w h : Int) (c : Int × Int) (l : List (Int × Int)) : (Int × Int) × Int := if sheetS w h c l then sumR [hullS l, c] else ((0, 0), 2)
theorem r23 {ys : Yls} {S : St} {w h cl ch : Int} {c : C} {l : List (Int × Int)} (hl : SlR S c l) (hlen : l.length < 2 ^ 62) : res EE ys (.f 23) [.a [.int .i64 w, .int .i64 h, .int .i64 cl, .int .i64 ch, c]] S = some (.t [.a [.int .i64 (thickS w h (cl, ch) l).1.1, .int .i64 (thickS w h (cl, ch) l).1.2], .c (.int .i64 (thickS w h (cl, ch) l).2)], S, true) := by
  refine res_is (en23 fun R hn hh hlo => ?_)
  have hl : SlR R c l := hl.mono (by omega) (fun i _ => by rw [hh])
  simp
  rw [r21 (hl.ext _) hlen]
  cases hs : sheetS w h (cl, ch) l with
  | false => simp [hlo, hn, thickS, hs]
  | true =>
    simp [hlo]
    rw [r60 (hl.ext _) hlen]
    simp [hlo]
    rw [r54 (l := [hullS l, (cl, ch)]) (SlR.mk (n := 2) (by simp) (by simp; rfl) (by simp [encR]) rfl) (by simp)]
    simp [hlo, hn, thickS, hs]
/-- One pair of sites. -/
def varStep (l : List (Int × Int)) (x : (Int × Int) × Int × Int) (i k : Nat) : (Int × Int) × Int × Int :=
  let a := (l[i]?).getD (0, 0)
  let b := (l[k]?).getD (0, 0)
  let y := if i ≠ k ∧ a.2 - b.1 > x.1.2 then ((x.1.1, a.2 - b.1), (i : Int), (k : Int)) else x
  ((max y.1.1 (a.1 - b.2), y.1.2), y.2)
def varRow (l : List (Int × Int)) (x : (Int × Int) × Int × Int) (i k : Nat) : (Int × Int) × Int × Int := (List.range k).foldl (fun x k => varStep l x i k) x
def varN (l : List (Int × Int)) (i : Nat) : (Int × Int) × Int × Int := (List.range i).foldl (fun x i => varRow l x i l.length) ((0, -1), 0, 0)
theorem varRow_succ (l : List (Int × Int)) (x : (Int × Int) × Int × Int) (i k : Nat) : varRow l x i (k + 1) = varStep l (varRow l x i k) i k := by simp [varRow, List.range_succ]
theorem varN_succ (l : List (Int × Int)) (i : Nat) : varN l (i + 1) = varRow l (varN l i) i l.length := by simp [varN, List.range_succ]
def varS (w h : Int) (c : Int × Int) (l : List (Int × Int)) : ((Int × Int) × Int × Int) × Int := if sheetS w h c l then (varN l l.length, 0) else (((0, 0), 0, 0), 2)
theorem sheet_parts {w h : Int} {c : Int × Int} {l : List (Int × Int)} (hs : sheetS w h c l = true) : (2 ≤ w ∧ w ≤ 6 ∧ 2 ≤ h ∧ h ≤ 6 ∧ (l.length : Int) = w * h) ∧ (∀ i (h : i < l.length), -1000000 ≤ l[i].1 ∧ l[i].1 ≤ l[i].2 ∧ l[i].2 ≤ 1000000) ∧ 0 ≤ c.1 ∧ c.1 ≤ c.2 ∧ c.2 ≤ 10000000 := by
  simp [sheetS, spanS] at hs
  obtain ⟨⟨⟨⟨⟨⟨h1, h2⟩, h3⟩, h4⟩, h5⟩, h6⟩, ⟨h7, h8⟩, h9⟩ := hs
  refine ⟨⟨h1, h2, h3, h4, h5⟩, fun i hi => ?_, h7, h8, h9⟩
  have := h6 l[i].1 l[i].2 (List.getElem_mem hi)
  omega
set_option maxHeartbeats 4000000 in
theorem r24 {ys : Yls} {S : St} {w h cl ch : Int} {c : C} {l : List (Int × Int)} (hl : SlR S c l) (hlen : l.length < 2 ^ 62) : res EE ys (.f 24) [.a [.int .i64 w, .int .i64 h, .int .i64 cl, .int .i64 ch, c]] S =
    some (.t [.a [.int .i64 (varS w h (cl, ch) l).1.1.1, .int .i64 (varS w h (cl, ch) l).1.1.2], .c (.int .i64 (varS w h (cl, ch) l).1.2.1), .c (.int .i64 (varS w h (cl, ch) l).1.2.2), .c (.int .i64 (varS w h (cl, ch) l).2)], S, true) := by
  refine res_is (en24 fun R hn hh hlo => ?_)
  have hl : SlR R c l := hl.mono (by omega) (fun i _ => by rw [hh])
  simp
  rw [r21 (hl.ext _) hlen]
  cases hs : sheetS w h (cl, ch) l with
  | false => simp [hlo, hn, varS, hs]
  | true =>
    obtain ⟨hwh, hb, _⟩ := sheet_parts hs
    have hpos : 0 < l.length := by have := sides hwh.1 hwh.2.1 hwh.2.2.1 hwh.2.2.2.1; omega
    obtain ⟨ib, o, b, rfl, hbb, hib, hat⟩ := hl.all hpos
    simp [hlo, hl.lenC]
    refine Wp_loop (fun (i : Nat) T S' => i ≤ l.length ∧ (∃ g, S' = ext R (some ⟨[.int .i64 w, .int .i64 h, .int .i64 cl, .int .i64 ch, .sl (some (ib, o)) l.length], none, true⟩ :: some ⟨[.int .i64 (varN l i).1.1, .int .i64 (varN l i).1.2], none, true⟩ :: g)) ∧ Jk (fun J1 => [J1 0, .x (.c (.ptr (some (R.n, 0)))), .x (.c (.ptr (some (R.n + 1, 0)))), .x (.c (.int .i64 (varN l i).2.1)), .x (.c (.int .i64 (varN l i).2.2)), .x (.c (.int .i64 0)), J1 6, J1 7, J1 8, J1 9, J1 10, J1 11, J1 12, J1 13, J1 14, J1 15, .x (.c (.sl (some (ib, o)) l.length)), .x (.c (.int .i64 l.length)), .x (.c (.int .i64 i)), J1 19, J1 20, J1 21, J1 22, J1 23, J1 24, J1 25, J1 26, J1 27, J1 28, J1 29, J1 30, J1 31, J1 32, J1 33, J1 34, J1 35, J1 36, J1 37, J1 38, J1 39, J1 40, J1 41, J1 42, J1 43, J1 44, J1 45, J1 46, J1 47, J1 48, J1 49, J1 50, J1 51, J1 52, J1 53, J1 54, J1 55, J1 56, J1 57, J1 58, J1 59, J1 60, J1 61, J1 62, J1 63, J1 64, J1 65]) T)
      (fun i => l.length - i) ?_ 0 ⟨Nat.zero_le _, ⟨[], rfl⟩, Jk_mk rfl⟩
    rintro i T _ ⟨hi, ⟨g, rfl⟩, ⟨J1, rfl⟩⟩
    simp
    refine Br_i (fun h1 => ?_) (fun h1 => ?_) <;> simp at h1
    · obtain ⟨hle, he, _, _⟩ := hat i h1
      simp [h1, hib, hbb, hle, he, hlo]
      generalize hx0 : varN l i = x0v
      refine Wp_loop (fun (k : Nat) T S' => k ≤ l.length ∧ (∃ g', S' = ext R (some ⟨[.int .i64 w, .int .i64 h, .int .i64 cl, .int .i64 ch, .sl (some (ib, o)) l.length], none, true⟩ :: some ⟨[.int .i64 (varRow l x0v i k).1.1, .int .i64 (varRow l x0v i k).1.2], none, true⟩ :: g') ∧ g'[g.length]? = some (some ⟨[.int .i64 l[i].1, .int .i64 l[i].2], none, true⟩)) ∧ Jk (fun J2 => [J2 0, .x (.c (.ptr (some (R.n, 0)))), .x (.c (.ptr (some (R.n + 1, 0)))), .x (.c (.int .i64 (varRow l x0v i k).2.1)), .x (.c (.int .i64 (varRow l x0v i k).2.2)), .x (.c (.int .i64 0)), .x (.c (.int .i64 i)), .x (.c (.ptr (some (R.n + (g.length + 1 + 1), 0)))), J2 8, J2 9, J2 10, J2 11, J2 12, J2 13, J2 14, J2 15, .x (.c (.sl (some (ib, o)) l.length)), .x (.c (.int .i64 l.length)), .x (.c (.int .i64 i)), J2 19, J2 20, J2 21, J2 22, J2 23, .x (.c (.sl (some (ib, o)) l.length)), .x (.c (.int .i64 l.length)), .x (.c (.int .i64 k)), J2 27, J2 28, J2 29, J2 30, J2 31, J2 32, J2 33, J2 34, J2 35, J2 36, J2 37, J2 38, J2 39, J2 40, J2 41, J2 42, J2 43, J2 44, J2 45, J2 46, J2 47, J2 48, J2 49, J2 50, J2 51, J2 52, J2 53, J2 54, J2 55, J2 56, J2 57, J2 58, J2 59, J2 60, J2 61, J2 62, J2 63, J2 64, J2 65]) T)
        (fun k => l.length - k) ?_ 0 ⟨Nat.zero_le _, ⟨_, rfl, by simp⟩, Jk_mk rfl⟩
      rintro k T _ ⟨hk, ⟨g', rfl, hg'⟩, ⟨J2, rfl⟩⟩
      obtain ⟨hgl, hg2⟩ := List.getElem?_eq_some_iff.1 hg'
      simp
      refine Br_i (fun h2 => ?_) (fun h2 => ?_) <;> simp at h2
      · obtain ⟨hle2, he2, _, _⟩ := hat k h2
        have hs1 : varRow l x0v i (k + 1) = varStep l (varRow l x0v i k) i k := varRow_succ ..
        have e1 : l[i]? = some l[i] := List.getElem?_eq_getElem h1
        have e2 : l[k]? = some l[k] := List.getElem?_eq_getElem h2
        have b1 := hb i h1
        have b2 := hb k h2
        simp only [varStep, e1, e2, Option.getD_some] at hs1
        generalize varRow l x0v i k = v at hs1
        simp [h2, hib, hbb, hle2, he2, hlo, hg2, hgl, List.getElem?_append_left hgl]
        refine Br_i (fun h3 => ?_) (fun h3 => ?_) <;> simp [h3, hlo, hg2, List.getElem?_append_left hgl, hgl, List.set_append]
        · rw [wrap64 _ (by omega) (by omega), wrap64 _ (by omega) (by omega)]
          have h3 : i = k := by simp at h3; omega
          simp [h3] at hs1
          simp only [h3]
          subst h3
          refine ⟨i + 1, by omega, by omega, ?_⟩
          rw [hs1]
          exact ⟨⟨_, rfl, by simp [List.getElem?_append_left hgl, hg']⟩, Jk_mk rfl⟩
        · have h3' : ¬ i = k := by simp at h3; omega
          rw [wrap64 _ (by omega) (by omega)]
          refine Br_i (fun h4 => ?_) (fun h4 => ?_) <;> simp [h3, h4, hlo, hg2, List.getElem?_append_left hgl, hgl, List.set_append]
          · have h4 := of_decide_eq_true h4
            simp [h3', h4] at hs1
            rw [wrap64 (l[i].1 - l[k].2) (by omega) (by omega), wrap64 (l[i].2 - l[k].1) (by omega) (by omega), wrap64 ((k : Int) + 1) (by omega) (by omega)]
            refine ⟨k + 1, by omega, by omega, ?_⟩
            rw [hs1]
            exact ⟨⟨_, rfl, by simp [List.getElem?_append_left hgl, hg']⟩, Jk_mk rfl⟩
          · have h4 := of_decide_eq_false h4
            simp [h3', h4] at hs1
            rw [wrap64 (l[i].1 - l[k].2) (by omega) (by omega), wrap64 ((k : Int) + 1) (by omega) (by omega)]
            refine ⟨k + 1, by omega, by omega, ?_⟩
            rw [hs1]
            exact ⟨⟨_, rfl, by simp [List.getElem?_append_left hgl, hg']⟩, Jk_mk rfl⟩
      · obtain rfl : k = l.length := by omega
        simp [hlo]
        rw [wrap64 _ (by omega) (by omega)]
        have hsN := varN_succ l i
        rw [hx0] at hsN
        rw [← hsN]
        exact ⟨i + 1, by omega, by omega, ⟨_, rfl⟩, Jk_mk rfl⟩
    · obtain rfl : i = l.length := by omega
      simp [hlo, hn, varS, hs]
end Go.Proofs.Ytemjdhglaljhbaa
