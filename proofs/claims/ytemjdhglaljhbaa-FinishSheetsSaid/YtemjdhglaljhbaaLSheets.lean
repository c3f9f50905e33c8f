/- FinishSheets: its walk, and that the program's thickness and variation are the reference's. -/
import Derived.Test.YtemjdhglaljhbaaCU5
namespace Go.Proofs.Ytemjdhglaljhbaa
open Go.V
set_option maxRecDepth 10000
set_option linter.unusedSimpArgs false
set_option linter.unusedVariables false

theorem r16 {ys : Yls} {S : St} : res EE ys (.f 16) [] S = some (.x (.c (.bool true)), S, true) := res_G (g := knownO) rfl rfl
theorem hull_fold : ∀ (l : List (Int × Int)) (a : Int × Int), l.foldl hull2 a = (l.foldl (fun x r => min x r.1) a.1, l.foldl (fun x r => max x r.2) a.2)
  | [], a => rfl
  | r :: l, a => by
    simp only [List.foldl_cons]
    rw [hull_fold l (hull2 a r)]
    rfl
theorem hull_ends {l : List (Int × Int)} (hb : ∀ i (h : i < l.length), -1000000 ≤ l[i].1 ∧ l[i].1 ≤ l[i].2 ∧ l[i].2 ≤ 1000000) (hp : 0 < l.length) (h100 : l.length ≤ 100) : hullS l = (endLo l l.length, endHi l l.length) ∧ endLo l l.length ≤ endHi l l.length := by
  have hle : ∀ k, k ≤ l.length → 0 < k → endLo l k ≤ endHi l k := by
    intro k
    induction k with
    | zero => intro _ h; omega
    | succ k ih =>
      intro hk _
      rw [endLo_succ hk, endHi_succ hk]
      have := hb k hk
      omega
  have hchk : checkR l = 0 := by
    unfold checkR
    rw [if_neg (by omega), if_pos]
    rw [List.all_eq_true]
    intro x hx
    obtain ⟨i, hi, rfl⟩ := List.getElem_of_mem hx
    have := hb i hi
    simp [validR, isN]
    omega
  have hl := hle l.length (Nat.le_refl _) hp
  refine ⟨?_, hl⟩
  cases l with
  | nil => simp at hp
  | cons r l =>
    have e1 : endLo (r :: l) (r :: l).length = l.foldl (fun x r => min x r.1) r.1 := by simp [endLo]
    have e2 : endHi (r :: l) (r :: l).length = l.foldl (fun x r => max x r.2) r.2 := by simp [endHi]
    rw [e1, e2] at hl ⊢
    have : ¬ l.foldl (fun x r => max x r.2) r.2 < l.foldl (fun x r => min x r.1) r.1 := by omega
    simp [hullS, foldS, hchk, hull_fold, this]
theorem thick_eq {w h : Int} {c : Int × Int} {l : List (Int × Int)} (hs : sheetS w h c l = true) : thickS w h c l = (thickR c l, 0) := by
  obtain ⟨hwh, hb, hc⟩ := sheet_parts hs
  have hsd := sides hwh.1 hwh.2.1 hwh.2.2.1 hwh.2.2.2.1
  have hp : 0 < l.length := by omega
  obtain ⟨h1, h2⟩ := hull_ends hb hp (by omega)
  have h3 := end_bound hb hp l.length (Nat.le_refl _)
  have hv : checkR [hullS l, c] = 0 := by
    rw [h1]
    simp [checkR, validR, isN]
    omega
  simp only [thickS, hs, if_true, sumR, hv]
  rw [h1]
  have : isN (c.1 + endLo l l.length) = true ∧ isN (c.2 + endHi l l.length) = true := by
    simp only [isN_iff]
    omega
  simp [sumLo, sumHi, fitsR, this.1, this.2, thickR, Int.add_comm]
theorem r4 {ys : Yls} {S : St} {w h cl ch : Int} {c : C} {l : List (Int × Int)} (hl : SlR S c l) (hlen : l.length * 16 ≤ maxBytes) :
    res EE ys (.f 4) [.a [.int .i64 w, .int .i64 h, .int .i64 cl, .int .i64 ch, c]] S = some (.x (.c (.bool true)), S, true) := by
  have hlen' : l.length < 2 ^ 62 := by have := hlen; simp only [maxBytes] at this; omega
  refine res_is (en4 fun R hn hh hlo => ?_)
  have hl : SlR R c l := hl.mono (by omega) (fun i _ => by rw [hh])
  simp [hl.lenC]
  refine Br_i (fun h1 => ?_) (fun h1 => ?_) <;> simp [hlo, hn, h1]
  · rw [r16]
    simp [hlo, hn, h1]
  rw [r22 (hl.ext _) hlen]
  simp [hlo]
  rw [r21 (SlR.mk (by simp) (by simp; rfl) rfl rfl) hlen']
  simp [hlo]
  rw [r22 (hl.ext _) hlen]
  simp [hlo]
  rw [r23 (SlR.mk (by simp) (by simp; rfl) rfl rfl) hlen']
  simp [hlo]
  rw [r22 (hl.ext _) hlen]
  simp [hlo]
  rw [r24 (SlR.mk (by simp) (by simp; rfl) rfl rfl) hlen']
  simp [hlo]
  rw [r25 (hl.ext _) hlen']
  cases hs : sheetS w h (cl, ch) l with
  | false =>
    simp [hlo, hn, thickS, varS, hs]
    rw [r16]
    simp [hlo, hn]
  | true =>
    simp [hlo, hn, thick_eq hs, varS, hs]
    rw [r26 (hl.ext _) hs]
    simp [hlo, hn, thick_eq hs, varS, hs]
    rw [r27 (hl.ext _) hs]
    simp [hlo, hn, thick_eq hs, varS, hs]
    rw [r16]
    simp [hlo, hn]
end Go.Proofs.Ytemjdhglaljhbaa
