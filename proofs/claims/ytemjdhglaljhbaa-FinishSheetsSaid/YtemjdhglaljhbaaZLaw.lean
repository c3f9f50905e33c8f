/- The plain law of Apart: what the two sums come to, whatever the order in which the map hands its entries out. -/
import Derived.Test.YtemjdhglaljhbaaZA
namespace Go.Proofs.Ytemjdhglaljhbaa.Z
open Go.V

abbrev Rg := Int × Int
/-- The sum of f over the numbers below n that p marks. -/
def visSum (bs : List Rg) (n : Nat) (p : Nat → Bool) (f : Rg → Int) : Int := ((List.range n).map fun i => if p i then f ((bs[i]?).getD (0, 0)) else 0).sum
theorem visSum_succ (bs : List Rg) (n : Nat) (p : Nat → Bool) (f : Rg → Int) : visSum bs (n + 1) p f = visSum bs n p f + if p n then f ((bs[n]?).getD (0, 0)) else 0 := by
  simp [visSum, List.range_succ, List.sum_append]
theorem visSum_congr {bs : List Rg} {p q : Nat → Bool} {f : Rg → Int} : ∀ {n : Nat}, (∀ i, i < n → p i = q i) → visSum bs n p f = visSum bs n q f
  | 0, _ => rfl
  | n + 1, h => by rw [visSum_succ, visSum_succ, visSum_congr (fun i hi => h i (by omega)), h n (by omega)]
theorem visSum_add {bs : List Rg} {p q : Nat → Bool} {f : Rg → Int} {j : Nat} (hp : p j = false) (hq : q j = true) (hpq : ∀ i, i ≠ j → q i = p i) : ∀ {n : Nat}, j < n → visSum bs n q f = visSum bs n p f + f ((bs[j]?).getD (0, 0))
  | 0, h => by omega
  | n + 1, h => by
    rw [visSum_succ, visSum_succ]
    by_cases e : j = n
    · subst e
      rw [visSum_congr (p := q) (q := p) (fun i hi => hpq i (by omega)), hp, hq]
      simp
    · rw [visSum_add hp hq hpq (n := n) (by omega), hpq n (by omega)]
      omega
theorem visSum_none {bs : List Rg} {p : Nat → Bool} {f : Rg → Int} : ∀ {n : Nat}, (∀ i, i < n → p i = false) → visSum bs n p f = 0
  | 0, _ => rfl
  | n + 1, h => by rw [visSum_succ, visSum_none (fun i hi => h i (by omega)), h n (by omega)]; simp
theorem visSum_one {bs : List Rg} {p : Nat → Bool} : ∀ {n : Nat}, 0 ≤ visSum bs n p (fun _ => 1) ∧ visSum bs n p (fun _ => 1) ≤ n
  | 0 => by simp [visSum]
  | n + 1 => by
    have := visSum_one (bs := bs) (p := p) (n := n)
    rw [visSum_succ]
    split <;> omega
/-- A good range. -/
def GoodR (r : Rg) : Prop := 0 ≤ r.1 ∧ r.1 ≤ r.2 ∧ r.2 ≤ 10000000
theorem goodR_iff (r : Rg) : spanS r 0 10000000 = true ↔ GoodR r := by simp [spanS, GoodR, and_assoc]
theorem good_sum : ∀ {l : List Rg}, (∀ r ∈ l, GoodR r) → 0 ≤ sumLo l ∧ sumLo l ≤ sumHi l ∧ sumHi l ≤ 10000000 * l.length
  | [], _ => by simp [sumLo, sumHi]
  | r :: l, h => by
    have h1 := h r (by simp)
    have h2 := good_sum (l := l) fun x hx => h x (by simp [hx])
    unfold GoodR at h1
    simp only [sumLo, sumHi, List.map_cons, List.sum_cons, List.length_cons] at h2 ⊢
    omega
theorem good_valid {r : Rg} (h : GoodR r) : validR r = true := by
  unfold GoodR at h
  simp [validR, isN]
  omega
theorem good_sumR {l : List Rg} (h : ∀ r ∈ l, GoodR r) (hl : l.length ≤ 100) : sumR l = ((sumLo l, sumHi l), 0) := by
  have h1 : checkR l = 0 := by
    have h2 : l.all validR = true := List.all_eq_true.2 fun r hr => good_valid (h r hr)
    simp [checkR, h2, hl]
  have h3 := good_sum h
  have h4 : isN (sumLo l) = true ∧ isN (sumHi l) = true := by simp only [isN_iff]; omega
  simp [sumR, h1, fitsR, h4]
theorem good_less {l m : List Rg} (h : ∀ r ∈ l, GoodR r) (hl : l.length ≤ 100) (h' : ∀ r ∈ m, GoodR r) (hl' : m.length ≤ 100) : lessR (sumLo l, sumHi l) (sumLo m, sumHi m) = ((sumLo l - sumHi m, sumHi l - sumLo m), 0) := by
  have h1 := good_sum h
  have h2 := good_sum h'
  have v1 : validR (sumLo l, sumHi l) = true := by simp [validR, isN]; omega
  have v2 : validR (sumLo m, sumHi m) = true := by simp [validR, isN]; omega
  have h4 : isN (sumLo l - sumHi m) = true ∧ isN (sumHi l - sumLo m) = true := by simp only [isN_iff]; omega
  simp [lessR, v1, v2, fitsR, h4]
/-- Which number stands where: in the first alone (true), in the second alone (false). -/
def whose (la lb : List Int) (i : Int) : Option Bool := if i ∈ lb then (if i ∈ la then none else some false) else if i ∈ la then some true else none
theorem apartSum_eq (bs : List Rg) (a b : Rg × List Int) : apartSum bs a b =
    (a.1.1 + visSum bs bs.length (fun i => whose a.2 b.2 i == some false) (·.1) - (b.1.2 + visSum bs bs.length (fun i => whose a.2 b.2 i == some true) (·.2)),
     a.1.2 + visSum bs bs.length (fun i => whose a.2 b.2 i == some false) (·.2) - (b.1.1 + visSum bs bs.length (fun i => whose a.2 b.2 i == some true) (·.1))) := by
  unfold apartSum
  generalize bs.length = n
  induction n with
  | zero => simp [visSum]
  | succ n ih =>
    rw [List.range_succ, List.foldl_append, ih]
    simp only [List.foldl_cons, List.foldl_nil, visSum_succ]
    by_cases h1 : (n : Int) ∈ a.2 <;> by_cases h2 : (n : Int) ∈ b.2 <;> simp [h1, h2, whose] <;> omega
end Go.Proofs.Ytemjdhglaljhbaa.Z
