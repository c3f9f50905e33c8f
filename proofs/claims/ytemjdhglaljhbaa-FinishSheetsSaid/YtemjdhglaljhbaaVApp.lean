/- The evaluator's soundness, part 4: append. -/
import Derived.Test.YtemjdhglaljhbaaVOps
namespace Go.V
variable {P : Program} {E : Env}

/-! ### Append -/
def AppOut (β : Map) (w w' : World) (xs : List C) (s k : Nat) (u : Value) (old : Option Pl) : Prop :=
  (∃ cs ty c, w' = w.drew.alloc (.cells cs ty) ∧ All2 (C.rel β) xs (cs.toList.take xs.length) ∧ c * s ≤ cs.size ∧ k ≤ c ∧ u = .slice (some ⟨w.heap.size, 0, none⟩) k c) ∨
  (∃ pl cs cs2 ty c o vs, old = some pl ∧ w.heap[pl.b]? = some (.cells cs ty (0, 0)) ∧ Wrote w w' pl.b o cs cs2 ty vs ∧ (∀ (j : Nat) c, xs[j]? = some c → ∃ v, cs2[pl.o + j]? = some v ∧ c.rel β v) ∧ u = .slice (some (pl.at 0)) k c ∧ k ≤ c ∧ ∀ cc s, pl.cap = some (cc, s) → c * s = cc)
section
variable {β : Map} {argTypes : Array TypeId} {args : Array Value} {ty t t2 e e2 : TypeId} {i : Ti} {p q : Option (Nat × Nat)} {n m : Nat} {vp vq : Value}
theorem append_zero (h : TyOk P E) (ht : argTypes[0]? = some t) (hsl : P.underlying t = some (.slice e)) (ht2 : argTypes[1]? = some t2) (hu2 : P.underlying t2 = some (.slice e2)) (hi : E.ti e = some i)
    (ha : args[0]? = some vp) (hb : args[1]? = some vq) (hp : C.rel β (.sl p n) vp) (hq : QRel β q 0 vq) (w : World) : (Builtin.append_ argTypes ty args).run P w = .ok vp w := by
  obtain ⟨info, z, h1, h2, h3, h4, h5⟩ := h.bytes hi
  have hv : ∃ a c, vq = .slice a 0 c := by
    rcases hq with hq | ⟨_, a, c, hv⟩
    case inr => exact ⟨_, c, hv⟩
    cases q with
    | none => obtain ⟨_, hv⟩ := hq; exact ⟨_, _, hv⟩
    | some q => obtain ⟨_, c, _, hv, _⟩ := hq; exact ⟨_, c, hv⟩
  obtain ⟨a, c, rfl⟩ := hv
  have hf : (Builtin.firstCells info.size 0 (.slice a 0 c)).run P w = .ok #[] w := by
    cases a <;> simp [Builtin.firstCells, loadCells, loadCellsFrom]
  cases p with
  | none =>
    obtain ⟨rfl, rfl⟩ := hp
    simp [Builtin.append_, ht, ha, hb, ht2, run_underlying hsl, run_underlying hu2, sizeOf, typeInfo, h1, Builtin.lenOf, hf]
  | some p =>
    obtain ⟨pl, c', _, rfl, hle, _⟩ := hp
    simp [Builtin.append_, ht, ha, hb, ht2, run_underlying hsl, run_underlying hu2, sizeOf, typeInfo, h1, Builtin.lenOf, hf, hle, storeCells]
theorem append_some (h : TyOk P E) (ht : argTypes[0]? = some t) (hsl : P.underlying t = some (.slice e)) (ht2 : argTypes[1]? = some t2) (hu2 : P.underlying t2 = some (.slice e2)) (hi : E.ti e = some i) (_h0 : 0 < i.size)
    (ha : args[0]? = some vp) (hb : args[1]? = some vq) (hp : C.rel β (.sl p n) vp) (hzl : i.zero.cells.length = i.size) (hq : QRel β q m vq) (hm : m ≠ 0) {w : World} {new : List C} {lnew : List Value} (hnew : All2 (C.rel β) new lnew)
    (hf : ∀ w1 : World, w1.heap = w.heap → (Builtin.firstCells i.size m vq).run P w1 = .ok lnew.toArray w1) (hlen : new.length = m * i.size) (hmax : (n + m) * i.bytes ≤ maxBytes) (hmax2 : n + m ≤ maxBytes) :
    (p = none → n = 0 → ∃ u w', (Builtin.append_ argTypes ty args).run P w = .ok u w' ∧ AppOut β w w' new i.size m u none) ∧
    (∀ k pl (b : Blk), p = some (k, 0) → β k = some pl → b.rel β w pl → b.row = some i.size → b.wr = true → b.cs.length = n * i.size → ∃ u w', (Builtin.append_ argTypes ty args).run P w = .ok u w' ∧ AppOut β w w' (b.cs ++ new) i.size (n + m) u (some pl)) := by
  obtain ⟨info, z, h1, h2, h3, h4, h5⟩ := h.bytes hi
  have hv : ∃ a c, vq = .slice a m c := by
    rcases hq with hq | ⟨h0, _⟩
    case inr => exact absurd h0 hm
    cases q with
    | none => obtain ⟨hm', hv⟩ := hq; exact absurd hm' hm
    | some q => obtain ⟨_, c, _, hv, _⟩ := hq; exact ⟨_, c, hv⟩
  obtain ⟨a, c, rfl⟩ := hv
  have hf1 := hf w rfl
  have hf2 := hf w.drew rfl
  rw [← h2] at hf1 hf2
  have hl := hnew.length
  have hmax : (n + m) * info.bytes ≤ 140737488355328 := by rw [h3]; exact hmax
  have hmax2 : n + m ≤ 140737488355328 := hmax2
  have hzs : z.cells.size = i.size := by
    have := (X.rel_cells (h5 β)).length
    simp at this
    omega
  have hg : ∀ a b, a ≤ grownCap w a b e := fun a b => by simp [grownCap, Question.cut]
  refine ⟨fun hpn hn0 => ?_, fun k pl b hpk hk hbr hrow hwr hcs => ?_⟩
  · subst hpn; subst hn0
    obtain ⟨_, rfl⟩ := hp
    have h63 : ¬ (9223372036854775807 < (m : Int)) := by omega
    have h48 : ¬ (281474976710656 < Builtin.nextslicecap m 0 * info.bytes) := by
      have := growslice_fits (need := m) (old := 0) (bytes := info.bytes) (by omega) (by simpa using hmax)
      omega
    refine ⟨_, _, by simp [Builtin.append_, ht, ha, hb, ht2, run_underlying hsl, run_underlying hu2, sizeOf, typeInfo, zeroValue, h1, h4, Builtin.lenOf, hm, h63, h48, Question.forced, run_firstCells_none, hf2, newRow]; exact ⟨rfl, rfl⟩, .inl ⟨lnew.toArray ++ Builtin.zeroCells z.cells (grownCap w m 0 e - m), _, grownCap w m 0 e, rfl, ?_, ?_, ?_, rfl⟩⟩
    · simp [hl]; exact hnew
    · have := hg m 0
      simp only [Array.size_append, List.size_toArray, size_zeroCells, hzs, ← hl, hlen, ← Nat.add_mul]
      exact Nat.mul_le_mul_right _ (by omega)
    · exact hg m 0
  · subst hpk
    obtain ⟨pl', c', hk', rfl, hnc, hcap⟩ := hp
    rw [hk] at hk'
    cases hk'
    by_cases hroom : n + m ≤ c'
    · obtain ⟨cs0, ty0, fz0, hb1, hb2, hb3, hb4⟩ := hbr
      obtain ⟨cc, hcc1, hcc2⟩ := hb4 _ hrow hwr
      have hcc := hcap rfl _ _ hcc1
      have hmul : (n + m) * i.size ≤ c' * i.size := Nat.mul_le_mul_right _ hroom
      rw [Nat.add_mul] at hmul
      obtain ⟨w', cs, cs2, ty', hrun, hw1, hwr', hcells⟩ := Blk.rel_store (P := P) ⟨cs0, ty0, fz0, hb1, hb2, hb3, hb4⟩ hwr (o := n * i.size) hnew (.inr fun cs ty fz hcs' => by
        rw [hb1] at hcs'
        cases hcs'
        rw [← hl, hlen]
        omega)
      have hadd : (pl.at 0).add (n * i.size) = pl.at (n * i.size) := by rw [add_eq _ _ rfl]; simp [Pl.at]
      refine ⟨.slice (some (pl.at 0)) (n + m) c', w', ?_, .inr ⟨pl, cs, cs2, ty', c', _, lnew, rfl, hw1, hwr', fun j c hj => hcells j c ?_ (by omega), rfl, hroom, hcap rfl⟩⟩
      · have := hadd
        rw [← h2] at this hrun
        simp [Builtin.append_, ht, ha, hb, ht2, run_underlying hsl, run_underlying hu2, sizeOf, typeInfo, h1, Builtin.lenOf, hroom, hf1, this, hrun]
      · rw [← hcs, List.take_length, List.drop_eq_nil_of_le (by omega), List.append_nil]
        exact hj
    · have h63 : ¬ (9223372036854775807 < ((n : Int) + (m : Int))) := by omega
      have h48 : ¬ (281474976710656 < Builtin.nextslicecap (n + m) c' * info.bytes) := by
        have := growslice_fits (need := n + m) (old := c') (bytes := info.bytes) (by omega) hmax
        omega
      obtain ⟨old, hold, hload⟩ := Blk.rel_load (P := P) (w := w.drew) (p := pl) (b := b) (o := 0) (n := n * i.size) (Blk.rel_mono (b := b) (Map.le_refl _) hbr rfl) (by omega)
      have hold' : All2 (C.rel β) b.cs old := by
        have := hold
        rw [List.drop_zero, ← hcs, List.take_length] at this
        exact this
      have hfo : (Builtin.firstCells info.size n (.slice (some (pl.at 0)) n c')).run P w.drew = .ok old.toArray w.drew := by
        rw [h2]
        exact hload _ rfl
      have hlo := hold'.length
      refine ⟨_, _, by simp [Builtin.append_, ht, ha, hb, ht2, run_underlying hsl, run_underlying hu2, sizeOf, typeInfo, zeroValue, h1, h4, Builtin.lenOf, hroom, h63, h48, Question.forced, hf2, hfo, newRow]; exact ⟨rfl, rfl⟩, .inl ⟨old.toArray ++ (lnew.toArray ++ Builtin.zeroCells z.cells (grownCap w (n + m) c' e - (n + m))), e, grownCap w (n + m) c' e, rfl, ?_, ?_, ?_, rfl⟩⟩
      · simp only [List.length_append, Array.toList_append]
        rw [← List.append_assoc, List.take_append_of_le_length (by simp; omega), List.take_of_length_le (by simp; omega)]
        exact hold'.append hnew
      · have := hg (n + m) c'
        simp only [Array.size_append, List.size_toArray, size_zeroCells, hzs, ← hl, ← hlo, hcs, hlen, ← Nat.add_mul]
        exact Nat.mul_le_mul_right _ (by omega)
      · exact hg (n + m) c'
end
end Go.V
