/- The evaluator's soundness, part 10: one operation of a region that is no call of a function, run in any order that the region allows. -/
import Derived.Test.YtemjdhglaljhbaaVInv
namespace Go.V
variable {P : Program} {E : Env}
section
variable {call : CallF} {ops : List Oper} (R : Run E call ops) (hg : GoodCall call) (h0 : (R.S 0).ok)
variable {ds : List Deferred} {β0 β : Map} {w0 w : World} {a : Act} {D : Nat → Prop}
include hg h0
/-- What an operation that has not run makes is not there. -/
theorem Inv.not_there (hI : Inv R ds β0 w0 D β a w) {y i : Nat} {p : Pl} (hy : y < ops.length) (hD : ¬ D y) (h1 : (R.S y).n ≤ i) (h2 : i < (R.S (y + 1)).n) (hp : β i = some p) : False := by
  rcases hI.dom i p hp with ⟨h3, _⟩ | ⟨z, hz, h3, h4⟩
  · have := R.mono hg h0 (i := 0) (j := y) (by omega) (by omega); omega
  · have hzl := hI.sub z hz
    rcases Nat.lt_trichotomy z y with h5 | h5 | h5
    · have := R.mono hg h0 (i := z + 1) (j := y) (by omega) (by omega); omega
    · subst h5; exact hD hz
    · have := R.mono hg h0 (i := y + 1) (j := z) (by omega) (by omega); omega
theorem Inv.cons_at (hI : Inv R ds β0 w0 D β a w) {x i : Nat} {p : Pl} (_hxl : x < ops.length) (hF : Fits R D x) (he : R.e x = .load i ∨ R.e x = .store i ∨ (∃ r, R.e x = .app (some i) r) ∨ ∃ d, R.e x = .app d (some i)) (hlt : i < (R.S x).n) (hp : β i = some p) : HCons R D i x := by
  intro y hy ht
  refine ⟨fun hyx => Classical.byContradiction fun hD => ?_, fun hxy hD => ?_⟩
  · have hb := hF.ef1 y hyx hD
    have hn := fun h1 h2 => hI.not_there R hg h0 hy hD h1 h2 hp
    unfold Run.touch Touch at ht
    cases hey : R.e y with
    | pure => rw [hey] at ht; exact ht
    | load k => rw [hey] at ht; exact ht
    | new => rw [hey] at ht; exact hn ht.1 ht.2
    | store k =>
      rw [hey] at ht hb
      simp only at ht
      subst ht
      rcases he with he | he | ⟨r, he⟩ | ⟨d, he⟩ <;> rw [he] at hb <;> simp [Eff.bad] at hb
    | app d r =>
      rw [hey] at ht hb
      rcases ht with ht | ht
      · subst ht
        rcases he with he | he | ⟨r, he⟩ | ⟨d, he⟩ <;> rw [he] at hb <;> simp [Eff.bad] at hb
      · exact hn ht.1 ht.2
    | call p =>
      rw [hey] at ht hb
      obtain ⟨h1, h2 | h2⟩ := ht
      · exact hn h2 h1
      · subst h2
        rcases he with he | he | ⟨r, he⟩ | ⟨d, he⟩ <;> rw [he] at hb <;> simp [Eff.bad] at hb
  · have hne : x ≠ y := fun e => hF.nd (e ▸ hD)
    have hxy : x < y := by omega
    have hb := hF.ef2 y hxy hD
    have hmono := R.mono hg h0 (i := x) (j := y) (by omega) (by omega)
    unfold Run.touch Touch at ht
    cases hey : R.e y with
    | pure => rw [hey] at ht; exact ht
    | load k => rw [hey] at ht; exact ht
    | new => rw [hey] at ht; have := ht.1; omega
    | store k =>
      rw [hey] at ht hb
      simp only at ht
      subst ht
      rcases he with he | he | ⟨r, he⟩ | ⟨d, he⟩ <;> rw [he] at hb <;> simp [Eff.bad] at hb
    | app d r =>
      rw [hey] at ht hb
      rcases ht with ht | ht
      · subst ht
        rcases he with he | he | ⟨r, he⟩ | ⟨d, he⟩ <;> rw [he] at hb <;> simp [Eff.bad] at hb
      · omega
    | call p =>
      rw [hey] at ht hb
      obtain ⟨h1, h2 | h2⟩ := ht
      · omega
      · subst h2
        rcases he with he | he | ⟨r, he⟩ | ⟨d, he⟩ <;> rw [he] at hb <;> simp [Eff.bad] at hb
theorem Inv.cons_call (hI : Inv R ds β0 w0 D β a w) {x i : Nat} {p : Pl} {q : Bool} (_hxl : x < ops.length) (hF : Fits R D x) (he : R.e x = .call q) (hlt : i < (R.S x).n) (hp : β i = some p) : HCons R D i x := by
  intro y hy ht
  refine ⟨fun hyx => Classical.byContradiction fun hD => ?_, fun hxy hD => ?_⟩
  · have hb := hF.ef1 y hyx hD
    have hn := fun h1 h2 => hI.not_there R hg h0 hy hD h1 h2 hp
    rw [he] at hb
    unfold Run.touch Touch at ht
    cases hey : R.e y with
    | pure => rw [hey] at ht; exact ht
    | load k => rw [hey] at ht; exact ht
    | new => rw [hey] at ht; exact hn ht.1 ht.2
    | _ => rw [hey] at hb; simp [Eff.bad] at hb
  · have hne : x ≠ y := fun e => hF.nd (e ▸ hD)
    have hxy : x < y := by omega
    have hb := hF.ef2 y hxy hD
    have hmono := R.mono hg h0 (i := x) (j := y) (by omega) (by omega)
    rw [he] at hb
    unfold Run.touch Touch at ht
    cases hey : R.e y with
    | pure => rw [hey] at ht; exact ht
    | load k => rw [hey] at ht; exact ht
    | new => rw [hey] at ht; have := ht.1; omega
    | _ => rw [hey] at hb; simp [Eff.bad] at hb
omit hg h0 in
theorem Blk.rel_lt {β : Map} {w : World} {p : Pl} {b : Blk} (h : b.rel β w p) : p.b < w.heap.size := by
  obtain ⟨_, _, _, h1, _⟩ := h
  exact lt_of_heap h1
/-- Nothing is touched. -/
theorem Inv.stay (hI : Inv R ds β0 w0 D β a w) {x : Nat} {o : Oper} {u : Value} (ho : ops[x]? = some o) (hF : Fits R D x) (he : R.e x = .pure ∨ ∃ i, R.e x = .load i) (hu : (R.v x).rel (β.cut (R.S x).n) u) : Inv R ds β0 w0 (with_ D x) β (a.put o.dst u) w := by
  have hxl : x < ops.length := (List.getElem?_eq_some_iff.1 ho).1
  have hno : ∀ i, ¬ R.touch x i := by
    intro i ht
    unfold Run.touch Touch at ht
    rcases he with he | ⟨k, he⟩ <;> rw [he] at ht <;> exact ht
  refine hI.step R hg h0 ho hF (Map.le_refl _) (fun i p h => .inl h) (fun i h => ?_) (Va.rel_mono (Map.cut_mono (Map.le_refl _) (R.good hg h0 hxl).n) hu) (fun i j p b _ _ _ _ _ h => h) (fun i p b ht => absurd ht (hno i)) ?_ ?_ ?_ hI.size hI.frame hI.os hI.tape hI.output
  · rcases he with he | ⟨k, he⟩ <;> rw [he] at h <;> rcases h with h | ⟨r, h⟩ <;> cases h
  · rintro i k p q b b' hne hp hq (⟨ht, _⟩ | ⟨_, j, hj, hc, hb⟩) (⟨ht, _⟩ | ⟨_, l, hl, hc', hb'⟩) hw
    · exact absurd ht (hno _)
    · exact absurd ht (hno _)
    · exact absurd ht (hno _)
    · exact hI.inj i k j l p q b b' hne hj hl hc hc' hp hq hb hb' hw
  · rintro i p b hp (⟨ht, _⟩ | ⟨_, j, hj, hc, hb⟩) hw hs
    · exact absurd ht (hno i)
    · exact hI.own i j p b hj hc hp hb hw hs
  · rintro i p b hp (⟨ht, _⟩ | ⟨_, j, hj, hc, hb⟩) hs
    · exact absurd ht (hno i)
    · exact hI.live i j p b hj hc hp hb hs
/-- A new block. -/
theorem Inv.alloc (hI : Inv R ds β0 w0 D β a w) {x : Nat} {o : Oper} {u : Value} (ho : ops[x]? = some o) (hF : Fits R D x) {w1 : World} {cs : Array Value} {ty : TypeId} {cap : Option (Nat × Nat)} {b : Blk}
    (hn : (R.S (x + 1)).n = (R.S x).n + 1) (hh : (R.S (x + 1)).h (R.S x).n = some b) (ht1 : R.touch x (R.S x).n) (ht2 : ∀ i, R.touch x i → i = (R.S x).n ∨ (R.S (x + 1)).h i = none)
    (hst : ∀ i, (R.e x = .store i ∨ ∃ r, R.e x = .app (some i) r) → ∃ p, β i = some p)
    (hheap : w1.heap = w.heap.push (.cells cs ty)) (hos : w1.os = w.os) (htape : w1.tape = w.tape) (hout : w1.output = w.output)
    (hcs : All2 (C.rel (β.cut (R.S x).n)) b.cs (cs.toList.take b.cs.length)) (hrow : ∀ s, b.row = some s → ∃ cc, cap = some (cc, s) ∧ cc ≤ cs.size)
    (hu : ∀ β', Map.le (β.cut (R.S x).n) β' → β' (R.S x).n = some ⟨w.heap.size, 0, cap⟩ → (R.v x).rel β' u) : ∃ β1, Inv R ds β0 w0 (with_ D x) β1 (a.put o.dst u) w1 := by
  have hxl : x < ops.length := (List.getElem?_eq_some_iff.1 ho).1
  have hnone : β (R.S x).n = none := by
    cases h : β (R.S x).n with
    | none => rfl
    | some p => exact (hI.not_there R hg h0 hxl hF.nd (Nat.le_refl _) (by omega) h).elim
  refine ⟨fun i => if i = (R.S x).n then some ⟨w.heap.size, 0, cap⟩ else β i, ?_⟩
  have hle : Map.le β (fun i => if i = (R.S x).n then some ⟨w.heap.size, 0, cap⟩ else β i) := fun i p e => by
    have : i ≠ (R.S x).n := fun e' => by rw [e', hnone] at e; cases e
    simp [this, e]
  have hlt : ∀ k, k < w.heap.size → w1.heap[k]? = w.heap[k]? := fun k hk => by rw [hheap, Array.getElem?_push_lt hk, Array.getElem?_eq_getElem hk]
  have hat : w1.heap[w.heap.size]? = some (.cells cs ty) := by rw [hheap]; simp
  have hsz : w1.heap.size = w.heap.size + 1 := by rw [hheap]; simp
  have hun : ∀ i p b', (if i = (R.S x).n then some ⟨w.heap.size, 0, cap⟩ else β i) = some p → Cur R D x i b' → (i = (R.S x).n ∧ p = ⟨w.heap.size, 0, cap⟩) ∨ (∃ j, j ≤ ops.length ∧ HCons R D i j ∧ (R.S j).h i = some b' ∧ β i = some p ∧ p.b < w.heap.size) := by
    intro i p b' hp hc
    by_cases hi : i = (R.S x).n
    · simp [hi] at hp
      exact .inl ⟨hi, hp.symm⟩
    · simp [hi] at hp
      rcases hc with ⟨ht, hb⟩ | ⟨_, j, hj, hc, hb⟩
      · rcases ht2 i ht with h | h
        · exact absurd h hi
        · rw [h] at hb; cases hb
      · exact .inr ⟨j, hj, hc, hb, hp, Blk.rel_lt (hI.blk i j p b' hj hc hp hb)⟩
  refine hI.step R hg h0 ho hF hle ?_ (fun i h => ?_) ?_ ?_ ?_ ?_ ?_ ?_ (by have := hI.size; omega) (fun k hk hno => ?_) (hos.trans hI.os) (htape.trans hI.tape) (hout.trans hI.output)
  · intro i p hp
    by_cases hi : i = (R.S x).n
    · rw [hi]; exact .inr ⟨Nat.le_refl _, by omega, ht1⟩
    · simp [hi] at hp; exact .inl hp
  · obtain ⟨p, hp⟩ := hst i h
    exact ⟨p, hle i p hp⟩
  · refine hu _ (Map.cut_mono hle (by omega)) ?_
    exact Map.cut_some.2 ⟨by omega, by simp⟩
  · intro i j p b' ht hj hc hp hb hr
    exact Blk.rel_mono (Map.cut_mono hle (Nat.le_refl _)) hr (hlt p.b (Blk.rel_lt hr))
  · intro i p b' ht hp hb
    rcases ht2 i ht with rfl | h
    · simp at hp
      subst hp
      rw [hh] at hb
      cases hb
      refine ⟨cs, ty, (0, 0), hat, fun j c hj => ?_, fun _ => rfl, fun s hs _ => ?_⟩
      · obtain ⟨v, hv, hr⟩ := hcs.get j c hj
        refine ⟨v, ?_, C.rel_mono (Map.cut_mono hle (by omega)) hr⟩
        have hjl : j < b.cs.length := (List.getElem?_eq_some_iff.1 hj).1
        rw [List.getElem?_take_of_lt hjl] at hv
        simpa using hv
      · obtain ⟨cc, h1, h2⟩ := hrow s hs
        exact ⟨cc, h1, by simpa using h2⟩
    · rw [h] at hb; cases hb
  · intro i k p q b1 b2 hne hp hq hc hc' hw
    rcases hun i p b1 hp hc with ⟨rfl, rfl⟩ | ⟨j, hj, hc1, hb1, hp', hlp⟩
    · rcases hun k q b2 hq hc' with ⟨rfl, _⟩ | ⟨l, hl, hc2, hb2, hq', hlq⟩
      · exact absurd rfl hne
      · show w.heap.size ≠ q.b
        omega
    · rcases hun k q b2 hq hc' with ⟨rfl, rfl⟩ | ⟨l, hl, hc2, hb2, hq', hlq⟩
      · show p.b ≠ w.heap.size
        omega
      · exact hI.inj i k j l p q b1 b2 hne hj hl hc1 hc2 hp' hq' hb1 hb2 hw
  · intro i p b1 hp hc hw hs
    rcases hun i p b1 hp hc with ⟨rfl, rfl⟩ | ⟨j, hj, hc1, hb1, hp', hlp⟩
    · have hs : w.heap.size < w0.heap.size := hs
      have := hI.size
      omega
    · exact hI.own i j p b1 hj hc1 hp' hb1 hw hs
  · intro i p b1 hp hc hs
    rcases hun i p b1 hp hc with ⟨rfl, rfl⟩ | ⟨j, hj, hc1, hb1, hp', hlp⟩
    · have hs : w.heap.size < w0.heap.size := hs
      have := hI.size
      omega
    · exact hI.live i j p b1 hj hc1 hp' hb1 hs
  · rw [hlt k (by have := hI.size; omega)]
    exact hI.frame k hk hno
/-- A block is written; c is the block that lies there now. -/
theorem Inv.write (hI : Inv R ds β0 w0 D β a w) {x : Nat} {o : Oper} {u : Value} (ho : ops[x]? = some o) (hF : Fits R D x) {w1 : World} {i c : Nat} {p : Pl} {b b1 : Blk}
    (hp : β i = some p) (hb : (R.S x).h i = some b) (hcx : HCons R D i x) (hw : b.wr = true)
    (hc : c = i ∨ (c = (R.S x).n ∧ (R.S x).n < (R.S (x + 1)).n)) (hh : (R.S (x + 1)).h c = some b1) (hti : R.touch x i) (htc : R.touch x c) (ht2 : ∀ k, R.touch x k → k = c ∨ (R.S (x + 1)).h k = none)
    (hst : ∀ i, (R.e x = .store i ∨ ∃ r, R.e x = .app (some i) r) → ∃ p, β i = some p)
    (hother : ∀ k, k ≠ p.b → w1.heap[k]? = w.heap[k]?) (hsz : w1.heap.size = w.heap.size) (hos : w1.os = w.os) (htape : w1.tape = w.tape) (hout : w1.output = w.output)
    (hb1 : ∀ β', Map.le (β.cut (R.S x).n) β' → b1.rel β' w1 p)
    (hu : ∀ β', Map.le (β.cut (R.S x).n) β' → β' c = some p → (R.v x).rel β' u) : ∃ β1, Inv R ds β0 w0 (with_ D x) β1 (a.put o.dst u) w1 := by
  have hxl : x < ops.length := (List.getElem?_eq_some_iff.1 ho).1
  have hgn := (R.good hg h0 hxl).n
  have hilt : i < (R.S x).n := by
    rcases Nat.lt_or_ge i (R.S x).n with h | h
    · exact h
    · rw [(R.ok hg h0 x (by omega)).2 i h] at hb; cases hb
  refine ⟨fun k => if k = c then some p else β k, ?_⟩
  have hle : Map.le β (fun k => if k = c then some p else β k) := fun k q e => by
    by_cases hk : k = c
    · rcases hc with rfl | ⟨hcn, hlt⟩
      · subst hk; rw [hp] at e; cases e; simp
      · exact (hI.not_there R hg h0 hxl hF.nd (i := k) (by omega) (by omega) e).elim
    · simp [hk, e]
  have hun : ∀ k q b', (if k = c then some p else β k) = some q → Cur R D x k b' → (k = c ∧ q = p) ∨ (k ≠ i ∧ ∃ j, j ≤ ops.length ∧ HCons R D k j ∧ (R.S j).h k = some b' ∧ β k = some q) := by
    intro k q b' hq hcur
    by_cases hk : k = c
    · simp [hk] at hq
      exact .inl ⟨hk, hq.symm⟩
    · simp [hk] at hq
      rcases hcur with ⟨ht, hb⟩ | ⟨ht, j, hj, hc, hb⟩
      · rcases ht2 k ht with h | h
        · exact absurd h hk
        · rw [h] at hb; cases hb
      · exact .inr ⟨fun e => ht (e ▸ hti), j, hj, hc, hb, hq⟩
  refine hI.step R hg h0 ho hF hle ?_ (fun i h => ?_) ?_ ?_ ?_ ?_ ?_ ?_ (by have := hI.size; omega) (fun k hk hno => ?_) (hos.trans hI.os) (htape.trans hI.tape) (hout.trans hI.output)
  · intro k q hq
    by_cases hk : k = c
    · rcases hc with rfl | ⟨hcn, hlt⟩
      · simp [hk] at hq; subst hq; rw [hk]; exact .inl hp
      · exact .inr ⟨by omega, by omega, hk ▸ htc⟩
    · simp [hk] at hq; exact .inl hq
  · obtain ⟨p, hp⟩ := hst i h
    exact ⟨p, hle i p hp⟩
  · refine hu _ (Map.cut_mono hle hgn) (Map.cut_some.2 ⟨?_, by simp⟩)
    rcases hc with rfl | ⟨hcn, hlt⟩ <;> omega
  · intro k j q b' ht hj hck hq hbk hr
    have hki : i ≠ k := fun e => ht (e ▸ hti)
    have hne := hI.inj i k x j p q b b' hki (by omega) hj hcx hck hp hq hb hbk hw
    exact Blk.rel_mono (Map.cut_mono hle (Nat.le_refl _)) hr (hother q.b (Ne.symm hne))
  · intro k q b' ht hq hbk
    rcases ht2 k ht with rfl | h
    · simp at hq
      subst hq
      rw [hh] at hbk
      cases hbk
      exact hb1 _ (Map.cut_mono hle hgn)
    · rw [h] at hbk; cases hbk
  · intro k l q r b2 b3 hne hq hr hc2 hc3 hw2
    rcases hun k q b2 hq hc2 with ⟨rfl, rfl⟩ | ⟨hki, j, hj, hck, hbk, hq'⟩
    · rcases hun l r b3 hr hc3 with ⟨rfl, _⟩ | ⟨hli, j, hj, hcl, hbl, hr'⟩
      · exact absurd rfl hne
      · exact hI.inj i l x j _ r b b3 (Ne.symm hli) (by omega) hj hcx hcl hp hr' hb hbl hw
    · rcases hun l r b3 hr hc3 with ⟨rfl, rfl⟩ | ⟨hli, j2, hj2, hcl, hbl, hr'⟩
      · exact (hI.inj i k x j _ q b b2 (Ne.symm hki) (by omega) hj hcx hck hp hq' hb hbk hw).symm
      · exact hI.inj k l j j2 q r b2 b3 hne hj hj2 hck hcl hq' hr' hbk hbl hw2
  · intro k q b2 hq hc2 hw2 hs
    rcases hun k q b2 hq hc2 with ⟨rfl, rfl⟩ | ⟨hki, j, hj, hck, hbk, hq'⟩
    · exact hI.own i x _ b (by omega) hcx hp hb hw hs
    · exact hI.own k j q b2 hj hck hq' hbk hw2 hs
  · intro k q b2 hq hc2 hs
    rcases hun k q b2 hq hc2 with ⟨rfl, rfl⟩ | ⟨hki, j, hj, hck, hbk, hq'⟩
    · exact hI.live i x _ b (by omega) hcx hp hb hs
    · exact hI.live k j q b2 hj hck hq' hbk hs
  · by_cases hkp : k = p.b
    · subst hkp
      exact absurd (hI.own i x p b (by omega) hcx hp hb hw hk) hno
    · rw [hother k hkp]
      exact hI.frame k hk hno
end
end Go.V
