/- The evaluator's soundness, part 14: calls. -/
import Derived.Test.YtemjdhglaljhbaaVCode
namespace Go.V
variable {P : Program} {E : Env}

theorem C.rel_via {β β2 β3 : Map} (h : ∀ i p p', β i = some p → β2 i = some p' → β3 i = some p') : ∀ {c : C} {v v' : Value}, c.rel β v → c.rel β2 v' → c.rel β3 v' := by
  intro c v v' hr hr'
  cases c with
  | ptr p =>
    cases p with
    | none => exact hr'
    | some q => obtain ⟨p, hp, _⟩ := hr; obtain ⟨p', hp', e⟩ := hr'; exact ⟨p', h _ _ _ hp hp', e⟩
  | sl p n =>
    cases p with
    | none => exact hr'
    | some q => obtain ⟨p, c, hp, _⟩ := hr; obtain ⟨p', c', hp', e⟩ := hr'; exact ⟨p', c', h _ _ _ hp hp', e⟩
  | yl i => obtain ⟨p, hp, _⟩ := hr; obtain ⟨p', hp', e⟩ := hr'; exact ⟨p', h _ _ _ hp hp', e⟩
  | fn f caps =>
    obtain ⟨lb, hl, _⟩ := hr
    obtain ⟨lb', hl', e⟩ := hr'
    exact ⟨lb', hl.both hl' fun a b b' ⟨p, hp, _⟩ ⟨p', hp', e⟩ => ⟨p', h _ _ _ hp hp', e⟩, e⟩
  | _ => exact hr'
theorem C.rel_old {β1 β2 : Map} {n : Nat} (h : ∀ i p, i < n → β1 i = some p → β2 i = some p) {c : C} (ho : c.old n = true) {v : Value} (hr : c.rel β1 v) : c.rel β2 v := by
  cases c with
  | ptr p =>
    cases p with
    | none => exact hr
    | some q =>
      obtain ⟨p, hp, e⟩ := hr
      exact ⟨p, h _ _ (by simpa [C.old] using ho) hp, e⟩
  | sl p n =>
    cases p with
    | none => exact hr
    | some q =>
      obtain ⟨p, c, hp, e⟩ := hr
      exact ⟨p, c, h _ _ (by simpa [C.old] using ho) hp, e⟩
  | yl i =>
    obtain ⟨p, hp, e⟩ := hr
    exact ⟨p, h _ _ (by simpa [C.old] using ho) hp, e⟩
  | fn f caps =>
    obtain ⟨lb, hl, e⟩ := hr
    refine ⟨lb, ?_, e⟩
    simp only [C.old, List.all_eq_true, decide_eq_true_eq] at ho
    clear e
    induction hl with
    | nil => exact .nil
    | cons h1 _ ih =>
      obtain ⟨p, hp, e⟩ := h1
      exact .cons ⟨p, h _ _ (ho _ List.mem_cons_self) hp, e⟩ (ih (fun q hq => ho q (List.mem_cons_of_mem _ hq)))
  | _ => exact hr
theorem C.rel_flat {β1 β2 : Map} {c : C} (ho : c.flat = true) {v : Value} (hr : c.rel β1 v) : c.rel β2 v := by
  cases c with
  | ptr p =>
    cases p with
    | none => exact hr
    | some q => simp [C.flat] at ho
  | sl p n =>
    cases p with
    | none => exact hr
    | some q => simp [C.flat] at ho
  | yl i => simp [C.flat] at ho
  | fn f caps =>
    obtain ⟨lb, hl, e⟩ := hr
    refine ⟨lb, ?_, e⟩
    simp only [C.flat, List.isEmpty_iff] at ho
    subst ho
    cases hl
    exact .nil
  | _ => exact hr

/-- What is kept behind a call. -/
structure Kept (n : Nat) (S' : St) (ids : List Nat) (m m' : Nat) (h h' : Nat → Option Blk) : Prop where
  mm : m' = m + ids.length
  bb : ∀ i ∈ ids, n ≤ i ∧ ∃ b, S'.h i = some b ∧ b.cs.all C.flat = true
  hh : ∀ j, h' j = if m ≤ j ∧ j < m + ids.length then (ids[j - m]?).bind S'.h else h j
def Into (n : Nat) (ids : List Nat) (m : Nat) (β1 β2 : Map) : Prop := (∀ i p, i < n → β1 i = some p → β2 i = some p) ∧ ∀ (k i : Nat) p, ids[k]? = some i → β1 i = some p → β2 (m + k) = some p
theorem Kept.append {n : Nat} {S' : St} {i1 i2 : List Nat} {m m1 m2 : Nat} {h h1 h2 : Nat → Option Blk} (a : Kept n S' i1 m m1 h h1) (b : Kept n S' i2 m1 m2 h1 h2) : Kept n S' (i1 ++ i2) m m2 h h2 := by
  have hm := a.mm
  subst hm
  refine ⟨by rw [b.mm, List.length_append]; omega, fun i hi => ?_, fun j => ?_⟩
  · rcases List.mem_append.1 hi with h | h
    · exact a.bb i h
    · exact b.bb i h
  · rw [b.hh, a.hh, List.length_append]
    by_cases c1 : m ≤ j ∧ j < m + i1.length
    · rw [if_neg (by omega), if_pos c1, if_pos (by omega), List.getElem?_append_left (by omega)]
    · by_cases c2 : m + i1.length ≤ j ∧ j < m + i1.length + i2.length
      · rw [if_pos c2, if_pos (by omega), List.getElem?_append_right (by omega)]
        congr 2
        omega
      · rw [if_neg c2, if_neg c1, if_neg (by omega)]
theorem keep_spec {n : Nat} {S' : St} : ∀ {cs cs' : List C} {m m' : Nat} {h h' : Nat → Option Blk}, keep n S' cs m h = some (cs', m', h') → Kept n S' (cs.filterMap (newId n)) m m' h h' ∧ cs'.length = cs.length ∧
    ∀ β1 β2 us, Into n (cs.filterMap (newId n)) m β1 β2 → All2 (C.rel β1) cs us → All2 (C.rel β2) cs' us
  | [], cs', m, m', h, h', e => by
    simp only [keep] at e
    cases e
    exact ⟨⟨rfl, fun i hi => by simp at hi, fun j => by simp; intro h1 h2; omega⟩, rfl, fun β1 β2 us _ hr => by cases hr; exact .nil⟩
  | c :: rest, cs', m, m', h, h', e => by
    simp only [keep] at e
    split at e
    · rename_i hold
      simp only [Option.bind_eq_bind] at e
      obtain ⟨⟨cs1, m1, h1⟩, e1, e⟩ := bind_some e
      cases e
      have hid : newId n c = none := by
        cases c with
        | sl p k =>
          cases p with
          | none => rfl
          | some q => simp [C.old] at hold; simp [newId]; omega
        | _ => rfl
      rw [List.filterMap_cons_none hid]
      obtain ⟨k1, k2, k3⟩ := keep_spec e1
      refine ⟨k1, by simp [k2], fun β1 β2 us hi hr => ?_⟩
      cases hr with
      | cons hc ht => exact .cons (C.rel_old hi.1 hold hc) (k3 β1 β2 _ hi ht)
    · rename_i hold
      split at e
      · rename_i i len
        simp only [Option.bind_eq_bind] at e
        obtain ⟨b, hb, e⟩ := bind_some e
        split at e
        · rename_i hc
          obtain ⟨⟨cs1, m1, h1⟩, e1, e⟩ := bind_some e
          cases e
          have hni : n ≤ i := by simp [C.old] at hold; omega
          have hid : newId n (.sl (some (i, 0)) len) = some i := by simp [newId, hni]
          rw [List.filterMap_cons_some hid]
          obtain ⟨k1, k2, k3⟩ := keep_spec e1
          have k0 : Kept n S' [i] m (m + 1) h (fun j => if j = m then some b else h j) := by
            refine ⟨rfl, fun j hj => ?_, fun j => ?_⟩
            · simp at hj; subst hj; exact ⟨hni, b, hb, hc.1⟩
            · by_cases hj : j = m
              · subst hj; simp [hb]
              · rw [if_neg hj, if_neg (by simp; omega)]
          refine ⟨k0.append k1, by simp [k2], fun β1 β2 us hi hr => ?_⟩
          cases hr with
          | cons hc' ht =>
            obtain ⟨p, c, hp, hv⟩ := hc'
            refine .cons ⟨p, c, hi.2 0 i p (by simp) hp, hv⟩ (k3 β1 β2 _ ⟨hi.1, fun k j p hk hp => ?_⟩ ht)
            have := hi.2 (k + 1) j p (by simpa using hk) hp
            rw [show m + 1 + k = m + (k + 1) from by omega]
            exact this
        · cases e
      · cases e
theorem keepX_spec {n : Nat} {S' : St} : ∀ {xs xs' : List X} {m m' : Nat} {h h' : Nat → Option Blk}, keepX n S' xs m h = some (xs', m', h') → Kept n S' (newIds n xs) m m' h h' ∧ xs'.length = xs.length ∧
    ∀ β1 β2 us, Into n (newIds n xs) m β1 β2 → All2 (X.rel β1) xs us → All2 (X.rel β2) xs' us
  | [], xs', m, m', h, h', e => by
    simp only [keepX] at e
    cases e
    exact ⟨⟨rfl, fun i hi => by simp [newIds] at hi, fun j => by simp [newIds]; intro h1 h2; omega⟩, rfl, fun β1 β2 us _ hr => by cases hr; exact .nil⟩
  | x :: rest, xs', m, m', h, h', e => by
    have hsplit : ∀ {β1 β2 : Map} {m1 : Nat}, m1 = m + (x.cells.filterMap (newId n)).length → Into n (newIds n (x :: rest)) m β1 β2 → Into n (x.cells.filterMap (newId n)) m β1 β2 ∧ Into n (newIds n rest) m1 β1 β2 := by
      intro β1 β2 m1 hm hi
      refine ⟨⟨hi.1, fun k i p hk hp => hi.2 k i p ?_ hp⟩, ⟨hi.1, fun k i p hk hp => ?_⟩⟩
      · have hlt := (List.getElem?_eq_some_iff.1 hk).1
        simp only [newIds]
        rw [List.getElem?_append_left hlt]
        exact hk
      · have := hi.2 ((x.cells.filterMap (newId n)).length + k) i p (by
          simp only [newIds]
          rw [List.getElem?_append_right (by omega)]
          simpa using hk) hp
        rw [hm, Nat.add_assoc]
        exact this
    cases x with
    | c y =>
      simp only [keepX, Option.bind_eq_bind] at e
      obtain ⟨⟨cs1, m1, h1⟩, e1, e⟩ := bind_some e
      obtain ⟨⟨xs2, m2, h2⟩, e2, e⟩ := bind_some e
      cases e
      obtain ⟨k1, k2, k3⟩ := keep_spec e1
      obtain ⟨j1, j2, j3⟩ := keepX_spec e2
      refine ⟨k1.append j1, by simp [j2], fun β1 β2 us hi hr => ?_⟩
      obtain ⟨hi1, hi2⟩ := hsplit k1.mm hi
      cases hr with
      | cons hc ht =>
        rename_i u us'
        have hc1 := k3 β1 β2 [u] hi1 (.cons hc .nil)
        cases hc1 with
        | cons hc2 ht2 =>
          cases ht2
          exact .cons hc2 (j3 β1 β2 _ hi2 ht)
    | a cs =>
      simp only [keepX, Option.bind_eq_bind] at e
      obtain ⟨⟨cs1, m1, h1⟩, e1, e⟩ := bind_some e
      obtain ⟨⟨xs2, m2, h2⟩, e2, e⟩ := bind_some e
      cases e
      obtain ⟨k1, k2, k3⟩ := keep_spec e1
      obtain ⟨j1, j2, j3⟩ := keepX_spec e2
      refine ⟨k1.append j1, by simp [j2], fun β1 β2 us hi hr => ?_⟩
      obtain ⟨hi1, hi2⟩ := hsplit k1.mm hi
      cases hr with
      | cons hc ht =>
        obtain ⟨vs, hl, e⟩ := hc
        exact .cons ⟨vs, k3 β1 β2 _ hi1 hl, e⟩ (j3 β1 β2 _ hi2 ht)
end Go.V
