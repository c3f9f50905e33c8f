/- The evaluator's soundness, part 2: cells that are loaded and stored; rows that grow. -/
import Derived.Test.YtemjdhglaljhbaaVRel
namespace Go.V

theorem add_eq (a : Addr) (n : Nat) (h : a.spot = none) : a.add n = ⟨a.block, a.off + n, none⟩ := by
  unfold Addr.add
  split
  · subst_vars; cases a; simp_all
  · simp_all
theorem cell_of_heap {w : World} {b : Nat} {cs : Array Value} {ty : TypeId} {fz : Nat × Nat} (h : w.heap[b]? = some (.cells cs ty fz)) (j : Nat) : w.cell? ⟨b, j, none⟩ = cs[j]? := by
  simp [World.cell?, h]

theorem run_loadFrom {P : Program} {w : World} {b o : Nat} {cs : Array Value} {ty : TypeId} {fz : Nat × Nat} (h : w.heap[b]? = some (.cells cs ty fz)) :
    ∀ (n i : Nat) (acc : Array Value), o + i + n ≤ cs.size → (loadCellsFrom ⟨b, o, none⟩ i n acc).run P w = .ok (acc ++ cs.extract (o + i) (o + i + n)) w
  | 0, i, acc, _ => by
    simp [loadCellsFrom]
    omega
  | n + 1, i, acc, hn => by
    have hc : w.cell? ⟨b, o + i, none⟩ = some (cs[o + i]'(by omega)) := by rw [cell_of_heap h]; exact Array.getElem?_eq_getElem (by omega)
    have hl : (Go.load ((⟨b, o, none⟩ : Addr).add i)).run P w = .ok (cs[o + i]'(by omega)) w := by
      rw [add_eq _ _ rfl]
      simp [Go.load, Sem.run, hc]
    simp only [loadCellsFrom, Sem.run_bind, hl, Result.andThen_ok]
    rw [run_loadFrom h n (i + 1) _ (by omega)]
    congr 1
    apply Array.toList_inj.1
    simp only [Array.toList_append, Array.toList_push, Array.toList_extract, List.extract_eq_take_drop, List.append_assoc, List.singleton_append]
    congr 1
    rw [show o + i + (n + 1) - (o + i) = n + 1 from by omega, show o + (i + 1) + n - (o + (i + 1)) = n from by omega, show o + (i + 1) = o + i + 1 from by omega]
    rw [List.drop_eq_getElem_cons (i := o + i) (by simpa using (show o + i < cs.size by omega))]
    simp
theorem run_loadCells {P : Program} {w : World} {b o n : Nat} {cs : Array Value} {ty : TypeId} {fz : Nat × Nat} (h : w.heap[b]? = some (.cells cs ty fz)) (hn : o + n ≤ cs.size) :
    (loadCells ⟨b, o, none⟩ n).run P w = .ok (cs.extract o (o + n)) w := by
  have := run_loadFrom (P := P) (o := o) h n 0 #[] (by omega)
  simpa [loadCells] using this

theorem heap_set_ne {w : World} {b j k : Nat} {v : Value} (h : k ≠ b) : (w.setCell ⟨b, j, none⟩ v).heap[k]? = w.heap[k]? := by
  simp [World.setCell, Array.getElem?_modify, Ne.symm h]
theorem heap_set_eq {w : World} {b j : Nat} {v : Value} {cs : Array Value} {ty : TypeId} {fz : Nat × Nat} (h : w.heap[b]? = some (.cells cs ty fz)) : (w.setCell ⟨b, j, none⟩ v).heap[b]? = some (.cells (cs.setIfInBounds j v) ty fz) := by
  simp [World.setCell, Array.getElem?_modify, h]

/-- What a run of stores does. -/
structure Wrote (w w' : World) (b o : Nat) (cs cs' : Array Value) (ty : TypeId) (vs : List Value) : Prop where
  heap : w'.heap[b]? = some (.cells cs' ty (0, 0))
  other : ∀ k, k ≠ b → w'.heap[k]? = w.heap[k]?
  hsize : w'.heap.size = w.heap.size
  size : cs'.size = cs.size
  cells : ∀ j, cs'[j]? = if o ≤ j ∧ j < o + vs.length then vs[j - o]? else cs[j]?
  os : w'.os = w.os
  tape : w'.tape = w.tape
  output : w'.output = w.output
theorem run_storeCells {P : Program} {b o : Nat} {ty : TypeId} : ∀ (vs : List Value) (i : Nat) (w : World) (cs : Array Value), w.heap[b]? = some (.cells cs ty (0, 0)) → o + i + vs.length ≤ cs.size → (∀ v ∈ vs, (∀ c, v ≠ .agg c) ∧ ∀ c, v ≠ .tuple c) →
    ∃ w' cs', (storeCells ⟨b, o, none⟩ vs i).run P w = .ok () w' ∧ Wrote w w' b (o + i) cs cs' ty vs
  | [], i, w, cs, h, _, _ => ⟨w, cs, rfl, h, fun _ _ => rfl, rfl, rfl, fun j => by simp; intro h1 h2; omega, rfl, rfl, rfl⟩
  | v :: vs, i, w, cs, h, hn, hv => by
    simp only [List.length_cons] at hn
    have hc : w.cell? ⟨b, o + i, none⟩ = some (cs[o + i]'(by omega)) := by rw [cell_of_heap h]; exact Array.getElem?_eq_getElem (by omega)
    have hf : w.frozen? ⟨b, o + i, none⟩ = false := by simp [World.frozen?, h]
    obtain ⟨h1, h2⟩ := hv v List.mem_cons_self
    have hs : (Go.store ((⟨b, o, none⟩ : Addr).add i) v).run P w = .ok () (w.setCell ⟨b, o + i, none⟩ v) := by
      rw [add_eq _ _ rfl]
      cases v with
      | agg c => exact absurd rfl (h1 c)
      | tuple c => exact absurd rfl (h2 c)
      | _ => simp [Go.store, Sem.run, hc, hf]
    obtain ⟨w', cs', hr, hw⟩ := run_storeCells (P := P) (b := b) (o := o) vs (i + 1) (w.setCell ⟨b, o + i, none⟩ v) (cs.setIfInBounds (o + i) v) (heap_set_eq h) (by simp; omega) (fun u hu => hv u (List.mem_cons_of_mem _ hu))
    refine ⟨w', cs', ?_, hw.heap, fun k hk => (hw.other k hk).trans (heap_set_ne hk), hw.hsize.trans (by simp), hw.size.trans (by simp), fun j => ?_, hw.os, hw.tape, hw.output⟩
    · simp only [storeCells, Sem.run_bind, hs, Result.andThen_ok]; exact hr
    · rw [hw.cells j]
      by_cases h3 : o + (i + 1) ≤ j ∧ j < o + (i + 1) + vs.length
      · rw [if_pos h3, if_pos (by simp; omega)]
        rw [show j - (o + i) = (j - (o + (i + 1))) + 1 from by omega]
        simp
      · rw [if_neg h3]
        by_cases h4 : j = o + i
        · subst h4
          rw [if_pos (by simp)]
          simp [show o + i < cs.size by omega]
        · rw [if_neg (by simp; omega), Array.getElem?_setIfInBounds, if_neg (by omega)]

/-- A block is written. -/
theorem Step.write {β : Map} {S : St} {w w' : World} (h : Rel β S w) {i : Nat} {p : Pl} {b : Blk} (hp : β i = some p) (hb : S.h i = some b) (hw : b.wr = true) {cs cs2 : Array Value} {ty ty0 : TypeId} {fz : Nat × Nat} (h0 : w.heap[p.b]? = some (.cells cs ty0 fz))
    (h1 : w'.heap[p.b]? = some (.cells cs2 ty (0, 0))) (hsz : cs.size ≤ cs2.size) (ho : ∀ k, k ≠ p.b → w'.heap[k]? = w.heap[k]?) (hs : w'.heap.size = w.heap.size) (hos : w'.os = w.os) (ht : w'.tape = w.tape) (hout : w'.output = w.output)
    (cs' : List C) (hr : ∀ (j : Nat) c, cs'[j]? = some c → ∃ v, cs2[p.o + j]? = some v ∧ c.rel β v) : Step β S w β (S.set i { b with cs := cs' }) w' := by
  have hh : ∀ j b', (S.set i { b with cs := cs' }).h j = some b' → ∃ b'', S.h j = some b'' ∧ b''.wr = b'.wr ∧ (j ≠ i → b'' = b') := by
    intro j b' e0
    have e : (if j = i then some { b with cs := cs' } else S.h j) = some b' := e0
    by_cases hj : j = i
    · simp [hj] at e; subst hj; exact ⟨b, hb, by rw [← e], fun h => absurd rfl h⟩
    · simp [hj] at e; exact ⟨b', e, rfl, fun _ => rfl⟩
  refine ⟨Map.le_refl _, fun _ _ h => .inl h, Nat.le_refl _, ⟨h.dom, ?_, ?_, ?_⟩, by omega, fun k hk hno => ho k fun e => hno ⟨i, p, b, hp, hb, hw, e.symm⟩, ?_, ?_, hos, ht, hout⟩
  · intro j hj
    show (if j = i then some { b with cs := cs' } else S.h j) = none
    have hi := h.dom i p hp
    have hj : S.n ≤ j := hj
    rw [if_neg (by omega)]
    exact h.ok j hj
  · intro j q b' hq e
    have e : (if j = i then some { b with cs := cs' } else S.h j) = some b' := e
    by_cases hj : j = i
    · subst hj
      simp at e
      subst e
      rw [hp] at hq
      cases hq
      refine ⟨cs2, ty, (0, 0), h1, hr, fun _ => rfl, fun s hs _ => ?_⟩
      obtain ⟨cs0, ty0', fz', hh0, _, _, hcap⟩ := h.blk j p b hp hb
      rw [h0] at hh0
      cases hh0
      obtain ⟨cc, e1, e2⟩ := hcap s hs hw
      exact ⟨cc, e1, by omega⟩
    · simp [hj] at e
      have hne : q.b ≠ p.b := fun e' => h.inj i j p q b b' (Ne.symm hj) hp hq hb e hw e'.symm
      exact Blk.rel_mono (Map.le_refl _) (h.blk j q b' hq e) (ho q.b hne)
  · intro j k q r b1 b2 hjk hq hr' e1 e2 hw1
    obtain ⟨b1', e1', hw1', _⟩ := hh j b1 e1
    obtain ⟨b2', e2', _, _⟩ := hh k b2 e2
    exact h.inj j k q r b1' b2' hjk hq hr' e1' e2' (hw1'.trans hw1)
  · rintro k hk ⟨j, q, b', hq, e, hw', rfl⟩
    obtain ⟨b'', e', hw'', _⟩ := hh j b' e
    exact ⟨j, q, b'', hq, e', hw''.trans hw', rfl⟩
  · rintro k hk ⟨j, q, b', hq, e, rfl⟩
    obtain ⟨b'', e', hw'', _⟩ := hh j b' e
    exact ⟨j, q, b'', hq, e', rfl⟩
/-- A block is given up. -/
theorem Step.kill {β : Map} {S : St} {w : World} (h : Rel β S w) (i : Nat) : Step β S w β (S.kill i) w := by
  have hh : ∀ j b', (S.kill i).h j = some b' → S.h j = some b' := by
    intro j b' e
    have e : (if j = i then none else S.h j) = some b' := e
    by_cases hj : j = i
    · simp [hj] at e
    · simpa [hj] using e
  refine ⟨Map.le_refl _, fun _ _ h => .inl h, Nat.le_refl _, ⟨h.dom, ?_, fun j q b' hq e => h.blk j q b' hq (hh j b' e), fun j k q r b1 b2 hjk hq hr e1 e2 hw => h.inj j k q r b1 b2 hjk hq hr (hh _ _ e1) (hh _ _ e2) hw⟩, Nat.le_refl _, fun _ _ _ => rfl, ?_, ?_, rfl, rfl, rfl⟩
  · intro j hj
    show (if j = i then none else S.h j) = none
    have hj : S.n ≤ j := hj
    split
    · rfl
    · exact h.ok j hj
  · rintro k hk ⟨j, q, b', hq, e, hw', rfl⟩
    exact ⟨j, q, b', hq, hh j b' e, hw', rfl⟩
  · rintro k hk ⟨j, q, b', hq, e, rfl⟩
    exact ⟨j, q, b', hq, hh j b' e, rfl⟩
/-- A row grows in its place: the elder block is given up, the new one lies where it lay. -/
theorem Step.grow {β : Map} {S : St} {w w' : World} (h : Rel β S w) {i : Nat} {p : Pl} {b : Blk} (hp : β i = some p) (hb : S.h i = some b) (hw : b.wr = true) {cs cs2 : Array Value} {ty ty0 : TypeId} {fz : Nat × Nat} (h0 : w.heap[p.b]? = some (.cells cs ty0 fz))
    (h1 : w'.heap[p.b]? = some (.cells cs2 ty (0, 0))) (hsz : cs.size ≤ cs2.size) (ho : ∀ k, k ≠ p.b → w'.heap[k]? = w.heap[k]?) (hs : w'.heap.size = w.heap.size) (hos : w'.os = w.os) (ht : w'.tape = w.tape) (hout : w'.output = w.output)
    (cs' : List C) (hr : ∀ (j : Nat) c, cs'[j]? = some c → ∃ v, cs2[p.o + j]? = some v ∧ c.rel β v) :
    ∃ β', β' S.n = some p ∧ Step β S w β' ((S.kill i).new { b with cs := cs' }) w' := by
  have hn : β S.n = none := by
    cases e : β S.n with
    | none => rfl
    | some p => exact absurd (h.dom _ _ e) (Nat.lt_irrefl _)
  have hin : i ≠ S.n := fun e => by rw [e, hn] at hp; cases hp
  refine ⟨fun k => if k = S.n then some p else β k, by simp, ?_⟩
  have hle : Map.le β (fun k => if k = S.n then some p else β k) := fun k q e => by
    have : k ≠ S.n := fun e' => by rw [e', hn] at e; cases e
    simp [this, e]
  have hh : ∀ j b', ((S.kill i).new { b with cs := cs' }).h j = some b' → (j = S.n ∧ b' = { b with cs := cs' }) ∨ (j ≠ S.n ∧ j ≠ i ∧ S.h j = some b') := by
    intro j b' e
    have e : (if j = S.n then some { b with cs := cs' } else if j = i then none else S.h j) = some b' := e
    by_cases hj : j = S.n
    · simp [hj] at e; exact .inl ⟨hj, e.symm⟩
    · by_cases hj' : j = i
      · simp [hj', hin] at e
      · simp [hj, hj'] at e; exact .inr ⟨hj, hj', e⟩
  have hm : ∀ j q, (if j = S.n then some p else β j) = some q → j ≠ S.n → β j = some q := fun j q e hj => by simpa [hj] using e
  refine ⟨hle, ?_, Nat.le_succ _, ⟨?_, ?_, ?_, ?_⟩, by omega, fun k hk hno => ho k fun e => hno ⟨i, p, b, hp, hb, hw, e.symm⟩, ?_, ?_, hos, ht, hout⟩
  · intro k q e
    by_cases hk : k = S.n
    · exact .inr (by omega)
    · exact .inl (hm k q e hk)
  · intro k q e
    show k < S.n + 1
    by_cases hk : k = S.n
    · omega
    · have := h.dom k q (hm k q e hk); omega
  · intro k hk
    have hk : S.n + 1 ≤ k := hk
    show (if k = S.n then some { b with cs := cs' } else if k = i then none else S.h k) = none
    rw [if_neg (by omega)]
    split
    · rfl
    · exact h.ok k (by omega)
  · intro j q b' hq e
    rcases hh j b' e with ⟨rfl, rfl⟩ | ⟨hj, hji, e'⟩
    · simp at hq
      subst hq
      obtain ⟨cs0, ty0', fz', hh0, _, _, hcap⟩ := h.blk i p b hp hb
      rw [h0] at hh0
      cases hh0
      refine ⟨cs2, ty, (0, 0), h1, fun j c hc => by obtain ⟨v, e1, e2⟩ := hr j c hc; exact ⟨v, e1, C.rel_mono hle e2⟩, fun _ => rfl, fun s hs _ => ?_⟩
      obtain ⟨cc, e1, e2⟩ := hcap s hs hw
      exact ⟨cc, e1, by omega⟩
    · have hq := hm j q hq hj
      have hne : q.b ≠ p.b := fun e2 => h.inj i j p q b b' (Ne.symm hji) hp hq hb e' hw e2.symm
      exact Blk.rel_mono hle (h.blk j q b' hq e') (ho q.b hne)
  · intro j k q r b1 b2 hjk hq hr' e1 e2 hw1
    rcases hh j b1 e1 with ⟨rfl, rfl⟩ | ⟨hj, hji, e1'⟩
    · simp at hq
      subst hq
      rcases hh k b2 e2 with ⟨rfl, _⟩ | ⟨hk, hki, e2'⟩
      · exact absurd rfl hjk
      · exact h.inj i k p r b b2 (Ne.symm hki) hp (hm k r hr' hk) hb e2' hw
    · have hq := hm j q hq hj
      rcases hh k b2 e2 with ⟨rfl, rfl⟩ | ⟨hk, hki, e2'⟩
      · simp at hr'
        subst hr'
        exact h.inj j i q p b1 b hji hq hp e1' hb hw1
      · exact h.inj j k q r b1 b2 hjk hq (hm k r hr' hk) e1' e2' hw1
  · rintro k hk ⟨j, q, b', hq, e, hw', rfl⟩
    rcases hh j b' e with ⟨rfl, rfl⟩ | ⟨hj, _, e'⟩
    · simp at hq
      subst hq
      exact ⟨i, p, b, hp, hb, hw, rfl⟩
    · exact ⟨j, q, b', hm j q hq hj, e', hw', rfl⟩
  · rintro k hk ⟨j, q, b', hq, e, rfl⟩
    rcases hh j b' e with ⟨rfl, rfl⟩ | ⟨hj, _, e'⟩
    · simp at hq
      subst hq
      exact ⟨i, p, b, hp, hb, rfl⟩
    · exact ⟨j, q, b', hm j q hq hj, e', rfl⟩
end Go.V
