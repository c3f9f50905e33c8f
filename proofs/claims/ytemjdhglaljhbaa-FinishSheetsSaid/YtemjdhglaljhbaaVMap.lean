/- A map from integers to bools that a call has made itself, as a plain function; and the steps of a walk at it. -/
import Derived.Test.YtemjdhglaljhbaaVPt
import Derived.Maps.Range
namespace Go.V
variable {P : Program} {E : Env}

structure MTy (P : Program) (t k e : TypeId) : Prop where
  ht : P.underlying t = some (.map k e)
  hk : P.underlying k = some (.int .i64)
  he : P.underlying e = some .bool
  hz : ∀ w, (zeroValue e).run P w = .ok (.bool false) w
def Sees (D : DataW Unit) (M : Int → Option Bool) : Prop := Maps.IsMap D ∧ (∀ i, Maps.has D (.int .i64 i) = (M i).isSome) ∧ ∀ i z, D.atKey (.int .i64 i) z = ((M i).map fun x => .lit (.bool x)).getD z
/-- Block b is a map of at most n entries: M. -/
def MapI (P : Program) (k e : TypeId) (b n : Nat) (M : Int → Option Bool) (w : World) : Prop := ∃ D, w.ownsMap P k (plainElem P e) b n D ∧ Sees D M
/-- Block r is under way over it: what is left, and how many. -/
def RngI (P : Program) (k e : TypeId) (b r n : Nat) (M : Int → Option Bool) (left : Int → Bool) (cnt : Nat) (w : World) : Prop :=
  ∃ D lf, w.ranges P k (plainElem P e) b r n D lf cnt ∧ Sees D M ∧ (∀ i, lf (.int .i64 i) = left i)
def upd (M : Int → Option Bool) (i : Int) (x : Option Bool) : Int → Option Bool := fun j => if j = i then x else M j
theorem MapI.still {k e : TypeId} {b n : Nat} {M : Int → Option Bool} : Still (MapI P k e b n M) := by
  rintro w w' hw ⟨D, ⟨es, clock, hb, h⟩, hs⟩
  exact ⟨D, ⟨es, clock, hw _ _ hb (fun _ _ _ h => by cases h), h⟩, hs⟩
theorem RngI.still {k e : TypeId} {b r n : Nat} {M : Int → Option Bool} {left : Int → Bool} {cnt : Nat} : Still (RngI P k e b r n M left cnt) := by
  rintro w w' hw ⟨D, lf, ⟨es, clock, since, seen, c0, hb, h1, h2, h3, hr, h4⟩, hs⟩
  exact ⟨D, lf, ⟨es, clock, since, seen, c0, hw _ _ hb (fun _ _ _ h => by cases h), h1, h2, h3, hw _ _ hr (fun _ _ _ h => by cases h), h4⟩, hs⟩
variable {t k e : TypeId} {b n : Nat} {M : Int → Option Bool} {w : World}
theorem MapI.made (w : World) : MapI P k e w.heap.size 0 (fun _ => none) (w.alloc (.map #[] 0)) :=
  ⟨_, World.ownsMap_made w P k _, ⟨_, rfl⟩, fun _ => rfl, fun _ _ => rfl⟩
theorem MapI.obj (h : MapI P k e b n M w) : ∃ ob, w.heap[b]? = some ob ∧ NoCells ob ∧ ob ≠ .deferred (some []) := by
  obtain ⟨D, ⟨es, clock, hb, _⟩, _⟩ := h
  exact ⟨_, hb, (fun _ _ _ h => by cases h), (fun h => by cases h)⟩
theorem lit_ne {i j : Int} (h : j ≠ i) : Lit.int .i64 j ≠ Lit.int .i64 i := fun e => h (by cases e; rfl)
theorem Sees.put {D : DataW Unit} (h : Sees D M) (i : Int) (x : Bool) : Sees (D.put (.int .i64 i) (.lit (.bool x))) (upd M i (some x)) := by
  obtain ⟨h1, h2, h3⟩ := h
  refine ⟨h1.put _ _, fun j => ?_, fun j z => ?_⟩
  · by_cases hj : j = i
    · subst hj; rw [Maps.has_put_same h1 (by exact trivial)]; simp [upd]
    · rw [Maps.has_put_other (lit_ne hj), h2]; simp [upd, hj]
  · by_cases hj : j = i
    · subst hj; rw [Maps.atKey_put_same h1 (by exact trivial)]; simp [upd]
    · rw [Maps.atKey_put_other (lit_ne hj), h3]; simp [upd, hj]
theorem Sees.del {D : DataW Unit} {i : Int} (h : Sees D M) (hd : Maps.IsMap (D.del (.int .i64 i))) : Sees (D.del (.int .i64 i)) (upd M i none) := by
  obtain ⟨h1, h2, h3⟩ := h
  refine ⟨hd, fun j => ?_, fun j z => ?_⟩
  · by_cases hj : j = i
    · subst hj; rw [Maps.has_del_same]; simp [upd]
    · rw [Maps.has_del_other (lit_ne hj), h2]; simp [upd, hj]
  · by_cases hj : j = i
    · subst hj; rw [Maps.atKey_del_same]; simp [upd]
    · rw [Maps.atKey_del_other (lit_ne hj), h3]; simp [upd, hj]
def Wf (i : Int) : Prop := (Lit.int .i64 i).wf = true
theorem MapI.put (T : MTy P t k e) (h : MapI P k e b n M w) (hn : n < maxLen) {i : Int} (hi : Wf i) (x : Bool) : ∃ w', (Instr.mapUpdate t (.map (some b)) (.int .i64 i) (.bool x)).run P w = .ok () w' ∧ MapI P k e b (n + 1) (upd M i (some x)) w' ∧ w.grownBy w' (some b) := by
  obtain ⟨D, hD, hs⟩ := h
  obtain ⟨w', h1, h2, h3⟩ := hD.update (Maps.int_keyed T.hk) T.ht hn (Maps.keyOf_int_mk T.hk hi) (plainElem_bool T.he x)
  exact ⟨w', h1, ⟨_, h2, hs.put i x⟩, h3⟩
theorem MapI.del (T : MTy P t k e) (h : MapI P k e b n M w) {i : Int} (hi : Wf i) (ty : TypeId) : ∃ w', (Builtin.delete_ #[t, k] ty #[.map (some b), .int .i64 i]).run P w = .ok (.tuple #[]) w' ∧ MapI P k e b n (upd M i none) w' ∧ w.grownBy w' (some b) := by
  obtain ⟨D, hD, hs⟩ := h
  obtain ⟨w', h1, h2, h3⟩ := hD.drop (Maps.int_keyed T.hk) T.ht (Maps.keyOf_int_mk T.hk hi) ty
  exact ⟨w', h1, ⟨_, h2, hs.del h2.isMap⟩, h3.grown⟩
theorem plainElem_bool_inv (T : MTy P t k e) {v : Value} {z : DataW Unit × List MemPlace} (h : plainElem P e v = some z) : ∃ x, v = .bool x ∧ z = (.lit (.bool x), []) := by
  unfold plainElem at h
  rw [T.he] at h
  cases v <;> simp at h
  subst h
  exact ⟨_, rfl, rfl⟩
theorem MapI.look (T : MTy P t k e) (h : MapI P k e b n M w) {i : Int} (hi : Wf i) : (Instr.lookup t (.map (some b)) (.int .i64 i) false).run P w = .ok (.bool ((M i).getD false)) w := by
  obtain ⟨D, hD, hs⟩ := h
  obtain ⟨v, ps, h1, h2⟩ := hD.lookup (Maps.int_keyed T.hk) T.ht (T.hz w) (plainElem_bool T.he false) (Maps.keyOf_int_mk T.hk hi)
  obtain ⟨x, rfl, hx⟩ := plainElem_bool_inv T h2
  rw [hs.2.2] at hx
  rw [h1]
  cases hM : M i with
  | none => rw [hM] at hx; cases hx; rfl
  | some y => rw [hM] at hx; cases hx; rfl
theorem MapI.range (T : MTy P t k e) (h : MapI P k e b n M w) : ∃ w' cnt, (Instr.range t (.map (some b))).run P w = .ok (.pointer (some ⟨w.heap.size, 0, none⟩)) w' ∧ RngI P k e b w.heap.size n M (fun i => (M i).isSome) cnt w' ∧ cnt ≤ n ∧ w.grownBy w' none := by
  obtain ⟨D, hD, hs⟩ := h
  obtain ⟨w', h1, h2, h3, _⟩ := hD.range (Maps.int_keyed T.hk) T.ht
  exact ⟨w', _, h1, ⟨D, _, h2, hs, hs.2.1⟩, hD.size_le, h3⟩
variable {r cnt : Nat} {left : Int → Bool}
theorem RngI.map (h : RngI P k e b r n M left cnt w) : MapI P k e b n M w := by
  obtain ⟨D, lf, h1, h2, _⟩ := h
  exact ⟨D, h1.owns, h2⟩
theorem RngI.obj (h : RngI P k e b r n M left cnt w) : ∃ ob, w.heap[r]? = some ob ∧ NoCells ob ∧ ob ≠ .deferred (some []) := by
  obtain ⟨D, lf, ⟨es, clock, since, seen, c0, hb, h1, h2, h3, hr, h4⟩, hs⟩ := h
  exact ⟨_, hr, (fun _ _ _ h => by cases h), (fun h => by cases h)⟩
theorem RngI.next (T : MTy P t k e) (h : RngI P k e b r n M left cnt w) (ty : TypeId) :
    (cnt = 0 ∧ (∀ i, left i = false) ∧ (Instr.next (.pointer (some ⟨r, 0, none⟩)) false ty).run P w = .ok (.tuple #[.bool false]) w) ∨
    ∃ i x w' cnt', left i = true ∧ M i = some x ∧ Wf i ∧ (Instr.next (.pointer (some ⟨r, 0, none⟩)) false ty).run P w = .ok (.tuple #[.bool true, .int .i64 i, .bool x]) w' ∧
      RngI P k e b r n M (fun j => left j && !decide (j = i)) cnt' w' ∧ cnt' < cnt ∧ w.grownBy w' (some r) ∧ (Instr.entry (.pointer (some ⟨r, 0, none⟩))).run P w' = .ok (.tuple #[.int .i64 i, .bool x]) w' := by
  obtain ⟨D, lf, hR, hs, hl⟩ := h
  rcases hR.next (Maps.int_keyed T.hk) ty with ⟨h1, h2, h3⟩ | ⟨key, v, kl, y, w', cnt', h1, h2, h3, h4, h5, h6, h7, h8, _, h9⟩
  · exact .inl ⟨h1, fun i => by rw [← hl]; exact h2 _, h3⟩
  · right
    obtain ⟨x, rfl, hx⟩ := plainElem_bool_inv T h3
    have hkey : ∃ i, key = .int .i64 i ∧ kl = .int .i64 i ∧ Wf i := by
      cases key <;> simp [keyOf, mapKey, T.hk] at h1
      obtain ⟨⟨rfl, hw⟩, rfl⟩ := h1
      exact ⟨_, rfl, rfl, hw⟩
    obtain ⟨i, rfl, rfl, hi⟩ := hkey
    have hM : M i = some x := by
      have := h4 (.lit (.int .i64 0))
      rw [hs.2.2, hx] at this
      cases hm : M i with
      | none => rw [hm] at this; cases this
      | some z => rw [hm] at this; cases this; rfl
    refine ⟨i, x, w', cnt', by rw [← hl]; exact h2, hM, hi, h5, ⟨D, _, h6, hs, fun j => ?_⟩, h7, h8, h9⟩
    show (lf (.int .i64 j) && !(Lit.int .i64 j).sameKey (.int .i64 i)) = _
    rw [hl]
    simp [Lit.sameKey]
end Go.V
