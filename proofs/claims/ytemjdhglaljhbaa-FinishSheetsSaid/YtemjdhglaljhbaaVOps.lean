/- The evaluator's soundness, part 3: one operation that is no call of a function. -/
import Derived.Test.YtemjdhglaljhbaaVMem
namespace Go.V

/-- What ties the tables of types to the program. -/
structure TyOk (P : Program) (E : Env) : Prop where
  ti : ∀ t i, E.ti t = some i → ∃ info z d, P.info? t = some info ∧ info.size = i.size ∧ info.bytes = i.bytes ∧ info.zero = some z ∧ X.ofValue z = some i.zero ∧ P.underlying t = some d ∧ i.agg = (match d with | .struct _ => true | .array _ _ => true | _ => false)
  int : ∀ t k, E.sh t = some (.int k) → P.underlying t = some (.int k)
  str : ∀ t, E.sh t = some .string → P.underlying t = some .string
  bool : ∀ t, E.sh t = some .bool → P.underlying t = some .bool
  ptr : ∀ t, E.sh t = some .ptr → ∃ e, P.underlying t = some (.pointer e)
  sl : ∀ t e, E.sh t = some (.slice e) → P.underlying t = some (.slice e)
  ar : ∀ t n e, E.sh t = some (.array n e) → P.underlying t = some (.array n e)
  st : ∀ t fs, E.sh t = some (.struct fs) → ∃ gs, P.underlying t = some (.struct gs) ∧ gs.toList.map (fun g => (g.offset, g.type)) = fs
  eq : ∀ t z, E.eqT.contains t = true → zero? E t = some z → ∀ β xs ys vx vy b, (eqCells xs z.cells).isSome = true → eqCells xs ys = some b → All2 (C.rel β) xs vx → All2 (C.rel β) ys vy →
    ∀ op x y w, (eqGuard op t x y (.agg vx.toArray) (.agg vy.toArray)).run P w = .ok () w ∧ (Op.equal t (.agg vx.toArray) (.agg vy.toArray)).run P w = .ok b w

variable {P : Program} {E : Env}

theorem ofValue_C {β : Map} {v : Value} {c : C} (h : C.ofValue v = some c) : c.rel β v := by
  unfold C.ofValue at h
  split at h <;> first | (cases h; first | rfl | exact ⟨rfl, rfl⟩) | cases h
theorem ofValue_X {β : Map} {v : Value} {x : X} (h : X.ofValue v = some x) : x.rel β v := by
  unfold X.ofValue at h
  split at h
  · rename_i cs
    cases hm : cs.toList.mapM C.ofValue with
    | none => simp [hm] at h
    | some l =>
      simp [hm] at h
      subst h
      refine ⟨cs.toList, ?_, by simp⟩
      have := All2.map_some (R := C.rel β) (f := C.ofValue) (g := id) (fun a b h => ofValue_C h) hm
      simpa using this
  · simp only [Option.map_eq_some_iff] at h
    obtain ⟨c, hm, rfl⟩ := h
    exact ofValue_C hm

/-- The operand's value. -/
def Rl (β : Map) (T : List Va) (ρ : Operand → Value) (x : Operand) : Prop := ∀ v, ev T x = some v → v.rel β (ρ x)
theorem Rl.mono {β β' : Map} (h : Map.le β β') {T : List Va} {ρ : Operand → Value} {x : Operand} (hx : Rl β T ρ x) : Rl β' T ρ x := fun v e => Va.rel_mono h (hx v e)
theorem ev_rel {β : Map} {T : List Va} {a : Act} (hsz : T.length = a.tmps.size) {x : Operand} (hx : ∀ t v u, x = .tmp t → T[t]? = some v → a.tmps[t]? = some u → v.rel β u) : Rl β T a.eval x := by
  intro v h
  cases x with
  | tmp t =>
    have h : T[t]? = some v := h
    have hl : t < T.length := (List.getElem?_eq_some_iff.1 h).1
    have hl' : t < a.tmps.size := by rw [hsz] at hl; exact hl
    have := hx t v (a.tmps[t]) rfl h (Array.getElem?_eq_getElem hl')
    simpa [Act.eval, Array.getD, hl'] using this
  | const c =>
    have h : (X.ofValue c).map Va.x = some v := h
    cases hc : X.ofValue c with
    | none => simp [hc] at h
    | some y => simp [hc] at h; subst h; exact ofValue_X hc
  | func f =>
    have h : some (Va.x (.c (.fn f []))) = some v := h
    cases h
    exact ⟨[], .nil, rfl⟩
  | global g => cases (show none = some v from h)

section
variable {β : Map} {T : List Va} {ρ : Operand → Value} {x : Operand}
theorem evX_ok (h : Rl β T ρ x) {v : X} (e : evX T x = some v) : v.rel β (ρ x) := by
  unfold evX at e
  split at e
  · rename_i y hy; cases e; exact h _ hy
  · cases e
theorem evI_ok (h : Rl β T ρ x) {n : Int} (e : evI T x = some n) : ∃ k, ρ x = .int k n := by
  unfold evI at e
  split at e
  · rename_i k m hy; cases e; exact ⟨k, evX_ok h hy⟩
  · cases e
theorem evB_ok (h : Rl β T ρ x) {b : Bool} (e : evB T x = some b) : ρ x = .bool b := by
  unfold evB at e
  split at e
  · rename_i m hy; cases e; exact evX_ok h hy
  · cases e
theorem evP_ok (h : Rl β T ρ x) {q : Nat × Nat} (e : evP T x = some q) : ∃ p, β q.1 = some p ∧ ρ x = .pointer (some (p.at q.2)) := by
  unfold evP at e
  split at e
  · rename_i m hy; cases e; exact evX_ok h hy
  · cases e
theorem evS_ok (h : Rl β T ρ x) {q : Option (Nat × Nat) × Nat} (e : evS T x = some q) : C.rel β (.sl q.1 q.2) (ρ x) := by
  unfold evS at e
  split at e
  · rename_i p n hy; cases e; exact evX_ok h hy
  · cases e
theorem evL_ok (h : Rl β T ρ x) {n : Nat} (e : evL T x = some n) : ∃ a c, ρ x = .slice a n c := by
  unfold evL at e
  split at e
  · rename_i p m hy
    cases e
    have hr := evX_ok h hy
    cases p with
    | none => obtain ⟨h0, hv⟩ := hr; exact ⟨none, 0, by rw [hv, h0]⟩
    | some q => obtain ⟨pl, c, _, hv, _⟩ := hr; exact ⟨_, c, hv⟩
  · rename_i hy
    cases e
    obtain ⟨a, c, hv⟩ := evX_ok h hy
    exact ⟨_, c, hv⟩
  · cases e
/-- A slice that is read. -/
def QRel (β : Map) (q : Option (Nat × Nat)) (m : Nat) (v : Value) : Prop := C.rel β (.sl q m) v ∨ (m = 0 ∧ ∃ a c, v = .slice (some a) 0 c)
theorem evQ_ok (h : Rl β T ρ x) {q : Option (Nat × Nat) × Nat} (e : evQ T x = some q) : QRel β q.1 q.2 (ρ x) := by
  unfold evQ at e
  split at e
  · rename_i p n hy; cases e; exact .inl (evX_ok h hy)
  · rename_i hy; cases e; exact .inr ⟨rfl, evX_ok h hy⟩
  · cases e
theorem evA_ok (h : Rl β T ρ x) {cs : List C} (e : evA T x = some cs) : ∃ vs, All2 (C.rel β) cs vs ∧ ρ x = .agg vs.toArray := by
  unfold evA at e
  split at e
  · rename_i m hy; cases e; exact evX_ok h hy
  · cases e
theorem evT_ok (h : Rl β T ρ x) {cs : List X} (e : evT T x = some cs) : ∃ vs, All2 (X.rel β) cs vs ∧ ρ x = .tuple vs.toArray := by
  unfold evT at e
  split at e
  · rename_i m hy; cases e; exact h _ hy
  · cases e
theorem evXs_ok : ∀ {l : List Operand} {xs : List X}, (∀ x ∈ l, Rl β T ρ x) → evXs T l = some xs → All2 (X.rel β) xs (l.map ρ)
  | [], xs, _, e => by simp [evXs] at e; subst e; exact .nil
  | x :: l, xs, h, e => by
    simp only [evXs] at e
    cases hx : evX T x with
    | none => simp [hx] at e
    | some v =>
      cases hl : evXs T l with
      | none => simp [hx, hl] at e
      | some vs =>
        simp [hx, hl] at e
        subst e
        exact .cons (evX_ok (h x (by simp)) hx) (evXs_ok (fun y hy => h y (by simp [hy])) hl)
theorem evPs_ok : ∀ {l : List Operand} {xs : List (Nat × Nat)}, (∀ x ∈ l, Rl β T ρ x) → evPs T l = some xs → All2 (fun (q : Nat × Nat) u => ∃ p, β q.1 = some p ∧ u = Value.pointer (some (p.at q.2))) xs (l.map ρ)
  | [], xs, _, e => by simp [evPs] at e; subst e; exact .nil
  | x :: l, xs, h, e => by
    simp only [evPs] at e
    cases hx : evP T x with
    | none => simp [hx] at e
    | some v =>
      cases hl : evPs T l with
      | none => simp [hx, hl] at e
      | some vs =>
        simp [hx, hl] at e
        subst e
        exact .cons (evP_ok (h x (by simp)) hx) (evPs_ok (fun y hy => h y (by simp [hy])) hl)
theorem evParts_ok : ∀ {l : List (Nat × Operand)} {xs : List (Nat × X)}, (∀ x ∈ l, Rl β T ρ x.2) → evParts T l = some xs → All2 (fun (a : Nat × X) (b : Nat × Value) => a.1 = b.1 ∧ a.2.rel β b.2) xs (l.map fun x => (x.1, ρ x.2))
  | [], xs, _, e => by simp [evParts] at e; subst e; exact .nil
  | (i, x) :: l, xs, h, e => by
    simp only [evParts] at e
    cases hx : evX T x with
    | none => simp [hx] at e
    | some v =>
      cases hl : evParts T l with
      | none => simp [hx, hl] at e
      | some vs =>
        simp [hx, hl] at e
        subst e
        exact .cons ⟨rfl, evX_ok (h (i, x) (by simp)) hx⟩ (evParts_ok (fun y hy => h y (by simp [hy])) hl)
end

/-! ### Types -/
theorem TyOk.size (h : TyOk P E) {t : TypeId} {s : Nat} (e : size? E t = some s) (w : World) : (sizeOf t).run P w = .ok s w := by
  unfold size? at e
  cases hi : E.ti t with
  | none => simp [hi] at e
  | some i =>
    simp [hi] at e
    obtain ⟨info, z, d, h1, h2, _⟩ := h.ti t i hi
    simp [sizeOf, typeInfo, h1, h2, e]
theorem TyOk.bytes (h : TyOk P E) {t : TypeId} {i : Ti} (e : E.ti t = some i) : ∃ info z, P.info? t = some info ∧ info.size = i.size ∧ info.bytes = i.bytes ∧ info.zero = some z ∧ ∀ β, i.zero.rel β z := by
  obtain ⟨info, z, d, h1, h2, h3, h4, h5, _⟩ := h.ti t i e
  exact ⟨info, z, h1, h2, h3, h4, fun β => ofValue_X h5⟩
theorem TyOk.zero (h : TyOk P E) {t : TypeId} {x : X} (e : zero? E t = some x) : ∃ z, (∀ w, (zeroValue t).run P w = .ok z w) ∧ ∀ β, x.rel β z := by
  unfold zero? at e
  cases hi : E.ti t with
  | none => simp [hi] at e
  | some i =>
    simp [hi] at e
    obtain ⟨info, z, d, h1, h2, h3, h4, h5, _⟩ := h.ti t i hi
    subst e
    exact ⟨z, fun w => by simp [zeroValue, typeInfo, h1, h4], fun β => ofValue_X h5⟩
theorem TyOk.isAgg (h : TyOk P E) {t : TypeId} {b : Bool} (e : agg? E t = some b) (w : World) : (Go.isAgg t).run P w = .ok b w := by
  unfold agg? at e
  cases hi : E.ti t with
  | none => simp [hi] at e
  | some i =>
    simp [hi] at e
    obtain ⟨info, z, d, h1, h2, h3, h4, h5, h6, h7⟩ := h.ti t i hi
    subst e
    rw [h7]
    simp only [Go.isAgg, Sem.run_bind, run_underlying h6, Result.andThen_ok]
    cases d <;> rfl
theorem All2.nth {α β : Type} {R : α → β → Prop} {l : List α} {m : List β} (h : All2 R l m) {i : Nat} {a : α} (e : l[i]? = some a) : ∃ b, m[i]? = some b ∧ R a b := h.get i a e
theorem part?_ok (h : TyOk P E) {β : Map} {t : TypeId} {cs : List C} {vs : List Value} {off : Nat} {v : X} (hr : All2 (C.rel β) cs vs) (e : part? E t cs off = some v) : ∃ u, v.rel β u ∧ ∀ w, (part t vs.toArray off).run P w = .ok u w := by
  unfold part? at e
  cases hs : size? E t with
  | none => simp [hs] at e
  | some s =>
    cases ha : agg? E t with
    | none => simp [hs, ha] at e
    | some b =>
      simp [hs, ha] at e
      cases b with
      | true =>
        simp at e
        obtain ⟨hle, rfl⟩ := e
        refine ⟨.agg (vs.toArray.extract off (off + s)), ⟨(vs.drop off).take s, (hr.drop off).take s, ?_⟩, fun w => ?_⟩
        · simp [List.extract_eq_take_drop]
        · simp [part, h.isAgg ha, h.size hs, Result.andThen]
      | false =>
        simp at e
        obtain ⟨c, hc, rfl⟩ := e
        obtain ⟨u, hu, hru⟩ := hr.get _ _ hc
        refine ⟨u, hru, fun w => ?_⟩
        simp [part, h.isAgg ha, hu, Result.andThen]

/-! ### Blocks -/
/-- A run of cells of a block, loaded. -/
theorem Blk.rel_load {β : Map} {w : World} {p : Pl} {b : Blk} (h : b.rel β w p) {o n : Nat} (hn : o + n ≤ b.cs.length) : ∃ l, All2 (C.rel β) ((b.cs.drop o).take n) l ∧ ∀ w1 : World, w1.heap = w.heap → (loadCells (p.at o) n).run P w1 = .ok l.toArray w1 := by
  obtain ⟨cs, ty, fz, h1, h2, h3, h4⟩ := h
  rcases Nat.eq_zero_or_pos n with rfl | hpos
  · exact ⟨[], by simpa using All2.nil, fun w1 _ => by simp [loadCells, loadCellsFrom]⟩
  have hsz : p.o + o + n ≤ cs.size := by
    obtain ⟨v, hv, _⟩ := h2 (o + n - 1) (b.cs[o + n - 1]'(by omega)) (List.getElem?_eq_getElem _)
    have := (Array.getElem?_eq_some_iff.1 hv).1
    omega
  refine ⟨(cs.extract (p.o + o) (p.o + o + n)).toList, ?_, fun w1 hw1 => ?_⟩
  · refine All2.of_get ?_ fun i a v ha hv => ?_
    · simp; omega
    · rw [List.getElem?_take] at ha
      split at ha
      · rename_i hin
        rw [List.getElem?_drop] at ha
        obtain ⟨v', hv', hr⟩ := h2 _ _ ha
        simp only [Array.getElem?_toList, Array.getElem?_extract] at hv
        split at hv
        · rw [show p.o + o + i = p.o + (o + i) from by omega, hv'] at hv
          cases hv
          exact hr
        · cases hv
      · cases ha
  · rw [← hw1] at h1
    have := run_loadCells (P := P) (o := p.o + o) (n := n) h1 hsz
    rw [Array.toArray_toList]
    exact this
/-- A run of values, stored. -/
theorem Blk.rel_store {β : Map} {w : World} {p : Pl} {b : Blk} (h : b.rel β w p) (hw : b.wr = true) {o : Nat} {xs : List C} {vs : List Value} (hr : All2 (C.rel β) xs vs) (hroom : vs = [] ∨ ∀ cs ty fz, w.heap[p.b]? = some (.cells cs ty fz) → p.o + o + vs.length ≤ cs.size) :
    ∃ w' cs cs2 ty, (storeCells (p.at o) vs).run P w = .ok () w' ∧ w.heap[p.b]? = some (.cells cs ty (0, 0)) ∧ Wrote w w' p.b (p.o + o) cs cs2 ty vs ∧ ∀ (j : Nat) c, (b.cs.take o ++ xs ++ b.cs.drop (o + xs.length))[j]? = some c → o ≤ b.cs.length → ∃ v, cs2[p.o + j]? = some v ∧ c.rel β v := by
  obtain ⟨cs, ty, fz, h1, h2, h3, h4⟩ := h
  rw [h3 hw] at h1
  have hgo : ∀ w' cs2, Wrote w w' p.b (p.o + o) cs cs2 ty vs → ∀ (j : Nat) c, (b.cs.take o ++ xs ++ b.cs.drop (o + xs.length))[j]? = some c → o ≤ b.cs.length → ∃ v, cs2[p.o + j]? = some v ∧ c.rel β v := by
    intro w' cs2 hwr j c hj ho
    rw [hwr.cells]
    have hl := hr.length
    have hlt : (b.cs.take o).length = o := by simp; omega
    by_cases h5 : j < o
    · rw [if_neg (by omega)]
      rw [List.append_assoc, List.getElem?_append_left (by omega), List.getElem?_take_of_lt h5] at hj
      exact h2 j c hj
    · by_cases h6 : j < o + xs.length
      · rw [if_pos (by omega)]
        rw [List.append_assoc, List.getElem?_append_right (by omega), List.getElem?_append_left (by omega), hlt] at hj
        obtain ⟨v, hv, hvr⟩ := hr.get _ _ hj
        exact ⟨v, by rw [show p.o + j - (p.o + o) = j - o from by omega]; exact hv, hvr⟩
      · rw [if_neg (by omega)]
        rw [List.append_assoc, List.getElem?_append_right (by omega), List.getElem?_append_right (by omega), hlt, List.getElem?_drop, show o + xs.length + (j - o - xs.length) = j from by omega] at hj
        exact h2 j c hj
  rcases hroom with rfl | hroom
  · have hw0 : Wrote w w p.b (p.o + o) cs cs ty [] := ⟨h1, fun _ _ => rfl, rfl, rfl, fun j => by simp; intro h1 h2; omega, rfl, rfl, rfl⟩
    exact ⟨w, cs, cs, ty, by simp [storeCells], h1, hw0, hgo _ _ hw0⟩
  · have hone : ∀ v ∈ vs, (∀ c, v ≠ .agg c) ∧ ∀ c, v ≠ .tuple c := by
      intro v hv
      obtain ⟨i, hi⟩ := List.getElem?_of_mem hv
      obtain ⟨c, _, hc⟩ := hr.get' _ _ hi
      exact C.rel_one hc
    obtain ⟨w', cs', hrun, hwr⟩ := run_storeCells (P := P) (b := p.b) (o := p.o + o) (ty := ty) vs 0 w cs h1 (by have := hroom cs ty _ h1; omega) hone
    exact ⟨w', cs, cs', ty, hrun, h1, hwr, hgo _ _ hwr⟩

/-! ### Parts that are filled in -/
theorem toList_set_fold {off : Nat} : ∀ (vs : List Value) (k : Nat) (cs : Array Value), off + k + vs.length ≤ cs.size →
    ((vs.zipIdx k).foldl (fun (cs : Array Value) (x : Value × Nat) => cs.setIfInBounds (off + x.2) x.1) cs).toList = cs.toList.take (off + k) ++ vs ++ cs.toList.drop (off + k + vs.length)
  | [], k, cs, h => by simp
  | v :: vs, k, cs, h => by
    simp only [List.length_cons] at h
    simp only [List.zipIdx_cons, List.foldl_cons]
    rw [toList_set_fold vs (k + 1) (cs.setIfInBounds (off + k) v) (by simp; omega)]
    apply List.ext_getElem?
    intro i
    simp only [Array.toList_setIfInBounds, List.length_cons, List.append_assoc]
    have hl1 : (List.take (off + (k + 1)) (cs.toList.set (off + k) v)).length = off + (k + 1) := by simp; omega
    have hl2 : (List.take (off + k) cs.toList).length = off + k := by simp; omega
    by_cases h1 : i < off + k
    · rw [List.getElem?_append_left (by omega), List.getElem?_append_left (by omega), List.getElem?_take_of_lt (by omega), List.getElem?_take_of_lt h1, List.getElem?_set_ne (by omega)]
    · by_cases h2 : i = off + k
      · subst h2
        rw [List.getElem?_append_left (by omega), List.getElem?_append_right (by omega), hl2, List.getElem?_take_of_lt (by omega), List.getElem?_set_self (by simp; omega)]
        simp
      · rw [List.getElem?_append_right (l₁ := List.take (off + (k + 1)) (cs.toList.set (off + k) v)) (by omega), List.getElem?_append_right (l₁ := List.take (off + k) cs.toList) (by omega), hl1, hl2, show i - (off + k) = (i - (off + (k + 1))) + 1 from by omega]
        rw [show (v :: vs) ++ List.drop (off + k + (vs.length + 1)) cs.toList = v :: (vs ++ List.drop (off + k + (vs.length + 1)) cs.toList) from rfl, List.getElem?_cons_succ]
        by_cases h3 : i - (off + (k + 1)) < vs.length
        · rw [List.getElem?_append_left h3, List.getElem?_append_left h3]
        · rw [List.getElem?_append_right (by omega), List.getElem?_append_right (by omega), List.getElem?_drop, List.getElem?_drop, List.getElem?_set_ne (by omega)]
          congr 1
          omega
theorem fill_ok {β : Map} {place place' : Nat → Option (Nat × Nat)} (hp : ∀ i q, place i = some q → place' i = some q) : ∀ {ps : List (Nat × X)} {vps : List (Nat × Value)} {cs : List C} {vs : Array Value} {cs' : List C},
    All2 (fun (a : Nat × X) (b : Nat × Value) => a.1 = b.1 ∧ a.2.rel β b.2) ps vps → All2 (C.rel β) cs vs.toList → V.fill place cs ps = some cs' → ∃ vs', Instr.fill place' vs vps = some vs' ∧ All2 (C.rel β) cs' vs'.toList := by
  intro ps vps cs vs cs' hps
  induction hps generalizing cs vs cs' with
  | nil => intro hr e; simp [V.fill] at e; subst e; exact ⟨vs, rfl, hr⟩
  | @cons a b l m hab _ ih =>
    intro hr e
    obtain ⟨i, x⟩ := a
    obtain ⟨i', v⟩ := b
    obtain ⟨rfl, hv⟩ := hab
    simp only [V.fill] at e
    cases hpl : place i with
    | none => simp [hpl] at e
    | some q =>
      obtain ⟨off, s⟩ := q
      simp only [hpl, Option.bind_eq_bind, Option.bind_some] at e
      split at e
      · rename_i hc
        obtain ⟨h1, h2⟩ := hc
        have hcl := X.rel_cells hv
        have hl1 := hcl.length
        have hl2 := hr.length
        have hvs : v.cells.size = s := by rw [← h1, hl1]; simp
        have hsz : cs.length = vs.size := by rw [hl2]; simp
        have hfold := toList_set_fold (off := off) v.cells.toList 0 vs (by simp; omega)
        simp only [Instr.fill, hp _ _ hpl, hvs]
        rw [if_neg (by simp; omega)]
        refine ih ?_ e
        have hto : (v.cells.zipIdx.foldl (fun cs (x : Value × Nat) => cs.setIfInBounds (off + x.2) x.1) vs).toList = vs.toList.take (off + 0) ++ v.cells.toList ++ vs.toList.drop (off + 0 + v.cells.toList.length) := by
          rw [← hfold, ← Array.foldl_toList, Array.toList_zipIdx]
        show All2 (C.rel β) _ (v.cells.zipIdx.foldl (fun cs (x : Value × Nat) => cs.setIfInBounds (off + x.2) x.1) vs).toList
        rw [hto]
        have : off + 0 + v.cells.toList.length = off + s := by simp [hvs]
        rw [this, Nat.add_zero]
        exact ((hr.take _).append hcl).append (hr.drop _)
      · cases e
theorem getElem?_flat {α : Type} (l : List α) : ∀ (n j : Nat), j < n * l.length → (List.replicate n l).flatten[j]? = l[j % l.length]?
  | 0, j, h => by simp at h
  | n + 1, j, h => by
    rw [List.replicate_succ, List.flatten_cons]
    by_cases h1 : j < l.length
    · rw [List.getElem?_append_left h1, Nat.mod_eq_of_lt h1]
    · have h : j < n * l.length + l.length := by rw [Nat.succ_mul] at h; exact h
      rw [List.getElem?_append_right (by omega), getElem?_flat l n _ (by omega), Nat.mod_eq_sub_mod (a := j) (by omega)]
theorem flat_ok {β : Map} {zs : List C} {z : Array Value} (h : All2 (C.rel β) zs z.toList) (n s : Nat) (hs : zs.length = s) (h0 : 0 < s) : All2 (C.rel β) (List.replicate n zs).flatten ((Array.range (n * s)).map (fun i => z[i % z.size]!)).toList := by
  have hl := h.length
  have hz : z.size = s := by rw [← hs, hl]; simp
  refine All2.of_get ?_ fun i a v ha hv => ?_
  · simp [List.length_flatten, hs]
  · have hi : i < n * s := by
      have := (List.getElem?_eq_some_iff.1 ha).1
      simpa [List.length_flatten, hs] using this
    rw [getElem?_flat zs n i (by rw [hs]; exact hi), hs] at ha
    obtain ⟨v', hv', hr⟩ := h.get _ _ ha
    have hm : i % s < z.size := by rw [hz]; exact Nat.mod_lt _ h0
    have e : z[i % s]! = v' := by
      have : z[i % s]? = some v' := by simpa using hv'
      simp [getElem!_def, this]
    rw [Array.getElem?_toList, Array.getElem?_map] at hv
    have hrange : (Array.range (n * s))[i]? = some i := by simp [hi]
    rw [hrange] at hv
    simp only [Option.map_some, Option.some.injEq] at hv
    rw [hz, e] at hv
    subst hv
    exact hr
theorem run_mapM_list {α γ : Type} {f : α → Sem γ} {g : α → γ} {w : World} : ∀ (as : List α), (∀ x ∈ as, (f x).run P w = .ok (g x) w) → (as.mapM f).run P w = .ok (as.map g) w
  | [], _ => by simp
  | x :: as, h => by
    simp only [List.mapM_cons, Sem.run_bind, h x (by simp), Result.andThen_ok, run_mapM_list as (fun y hy => h y (by simp [hy]))]
    simp
theorem run_mapM {α γ : Type} {f : α → Sem γ} {g : α → γ} {w : World} (as : Array α) (h : ∀ x ∈ as, (f x).run P w = .ok (g x) w) : (as.mapM f).run P w = .ok (as.map g) w := by
  rw [Array.mapM_eq_mapM_toList, map_eq_pure_bind, Sem.run_bind, run_mapM_list (g := g) as.toList (fun x hx => h x (by simpa using hx))]
  simp [← Array.toList_map]
theorem places_ok (h : TyOk P E) : ∀ {fs : List (Nat × TypeId)} {l : List (Nat × Nat)}, places E fs = some l → fs.length = l.length ∧ ∀ (i : Nat) (f : Nat × TypeId), fs[i]? = some f → ∃ s, size? E f.2 = some s ∧ l[i]? = some (f.1, s)
  | [], l, e => by simp [places] at e; subst e; simp
  | f :: fs, l, e => by
    simp only [places] at e
    cases hs : size? E f.2 with
    | none => simp [hs] at e
    | some s =>
      cases hp : places E fs with
      | none => simp [hs, hp] at e
      | some l' =>
        simp [hs, hp] at e
        subst e
        obtain ⟨h1, h2⟩ := places_ok h hp
        refine ⟨by simp [h1], fun i g hg => ?_⟩
        cases i with
        | zero => simp at hg; subst hg; exact ⟨s, hs, rfl⟩
        | succ i => simpa using h2 i g (by simpa using hg)
theorem place_ok (h : TyOk P E) {t : TypeId} {f : Nat → Option (Nat × Nat)} (e : place E t = some f) :
    (∃ gs, P.underlying t = some (.struct gs) ∧ ∃ pl : Array (Nat × Nat), (∀ w, (gs.mapM fun (f : Field) => (do pure (f.offset, ← sizeOf f.type) : Sem (Nat × Nat))).run P w = .ok pl w) ∧ ∀ i q, f i = some q → pl[i]? = some q) ∨
    (∃ n el s, P.underlying t = some (.array n el) ∧ (∀ w, (sizeOf el).run P w = .ok s w) ∧ ∀ i q, f i = some q → some (i * s, s) = some q) := by
  unfold place at e
  split at e
  · rename_i fs hsh
    obtain ⟨gs, hu, hgs⟩ := h.st t fs hsh
    cases hp : places E fs with
    | none => simp [hp] at e
    | some l =>
      simp [hp] at e
      subst e
      obtain ⟨hlen, hpl⟩ := places_ok h hp
      have hsz : ∀ (i : Nat) (g : Field), gs[i]? = some g → ∃ s, size? E g.type = some s ∧ l[i]? = some (g.offset, s) := by
        intro i g hg
        refine hpl i (g.offset, g.type) ?_
        rw [← hgs, List.getElem?_map]
        simp [hg]
      refine .inl ⟨gs, hu, gs.map (fun g => (g.offset, (size? E g.type).getD 0)), fun w => ?_, fun i q hq => ?_⟩
      · refine run_mapM gs fun g hg => ?_
        obtain ⟨i, hi⟩ := Array.getElem?_of_mem hg
        obtain ⟨s, hs, _⟩ := hsz i g hi
        simp [h.size hs, hs]
      · have hil : i < gs.size := by
          have := (List.getElem?_eq_some_iff.1 hq).1
          rw [← hlen, ← hgs] at this
          simpa using this
        obtain ⟨s, hs, hl⟩ := hsz i gs[i] (Array.getElem?_eq_getElem hil)
        have hq : l[i]? = some q := hq
        rw [hl] at hq
        cases hq
        simp [hil, hs]
  · rename_i n el hsh
    cases hs : size? E el with
    | none => simp [hs] at e
    | some s =>
      simp [hs] at e
      subst e
      exact .inr ⟨n, el, s, h.ar t n el hsh, fun w => h.size hs w, fun i q hq => by simpa using hq⟩
  · cases e

/-! ### Numbers -/
theorem eqOut_ok {op : BinOp} {b : Bool} {c : C} (e : eqOut op b = some c) : (op = .eql ∧ c = .bool b) ∨ (op = .neq ∧ c = .bool !b) := by
  unfold eqOut at e
  split at e <;> simp_all
theorem arith_ok {op : BinOp} {k : IntKind} {a b : Int} {c : C} (e : arith op k a b = some c) (β : Map) (w : World) (t : TypeId) : ∃ u, c.rel β u ∧ (binOp op t (.int k a) (.int k b)).run P w = .ok u w := by
  cases op <;> simp only [arith] at e <;> first
    | (cases e; exact ⟨_, rfl, by simp [binOp, Op.intArith, Op.intBits, Op.intCmp]⟩)
    | (cases e; done)
    | (split at e <;> first | cases e; done | (rename_i hb; cases e; exact ⟨_, rfl, by simp [binOp, Op.intDiv, hb]⟩))
theorem equal_succ (t : TypeId) (x y : Value) : Op.equal t x y = Op.equalIn (9999 + 1) t x y := rfl
theorem equalIn_bool {t : TypeId} (h : P.underlying t = some .bool) (d : Nat) (a b : Bool) (w : World) : (Op.equalIn (d + 1) t (.bool a) (.bool b)).run P w = .ok (a == b) w := by
  simp [Op.equalIn, run_underlying h]
theorem equalIn_ptr {t e : TypeId} (h : P.underlying t = some (.pointer e)) (d : Nat) (q : Option Addr) (w : World) : (Op.equalIn (d + 1) t (.pointer q) (.pointer none)).run P w = .ok q.isNone w := by
  cases q <;> simp [Op.equalIn, run_underlying h]
theorem equalIn_sl {t e : TypeId} (h : P.underlying t = some (.slice e)) (d : Nat) (q : Option Addr) (n c : Nat) (w : World) : (Op.equalIn (d + 1) t (.slice q n c) (.slice none 0 0)).run P w = .ok q.isNone w := by
  cases q <;> simp [Op.equalIn, run_underlying h]
theorem bin_ok (h : TyOk P E) {β : Map} {op : BinOp} {t : TypeId} {x y : X} {c : C} {vx vy : Value} (hx : x.rel β vx) (hy : y.rel β vy) (e : bin E op t x y = some c) (w : World) (ox oy : Operand) :
    ∃ u, c.rel β u ∧ (do eqGuard op t ox oy vx vy; binOp op t vx vy).run P w = .ok u w := by
  unfold bin at e
  split at e
  · rename_i k a k' b
    obtain rfl := (show vx = _ from hx)
    obtain rfl := (show vy = _ from hy)
    have hg : (eqGuard op t ox oy (.int k a) (.int k' b)).run P w = .ok () w := by unfold eqGuard; split <;> simp
    rw [Sem.run_bind, hg, Result.andThen_ok]
    unfold intOp at e
    split at e
    · unfold shift at e
      split at e
      · cases e
      · rename_i hb
        cases e
        exact ⟨_, rfl, by simp [binOp, Op.shift, hb]⟩
    · unfold shift at e
      split at e
      · cases e
      · rename_i hb
        cases e
        exact ⟨_, rfl, by simp [binOp, Op.shift, hb]⟩
    · split at e
      · rename_i hk; subst hk; exact arith_ok e β w t
      · cases e
  · rename_i a b
    obtain rfl := (show vx = _ from hx)
    obtain rfl := (show vy = _ from hy)
    have hg : (eqGuard op t ox oy (.bool a) (.bool b)).run P w = .ok () w := by unfold eqGuard; split <;> simp
    rw [Sem.run_bind, hg, Result.andThen_ok]
    split at e
    · rename_i hs
      have hq : (Op.equal t (.bool a) (.bool b)).run P w = .ok (a == b) w := by rw [equal_succ]; exact equalIn_bool (h.bool t hs) _ a b w
      rcases eqOut_ok e with ⟨rfl, rfl⟩ | ⟨rfl, rfl⟩
      · exact ⟨_, rfl, by simp [binOp, hq]⟩
      · exact ⟨_, rfl, by simp [binOp, hq]⟩
    · cases e
  · rename_i a b
    obtain rfl := (show vx = _ from hx)
    obtain rfl := (show vy = _ from hy)
    have hg : (eqGuard op t ox oy (.string a) (.string b)).run P w = .ok () w := by unfold eqGuard; split <;> simp
    rw [Sem.run_bind, hg, Result.andThen_ok]
    unfold strOp at e
    split at e <;> first | (cases e; done) | (cases e; exact ⟨_, rfl, by simp [binOp, Op.stringOp]⟩)
  · rename_i a
    obtain rfl := (show vy = _ from hy)
    split at e
    · rename_i hs
      obtain ⟨el, hu⟩ := h.ptr t hs
      have hv : ∃ q, vx = .pointer q ∧ q.isNone = a.isNone := by
        cases a with
        | none => exact ⟨none, hx, rfl⟩
        | some q => obtain ⟨p, _, hv⟩ := hx; exact ⟨_, hv, rfl⟩
      obtain ⟨q, rfl, hq⟩ := hv
      have hg : (eqGuard op t ox oy (.pointer q) (.pointer none)).run P w = .ok () w := by unfold eqGuard; split <;> simp
      rw [Sem.run_bind, hg, Result.andThen_ok]
      have hq : (Op.equal t (.pointer q) (.pointer none)).run P w = .ok a.isNone w := by
        rw [← hq, equal_succ]
        exact equalIn_ptr hu _ q w
      rcases eqOut_ok e with ⟨rfl, rfl⟩ | ⟨rfl, rfl⟩
      · exact ⟨_, rfl, by simp [binOp, hq]⟩
      · exact ⟨_, rfl, by simp [binOp, hq]⟩
    · cases e
  · rename_i a n m
    obtain ⟨_, rfl⟩ := (show m = 0 ∧ vy = _ from hy)
    split at e
    · rename_i el hs
      have hv : ∃ q n c, vx = .slice q n c ∧ q.isNone = a.isNone := by
        cases a with
        | none => obtain ⟨_, hv⟩ := (show n = 0 ∧ vx = _ from hx); exact ⟨none, 0, 0, hv, rfl⟩
        | some q => obtain ⟨p, c, _, hv, _⟩ := hx; exact ⟨_, _, _, hv, rfl⟩
      obtain ⟨q, n', c', rfl, hq⟩ := hv
      have hg : (eqGuard op t ox oy (.slice q n' c') (.slice none 0 0)).run P w = .ok () w := by unfold eqGuard; split <;> simp
      rw [Sem.run_bind, hg, Result.andThen_ok]
      have hq : (Op.equal t (.slice q n' c') (.slice none 0 0)).run P w = .ok a.isNone w := by
        rw [← hq, equal_succ]
        exact equalIn_sl (h.sl t el hs) _ q _ _ w
      rcases eqOut_ok e with ⟨rfl, rfl⟩ | ⟨rfl, rfl⟩
      · exact ⟨_, rfl, by simp [binOp, hq]⟩
      · exact ⟨_, rfl, by simp [binOp, hq]⟩
    · cases e
  · obtain ⟨a, c0, rfl⟩ := (show ∃ a c, vx = _ from hx)
    rename_i m
    obtain ⟨_, rfl⟩ := (show m = 0 ∧ vy = _ from hy)
    split at e
    · rename_i el hs
      have hg : (eqGuard op t ox oy (.slice (some a) 0 c0) (.slice none 0 0)).run P w = .ok () w := by unfold eqGuard; split <;> simp
      rw [Sem.run_bind, hg, Result.andThen_ok]
      have hq : (Op.equal t (.slice (some a) 0 c0) (.slice none 0 0)).run P w = .ok false w := by
        rw [equal_succ]
        exact equalIn_sl (h.sl t el hs) _ (some a) _ _ w
      rcases eqOut_ok e with ⟨rfl, rfl⟩ | ⟨rfl, rfl⟩
      · exact ⟨_, rfl, by simp [binOp, hq]⟩
      · exact ⟨_, rfl, by simp [binOp, hq]⟩
    · cases e
  · rename_i xs ys
    obtain ⟨lx, hlx, rfl⟩ := hx
    obtain ⟨ly, hly, rfl⟩ := hy
    split at e
    · rename_i hc
      simp only [Bool.and_eq_true] at hc
      obtain ⟨h1, h2⟩ := hc
      cases hz : zero? E t with
      | none => simp [hz] at h2
      | some z =>
        simp only [hz, Option.any_some] at h2
        cases hb : eqCells xs ys with
        | none => simp [hb] at e
        | some b =>
          simp only [hb, Option.bind_some] at e
          obtain ⟨hg, hq⟩ := h.eq t z h1 hz β xs ys lx ly b h2 hb hlx hly op ox oy w
          rw [Sem.run_bind, hg, Result.andThen_ok]
          rcases eqOut_ok e with ⟨rfl, rfl⟩ | ⟨rfl, rfl⟩
          · exact ⟨_, rfl, by simp [binOp, hq]⟩
          · exact ⟨_, rfl, by simp [binOp, hq]⟩
    · cases e
  · cases e
theorem un_ok {β : Map} {op : UnOp} {x : X} {c : C} {vx : Value} (hx : x.rel β vx) (e : un op x = some c) (w : World) : ∃ u, c.rel β u ∧ (Op.unary op vx).run P w = .ok u w := by
  unfold un at e
  split at e
  · obtain rfl := (show vx = _ from hx)
    cases e
    exact ⟨_, rfl, by simp [Op.unary, Op.intArith]⟩
  · obtain rfl := (show vx = _ from hx)
    cases e
    exact ⟨_, rfl, by simp [Op.unary, Op.intBits]⟩
  · obtain rfl := (show vx = _ from hx)
    cases e
    exact ⟨_, rfl, by simp [Op.unary]⟩
  · cases e
theorem conv_ok (h : TyOk P E) {β : Map} {s d : TypeId} {x : X} {c : C} {vx : Value} (hx : x.rel β vx) (e : conv E s d x = some c) (w : World) : ∃ u, c.rel β u ∧ (convert s d vx).run P w = .ok u w := by
  unfold conv at e
  split at e
  · rename_i h1 h2
    obtain rfl := (show vx = _ from hx)
    cases e
    exact ⟨_, rfl, by simp [convert, run_underlying (h.int _ _ h1), run_underlying (h.int _ _ h2), Conv.intToInt]⟩
  · rename_i h1 h2
    obtain rfl := (show vx = _ from hx)
    cases e
    exact ⟨_, rfl, by simp [convert, run_underlying (h.str _ h1), run_underlying (h.str _ h2)]⟩
  · cases e
theorem foldI_ok {β : Map} {f : Int → Int → Int} {g : Value → Value → Sem Value} (hg : ∀ k a b w, (g (.int k a) (.int k b)).run P w = .ok (.int k (f a b)) w) : ∀ {xs : List X} {vs : List Value} {k : IntKind} {m : Int} {x : X} (w : World), All2 (X.rel β) xs vs → foldI f k m xs = some x → ∃ u, x.rel β u ∧ (vs.foldlM g (.int k m)).run P w = .ok u w
  | [], _, k, m, x, w, .nil, e => by simp [foldI] at e; subst e; exact ⟨_, rfl, by simp⟩
  | y :: xs, _, k, m, x, w, .cons (b := v) hy hr, e => by
    unfold foldI at e
    split at e
    · rename_i hnil; cases hnil
    · rename_i k' n rest hcons
      cases hcons
      split at e
      · rename_i hk
        subst hk
        obtain rfl := (show v = _ from hy)
        obtain ⟨u, hu, hrun⟩ := foldI_ok hg w hr e
        exact ⟨u, hu, by simp only [List.foldlM_cons, Sem.run_bind, hg, Result.andThen_ok]; exact hrun⟩
      · cases e
    · cases e
end Go.V
