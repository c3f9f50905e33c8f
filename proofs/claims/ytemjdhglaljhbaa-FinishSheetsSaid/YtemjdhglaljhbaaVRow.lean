/- From what a call is handed, read as data, to the evaluator's state: whatever is read lies in read-only virtual blocks. -/
import Derived.Test.YtemjdhglaljhbaaVEval
import Derived.WalkKit
import Derived.ProofKit
import Derived.OpenShut
import Derived.ChangeOld
import Derived.Below
import Derived.SizedLaws
import Derived.Deep.Slices
namespace Go.V
open Go.ChangeShapes Go.WideShapes Go.ChangeAt Go.RowKit
variable {H : Type} {enc : TypeId × Value → H} {P : Program} {E : Env} {w : World}

/-! ### Well typed cells -/
set_option linter.unusedVariables false
def DatN (D : List C → Prop) (s : Nat) : Nat → List C → Prop
  | 0, cs => cs = []
  | n + 1, cs => ∃ a b, cs = a ++ b ∧ a.length = s ∧ D a ∧ DatN D s n b
def DatF (D : TypeId → List C → Prop) (size : TypeId → Option Nat) : List (Nat × TypeId) → List C → Prop
  | [], cs => cs = []
  | f :: fs, cs => ∃ a b, cs = a ++ b ∧ size f.2 = some a.length ∧ D f.2 a ∧ DatF D size fs b
/-- Cells that are a value of this type, with what its slices lead to. -/
def Dat (E : Env) (S : St) : Nat → TypeId → List C → Prop
  | 0, _, _ => False
  | d + 1, t, cs =>
    match E.sh t with
    | some (.int k) => ∃ n, cs = [.int k n] ∧ (Lit.int k n).wf = true
    | some .bool => ∃ b, cs = [.bool b]
    | some .string => ∃ s, cs = [.str s] ∧ s.size ≤ reachBytes
    | some (.slice e) => ∃ c n es i, cs = [c] ∧ E.ti e = some i ∧ Sl S i.size c es n ∧ n * i.bytes ≤ reachBytes ∧ n ≤ maxLen ∧ DatN (Dat E S d e) i.size n es
    | some (.array n e) => ∃ s, size? E e = some s ∧ DatN (Dat E S d e) s n cs
    | some (.struct fs) => DatF (Dat E S d) (size? E) fs cs
    | _ => False
/-- Do the fields lie one behind the other, from here on? -/
def inRow (E : Env) : Nat → List (Nat × TypeId) → Option Nat
  | k, [] => some k
  | k, f :: fs => if f.1 = k then (size? E f.2).bind fun s => inRow E (k + s) fs else none
/-- A type that is read so. -/
def datOk (E : Env) : Nat → TypeId → Bool
  | 0, _ => false
  | d + 1, t =>
    match E.sh t with
    | some (.int _) | some .bool | some .string => true
    | some (.slice e) => (match E.ti e with | some i => decide (0 < i.size) | none => false) && datOk E d e
    | some (.array n e) => (match E.ti t, E.ti e with | some i, some j => i.size == n * j.size | _, _ => false) && datOk E d e
    | some (.struct fs) => (match E.ti t with | some i => inRow E 0 fs == some i.size | none => false) && fs.all fun f => datOk E d f.2
    | _ => false

/-! ### States that go on -/
structure Ext (S S' : St) : Prop where
  n : S.n ≤ S'.n
  h : ∀ i, i < S.n → S'.h i = S.h i
theorem Ext.refl (S : St) : Ext S S := ⟨Nat.le_refl _, fun _ _ => rfl⟩
theorem Ext.trans {a b c : St} (h : Ext a b) (h' : Ext b c) : Ext a c := ⟨Nat.le_trans h.n h'.n, fun i hi => (h'.h i (Nat.lt_of_lt_of_le hi h.n)).trans (h.h i hi)⟩
theorem DatN.mono {D D' : List C → Prop} {s : Nat} (hd : ∀ a, D a → D' a) : ∀ {n : Nat} {cs : List C}, DatN D s n cs → DatN D' s n cs
  | 0, _, h => h
  | n + 1, _, ⟨a, b, h1, h2, h3, h4⟩ => ⟨a, b, h1, h2, hd _ h3, DatN.mono hd h4⟩
theorem DatF.mono {D D' : TypeId → List C → Prop} {size : TypeId → Option Nat} (hd : ∀ t a, D t a → D' t a) : ∀ {fs : List (Nat × TypeId)} {cs : List C}, DatF D size fs cs → DatF D' size fs cs
  | [], _, h => h
  | f :: fs, _, ⟨a, b, h1, h2, h3, h4⟩ => ⟨a, b, h1, h2, hd _ _ h3, DatF.mono hd h4⟩
theorem Dat.mono {S S' : St} (h : Ext S S') : ∀ {d : Nat} {t : TypeId} {cs : List C}, Dat E S d t cs → Dat E S' d t cs
  | 0, _, _, hd => hd
  | d + 1, t, cs, hd => by
    unfold Dat at hd ⊢
    split at hd
    · exact hd
    · exact hd
    · exact hd
    · obtain ⟨c, n, es, i, h1, h2, h3, h4, h5, h6⟩ := hd
      exact ⟨c, n, es, i, h1, h2, h3.mono h.n h.h, h4, h5, h6.mono fun a => Dat.mono h⟩
    · obtain ⟨s, h1, h2⟩ := hd
      exact ⟨s, h1, h2.mono fun a => Dat.mono h⟩
    · exact DatF.mono (fun t a => Dat.mono h) hd
    · exact hd
/-- A state all of whose blocks are read alone. -/
structure Ro (β : Map) (S : St) (w : World) : Prop where
  rel : Rel β S w
  ok : S.ok
  ro : ∀ i b, S.h i = some b → b.wr = false
theorem Ro.new {β : Map} {S : St} (h : Ro β S w) {p : Pl} {b : Blk} (hb : b.rel β w p) (hw : b.wr = false) :
    ∃ β', β' S.n = some p ∧ Map.le β β' ∧ Ro β' (S.new b) w := by
  obtain ⟨hr, hok, hro⟩ := h
  have hn : β S.n = none := by
    cases e : β S.n with
    | none => rfl
    | some p => exact absurd (hr.dom _ _ e) (Nat.lt_irrefl _)
  have hle : Map.le β (fun i => if i = S.n then some p else β i) := fun i q e => by
    have : i ≠ S.n := fun e' => by rw [e', hn] at e; cases e
    simp [this, e]
  refine ⟨fun i => if i = S.n then some p else β i, by simp, hle, ⟨⟨?_, ?_, ?_, ?_⟩, ?_, ?_⟩⟩
  · intro i q e
    show i < S.n + 1
    by_cases hi : i = S.n
    · omega
    · simp [hi] at e; have := hr.dom i q e; omega
  · intro i hi
    have hi : S.n + 1 ≤ i := hi
    show (if i = S.n then some b else S.h i) = none
    rw [if_neg (by omega)]
    exact hr.ok i (by omega)
  · intro i q b' hp hb'
    have hb' : (if i = S.n then some b else S.h i) = some b' := hb'
    by_cases hi : i = S.n
    · simp [hi] at hp hb'
      subst hp; subst hb'
      exact Blk.rel_mono hle hb rfl
    · simp [hi] at hp hb'
      exact Blk.rel_mono hle (hr.blk i q b' hp hb') rfl
  · intro i j q q' b1 b2 hij hq hq' h1 h2 hwr
    have h1 : (if i = S.n then some b else S.h i) = some b1 := h1
    by_cases hi : i = S.n
    · simp [hi] at h1
      subst h1
      rw [hw] at hwr
      cases hwr
    · simp [hi] at h1
      rw [hro i b1 h1] at hwr
      cases hwr
  · obtain ⟨h1, h2⟩ := hok
    refine ⟨Nat.le_succ_of_le h1, fun i hi => ?_⟩
    have hi : S.n + 1 ≤ i := hi
    show (if i = S.n then some b else S.h i) = none
    rw [if_neg (by omega)]
    exact h2 i (by omega)
  · intro i b' hb'
    have hb' : (if i = S.n then some b else S.h i) = some b' := hb'
    by_cases hi : i = S.n
    · simp [hi] at hb'; subst hb'; exact hw
    · simp [hi] at hb'; exact hro i b' hb'
theorem Ext.new {S : St} (b : Blk) : Ext S (S.new b) := ⟨Nat.le_succ _, fun i hi => by
  show (if i = S.n then some b else S.h i) = S.h i
  rw [if_neg (by omega)]⟩
theorem DatN.length {D : List C → Prop} {s : Nat} : ∀ {n : Nat} {cs : List C}, DatN D s n cs → cs.length = n * s
  | 0, _, h => by cases h; simp
  | n + 1, _, ⟨a, b, h1, h2, h3, h4⟩ => by
    subst h1
    rw [List.length_append, h2, h4.length, Nat.succ_mul, Nat.add_comm]

/-! ### Reading -/
theorem cells_at {s : Nat} {a : Addr} {cs' : List Value} (hs : 0 < s) (h : w.cells? 0 a s = some cs') : ∃ cs ty fz, w.heap[a.block]? = some (.cells cs ty fz) ∧ a.spot = none := by
  unfold World.cells? at h
  rw [if_pos (Nat.zero_le _)] at h
  obtain ⟨s, rfl⟩ : ∃ m, s = m + 1 := ⟨s - 1, by omega⟩
  rw [List.range_succ_eq_map] at h
  simp only [List.mapM_cons, Option.bind_eq_bind] at h
  obtain ⟨v, hv, _⟩ := bind_some h
  have hv : w.cell? a = some v := by simpa [Addr.add] using hv
  unfold World.cell? at hv
  split at hv
  · rename_i c ty fz hh
    split at hv
    · cases hv
    · rename_i hsp
      exact ⟨c, ty, fz, hh, by simpa using hsp⟩
  · cases hv
theorem mapM_get {α β : Type} {f : α → Option β} : ∀ (as : List α) (l : List β), as.mapM f = some l → l.length = as.length ∧ ∀ (i : Nat) a, as[i]? = some a → f a = l[i]?
  | [], l, h => by simp at h; subst h; exact ⟨rfl, fun i a hi => by simp at hi⟩
  | a :: as, l, h => by
    rw [List.mapM_cons] at h
    simp only [Option.bind_eq_bind] at h
    obtain ⟨v, hv, h⟩ := bind_some h
    obtain ⟨l', hl, h⟩ := bind_some h
    cases h
    obtain ⟨h1, h2⟩ := mapM_get as l' hl
    refine ⟨by simp [h1], fun i b hi => ?_⟩
    cases i with
    | zero => simp at hi; subst hi; simpa using hv
    | succ i => simpa using h2 i b (by simpa using hi)
theorem mapM_range_get {α : Type} {f : Nat → Option α} (n : Nat) (l : List α) (h : (List.range n).mapM f = some l) : l.length = n ∧ ∀ i, i < n → f i = l[i]? := by
  obtain ⟨h1, h2⟩ := mapM_get _ _ h
  exact ⟨by simpa using h1, fun i hi => h2 i i (by simp [hi])⟩
theorem cells_val {s b o : Nat} {cs' : List Value} {cs : Array Value} {ty : TypeId} {fz : Nat × Nat} (hh : w.heap[b]? = some (.cells cs ty fz)) (h : w.cells? 0 ⟨b, o, none⟩ s = some cs') : cs'.length = s ∧ ∀ i, i < s → cs[o + i]? = cs'[i]? := by
  unfold World.cells? at h
  rw [if_pos (Nat.zero_le _)] at h
  obtain ⟨h1, h2⟩ := mapM_range_get s cs' h
  refine ⟨h1, fun i hi => ?_⟩
  rw [← h2 i hi, add_eq _ _ rfl]
  simp [World.cell?, hh]
theorem weights_all {e : TypeId} : ∀ {ds : List (DataW H)}, (DataW.weightsAll P e ds).all (· ≤ reachBytes) = true → ∀ d ∈ ds, (d.weights P e).all (· ≤ reachBytes) = true
  | [], _, d, h => by cases h
  | x :: r, h, d, hd => by
    simp only [DataW.weightsAll, List.all_append, Bool.and_eq_true] at h
    rcases List.mem_cons.1 hd with rfl | hd
    · exact h.1
    · exact weights_all h.2 d hd
def DatGoal (E : Env) (w : World) (β : Map) (S : St) (d : Nat) (t : TypeId) (vs : List Value) : Prop :=
  ∃ β' S' cs, Ext S S' ∧ Ro β' S' w ∧ Map.le β β' ∧ All2 (C.rel β') cs vs ∧ Dat E S' d t cs
/-- Elements one behind the other. -/
theorem dat_rows {d s : Nat} {e : TypeId} (ih : ∀ vs x fuel, DataW.trod enc P w 0 (fun _ => true) true fuel e vs = some x → (x.1.weights P e).all (· ≤ reachBytes) = true → ∀ β S, Ro β S w → DatGoal E w β S d e vs) :
    ∀ (n : Nat) (V : Nat → List Value) (D : Nat → DataW H × List MemPlace) (fuel : Nat → Nat), (∀ j, j < n → (V j).length = s ∧ DataW.trod enc P w 0 (fun _ => true) true (fuel j) e (V j) = some (D j) ∧ ((D j).1.weights P e).all (· ≤ reachBytes) = true) → ∀ β S, Ro β S w →
      ∃ β' S' es, Ext S S' ∧ Ro β' S' w ∧ Map.le β β' ∧ All2 (C.rel β') es ((List.range n).flatMap V) ∧ DatN (Dat E S' d e) s n es
  | 0, V, D, fuel, _, β, S, hro => ⟨β, S, [], .refl _, hro, Map.le_refl _, .nil, rfl⟩
  | n + 1, V, D, fuel, h, β, S, hro => by
    obtain ⟨h1, h2, h3⟩ := h 0 (by omega)
    obtain ⟨β1, S1, a, e1, r1, l1, a1, d1⟩ := ih _ _ _ h2 h3 β S hro
    obtain ⟨β2, S2, b, e2, r2, l2, a2, d2⟩ := dat_rows ih n (fun j => V (j + 1)) (fun j => D (j + 1)) (fun j => fuel (j + 1)) (fun j hj => h (j + 1) (by omega)) β1 S1 r1
    refine ⟨β2, S2, a ++ b, e1.trans e2, r2, Map.le_trans l1 l2, ?_, a, b, rfl, by rw [← h1]; exact a1.length, Dat.mono e2 d1, d2⟩
    rw [List.range_succ_eq_map, List.flatMap_cons, List.flatMap_map]
    exact (a1.mono fun _ _ => C.rel_mono l2).append a2
theorem drop_take_split {α : Type} (l : List α) (s : Nat) : l = l.take s ++ l.drop s := (List.take_append_drop s l).symm
theorem dat_fields (hT : TyOk P E) {d : Nat} (ih : ∀ t vs x fuel, datOk E d t = true → DataW.trod enc P w 0 (fun _ => true) true fuel t vs = some x → (x.1.weights P t).all (· ≤ reachBytes) = true → ∀ β S, Ro β S w → DatGoal E w β S d t vs) :
    ∀ (gs : List Field) (fs : List (Nat × TypeId)) (k tot fuel : Nat) (vs : List Value) (xs : List (DataW H × List MemPlace)), gs.map (fun g => (g.offset, g.type)) = fs → inRow E k fs = some tot → vs.length = tot → (fs.all fun f => datOk E d f.2) = true →
      xs.length = gs.length → (∀ (i : Nat) f, gs[i]? = some f → DataW.trod enc P w 0 (fun _ => true) true fuel f.type ((vs.drop f.offset).take (P.cellsOf f.type)) = xs[i]?) → (DataW.weightsEach P (gs.map (·.type)) (xs.map (·.1))).all (· ≤ reachBytes) = true → ∀ β S, Ro β S w →
      ∃ β' S' cs, Ext S S' ∧ Ro β' S' w ∧ Map.le β β' ∧ All2 (C.rel β') cs (vs.drop k) ∧ DatF (Dat E S' d) (size? E) fs cs
  | [], fs, k, tot, fuel, vs, xs, hf, hr, hl, _, _, _, _, β, S, hro => by
    cases hf
    simp only [List.map_nil, inRow, Option.some.injEq] at hr
    subst hr
    refine ⟨β, S, [], .refl _, hro, Map.le_refl _, ?_, rfl⟩
    rw [List.drop_eq_nil_of_le (by omega)]
    exact .nil
  | g :: gs, fs, k, tot, fuel, vs, [], hf, hr, hl, hok, hxl, hm, hw, β, S, hro => by simp at hxl
  | g :: gs, fs, k, tot, fuel, vs, x :: xs, hf, hr, hl, hok, hxl, hm, hw, β, S, hro => by
    cases hf
    simp only [List.map_cons, inRow] at hr
    split at hr
    · rename_i hk
      obtain ⟨s, hs, hr⟩ := bind_some hr
      simp only [List.map_cons, List.all_cons, Bool.and_eq_true] at hok
      have hx := hm 0 g rfl
      simp only [List.map_cons, DataW.weightsEach, List.all_append, Bool.and_eq_true] at hw
      have hsz : P.cellsOf g.type = s := by
        unfold size? at hs
        obtain ⟨i, hi, rfl⟩ := map_some hs
        obtain ⟨info, z, dd, h1, h2, _⟩ := hT.ti g.type i hi
        simp [Program.cellsOf, h1, h2]
      have hge : ∀ (fs : List (Nat × TypeId)) (k tot : Nat), inRow E k fs = some tot → k ≤ tot := by
        intro fs
        induction fs with
        | nil => intro k tot h; simp only [inRow, Option.some.injEq] at h; omega
        | cons f fs ih =>
          intro k tot h
          simp only [inRow] at h
          split at h
          · obtain ⟨s, _, h⟩ := bind_some h
            have := ih _ _ h
            omega
          · cases h
      have hle := hge _ _ _ hr
      rw [hsz, hk] at hx
      obtain ⟨β1, S1, a, e1, r1, l1, a1, d1⟩ := ih _ _ _ _ hok.1 hx hw.1 β S hro
      obtain ⟨β2, S2, b, e2, r2, l2, a2, d2⟩ := dat_fields hT ih gs _ (k + s) tot fuel vs xs rfl hr hl hok.2 (by simpa using hxl) (fun i f hi => hm (i + 1) f (by simpa using hi)) hw.2 β1 S1 r1
      refine ⟨β2, S2, a ++ b, e1.trans e2, r2, Map.le_trans l1 l2, ?_, a, b, rfl, ?_, Dat.mono e2 d1, d2⟩
      · rw [drop_take_split (vs.drop k) s, List.drop_drop]
        exact (a1.mono fun _ _ => C.rel_mono l2).append a2
      · have := a1.length
        rw [List.length_take, List.length_drop] at this
        show size? E g.type = some a.length
        rw [hs, this, Nat.min_eq_left (by omega)]
    · cases hr
theorem flat_get {V : Nat → List Value} {s : Nat} : ∀ (n : Nat), (∀ j, j < n → (V j).length = s) → ∀ (j : Nat) v, ((List.range n).flatMap V)[j]? = some v → ∃ i r, i < n ∧ r < s ∧ j = i * s + r ∧ (V i)[r]? = some v
  | 0, _, j, v, h => by simp at h
  | n + 1, hV, j, v, h => by
    have hlen : ((List.range n).flatMap V).length = n * s := by
      have : ∀ m, m ≤ n → ((List.range m).flatMap V).length = m * s := by
        intro m
        induction m with
        | zero => intro _; simp
        | succ m ih =>
          intro hm
          rw [List.range_succ, List.flatMap_append, List.length_append, ih (by omega)]
          simp [hV m (by omega), Nat.succ_mul]
      exact this n (Nat.le_refl _)
    rw [List.range_succ, List.flatMap_append] at h
    by_cases hj : j < n * s
    · rw [List.getElem?_append_left (by omega)] at h
      obtain ⟨i, r, h1, h2, h3, h4⟩ := flat_get (s := s) n (fun j hj => hV j (Nat.lt_succ_of_lt hj)) j v h
      exact ⟨i, r, by omega, h2, h3, h4⟩
    · rw [List.getElem?_append_right (by omega), hlen] at h
      simp only [List.flatMap_cons, List.flatMap_nil, List.append_nil] at h
      have := (List.getElem?_eq_some_iff.1 h).1
      have hVn := hV n (Nat.lt_succ_self _)
      rw [hVn] at this
      exact ⟨n, j - n * s, by omega, this, by omega, h⟩
theorem flat_parts {s : Nat} : ∀ (n : Nat) (vs : List Value), vs.length = n * s → (List.range n).flatMap (fun j => (vs.drop (j * s)).take s) = vs
  | 0, vs, h => by simp at h; simp [h]
  | n + 1, vs, h => by
    rw [List.range_succ_eq_map, List.flatMap_cons, List.flatMap_map]
    have := flat_parts (s := s) n (vs.drop s) (by rw [List.length_drop, h, Nat.succ_mul]; omega)
    have he : (fun j : Nat => (vs.drop ((j + 1) * s)).take s) = fun j => ((vs.drop s).drop (j * s)).take s := by
      funext j
      rw [List.drop_drop, Nat.succ_mul, Nat.add_comm]
    simp only [Nat.succ_eq_add_one, Nat.zero_mul, List.drop_zero]
    rw [he, this]
    exact List.take_append_drop s vs
theorem cellsOf_ti (hT : TyOk P E) {t : TypeId} {i : Ti} (h : E.ti t = some i) : P.cellsOf t = i.size ∧ P.bytesOf t = i.bytes := by
  obtain ⟨info, z, dd, h1, h2, h3, _⟩ := hT.ti t i h
  simp [Program.cellsOf, Program.bytesOf, h1, h2, h3]
theorem dat_of (hT : TyOk P E) : ∀ d t vs x fuel, datOk E d t = true → DataW.trod enc P w 0 (fun _ => true) true fuel t vs = some x → (x.1.weights P t).all (· ≤ reachBytes) = true → ∀ β S, Ro β S w → DatGoal E w β S d t vs
  | 0, t, vs, x, fuel, hd, _, _, _, _, _ => by cases hd
  | d + 1, t, vs, x, fuel, hd, h, hw, β, S, hro => by
    unfold datOk at hd
    split at hd
    · rename_i k hsh
      obtain ⟨n, rfl, _, hk⟩ := DataW.trod_int (hT.int t k hsh) h
      refine ⟨β, S, [.int k n], .refl _, hro, Map.le_refl _, .cons rfl .nil, ?_⟩
      unfold Dat
      rw [hsh]
      exact ⟨n, rfl, hk⟩
    · rename_i hsh
      obtain ⟨b, rfl, _⟩ := DataW.trod_bool (hT.bool t hsh) h
      refine ⟨β, S, [.bool b], .refl _, hro, Map.le_refl _, .cons rfl .nil, ?_⟩
      unfold Dat
      rw [hsh]
      exact ⟨b, rfl⟩
    · rename_i hsh
      obtain ⟨b, rfl, rfl, _⟩ := DataW.trod_string (hT.str t hsh) h
      refine ⟨β, S, [.str b], .refl _, hro, Map.le_refl _, .cons rfl .nil, ?_⟩
      unfold Dat
      rw [hsh]
      refine ⟨b, rfl, ?_⟩
      simp [DataW.weights] at hw
      exact hw
    · rename_i e hsh
      simp only [Bool.and_eq_true] at hd
      obtain ⟨hi, hde⟩ := hd
      have hu := hT.sl t e hsh
      split at hi
      · rename_i i hti
        have hpos : 0 < i.size := by simpa using hi
        obtain ⟨hcs, hby⟩ := cellsOf_ti hT hti
        rcases Go.Deep.open_slice hu h with ⟨rfl, _⟩ | ⟨a, len, cap, m, n, D, Pl, rfl, _, hlc, hcm, hm, rfl, hel⟩
        · refine ⟨β, S, [.sl none 0], .refl _, hro, Map.le_refl _, .cons ⟨rfl, rfl⟩ .nil, ?_⟩
          unfold Dat
          rw [hsh]
          exact ⟨_, 0, [], i, rfl, hti, ⟨by simp [rdCells], rfl, by simp, fun _ _ _ e => by cases e⟩, by simp, by simp, rfl⟩
        · simp only [if_true] at hm
          subst hm
          rw [hcs] at hel
          simp only [DataW.weights, hu, List.all_cons, List.all_append, Bool.and_eq_true, decide_eq_true_eq] at hw
          obtain ⟨hw1, hw2, _⟩ := hw
          have hlb : len * i.bytes ≤ reachBytes := by
            rw [hby] at hw1
            simp at hw1
            exact Nat.le_trans (Nat.mul_le_mul_right _ (by omega)) hw1
          by_cases hz : len = 0
          · subst hz
            refine ⟨β, S, [.em], .refl _, hro, Map.le_refl _, .cons ⟨a, m, rfl⟩ .nil, ?_⟩
            unfold Dat
            rw [hsh]
            exact ⟨_, 0, [], i, rfl, hti, ⟨by simp [rdCells], rfl, by simp, fun _ _ _ e => by cases e⟩, by simp, by simp, rfl⟩
          · obtain ⟨cs0, hc0, _⟩ := hel 0 (by omega)
            have hc0 : w.cells? 0 a i.size = some cs0 := by simpa [Addr.add] using hc0
            obtain ⟨cs, ty, fz, hh, hsp⟩ := cells_at hpos hc0
            obtain ⟨ab, ao, asp⟩ := a
            obtain rfl : asp = none := hsp
            have hadd : ∀ j, (Addr.add ⟨ab, ao, none⟩ j) = ⟨ab, ao + j, none⟩ := fun j => add_eq _ _ rfl
            let V : Nat → List Value := fun j => (w.cells? 0 ⟨ab, ao + j * i.size, none⟩ i.size).getD []
            have hV : ∀ j, j < m → w.cells? 0 ⟨ab, ao + j * i.size, none⟩ i.size = some (V j) ∧ DataW.trod enc P w 0 (fun _ => true) true n e (V j) = some (D j, Pl j) := by
              intro j hj
              obtain ⟨cs', h1, h2⟩ := hel j hj
              rw [hadd] at h1
              have : V j = cs' := by simp [V, h1]
              rw [this]
              exact ⟨h1, h2⟩
            have hlen : ∀ j, j < m → (V j).length = i.size := fun j hj => (cells_val hh (hV j hj).1).1
            have hwe : ∀ j, j < len → ((D j).weights P e).all (· ≤ reachBytes) = true := fun j hj => weights_all hw2 _ (List.mem_map.2 ⟨j, List.mem_range.2 hj, rfl⟩)
            obtain ⟨β1, S1, es, e1, r1, l1, a1, d1⟩ := dat_rows (s := i.size) (fun vs x fuel h1 h2 => dat_of hT d e vs x fuel hde h1 h2) len V (fun j => (D j, Pl j)) (fun _ => n) (fun j hj => ⟨hlen j (by omega), (hV j (by omega)).2, hwe j hj⟩) β S hro
            have hes := d1.length
            have hblk : Blk.rel β1 w ⟨ab, ao, none⟩ ⟨es, none, false⟩ := by
              refine ⟨cs, ty, fz, hh, fun j c hj => ?_, ⟨(fun hx => by cases hx), (fun s hx => by cases hx)⟩⟩
              obtain ⟨v, hv, hr⟩ := a1.get j c hj
              obtain ⟨i', r, h1, h2, h3, h4⟩ := flat_get len (fun j hj => hlen j (by omega)) j v hv
              refine ⟨v, ?_, hr⟩
              have := (cells_val hh (hV i' (by omega)).1).2 r h2
              rw [h4] at this
              rw [h3, ← Nat.add_assoc]
              exact this
            obtain ⟨β2, hb2, l2, r2⟩ := r1.new hblk rfl
            refine ⟨β2, S1.new ⟨es, none, false⟩, [.sl (some (S1.n, 0)) len], e1.trans (.new _), r2, Map.le_trans l1 l2, .cons ⟨⟨ab, ao, none⟩, m, hb2, rfl, hlc, fun _ _ _ hx => by cases hx⟩ .nil, ?_⟩
            unfold Dat
            rw [hsh]
            refine ⟨_, len, es, i, rfl, hti, ⟨?_, rfl, hes, fun i' o' m' hx => ?_⟩, hlb, by omega, d1.mono fun a => Dat.mono (.new _)⟩
            · have : (S1.new ⟨es, none, false⟩).h S1.n = some ⟨es, none, false⟩ := by simp [St.new]
              simp only [rdCells, this, Option.bind_some]
              rw [if_pos (by simp [hes])]
              simp [← hes]
            · cases hx
              exact Nat.lt_succ_self _
      · cases hi
    · rename_i n e hsh
      simp only [Bool.and_eq_true] at hd
      obtain ⟨hi, hde⟩ := hd
      have hu := hT.ar t n e hsh
      split at hi
      · rename_i i j hti hte
        have hsz : i.size = n * j.size := by simpa using hi
        obtain ⟨hct, _⟩ := cellsOf_ti hT hti
        obtain ⟨hce, _⟩ := cellsOf_ti hT hte
        obtain ⟨xs, m, rfl, rfl, hl, hxl, hx⟩ := DataW.trod_array hu h
        rw [hct, hsz] at hl
        rw [hce] at hx
        simp only [DataW.weights, hu] at hw
        have hval : ∀ k, k < n → xs[k]? = some (xs.getD k (.nil, [])) := fun k hk => by
          rw [List.getElem?_eq_getElem (by omega)]
          simp [List.getD, List.getElem?_eq_getElem (show k < xs.length by omega)]
        have hparts : ∀ k, k < n → ((vs.drop (k * j.size)).take j.size).length = j.size ∧ DataW.trod enc P w 0 (fun _ => true) true m e ((vs.drop (k * j.size)).take j.size) = some (xs.getD k (.nil, [])) ∧ ((xs.getD k (.nil, [])).1.weights P e).all (· ≤ reachBytes) = true := by
          intro k hk
          refine ⟨?_, by rw [hx k hk, hval k hk], ?_⟩
          · have : k * j.size + j.size ≤ n * j.size := by
              rw [← Nat.succ_mul]
              exact Nat.mul_le_mul_right _ hk
            rw [List.length_take, List.length_drop, hl]
            exact Nat.min_eq_left (by omega)
          · exact weights_all hw _ (List.mem_map.2 ⟨xs.getD k (.nil, []), List.mem_of_getElem? (hval k hk), rfl⟩)
        obtain ⟨β1, S1, es, e1, r1, l1, a1, d1⟩ := dat_rows (s := j.size) (fun vs x fuel h1 h2 => dat_of hT d e vs x fuel hde h1 h2) n (fun k => (vs.drop (k * j.size)).take j.size) (fun k => xs.getD k (.nil, [])) (fun _ => m) hparts β S hro
        rw [flat_parts (s := j.size) n vs hl] at a1
        refine ⟨β1, S1, es, e1, r1, l1, a1, ?_⟩
        unfold Dat
        rw [hsh]
        exact ⟨j.size, by simp [size?, hte], d1⟩
      · cases hi
    · rename_i fs hsh
      simp only [Bool.and_eq_true] at hd
      obtain ⟨hi, hall⟩ := hd
      obtain ⟨gs, hu, hgs⟩ := hT.st t fs hsh
      split at hi
      · rename_i i hti
        have hrow : inRow E 0 fs = some i.size := by simpa using hi
        obtain ⟨hct, _⟩ := cellsOf_ti hT hti
        obtain ⟨xs, m, rfl, rfl, hl, hxl, hx⟩ := DataW.trod_struct hu h
        rw [hct] at hl
        simp only [DataW.weights, hu] at hw
        obtain ⟨β1, S1, cs, e1, r1, l1, a1, d1⟩ := dat_fields hT (fun t vs x fuel => dat_of hT d t vs x fuel) gs.toList fs 0 i.size m vs xs hgs hrow hl hall (by simpa using hxl) (fun k f hk => hx k f (by simpa using hk)) hw β S hro
        refine ⟨β1, S1, cs, e1, r1, l1, by simpa using a1, ?_⟩
        unfold Dat
        rw [hsh]
        exact d1
      · cases hi
    · cases hd
/-! ### A law's row -/
/-- Values of these types. -/
def DatX (E : Env) (S : St) (d : Nat) (t : TypeId) (x : X) : Prop :=
  match E.sh t with
  | some (.struct _) | some (.array _ _) => ∃ cs, x = .a cs ∧ Dat E S d t cs
  | _ => ∃ c, x = .c c ∧ Dat E S d t [c]
def DatAll (E : Env) (S : St) (d : Nat) : List TypeId → List X → Prop
  | [], [] => True
  | t :: ts, x :: xs => DatX E S d t x ∧ DatAll E S d ts xs
  | _, _ => False
theorem DatX.mono {S S' : St} (h : Ext S S') {d : Nat} {t : TypeId} {x : X} (hx : DatX E S d t x) : DatX E S' d t x := by
  unfold DatX at hx ⊢
  split at hx
  · obtain ⟨cs, h1, h2⟩ := hx; exact ⟨cs, h1, h2.mono h⟩
  · obtain ⟨cs, h1, h2⟩ := hx; exact ⟨cs, h1, h2.mono h⟩
  · obtain ⟨cs, h1, h2⟩ := hx; exact ⟨cs, h1, h2.mono h⟩
theorem DatAll.mono {S S' : St} (h : Ext S S') {d : Nat} : ∀ {ts : List TypeId} {xs : List X}, DatAll E S d ts xs → DatAll E S' d ts xs
  | [], [], _ => trivial
  | _ :: _, _ :: _, ⟨h1, h2⟩ => ⟨h1.mono h, DatAll.mono h h2⟩
  | [], _ :: _, hx => hx.elim
  | _ :: _, [], hx => hx.elim
theorem All2.snoc_inv {β : Map} {cs : List C} {v : Value} (h : All2 (C.rel β) cs [v]) : ∃ c, cs = [c] ∧ c.rel β v := by
  cases h with
  | cons h t => cases t; exact ⟨_, rfl, h⟩
theorem dat_val (hT : TyOk P E) {d base : Nat} {t : TypeId} {v : Value} {x : DataW H} {ps : List MemPlace} (hd : datOk E d t = true) (hval : Value.okWide P w .any base t v) (h : DataW.Trod enc P w 0 (fun _ => true) true t v x ps) (hw : (x.weights P t).all (· ≤ reachBytes) = true) {β : Map} {S : St} (hro : Ro β S w) :
    ∃ β' S' y, Ext S S' ∧ Ro β' S' w ∧ Map.le β β' ∧ X.rel β' y v ∧ DatX E S' d t y := by
  obtain ⟨fuel, h⟩ := h
  obtain ⟨β', S', cs, e1, r1, l1, a1, d1⟩ := dat_of hT d t _ _ fuel hd h hw β S hro
  have hsingle : ∀ v', v.cells.toList = [v'] → v = v' → ∃ c, cs = [c] ∧ c.rel β' v := by
    rintro v' h1 rfl
    rw [h1] at a1
    exact a1.snoc_inv
  have hone : (∀ cs, v ≠ .agg cs) → ∃ c, cs = [c] ∧ c.rel β' v := fun hna => by
    refine hsingle v ?_ rfl
    unfold Value.cells
    split
    · rename_i cs; exact absurd rfl (hna cs)
    · rfl
  have hagg : ∀ vs, v = .agg vs → X.rel β' (.a cs) v := by
    rintro vs rfl
    exact ⟨vs.toList, a1, by simp⟩
  unfold datOk at hd
  cases d with
  | zero => cases hd
  | succ d =>
  simp only at hd
  split at hd
  · rename_i k hsh
    have hna : ∀ cs, v ≠ .agg cs := by
      rintro cs rfl
      simp [Value.okWide, hT.int t k hsh, Cell.okWide, Cell.ok] at hval
    obtain ⟨c, rfl, hc⟩ := hone hna
    exact ⟨β', S', .c c, e1, r1, l1, hc, by simp only [DatX, hsh]; exact ⟨c, rfl, d1⟩⟩
  · rename_i hsh
    have hna : ∀ cs, v ≠ .agg cs := by
      rintro cs rfl
      simp [Value.okWide, hT.bool t hsh, Cell.okWide, Cell.ok] at hval
    obtain ⟨c, rfl, hc⟩ := hone hna
    exact ⟨β', S', .c c, e1, r1, l1, hc, by simp only [DatX, hsh]; exact ⟨c, rfl, d1⟩⟩
  · rename_i hsh
    have hna : ∀ cs, v ≠ .agg cs := by
      rintro cs rfl
      simp [Value.okWide, hT.str t hsh, Cell.okWide, Cell.ok] at hval
    obtain ⟨c, rfl, hc⟩ := hone hna
    exact ⟨β', S', .c c, e1, r1, l1, hc, by simp only [DatX, hsh]; exact ⟨c, rfl, d1⟩⟩
  · rename_i e hsh
    have hna : ∀ cs, v ≠ .agg cs := by
      rintro cs rfl
      simp [Value.okWide, hT.sl t e hsh, Cell.okWide, Cell.ok] at hval
    obtain ⟨c, rfl, hc⟩ := hone hna
    exact ⟨β', S', .c c, e1, r1, l1, hc, by simp only [DatX, hsh]; exact ⟨c, rfl, d1⟩⟩
  · rename_i n e hsh
    simp only [Value.okWide, hT.ar t n e hsh] at hval
    obtain ⟨vs, hv, _⟩ := hval
    exact ⟨β', S', .a cs, e1, r1, l1, hagg vs hv, by simp only [DatX, hsh]; exact ⟨cs, rfl, d1⟩⟩
  · rename_i fs hsh
    obtain ⟨gs, hu, _⟩ := hT.st t fs hsh
    simp only [Value.okWide, hu] at hval
    obtain ⟨vs, hv, _⟩ := hval
    exact ⟨β', S', .a cs, e1, r1, l1, hagg vs hv, by simp only [DatX, hsh]; exact ⟨cs, rfl, d1⟩⟩
  · cases hd
theorem dat_args (hT : TyOk P E) {d : Nat} {base : Nat} : ∀ {ts : List TypeId} {vs : List Value} {ds : List (DataW H)} {ps : List MemPlace}, (ts.all fun t => datOk E d t) = true → (∀ (j : Nat) t v, ts[j]? = some t → vs[j]? = some v → Value.okWide P w .any base t v) →
    DataW.TrodAll enc P w 0 (fun _ => true) true ts vs ds ps → (DataW.weightsEach P ts ds).all (· ≤ reachBytes) = true → ∀ β S, Ro β S w → ∃ β' S' xs, Ext S S' ∧ Ro β' S' w ∧ Map.le β β' ∧ All2 (X.rel β') xs vs ∧ DatAll E S' d ts xs
  | [], [], [], ps, _, _, _, _, β, S, hro => ⟨β, S, [], .refl _, hro, Map.le_refl _, .nil, trivial⟩
  | t :: ts, v :: vs, x :: ds, ps, hd, hval, h, hw, β, S, hro => by
    obtain ⟨p, q, h1, h2, _⟩ := h
    simp only [List.all_cons, Bool.and_eq_true] at hd
    simp only [DataW.weightsEach, List.all_append, Bool.and_eq_true] at hw
    obtain ⟨β1, S1, y, e1, r1, l1, a1, d1⟩ := dat_val hT hd.1 (hval 0 t v rfl rfl) h1 hw.1 hro
    obtain ⟨β2, S2, ys, e2, r2, l2, a2, d2⟩ := dat_args hT hd.2 (fun j t v h1 h2 => hval (j + 1) t v (by simpa using h1) (by simpa using h2)) h2 hw.2 β1 S1 r1
    exact ⟨β2, S2, y :: ys, e1.trans e2, r2, Map.le_trans l1 l2, .cons (X.rel_mono l2 a1) a2, d1.mono e2, d2⟩
  | [], [], _ :: _, _, _, _, h, _, _, _, _ => h.elim
  | [], _ :: _, _, _, _, _, h, _, _, _, _ => by cases h
  | _ :: _, [], _, _, _, _, h, _, _, _, _ => by cases h
  | _ :: _, _ :: _, [], _, _, _, h, _, _, _, _ => by cases h
/-- The walk of a law's row: it answers true, and nothing that was there is another. -/
theorem row_walk (hE : EnvOk P E) {f : FuncId} {d : Nat} {base : Nat} {ts : List TypeId} {args : Array Value} {ds : List (DataW H)} {ps : List MemPlace} (hf : (E.fn f).any (fun fn => fn.body.isSome) = true) (hd : (ts.all fun t => datOk E d t) = true)
    (hval : ∀ (j : Nat) t v, ts[j]? = some t → args[j]? = some v → Value.okWide P w .any base t v) (hA : DataW.TrodAll enc P w 0 (fun _ => true) true ts args.toList ds ps) (hw : (DataW.weightsEach P ts ds).all (· ≤ reachBytes) = true)
    (hlaw : ∀ (S : St) (xs : List X), DatAll E S d ts xs → ∃ S' p, res E (fun _ => none) (.f f) xs S = some (.x (.c (.bool true)), S', p)) :
    Calls P f args w fun e w' => e = .returned (.bool true) ∧ Below w.heap.size w w' := by
  let S0 : St := { n := 0, h := fun _ => none, lo := 0 }
  have h0 : Ro (fun _ => none) S0 w := ⟨⟨fun i p e => by (cases e), fun i _ => rfl, fun i p b e => by (cases e), fun i j p q b b' _ e => by (cases e)⟩, ⟨Nat.le_refl _, fun i _ => rfl⟩, fun i b e => by (cases e)⟩
  obtain ⟨β, S, xs, _, ⟨hr, hok, hro⟩, _, ha, hda⟩ := dat_args (E := E) hE.ty (enc := enc) hd (fun j t v h1 h2 => hval j t v h1 (by simpa using h2)) hA hw _ S0 h0
  obtain ⟨S', p, hres⟩ := hlaw S xs hda
  obtain ⟨K, hK⟩ := of_res hres
  have hs := xCall_sound hE K (fun _ => none) (.f f) xs S _ S' p (hK K (Nat.le_refl _)) hok β w _ hr (fun _ _ h => by cases h) ha
  have hno : ∀ k, ¬ Owned β S k := by
    rintro k ⟨i, q, b, h1, h2, h3, _⟩
    rw [hro i b h2] at h3
    cases h3
  have hback : ∀ u w', (∃ β', Va.rel β' (.x (.c (.bool true))) u ∧ Step β S w β' S' w') → u = .bool true ∧ Below w.heap.size w w' := by
    rintro u w' ⟨β', h1, h2⟩
    exact ⟨h1, ⟨h2.os, h2.tape, h2.output, h2.size, fun k hk => h2.frame k hk (hno k)⟩⟩
  have hs : FnOk P f args w fun u w' => ∃ β', Va.rel β' (.x (.c (.bool true))) u ∧ Step β S w β' S' w' := by
    have hs : FnOk P f args.toList.toArray w fun u w' => ∃ β', Va.rel β' (.x (.c (.bool true))) u ∧ Step β S w β' S' w' := hs
    rwa [Array.toArray_toList] at hs
  rcases hs with ⟨_, hc⟩ | ⟨v, w', hc, _⟩
  · refine hc.mono fun e w' h => ?_
    cases e with
    | returned u => obtain ⟨h1, h2⟩ := hback u w' h; exact ⟨by rw [h1], h2⟩
    | _ => exact h.elim
  · exfalso
    cases hfn : E.fn f with
    | none => rw [hfn] at hf; cases hf
    | some fn =>
      rw [hfn] at hf
      obtain ⟨h1, h2⟩ := hE.fn f fn hfn
      cases hb : fn.body with
      | none => simp [hb] at hf
      | some c => simp [callFunc, h1, h2, hb] at hc
theorem trodAll_len {base : Nat} {spare : Nat → Bool} {held : Bool} : ∀ {ts : List TypeId} {vs : List Value} {ds : List (DataW H)} {ps : List MemPlace}, DataW.TrodAll enc P w base spare held ts vs ds ps → ds.length = ts.length
  | [], [], [], _, _ => rfl
  | t :: ts, v :: vs, x :: ds, ps, h => by
    obtain ⟨p, q, _, h2, _⟩ := h
    simp [trodAll_len h2]
  | [], [], _ :: _, _, h => h.elim
  | [], _ :: _, _, _, h => by cases h
  | _ :: _, [], _, _, h => by cases h
  | _ :: _, _ :: _, [], _, h => by cases h
theorem trodAll_below {w' : World} (hl : laidOutB P = true) (hb : Below w.heap.size w w') : ∀ {ts : List TypeId} {vs : List Value} {ds : List (DataW H)} {ps : List MemPlace}, (ts.all fun t => P.readableRec t && decide (t < P.types.size)) = true → DataW.TrodAll enc P w 0 (fun _ => true) true ts vs ds ps →
    ∃ ps', DataW.TrodAll enc P w' 0 (fun b => decide (b < w.heap.size)) true ts vs ds ps'
  | [], [], [], ps, _, h => ⟨[], rfl⟩
  | t :: ts, v :: vs, x :: ds, ps, hr, h => by
    obtain ⟨p, q, h1, h2, _⟩ := h
    simp only [List.all_cons, Bool.and_eq_true, decide_eq_true_eq] at hr
    obtain ⟨ps', h3⟩ := trodAll_below hl hb (by simpa using hr.2) h2
    refine ⟨_, p, ps', Below.trod hl hr.1.1 hr.1.2 h1 hb (fun x hx => ?_), h3, rfl⟩
    obtain ⟨n, hn⟩ := h1
    exact DataW.trod_lt n _ _ _ hn x hx
  | [], [], _ :: _, _, _, h => h.elim
  | [], _ :: _, _, _, _, h => by cases h
  | _ :: _, [], _, _, _, h => by cases h
  | _ :: _, _ :: _, [], _, _, h => by cases h
/-- A law's row, out of its evaluation. -/
theorem law_row {s : ChangeSpec} {fn : Func} {f : FuncId} {d base : Nat} {tb : TypeId} {ts : List TypeId} {W : World} {args : Array Value} {ds gs : List (DataW H)} {before : List MemPlace} (hE : EnvOk P E) (hf : (E.fn f).any (fun fn => fn.body.isSome) = true) (hvars : s.vars = []) (hts : fn.params.toList = ts) (hres : fn.resultTypes = #[tb]) (hb : P.underlying tb = some .bool)
    (hspec : ∀ ds : List (DataW H), ds.length = ts.length → s.fn H ds = { results := [.lit (.bool true)], args := ds })
    (hl : laidOutB P = true) (hr : (ts.all fun t => P.readableRec t && decide (t < P.types.size)) = true) (hd : (ts.all fun t => datOk E d t) = true)
    (hval : ∀ (j : Nat) t v, fn.params[j]? = some t → args[j]? = some v → Value.okWide P W .any base t v) (hW : DataW.Whole enc P fn.params.toList s.vars false W args.toList ds gs before)
    (hsz : (DataW.weightsEach P (fn.params.toList ++ s.plain.varTypes P) (ds ++ gs)).all (· ≤ reachBytes) = true)
    (hlaw : ∀ (S : St) (xs : List X), DatAll E S d ts xs → ∃ S' p, res E (fun _ => none) (.f f) xs S = some (.x (.c (.bool true)), S', p)) :
    Calls P f args W fun e W' => ∃ v, e = .returned v ∧ s.post enc P fn false true false false W args v W' := by
  subst hts
  have hW' := hW
  obtain ⟨p, q, hA, hV, rfl, hfz, hnd⟩ := hW
  rw [hvars] at hV
  have hgq : gs = [] ∧ q = [] := by
    cases gs with
    | nil => exact ⟨rfl, hV⟩
    | cons g gs => exact hV.elim
  obtain ⟨rfl, rfl⟩ := hgq
  have hw : (DataW.weightsEach P fn.params.toList ds).all (· ≤ reachBytes) = true := by
    have hvt : s.plain.varTypes P = [] := by simp [ChangeSpec.plain, DataSpec.varTypes, hvars]
    rw [hvt, List.append_nil, List.append_nil] at hsz
    exact hsz
  refine (row_walk hE (d := d) hf hd (fun j t v h1 h2 => hval j t v (by simpa using h1) h2) hA hw hlaw).mono fun e W' ⟨he, bel⟩ => ?_
  subst he
  obtain ⟨ps', hback⟩ := trodAll_below hl bel hr hA
  have hs := hspec ds (trodAll_len hA)
  refine ⟨_, rfl, ds, [], p ++ [], [], ps', [], hW', ?_, ?_, ?_, bel.frame _, fun h => by cases h⟩
  · rw [hres, List.append_nil, hs]
    exact trodAll_mk1 (shut_bool hb true)
  · rw [List.append_nil, hs]
    exact hback
  · rw [hvars, List.append_nil, hs]
    rfl
end Go.V
