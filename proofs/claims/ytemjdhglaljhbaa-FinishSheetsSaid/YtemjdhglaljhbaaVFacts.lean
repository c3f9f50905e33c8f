/- What ties the evaluator's tables to a program: checks that the kernel runs, and what they show. -/
import Derived.Test.YtemjdhglaljhbaaVSound
import Derived.Laws.StructEq
namespace Go.V
variable {P : Program} {E : Env}

def C.same : C → C → Bool
  | .int k n, .int k' n' => decide (k = k') && decide (n = n')
  | .bool a, .bool b => a == b
  | .str a, .str b => a.size == 0 && b.size == 0
  | .ptr none, .ptr none => true
  | .sl none n, .sl none n' => n == n'
  | .nfn, .nfn => true
  | .nif, .nif => true
  | _, _ => false
theorem size_zero {a : ByteArray} (h : a.size = 0) : a = ⟨#[]⟩ := by
  obtain ⟨⟨l⟩⟩ := a
  cases l with
  | nil => rfl
  | cons x l => cases h
theorem C.same_eq {x y : C} (h : C.same x y = true) : x = y := by
  unfold C.same at h
  split at h <;> first
    | (simp at h; obtain ⟨rfl, rfl⟩ := h; rfl)
    | (simp at h; subst h; rfl)
    | (simp at h; rw [size_zero h.1, size_zero h.2])
    | rfl
    | cases h
def sameAll : List C → List C → Bool
  | [], [] => true
  | x :: xs, y :: ys => C.same x y && sameAll xs ys
  | _, _ => false
theorem sameAll_eq : ∀ {xs ys : List C}, sameAll xs ys = true → xs = ys
  | [], [], _ => rfl
  | x :: xs, y :: ys, h => by
    simp only [sameAll, Bool.and_eq_true] at h
    rw [C.same_eq h.1, sameAll_eq h.2]
  | [], _ :: _, h => by cases h
  | _ :: _, [], h => by cases h
def X.same : X → X → Bool
  | .c x, .c y => C.same x y
  | .a xs, .a ys => sameAll xs ys
  | _, _ => false
theorem X.same_eq {x y : X} (h : X.same x y = true) : x = y := by
  unfold X.same at h
  split at h
  · rw [C.same_eq h]
  · rw [sameAll_eq h]
  · cases h
def isAggD : TypeDesc → Bool
  | .struct _ => true
  | .array _ _ => true
  | _ => false
def tiCheck (P : Program) (t : TypeId) (i : Ti) : Bool :=
  match P.info? t with
  | some info =>
    info.size == i.size && info.bytes == i.bytes &&
    (match info.zero with
     | some z => (match X.ofValue z with | some x => X.same x i.zero | none => false)
     | none => false) &&
    (match P.underlying t with | some d => i.agg == isAggD d | none => false)
  | none => false
theorem tiCheck_ok {t : TypeId} {i : Ti} (h : tiCheck P t i = true) : ∃ info z d, P.info? t = some info ∧ info.size = i.size ∧ info.bytes = i.bytes ∧ info.zero = some z ∧ X.ofValue z = some i.zero ∧ P.underlying t = some d ∧ i.agg = (match d with | .struct _ => true | .array _ _ => true | _ => false) := by
  unfold tiCheck at h
  split at h
  · rename_i info hi
    simp only [Bool.and_eq_true, beq_iff_eq] at h
    obtain ⟨⟨⟨h1, h2⟩, h3⟩, h4⟩ := h
    split at h3
    · rename_i z hz
      split at h3
      · rename_i x hx
        split at h4
        · rename_i d hd
          refine ⟨info, z, d, hi, h1, h2, hz, by rw [← X.same_eq h3]; exact hx, hd, ?_⟩
          rw [beq_iff_eq.1 h4]
          unfold isAggD
          rfl
        · cases h4
      · cases h3
    · cases h3
  · cases h
def fieldsSame : List Field → List (Nat × TypeId) → Bool
  | [], [] => true
  | g :: gs, f :: fs => g.offset == f.1 && g.type == f.2 && fieldsSame gs fs
  | _, _ => false
theorem fieldsSame_eq : ∀ {gs : List Field} {fs : List (Nat × TypeId)}, fieldsSame gs fs = true → gs.map (fun g => (g.offset, g.type)) = fs
  | [], [], _ => rfl
  | g :: gs, f :: fs, h => by
    simp only [fieldsSame, Bool.and_eq_true, beq_iff_eq] at h
    rw [List.map_cons, h.1.1, h.1.2, fieldsSame_eq h.2]
  | [], _ :: _, h => by cases h
  | _ :: _, [], h => by cases h
def shCheck (P : Program) (t : TypeId) (s : Sh) : Bool :=
  match s, P.underlying t with
  | .int k, some (.int k') => decide (k = k')
  | .string, some .string => true
  | .bool, some .bool => true
  | .ptr, some (.pointer _) => true
  | .slice e, some (.slice e') => e == e'
  | .array n e, some (.array n' e') => n == n' && e == e'
  | .struct fs, some (.struct gs) => fieldsSame gs.toList fs
  | _, _ => false
/-- A table, entry by entry. -/
def allAt {α : Type} (f : Nat → α → Bool) : Nat → List (Option α) → Bool
  | _, [] => true
  | t, none :: l => allAt f (t + 1) l
  | t, some a :: l => f t a && allAt f (t + 1) l
theorem allAt_ok {α : Type} {f : Nat → α → Bool} : ∀ {l : List (Option α)} {k : Nat}, allAt f k l = true → ∀ (t : Nat) a, (l[t]?).join = some a → f (k + t) a = true
  | [], k, _, t, a, e => by simp at e
  | x :: l, k, h, t, a, e => by
    have key : allAt f (k + 1) l = true ∧ ∀ a, x = some a → f k a = true := by
      cases x with
      | none => exact ⟨h, fun a e => by cases e⟩
      | some y =>
        simp only [allAt, Bool.and_eq_true] at h
        exact ⟨h.2, fun a e => by cases e; exact h.1⟩
    cases t with
    | zero => exact key.2 a (by simpa using e)
    | succ t =>
      have := allAt_ok key.1 t a (by simpa using e)
      rw [show k + (t + 1) = k + 1 + t from by omega]
      exact this

/-! ### Aggregates that are compared -/
theorem eqc_isSome_int {k : IntKind} {n : Int} {zs xs : List C} (h : (eqCells xs (.int k n :: zs)).isSome = true) : ∃ a xs', xs = .int k a :: xs' ∧ (eqCells xs' zs).isSome = true := by
  cases xs with
  | nil => cases h
  | cons x xs' =>
    simp only [eqCells, Option.bind_eq_bind] at h
    cases x with
    | int k' a =>
      simp only [C.eq?] at h
      split at h
      · rename_i hk
        subst hk
        refine ⟨a, xs', rfl, ?_⟩
        cases hr : eqCells xs' zs with
        | none => simp [hr] at h
        | some b => rfl
      · cases h
    | _ => cases h
theorem eqc_isSome_bool {n : Bool} {zs xs : List C} (h : (eqCells xs (.bool n :: zs)).isSome = true) : ∃ a xs', xs = .bool a :: xs' ∧ (eqCells xs' zs).isSome = true := by
  cases xs with
  | nil => cases h
  | cons x xs' =>
    simp only [eqCells, Option.bind_eq_bind] at h
    cases x with
    | bool a =>
      refine ⟨a, xs', rfl, ?_⟩
      cases hr : eqCells xs' zs with
      | none => simp [C.eq?, hr] at h
      | some b => rfl
    | _ => cases h
theorem eqc_isSome_nil {xs : List C} (h : (eqCells xs []).isSome = true) : xs = [] := by
  cases xs with
  | nil => rfl
  | cons x xs' => cases h
theorem eqc_int {k : IntKind} {a : Int} {xs ys : List C} {b : Bool} (h : eqCells (.int k a :: xs) ys = some b) : ∃ c ys' b', ys = .int k c :: ys' ∧ eqCells xs ys' = some b' ∧ b = ((a == c) && b') := by
  cases ys with
  | nil => cases h
  | cons y ys' =>
    simp only [eqCells, Option.bind_eq_bind] at h
    obtain ⟨e, he, h⟩ := bind_some h
    obtain ⟨r, hr, h⟩ := bind_some h
    cases h
    cases y with
    | int k' c =>
      simp only [C.eq?] at he
      split at he
      · rename_i hk
        subst hk
        cases he
        exact ⟨c, ys', r, rfl, hr, rfl⟩
      · cases he
    | _ => cases he
theorem eqc_bool {a : Bool} {xs ys : List C} {b : Bool} (h : eqCells (.bool a :: xs) ys = some b) : ∃ c ys' b', ys = .bool c :: ys' ∧ eqCells xs ys' = some b' ∧ b = ((a == c) && b') := by
  cases ys with
  | nil => cases h
  | cons y ys' =>
    simp only [eqCells, Option.bind_eq_bind] at h
    obtain ⟨e, he, h⟩ := bind_some h
    obtain ⟨r, hr, h⟩ := bind_some h
    cases h
    cases y with
    | bool c => cases he; exact ⟨c, ys', r, rfl, hr, rfl⟩
    | _ => cases he
theorem eqc_nil {ys : List C} {b : Bool} (h : eqCells [] ys = some b) : ys = [] ∧ b = true := by
  cases ys with
  | nil => cases h; exact ⟨rfl, rfl⟩
  | cons y ys => cases h
theorem rel_int {β : Map} {k : IntKind} {a : Int} {xs : List C} {vs : List Value} (h : All2 (C.rel β) (.int k a :: xs) vs) : ∃ vs', vs = .int k a :: vs' ∧ All2 (C.rel β) xs vs' := by
  cases h with
  | cons h t => obtain rfl := (show _ = _ from h); exact ⟨_, rfl, t⟩
theorem rel_bool {β : Map} {a : Bool} {xs : List C} {vs : List Value} (h : All2 (C.rel β) (.bool a :: xs) vs) : ∃ vs', vs = .bool a :: vs' ∧ All2 (C.rel β) xs vs' := by
  cases h with
  | cons h t => obtain rfl := (show _ = _ from h); exact ⟨_, rfl, t⟩
theorem rel_nil {β : Map} {vs : List Value} (h : All2 (C.rel β) [] vs) : vs = [] := by cases h; rfl
end Go.V
