/- The evaluator's soundness, part 1: what a virtual value, block and state stand for in a world. -/
import Derived.Test.YtemjdhglaljhbaaVDefs
import Derived.WalkKit
import Derived.Below
namespace Go.V

/-- Two lists, element by element. -/
inductive All2 {α β : Type} (R : α → β → Prop) : List α → List β → Prop where
  | nil : All2 R [] []
  | cons {a b l m} : R a b → All2 R l m → All2 R (a :: l) (b :: m)
theorem All2.length {α β : Type} {R : α → β → Prop} {l : List α} {m : List β} (h : All2 R l m) : l.length = m.length := by
  induction h with
  | nil => rfl
  | cons _ _ ih => simp [ih]
theorem All2.mono {α β : Type} {R S : α → β → Prop} (hi : ∀ a b, R a b → S a b) {l : List α} {m : List β} (h : All2 R l m) : All2 S l m := by
  induction h with
  | nil => exact .nil
  | cons h _ ih => exact .cons (hi _ _ h) ih
theorem All2.append {α β : Type} {R : α → β → Prop} {l l' : List α} {m m' : List β} (h : All2 R l m) (h' : All2 R l' m') : All2 R (l ++ l') (m ++ m') := by
  induction h with
  | nil => exact h'
  | cons h _ ih => exact .cons h ih
theorem All2.take {α β : Type} {R : α → β → Prop} {l : List α} {m : List β} (h : All2 R l m) : ∀ n, All2 R (l.take n) (m.take n) := by
  induction h with
  | nil => intro n; simp; exact .nil
  | cons h _ ih => intro n; cases n with
    | zero => exact .nil
    | succ n => exact .cons h (ih n)
theorem All2.drop {α β : Type} {R : α → β → Prop} {l : List α} {m : List β} (h : All2 R l m) : ∀ n, All2 R (l.drop n) (m.drop n) := by
  induction h with
  | nil => intro n; simp; exact .nil
  | cons h t ih => intro n; cases n with
    | zero => exact .cons h t
    | succ n => exact ih n
theorem All2.get {α β : Type} {R : α → β → Prop} {l : List α} {m : List β} (h : All2 R l m) : ∀ (i : Nat) (a : α), l[i]? = some a → ∃ b, m[i]? = some b ∧ R a b := by
  induction h with
  | nil => intro i a h; simp at h
  | cons h _ ih => intro i a hi; cases i with
    | zero => simp at hi; subst hi; exact ⟨_, rfl, h⟩
    | succ i => simpa using ih i a (by simpa using hi)
theorem All2.get' {α β : Type} {R : α → β → Prop} {l : List α} {m : List β} (h : All2 R l m) : ∀ (i : Nat) (b : β), m[i]? = some b → ∃ a, l[i]? = some a ∧ R a b := by
  induction h with
  | nil => intro i a h; simp at h
  | cons h _ ih => intro i a hi; cases i with
    | zero => simp at hi; subst hi; exact ⟨_, rfl, h⟩
    | succ i => simpa using ih i a (by simpa using hi)
theorem All2.of_get {α β : Type} {R : α → β → Prop} : ∀ {l : List α} {m : List β}, l.length = m.length → (∀ (i : Nat) (a : α) (b : β), l[i]? = some a → m[i]? = some b → R a b) → All2 R l m
  | [], [], _, _ => .nil
  | [], _ :: _, h, _ => by simp at h
  | _ :: _, [], h, _ => by simp at h
  | a :: l, b :: m, h, hr => .cons (hr 0 a b rfl rfl) (All2.of_get (by simpa using h) (fun i x y hx hy => hr (i + 1) x y (by simpa using hx) (by simpa using hy)))
theorem All2.map_some {α β γ : Type} {R : β → γ → Prop} {f : α → Option β} {g : α → γ} (hf : ∀ a b, f a = some b → R b (g a)) : ∀ {l : List α} {m : List β}, l.mapM f = some m → All2 R m (l.map g)
  | [], m, h => by simp at h; subst h; exact .nil
  | a :: l, m, h => by
    rw [List.mapM_cons] at h
    cases ha : f a with
    | none => simp [ha] at h
    | some b =>
      cases hl : l.mapM f with
      | none => simp [ha, hl] at h
      | some bs => simp [ha, hl] at h; subst h; exact .cons (hf a b ha) (All2.map_some hf hl)

/-- Where a virtual block lies: an actual one, and from which cell on; of a row that may grow: how many cells there are, and the size of an element. -/
structure Pl where
  b : Nat
  o : Nat
  cap : Option (Nat × Nat)
abbrev Map := Nat → Option Pl
def Pl.at (p : Pl) (o : Nat) : Addr := ⟨p.b, p.o + o, none⟩

def C.rel (β : Map) : C → Value → Prop
  | .int k n, v => v = .int k n
  | .bool b, v => v = .bool b
  | .str s, v => v = .string s
  | .ptr none, v => v = .pointer none
  | .ptr (some (i, o)), v => ∃ p, β i = some p ∧ v = .pointer (some (p.at o))
  | .sl none n, v => n = 0 ∧ v = .slice none 0 0
  | .sl (some (i, o)) n, v => ∃ p c, β i = some p ∧ v = .slice (some (p.at o)) n c ∧ n ≤ c ∧ (o = 0 → ∀ cc s, p.cap = some (cc, s) → c * s = cc)
  | .em, v => ∃ a c, v = .slice (some a) 0 c
  | .fn f caps, v => ∃ lb, All2 (fun (x : Nat × Nat) u => ∃ p, β x.1 = some p ∧ u = Value.pointer (some (p.at x.2))) caps lb ∧ v = .func (.func f) #[] lb.toArray
  | .yl i, v => ∃ p, β i = some p ∧ v = .func (.yield p.b) #[] #[]
  | .nfn, v => v = .nilFunc
  | .nif, v => v = .nilIface
def X.rel (β : Map) : X → Value → Prop
  | .c x, v => x.rel β v
  | .a cs, v => ∃ vs, All2 (C.rel β) cs vs ∧ v = .agg vs.toArray
def Va.rel (β : Map) : Va → Value → Prop
  | .u, _ => True
  | .n, v => v = undef
  | .x y, v => y.rel β v
  | .t xs, v => ∃ vs, All2 (X.rel β) xs vs ∧ v = .tuple vs.toArray
  | .w y, v => v = y
def Tm (β : Map) (T : List Va) (tmps : Array Value) : Prop := T.length = tmps.size ∧ ∀ (t : Nat) v x, T[t]? = some v → tmps[t]? = some x → v.rel β x

def Map.le (β β' : Map) : Prop := ∀ i p, β i = some p → β' i = some p
theorem Map.le_refl (β : Map) : Map.le β β := fun _ _ h => h
theorem Map.le_trans {a b c : Map} (h : Map.le a b) (h' : Map.le b c) : Map.le a c := fun i p e => h' i p (h i p e)

theorem C.rel_mono {β β' : Map} (h : Map.le β β') : ∀ {c : C} {v : Value}, c.rel β v → c.rel β' v := by
  intro c v hr
  cases c with
  | ptr p =>
    cases p with
    | none => exact hr
    | some q => obtain ⟨p, hp, e⟩ := hr; exact ⟨p, h _ _ hp, e⟩
  | sl p n =>
    cases p with
    | none => exact hr
    | some q => obtain ⟨p, c, hp, e⟩ := hr; exact ⟨p, c, h _ _ hp, e⟩
  | fn f caps => obtain ⟨lb, hl, e⟩ := hr; exact ⟨lb, hl.mono (fun a b ⟨p, hp, e⟩ => ⟨p, h _ _ hp, e⟩), e⟩
  | yl i => obtain ⟨p, hp, e⟩ := hr; exact ⟨p, h _ _ hp, e⟩
  | _ => exact hr
theorem X.rel_mono {β β' : Map} (h : Map.le β β') : ∀ {x : X} {v : Value}, x.rel β v → x.rel β' v := by
  intro x v hr
  cases x with
  | c x => exact C.rel_mono h hr
  | a cs => obtain ⟨vs, hl, e⟩ := hr; exact ⟨vs, hl.mono (fun _ _ => C.rel_mono h), e⟩
theorem Va.rel_mono {β β' : Map} (h : Map.le β β') : ∀ {x : Va} {v : Value}, x.rel β v → x.rel β' v := by
  intro x v hr
  cases x with
  | u => trivial
  | n => exact hr
  | w u => exact hr
  | x y => exact X.rel_mono h (show y.rel β v from hr)
  | t xs => obtain ⟨vs, hl, e⟩ := hr; exact ⟨vs, hl.mono (fun _ _ => X.rel_mono h), e⟩
theorem Tm.mono {β β' : Map} (h : Map.le β β') {T : List Va} {tmps : Array Value} (ht : Tm β T tmps) : Tm β' T tmps := ⟨ht.1, fun t v x hv hx => Va.rel_mono h (ht.2 t v x hv hx)⟩

/-- A cell's value is one cell. -/
theorem C.rel_cells {β : Map} {c : C} {v : Value} (h : c.rel β v) : v.cells = #[v] := by
  cases c with
  | ptr p =>
    cases p with
    | none => obtain rfl := (show v = _ from h); rfl
    | some q => obtain ⟨p, _, rfl⟩ := h; rfl
  | sl p n =>
    cases p with
    | none => obtain ⟨_, rfl⟩ := h; rfl
    | some q => obtain ⟨p, c, _, rfl, _⟩ := h; rfl
  | fn f caps => obtain ⟨lb, _, rfl⟩ := h; rfl
  | yl i => obtain ⟨p, _, rfl⟩ := h; rfl
  | em => obtain ⟨a, c, rfl⟩ := h; rfl
  | _ => obtain rfl := (show v = _ from h); rfl
theorem X.rel_cells {β : Map} {x : X} {v : Value} (h : x.rel β v) : All2 (C.rel β) x.cells v.cells.toList := by
  cases x with
  | c x =>
    have := C.rel_cells (show x.rel β v from h)
    rw [this]
    exact .cons h .nil
  | a cs =>
    obtain ⟨vs, hl, rfl⟩ := h
    exact hl
/-- It can be stored. -/
theorem C.rel_one {β : Map} {c : C} {v : Value} (h : c.rel β v) : (∀ cs, v ≠ .agg cs) ∧ (∀ vs, v ≠ .tuple vs) := by
  cases c with
  | ptr p =>
    cases p with
    | none => obtain rfl := (show v = _ from h); exact ⟨fun _ => by simp, fun _ => by simp⟩
    | some q => obtain ⟨p, _, rfl⟩ := h; exact ⟨fun _ => by simp, fun _ => by simp⟩
  | sl p n =>
    cases p with
    | none => obtain ⟨_, rfl⟩ := h; exact ⟨fun _ => by simp, fun _ => by simp⟩
    | some q => obtain ⟨p, c, _, rfl, _⟩ := h; exact ⟨fun _ => by simp, fun _ => by simp⟩
  | fn f caps => obtain ⟨lb, _, rfl⟩ := h; exact ⟨fun _ => by simp, fun _ => by simp⟩
  | yl i => obtain ⟨p, _, rfl⟩ := h; exact ⟨fun _ => by simp, fun _ => by simp⟩
  | em => obtain ⟨a, c, rfl⟩ := h; exact ⟨fun _ => by simp, fun _ => by simp⟩
  | _ => obtain rfl := (show v = _ from h); exact ⟨fun _ => by simp, fun _ => by simp⟩

/-- A virtual block in a world. -/
def Blk.rel (β : Map) (w : World) (p : Pl) (b : Blk) : Prop :=
  ∃ cs ty fz, w.heap[p.b]? = some (.cells cs ty fz) ∧ (∀ (j : Nat) c, b.cs[j]? = some c → ∃ v, cs[p.o + j]? = some v ∧ c.rel β v) ∧ (b.wr = true → fz = (0, 0)) ∧ ∀ s, b.row = some s → b.wr = true → ∃ cc, p.cap = some (cc, s) ∧ p.o + cc ≤ cs.size
theorem Blk.rel_mono {β β' : Map} (h : Map.le β β') {w w' : World} {p : Pl} {b : Blk} (hb : b.rel β w p) (hw : w'.heap[p.b]? = w.heap[p.b]?) : b.rel β' w' p := by
  obtain ⟨cs, ty, fz, h1, h2, h3⟩ := hb
  exact ⟨cs, ty, fz, hw.trans h1, fun j c hc => by obtain ⟨v, hv, hr⟩ := h2 j c hc; exact ⟨v, hv, C.rel_mono h hr⟩, h3⟩
/-- The virtual state in a world. -/
structure Rel (β : Map) (S : St) (w : World) : Prop where
  dom : ∀ i p, β i = some p → i < S.n
  ok : ∀ i, S.n ≤ i → S.h i = none
  blk : ∀ i p b, β i = some p → S.h i = some b → b.rel β w p
  inj : ∀ i j p q b b', i ≠ j → β i = some p → β j = some q → S.h i = some b → S.h j = some b' → b.wr = true → p.b ≠ q.b
/-- The actual blocks that may be written. -/
def Owned (β : Map) (S : St) (k : Nat) : Prop := ∃ i p b, β i = some p ∧ S.h i = some b ∧ b.wr = true ∧ p.b = k
/-- The actual blocks that are known. -/
def Live (β : Map) (S : St) (k : Nat) : Prop := ∃ i p b, β i = some p ∧ S.h i = some b ∧ p.b = k
structure Step (β : Map) (S : St) (w : World) (β' : Map) (S' : St) (w' : World) : Prop where
  le : Map.le β β'
  new : ∀ i p, β' i = some p → β i = some p ∨ S.n ≤ i
  n : S.n ≤ S'.n
  rel : Rel β' S' w'
  size : w.heap.size ≤ w'.heap.size
  frame : ∀ k, k < w.heap.size → ¬ Owned β S k → w'.heap[k]? = w.heap[k]?
  own : ∀ k, k < w.heap.size → Owned β' S' k → Owned β S k
  live : ∀ k, k < w.heap.size → Live β' S' k → Live β S k
  os : w'.os = w.os
  tape : w'.tape = w.tape
  output : w'.output = w.output
theorem Step.refl {β : Map} {S : St} {w : World} (h : Rel β S w) : Step β S w β S w := ⟨Map.le_refl _, fun _ _ h => .inl h, Nat.le_refl _, h, Nat.le_refl _, fun _ _ _ => rfl, fun _ _ h => h, fun _ _ h => h, rfl, rfl, rfl⟩
theorem Step.trans {β β1 β2 : Map} {S S1 S2 : St} {w w1 w2 : World} (h : Step β S w β1 S1 w1) (h' : Step β1 S1 w1 β2 S2 w2) : Step β S w β2 S2 w2 where
  le := Map.le_trans h.le h'.le
  new i p e := by
    rcases h'.new i p e with h1 | h1
    · exact h.new i p h1
    · exact .inr (Nat.le_trans h.n h1)
  n := Nat.le_trans h.n h'.n
  rel := h'.rel
  size := Nat.le_trans h.size h'.size
  frame k hk hno := by
    have h1 : ¬ Owned β1 S1 k := fun ho => hno (h.own k hk ho)
    exact (h'.frame k (Nat.lt_of_lt_of_le hk h.size) h1).trans (h.frame k hk hno)
  own k hk ho := h.own k hk (h'.own k (Nat.lt_of_lt_of_le hk h.size) ho)
  live k hk ho := h.live k hk (h'.live k (Nat.lt_of_lt_of_le hk h.size) ho)
  os := h'.os.trans h.os
  tape := h'.tape.trans h.tape
  output := h'.output.trans h.output
/-- A draw. -/
theorem Rel.drew {β : Map} {S : St} {w : World} (h : Rel β S w) : Rel β S w.drew := ⟨h.dom, h.ok, fun i p b hp hb => Blk.rel_mono (Map.le_refl _) (h.blk i p b hp hb) rfl, h.inj⟩
theorem Step.drew {β : Map} {S : St} {w : World} (h : Rel β S w) : Step β S w β S w.drew := ⟨Map.le_refl _, fun _ _ h => .inl h, Nat.le_refl _, h.drew, Nat.le_refl _, fun _ _ _ => rfl, fun _ _ h => h, fun _ _ h => h, rfl, rfl, rfl⟩

/-! ### What an operation's access comes to -/
theorem lt_of_heap {w : World} {k : Nat} {o : Obj} (h : w.heap[k]? = some o) : k < w.heap.size := (Array.getElem?_eq_some_iff.1 h).1
theorem heap_push_lt {w : World} {o : Obj} {k : Nat} (h : k < w.heap.size) : (w.alloc o).heap[k]? = w.heap[k]? := by
  show (w.heap.push o)[k]? = _
  rw [Array.getElem?_push_lt h, Array.getElem?_eq_getElem h]
theorem heap_push_eq (w : World) (o : Obj) : (w.alloc o).heap[w.heap.size]? = some o := by
  show (w.heap.push o)[w.heap.size]? = _
  simp
/-- A new block. -/
theorem Step.alloc {β : Map} {S : St} {w : World} (h : Rel β S w) {b : Blk} {cs : Array Value} {ty : TypeId} (hc : All2 (C.rel β) b.cs (cs.toList.take b.cs.length)) (cap : Option (Nat × Nat)) (hrow : ∀ s, b.row = some s → ∃ cc, cap = some (cc, s) ∧ cc ≤ cs.size) :
    ∃ β', β' S.n = some ⟨w.heap.size, 0, cap⟩ ∧ Step β S w β' (S.new b) (w.alloc (.cells cs ty)) := by
  have hn : β S.n = none := by
    cases e : β S.n with
    | none => rfl
    | some p => exact absurd (h.dom _ _ e) (Nat.lt_irrefl _)
  refine ⟨fun i => if i = S.n then some ⟨w.heap.size, 0, cap⟩ else β i, by simp, ?_⟩
  have hle : Map.le β (fun i => if i = S.n then some ⟨w.heap.size, 0, cap⟩ else β i) := fun i p e => by
    have : i ≠ S.n := fun e' => by rw [e', hn] at e; cases e
    simp [this, e]
  have hlt : ∀ i p b', β i = some p → S.h i = some b' → p.b < w.heap.size := fun i p b' hp hb => by
    obtain ⟨_, _, _, hh, _⟩ := h.blk i p b' hp hb
    exact lt_of_heap hh
  refine ⟨hle, ?_, Nat.le_succ _, ⟨?_, ?_, ?_, ?_⟩, by simp, fun k hk _ => heap_push_lt hk, ?_, ?_, rfl, rfl, rfl⟩
  · intro i p e
    by_cases hi : i = S.n
    · exact .inr (by omega)
    · simp [hi] at e; exact .inl e
  · intro i p e
    show i < S.n + 1
    by_cases hi : i = S.n
    · omega
    · simp [hi] at e; have := h.dom i p e; omega
  · intro i hi
    have hi : S.n + 1 ≤ i := hi
    show (if i = S.n then some b else S.h i) = none
    rw [if_neg (by omega)]
    exact h.ok i (by omega)
  · intro i p b' hp hb
    have hb : (if i = S.n then some b else S.h i) = some b' := hb
    by_cases hi : i = S.n
    · simp [hi] at hp hb
      subst hp; subst hb
      refine ⟨cs, ty, (0, 0), heap_push_eq _ _, fun j c hj => ?_, fun _ => rfl, fun s hs _ => ?_⟩
      · obtain ⟨v, hv, hr⟩ := hc.get j c hj
        refine ⟨v, ?_, C.rel_mono hle hr⟩
        have hjl : j < b.cs.length := (List.getElem?_eq_some_iff.1 hj).1
        rw [List.getElem?_take_of_lt hjl] at hv
        simpa using hv
      · obtain ⟨cc, h1, h2⟩ := hrow s hs
        exact ⟨cc, h1, by simpa using h2⟩
    · simp [hi] at hp hb
      exact Blk.rel_mono hle (h.blk i p b' hp hb) (heap_push_lt (hlt i p b' hp hb))
  · intro i j p q b1 b2 hij hp hq h1 h2 hw
    have h1 : (if i = S.n then some b else S.h i) = some b1 := h1
    have h2 : (if j = S.n then some b else S.h j) = some b2 := h2
    by_cases hi : i = S.n
    · have hj : j ≠ S.n := fun e => hij (hi.trans e.symm)
      simp [hi] at hp; simp [hj] at hq h2
      subst hp
      have := hlt j q b2 hq h2
      show w.heap.size ≠ q.b
      omega
    · by_cases hj : j = S.n
      · simp [hj] at hq; simp [hi] at hp h1
        subst hq
        have := hlt i p b1 hp h1
        show p.b ≠ w.heap.size
        omega
      · simp [hi] at hp h1; simp [hj] at hq h2
        exact h.inj i j p q b1 b2 hij hp hq h1 h2 hw
  · rintro k hk ⟨i, p, b', hp, hb, hw, rfl⟩
    have hb : (if i = S.n then some b else S.h i) = some b' := hb
    by_cases hi : i = S.n
    · simp [hi] at hp
      subst hp
      exact absurd hk (Nat.lt_irrefl _)
    · simp [hi] at hp hb
      exact ⟨i, p, b', hp, hb, hw, rfl⟩
  · rintro k hk ⟨i, p, b', hp, hb, rfl⟩
    have hb : (if i = S.n then some b else S.h i) = some b' := hb
    by_cases hi : i = S.n
    · simp [hi] at hp
      subst hp
      exact absurd hk (Nat.lt_irrefl _)
    · simp [hi] at hp hb
      exact ⟨i, p, b', hp, hb, rfl⟩
end Go.V
