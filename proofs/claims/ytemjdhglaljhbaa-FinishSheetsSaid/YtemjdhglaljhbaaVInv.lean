/- The evaluator's soundness, part 9: operations in any order that the region allows: what holds after some of them. -/
import Derived.Test.YtemjdhglaljhbaaVRun
namespace Go.V
variable {P : Program} {E : Env}

def Map.cut (β : Map) (n : Nat) : Map := fun i => if i < n then β i else none
theorem Map.cut_some {β : Map} {n i : Nat} {p : Pl} : β.cut n i = some p ↔ i < n ∧ β i = some p := by
  unfold Map.cut
  split
  · simp_all
  · constructor
    · intro h; cases h
    · intro h; exact absurd h.1 (by assumption)
theorem Map.cut_le (β : Map) (n : Nat) : Map.le (β.cut n) β := fun _ _ h => (Map.cut_some.1 h).2
theorem Map.cut_mono {β β' : Map} (h : Map.le β β') {n n' : Nat} (hn : n ≤ n') : Map.le (β.cut n) (β'.cut n') := fun i p e => by
  obtain ⟨h1, h2⟩ := Map.cut_some.1 e
  exact Map.cut_some.2 ⟨by omega, h i p h2⟩
theorem All2.both {α β γ : Type} {R : α → β → Prop} {S U : α → γ → Prop} {l : List α} {m : List β} {m' : List γ} (h : All2 R l m) (h' : All2 S l m') (hi : ∀ a b c, R a b → S a c → U a c) : All2 U l m' := by
  induction h generalizing m' with
  | nil => cases h'; exact .nil
  | cons h _ ih =>
    cases h' with
    | cons h' t' => exact .cons (hi _ _ _ h h') (ih t')
/-- What is related by a narrow map stays within it. -/
theorem C.rel_cut {β β1 β2 : Map} {n : Nat} (_h1 : Map.le β β1) (h2 : Map.le β2 β1) : ∀ {c : C} {v v' : Value}, c.rel (β.cut n) v → c.rel β2 v' → c.rel (β1.cut n) v' := by
  have key : ∀ {i p p'}, β.cut n i = some p → β2 i = some p' → β1.cut n i = some p' := by
    intro i p p' e e'
    obtain ⟨h3, h4⟩ := Map.cut_some.1 e
    exact Map.cut_some.2 ⟨h3, h2 i p' e'⟩
  intro c v v' hr hr'
  cases c with
  | ptr p =>
    cases p with
    | none => exact hr'
    | some q => obtain ⟨p, hp, _⟩ := hr; obtain ⟨p', hp', e⟩ := hr'; exact ⟨p', key hp hp', e⟩
  | sl p n =>
    cases p with
    | none => exact hr'
    | some q => obtain ⟨p, c, hp, _⟩ := hr; obtain ⟨p', c', hp', e⟩ := hr'; exact ⟨p', c', key hp hp', e⟩
  | yl i => obtain ⟨p, hp, _⟩ := hr; obtain ⟨p', hp', e⟩ := hr'; exact ⟨p', key hp hp', e⟩
  | fn f caps =>
    obtain ⟨lb, hl, _⟩ := hr
    obtain ⟨lb', hl', e⟩ := hr'
    exact ⟨lb', hl.both hl' fun a b b' ⟨p, hp, _⟩ ⟨p', hp', e⟩ => ⟨p', key hp hp', e⟩, e⟩
  | _ => exact hr'
theorem Blk.rel_cut {β β1 β2 : Map} {n : Nat} (h1 : Map.le β β1) (h2 : Map.le β2 β1) {w w' : World} {p : Pl} {b : Blk} (hr : b.rel (β.cut n) w p) (hr' : b.rel β2 w' p) : b.rel (β1.cut n) w' p := by
  obtain ⟨cs, ty, fz, a1, a2, a3, a4⟩ := hr
  obtain ⟨cs', ty', fz', b1, b2, b3, b4⟩ := hr'
  refine ⟨cs', ty', fz', b1, fun j c hc => ?_, b3, b4⟩
  obtain ⟨v, _, hv⟩ := a2 j c hc
  obtain ⟨v', hv', hr⟩ := b2 j c hc
  exact ⟨v', hv', C.rel_cut h1 h2 hv hr⟩

section
variable {call : CallF} {ops : List Oper} (R : Run E call ops)
abbrev Run.touch (y i : Nat) : Prop := Touch (R.S y).n (R.S (y + 1)).n (R.e y) i
def TCons (ops : List Oper) (D : Nat → Prop) (t : Tmp) (j : Nat) : Prop := ∀ y o, ops[y]? = some o → o.dst = some t → (y < j → D y) ∧ (j ≤ y → ¬ D y)
def HCons (D : Nat → Prop) (i j : Nat) : Prop := ∀ y, y < ops.length → R.touch y i → (y < j → D y) ∧ (j ≤ y → ¬ D y)
/-- What holds when the operations of D have run. -/
structure Inv (ds : List Deferred) (β0 : Map) (w0 : World) (D : Nat → Prop) (β : Map) (a : Act) (w : World) : Prop where
  sub : ∀ y, D y → y < ops.length
  le : Map.le β0 β
  dom : ∀ i p, β i = some p → (i < (R.S 0).n ∧ β0 i = some p) ∨ ∃ y, D y ∧ (R.S y).n ≤ i ∧ i < (R.S (y + 1)).n
  st : ∀ y i, D y → (R.e y = .store i ∨ ∃ r, R.e y = .app (some i) r) → ∃ p, β i = some p
  tsz : (R.T 0).length = a.tmps.size
  tm : ∀ t j v u, j ≤ ops.length → TCons ops D t j → (R.T j)[t]? = some v → a.tmps[t]? = some u → v.rel (β.cut (R.S j).n) u
  blk : ∀ i j p b, j ≤ ops.length → HCons R D i j → β i = some p → (R.S j).h i = some b → b.rel (β.cut (R.S j).n) w p
  inj : ∀ i k j l p q b b', i ≠ k → j ≤ ops.length → l ≤ ops.length → HCons R D i j → HCons R D k l → β i = some p → β k = some q → (R.S j).h i = some b → (R.S l).h k = some b' → b.wr = true → p.b ≠ q.b
  own : ∀ i j p b, j ≤ ops.length → HCons R D i j → β i = some p → (R.S j).h i = some b → b.wr = true → p.b < w0.heap.size → Owned β0 (R.S 0) p.b
  live : ∀ i j p b, j ≤ ops.length → HCons R D i j → β i = some p → (R.S j).h i = some b → p.b < w0.heap.size → Live β0 (R.S 0) p.b
  size : w0.heap.size ≤ w.heap.size
  frame : ∀ k, k < w0.heap.size → ¬ Owned β0 (R.S 0) k → w.heap[k]? = w0.heap[k]?
  os : w.os = w0.os
  tape : w.tape = w0.tape
  output : w.output = w0.output
  defers : a.defers = ds
/-- The operation x may run now. -/
structure Fits (D : Nat → Prop) (x : Nat) : Prop where
  nd : ¬ D x
  rd : ∀ ox, ops[x]? = some ox → ∀ t ∈ ox.looksAt ops.toArray, TCons ops D t x
  wr : ∀ ox d, ops[x]? = some ox → ox.dst = some d → ∀ y o, x < y → D y → ops[y]? = some o → o.dst ≠ some d
  ef1 : ∀ y, y < x → ¬ D y → Eff.bad (R.e y) (R.e x) = false
  ef2 : ∀ y, x < y → D y → Eff.bad (R.e x) (R.e y) = false
def with_ (D : Nat → Prop) (x : Nat) : Nat → Prop := fun y => D y ∨ y = x

theorem put_length (T : List Va) (d : Option Tmp) (v : Va) : (put T d v).length = T.length := by cases d <;> simp [put]
theorem put_ne (T : List Va) {d : Option Tmp} (v : Va) {t : Tmp} (h : d ≠ some t) : (put T d v)[t]? = T[t]? := by
  cases d with
  | none => rfl
  | some d => exact List.getElem?_set_ne (fun e => h (by rw [e]))
theorem StepAt.T {all : List Oper} {o : Oper} {T T' : List Va} {S S' : St} {v : Va} {e : Eff} (h : StepAt E call all o T S v e T' S') : T' = put T o.dst v := by
  rcases h with ⟨_, _, _, h⟩ | ⟨_, _, _, _, h⟩ <;> exact h
theorem Run.T_length : ∀ j, j ≤ ops.length → (R.T j).length = (R.T 0).length
  | 0, _ => rfl
  | j + 1, hj => by
    rw [(R.at_ j ops[j] (List.getElem?_eq_getElem (by omega))).T, put_length]
    exact Run.T_length j (by omega)
theorem Run.T_same {t : Tmp} {i : Nat} : ∀ {j : Nat}, i ≤ j → j ≤ ops.length → (∀ y o, i ≤ y → y < j → ops[y]? = some o → o.dst ≠ some t) → (R.T j)[t]? = (R.T i)[t]?
  | 0, h, _, _ => by rw [show i = 0 from by omega]
  | j + 1, h, hj, hn => by
    rcases Nat.lt_or_ge i (j + 1) with hlt | hge
    · have ho : ops[j]? = some ops[j] := List.getElem?_eq_getElem (by omega)
      rw [(R.at_ j ops[j] ho).T, put_ne _ _ (hn j _ (by omega) (by omega) ho)]
      exact Run.T_same (j := j) (by omega) (by omega) (fun y o h1 h2 => hn y o h1 (by omega))
    · rw [show i = j + 1 from by omega]
variable (hg : GoodCall call) (h0 : (R.S 0).ok)
include hg h0
theorem Run.h_same {i k : Nat} : ∀ {j : Nat}, k ≤ j → j ≤ ops.length → (∀ y, k ≤ y → y < j → ¬ R.touch y i) → (R.S j).h i = (R.S k).h i
  | 0, h, _, _ => by rw [show k = 0 from by omega]
  | j + 1, h, hj, hn => by
    rcases Nat.lt_or_ge k (j + 1) with hlt | hge
    · rw [R.same hg h0 (by omega) (hn j (by omega) (by omega))]
      exact Run.h_same (j := j) (by omega) (by omega) (fun y h1 h2 => hn y h1 (by omega))
    · rw [show k = j + 1 from by omega]
/-- Two cuts that fit tell the same. -/
theorem HCons.same {D : Nat → Prop} {i j l : Nat} (hj : j ≤ ops.length) (hl : l ≤ ops.length) (h : HCons R D i j) (h' : HCons R D i l) : (R.S j).h i = (R.S l).h i := by
  rcases Nat.le_total j l with hle | hle
  · refine (R.h_same hg h0 hle hl fun y h1 h2 ht => ?_).symm
    exact (h y (by omega) ht).2 h1 ((h' y (by omega) ht).1 h2)
  · refine R.h_same hg h0 hle hj fun y h1 h2 ht => ?_
    exact (h' y (by omega) ht).2 h1 ((h y (by omega) ht).1 h2)
omit hg h0 in
theorem HCons.of_with {D : Nat → Prop} {x i j : Nat} (hx : ¬ R.touch x i) (h : HCons R (with_ D x) i j) : HCons R D i j := by
  intro y hy ht
  have hne : y ≠ x := fun e => hx (e ▸ ht)
  obtain ⟨h1, h2⟩ := h y hy ht
  exact ⟨fun hl => (h1 hl).resolve_right hne, fun hl hd => h2 hl (.inl hd)⟩
omit hg h0 in
theorem TCons.of_with {D : Nat → Prop} {x : Nat} {t : Tmp} {j : Nat} (hx : ∀ o, ops[x]? = some o → o.dst ≠ some t) (h : TCons ops (with_ D x) t j) : TCons ops D t j := by
  intro y o hy ht
  have hne : y ≠ x := fun e => hx o (e ▸ hy) ht
  obtain ⟨h1, h2⟩ := h y o hy ht
  exact ⟨fun hl => (h1 hl).resolve_right hne, fun hl hd => h2 hl (.inl hd)⟩
/-- No operation that has run, and that stands behind x, touches what x touches. -/
theorem Inv.apart {ds : List Deferred} {β0 β : Map} {w0 w : World} {a : Act} {D : Nat → Prop} (hI : Inv R ds β0 w0 D β a w) {x y i : Nat} (hF : Fits R D x) (hxl : x < ops.length) (hy : x < y) (hD : D y) (hx : R.touch x i) (ht : R.touch y i) : False := by
  have hb := hF.ef2 y hy hD
  have hyl := hI.sub y hD
  have hmono : (R.S (x + 1)).n ≤ (R.S y).n := R.mono hg h0 (by omega) (by omega)
  have hgx := (R.good hg h0 hxl).n
  have hnew : ¬ ((R.S x).n ≤ i ∧ i < (R.S (x + 1)).n ∧ ∃ p, β i = some p) := by
    rintro ⟨h1, h2, p, hp⟩
    rcases hI.dom i p hp with ⟨h3, _⟩ | ⟨z, hz, h3, h4⟩
    · have := R.mono hg h0 (i := 0) (j := x) (by omega) (by omega); omega
    · have hzl := hI.sub z hz
      rcases Nat.lt_trichotomy z x with h5 | h5 | h5
      · have := R.mono hg h0 (i := z + 1) (j := x) (by omega) (by omega); omega
      · subst h5; exact hF.nd hz
      · have := R.mono hg h0 (i := x + 1) (j := z) (by omega) (by omega); omega
  unfold Run.touch Touch at hx ht
  cases hex : R.e x with
  | pure => rw [hex] at hx; exact hx
  | load k => rw [hex] at hx; exact hx
  | new =>
    rw [hex] at hx hb
    obtain ⟨h1, h2⟩ := hx
    cases hey : R.e y with
    | pure => rw [hey] at ht; exact ht
    | load k => rw [hey] at ht; exact ht
    | new => rw [hey] at ht; have := ht.1; omega
    | store k => rw [hey] at ht; simp only at ht; subst ht; exact hnew ⟨h1, h2, hI.st y k hD (.inl hey)⟩
    | app d r =>
      rw [hey] at ht
      rcases ht with ht | ht
      · subst ht; exact hnew ⟨h1, h2, hI.st y i hD (.inr ⟨r, hey⟩)⟩
      · omega
    | call p =>
      rw [hey] at ht hb
      obtain ⟨h3, h4 | h4⟩ := ht
      · omega
      · subst h4; simp [Eff.bad] at hb
  | store k =>
    have hlt := R.lt hg h0 hxl (i := k) (.inl hex)
    rw [hex] at hx hb
    simp only at hx
    subst hx
    cases hey : R.e y with
    | pure => rw [hey] at ht; exact ht
    | load k => rw [hey] at ht; exact ht
    | new => rw [hey] at ht; have := ht.1; omega
    | store k => rw [hey] at ht hb; simp only at ht; subst ht; simp [Eff.bad] at hb
    | app d r =>
      rw [hey] at ht hb
      rcases ht with ht | ht
      · subst ht; simp [Eff.bad] at hb
      · omega
    | call p => rw [hey] at hb; simp [Eff.bad] at hb
  | app d0 r0 =>
    have hlt : d0 = some i → i < (R.S x).n := fun h => R.lt hg h0 hxl (i := i) (.inr ⟨r0, by rw [hex, h]⟩)
    rw [hex] at hx hb
    cases hey : R.e y with
    | pure => rw [hey] at ht; exact ht
    | load k => rw [hey] at ht; exact ht
    | new =>
      rw [hey] at ht
      have := ht.1
      rcases hx with hx | hx
      · have := hlt hx; omega
      · omega
    | store k =>
      rw [hey] at ht hb
      simp only at ht
      subst ht
      rcases hx with hx | hx
      · subst hx; simp [Eff.bad] at hb
      · exact hnew ⟨hx.1, hx.2, hI.st y k hD (.inl hey)⟩
    | app d r =>
      rw [hey] at ht hb
      rcases ht with ht | ht
      · subst ht
        rcases hx with hx | hx
        · subst hx; simp [Eff.bad] at hb
        · exact hnew ⟨hx.1, hx.2, hI.st y i hD (.inr ⟨r, hey⟩)⟩
      · rcases hx with hx | hx
        · have := hlt hx; omega
        · omega
    | call p => rw [hey] at hb; simp [Eff.bad] at hb
  | call p0 =>
    rw [hex] at hx hb
    have h1 := hx.1
    cases hey : R.e y with
    | pure => rw [hey] at ht; exact ht
    | load k => rw [hey] at ht; exact ht
    | new => rw [hey] at ht; have := ht.1; omega
    | store k => rw [hey] at hb; simp [Eff.bad] at hb
    | app d r => rw [hey] at hb; simp [Eff.bad] at hb
    | call p => rw [hey] at hb; simp [Eff.bad] at hb

/-- What a touched block is behind x. -/
theorem Inv.touched {ds : List Deferred} {β0 β : Map} {w0 w : World} {a : Act} {D : Nat → Prop} (hI : Inv R ds β0 w0 D β a w) {x i j : Nat} (hF : Fits R D x) (hxl : x < ops.length) (hx : R.touch x i) (hj : j ≤ ops.length) (hc : HCons R (with_ D x) i j) : x < j ∧ (R.S j).h i = (R.S (x + 1)).h i := by
  obtain ⟨h1, h2⟩ := hc x hxl hx
  have hlt : x < j := by
    rcases Nat.lt_or_ge x j with h | h
    · exact h
    · exact absurd (.inr rfl) (h2 h)
  refine ⟨hlt, R.h_same hg h0 (by omega) hj fun y hy1 hy2 ht => ?_⟩
  rcases (hc y (by omega) ht).1 hy2 with hd | hd
  · exact hI.apart R hg h0 hF hxl (by omega) hd hx ht
  · omega
/-- The block behind x, of one that x touches or does not. -/
def Cur (D : Nat → Prop) (x i : Nat) (b : Blk) : Prop :=
  (R.touch x i ∧ (R.S (x + 1)).h i = some b) ∨ (¬ R.touch x i ∧ ∃ j, j ≤ ops.length ∧ HCons R D i j ∧ (R.S j).h i = some b)
theorem Inv.step {ds : List Deferred} {β0 β β1 : Map} {w0 w w1 : World} {a : Act} {D : Nat → Prop} (hI : Inv R ds β0 w0 D β a w) {x : Nat} {o : Oper} {u : Value} (ho : ops[x]? = some o) (hF : Fits R D x)
    (hle : Map.le β β1) (hnew : ∀ i p, β1 i = some p → β i = some p ∨ ((R.S x).n ≤ i ∧ i < (R.S (x + 1)).n ∧ R.touch x i))
    (hst : ∀ i, (R.e x = .store i ∨ ∃ r, R.e x = .app (some i) r) → ∃ p, β1 i = some p)
    (hu : (R.v x).rel (β1.cut (R.S (x + 1)).n) u)
    (hold : ∀ i j p b, ¬ R.touch x i → j ≤ ops.length → HCons R D i j → β i = some p → (R.S j).h i = some b → b.rel (β.cut (R.S j).n) w p → b.rel (β1.cut (R.S j).n) w1 p)
    (htouch : ∀ i p b, R.touch x i → β1 i = some p → (R.S (x + 1)).h i = some b → b.rel (β1.cut (R.S (x + 1)).n) w1 p)
    (hinj : ∀ i k p q b b', i ≠ k → β1 i = some p → β1 k = some q → Cur R D x i b → Cur R D x k b' → b.wr = true → p.b ≠ q.b)
    (hown : ∀ i p b, β1 i = some p → Cur R D x i b → b.wr = true → p.b < w0.heap.size → Owned β0 (R.S 0) p.b)
    (hlive : ∀ i p b, β1 i = some p → Cur R D x i b → p.b < w0.heap.size → Live β0 (R.S 0) p.b)
    (hsize : w0.heap.size ≤ w1.heap.size) (hframe : ∀ k, k < w0.heap.size → ¬ Owned β0 (R.S 0) k → w1.heap[k]? = w0.heap[k]?) (hos : w1.os = w0.os) (htape : w1.tape = w0.tape) (hout : w1.output = w0.output) :
    Inv R ds β0 w0 (with_ D x) β1 (a.put o.dst u) w1 := by
  have hxl : x < ops.length := (List.getElem?_eq_some_iff.1 ho).1
  have hcur : ∀ i j b, j ≤ ops.length → HCons R (with_ D x) i j → (R.S j).h i = some b → Cur R D x i b := by
    intro i j b hj hc hb
    by_cases ht : R.touch x i
    · exact .inl ⟨ht, by rw [← (hI.touched R hg h0 hF hxl ht hj hc).2]; exact hb⟩
    · exact .inr ⟨ht, j, hj, hc.of_with R ht, hb⟩
  refine ⟨?_, Map.le_trans hI.le hle, ?_, ?_, ?_, ?_, ?_, ?_, ?_, ?_, hsize, hframe, hos, htape, hout, ?_⟩
  · rintro y (hy | rfl)
    · exact hI.sub y hy
    · exact hxl
  · intro i p hp
    rcases hnew i p hp with h | ⟨h1, h2, _⟩
    · rcases hI.dom i p h with h | ⟨y, hy, h⟩
      · exact .inl h
      · exact .inr ⟨y, .inl hy, h⟩
    · exact .inr ⟨x, .inr rfl, h1, h2⟩
  · rintro y i (hy | rfl) he
    · obtain ⟨p, hp⟩ := hI.st y i hy he
      exact ⟨p, hle i p hp⟩
    · exact hst i he
  · rw [hI.tsz]
    cases o.dst <;> simp [Act.put]
  · intro t j v u' hj hc hv hu'
    have hTx : R.T (x + 1) = put (R.T x) o.dst (R.v x) := (R.at_ x o ho).T
    by_cases hd : o.dst = some t
    · have hlt : x < j := by
        rcases Nat.lt_or_ge x j with h | h
        · exact h
        · exact absurd (.inr rfl) ((hc x o ho hd).2 h)
      rw [R.T_same (i := x + 1) (by omega) hj (fun y o' h1 h2 hy hyd => by
        rcases (hc y o' hy hyd).1 h2 with h3 | h3
        · exact hF.wr o t ho hd y o' (by omega) h3 hy hyd
        · omega), hTx, hd] at hv
      have htl : t < (R.T x).length := by
        have := (List.getElem?_eq_some_iff.1 hv).1
        rw [put_length] at this
        exact this
      have hv' : R.v x = v := by
        simp only [put, List.getElem?_set_self htl] at hv
        exact Option.some.inj hv
      have htl' : t < a.tmps.size := by rw [← hI.tsz, ← R.T_length x (by omega)]; exact htl
      rw [hd] at hu'
      have hu2 : u = u' := by
        simp only [Act.put, Array.getElem?_setIfInBounds_self_of_lt htl'] at hu'
        exact Option.some.inj hu'
      subst hv' hu2
      exact Va.rel_mono (Map.cut_mono (Map.le_refl _) (R.mono hg h0 (by omega) hj)) hu
    · have hc' := hc.of_with (fun o' ho' hd' => hd (by rw [ho] at ho'; cases ho'; exact hd'))
      have hu2 : a.tmps[t]? = some u' := by
        cases hdst : o.dst with
        | none => rw [hdst] at hu'; exact hu'
        | some d =>
          rw [hdst] at hu' hd
          have hne : d ≠ t := fun e => hd (by rw [e])
          simp only [Act.put, Array.getElem?_setIfInBounds_ne hne] at hu'
          exact hu'
      exact Va.rel_mono (Map.cut_mono hle (Nat.le_refl _)) (hI.tm t j v u' hj hc' hv hu2)
  · intro i j p b hj hc hp hb
    by_cases ht : R.touch x i
    · obtain ⟨hlt, he⟩ := hI.touched R hg h0 hF hxl ht hj hc
      rw [he] at hb
      exact Blk.rel_mono (Map.cut_mono (Map.le_refl _) (R.mono hg h0 (by omega) hj)) (htouch i p b ht hp hb) rfl
    · have hc' := hc.of_with R ht
      have hp' : β i = some p := by
        rcases hnew i p hp with h | ⟨_, _, h⟩
        · exact h
        · exact absurd h ht
      exact hold i j p b ht hj hc' hp' hb (hI.blk i j p b hj hc' hp' hb)
  · intro i k j l p q b b' hne hj hl hc hc' hp hq hb hb' hw
    exact hinj i k p q b b' hne hp hq (hcur i j b hj hc hb) (hcur k l b' hl hc' hb') hw
  · intro i j p b hj hc hp hb hw hs
    exact hown i p b hp (hcur i j b hj hc hb) hw hs
  · intro i j p b hj hc hp hb hs
    exact hlive i p b hp (hcur i j b hj hc hb) hs
  · cases o.dst <;> exact hI.defers
end
end Go.V
