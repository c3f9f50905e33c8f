/- The evaluator's soundness, part 8: what a run of operations in the order of the text does to the virtual state. -/
import Derived.Test.YtemjdhglaljhbaaVAcc3
namespace Go.V
variable {P : Program} {E : Env}

def St.ok (S : St) : Prop := S.lo ≤ S.n ∧ ∀ i, S.n ≤ i → S.h i = none
/-- How a virtual state may go on. -/
structure Good (S S' : St) : Prop where
  n : S.n ≤ S'.n
  ok : S'.ok
  lo : S'.lo ≤ S.lo
  keep : ∀ i, i < S'.lo → S'.h i = S.h i
theorem Good.refl {S : St} (h : S.ok) : Good S S := ⟨Nat.le_refl _, h, Nat.le_refl _, fun _ _ => rfl⟩
theorem Good.trans {a b c : St} (h : Good a b) (h' : Good b c) : Good a c := ⟨Nat.le_trans h.n h'.n, h'.ok, Nat.le_trans h'.lo h.lo, fun i hi => (h'.keep i hi).trans (h.keep i (Nat.lt_of_lt_of_le hi h'.lo))⟩
def GoodCall (call : CallF) : Prop := ∀ f args S v S' p, call f args S = some (v, S', p) → S.ok → Good S S' ∧ (p = true → ∀ i, i < S.n → S'.h i = S.h i)

/-- Does the operation with this effect, run between n and n', touch the block i? -/
def Touch (n n' : Nat) (e : Eff) (i : Nat) : Prop :=
  match e with
  | .new => n ≤ i ∧ i < n'
  | .store k => k = i
  | .app d _ => d = some i ∨ (n ≤ i ∧ i < n')
  | .call p => i < n' ∧ (n ≤ i ∨ p = false)
  | _ => False

theorem St.new_h (S : St) (b : Blk) (j : Nat) : (S.new b).h j = if j = S.n then some b else S.h j := rfl
theorem St.set_h (S : St) (i : Nat) (b : Blk) (j : Nat) : (S.set i b).h j = if j = i then some b else S.h j := rfl
theorem St.kill_h (S : St) (i : Nat) (j : Nat) : (S.kill i).h j = if j = i then none else S.h j := rfl
theorem Good.new {S : St} (h : S.ok) (b : Blk) : Good S (S.new b) := by
  obtain ⟨h1, h2⟩ := h
  refine ⟨Nat.le_succ _, ⟨Nat.le_succ_of_le h1, fun i hi => ?_⟩, Nat.le_refl _, fun i hi => ?_⟩
  · have hi : S.n + 1 ≤ i := hi
    rw [St.new_h, if_neg (by omega)]
    exact h2 i (by omega)
  · have hi : i < S.lo := hi
    rw [St.new_h, if_neg (by omega)]
theorem Good.set {S : St} (h : S.ok) {i : Nat} (hi : i < S.n) (b : Blk) : Good S (S.set i b) := by
  obtain ⟨h1, h2⟩ := h
  refine ⟨Nat.le_refl _, ⟨Nat.le_trans (Nat.min_le_left _ _) h1, fun j hj => ?_⟩, Nat.min_le_left _ _, fun j hj => ?_⟩
  · have hj : S.n ≤ j := hj
    rw [St.set_h, if_neg (by omega)]
    exact h2 j hj
  · have hj : j < min S.lo i := hj
    rw [St.set_h, if_neg (by omega)]
theorem Good.kill {S : St} (h : S.ok) (i : Nat) : Good S (S.kill i) := by
  obtain ⟨h1, h2⟩ := h
  refine ⟨Nat.le_refl _, ⟨Nat.le_trans (Nat.min_le_left _ _) h1, fun j hj => ?_⟩, Nat.min_le_left _ _, fun j hj => ?_⟩
  · have hj : S.n ≤ j := hj
    rw [St.kill_h]
    split
    · rfl
    · exact h2 j hj
  · have hj : j < min S.lo i := hj
    rw [St.kill_h, if_neg (by omega)]
/-- How an access runs. -/
theorem Acc.run_good {A : Acc} {S S' : St} {v : Va} {e : Eff} (h : A.run S = some (v, S', e)) (ho : S.ok) : Good S S' ∧ (∀ i, ¬ Touch S.n S'.n e i → S'.h i = S.h i) ∧ ∀ i, (e = .store i ∨ ∃ r, e = .app (some i) r) → i < S.n := by
  have hlt : ∀ {i b}, S.h i = some b → i < S.n := by
    intro i b hb
    rcases Nat.lt_or_ge i S.n with h | h
    · exact h
    · rw [ho.2 i h] at hb; cases hb
  cases A with
  | val x => simp only [Acc.run] at h; cases h; exact ⟨.refl ho, fun _ _ => rfl, fun i hi => by rcases hi with h | ⟨r, h⟩ <;> cases h⟩
  | new b f =>
    simp only [Acc.run] at h
    cases h
    refine ⟨.new ho b, fun i hi => ?_, fun i hi => by rcases hi with h | ⟨r, h⟩ <;> cases h⟩
    rw [St.new_h, if_neg]
    intro e
    exact hi ⟨by omega, by show i < S.n + 1; omega⟩
  | load i k =>
    simp only [Acc.run, Option.bind_eq_bind] at h
    obtain ⟨b, hb, h⟩ := bind_some h
    obtain ⟨x, hx, h⟩ := bind_some h
    cases h
    exact ⟨.refl ho, fun _ _ => rfl, fun i hi => by rcases hi with h | ⟨r, h⟩ <;> cases h⟩
  | store i k =>
    simp only [Acc.run, Option.bind_eq_bind] at h
    obtain ⟨b, hb, h⟩ := bind_some h
    obtain ⟨x, hx, h⟩ := bind_some h
    split at h
    · cases h
      refine ⟨.set ho (hlt hb) _, fun j hj => ?_, fun j hj => ?_⟩
      · rw [St.set_h, if_neg]
        intro e
        exact hj e.symm
      · rcases hj with h | ⟨r, h⟩
        · cases h; exact hlt hb
        · cases h
    · cases h
  | app s bytes p n q m =>
    simp only [Acc.run, Option.bind_eq_bind] at h
    split at h
    · cases h; exact ⟨.refl ho, fun _ _ => rfl, fun i hi => by rcases hi with h | ⟨r, h⟩ <;> cases h⟩
    · obtain ⟨new, hnew, h⟩ := bind_some h
      split at h
      · cases p with
        | none =>
          simp only at h
          split at h
          · cases h
            refine ⟨.new ho _, fun i hi => ?_, fun i hi => by rcases hi with h | ⟨r, h⟩ <;> cases h⟩
            rw [St.new_h, if_neg]
            intro e
            exact hi (.inr ⟨by omega, by show i < S.n + 1; omega⟩)
          · cases h
        | some p =>
          obtain ⟨i, o⟩ := p
          simp only at h
          obtain ⟨b, hb, h⟩ := bind_some h
          split at h
          · cases h
            refine ⟨(Good.kill ho i).trans (.new (Good.kill ho i).ok _), fun j hj => ?_, fun j hj => ?_⟩
            · rw [St.new_h, if_neg, St.kill_h, if_neg]
              · intro e; exact hj (.inl (by rw [e]))
              · intro e
                have e : j = S.n := e
                exact hj (.inr ⟨by omega, by show j < S.n + 1; omega⟩)
            · rcases hj with h | ⟨r, h⟩
              · cases h
              · cases h; exact hlt hb
          · cases h
      · cases h

/-- One operation in the order of the text. -/
def StepAt (E : Env) (call : CallF) (all : List Oper) (o : Oper) (T : List Va) (S : St) (v : Va) (e : Eff) (T' : List Va) (S' : St) : Prop :=
  (wanted all o T = some true ∧ xStep E call o T S = some (v, S', e) ∧ okEff o e = true ∧ T' = put T o.dst v) ∨
  (wanted all o T = some false ∧ v = .n ∧ S' = S ∧ e = .pure ∧ T' = put T o.dst v)
structure Run (E : Env) (call : CallF) (ops : List Oper) where
  T : Nat → List Va
  S : Nat → St
  v : Nat → Va
  e : Nat → Eff
  at_ : ∀ j o, ops[j]? = some o → StepAt E call ops o (T j) (S j) (v j) (e j) (T (j + 1)) (S (j + 1))
theorem xOps_run {call : CallF} {all : List Oper} : ∀ {ops : List Oper} {T T' : List Va} {S S' : St} {es : List Eff}, xOps E call all ops T S = some (T', S', es) →
    ∃ (Ts : Nat → List Va) (Ss : Nat → St) (vs : Nat → Va), Ts 0 = T ∧ Ss 0 = S ∧ Ts ops.length = T' ∧ Ss ops.length = S' ∧ ∀ j o, ops[j]? = some o → StepAt E call all o (Ts j) (Ss j) (vs j) (es.getD j .pure) (Ts (j + 1)) (Ss (j + 1))
  | [], T, T', S, S', es, h => by
    simp only [xOps] at h
    cases h
    exact ⟨fun _ => T, fun _ => S, fun _ => .u, rfl, rfl, rfl, rfl, fun j o h => by simp at h⟩
  | o :: rest, T, T', S, S', es, h => by
    simp only [xOps, Option.bind_eq_bind] at h
    obtain ⟨w, hw, h⟩ := bind_some h
    have key : ∀ v T1 S1 e es1, xOps E call all rest T1 S1 = some (T', S', es1) → StepAt E call all o T S v e T1 S1 → es = e :: es1 →
        ∃ (Ts : Nat → List Va) (Ss : Nat → St) (vs : Nat → Va), Ts 0 = T ∧ Ss 0 = S ∧ Ts (o :: rest).length = T' ∧ Ss (o :: rest).length = S' ∧ ∀ j o', (o :: rest)[j]? = some o' → StepAt E call all o' (Ts j) (Ss j) (vs j) (es.getD j .pure) (Ts (j + 1)) (Ss (j + 1)) := by
      intro v T1 S1 e es1 h1 h2 h3
      obtain ⟨Ts, Ss, vs, a1, a2, a3, a4, a5⟩ := xOps_run h1
      refine ⟨fun j => match j with | 0 => T | j + 1 => Ts j, fun j => match j with | 0 => S | j + 1 => Ss j, fun j => match j with | 0 => v | j + 1 => vs j, rfl, rfl, a3, a4, fun j o' hj => ?_⟩
      cases j with
      | zero =>
        simp at hj
        subst hj
        subst h3
        simp only [List.getD_cons_zero, a1, a2]
        exact h2
      | succ j =>
        subst h3
        simp only [List.getD_cons_succ]
        exact a5 j o' (by simpa using hj)
    cases w with
    | true =>
      simp only [if_true] at h
      obtain ⟨⟨v, S1, e⟩, hs, h⟩ := bind_some h
      simp only at h
      split at h
      · rename_i hc
        obtain ⟨⟨T2, S2, es1⟩, hr, h⟩ := bind_some h
        cases h
        simp only [Bool.and_eq_true] at hc
        exact key v _ _ e es1 hr (.inl ⟨hw, hs, hc.2, rfl⟩) rfl
      · cases h
    | false =>
      simp only [Bool.false_eq_true, if_false] at h
      obtain ⟨⟨T2, S2, es1⟩, hr, h⟩ := bind_some h
      cases h
      exact key .n _ _ .pure es1 hr (.inr ⟨hw, rfl, rfl, rfl, rfl⟩) rfl
theorem isCall_callee {o : Oper} (h : isCall o = true) : ∃ f args ats, o.op = .call ⟨.value f, args, ats⟩ := by
  unfold isCall at h
  split at h
  · rename_i f args ats hop; exact ⟨f, args, ats, hop⟩
  · cases h
theorem xStep_cases {call : CallF} {o : Oper} {T : List Va} {S S' : St} {v : Va} {e : Eff} (h : xStep E call o T S = some (v, S', e)) :
    (isCall o = false ∧ ∃ A, acc E o T = some A ∧ A.run S = some (v, S', e)) ∨
    (∃ f args ats g caps xs p, o.op = .call ⟨.value f, args, ats⟩ ∧ callee? T (.value f) = some (g, caps) ∧ evXs T args.toList = some xs ∧ call g (xs ++ caps) S = some (v, S', p) ∧ e = .call p) := by
  unfold xStep at h
  split at h
  · rename_i f args ats hop
    simp only [Option.bind_eq_bind] at h
    obtain ⟨⟨g, caps⟩, hg, h⟩ := bind_some h
    obtain ⟨xs, hxs, h⟩ := bind_some h
    obtain ⟨⟨v1, S1, p⟩, hc, h⟩ := bind_some h
    cases h
    exact .inr ⟨f, args, ats, g, caps, xs, p, hop, hg, hxs, hc, rfl⟩
  · rename_i hno
    left
    refine ⟨?_, ?_⟩
    · cases hc : isCall o with
      | false => rfl
      | true => obtain ⟨f, args, ats, hop⟩ := isCall_callee hc; exact absurd hop (hno f args ats)
    · unfold xOp at h
      obtain ⟨A, hA, hr⟩ := bind_some h
      exact ⟨A, hA, hr⟩
theorem StepAt.good {call : CallF} (hg : GoodCall call) {all : List Oper} {o : Oper} {T T' : List Va} {S S' : St} {v : Va} {e : Eff} (h : StepAt E call all o T S v e T' S') (ho : S.ok) : Good S S' ∧ (∀ i, ¬ Touch S.n S'.n e i → S'.h i = S.h i) ∧ ∀ i, (e = .store i ∨ ∃ r, e = .app (some i) r) → i < S.n := by
  rcases h with ⟨_, hs, _, _⟩ | ⟨_, _, rfl, _, _⟩
  · rcases xStep_cases hs with ⟨_, A, _, hr⟩ | ⟨f, args, ats, g, caps, xs, p, _, _, _, hc, rfl⟩
    · exact Acc.run_good hr ho
    · obtain ⟨h1, h2⟩ := hg _ _ _ _ _ _ hc ho
      refine ⟨h1, fun i hi => ?_, fun i hi => by rcases hi with h | ⟨r, h⟩ <;> cases h⟩
      rcases Nat.lt_or_ge i S'.n with hlt | hge
      · cases p with
        | false => exact absurd ⟨hlt, .inr rfl⟩ hi
        | true =>
          rcases Nat.lt_or_ge i S.n with hlt' | hge'
          · exact h2 rfl i hlt'
          · exact absurd ⟨hlt, .inl hge'⟩ hi
      · rw [h1.ok.2 i hge, ho.2 i (Nat.le_trans h1.n hge)]
  · exact ⟨.refl ho, fun _ _ => rfl, fun i hi => by rename_i he _; subst he; rcases hi with h | ⟨r, h⟩ <;> cases h⟩
section
variable {call : CallF} {ops : List Oper} (R : Run E call ops) (hg : GoodCall call) (h0 : (R.S 0).ok)
include hg h0
theorem Run.ok : ∀ j, j ≤ ops.length → (R.S j).ok
  | 0, _ => h0
  | j + 1, hj => by
    have ho := Run.ok j (by omega)
    exact ((R.at_ j ops[j] (List.getElem?_eq_getElem (by omega))).good hg ho).1.ok
theorem Run.good {j : Nat} (hj : j < ops.length) : Good (R.S j) (R.S (j + 1)) := ((R.at_ j ops[j] (List.getElem?_eq_getElem hj)).good hg (R.ok hg h0 j (by omega))).1
theorem Run.same {j i : Nat} (hj : j < ops.length) (h : ¬ Touch (R.S j).n (R.S (j + 1)).n (R.e j) i) : (R.S (j + 1)).h i = (R.S j).h i := ((R.at_ j ops[j] (List.getElem?_eq_getElem hj)).good hg (R.ok hg h0 j (by omega))).2.1 i h
theorem Run.lt {j i : Nat} (hj : j < ops.length) (h : R.e j = .store i ∨ ∃ r, R.e j = .app (some i) r) : i < (R.S j).n := ((R.at_ j ops[j] (List.getElem?_eq_getElem hj)).good hg (R.ok hg h0 j (by omega))).2.2 i h
theorem Run.mono {i : Nat} : ∀ {j : Nat}, i ≤ j → j ≤ ops.length → (R.S i).n ≤ (R.S j).n
  | 0, h, _ => by rw [show i = 0 from by omega]; exact Nat.le_refl _
  | j + 1, h, hj => by
    rcases Nat.lt_or_ge i (j + 1) with hlt | hge
    · exact Nat.le_trans (Run.mono (j := j) (by omega) (by omega)) (R.good hg h0 (by omega)).n
    · rw [show i = j + 1 from by omega]; exact Nat.le_refl _
theorem Run.all_good : ∀ {j : Nat}, j ≤ ops.length → Good (R.S 0) (R.S j)
  | 0, _ => .refl h0
  | j + 1, hj => (Run.all_good (j := j) (by omega)).trans (R.good hg h0 (by omega))
end
end Go.V
