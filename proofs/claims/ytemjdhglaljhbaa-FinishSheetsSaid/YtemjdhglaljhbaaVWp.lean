/- Walking with the evaluator: what code comes to, rule by rule. -/
import Derived.Test.YtemjdhglaljhbaaVFacts
namespace Go.V
variable {E : Env}

/-! ### What a call comes to -/
open Classical in
/-- What a call answers, with rounds enough. -/
noncomputable def res (E : Env) (ys : Yls) (g : Fun) (args : List X) (S : St) : Option (Va × St × Bool) :=
  if h : ∃ r, ∃ K, ∀ k, K ≤ k → xCall E k ys g args S = some r then some h.choose else none
theorem res_of {ys : Yls} {g : Fun} {args : List X} {S : St} {r : Va × St × Bool} (h : ∃ K, ∀ k, K ≤ k → xCall E k ys g args S = some r) : res E ys g args S = some r := by
  have hx : ∃ r, ∃ K, ∀ k, K ≤ k → xCall E k ys g args S = some r := ⟨r, h⟩
  unfold res
  rw [dif_pos hx]
  obtain ⟨K, hK⟩ := h
  obtain ⟨K', hK'⟩ := hx.choose_spec
  have h1 := hK (max K K') (Nat.le_max_left _ _)
  have h2 := hK' (max K K') (Nat.le_max_right _ _)
  rw [h1] at h2
  exact h2.symm
theorem of_res {ys : Yls} {g : Fun} {args : List X} {S : St} {r : Va × St × Bool} (h : res E ys g args S = some r) : ∃ K, ∀ k, K ≤ k → xCall E k ys g args S = some r := by
  unfold res at h
  split at h
  · rename_i hx
    cases h
    exact hx.choose_spec
  · cases h

theorem res_G {ys : Yls} {f : FuncId} {args : List X} {S : St} {g : List X → St → Option (Va × St × Bool)} {r : Va × St × Bool} (h : E.G f = some g) (hg : g args S = some r) : res E ys (.f f) args S = some r := by
  refine res_of ⟨1, fun k hk => ?_⟩
  obtain ⟨k, rfl⟩ : ∃ m, k = m + 1 := ⟨k - 1, by omega⟩
  simp only [xCall, h, hg]
/-! ### Words of the walk. What is to be done next stands in an instance's place: simp does not look into it. -/
class K1 (α : Type) where
  run : α → Prop
class KP where
  run : Prop
class KS where
  run : List Va → St → List Eff → Prop
class KQ where
  run : Ex → List Va → St → Prop
@[simp] theorem K1_run {α : Type} (g : α → Prop) (a : α) : @K1.run α ⟨g⟩ a = g a := of_eq_true (eq_self _)
@[simp] theorem KS_run (g : List Va → St → List Eff → Prop) (T : List Va) (S : St) (es : List Eff) : @KS.run ⟨g⟩ T S es = g T S es := of_eq_true (eq_self _)
@[simp] theorem KQ_run (g : Ex → List Va → St → Prop) (e : Ex) (T : List Va) (S : St) : @KQ.run ⟨g⟩ e T S = g e T S := of_eq_true (eq_self _)
def Rn {α : Type} (x : Option α) [f : K1 α] : Prop := ∃ a, x = some a ∧ f.run a
theorem Rn_iff {α : Type} (x : Option α) (f : α → Prop) : @Rn α x ⟨f⟩ = ∃ a, x = some a ∧ f a := rfl
@[simp] theorem Rn_some {α : Type} (a : α) (f : α → Prop) : @Rn α (some a) ⟨f⟩ = f a := by simp [Rn]
@[simp] theorem Rn_none {α : Type} (f : K1 α) : @Rn α none f = False := by simp [Rn]
theorem Rn_ite {α : Type} {c : Prop} [Decidable c] {a b : Option α} {f : K1 α} : @Rn α (if c then a else b) f = if c then @Rn α a f else @Rn α b f := by split <;> rfl
def Lt {α : Type} (x : α) [f : K1 α] : Prop := f.run x
@[simp] theorem Lt_eval {α : Type} (x : α) (f : α → Prop) : @Lt α x ⟨f⟩ = f x := of_eq_true (eq_self _)
/-- Two ways. -/
def Br (c : Bool) [A : KP] [B : KP] : Prop := (c = true → A.run) ∧ (c = false → B.run)
@[simp] theorem Br_true (A : Prop) (B : KP) : @Br true ⟨A⟩ B = A := by simp [Br]
@[simp] theorem Br_false (A : KP) (B : Prop) : @Br false A ⟨B⟩ = B := by simp [Br]
@[simp] theorem Br_not (c : Bool) (A B : KP) : @Br (!c) A B = @Br c B A := by cases c <;> simp [Br]
theorem Br_i {c : Bool} {A B : Prop} (h1 : c = true → A) (h2 : c = false → B) : @Br c ⟨A⟩ ⟨B⟩ := ⟨h1, h2⟩
/-- A step: an operation, under a guard, into a temporary. -/
structure Stp where
  g : Option (Tmp × Bool)
  d : Option Tmp
  op : Op
def gOf (all : List Oper) (o : Oper) : Option (Option (Tmp × Bool)) :=
  match o.guard with
  | none => some none
  | some (j, b) => (all[j]?).bind fun g => g.dst.map fun d => some (d, b)
def stps (all : List Oper) : List Oper → Option (List Stp)
  | [] => some []
  | o :: l => (gOf all o).bind fun g => (stps all l).map fun r => ⟨g, o.dst, o.op⟩ :: r
def dstOk (N : Nat) : List Oper → Bool
  | [] => true
  | o :: l => o.dst.all (· < N) && dstOk N l
def want (g : Option (Tmp × Bool)) (T : List Va) : Option Bool :=
  match g with
  | none => some true
  | some (d, b) => match T[d]? with
    | some (.x (.c (.bool c))) => some (c == b)
    | some .n => some false
    | _ => none
/-- An operation as a step has it. -/
def Stp.oper (s : Stp) : Oper := { dst := s.d, op := s.op, type := 0, pos := "", after := #[], guard := none }
noncomputable def stepR (E : Env) (ys : Yls) (s : Stp) (T : List Va) (S : St) : Option (Va × St × Eff) := xStep E (res E ys) s.oper T S
def WpS (E : Env) (ys : Yls) : List Stp → List Va → St → List Eff → [KS] → Prop
  | [], T, S, es, Q => Q.run T S es.reverse
  | s :: l, T, S, es, Q => @Rn _ (want s.g T) ⟨fun b =>
    if b then @Rn _ (stepR E ys s T S) ⟨fun r => okEff s.oper r.2.2 = true ∧ @WpS E ys l (put T s.d r.1) r.2.1 (r.2.2 :: es) Q⟩
    else @WpS E ys l (put T s.d .n) S (.pure :: es) Q⟩
/-- Code, its regions as steps. -/
inductive Sk where
  | skip
  | reg (id : Nat) (draw : Bool) (l : List Stp)
  | seq (a b : Sk)
  | cond (c : Operand) (a b : Sk)
  | block (id : Nat) (a : Sk)
  | loop (a : Sk)
  | rangeFunc (g : Operand) (ps : List Tmp) (assign body : Code)
  | exit (id : Nat)
  | ret
/-- N: how many temporaries there are. -/
def skOf (N : Nat) : Code → Option Sk
  | .skip => some .skip
  | .region id ops draw => if dstOk N ops.toList then (stps ops.toList ops.toList).map fun l => .reg id draw l else none
  | .seq a b => (skOf N a).bind fun x => (skOf N b).map fun y => .seq x y
  | .cond c a b => (skOf N a).bind fun x => (skOf N b).map fun y => .cond c x y
  | .block id a => (skOf N a).map fun x => .block id x
  | .loop a => (skOf N a).map fun x => .loop x
  | .rangeFunc g ps assign body => some (.rangeFunc g ps.toList assign body)
  | .exit id => some (.exit id)
  | .ret => some .ret
  | _ => none
/-- The loop's rounds. -/
def rounds (W : List Va → St → (Ex → List Va → St → Prop) → Prop) (Q : KQ) : Nat → List Va → St → Prop
  | 0, _, _ => False
  | n + 1, T, S => W T S fun e T' S' => match e with
    | .nx => rounds W Q n T' S'
    | e => Q.run e T' S'
def gfOf (E : Env) (v : Option X) : Option (FuncId × List (Nat × Nat)) :=
  match v with
  | some (.c (.fn gf caps)) => if (E.fn gf).any (·.body.isSome) then some (gf, caps) else none
  | _ => none
/-- What code comes to. -/
def Wp (E : Env) (f : FuncId) (ys : Yls) (rnd : Bool) : Sk → List Va → St → [KQ] → Prop
  | .skip, T, S, Q => Q.run .nx T S
  | .reg id draw l, T, S, Q => @WpS E ys l T S [] ⟨fun T' S' es => (draw = true → fine (E.cd f id) es = true) ∧ Q.run .nx T' S'⟩
  | .seq a b, T, S, Q => @Wp E f ys rnd a T S ⟨fun e T' S' => match e with
    | .nx => @Wp E f ys rnd b T' S' Q
    | e => Q.run e T' S'⟩
  | .cond c a b, T, S, Q => @Rn _ (evB T c) ⟨fun t => @Br t ⟨@Wp E f ys rnd a T S Q⟩ ⟨@Wp E f ys rnd b T S Q⟩⟩
  | .block id c, T, S, Q => @Wp E f ys rnd c T S ⟨fun e T' S' => match e with
    | .ex id' => Q.run (if id' = id then .nx else .ex id') T' S'
    | e => Q.run e T' S'⟩
  | .loop c, T, S, Q => ∃ n, rounds (fun T S q => @Wp E f ys rnd c T S ⟨q⟩) Q n T S
  | .rangeFunc g ps assign body, T, S, Q => rnd = false ∧ @Rn _ (gfOf E (evX T g)) ⟨fun q =>
    @Rn _ (res E (fun j => if j = S.n then some ⟨f, T, ps, assign, body⟩ else ys j) (.f q.1) (.c (.yl S.n) :: q.2.map fun p => .c (.ptr (some p))) { S with n := S.n + 1 }) ⟨fun r => Q.run .nx T r.2.1⟩⟩
  | .exit id, T, S, Q => Q.run (.ex id) T S
  | .ret, T, S, Q => Q.run .rt T S

/-! ### It is so -/
theorem want_wanted {all : List Oper} {o : Oper} {g : Option (Tmp × Bool)} (h : gOf all o = some g) (T : List Va) : wanted all o T = want g T := by
  unfold gOf at h
  unfold wanted
  split at h
  · rename_i hg
    cases h
    rw [hg]
    rfl
  · rename_i j b hg
    obtain ⟨x, hx, h⟩ := bind_some h
    obtain ⟨d, hd, h⟩ := map_some h
    subst h
    rw [hg]
    simp only [hx, hd, Option.bind_eq_bind, Option.bind_some, want]
    cases hT : T[d]? with
    | none => rfl
    | some v => cases v with
      | x v => cases v with
        | c v => cases v <;> rfl
        | a v => rfl
      | _ => rfl
theorem xStep_res {ys : Yls} {o : Oper} {T : List Va} {S : St} {r : Va × St × Eff} (h : xStep E (res E ys) o T S = some r) : ∃ K, ∀ k, K ≤ k → xStep E (xCall E k ys) o T S = some r := by
  unfold xStep at h ⊢
  split at h
  · simp only [Option.bind_eq_bind] at h
    obtain ⟨⟨g, caps⟩, hg, h⟩ := bind_some h
    obtain ⟨xs, hxs, h⟩ := bind_some h
    obtain ⟨⟨v, S', p⟩, hc, h⟩ := bind_some h
    obtain ⟨K, hK⟩ := of_res hc
    refine ⟨K, fun k hk => ?_⟩
    simp only [Option.bind_eq_bind, hg, hxs, Option.bind_some, hK k hk]
    exact h
  · exact ⟨0, fun _ _ => h⟩
theorem stepR_of {ys : Yls} {o : Oper} {g : Option (Tmp × Bool)} {T : List Va} {S : St} : stepR E ys ⟨g, o.dst, o.op⟩ T S = xStep E (res E ys) o T S := by
  unfold stepR xStep Stp.oper
  obtain ⟨d, op, ty, pos, af, gu⟩ := o
  cases op <;> rfl
theorem okEff_of {o : Oper} {g : Option (Tmp × Bool)} {e : Eff} : okEff (Stp.oper ⟨g, o.dst, o.op⟩) e = okEff o e := by
  obtain ⟨d, op, ty, pos, af, gu⟩ := o
  cases e <;> rfl
theorem WpS_ok {ys : Yls} {all : List Oper} : ∀ {ops : List Oper} {l : List Stp} {T : List Va} {S : St} {es : List Eff} {Q : KS}, stps all ops = some l → dstOk T.length ops = true → WpS E ys l T S es →
    ∃ T' S' es', (∃ K, ∀ k, K ≤ k → xOps E (xCall E k ys) all ops T S = some (T', S', es')) ∧ T'.length = T.length ∧ Q.run T' S' (es.reverse ++ es')
  | [], l, T, S, es, Q, hl, _, h => by
    cases hl
    exact ⟨T, S, [], ⟨0, fun _ _ => rfl⟩, rfl, by simpa [WpS] using h⟩
  | o :: ops, l, T, S, es, Q, hl, hd, h => by
    simp only [stps] at hl
    obtain ⟨g, hg, hl⟩ := bind_some hl
    obtain ⟨r, hr, hl⟩ := map_some hl
    subst hl
    simp only [dstOk, Bool.and_eq_true] at hd
    simp only [WpS, Rn_iff] at h
    obtain ⟨b, hb, h⟩ := h
    have hw := want_wanted hg T
    cases b with
    | true =>
      simp only [if_true] at h
      obtain ⟨⟨v, S1, e⟩, hx, he, h⟩ := h
      simp only at he h
      rw [stepR_of] at hx
      rw [okEff_of] at he
      obtain ⟨T', S', es', ⟨K, hK⟩, hlen, hQ⟩ := WpS_ok hr (by rw [put_length]; exact hd.2) h
      obtain ⟨K1, hK1⟩ := xStep_res hx
      refine ⟨T', S', e :: es', ⟨max K K1, fun k hk => ?_⟩, by rw [hlen, put_length], by simpa using hQ⟩
      simp only [xOps, hw, hb, Option.bind_eq_bind, Option.bind_some, if_true, hK1 k (Nat.le_trans (Nat.le_max_right _ _) hk), hd.1, he, Bool.and_self, hK k (Nat.le_trans (Nat.le_max_left _ _) hk)]
    | false =>
      simp only [Bool.false_eq_true, if_false] at h
      obtain ⟨T', S', es', ⟨K, hK⟩, hlen, hQ⟩ := WpS_ok hr (by rw [put_length]; exact hd.2) h
      refine ⟨T', S', .pure :: es', ⟨K, fun k hk => ?_⟩, by rw [hlen, put_length], by simpa using hQ⟩
      simp only [xOps, hw, hb, Option.bind_eq_bind, Option.bind_some, Bool.false_eq_true, if_false, hK k hk]
theorem iter_more {f : List Va → St → Option (Ex × List Va × St)} {r : Ex × List Va × St} : ∀ {n : Nat} {T : List Va} {S : St}, iter f n T S = some r → ∀ m, n ≤ m → iter f m T S = some r
  | 0, _, _, h, _, _ => by simp [iter] at h
  | n + 1, T, S, h, m, hm => by
    obtain ⟨m, rfl⟩ : ∃ k, m = k + 1 := ⟨m - 1, by omega⟩
    simp only [iter] at h ⊢
    split at h
    · exact iter_more h m (by omega)
    · exact h
theorem Wp_ok {f : FuncId} {ys : Yls} {rnd : Bool} {N : Nat} : ∀ {c : Code} {k : Sk} {T : List Va} {S : St} {Q : KQ}, skOf N c = some k → T.length = N → Wp E f ys rnd k T S →
    ∃ e T' S', (∃ K, ∀ k, K ≤ k → xCode E (E.cd f) (xCall E k) ys f rnd k c T S = some (e, T', S')) ∧ T'.length = N ∧ Q.run e T' S' := by
  intro c
  induction c with
  | skip => intro k T S Q hk hT h; cases hk; exact ⟨.nx, T, S, ⟨0, fun _ _ => rfl⟩, hT, h⟩
  | exit id => intro k T S Q hk hT h; cases hk; exact ⟨.ex id, T, S, ⟨0, fun _ _ => rfl⟩, hT, h⟩
  | ret => intro k T S Q hk hT h; cases hk; exact ⟨.rt, T, S, ⟨0, fun _ _ => rfl⟩, hT, h⟩
  | region id ops draw =>
    intro k T S Q hk hT h
    simp only [skOf] at hk
    split at hk
    · rename_i hd
      obtain ⟨l, hl, hk⟩ := map_some hk
      subst hk
      rw [← hT] at hd
      simp only [Wp] at h
      obtain ⟨T', S', es', ⟨K, hK⟩, hlen, hf, hQ⟩ := WpS_ok hl hd h
      refine ⟨.nx, T', S', ⟨K, fun k hk => ?_⟩, hlen.trans hT, hQ⟩
      simp only [xCode, hK k hk, Option.bind_eq_bind, Option.bind_some]
      split
      · rename_i hx
        simp only [Bool.and_eq_true, Bool.not_eq_true'] at hx
        have := hf hx.1
        simp only [List.reverse_nil, List.nil_append] at this
        rw [this] at hx
        cases hx.2
      · rfl
    · cases hk
  | seq a b iha ihb =>
    intro k T S Q hk hT h
    simp only [skOf] at hk
    obtain ⟨ka, hka, hk⟩ := bind_some hk
    obtain ⟨kb, hkb, hk⟩ := map_some hk
    subst hk
    simp only [Wp] at h
    obtain ⟨e, T1, S1, ⟨K, hK⟩, hlen, h⟩ := iha hka hT h
    cases e with
    | nx =>
      simp only at h
      obtain ⟨e, T2, S2, ⟨K2, hK2⟩, hlen2, h⟩ := ihb hkb hlen h
      refine ⟨e, T2, S2, ⟨max K K2, fun k hk => ?_⟩, hlen2, h⟩
      simp only [xCode, hK k (Nat.le_trans (Nat.le_max_left _ _) hk), hK2 k (Nat.le_trans (Nat.le_max_right _ _) hk)]
    | ex id => exact ⟨_, T1, S1, ⟨K, fun k hk => by simp only [xCode, hK k hk]⟩, hlen, h⟩
    | rt => exact ⟨_, T1, S1, ⟨K, fun k hk => by simp only [xCode, hK k hk]⟩, hlen, h⟩
  | cond c a b iha ihb =>
    intro k T S Q hk hT h
    simp only [skOf] at hk
    obtain ⟨ka, hka, hk⟩ := bind_some hk
    obtain ⟨kb, hkb, hk⟩ := map_some hk
    subst hk
    simp only [Wp, Rn_iff] at h
    obtain ⟨t, ht, h1, h2⟩ := h
    cases t with
    | true =>
      obtain ⟨e, T1, S1, ⟨K, hK⟩, hlen, h⟩ := iha hka hT (h1 rfl)
      exact ⟨e, T1, S1, ⟨K, fun k hk => by simp only [xCode, ht, Option.bind_eq_bind, Option.bind_some, if_true, hK k hk]⟩, hlen, h⟩
    | false =>
      obtain ⟨e, T1, S1, ⟨K, hK⟩, hlen, h⟩ := ihb hkb hT (h2 rfl)
      exact ⟨e, T1, S1, ⟨K, fun k hk => by simp only [xCode, ht, Option.bind_eq_bind, Option.bind_some, Bool.false_eq_true, if_false, hK k hk]⟩, hlen, h⟩
  | block id c ih =>
    intro k T S Q hk hT h
    simp only [skOf] at hk
    obtain ⟨ka, hka, hk⟩ := map_some hk
    subst hk
    simp only [Wp] at h
    obtain ⟨e, T1, S1, ⟨K, hK⟩, hlen, h⟩ := ih hka hT h
    cases e with
    | nx => exact ⟨_, T1, S1, ⟨K, fun k hk => by simp only [xCode, hK k hk]⟩, hlen, h⟩
    | ex id' => exact ⟨_, T1, S1, ⟨K, fun k hk => by simp only [xCode, hK k hk]⟩, hlen, h⟩
    | rt => exact ⟨_, T1, S1, ⟨K, fun k hk => by simp only [xCode, hK k hk]⟩, hlen, h⟩
  | loop c ih =>
    intro k T S Q hk hT h
    simp only [skOf] at hk
    obtain ⟨ka, hka, hk⟩ := map_some hk
    subst hk
    simp only [Wp] at h
    obtain ⟨n, h⟩ := h
    have key : ∀ (n : Nat) (T' : List Va) (S' : St), T'.length = N → rounds (fun T S q => @Wp E f ys rnd ka T S ⟨q⟩) Q n T' S' →
        ∃ e T2 S2, (∃ K, ∀ k, K ≤ k → iter (xCode E (E.cd f) (xCall E k) ys f rnd k c) n T' S' = some (e, T2, S2)) ∧ T2.length = N ∧ Q.run e T2 S2 := by
      intro n
      induction n with
      | zero => intro T' S' _ h; exact h.elim
      | succ n ihn =>
        intro T' S' hl h
        simp only [rounds] at h
        obtain ⟨e, T1, S1, ⟨K, hK⟩, hlen, h⟩ := ih hka hl h
        cases e with
        | nx =>
          simp only at h
          obtain ⟨e, T2, S2, ⟨K2, hK2⟩, hlen2, h⟩ := ihn T1 S1 hlen h
          refine ⟨e, T2, S2, ⟨max K K2, fun k hk => ?_⟩, hlen2, h⟩
          simp only [iter, hK k (Nat.le_trans (Nat.le_max_left _ _) hk), hK2 k (Nat.le_trans (Nat.le_max_right _ _) hk)]
        | ex id => exact ⟨_, T1, S1, ⟨K, fun k hk => by simp only [iter, hK k hk]⟩, hlen, h⟩
        | rt => exact ⟨_, T1, S1, ⟨K, fun k hk => by simp only [iter, hK k hk]⟩, hlen, h⟩
    obtain ⟨e, T2, S2, ⟨K, hK⟩, hlen, hQ⟩ := key n T S hT h
    exact ⟨e, T2, S2, ⟨max K n, fun k hk => by simp only [xCode]; exact iter_more (hK k (Nat.le_trans (Nat.le_max_left _ _) hk)) k (Nat.le_trans (Nat.le_max_right _ _) hk)⟩, hlen, hQ⟩
  | rangeFunc g ps assign body iha ihb =>
    intro k T S Q hk hT h
    cases hk
    simp only [Wp, Rn_iff] at h
    obtain ⟨hr, ⟨gf, caps⟩, hg, ⟨v, S1, p⟩, hc, h⟩ := h
    unfold gfOf at hg
    obtain ⟨K, hK⟩ := of_res hc
    refine ⟨.nx, T, S1, ⟨K, fun k hk => ?_⟩, hT, h⟩
    simp only [xCode, hr, Bool.false_eq_true, if_false]
    unfold ranged
    split at hg
    · rename_i gf' caps' he
      split at hg
      · rename_i hb
        cases hg
        rw [he]
        simp only [hb, if_true, Option.bind_eq_bind, hK k hk, Option.bind_some]
      · cases hg
    · cases hg
  | _ => intro k T S Q hk; cases hk

/-! ### Functions -/
def resR (E : Env) (T : List Va) (S : St) : List ResultVar → Option (List X)
  | [] => some []
  | r :: l => (resOf E T S r).bind fun x => (resR E T S l).map fun xs => x :: xs
theorem resR_eq (T : List Va) (S : St) : ∀ l, l.mapM (resOf E T S) = resR E T S l
  | [] => rfl
  | r :: l => by
    rw [List.mapM_cons, resR_eq T S l]
    cases h : resOf E T S r with
    | none => simp [resR, h]
    | some x =>
      cases h2 : resR E T S l with
      | none => simp [resR, h, h2]
      | some xs => simp [resR, h, h2]
def outV : List X → Va
  | [v] => .x v
  | vs => .t vs
/-- What is asked at a function's end. -/
def exitQ (E : Env) (rs : List ResultVar) (S : St) (Q : Va → St → Bool → Prop) (e : Ex) (T' : List Va) (S' : St) : Prop :=
  match e with
  | .ex _ => False
  | _ => @Rn _ (resR E T' S' rs) ⟨fun vs => @Lt _ (tidy S S' vs) ⟨fun t => Q (outV t.1) t.2.1 t.2.2⟩⟩
theorem res_enter {ys : Yls} {f : FuncId} {args : List X} {S : St} {fn : Func} {c : Code} {k : Sk} {rs : List ResultVar} {T0 : List Va} {Q : Va → St → Bool → Prop} (hG : E.G f = none) (hf : E.fn f = some fn) (hb : fn.body = some c) (hk : skOf fn.ntmps c = some k) (hn : args.length ≤ fn.ntmps)
    (hrs : fn.results.toList = rs) (hT : args.map .x ++ List.replicate (fn.ntmps - args.length) .u = T0)
    (h : ∀ R : St, S.n = R.n → S.h = R.h → R.lo = R.n → @Wp E f ys false k T0 R ⟨exitQ E rs S Q⟩) :
    ∃ r, res E ys (.f f) args S = some r ∧ Q r.1 r.2.1 r.2.2 := by
  subst hrs
  have h := h { S with lo := S.n } rfl rfl rfl
  have hl : T0.length = fn.ntmps := by rw [← hT]; simp; omega
  obtain ⟨e, T', S', ⟨K, hK⟩, _, h⟩ := Wp_ok hk hl h
  unfold exitQ at h
  have key : (∀ id, e ≠ .ex id) → @Rn _ (resR E T' S' fn.results.toList) ⟨fun vs => @Lt _ (tidy S S' vs) ⟨fun t => Q (outV t.1) t.2.1 t.2.2⟩⟩ → ∃ r, res E ys (.f f) args S = some r ∧ Q r.1 r.2.1 r.2.2 := by
    rintro hne ⟨vs, hvs, hQ⟩
    refine ⟨(outV (tidy S S' vs).1, (tidy S S' vs).2.1, (tidy S S' vs).2.2), res_of ⟨K + 1, fun k hk => ?_⟩, hQ⟩
    obtain ⟨k, rfl⟩ : ∃ m, k = m + 1 := ⟨k - 1, by omega⟩
    have hx := hK k (by omega)
    simp only [xCall, hG, hf, hb, hT, Option.bind_eq_bind, Option.bind_some, hx]
    rw [← resR_eq] at hvs
    cases e with
    | ex id => exact absurd rfl (hne id)
    | nx =>
      simp only [hvs, Option.bind_some]
      generalize tidy S S' vs = t
      obtain ⟨l, S2, p⟩ := t
      cases l with
      | nil => rfl
      | cons x l => cases l <;> rfl
    | rt =>
      simp only [hvs, Option.bind_some]
      generalize tidy S S' vs = t
      obtain ⟨l, S2, p⟩ := t
      cases l with
      | nil => rfl
      | cons x l => cases l <;> rfl
  cases e with
  | ex id => exact h.elim
  | nx => exact key (fun id h => by cases h) h
  | rt => exact key (fun id h => by cases h) h
/-- It is just this. -/
def Is (v0 : Va) (S0 : St) (p0 : Bool) (v : Va) (S : St) (p : Bool) : Prop := v = v0 ∧ S = S0 ∧ p = p0
@[simp] theorem Is_def (v0 : Va) (S0 : St) (p0 : Bool) (v : Va) (S : St) (p : Bool) : Is v0 S0 p0 v S p = (v = v0 ∧ S = S0 ∧ p = p0) := of_eq_true (eq_self _)
theorem res_is {ys : Yls} {g : Fun} {args : List X} {S S0 : St} {v0 : Va} {p0 : Bool} (h : ∃ r, res E ys g args S = some r ∧ Is v0 S0 p0 r.1 r.2.1 r.2.2) : res E ys g args S = some (v0, S0, p0) := by
  obtain ⟨⟨a, b, c⟩, h1, h2, h3, h4⟩ := h
  simp only at h2 h3 h4
  rw [h1, h2, h3, h4]
theorem setAll_length : ∀ (ps : List Tmp) (xs : List X) (T : List Va), (setAll T ps xs).length = T.length
  | [], _, T => by simp [setAll]
  | _ :: _, [], T => by simp [setAll]
  | p :: ps, x :: xs, T => by simp [setAll, setAll_length ps xs]
/-- A round of a loop over a function. -/
theorem res_yield {ys : Yls} {i : Nat} {L : Yl} {args : List X} {S S' : St} {ka kb : Sk} (hL : ys i = some L) (hl : args.length = L.ps.length) (ha : skOf L.T.length L.assign = some ka) (hb : skOf L.T.length L.body = some kb)
    (h : @Wp E L.fn (fun _ => none) true ka (setAll L.T L.ps args) S ⟨fun e T1 S1 => e = .nx ∧ @Wp E L.fn (fun _ => none) true kb T1 S1 ⟨fun e _ S2 => e = .nx ∧ S2 = S'⟩⟩) :
    res E ys (.y i) args S = some (.x (.c (.bool true)), S', false) := by
  obtain ⟨e, T1, S1, ⟨K, hK⟩, hlen1, rfl, h⟩ := Wp_ok ha (setAll_length L.ps args L.T) h
  obtain ⟨e, T2, S2, ⟨K2, hK2⟩, _, rfl, rfl⟩ := Wp_ok hb hlen1 h
  refine res_of ⟨max K K2 + 1, fun k hk => ?_⟩
  obtain ⟨k, rfl⟩ : ∃ m, k = m + 1 := ⟨k - 1, by omega⟩
  simp only [xCall, hL, Option.bind_some, round, hl, if_true, hK k (by omega), hK2 k (by omega)]
theorem WpS_mono {ys : Yls} : ∀ (l : List Stp) (T : List Va) (S : St) (es : List Eff) (Q Q' : KS), (∀ T S es, Q.run T S es → Q'.run T S es) → @WpS E ys l T S es Q → @WpS E ys l T S es Q' := by
  intro l
  induction l with
  | nil => intro T S es Q Q' hq h; exact hq _ _ _ h
  | cons s l ih =>
    intro T S es Q Q' hq h
    simp only [WpS, Rn_iff] at h ⊢
    obtain ⟨b, hb, h⟩ := h
    refine ⟨b, hb, ?_⟩
    cases b with
    | true =>
      simp only [if_true] at h ⊢
      obtain ⟨r, hr, he, h⟩ := h
      exact ⟨r, hr, he, ih _ _ _ _ _ hq h⟩
    | false =>
      simp only [Bool.false_eq_true, if_false] at h ⊢
      exact ih _ _ _ _ _ hq h
theorem Wp_mono {f : FuncId} {ys : Yls} {rnd : Bool} : ∀ (c : Sk) (T : List Va) (S : St) (Q Q' : KQ), (∀ e T S, Q.run e T S → Q'.run e T S) → @Wp E f ys rnd c T S Q → @Wp E f ys rnd c T S Q' := by
  intro c
  induction c with
  | skip => intro T S Q Q' hq h; exact hq _ _ _ h
  | exit id => intro T S Q Q' hq h; exact hq _ _ _ h
  | ret => intro T S Q Q' hq h; exact hq _ _ _ h
  | reg id draw l =>
    intro T S Q Q' hq h
    simp only [Wp] at h ⊢
    refine WpS_mono _ _ _ _ _ _ (fun T S es h => ?_) h
    exact ⟨h.1, hq _ _ _ h.2⟩
  | seq a b iha ihb =>
    intro T S Q Q' hq h
    simp only [Wp] at h ⊢
    refine iha _ _ _ _ (fun e T S h => ?_) h
    cases e with
    | nx => exact ihb _ _ _ _ hq h
    | _ => exact hq _ _ _ h
  | cond c a b iha ihb =>
    intro T S Q Q' hq h
    simp only [Wp, Rn_iff] at h ⊢
    obtain ⟨t, ht, h1, h2⟩ := h
    exact ⟨t, ht, fun e => iha _ _ _ _ hq (h1 e), fun e => ihb _ _ _ _ hq (h2 e)⟩
  | block id c ih =>
    intro T S Q Q' hq h
    simp only [Wp] at h ⊢
    refine ih _ _ _ _ (fun e T S h => ?_) h
    cases e with
    | _ => exact hq _ _ _ h
  | loop c ih =>
    intro T S Q Q' hq h
    simp only [Wp] at h ⊢
    obtain ⟨n, h⟩ := h
    refine ⟨n, ?_⟩
    induction n generalizing T S with
    | zero => exact h
    | succ n ihn =>
      simp only [rounds] at h ⊢
      refine ih _ _ _ _ (fun e T S h => ?_) h
      cases e with
      | nx => exact ihn _ _ h
      | _ => exact hq _ _ _ h
  | rangeFunc g ps assign body =>
    intro T S Q Q' hq h
    simp only [Wp, Rn_iff] at h ⊢
    obtain ⟨hr, q, hg, r, hc, h⟩ := h
    exact ⟨hr, q, hg, r, hc, hq _ _ _ h⟩
/-- A loop, by an invariant. -/
theorem Wp_loop {f : FuncId} {ys : Yls} {rnd : Bool} {c : Sk} {Q : KQ} {β : Type} (I : β → List Va → St → Prop) (m : β → Nat)
    (step : ∀ b T S, I b T S → @Wp E f ys rnd c T S ⟨fun e T' S' => match e with | .nx => ∃ b', m b' < m b ∧ I b' T' S' | e => Q.run e T' S'⟩) (b : β) {T : List Va} {S : St} (h0 : I b T S) : @Wp E f ys rnd (.loop c) T S Q := by
  simp only [Wp]
  have key : ∀ n b T S, m b < n → I b T S → rounds (fun T S q => @Wp E f ys rnd c T S ⟨q⟩) Q n T S := by
    intro n
    induction n with
    | zero => intro b T S h; omega
    | succ n ih =>
      intro b T S hm hI
      simp only [rounds]
      refine Wp_mono _ _ _ _ _ (fun e T' S' h => ?_) (step b T S hI)
      cases e with
      | nx => obtain ⟨b', hb', hI'⟩ := h; exact ih b' T' S' (by omega) hI'
      | _ => exact h
  exact ⟨m b + 1, key _ b T S (Nat.lt_succ_self _) h0⟩
end Go.V
