/- Walking code of which some regions are shown by hand: what holds at a point, and how the points are joined. -/
import Derived.Test.YtemjdhglaljhbaaVWp
import Derived.Test.YtemjdhglaljhbaaVSound
import Derived.OwnWalkIn
import Derived.LoopNIn
namespace Go.V
variable {P : Program} {E : Env}

theorem Tm.put {β : Map} {T : List Va} {a : Act} (ht : Tm β T a.tmps) {d : Option Tmp} {v : Va} {x : Value} (h : v.rel β x) : Tm β (put T d v) (a.put d x).tmps := by
  cases d with
  | none => exact ht
  | some d =>
    refine ⟨by simp [V.put, Act.put, ht.1], fun t va y hu hy => ?_⟩
    simp only [V.put, Act.put] at hu hy
    by_cases htd : t = d
    · subst htd
      have hl : t < T.length := by
        have := (List.getElem?_eq_some_iff.1 hu).1
        simpa using this
      rw [List.getElem?_set_self hl] at hu
      rw [Array.getElem?_setIfInBounds_self_of_lt (by rw [← ht.1]; exact hl)] at hy
      cases hu
      cases hy
      exact h
    · rw [List.getElem?_set_ne (fun e => htd e.symm)] at hu
      rw [Array.getElem?_setIfInBounds_ne (fun e => htd e.symm)] at hy
      exact ht.2 t va y hu hy
/-- An object that is no cells. -/
def NoCells (o : Obj) : Prop := ∀ cs ty fz, o ≠ .cells cs ty fz
/-- Objects that are no cells stay. -/
def Keeps (w w' : World) : Prop := ∀ (k : Nat) (o : Obj), w.heap[k]? = some o → NoCells o → w'.heap[k]? = some o
/-- What speaks of such objects alone. -/
def Still (G : World → Prop) : Prop := ∀ w w', Keeps w w' → G w → G w'
theorem Step.keeps {β β' : Map} {S S' : St} {w w' : World} (h : Step β S w β' S' w') (hr : Rel β S w) : Keeps w w' := fun k _o hk ho =>
  (h.frame k (lt_of_heap hk) (hr.not_owned hk ho)).trans hk
/-- An object that is no cells turns, or new ones are made. -/
theorem Step.aside {β β' : Map} {S S' : St} {w w' w'' : World} {row : Option Nat} (h : Step β S w β' S' w') (hg : w'.grownBy w'' row) (hm : ∀ m, row = some m → w.heap.size ≤ m ∧ ∃ o, w'.heap[m]? = some o ∧ NoCells o) : Step β S w β' S' w'' := by
  refine ⟨h.le, h.new, h.n, ⟨h.rel.dom, h.rel.ok, fun i p b hp hb => ?_, h.rel.inj⟩, Nat.le_trans h.size hg.size, fun k hk hno => ?_, h.own, h.live, hg.os.trans h.os, hg.tape.trans h.tape, hg.output.trans h.output⟩
  · have hr := h.rel.blk i p b hp hb
    refine Blk.rel_mono (Map.le_refl _) hr ?_
    obtain ⟨cs, ty, fz, h1, _⟩ := hr
    refine hg.block _ (lt_of_heap h1) fun e => ?_
    obtain ⟨_, o, ho, hc⟩ := hm _ e.symm
    rw [h1] at ho
    cases ho
    exact hc _ _ _ rfl
  · refine (hg.block k (Nat.lt_of_lt_of_le hk h.size) fun e => ?_).trans (h.frame k hk hno)
    have := (hm _ e.symm).1
    omega
/-- A point of the walk: since S0 in w0 at β0. -/
structure Pt (β0 : Map) (S0 : St) (w0 : World) (T : List Va) (S : St) (a : Act) (w : World) : Prop where
  good : Good S0 S
  here : ∃ β, Step β0 S0 w0 β S w ∧ Tm β T a.tmps
  marks : Marks w0.heap.size w a.defers
def PQ (β0 : Map) (S0 : St) (w0 : World) (Q : Ex → List Va → St → World → Prop) (ex : Exit) (a : Act) (w : World) : Prop := ∃ e T S, e.is ex ∧ Q e T S w ∧ Pt β0 S0 w0 T S a w
/-- What code comes to, from a point. -/
def Hd (P : Program) (E : Env) (f : FuncId) (N : Nat) (β0 : Map) (S0 : St) (w0 : World) (k : Sk) (T : List Va) (S : St) (w : World) (Q : Ex → List Va → St → World → Prop) : Prop :=
  T.length = N → ∀ a, Pt β0 S0 w0 T S a w → ∀ c, skOf N c = some k → codeOk (E.cd f) c = true → c.wpIn (FR none) 0 P (PQ β0 S0 w0 fun e T' S' w' => T'.length = N ∧ Q e T' S' w') a w
variable {f : FuncId} {N : Nat} {β0 : Map} {S0 : St} {w0 : World} {T : List Va} {S : St} {w : World} {Q : Ex → List Va → St → World → Prop}
theorem Hd.mono {k : Sk} {Q' : Ex → List Va → St → World → Prop} (h : Hd P E f N β0 S0 w0 k T S w Q) (hq : ∀ e T S w, Q e T S w → Q' e T S w) : Hd P E f N β0 S0 w0 k T S w Q' := fun hT a hp c hc hcd =>
  wpIn_mono (h hT a hp c hc hcd) fun _ _ _ ⟨e, T1, S1, he, ⟨hl, hQ⟩, hp⟩ => ⟨e, T1, S1, he, ⟨hl, hq _ _ _ _ hQ⟩, hp⟩
/-- Code that the evaluator knows. -/
theorem hd_wp (hE : EnvOk P E) {k : Sk} {Q : Ex → List Va → St → Prop} {G : World → Prop} (hG : Still G) (hw : G w) (h : @Wp E f (fun _ => none) false k T S ⟨Q⟩) : Hd P E f N β0 S0 w0 k T S w fun e T' S' w' => Q e T' S' ∧ G w' := by
  intro hT a hp c hc hcd
  obtain ⟨e, T', S', ⟨K, hK⟩, hl, hQ⟩ := Wp_ok hc hT h
  obtain ⟨β, hs, ht⟩ := hp.here
  have hx := hK K (Nat.le_refl _)
  refine wpIn_mono (code_sound hE.ty hE.mixed hE.fn (xCall_good hE K) (xCall_sound hE K) (r := none) (B := w0.heap.size) rfl c hcd _ _ _ _ _ hx hp.good.ok β a w hs.rel (fun _ _ h => by cases h) hs.size ht hp.marks) ?_
  rintro ex a' w' ⟨he, β', hs', ht', hm'⟩
  exact ⟨e, T', S', he, ⟨hl, hQ, hG _ _ (hs'.keeps hs.rel) hw⟩, hp.good.trans (code_good (xCall_good hE K) _ _ _ _ _ _ hx hp.good.ok), ⟨β', hs.trans hs', ht'⟩, hm'⟩
theorem skOf_seq {c : Code} {x y : Sk} (h : skOf N c = some (.seq x y)) : ∃ a b, c = .seq a b ∧ skOf N a = some x ∧ skOf N b = some y := by
  cases c <;> simp [skOf, Option.bind_eq_some_iff, Option.map_eq_some_iff] at h
  exact ⟨_, _, rfl, h.1, h.2⟩
theorem skOf_cond {c : Code} {z : Operand} {x y : Sk} (h : skOf N c = some (.cond z x y)) : ∃ a b, c = .cond z a b ∧ skOf N a = some x ∧ skOf N b = some y := by
  cases c <;> simp [skOf, Option.bind_eq_some_iff, Option.map_eq_some_iff] at h
  obtain ⟨_, h1, _, h2, rfl, rfl, rfl⟩ := h
  exact ⟨_, _, rfl, h1, h2⟩
theorem skOf_block {c : Code} {id : Nat} {x : Sk} (h : skOf N c = some (.block id x)) : ∃ a, c = .block id a ∧ skOf N a = some x := by
  cases c <;> simp [skOf, Option.bind_eq_some_iff, Option.map_eq_some_iff] at h
  obtain ⟨h1, rfl⟩ := h
  exact ⟨_, rfl, h1⟩
theorem skOf_loop {c : Code} {x : Sk} (h : skOf N c = some (.loop x)) : ∃ a, c = .loop a ∧ skOf N a = some x := by
  cases c <;> simp [skOf, Option.bind_eq_some_iff, Option.map_eq_some_iff] at h
  exact ⟨_, rfl, h⟩
theorem skOf_reg {c : Code} {id : Nat} {l : List Stp} (h : skOf N c = some (.reg id false l)) : ∃ ops, c = .region id ops false ∧ stps ops.toList ops.toList = some l := by
  cases c <;> simp [skOf, Option.bind_eq_some_iff, Option.map_eq_some_iff] at h
  obtain ⟨_, _, h1, rfl, rfl, rfl⟩ := h
  exact ⟨_, rfl, h1⟩
theorem skOf_skip {c : Code} (h : skOf N c = some .skip) : c = .skip := by
  cases c <;> simp [skOf, Option.bind_eq_some_iff, Option.map_eq_some_iff] at h ⊢
theorem skOf_exit {c : Code} {id : Nat} (h : skOf N c = some (.exit id)) : c = .exit id := by
  cases c <;> simp [skOf, Option.bind_eq_some_iff, Option.map_eq_some_iff] at h ⊢
  exact h
theorem stps_cons {all ops : List Oper} {d : Option Tmp} {op : Op} {l : List Stp} (h : stps all ops = some (⟨none, d, op⟩ :: l)) : ∃ o rest, ops = o :: rest ∧ o.guard = none ∧ o.dst = d ∧ o.op = op ∧ stps all rest = some l := by
  cases ops with
  | nil => simp [stps] at h
  | cons o rest =>
    simp only [stps] at h
    obtain ⟨g, hg, h⟩ := bind_some h
    obtain ⟨r, hr, h⟩ := map_some h
    cases h
    refine ⟨o, rest, rfl, ?_, rfl, rfl, hr⟩
    unfold gOf at hg
    split at hg
    · assumption
    · obtain ⟨_, _, hg⟩ := bind_some hg
      obtain ⟨_, _, hg⟩ := map_some hg
      cases hg
theorem stps_nil {all ops : List Oper} (h : stps all ops = some []) : ops = [] := by
  cases ops with
  | nil => rfl
  | cons o rest =>
    simp only [stps] at h
    obtain ⟨_, _, h⟩ := bind_some h
    obtain ⟨_, _, h⟩ := map_some h
    cases h
/-- One part, then the other. -/
theorem hd_seq {x y : Sk} {Q1 : Ex → List Va → St → World → Prop} (hx : Hd P E f N β0 S0 w0 x T S w Q1) (hn : ∀ T S w, Q1 .nx T S w → Hd P E f N β0 S0 w0 y T S w Q) (he : ∀ e T S w, e ≠ .nx → Q1 e T S w → Q e T S w) : Hd P E f N β0 S0 w0 (.seq x y) T S w Q := by
  intro hT a hp c hc hcd
  obtain ⟨c1, c2, rfl, h1, h2⟩ := skOf_seq hc
  simp only [codeOk, Bool.and_eq_true] at hcd
  refine wpIn_seq (wpIn_mono (hx hT a hp c1 h1 hcd.1) ?_)
  rintro ex a1 w1 ⟨e, T1, S1, hex, ⟨hl, hq⟩, hp1⟩
  cases ex with
  | normal =>
    cases e with
    | nx => exact hn _ _ _ hq hl a1 hp1 c2 h2 hcd.2
    | _ => exact hex.elim
  | _ => exact ⟨e, T1, S1, hex, ⟨hl, he _ _ _ _ (by rintro rfl; exact hex.elim) hq⟩, hp1⟩
theorem hd_block {id : Nat} {x : Sk} (hx : Hd P E f N β0 S0 w0 x T S w fun e T S w => Q (match e with | .ex i => if i = id then .nx else .ex i | e => e) T S w) : Hd P E f N β0 S0 w0 (.block id x) T S w Q := by
  intro hT a hp c hc hcd
  obtain ⟨c1, rfl, h1⟩ := skOf_block hc
  simp only [codeOk] at hcd
  refine wpIn_block (wpIn_mono (hx hT a hp c1 h1 hcd) ?_)
  rintro ex a1 w1 ⟨e, T1, S1, hex, ⟨hl, hq⟩, hp1⟩
  cases e with
  | nx =>
    cases ex with
    | normal => exact ⟨.nx, T1, S1, trivial, ⟨hl, hq⟩, hp1⟩
    | _ => exact hex.elim
  | rt =>
    cases ex with
    | ret => exact ⟨.rt, T1, S1, trivial, ⟨hl, hq⟩, hp1⟩
    | _ => exact hex.elim
  | ex i =>
    cases ex with
    | exit i' =>
      obtain rfl : i = i' := hex
      show if i = id then _ else _
      split
      · rename_i hi
        subst hi
        exact ⟨.nx, T1, S1, trivial, ⟨hl, by simpa using hq⟩, hp1⟩
      · rename_i hi
        refine ⟨.ex i, T1, S1, rfl, ⟨hl, ?_⟩, hp1⟩
        simpa [hi] using hq
    | _ => exact hex.elim
theorem hd_cond {z : Operand} {x y : Sk} {b : Bool} (hb : evB T z = some b) (h : if b then Hd P E f N β0 S0 w0 x T S w Q else Hd P E f N β0 S0 w0 y T S w Q) : Hd P E f N β0 S0 w0 (.cond z x y) T S w Q := by
  intro hT a hp c hc hcd
  obtain ⟨c1, c2, rfl, h1, h2⟩ := skOf_cond hc
  simp only [codeOk, Bool.and_eq_true] at hcd
  obtain ⟨β, hs, ht⟩ := hp.here
  refine wpIn_cond (evB_ok (ev_rel ht.1 fun t v u _ hv hu => ht.2 t v u hv hu) hb) ?_
  cases b with
  | true => exact h hT a hp c1 h1 hcd.1
  | false => exact h hT a hp c2 h2 hcd.2
theorem hd_skip (h : Q .nx T S w) : Hd P E f N β0 S0 w0 .skip T S w Q := by
  intro hT a hp c hc hcd
  obtain rfl := skOf_skip hc
  exact wpIn_skip ⟨.nx, T, S, trivial, ⟨hT, h⟩, hp⟩
theorem hd_exit {id : Nat} (h : Q (.ex id) T S w) : Hd P E f N β0 S0 w0 (.exit id) T S w Q := by
  intro hT a hp c hc hcd
  obtain rfl := skOf_exit hc
  exact wpIn_exit ⟨.ex id, T, S, rfl, ⟨hT, h⟩, hp⟩
/-- A loop, by an invariant. -/
theorem hd_loop {x : Sk} {γ : Type} (I : γ → List Va → St → World → Prop) (m : γ → Nat)
    (step : ∀ g T S w, I g T S w → Hd P E f N β0 S0 w0 x T S w fun e T' S' w' => match e with | .nx => ∃ g', m g' < m g ∧ I g' T' S' w' | e => Q e T' S' w') (g : γ) (h0 : I g T S w) : Hd P E f N β0 S0 w0 (.loop x) T S w Q := by
  intro hT a hp c hc hcd
  obtain ⟨c1, rfl, h1⟩ := skOf_loop hc
  simp only [codeOk] at hcd
  have key : ∀ n g T S a w, m g < n → I g T S w → T.length = N → Pt β0 S0 w0 T S a w → Code.roundsIn (FR none) 0 P c1 (PQ β0 S0 w0 fun e T' S' w' => T'.length = N ∧ Q e T' S' w') n a w := by
    intro n
    induction n with
    | zero => intro g T S a w h; omega
    | succ n ih =>
      intro g T S a w hm hI hT hp
      rw [roundsIn_succ]
      refine wpIn_mono (step g T S w hI hT a hp c1 h1 hcd) ?_
      rintro ex a1 w1 ⟨e, T1, S1, hex, ⟨hl, hq⟩, hp1⟩
      cases ex with
      | normal =>
        cases e with
        | nx => obtain ⟨g', hg', hI'⟩ := hq; exact ih g' T1 S1 a1 w1 (by omega) hI' hl hp1
        | _ => exact hex.elim
      | exit i =>
        cases e with
        | ex j => exact ⟨.ex j, T1, S1, hex, ⟨hl, hq⟩, hp1⟩
        | _ => exact hex.elim
      | ret =>
        cases e with
        | rt => exact ⟨.rt, T1, S1, hex, ⟨hl, hq⟩, hp1⟩
        | _ => exact hex.elim
      | _ => cases e <;> exact hex.elim
  exact wpIn_loop_rounds (m g + 1) (key _ g T S a w (Nat.lt_succ_self _) h0 hT hp)

/-! ### A region by hand -/
theorem Pt.ev {a : Act} (hp : Pt β0 S0 w0 T S a w) {t : Tmp} {v : Va} (h : T[t]? = some v) : ∃ β, v.rel β (a.eval (.tmp t)) := by
  obtain ⟨β, hs, ht⟩ := hp.here
  exact ⟨β, ev_rel ht.1 (fun t v u _ hv hu => ht.2 t v u hv hu) v h⟩
theorem Pt.val {a : Act} (hp : Pt β0 S0 w0 T S a w) {t : Tmp} {u : Value} (h : T[t]? = some (.w u)) : a.eval (.tmp t) = u := (hp.ev h).choose_spec
theorem Pt.int {a : Act} (hp : Pt β0 S0 w0 T S a w) {t : Tmp} {k : IntKind} {n : Int} (h : T[t]? = some (.x (.c (.int k n)))) : a.eval (.tmp t) = .int k n := (hp.ev h).choose_spec
theorem Pt.bool {a : Act} (hp : Pt β0 S0 w0 T S a w) {t : Tmp} {b : Bool} (h : T[t]? = some (.x (.c (.bool b)))) : a.eval (.tmp t) = .bool b := (hp.ev h).choose_spec
def HdL (P : Program) (N : Nat) (β0 : Map) (S0 : St) (w0 : World) (all : Array Oper) (ops : List Oper) (T : List Va) (S : St) (w : World) (Q : List Va → St → World → Prop) : Prop :=
  T.length = N → ∀ a, Pt β0 S0 w0 T S a w → wpListIn (FR none) 0 P all (PQ β0 S0 w0 fun e T' S' w' => T'.length = N ∧ e = .nx ∧ Q T' S' w') ops a w
theorem hd_reg {id : Nat} {l : List Stp} (h : ∀ ops : Array Oper, stps ops.toList ops.toList = some l → HdL P N β0 S0 w0 ops ops.toList T S w fun T' S' w' => Q .nx T' S' w') : Hd P E f N β0 S0 w0 (.reg id false l) T S w Q := by
  intro hT a hp c hc hcd
  obtain ⟨ops, rfl, h1⟩ := skOf_reg hc
  refine wpIn_mono (wpIn_region_list (h ops h1 hT a hp)) ?_
  rintro ex a1 w1 ⟨e, T1, S1, hex, ⟨hl, rfl, hq⟩, hp1⟩
  exact ⟨.nx, T1, S1, hex, ⟨hl, hq⟩, hp1⟩
theorem hdl_nil {all : Array Oper} {Q : List Va → St → World → Prop} (h : Q T S w) : HdL P N β0 S0 w0 all [] T S w Q := fun hT _a hp => ⟨.nx, T, S, trivial, ⟨hT, rfl, h⟩, hp⟩
/-- An operation whose run is known. -/
theorem hdl_op {all : Array Oper} {o : Oper} {rest : List Oper} {Q : List Va → St → World → Prop} {row : Option Nat} {v : Va} {w' : World} (hg : o.guard = none) (hnd : ∀ c, o.op ≠ .defer c)
    (hrun : ∀ a, Pt β0 S0 w0 T S a w → T.length = N → ∃ u, (∀ β, v.rel β u) ∧ ((execOp a.eval o).run P w = .ok (.value u) w' ∨ (execOp a.eval o).run P w = .ok .skip w' ∧ u = undef)) (hgr : w.grownBy w' row)
    (hm : ∀ m, row = some m → w0.heap.size ≤ m ∧ ∃ ob, w.heap[m]? = some ob ∧ NoCells ob ∧ ob ≠ .deferred (some [])) (hK : HdL P N β0 S0 w0 all rest (put T o.dst v) S w' Q) : HdL P N β0 S0 w0 all (o :: rest) T S w Q := by
  intro hT a hp
  refine wpListIn_plain hg fun K' hK' => ?_
  obtain ⟨u, hu, hr⟩ := hrun a hp hT
  obtain ⟨β, hs, ht⟩ := hp.here
  have hp' : Pt β0 S0 w0 (put T o.dst v) S (a.put o.dst u) w' := by
    refine ⟨hp.good, ⟨β, hs.aside hgr (fun m hm' => ?_), ht.put (hu β)⟩, ?_⟩
    · obtain ⟨h1, ob, h2, h3, _⟩ := hm m hm'
      exact ⟨h1, ob, h2, h3⟩
    · have hdf : (a.put o.dst u).defers = a.defers := by cases o.dst <;> rfl
      rw [hdf]
      obtain ⟨Ds, e1, e2, e3⟩ := hp.marks
      refine ⟨Ds, e1, e2, fun D hD => ?_⟩
      obtain ⟨h4, h5⟩ := e3 D hD
      refine ⟨h4, (hgr.block D (lt_of_heap h5) fun e => ?_).trans h5⟩
      obtain ⟨_, ob, h2, _, h3⟩ := hm D e.symm
      rw [h5] at h2
      cases h2
      exact h3 rfl
  unfold Oper.wpIn
  refine ⟨fun _ _ => trivial, ?_⟩
  rw [Oper.semAt_plain (FR none) _ _ hnd]
  rcases hr with hr | ⟨hr, rfl⟩
  · rw [hr]
    exact hK' _ _ (hK (by rw [put_length]; exact hT) _ hp')
  · rw [hr]
    exact hK' _ _ (hK (by rw [put_length]; exact hT) _ hp')
end Go.V
