/- The evaluator's soundness, part 11: each operation of a region, in any order that the region allows. -/
import Derived.Test.YtemjdhglaljhbaaVSing
import Derived.OrdersIn
import Derived.RangeFuncLeaves
import Derived.RangeFuncRecord
namespace Go.V
variable {P : Program} {E : Env}

/-- A call of a function, or of an outer function, comes back. -/
def FnOk (P : Program) (f : FuncId) (args : Array Value) (w : World) (K : Value → World → Prop) : Prop :=
  ((callFunc f args).run P w = .ok (.enter f args) w ∧ Calls P f args w fun | .returned v, w' => K v w' | _, _ => False) ∨
  ∃ v w', (callFunc f args).run P w = .ok (.value v) w' ∧ K v w'
/-- The walk's fence: any function, any depth; in a round of the loop r, or in none. -/
def FR (r : Option Nat) : Fence := { Fence.wide with round := r }
theorem callsIn_FR {r : Option Nat} {n : Nat} {f : FuncId} {args : Array Value} {w : World} {R : Ending → World → Prop} : CallsIn (FR r) n P f args w R ↔ Calls P f args w R := callsIn_wide (n := n)
theorem roundIn_FR {r r' : Option Nat} {n n' : Nat} {l : Nat} {f : FuncId} {tmps : Array Value} {assign body : Code} {w : World} {R : Ending → World → Prop} (h : RoundIn (FR r) n P l f tmps assign body w R) : RoundIn (FR r') n' P l f tmps assign body w R :=
  ⟨trivial, fun c cs _ => h.2 c cs (room_wide _)⟩
/-- A round of a loop over a function comes back. -/
def YieldOk (P : Program) (l : Nat) (args : Array Value) (w : World) (K : Value → World → Prop) : Prop :=
  ∃ f tmps assign body, (Instr.yield l args).run P w = .ok (.round l f tmps assign body) w ∧ RoundIn (FR none) 0 P l f tmps assign body w fun | .returned v, w' => K v w' | _, _ => False
def FunOk (P : Program) (β : Map) (g : Fun) (args : Array Value) (w : World) (K : Value → World → Prop) : Prop :=
  match g with
  | .f f => FnOk P f args w K
  | .y i => ∃ pl, β i = some pl ∧ YieldOk P pl.b args w K
/-- The loops over functions that are under way. -/
def Loops (ok : Yl → Prop) (β : Map) (ys : Yls) (w : World) : Prop :=
  ∀ i L, ys i = some L → ok L ∧ ∃ l D f tm, β i = some ⟨l, 0, none⟩ ∧ Tm β L.T tm ∧ w.heap[l]? = some (.loop { state := .ready, pending := none, fn := f, tmps := tm, params := L.ps.toArray, assign := L.assign, body := L.body, defers := D })
def CallOk (P : Program) (ok : Yl → Prop) (ys : Yls) (call : CallF) : Prop := ∀ g args S v S' p, call g args S = some (v, S', p) → S.ok → ∀ β w vargs, Rel β S w → Loops ok β ys w → All2 (X.rel β) args vargs →
  FunOk P β g vargs.toArray w fun u w' => ∃ β', v.rel β' u ∧ Step β S w β' S' w'
theorem Rel.not_owned {β : Map} {S : St} {w : World} (h : Rel β S w) {k : Nat} {o : Obj} (hk : w.heap[k]? = some o) (ho : ∀ cs ty fz, o ≠ .cells cs ty fz) : ¬ Owned β S k := by
  rintro ⟨i, p, b, hp, hb, _, rfl⟩
  obtain ⟨cs, ty, fz, h1, _⟩ := h.blk i p b hp hb
  rw [h1] at hk
  cases hk
  exact ho _ _ _ rfl
theorem Loops.step {ok : Yl → Prop} {β β' : Map} {S S' : St} {w w' : World} {ys : Yls} (hr : Rel β S w) (h : Loops ok β ys w) (hs : Step β S w β' S' w') : Loops ok β' ys w' := by
  intro i L hL
  obtain ⟨h0, l, D, f, tm, h1, h2, h3⟩ := h i L hL
  exact ⟨h0, l, D, f, tm, hs.le i _ h1, h2.mono hs.le, (hs.frame l (lt_of_heap h3) (hr.not_owned h3 (fun _ _ _ => by simp))).trans h3⟩

theorem wanted_ok {β : Map} {ops : List Oper} {T : List Va} {a : Act} {o : Oper} {b : Bool} (hsz : T.length = a.tmps.size)
    (ht : ∀ t ∈ o.looksAt ops.toArray, ∀ v u, T[t]? = some v → a.tmps[t]? = some u → v.rel β u) (h : wanted ops o T = some b) : Region.wanted o (yielded ops.toArray a.tmps) = b := by
  unfold wanted at h
  unfold Region.wanted
  split at h
  · rename_i hgd
    rw [hgd]
    cases h
    rfl
  · rename_i j c hgd
    rw [hgd]
    simp only [Option.bind_eq_bind] at h
    obtain ⟨g, hgj, h⟩ := bind_some h
    obtain ⟨d, hd, h⟩ := bind_some h
    obtain ⟨v, hv, h⟩ := bind_some h
    have key : ∀ c', v = .x (.c (.bool c')) → some (c' == c) = some b → (yielded ops.toArray a.tmps j == some c) = b := by
      intro c' hx h
      subst hx
      cases h
      have hl : d < T.length := (List.getElem?_eq_some_iff.1 hv).1
      have hl' : d < a.tmps.size := by rw [← hsz]; exact hl
      have hmem : d ∈ o.looksAt ops.toArray := by
        unfold Oper.looksAt
        rw [hgd]
        simp [hgj, hd]
      have hr := ht d hmem _ _ hv (Array.getElem?_eq_getElem hl')
      have hr : a.tmps[d] = .bool c' := hr
      simp [yielded, hgj, hd, hl', hr]
    cases v with
    | n =>
      cases h
      have hl : d < T.length := (List.getElem?_eq_some_iff.1 hv).1
      have hl' : d < a.tmps.size := by rw [← hsz]; exact hl
      have hmem : d ∈ o.looksAt ops.toArray := by
        unfold Oper.looksAt
        rw [hgd]
        simp [hgj, hd]
      have hr := ht d hmem _ _ hv (Array.getElem?_eq_getElem hl')
      have hr : a.tmps[d] = undef := hr
      simp [yielded, hgj, hd, hl', hr, undef]
    | x y =>
      cases y with
      | c z =>
        cases z with
        | bool c' => exact key c' rfl h
        | _ => cases h
      | _ => cases h
    | _ => cases h

section
variable {call : CallF} {ops : List Oper} (R : Run E call ops) (hg : GoodCall call) (h0 : (R.S 0).ok)
variable {ds : List Deferred} {β0 β : Map} {w0 w : World} {a : Act} {D : Nat → Prop}
theorem Inv.sz (hI : Inv R ds β0 w0 D β a w) {x : Nat} (hx : x ≤ ops.length) : (R.T x).length = a.tmps.size := by rw [R.T_length x hx]; exact hI.tsz
theorem Inv.looks (hI : Inv R ds β0 w0 D β a w) {x : Nat} {o : Oper} (ho : ops[x]? = some o) (hF : Fits R D x) : ∀ t ∈ o.looksAt ops.toArray, ∀ v u, (R.T x)[t]? = some v → a.tmps[t]? = some u → v.rel (β.cut (R.S x).n) u :=
  fun t ht v u hv hu => hI.tm t x v u (by have := (List.getElem?_eq_some_iff.1 ho).1; omega) (hF.rd o ho t ht) hv hu
theorem Inv.operands (hI : Inv R ds β0 w0 D β a w) {x : Nat} {o : Oper} (ho : ops[x]? = some o) (hF : Fits R D x) : ∀ y ∈ o.op.operands, Rl (β.cut (R.S x).n) (R.T x) a.eval y := by
  intro y hy
  refine ev_rel (hI.sz R (by have := (List.getElem?_eq_some_iff.1 ho).1; omega)) fun t v u hyt hv hu => hI.looks R ho hF t ?_ v u hv hu
  subst hyt
  exact List.mem_append_left _ (List.mem_filterMap.2 ⟨.tmp t, by simpa using hy, rfl⟩)
include hg h0
theorem Inv.single (hT : TyOk P E) (hI : Inv R ds β0 w0 D β a w) {x : Nat} {o : Oper} (ho : ops[x]? = some o) (hF : Fits R D x) {A : Acc} (hA : acc E o (R.T x) = some A) (hr : A.run (R.S x) = some (R.v x, R.S (x + 1), R.e x)) :
    ∃ n w1 u β1, (execOp a.eval o).run P w = .ok n w1 ∧ (n = .value u ∨ (n = .skip ∧ u = undef)) ∧ Inv R ds β0 w0 (with_ D x) β1 (a.put o.dst u) w1 := by
  have hxl : x < ops.length := (List.getElem?_eq_some_iff.1 ho).1
  have hok := acc_sound hT o (hI.operands R ho hF) hA
  have hSok := R.ok hg h0 x (by omega)
  have hilt : ∀ {i b}, (R.S x).h i = some b → i < (R.S x).n := by
    intro i b hb
    rcases Nat.lt_or_ge i (R.S x).n with h | h
    · exact h
    · rw [hSok.2 i h] at hb; cases hb
  cases A with
  | val v =>
    simp only [Acc.run, Option.some.injEq, Prod.mk.injEq] at hr
    obtain ⟨hv, _, he⟩ := hr
    obtain ⟨u, hu, hrun⟩ := hok w
    rw [hv] at hu
    exact ⟨_, w, u, β, hrun, .inl rfl, hI.stay R hg h0 ho hF (.inl he.symm) hu⟩
  | new b f =>
    simp only [Acc.run, Option.some.injEq, Prod.mk.injEq] at hr
    obtain ⟨hv, hS, he⟩ := hr
    obtain ⟨cs, ty, cap, u, hcs, hrow, hrun, hu⟩ := hok
    have htouch : ∀ i, R.touch x i ↔ i = (R.S x).n := by
      intro i
      unfold Run.touch Touch
      rw [← he, ← hS]
      show _ ≤ i ∧ i < (R.S x).n + 1 ↔ _
      omega
    obtain ⟨β1, hI1⟩ := hI.alloc R hg h0 (w1 := w.alloc (.cells cs ty)) (u := u w.heap.size) (cs := cs) (ty := ty) (cap := cap) (b := b) ho hF (by rw [← hS]; rfl) (by rw [← hS, St.new_h, if_pos rfl]) ((htouch _).2 rfl) (fun i hi => .inl ((htouch i).1 hi))
      (fun i hi => by rw [← he] at hi; rcases hi with h | ⟨r, h⟩ <;> cases h) rfl rfl rfl rfl hcs hrow (fun β' h1 h2 => by rw [← hv]; exact hu β' _ _ h1 h2)
    exact ⟨_, _, _, β1, hrun w, .inl rfl, hI1⟩
  | load i k =>
    simp only [Acc.run, Option.bind_eq_bind] at hr
    obtain ⟨b, hb, hr⟩ := bind_some hr
    obtain ⟨y, hy, hr⟩ := bind_some hr
    simp only [Option.some.injEq, Prod.mk.injEq] at hr
    obtain ⟨hv, _, he⟩ := hr
    obtain ⟨p, hp, hgo⟩ := hok
    have hp' := (Map.cut_some.1 hp).2
    have hcx := hI.cons_at R hg h0 hxl hF (.inl he.symm) (hilt hb) hp'
    obtain ⟨u, hu, hrun⟩ := hgo w b y (hI.blk i x p b (by omega) hcx hp' hb) hy
    exact ⟨_, w, u, β, hrun, .inl rfl, hI.stay R hg h0 ho hF (.inr ⟨i, he.symm⟩) (by rw [← hv]; exact hu)⟩
  | store i k =>
    simp only [Acc.run, Option.bind_eq_bind] at hr
    obtain ⟨b, hb, hr⟩ := bind_some hr
    obtain ⟨cs', hcs', hr⟩ := bind_some hr
    split at hr
    · rename_i hw
      simp only [Option.some.injEq, Prod.mk.injEq] at hr
      obtain ⟨hv, hS, he⟩ := hr
      obtain ⟨p, hp, hgo⟩ := hok
      have hp' := (Map.cut_some.1 hp).2
      have hcx := hI.cons_at R hg h0 hxl hF (.inr (.inl he.symm)) (hilt hb) hp'
      have hbr := hI.blk i x p b (by omega) hcx hp' hb
      obtain ⟨w', cs, cs2, ty, o', vs, hrun, h1, hwr, hcells⟩ := hgo w b cs' hbr hw hcs'
      have htouch : ∀ k, R.touch x k ↔ i = k := by
        intro k
        unfold Run.touch Touch
        rw [← he]
      have hb1 : ∀ β', Map.le (β.cut (R.S x).n) β' → Blk.rel β' w' p { b with cs := cs' } := by
        intro β' hle
        obtain ⟨cs0, ty0, fz0, g1, g2, g3, g4⟩ := hbr
        rw [h1] at g1
        cases g1
        refine ⟨cs2, ty, (0, 0), hwr.heap, fun j c hj => ?_, fun _ => rfl, fun s hs hw' => ?_⟩
        · obtain ⟨v, e1, e2⟩ := hcells j c hj
          exact ⟨v, e1, C.rel_mono hle e2⟩
        · obtain ⟨cc, e1, e2⟩ := g4 s hs hw'
          exact ⟨cc, e1, by rw [hwr.size]; exact e2⟩
      obtain ⟨β1, hI1⟩ := hI.write R hg h0 (u := undef) (w1 := w') (c := i) (b1 := { b with cs := cs' }) ho hF hp' hb hcx hw (.inl rfl) (by rw [← hS, St.set_h, if_pos rfl]) ((htouch i).2 rfl) ((htouch i).2 rfl) (fun k hk => .inl ((htouch k).1 hk).symm)
        (fun k hk => by
          rw [← he] at hk
          rcases hk with h | ⟨r, h⟩
          · cases h; exact ⟨p, hp'⟩
          · cases h)
        hwr.other hwr.hsize hwr.os hwr.tape hwr.output hb1 (fun β' _ _ => by rw [← hv]; trivial)
      exact ⟨_, _, _, β1, hrun, .inr ⟨rfl, rfl⟩, hI1⟩
    · cases hr
  | app s bytes p n q m =>
    obtain ⟨vp, vq, hvp, hvq, hz, hnz⟩ := hok
    simp only [Acc.run, Option.bind_eq_bind] at hr
    split at hr
    · rename_i hm
      simp only [Option.some.injEq, Prod.mk.injEq] at hr
      obtain ⟨hv, _, he⟩ := hr
      exact ⟨_, w, vp, β, hz hm w, .inl rfl, hI.stay R hg h0 ho hF (.inl he.symm) (by rw [← hv]; exact hvp)⟩
    · rename_i hm
      obtain ⟨new, hnew, hr⟩ := bind_some hr
      split at hr
      · rename_i hmax
        -- the cells that are appended
        have hcells : (∃ d, R.e x = .app d (q.map (·.1))) → ∃ lnew, All2 (C.rel (β.cut (R.S x).n)) new lnew ∧ new.length = m * s ∧ ∀ w1 : World, w1.heap = w.heap → (Builtin.firstCells s m vq).run P w1 = .ok lnew.toArray w1 := by
          rintro ⟨d, he⟩
          rcases hvq with hvq | ⟨h0', _⟩
          case inr => exact absurd h0' hm
          cases q with
          | none => exact absurd hvq.1 hm
          | some q =>
            obtain ⟨k, o'⟩ := q
            obtain ⟨pl2, c, hk, rfl, _, _⟩ := hvq
            simp only [rowAt, Option.bind_eq_bind] at hnew
            obtain ⟨b2, hb2, hnew⟩ := bind_some hnew
            split at hnew
            · rename_i hle
              cases hnew
              have hk' := (Map.cut_some.1 hk).2
              have hcx := hI.cons_at R hg h0 hxl hF (.inr (.inr (.inr ⟨d, he⟩))) (hilt hb2) hk'
              obtain ⟨l, hl, hrun⟩ := Blk.rel_load (P := P) (hI.blk k x pl2 b2 (by omega) hcx hk' hb2) hle
              exact ⟨l, hl, by simp; omega, fun w1 hw1 => by simp only [Builtin.firstCells]; exact hrun w1 hw1⟩
            · cases hnew
        cases p with
        | none =>
          simp only at hr
          split at hr
          · rename_i hn
            simp only [Option.some.injEq, Prod.mk.injEq] at hr
            obtain ⟨hv, hS, he⟩ := hr
            obtain ⟨lnew, hl, hlen, hf⟩ := hcells ⟨none, he.symm⟩
            obtain ⟨u, w', hrun, hout⟩ := (hnz hm w new lnew hl hf hlen hmax.1 hmax.2).1 rfl hn
            have htouch : ∀ i, R.touch x i ↔ i = (R.S x).n := by
              intro i
              unfold Run.touch Touch
              rw [← he, ← hS]
              show (none = some i ∨ (R.S x).n ≤ i ∧ i < (R.S x).n + 1) ↔ _
              simp
              omega
            rcases hout with ⟨cs, ty, c, rfl, hcs, hsz, hmc, rfl⟩ | ⟨pl, _, _, _, _, _, _, hx, _⟩
            · obtain ⟨β1, hI1⟩ := hI.alloc R hg h0 (w1 := w.drew.alloc (.cells cs ty)) (u := .slice (some ⟨w.heap.size, 0, none⟩) m c) (cs := cs) (ty := ty) (cap := some (c * s, s)) (b := ⟨new, some s, true⟩) ho hF (by rw [← hS]; rfl) (by rw [← hS, St.new_h, if_pos rfl]) ((htouch _).2 rfl) (fun i hi => .inl ((htouch i).1 hi))
                (fun i hi => by rw [← he] at hi; rcases hi with h | ⟨r, h⟩ <;> cases h) rfl rfl rfl rfl hcs (fun s' hs' => by cases hs'; exact ⟨_, rfl, hsz⟩) (fun β' h1 h2 => by
                  rw [← hv]
                  exact ⟨_, c, h2, rfl, hmc, fun _ cc s' hc => by cases hc; rfl⟩)
              exact ⟨_, _, _, β1, hrun, .inl rfl, hI1⟩
            · cases hx
          · cases hr
        | some p =>
          obtain ⟨i, o'⟩ := p
          simp only at hr
          obtain ⟨b, hb, hr⟩ := bind_some hr
          split at hr
          · rename_i hc
            obtain ⟨hrow, hw, ho0, hbl⟩ := hc
            simp only [Option.some.injEq, Prod.mk.injEq] at hr
            obtain ⟨hv, hS, he⟩ := hr
            subst ho0
            obtain ⟨pl, c0, hpl, hvp', _, _⟩ := hvp
            have hp' := (Map.cut_some.1 hpl).2
            have hcx := hI.cons_at R hg h0 hxl hF (.inr (.inr (.inl ⟨_, he.symm⟩))) (hilt hb) hp'
            have hbr := hI.blk i x pl b (by omega) hcx hp' hb
            obtain ⟨lnew, hl, hlen, hf⟩ := hcells ⟨_, he.symm⟩
            obtain ⟨u, w', hrun, hout⟩ := (hnz hm w new lnew hl hf hlen hmax.1 hmax.2).2 i pl b rfl hpl hbr hrow hw hbl
            have hin := hilt hb
            have hh : ∀ k, (R.S (x + 1)).h k = if k = (R.S x).n then some ⟨b.cs ++ new, some s, true⟩ else if k = i then none else (R.S x).h k := by
              intro k
              rw [← hS]
              rfl
            have hn1 : (R.S (x + 1)).n = (R.S x).n + 1 := by rw [← hS]; rfl
            have htouch : ∀ k, R.touch x k ↔ (i = k ∨ k = (R.S x).n) := by
              intro k
              unfold Run.touch Touch
              rw [← he, hn1]
              show (some i = some k ∨ (R.S x).n ≤ k ∧ k < (R.S x).n + 1) ↔ _
              simp
              omega
            have hst : ∀ k, (R.e x = .store k ∨ ∃ r, R.e x = .app (some k) r) → ∃ p, β k = some p := by
              intro k hk
              rw [← he] at hk
              rcases hk with h | ⟨r, h⟩
              · cases h
              · cases h; exact ⟨pl, hp'⟩
            have hdead : ∀ k, R.touch x k → k = (R.S x).n ∨ (R.S (x + 1)).h k = none := by
              intro k hk
              rcases (htouch k).1 hk with rfl | h
              · right; rw [hh, if_neg (by omega), if_pos rfl]
              · exact .inl h
            rcases hout with ⟨cs, ty, c, rfl, hcs, hsz, hmc, rfl⟩ | ⟨pl', cs, cs2, ty, c, o2, vs, hx, h1, hwr, hcells', rfl, hmc, hcap⟩
            · obtain ⟨β1, hI1⟩ := hI.alloc R hg h0 (w1 := w.drew.alloc (.cells cs ty)) (u := .slice (some ⟨w.heap.size, 0, none⟩) (n + m) c) (cs := cs) (ty := ty) (cap := some (c * s, s)) (b := ⟨b.cs ++ new, some s, true⟩) ho hF hn1 (by rw [hh, if_pos rfl]) ((htouch _).2 (.inr rfl)) hdead hst
                rfl rfl rfl rfl hcs (fun s' hs' => by cases hs'; exact ⟨_, rfl, hsz⟩) (fun β' h1 h2 => by
                  rw [← hv]
                  exact ⟨_, c, h2, rfl, hmc, fun _ cc s' hc => by cases hc; rfl⟩)
              exact ⟨_, _, _, β1, hrun, .inl rfl, hI1⟩
            · cases hx
              have hb1 : ∀ β', Map.le (β.cut (R.S x).n) β' → Blk.rel β' w' pl ⟨b.cs ++ new, some s, true⟩ := by
                intro β' hle
                obtain ⟨cs0, ty0, fz0, g1, g2, g3, g4⟩ := hbr
                rw [h1] at g1
                cases g1
                refine ⟨cs2, ty, (0, 0), hwr.heap, fun j c hj => ?_, fun _ => rfl, fun s' hs hw' => ?_⟩
                · obtain ⟨v, e1, e2⟩ := hcells' j c hj
                  exact ⟨v, e1, C.rel_mono hle e2⟩
                · cases hs
                  obtain ⟨cc, e1, e2⟩ := g4 s hrow hw
                  exact ⟨cc, e1, by rw [hwr.size]; exact e2⟩
              obtain ⟨β1, hI1⟩ := hI.write R hg h0 (u := .slice (some (pl.at 0)) (n + m) c) (w1 := w') (c := (R.S x).n) (b1 := ⟨b.cs ++ new, some s, true⟩) ho hF hp' hb hcx hw (.inr ⟨rfl, by omega⟩) (by rw [hh, if_pos rfl]) ((htouch i).2 (.inl rfl)) ((htouch _).2 (.inr rfl)) hdead hst
                hwr.other hwr.hsize hwr.os hwr.tape hwr.output hb1 (fun β' _ h2 => by
                  rw [← hv]
                  exact ⟨pl, c, h2, rfl, hmc, fun _ cc s' hc => hcap cc s' hc⟩)
              exact ⟨_, _, _, β1, hrun, .inl rfl, hI1⟩
          · cases hr
      · cases hr
theorem Inv.calls {ok : Yl → Prop} {ys : Yls} (hr0 : Rel β0 (R.S 0) w0) (hL : Loops ok β0 ys w0) (hcall : CallOk P ok ys call) (hI : Inv R ds β0 w0 D β a w) {x : Nat} {o : Oper} (ho : ops[x]? = some o) (hF : Fits R D x) {f : Operand} {args : Array Operand} {ats : Array TypeId} {g : Fun} {caps xs : List X} {p0 : Bool}
    (hop : o.op = .call ⟨.value f, args, ats⟩) (hev : callee? (R.T x) (.value f) = some (g, caps)) (hxs : evXs (R.T x) args.toList = some xs) (hc : call g (xs ++ caps) (R.S x) = some (R.v x, R.S (x + 1), p0)) (he : R.e x = .call p0) (r : Option Nat) (Q : Exit → Act → World → Prop) :
    o.uponIn (FR r) 0 P a (fun a' w' => ∃ β1, Inv R ds β0 w0 (with_ D x) β1 a' w') Q ((execOp a.eval o).run P w) := by
  have hxl : x < ops.length := (List.getElem?_eq_some_iff.1 ho).1
  have hSok := R.ok hg h0 x (by omega)
  have hgn := (R.good hg h0 hxl).n
  have hrl := hI.operands R ho hF
  rw [hop] at hrl
  have hargs := evXs_ok (fun y hy => hrl y (by simp [Op.operands, Call.operands]; exact .inr (by simpa using hy))) hxs
  have hLc : Loops ok (β.cut (R.S x).n) ys w := by
    intro i L hi
    obtain ⟨hok, l, D', f', tm, h1, h2, h3⟩ := hL i L hi
    have hle : Map.le β0 (β.cut (R.S x).n) := fun j q hj => Map.cut_some.2 ⟨Nat.lt_of_lt_of_le (hr0.dom j q hj) (R.mono hg h0 (Nat.zero_le _) (by omega)), hI.le j q hj⟩
    exact ⟨hok, l, D', f', tm, hle i _ h1, h2.mono hle, (hI.frame l (lt_of_heap h3) (hr0.not_owned h3 (fun _ _ _ => by simp))).trans h3⟩
  suffices hmain : ∀ vargs, All2 (X.rel (β.cut (R.S x).n)) (xs ++ caps) vargs → FunOk P (β.cut (R.S x).n) g vargs.toArray w fun u w' => ∃ β1, Inv R ds β0 w0 (with_ D x) β1 (a.put o.dst u) w' by
    simp only [callee?] at hev
    split at hev
    · rename_i g' caps' hev'
      cases hev
      obtain ⟨lb, hlb, hf⟩ := evX_ok (hrl f (by simp [Op.operands, Call.operands])) hev'
      have hall : All2 (X.rel (β.cut (R.S x).n)) (xs ++ caps'.map fun p => .c (.ptr (some p))) (args.toList.map a.eval ++ lb) := by
        refine hargs.append ?_
        clear hf hc hev' hmain
        induction hlb with
        | nil => exact .nil
        | cons h _ ih => exact .cons h ih
      have hfn := hmain _ hall
      have hrun : (execOp a.eval o).run P w = (callFunc g' (args.toList.map a.eval ++ lb).toArray).run P w := by
        have : (args.toList.map a.eval ++ lb).toArray = args.map a.eval ++ lb.toArray := by
          apply Array.toList_inj.1
          simp
        rw [this]
        simp [execOp, hop, resolve, hf, Deferred.ofValue, invoke]
      rcases hfn with ⟨h1, h2⟩ | ⟨v, w', h1, h2⟩
      · rw [hrun, h1]
        refine ⟨fun h => (by cases h), callsIn_FR.2 (Calls.mono h2 fun e w' he => ?_)⟩
        cases e with
        | returned u => exact he
        | panicked c => exact he.elim
        | outgrown => exact he.elim
      · rw [hrun, h1]
        exact h2
    · rename_i i hev'
      cases hev
      obtain ⟨pl, hpl, hf⟩ := evX_ok (hrl f (by simp [Op.operands, Call.operands])) hev'
      rw [List.append_nil] at hmain
      obtain ⟨pl', hpl', f', tmps, assign, body, h1, h2⟩ := hmain _ hargs
      rw [hpl] at hpl'
      cases hpl'
      have hrun : (execOp a.eval o).run P w = (Instr.yield pl.b (args.toList.map a.eval).toArray).run P w := by
        have : (args.toList.map a.eval).toArray = args.map a.eval := by
          apply Array.toList_inj.1
          simp
        rw [this]
        simp [execOp, hop, resolve, hf, Deferred.ofValue, invoke]
      rw [hrun, h1]
      refine ⟨fun h => (by cases h), roundIn_FR (RoundIn.mono h2 fun e w' he => ?_)⟩
      cases e with
      | returned u => exact he
      | panicked c => exact he.elim
      | outgrown => exact he.elim
    · cases hev
  intro vargs hall
  · have hcons : ∀ i p, i < (R.S x).n → β i = some p → HCons R D i x := fun i p hi hp => hI.cons_call R hg h0 hxl hF he hi hp
    have hrel : Rel (β.cut (R.S x).n) (R.S x) w := by
      refine ⟨fun i p hp => (Map.cut_some.1 hp).1, hSok.2, fun i p b hp hb => ?_, fun i k p q b b' hne hp hq hb hb' hw => ?_⟩
      · obtain ⟨h1, h2⟩ := Map.cut_some.1 hp
        exact hI.blk i x p b (by omega) (hcons i p h1 h2) h2 hb
      · obtain ⟨h1, h2⟩ := Map.cut_some.1 hp
        obtain ⟨h3, h4⟩ := Map.cut_some.1 hq
        exact hI.inj i k x x p q b b' hne (by omega) (by omega) (hcons i p h1 h2) (hcons k q h3 h4) h2 h4 hb hb' hw
    have hfn := hcall g _ _ _ _ _ hc hSok _ w _ hrel hLc hall
    have hpost : ∀ u w', (∃ β', (R.v x).rel β' u ∧ Step (β.cut (R.S x).n) (R.S x) w β' (R.S (x + 1)) w') → ∃ β1, Inv R ds β0 w0 (with_ D x) β1 (a.put o.dst u) w' := by
      rintro u w' ⟨β', hu, hs⟩
      refine ⟨fun i => if i < (R.S (x + 1)).n then β' i else β i, ?_⟩
      have hle : Map.le β (fun i => if i < (R.S (x + 1)).n then β' i else β i) := by
        intro i p hp
        show (if i < (R.S (x + 1)).n then β' i else β i) = some p
        by_cases h1 : i < (R.S x).n
        · rw [if_pos (by omega)]
          exact hs.le i p (Map.cut_some.2 ⟨h1, hp⟩)
        · by_cases h2 : i < (R.S (x + 1)).n
          · exact (hI.not_there R hg h0 hxl hF.nd (by omega) h2 hp).elim
          · rw [if_neg h2]; exact hp
      have hle' : Map.le β' (fun i => if i < (R.S (x + 1)).n then β' i else β i) := by
        intro i p hp
        show (if i < (R.S (x + 1)).n then β' i else β i) = some p
        rw [if_pos (hs.rel.dom i p hp)]
        exact hp
      have hlec : Map.le β' (Map.cut (fun i => if i < (R.S (x + 1)).n then β' i else β i) (R.S (x + 1)).n) := by
        intro i p hp
        exact Map.cut_some.2 ⟨hs.rel.dom i p hp, hle' i p hp⟩
      have htouch : ∀ i, R.touch x i → i < (R.S (x + 1)).n := by
        intro i ht
        unfold Run.touch Touch at ht
        rw [he] at ht
        exact ht.1
      have hout : ∀ i, ¬ R.touch x i → (R.S x).n ≤ i → (R.S (x + 1)).n ≤ i := by
        intro i ht hi
        rcases Nat.lt_or_ge i (R.S (x + 1)).n with h | h
        · refine absurd ?_ ht
          unfold Run.touch Touch
          rw [he]
          exact ⟨h, .inl hi⟩
        · exact h
      have hsame : ∀ i, ¬ R.touch x i → (R.S (x + 1)).h i = (R.S x).h i := fun i ht => R.same hg h0 hxl ht
      -- where a block is now
      have hcls : ∀ i p b, (if i < (R.S (x + 1)).n then β' i else β i) = some p → Cur R D x i b → (β' i = some p ∧ (R.S (x + 1)).h i = some b) ∨ ((R.S (x + 1)).n ≤ i ∧ β i = some p ∧ ∃ j, j ≤ ops.length ∧ HCons R D i j ∧ (R.S j).h i = some b) := by
        intro i p b hp hcur
        rcases hcur with ⟨ht, hb⟩ | ⟨ht, j, hj, hcj, hb⟩
        · rw [if_pos (htouch i ht)] at hp
          exact .inl ⟨hp, hb⟩
        · by_cases h1 : i < (R.S x).n
          · rw [if_pos (by omega)] at hp
            have hb1 : β i = some p := by
              rcases hs.new i p hp with h | h
              · exact (Map.cut_some.1 h).2
              · omega
            refine .inl ⟨hp, ?_⟩
            rw [hsame i ht, ← HCons.same R hg h0 hj (by omega) hcj (hcons i p h1 hb1)]
            exact hb
          · have h2 := hout i ht (by omega)
            rw [if_neg (by omega)] at hp
            exact .inr ⟨h2, hp, j, hj, hcj, hb⟩
      have hnotown : ∀ i p b j, (R.S (x + 1)).n ≤ i → β i = some p → j ≤ ops.length → HCons R D i j → (R.S j).h i = some b → ¬ Owned (β.cut (R.S x).n) (R.S x) p.b := by
        rintro i p b j hi hp hj hcj hb ⟨i', p', b', hp', hb', hw', hpe⟩
        obtain ⟨h1, h2⟩ := Map.cut_some.1 hp'
        exact hI.inj i' i x j p' p b' b (by omega) (by omega) hj (hcons i' p' h1 h2) hcj h2 hp hb' hb hw' hpe
      have hnotlive : ∀ i p b j, (R.S (x + 1)).n ≤ i → β i = some p → j ≤ ops.length → HCons R D i j → (R.S j).h i = some b → b.wr = true → ¬ Live (β.cut (R.S x).n) (R.S x) p.b := by
        rintro i p b j hi hp hj hcj hb hw ⟨i', p', b', hp', hb', hpe⟩
        obtain ⟨h1, h2⟩ := Map.cut_some.1 hp'
        exact hI.inj i i' j x p p' b b' (by omega) hj (by omega) hcj (hcons i' p' h1 h2) hp h2 hb hb' hw hpe.symm
      refine hI.step R hg h0 ho hF hle ?_ ?_ (Va.rel_mono hlec hu) ?_ ?_ ?_ ?_ ?_ (Nat.le_trans hI.size hs.size) ?_ (hs.os.trans hI.os) (hs.tape.trans hI.tape) (hs.output.trans hI.output)
      · intro i p hp
        by_cases h1 : i < (R.S (x + 1)).n
        · rw [if_pos h1] at hp
          rcases hs.new i p hp with h | h
          · exact .inl (Map.cut_some.1 h).2
          · refine .inr ⟨h, h1, ?_⟩
            unfold Run.touch Touch
            rw [he]
            exact ⟨h1, .inl h⟩
        · rw [if_neg h1] at hp
          exact .inl hp
      · intro i hi
        rw [he] at hi
        rcases hi with h | ⟨r, h⟩ <;> cases h
      · intro i j p b ht hj hcj hp hb hr
        by_cases h1 : i < (R.S x).n
        · have hb' : (R.S (x + 1)).h i = some b := by
            rw [hsame i ht, ← HCons.same R hg h0 hj (by omega) hcj (hcons i p h1 hp)]
            exact hb
          exact Blk.rel_cut hle hle' hr (hs.rel.blk i p b (hs.le i p (Map.cut_some.2 ⟨h1, hp⟩)) hb')
        · have h2 := hout i ht (by omega)
          exact Blk.rel_mono (Map.cut_mono hle (Nat.le_refl _)) hr (hs.frame p.b (Blk.rel_lt hr) (hnotown i p b j h2 hp hj hcj hb))
      · intro i p b ht hp hb
        rw [if_pos (htouch i ht)] at hp
        exact Blk.rel_mono hlec (hs.rel.blk i p b hp hb) rfl
      · intro i k p q b b' hne hp hq hci hck hw
        rcases hcls i p b hp hci with ⟨hp1, hb1⟩ | ⟨hi, hp1, j, hj, hcj, hb1⟩
        · rcases hcls k q b' hq hck with ⟨hq1, hb2⟩ | ⟨hk, hq1, l, hl, hcl, hb2⟩
          · exact hs.rel.inj i k p q b b' hne hp1 hq1 hb1 hb2 hw
          · intro hpe
            have hlt := Blk.rel_lt (hI.blk k l q b' hl hcl hq1 hb2)
            exact hnotown k q b' l hk hq1 hl hcl hb2 (hs.own q.b hlt ⟨i, p, b, hp1, hb1, hw, hpe⟩)
        · rcases hcls k q b' hq hck with ⟨hq1, hb2⟩ | ⟨hk, hq1, l, hl, hcl, hb2⟩
          · intro hpe
            have hlt := Blk.rel_lt (hI.blk i j p b hj hcj hp1 hb1)
            exact hnotlive i p b j hi hp1 hj hcj hb1 hw (hs.live p.b hlt ⟨k, q, b', hq1, hb2, hpe.symm⟩)
          · exact hI.inj i k j l p q b b' hne hj hl hcj hcl hp1 hq1 hb1 hb2 hw
      · intro i p b hp hci hw hsz
        rcases hcls i p b hp hci with ⟨hp1, hb1⟩ | ⟨hi, hp1, j, hj, hcj, hb1⟩
        · obtain ⟨i', p', b', hp', hb', hw', hpe⟩ := hs.own p.b (Nat.lt_of_lt_of_le hsz hI.size) ⟨i, p, b, hp1, hb1, hw, rfl⟩
          obtain ⟨h1, h2⟩ := Map.cut_some.1 hp'
          have := hI.own i' x p' b' (by omega) (hcons i' p' h1 h2) h2 hb' hw' (by rw [hpe]; exact hsz)
          rw [hpe] at this
          exact this
        · exact hI.own i j p b hj hcj hp1 hb1 hw hsz
      · intro i p b hp hci hsz
        rcases hcls i p b hp hci with ⟨hp1, hb1⟩ | ⟨hi, hp1, j, hj, hcj, hb1⟩
        · obtain ⟨i', p', b', hp', hb', hpe⟩ := hs.live p.b (Nat.lt_of_lt_of_le hsz hI.size) ⟨i, p, b, hp1, hb1, rfl⟩
          obtain ⟨h1, h2⟩ := Map.cut_some.1 hp'
          have := hI.live i' x p' b' (by omega) (hcons i' p' h1 h2) h2 hb' (by rw [hpe]; exact hsz)
          rw [hpe] at this
          exact this
        · exact hI.live i j p b hj hcj hp1 hb1 hsz
      · intro k hk hno
        rw [hs.frame k (Nat.lt_of_lt_of_le hk hI.size) ?_]
        · exact hI.frame k hk hno
        · rintro ⟨i', p', b', hp', hb', hw', hpe⟩
          obtain ⟨h1, h2⟩ := Map.cut_some.1 hp'
          have := hI.own i' x p' b' (by omega) (hcons i' p' h1 h2) h2 hb' hw' (by rw [hpe]; exact hk)
          rw [hpe] at this
          exact hno this
    cases g with
    | f g' =>
      rcases hfn with ⟨h1, h2⟩ | ⟨v, w', h1, h2⟩
      · refine .inl ⟨h1, Calls.mono h2 fun e w' he => ?_⟩
        cases e with
        | returned u => exact hpost u w' he
        | panicked c => exact he
        | outgrown => exact he
      · exact .inr ⟨v, w', h1, hpost v w' h2⟩
    | y i =>
      obtain ⟨pl, hpl, f', tmps, assign, body, h1, h2⟩ := hfn
      refine ⟨pl, hpl, f', tmps, assign, body, h1, RoundIn.mono h2 fun e w' he => ?_⟩
      cases e with
      | returned u => exact hpost u w' he
      | panicked c => exact he
      | outgrown => exact he
omit hg h0 in
theorem acc_not_defer {o : Oper} {T : List Va} {A : Acc} (h : acc E o T = some A) : ∀ c, o.op ≠ .defer c := by
  intro c hc
  unfold acc at h
  rw [hc] at h
  cases h
/-- Each operation, run when it may. -/
theorem Inv.op (hT : TyOk P E) {ok : Yl → Prop} {ys : Yls} (hr0 : Rel β0 (R.S 0) w0) (hL : Loops ok β0 ys w0) (hcall : CallOk P ok ys call) (hI : Inv R ds β0 w0 D β a w) {x : Nat} {o : Oper} (ho : ops[x]? = some o) (hF : Fits R D x) (r : Option Nat) (Q : Exit → Act → World → Prop) :
    wpOpIn (FR r) 0 P ops.toArray Q x (fun a' w' => ∃ β', Inv R ds β0 w0 (with_ D x) β' a' w') a w := by
  have hxl : x < ops.length := (List.getElem?_eq_some_iff.1 ho).1
  have ho' : ops.toArray[x]? = some o := by simpa using ho
  unfold wpOpIn
  rw [ho']
  simp only
  rcases R.at_ x o ho with ⟨hw, hs, hoe, hT'⟩ | ⟨hw, hv, hS, he, hT'⟩
  · rw [wanted_ok (hI.sz R (by omega)) (hI.looks R ho hF) hw, if_pos rfl]
    refine ⟨fun _ _ => trivial, ?_⟩
    rcases xStep_cases hs with ⟨_, A, hA, hr⟩ | ⟨f, args, ats, g, caps, xs, p, hop, hev, hxs, hc, he⟩
    · rw [Oper.semAt_eq _ _ _ (acc_not_defer hA)]
      obtain ⟨n, w1, u, β1, hrun, hn, hI1⟩ := hI.single R hg h0 hT ho hF hA hr
      rw [hrun]
      rcases hn with rfl | ⟨rfl, rfl⟩
      · exact ⟨β1, hI1⟩
      · exact ⟨β1, hI1⟩
    · rw [Oper.semAt_eq _ _ _ (fun c hc => by rw [hop] at hc; cases hc)]
      exact hI.calls R hg h0 hr0 hL hcall ho hF hop hev hxs hc he r Q
  · rw [wanted_ok (hI.sz R (by omega)) (hI.looks R ho hF) hw, if_neg (by simp)]
    exact ⟨fun _ _ => trivial, β, hI.stay R hg h0 ho hF (.inl he) (by rw [hv]; rfl)⟩
end
end Go.V
