/- The evaluator is sound: what it says of a call is so. -/
import Derived.Test.YtemjdhglaljhbaaVCall
namespace Go.V
variable {P : Program} {E : Env}

/-- A function that is taken as given. -/
def OracleOk (P : Program) (f : FuncId) (g : List X → St → Option (Va × St × Bool)) : Prop :=
  ∀ args S v S' p, g args S = some (v, S', p) → S.ok → (Good S S' ∧ (p = true → ∀ i, i < S.n → S'.h i = S.h i)) ∧
    ∀ β w vargs, Rel β S w → All2 (X.rel β) args vargs → FnOk P f vargs.toArray w fun u w' => ∃ β', v.rel β' u ∧ Step β S w β' S' w'
/-- What ties the evaluator's tables to the program. -/
structure EnvOk (P : Program) (E : Env) : Prop where
  ty : TyOk P E
  mixed : P.follows .mixedOrders = true
  fn : ∀ f fn, E.fn f = some fn → P.funcs[f]? = some fn ∧ fn.name ≠ "runtime.NumGoroutine"
  code : ∀ f fn c, E.fn f = some fn → fn.body = some c → codeOk (E.cd f) c = true
  G : ∀ f g, E.G f = some g → OracleOk P f g

theorem tidy_good {S S1 S2 : St} {vs vs' : List X} {p : Bool} (ho : S.ok) (hg : Good { S with lo := S.n } S1) (h : tidy S S1 vs = (vs', S2, p)) : Good S S2 ∧ (p = true → ∀ i, i < S.n → S2.h i = S.h i) := by
  have hn : S.n ≤ S1.n := hg.n
  have hk : ∀ i, i < S1.lo → S1.h i = S.h i := hg.keep
  have hlo : S.lo ≤ S.n := ho.1
  unfold tidy at h
  split at h
  · rename_i hle
    split at h
    · rename_i vs2 m hh hkeep
      cases h
      have hkx : keepX S.n S1 vs S.n S.h = some (vs', m, hh) := by
        split at hkeep
        · exact hkeep
        · cases hkeep
      obtain ⟨⟨k1, k2, k3⟩, _, _⟩ := keepX_spec hkx
      have hlt : ∀ i, i < S.n → hh i = S.h i := fun i hi => by rw [k3, if_neg (by omega)]
      refine ⟨⟨by show S.n ≤ m; omega, ⟨by show S.lo ≤ m; omega, fun i hi => ?_⟩, Nat.le_refl _, fun i hi => ?_⟩, fun _ => hlt⟩
      · have hi : m ≤ i := hi
        show hh i = none
        rw [k3, if_neg (by omega)]
        exact ho.2 i (by omega)
      · have hi : i < S.lo := hi
        exact hlt i (by omega)
    · cases h
      refine ⟨⟨hn, ⟨by show S.lo ≤ S1.n; omega, hg.ok.2⟩, Nat.le_refl _, fun i hi => ?_⟩, fun _ i hi => hk i (by omega)⟩
      have hi : i < S.lo := hi
      exact hk i (by omega)
  · cases h
    refine ⟨⟨hn, ⟨by show min S.lo S1.lo ≤ S1.n; omega, hg.ok.2⟩, Nat.min_le_left _ _, fun i hi => ?_⟩, fun h => by cases h⟩
    have hi : i < min S.lo S1.lo := hi
    exact hk i (by omega)
theorem tidy_step {β β1 : Map} {S S1 S2 : St} {w w1 : World} {vs vs' : List X} {us : List Value} {p : Bool} (hr : Rel β S w) (ho : S.ok) (hg : Good { S with lo := S.n } S1) (hs : Step β S w β1 S1 w1) (hv : All2 (X.rel β1) vs us) (h : tidy S S1 vs = (vs', S2, p)) :
    vs'.length = vs.length ∧ ∃ β2, All2 (X.rel β2) vs' us ∧ Step β S w β2 S2 w1 := by
  have hk : ∀ i, i < S1.lo → S1.h i = S.h i := hg.keep
  unfold tidy at h
  split at h
  · rename_i hle
    split at h
    · rename_i vs2 m hh hkeep
      cases h
      have hkx : (newIds S.n vs).Nodup ∧ keepX S.n S1 vs S.n S.h = some (vs', m, hh) := by
        split at hkeep
        · rename_i hnd; exact ⟨hnd, hkeep⟩
        · cases hkeep
      obtain ⟨hnd, hkx⟩ := hkx
      obtain ⟨⟨k1, k2, k3⟩, hlen, hrel⟩ := keepX_spec hkx
      generalize newIds S.n vs = ids at *
      have hold : ∀ i p, i < S.n → (β1 i = some p ↔ β i = some p) := fun i p hi => ⟨fun h => (hs.new i p h).resolve_right (by omega), hs.le i p⟩
      refine ⟨hlen, fun j => if j < S.n then β j else if j < m then (ids[j - S.n]?).bind β1 else none, ?_, ?_⟩
      · refine hrel β1 _ us ⟨fun i p hi hp => ?_, fun k i p hki hp => ?_⟩ hv
        · show (if i < S.n then β i else _) = some p
          rw [if_pos hi]
          exact (hold i p hi).1 hp
        · have hlt := (List.getElem?_eq_some_iff.1 hki).1
          show (if S.n + k < S.n then _ else _) = some p
          rw [if_neg (by omega), if_pos (by omega), Nat.add_sub_cancel_left, hki]
          exact hp
      · -- the shape of what is kept
        have hcase : ∀ j q, (if j < S.n then β j else if j < m then (ids[j - S.n]?).bind β1 else none) = some q →
            (j < S.n ∧ β j = some q ∧ β1 j = some q ∧ hh j = S1.h j) ∨ (S.n ≤ j ∧ j < m ∧ ∃ i, ids[j - S.n]? = some i ∧ S.n ≤ i ∧ β1 i = some q ∧ hh j = S1.h i ∧ ∃ b, S1.h i = some b ∧ b.cs.all C.flat = true) := by
          intro j q hq
          by_cases h1 : j < S.n
          · rw [if_pos h1] at hq
            refine .inl ⟨h1, hq, hs.le j q hq, ?_⟩
            rw [k3, if_neg (by omega)]
            exact (hk j (by omega)).symm
          · rw [if_neg h1] at hq
            by_cases h2 : j < m
            · rw [if_pos h2] at hq
              cases hi : ids[j - S.n]? with
              | none => rw [hi] at hq; cases hq
              | some i =>
                rw [hi] at hq
                obtain ⟨h3, b, h4, h5⟩ := k2 i (List.mem_of_getElem? hi)
                refine .inr ⟨by omega, h2, i, rfl, h3, hq, ?_, b, h4, h5⟩
                rw [k3, if_pos (by omega), hi]
                rfl
            · rw [if_neg h2] at hq; cases hq
        refine ⟨fun j q hq => ?_, fun j q hq => ?_, by show S.n ≤ m; omega, ⟨fun j q hq => ?_, fun j hj => ?_, fun j q b hq hb => ?_, fun j k q r b b' hne hq hr' hb hb' hw => ?_⟩, hs.size, hs.frame, ?_, ?_, hs.os, hs.tape, hs.output⟩
        · show (if j < S.n then _ else _) = some q
          rw [if_pos (hr.dom j q hq)]
          exact hq
        · rcases hcase j q hq with ⟨_, h, _⟩ | ⟨h, _⟩
          · exact .inl h
          · exact .inr h
        · rcases hcase j q hq with ⟨h, _⟩ | ⟨_, h, _⟩
          · show j < m; omega
          · exact h
        · have hj : m ≤ j := hj
          show hh j = none
          rw [k3, if_neg (by omega)]
          exact ho.2 j (by omega)
        · have hb : hh j = some b := hb
          rcases hcase j q hq with ⟨h1, h2, h3, h4⟩ | ⟨h1, h2, i, h3, h4, h5, h6, b0, h7, h8⟩
          · rw [h4] at hb
            obtain ⟨cs, ty, fz, a1, a2, a3, a4⟩ := hs.rel.blk j q b h3 hb
            have hb0 : S.h j = some b := by rw [← hk j (by omega)]; exact hb
            obtain ⟨cs0, ty0, fz0, b1, b2, _, _⟩ := hr.blk j q b h2 hb0
            refine ⟨cs, ty, fz, a1, fun t c hc => ?_, a3, a4⟩
            obtain ⟨v, e1, e2⟩ := a2 t c hc
            obtain ⟨v0, _, e3⟩ := b2 t c hc
            refine ⟨v, e1, C.rel_via (fun i' p' p'' g1 g2 => ?_) e3 e2⟩
            show (if i' < S.n then β i' else _) = some p''
            have hi' := hr.dom i' p' g1
            rw [if_pos hi']
            exact (hold i' p'' hi').1 g2
          · rw [h6, h7] at hb
            cases hb
            obtain ⟨cs, ty, fz, a1, a2, a3, a4⟩ := hs.rel.blk i q b h5 h7
            refine ⟨cs, ty, fz, a1, fun t c hc => ?_, a3, a4⟩
            obtain ⟨v, e1, e2⟩ := a2 t c hc
            exact ⟨v, e1, C.rel_flat (List.all_eq_true.1 h8 c (List.mem_of_getElem? hc)) e2⟩
        · have hb : hh j = some b := hb
          have hb' : hh k = some b' := hb'
          rcases hcase j q hq with ⟨h1, h2, h3, h4⟩ | ⟨h1, h2, i, h3, h4, h5, h6, _⟩
          · rcases hcase k r hr' with ⟨g1, g2, g3, g4⟩ | ⟨g1, g2, i2, g3, g4, g5, g6, _⟩
            · exact hs.rel.inj j k q r b b' hne h3 g3 (h4 ▸ hb) (g4 ▸ hb') hw
            · exact hs.rel.inj j i2 q r b b' (by omega) h3 g5 (h4 ▸ hb) (g6 ▸ hb') hw
          · rcases hcase k r hr' with ⟨g1, g2, g3, g4⟩ | ⟨g1, g2, i2, g3, g4, g5, g6, _⟩
            · exact hs.rel.inj i k q r b b' (by omega) h5 g3 (h6 ▸ hb) (g4 ▸ hb') hw
            · have hne' : i ≠ i2 := by
                intro e
                subst e
                have hjl := (List.getElem?_eq_some_iff.1 h3)
                have hkl := (List.getElem?_eq_some_iff.1 g3)
                obtain ⟨hj1, hj2⟩ := hjl
                obtain ⟨hk1, hk2⟩ := hkl
                rcases Nat.lt_or_ge (j - S.n) (k - S.n) with hlt | hge
                · exact List.pairwise_iff_getElem.1 hnd _ _ hj1 hk1 hlt (hj2.trans hk2.symm)
                · exact List.pairwise_iff_getElem.1 hnd _ _ hk1 hj1 (by omega) (hk2.trans hj2.symm)
              exact hs.rel.inj i i2 q r b b' hne' h5 g5 (h6 ▸ hb) (g6 ▸ hb') hw
        · rintro k hk' ⟨j, q, b, hq, hb, hw, rfl⟩
          have hb : hh j = some b := hb
          rcases hcase j q hq with ⟨h1, h2, h3, h4⟩ | ⟨h1, h2, i, h3, h4, h5, h6, _⟩
          · exact hs.own _ hk' ⟨j, q, b, h3, h4 ▸ hb, hw, rfl⟩
          · exact hs.own _ hk' ⟨i, q, b, h5, h6 ▸ hb, hw, rfl⟩
        · rintro k hk' ⟨j, q, b, hq, hb, rfl⟩
          have hb : hh j = some b := hb
          rcases hcase j q hq with ⟨h1, h2, h3, h4⟩ | ⟨h1, h2, i, h3, h4, h5, h6, _⟩
          · exact hs.live _ hk' ⟨j, q, b, h3, h4 ▸ hb, rfl⟩
          · exact hs.live _ hk' ⟨i, q, b, h5, h6 ▸ hb, rfl⟩
    · cases h
      exact ⟨rfl, β1, hv, ⟨hs.le, hs.new, hs.n, ⟨hs.rel.dom, hs.rel.ok, hs.rel.blk, hs.rel.inj⟩, hs.size, hs.frame, hs.own, hs.live, hs.os, hs.tape, hs.output⟩⟩
  · cases h
    exact ⟨rfl, β1, hv, ⟨hs.le, hs.new, hs.n, ⟨hs.rel.dom, hs.rel.ok, hs.rel.blk, hs.rel.inj⟩, hs.size, hs.frame, hs.own, hs.live, hs.os, hs.tape, hs.output⟩⟩

def resRun (tmps : Array Value) (r : ResultVar) : Sem Value :=
  match r with
  | .tmp t => pure (tmps.getD t undef)
  | .cell a t => do loadVar t (← asAddr (tmps.getD a undef))
theorem resOf_ok (hT : TyOk P E) {β : Map} {T : List Va} {S : St} {tmps : Array Value} {w : World} (ht : Tm β T tmps) (hr : Rel β S w) {r : ResultVar} {x : X} (h : resOf E T S r = some x) :
    ∃ u, x.rel β u ∧ (resRun tmps r).run P w = .ok u w := by
  have hget : ∀ (t : Nat) (v : Va), T[t]? = some v → v.rel β (tmps.getD t undef) := by
    intro t v hv
    have hl : t < T.length := (List.getElem?_eq_some_iff.1 hv).1
    have hl' : t < tmps.size := by rw [← ht.1]; exact hl
    have := ht.2 t v (tmps[t]) hv (Array.getElem?_eq_getElem hl')
    simpa [Array.getD, hl'] using this
  cases r with
  | tmp t =>
    simp only [resOf] at h
    split at h
    · rename_i v hv
      cases h
      exact ⟨_, hget t _ hv, rfl⟩
    · cases h
  | cell a t =>
    simp only [resOf, Option.bind_eq_bind] at h
    obtain ⟨v, hv, g1⟩ := bind_some h
    clear h
    have hva := hget a v hv
    cases v with
    | x y =>
      simp only at g1
      obtain ⟨q, hq, g2⟩ := bind_some g1
      clear g1
      obtain ⟨i, o⟩ := q
      simp only at g2
      obtain ⟨b, hb, h⟩ := bind_some g2
      clear g2
      have hy : y = .c (.ptr (some (i, o))) := by
        unfold toPtr at hq
        split at hq
        · cases hq; rfl
        · cases hq
      subst hy
      obtain ⟨pl, hpl, hva⟩ := hva
      have hbr := hr.blk i pl b hpl hb
      simp only [resRun, hva, asAddr]
      unfold part? at h
      cases hs : size? E t with
      | none => simp [hs] at h
      | some s =>
        cases ha : agg? E t with
        | none => simp [hs, ha] at h
        | some g =>
          simp [hs, ha] at h
          cases g with
          | true =>
            simp at h
            obtain ⟨hle, hx⟩ := h
            obtain ⟨l, hl, hrun⟩ := Blk.rel_load (P := P) hbr hle
            exact ⟨.agg l.toArray, by rw [← hx]; exact ⟨l, hl, rfl⟩, by simp [loadVar, hT.isAgg ha, hT.size hs, Result.andThen, hrun w rfl]⟩
          | false =>
            simp at h
            obtain ⟨c, hc, hx⟩ := h
            obtain ⟨cs, ty', fz, h1, h2, _⟩ := hbr
            obtain ⟨u, hu, hru⟩ := h2 _ _ hc
            have hcell : w.cell? (pl.at o) = some u := by
              have := cell_of_heap h1 (pl.o + o)
              simpa [Pl.at, hu] using this
            exact ⟨u, by rw [← hx]; exact hru, by simp [loadVar, hT.isAgg ha, Result.andThen, hcell]⟩
    | _ => cases g1
theorem results_ok (hT : TyOk P E) {β : Map} {T : List Va} {S : St} {tmps : Array Value} {w : World} (ht : Tm β T tmps) (hr : Rel β S w) : ∀ {rs : List ResultVar} {xs : List X}, rs.mapM (resOf E T S) = some xs →
    ∃ us, All2 (X.rel β) xs us ∧ (rs.mapM (resRun tmps)).run P w = .ok us w
  | [], xs, h => by
    simp at h
    subst h
    exact ⟨[], .nil, by simp⟩
  | r :: rs, xs, h => by
    rw [List.mapM_cons] at h
    simp only [Option.bind_eq_bind] at h
    obtain ⟨x, hx, h⟩ := bind_some h
    obtain ⟨ys, hys, h⟩ := bind_some h
    cases h
    obtain ⟨u, hu, hrun⟩ := resOf_ok hT ht hr hx
    obtain ⟨us, hus, hrun2⟩ := results_ok hT ht hr hys
    refine ⟨u :: us, .cons hu hus, ?_⟩
    rw [List.mapM_cons, Sem.run_bind, hrun]
    simp only [Result.andThen_ok, Sem.run_bind, hrun2]
    rfl

theorem xCall_parts {k : Nat} {ys : Yls} {f : FuncId} {args : List X} {S S' : St} {v : Va} {p : Bool} (h : xCall E (k + 1) ys (.f f) args S = some (v, S', p)) :
    (∃ g, E.G f = some g ∧ g args S = some (v, S', p)) ∨
    (E.G f = none ∧ ∃ fn c e T1 S1 vs vs', E.fn f = some fn ∧ fn.body = some c ∧ xCode E (E.cd f) (xCall E k) ys f false k c (args.map .x ++ List.replicate (fn.ntmps - args.length) .u) { S with lo := S.n } = some (e, T1, S1) ∧ (∀ id, e ≠ .ex id) ∧
      fn.results.toList.mapM (resOf E T1 S1) = some vs ∧ tidy S S1 vs = (vs', S', p) ∧ v = match vs' with | [v] => .x v | _ => .t vs') := by
  simp only [xCall] at h
  split at h
  · rename_i g hg
    exact .inl ⟨g, hg, h⟩
  · rename_i hg
    right
    refine ⟨hg, ?_⟩
    simp only [Option.bind_eq_bind] at h
    obtain ⟨fn, hfn, h⟩ := bind_some h
    obtain ⟨c, hc, h⟩ := bind_some h
    obtain ⟨⟨e, T1, S1⟩, hx, h⟩ := bind_some h
    simp only at h
    have key : (∀ id, e ≠ .ex id) → (fn.results.toList.mapM (resOf E T1 S1)).bind (fun vs => some (match (tidy S S1 vs).1 with | [v] => Va.x v | _ => .t (tidy S S1 vs).1, (tidy S S1 vs).2.1, (tidy S S1 vs).2.2)) = some (v, S', p) →
        ∃ fn c e T1 S1 vs vs', E.fn f = some fn ∧ fn.body = some c ∧ xCode E (E.cd f) (xCall E k) ys f false k c (args.map .x ++ List.replicate (fn.ntmps - args.length) .u) { S with lo := S.n } = some (e, T1, S1) ∧ (∀ id, e ≠ .ex id) ∧
      fn.results.toList.mapM (resOf E T1 S1) = some vs ∧ tidy S S1 vs = (vs', S', p) ∧ v = match vs' with | [v] => .x v | _ => .t vs' := by
      intro he h
      obtain ⟨vs, hvs, h⟩ := bind_some h
      cases h
      exact ⟨fn, c, e, T1, S1, vs, _, hfn, hc, hx, he, hvs, rfl, rfl⟩
    split at h
    · cases h
    · rename_i hne
      exact key (fun id hid => hne id hid) h
theorem round_parts {cd : Nat → List (Nat × Nat)} {call : Yls → CallF} {ys : Yls} {k : Nat} {L : Yl} {args : List X} {S S' : St} {v : Va} {p : Bool} (h : round E cd call ys k L args S = some (v, S', p)) :
    args.length = L.ps.length ∧ v = .x (.c (.bool true)) ∧ p = false ∧ ∃ T1 S1 T2, xCode E cd call ys L.fn true k L.assign (setAll L.T L.ps args) S = some (.nx, T1, S1) ∧ xCode E cd call ys L.fn true k L.body T1 S1 = some (.nx, T2, S') := by
  unfold round at h
  split at h
  · rename_i hl
    split at h
    · rename_i T1 S1 h1
      split at h
      · rename_i T2 S2 h2
        cases h
        exact ⟨hl, rfl, rfl, T1, S1, T2, h1, h2⟩
      · cases h
    · cases h
  · cases h
theorem xCall_good (hE : EnvOk P E) : ∀ k ys, GoodCall (xCall E k ys)
  | 0, _ => fun f args S v S' p h => by simp [xCall] at h
  | k + 1, ys => fun
    | .f f => fun args S v S' p h ho => by
      rcases xCall_parts h with ⟨g, hg, h⟩ | ⟨_, fn, c, e, T1, S1, vs, vs', h1, h2, h3, h4, h5, h6, h7⟩
      · exact (hE.G f g hg args S v S' p h ho).1
      · have hok : St.ok { S with lo := S.n } := ⟨Nat.le_refl _, ho.2⟩
        exact tidy_good ho (code_good (xCall_good hE k) _ _ _ _ _ _ h3 hok) h6
    | .y i => fun args S v S' p h ho => by
      simp only [xCall] at h
      obtain ⟨L, hL, h⟩ := bind_some h
      obtain ⟨_, _, rfl, T1, S1, T2, h1, h2⟩ := round_parts h
      have g1 := code_good (xCall_good hE k) _ _ _ _ _ _ h1 ho
      exact ⟨g1.trans (code_good (xCall_good hE k) _ _ _ _ _ _ h2 g1.ok), fun h => by cases h⟩
theorem leavesM_of_marks {fn : Func} {tmps : Array Value} {R : Ending → World → Prop} {n : Nat} : ∀ (Ds : List Nat) (w : World), Ds.Nodup → (∀ D ∈ Ds, w.heap[D]? = some (.deferred (some []))) →
    (∀ w' : World, (∀ k, k ∉ Ds → w'.heap[k]? = w.heap[k]?) → w'.heap.size = w.heap.size → w'.os = w.os → w'.tape = w.tape → w'.output = w.output → LeavesIn (FR none) n P fn tmps R [] .returning w') →
    LeavesInM (FR none) n P fn tmps R (Ds.map fun D => { target := .collected D, args := #[] }) .returning w
  | [], w, _, _, h => h w (fun _ _ => rfl) rfl rfl rfl rfl
  | D :: Ds, w, hnd, hD, h => by
    obtain ⟨hn1, hn2⟩ := List.nodup_cons.1 hnd
    refine ⟨by simp, .inl ⟨D, _, rfl, run_takeDeferred (hD D List.mem_cons_self), leavesM_of_marks Ds _ hn2 (fun D' hD' => ?_) fun w' h1 h2 h3 h4 h5 => h w' (fun k hk => ?_) ?_ h3 h4 h5⟩⟩
    · have hne : D' ≠ D := fun e => hn1 (e ▸ hD')
      exact (World.putObj_heap_other hne).trans (hD D' (List.mem_cons_of_mem _ hD'))
    · simp only [List.mem_cons, not_or] at hk
      exact (h1 k hk.2).trans (World.putObj_heap_other hk.1)
    · rw [h2, World.putObj_size]
theorem setAll_ok {β : Map} : ∀ {ps : List Tmp} {args : List X} {vargs : List Value} {T : List Va} {tm : Array Value}, args.length = ps.length → All2 (X.rel β) args vargs → Tm β T tm → Tm β (setAll T ps args) ((ps.zip vargs).foldl (fun t (x : Tmp × Value) => t.setIfInBounds x.1 x.2) tm)
  | [], [], _, T, tm, _, .nil, ht => ht
  | p :: ps, a :: args, _, T, tm, hl, .cons (b := v) h hr, ht => by
    simp only [setAll, List.zip_cons_cons, List.foldl_cons]
    refine setAll_ok (by simpa using hl) hr ⟨by simp [ht.1], fun t y x hy hx => ?_⟩
    by_cases hpt : p = t
    · subst hpt
      have hlt : p < T.length := by
        have := (List.getElem?_eq_some_iff.1 hy).1
        simpa using this
      rw [List.getElem?_set_self hlt] at hy
      rw [Array.getElem?_setIfInBounds_self_of_lt (by rw [← ht.1]; exact hlt)] at hx
      cases hy
      cases hx
      exact h
    · rw [List.getElem?_set_ne hpt] at hy
      rw [Array.getElem?_setIfInBounds_ne hpt] at hx
      exact ht.2 t y x hy hx
  | [], _ :: _, _, _, _, hl, _, _ => by simp at hl
  | _ :: _, [], _, _, _, hl, _, _ => by simp at hl
theorem xCall_sound (hE : EnvOk P E) : ∀ k ys, CallOk P (okYl E) ys (xCall E k ys)
  | 0, _ => fun f args S v S' p h => by simp [xCall] at h
  | k + 1, ys => fun
    | .f f => fun args S v S' p h ho β w vargs hr hL hargs => by
      rcases xCall_parts h with ⟨g, hg, h⟩ | ⟨_, fn, c, e, T1, S1, vs, vs', h1, h2, h3, h4, h5, h6, h7⟩
      · exact (hE.G f g hg args S v S' p h ho).2 β w vargs hr hargs
      · have hok : St.ok { S with lo := S.n } := ⟨Nat.le_refl _, ho.2⟩
        have hgd := code_good (xCall_good hE k) _ _ _ _ _ _ h3 hok
        obtain ⟨hf1, hf2⟩ := hE.fn f fn h1
        have hr0 : Rel β { S with lo := S.n } w := ⟨hr.dom, hr.ok, hr.blk, hr.inj⟩
        have hlen := hargs.length
        left
        refine ⟨by simp [callFunc, hf1, hf2, h2], ?_⟩
        refine callsIn_FR.1 (callsIn_of_wp_marks (F := FR none) (n := 0) hf1 h2 trivial (wpIn_mono (code_sound hE.ty hE.mixed hE.fn (xCall_good hE k) (xCall_sound hE k) (r := none) (B := w.heap.size) rfl c (hE.code f fn c h1 h2) _ _ _ _ _ h3 hok β _ w hr0 hL (Nat.le_refl _) ?_ (Marks.nil _ _)) fun ex a1 w1 hp => ?_))
        · refine ⟨by simp [hlen], fun t v x hv hx => ?_⟩
          by_cases hlt : t < args.length
          · rw [List.getElem?_append_left (by simpa using hlt), List.getElem?_map] at hv
            obtain ⟨y, hy, rfl⟩ := Option.map_eq_some_iff.1 hv
            obtain ⟨u, hu, hyr⟩ := hargs.get t y hy
            have : (vargs.toArray ++ Array.replicate (fn.ntmps - vargs.toArray.size) undef)[t]? = some u := by
              rw [Array.getElem?_append_left (by simp; omega)]
              simpa using hu
            rw [this] at hx
            cases hx
            exact hyr
          · rw [List.getElem?_append_right (by simp; omega), List.getElem?_replicate] at hv
            split at hv
            · cases hv; trivial
            · cases hv
        · obtain ⟨he, β1, hs, ht1, Ds, hd1, hnd, hDs⟩ := hp
          have hs' : Step β S w β1 S1 w1 := ⟨hs.le, hs.new, hs.n, hs.rel, hs.size, hs.frame, hs.own, hs.live, hs.os, hs.tape, hs.output⟩
          have hleave : LeavesInM (FR none) 0 P fn a1.tmps (fun | .returned u, w' => ∃ β', v.rel β' u ∧ Step β S w β' S' w' | _, _ => False) a1.defers .returning w1 := by
            rw [hd1]
            refine leavesM_of_marks Ds w1 hnd (fun D hD => (hDs D hD).2) fun w2 g1 g2 g3 g4 g5 => ?_
            have hrel2 : Rel β1 S1 w2 := by
              refine ⟨hs.rel.dom, hs.rel.ok, fun i q b hq hb => ?_, hs.rel.inj⟩
              have hbr := hs.rel.blk i q b hq hb
              refine Blk.rel_mono (Map.le_refl _) hbr (g1 q.b fun hmem => ?_)
              obtain ⟨cs, ty, fz, e1, _⟩ := hbr
              rw [(hDs _ hmem).2] at e1
              cases e1
            have hs2 : Step β S w β1 S1 w2 := ⟨hs.le, hs.new, hs.n, hrel2, by rw [g2]; exact hs.size, fun k hk hno => (g1 k fun hmem => by have := (hDs k hmem).1; omega).trans (hs'.frame k hk hno), hs'.own, hs'.live, g3.trans hs.os, g4.trans hs.tape, g5.trans hs.output⟩
            obtain ⟨us, hus, hrun⟩ := results_ok hE.ty ht1 hrel2 h5
            obtain ⟨hl, β2, hrelv, hs3⟩ := tidy_step hr ho hgd hs2 hus h6
            have hm : (fn.results.mapM (resRun a1.tmps)).run P w2 = .ok us.toArray w2 := by
              rw [Array.mapM_eq_mapM_toList, map_eq_pure_bind, Sem.run_bind, hrun]
              rfl
            have hrun2 : (results fn a1.tmps).run P w2 = .ok (if h : us.toArray.size = 1 then us.toArray[0] else .tuple us.toArray) w2 := by
              unfold results
              rw [Sem.run_bind]
              show ((fn.results.mapM (resRun a1.tmps)).run P w2).andThen _ = _
              rw [hm]
              rfl
            have hur : v.rel β2 (if h : us.toArray.size = 1 then us.toArray[0] else .tuple us.toArray) := by
              rw [h7]
              cases hrelv with
              | nil => exact ⟨[], .nil, rfl⟩
              | cons hx ht =>
                cases ht with
                | nil => exact hx
                | cons hx2 ht2 => exact ⟨_, .cons hx (.cons hx2 ht2), by simp⟩
            exact ⟨_, hrun2, β2, hur, hs3⟩
          cases e with
          | ex id => exact absurd rfl (h4 id)
          | nx =>
            cases ex with
            | normal => exact hleave
            | _ => exact he.elim
          | rt =>
            cases ex with
            | ret => exact hleave
            | _ => exact he.elim
    | .y i => fun args S v S' p h ho β w vargs hr hL hargs => by
      simp only [xCall] at h
      obtain ⟨L, hLi, h⟩ := bind_some h
      obtain ⟨hlen, rfl, rfl, T1, S1, T2, h1, h2⟩ := round_parts h
      obtain ⟨⟨hok1, hok2⟩, l, D, f', tm, hβ, htm, hl⟩ := hL i L hLi
      refine ⟨_, hβ, f', _, _, _, run_yield hl (by have := hargs.length; simp; omega), roundIn_of_wpIn (F := FR none) trivial ?_⟩
      have hnoL : ∀ β1 w1, Loops (okYl E) β1 (fun _ => none) w1 := fun _ _ _ _ h => by cases h
      have hset : (L.ps.toArray.zip vargs.toArray).foldl (fun tmps (x : Tmp × Value) => tmps.setIfInBounds x.1 x.2) tm = (L.ps.zip vargs).foldl (fun tmps (x : Tmp × Value) => tmps.setIfInBounds x.1 x.2) tm := by
        rw [← Array.foldl_toList]
        simp
      have htm1 : Tm β (setAll L.T L.ps args) ((L.ps.toArray.zip vargs.toArray).foldl (fun tmps (x : Tmp × Value) => tmps.setIfInBounds x.1 x.2) tm) := by
        rw [hset]
        exact setAll_ok hlen hargs htm
      have hcode1 := code_sound hE.ty hE.mixed hE.fn (xCall_good hE k) (xCall_sound hE k) (ys := fun _ => none) (r := some l) (B := 0) rfl L.assign hok1 _ _ _ _ _ h1 ho β { tmps := (L.ps.toArray.zip vargs.toArray).foldl (fun tmps (x : Tmp × Value) => tmps.setIfInBounds x.1 x.2) tm, defers := [] } w hr (hnoL _ _) (Nat.zero_le _) htm1 (Marks.nil _ _)
      refine wpIn_mono hcode1 fun ex a1 w1 hp => ?_
      obtain ⟨he, β1, hs1, ht1, hd1⟩ := hp
      cases ex with
      | normal =>
        have hl1 : w1.heap[l]? = _ := (hs1.frame l (lt_of_heap hl) (hr.not_owned hl (fun _ _ _ => by simp))).trans hl
        have hg1 := code_good (xCall_good hE k) _ _ _ _ _ _ h1 ho
        refine ⟨_, run_beginRound hl1 rfl, ?_⟩
        generalize hw2 : w1.putObj l (.loop { state := .busy, pending := none, fn := f', tmps := tm, params := L.ps.toArray, assign := L.assign, body := L.body, defers := D }) = w2
        have hl2 : w2.heap[l]? = some (.loop { state := .busy, pending := none, fn := f', tmps := tm, params := L.ps.toArray, assign := L.assign, body := L.body, defers := D }) := by
          rw [← hw2]; exact World.putObj_heap_same (lt_of_heap hl1)
        have hr2 : Rel β1 S1 w2 := by rw [← hw2]; exact hs1.rel.put hl1 (fun _ _ _ => by simp)
        have hcode2 := code_sound hE.ty hE.mixed hE.fn (xCall_good hE k) (xCall_sound hE k) (ys := fun _ => none) (r := some l) (B := 0) rfl L.body hok2 _ _ _ _ _ h2 hg1.ok β1 a1 w2 hr2 (hnoL _ _) (Nat.zero_le _) ht1 (by
          obtain ⟨Ds, e1, e2, e3⟩ := hd1
          refine ⟨Ds, e1, e2, fun D' hD' => ⟨Nat.zero_le _, ?_⟩⟩
          have := (e3 D' hD').2
          rw [← hw2]
          refine (World.putObj_heap_other fun e => ?_).trans this
          rw [e, hl1] at this
          cases this)
        have hsame : { ({ state := .busy, pending := none, fn := f', tmps := tm, params := L.ps.toArray, assign := L.assign, body := L.body, defers := D } : Loop) with state := .ready, pending := none } = ({ state := .ready, pending := none, fn := f', tmps := tm, params := L.ps.toArray, assign := L.assign, body := L.body, defers := D } : Loop) := rfl
        refine wpIn_mono hcode2 fun ex2 a3 w3 hp2 => ?_
        obtain ⟨he2, β3, hs3, ht3, hd3⟩ := hp2
        cases ex2 with
        | normal =>
          have hl3 : w3.heap[l]? = _ := (hs3.frame l (lt_of_heap hl2) (hr2.not_owned hl2 (fun _ _ _ => by simp))).trans hl2
          refine ⟨_, _, run_endRound none hl3, β3, rfl, ?_⟩
          refine ⟨Map.le_trans hs1.le hs3.le, fun j q hq => ?_, Nat.le_trans hs1.n hs3.n, hs3.rel.put hl3 (fun _ _ _ => by simp), ?_, fun j hj hno => ?_, fun j hj hown => ?_, fun j hj hlive => ?_, ?_, ?_, ?_⟩
          · rcases hs3.new j q hq with h | h
            · exact hs1.new j q h
            · exact .inr (Nat.le_trans hs1.n h)
          · rw [World.putObj_size]
            have := hs3.size
            rw [← hw2, World.putObj_size] at this
            exact Nat.le_trans hs1.size this
          · by_cases hjl : j = l
            · subst hjl
              rw [World.putObj_heap_same (lt_of_heap hl3), hl]
              rfl
            · have hj1 : j < w1.heap.size := Nat.lt_of_lt_of_le hj hs1.size
              have hj2 : j < w2.heap.size := by rw [← hw2, World.putObj_size]; exact hj1
              rw [World.putObj_heap_other hjl, hs3.frame j hj2 (fun ho => hno (hs1.own j hj ho)), ← hw2, World.putObj_heap_other hjl]
              exact hs1.frame j hj hno
          · have hj2 : j < w2.heap.size := by rw [← hw2, World.putObj_size]; exact Nat.lt_of_lt_of_le hj hs1.size
            exact hs1.own j hj (hs3.own j hj2 hown)
          · have hj2 : j < w2.heap.size := by rw [← hw2, World.putObj_size]; exact Nat.lt_of_lt_of_le hj hs1.size
            exact hs1.live j hj (hs3.live j hj2 hlive)
          · exact hs3.os.trans (by rw [← hw2]; exact hs1.os)
          · exact hs3.tape.trans (by rw [← hw2]; exact hs1.tape)
          · exact hs3.output.trans (by rw [← hw2]; exact hs1.output)
        | _ => exact he2.elim
      | _ => exact he.elim
end Go.V
