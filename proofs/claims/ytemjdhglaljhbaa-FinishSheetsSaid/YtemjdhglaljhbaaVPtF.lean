/- A function that is walked point by point: what its call does. -/
import Derived.Test.YtemjdhglaljhbaaVMapS
namespace Go.V
variable {P : Program} {E : Env}
theorem fnOk_of_hd (hE : EnvOk P E) {f : FuncId} {fn : Func} {c : Code} {k : Sk} {N : Nat} {rs : List ResultVar} {T0 : List Va} {args : List X} {S : St} {v : Va} (h1 : E.fn f = some fn) (h2 : fn.body = some c) (hN : fn.ntmps = N) (hk : skOf N c = some k) (hn : args.length ≤ N)
    (hrs : fn.results.toList = rs) (hT0 : args.map .x ++ List.replicate (N - args.length) .u = T0) (ho : S.ok) {β : Map} {w : World} (hr : Rel β S w)
    (H : Hd P E f N β { S with lo := S.n } w k T0 { S with lo := S.n } w fun e T' S' _ => exitQ E rs S (Is v S true) e T' S') {vargs : List Value} (hargs : All2 (X.rel β) args vargs) :
    FnOk P f vargs.toArray w fun u w' => ∃ β', v.rel β' u ∧ Step β S w β' S w' := by
  subst hN
  subst hrs
  subst hT0
  have hok : St.ok { S with lo := S.n } := ⟨Nat.le_refl _, ho.2⟩
  obtain ⟨hf1, hf2⟩ := hE.fn f fn h1
  have hr0 : Rel β { S with lo := S.n } w := ⟨hr.dom, hr.ok, hr.blk, hr.inj⟩
  have hlen := hargs.length
  left
  refine ⟨by simp [callFunc, hf1, hf2, h2], ?_⟩
  have hpt : Pt β { S with lo := S.n } w (args.map .x ++ List.replicate (fn.ntmps - args.length) .u) { S with lo := S.n } { tmps := vargs.toArray ++ Array.replicate (fn.ntmps - vargs.toArray.size) undef, defers := [] } w := by
    refine ⟨.refl hok, ⟨β, .refl hr0, ⟨by simp [hlen], fun t v x hv hx => ?_⟩⟩, Marks.nil _ _⟩
    by_cases hlt : t < args.length
    · rw [List.getElem?_append_left (by simpa using hlt), List.getElem?_map] at hv
      obtain ⟨y, hy, rfl⟩ := Option.map_eq_some_iff.1 hv
      obtain ⟨u, hu, hyr⟩ := hargs.get t y hy
      have : (vargs.toArray ++ Array.replicate (fn.ntmps - vargs.toArray.size) undef)[t]? = some u := by
        rw [Array.getElem?_append_left (by simp; omega)]
        simpa using hu
      rw [this] at hx
      cases hx
      exact hyr
    · rw [List.getElem?_append_right (by simp; omega), List.getElem?_replicate] at hv
      split at hv
      · cases hv; trivial
      · cases hv
  have hT : (args.map Va.x ++ List.replicate (fn.ntmps - args.length) Va.u).length = fn.ntmps := by simp; omega
  refine callsIn_FR.1 (callsIn_of_wp_marks (F := FR none) (n := 0) hf1 h2 trivial (wpIn_mono (H hT _ hpt c hk (hE.code f fn c h1 h2)) fun ex a1 w1 hp => ?_))
  obtain ⟨e, T1, S1, he, ⟨_, hq⟩, hp⟩ := hp
  obtain ⟨β1, hs, ht1⟩ := hp.here
  obtain ⟨Ds, hd1, hnd, hDs⟩ := hp.marks
  have hgd := hp.good
  have hs' : Step β S w β1 S1 w1 := ⟨hs.le, hs.new, hs.n, hs.rel, hs.size, hs.frame, hs.own, hs.live, hs.os, hs.tape, hs.output⟩
  have hout : ∃ vs, fn.results.toList.mapM (resOf E T1 S1) = some vs ∧ outV (tidy S S1 vs).1 = v ∧ (tidy S S1 vs).2.1 = S := by
    have : @Rn _ (resR E T1 S1 fn.results.toList) ⟨fun vs => @Lt _ (tidy S S1 vs) ⟨fun t => Is v S true (outV t.1) t.2.1 t.2.2⟩⟩ := by
      cases e with
      | ex id => exact hq.elim
      | nx => exact hq
      | rt => exact hq
    obtain ⟨vs, hvs, hI⟩ := this
    exact ⟨vs, by rw [resR_eq]; exact hvs, hI.1, hI.2.1⟩
  obtain ⟨vs, h5, h7, h8⟩ := hout
  have hleave : LeavesInM (FR none) 0 P fn a1.tmps (fun | .returned u, w' => ∃ β', v.rel β' u ∧ Step β S w β' S w' | _, _ => False) a1.defers .returning w1 := by
    rw [hd1]
    refine leavesM_of_marks Ds w1 hnd (fun D hD => (hDs D hD).2) fun w2 g1 g2 g3 g4 g5 => ?_
    have hrel2 : Rel β1 S1 w2 := by
      refine ⟨hs.rel.dom, hs.rel.ok, fun i q b hq hb => ?_, hs.rel.inj⟩
      have hbr := hs.rel.blk i q b hq hb
      refine Blk.rel_mono (Map.le_refl _) hbr (g1 q.b fun hmem => ?_)
      obtain ⟨cs, ty, fz, e1, _⟩ := hbr
      rw [(hDs _ hmem).2] at e1
      cases e1
    have hs2 : Step β S w β1 S1 w2 := ⟨hs.le, hs.new, hs.n, hrel2, by rw [g2]; exact hs.size, fun k hk hno => (g1 k fun hmem => by have := (hDs k hmem).1; omega).trans (hs'.frame k hk hno), hs'.own, hs'.live, g3.trans hs.os, g4.trans hs.tape, g5.trans hs.output⟩
    obtain ⟨us, hus, hrun⟩ := results_ok hE.ty ht1 hrel2 h5
    obtain ⟨hl, β2, hrelv, hs3⟩ := tidy_step hr ho hgd hs2 hus (show tidy S S1 vs = ((tidy S S1 vs).1, (tidy S S1 vs).2.1, (tidy S S1 vs).2.2) from rfl)
    have hm : (fn.results.mapM (resRun a1.tmps)).run P w2 = .ok us.toArray w2 := by
      rw [Array.mapM_eq_mapM_toList, map_eq_pure_bind, Sem.run_bind, hrun]
      rfl
    have hrun2 : (results fn a1.tmps).run P w2 = .ok (if h : us.toArray.size = 1 then us.toArray[0] else .tuple us.toArray) w2 := by
      unfold results
      rw [Sem.run_bind]
      show ((fn.results.mapM (resRun a1.tmps)).run P w2).andThen _ = _
      rw [hm]
      rfl
    have hur : v.rel β2 (if h : us.toArray.size = 1 then us.toArray[0] else .tuple us.toArray) := by
      rw [← h7]
      generalize (tidy S S1 vs).1 = l at hrelv
      cases hrelv with
      | nil => exact ⟨[], .nil, rfl⟩
      | cons hx ht =>
        cases ht with
        | nil => exact hx
        | cons hx2 ht2 => exact ⟨_, .cons hx (.cons hx2 ht2), by simp⟩
    rw [h8] at hs3
    exact ⟨_, hrun2, β2, hur, hs3⟩
  cases e with
  | ex id => exact hq.elim
  | nx =>
    cases ex with
    | normal => exact hleave
    | _ => exact he.elim
  | rt =>
    cases ex with
    | ret => exact hleave
    | _ => exact he.elim

variable {f : FuncId} {N : Nat} {β0 : Map} {S0 : St} {w0 : World} {T : List Va} {S : St} {w : World} {Q : Ex → List Va → St → World → Prop}
theorem still_true : Still fun _ => True := fun _ _ _ _ => trivial
/-- The first part is known to the evaluator; what is to be done next stands behind it. -/
theorem hd_seq_wp (hE : EnvOk P E) {x y : Sk} (G : World → Prop) (hG : Still G) (hw : G w) (h : @Wp E f (fun _ => none) false x T S ⟨fun e T' S' => match e with | .nx => ∀ w', G w' → Hd P E f N β0 S0 w0 y T' S' w' Q | e => ∀ w', G w' → Q e T' S' w'⟩) : Hd P E f N β0 S0 w0 (.seq x y) T S w Q := by
  refine hd_seq (hd_wp hE hG hw h) ?_ ?_
  · rintro T1 S1 w1 ⟨h1, h2⟩
    exact h1 w1 h2
  · rintro e T1 S1 w1 he ⟨h1, h2⟩
    cases e with
    | nx => exact absurd rfl he
    | _ => exact h1 w1 h2
theorem hd_wp1 (hE : EnvOk P E) {x : Sk} (G : World → Prop) (hG : Still G) (hw : G w) (h : @Wp E f (fun _ => none) false x T S ⟨fun e T' S' => ∀ w', G w' → Q e T' S' w'⟩) : Hd P E f N β0 S0 w0 x T S w Q :=
  (hd_wp hE hG hw h).mono fun _ _ _ w1 ⟨h1, h2⟩ => h1 w1 h2
theorem hd_seq_k {x y : Sk} (h : Hd P E f N β0 S0 w0 x T S w fun e T' S' w' => match e with | .nx => Hd P E f N β0 S0 w0 y T' S' w' Q | e => Q e T' S' w') : Hd P E f N β0 S0 w0 (.seq x y) T S w Q := by
  refine hd_seq h (fun T1 S1 w1 h1 => h1) ?_
  intro e T1 S1 w1 he h1
  cases e with
  | nx => exact absurd rfl he
  | _ => exact h1
theorem hd_size {k : Sk} (h : w0.heap.size ≤ w.heap.size → Hd P E f N β0 S0 w0 k T S w Q) : Hd P E f N β0 S0 w0 k T S w Q := fun hT a hp => by
  obtain ⟨β, hs, _⟩ := hp.here
  exact h hs.size hT a hp
theorem hds_size {l : List Stp} {Q : List Va → St → World → Prop} (h : w0.heap.size ≤ w.heap.size → HdS P N β0 S0 w0 l T S w Q) : HdS P N β0 S0 w0 l T S w Q := fun all ops h1 hT a hp => by
  obtain ⟨β, hs, _⟩ := hp.here
  exact h hs.size all ops h1 hT a hp
end Go.V
