/- The evaluator's soundness, part 13: code. -/
import Derived.Test.YtemjdhglaljhbaaVReg
namespace Go.V
variable {P : Program} {E : Env}

/-- Each region of the code that draws its order passes the check. -/
def codeOk (cd : Nat → List (Nat × Nat)) : Code → Bool
  | .region id ops draw => !draw || regOk ops.toList (cd id)
  | .seq a b => codeOk cd a && codeOk cd b
  | .cond _ a b => codeOk cd a && codeOk cd b
  | .block _ c => codeOk cd c
  | .loop c => codeOk cd c
  | .rangeFunc _ _ a b => codeOk cd a && codeOk cd b
  | _ => true

def okYl (E : Env) (L : Yl) : Prop := codeOk (E.cd L.fn) L.assign = true ∧ codeOk (E.cd L.fn) L.body = true
def Ex.is : Ex → Exit → Prop
  | .nx, .normal => True
  | .ex id, .exit id' => id = id'
  | .rt, .ret => True
  | _, _ => False
/-- The marks of loops over functions among the deferred calls. -/
def Marks (B : Nat) (w : World) (ds : List Deferred) : Prop := ∃ Ds : List Nat, ds = Ds.map (fun D => { target := .collected D, args := #[] }) ∧ Ds.Nodup ∧ ∀ D ∈ Ds, B ≤ D ∧ w.heap[D]? = some (.deferred (some []))
theorem Marks.nil (B : Nat) (w : World) : Marks B w [] := ⟨[], rfl, .nil, fun D h => by cases h⟩
theorem Marks.step {B : Nat} {β β' : Map} {S S' : St} {w w' : World} {ds : List Deferred} (hr : Rel β S w) (h : Marks B w ds) (hs : Step β S w β' S' w') : Marks B w' ds := by
  obtain ⟨Ds, h1, h2, h3⟩ := h
  refine ⟨Ds, h1, h2, fun D hD => ?_⟩
  obtain ⟨h4, h5⟩ := h3 D hD
  exact ⟨h4, (hs.frame D (lt_of_heap h5) (hr.not_owned h5 (fun _ _ _ => by simp))).trans h5⟩
/-- What holds behind code. -/
def Post (B : Nat) (β : Map) (S : St) (w : World) (e : Ex) (T' : List Va) (S' : St) (ex : Exit) (a' : Act) (w' : World) : Prop :=
  e.is ex ∧ ∃ β', Step β S w β' S' w' ∧ Tm β' T' a'.tmps ∧ Marks B w' a'.defers
theorem Rel.put {β : Map} {S : St} {w : World} (h : Rel β S w) {k : Nat} {o o' : Obj} (hk : w.heap[k]? = some o) (ho : ∀ cs ty fz, o ≠ .cells cs ty fz) : Rel β S (w.putObj k o') := by
  refine ⟨h.dom, h.ok, fun i p b hp hb => ?_, h.inj⟩
  have hr := h.blk i p b hp hb
  refine Blk.rel_mono (Map.le_refl _) hr (World.putObj_heap_other fun e => ?_)
  obtain ⟨cs, ty, fz, h1, _⟩ := hr
  rw [e, hk] at h1
  cases h1
  exact ho _ _ _ rfl
/-- A block that is new, and no cells, is turned. -/
theorem Step.put {β β' : Map} {S S' : St} {w w' : World} (h : Step β S w β' S' w') {k : Nat} {o o' : Obj} (hk : w'.heap[k]? = some o) (ho : ∀ cs ty fz, o ≠ .cells cs ty fz) (hn : w.heap.size ≤ k) : Step β S w β' S' (w'.putObj k o') :=
  ⟨h.le, h.new, h.n, h.rel.put hk ho, by rw [World.putObj_size]; exact h.size, fun j hj hno => (World.putObj_heap_other (by omega)).trans (h.frame j hj hno), h.own, h.live, h.os, h.tape, h.output⟩
/-- A block that is no cells is laid. -/
theorem Step.lay {β : Map} {S : St} {w : World} (h : Rel β S w) (o : Obj) : Step β S w β S (w.alloc o) := by
  refine ⟨Map.le_refl _, fun _ _ h => .inl h, Nat.le_refl _, ⟨h.dom, h.ok, fun i p b hp hb => ?_, h.inj⟩, by simp, fun k hk _ => heap_push_lt hk, fun _ _ h => h, fun _ _ h => h, rfl, rfl, rfl⟩
  have hr := h.blk i p b hp hb
  exact Blk.rel_mono (Map.le_refl _) hr (heap_push_lt (Blk.rel_lt hr))
/-- A number is given to it. -/
theorem Step.name {β : Map} {S : St} {w : World} (h : Rel β S w) (l : Nat) : ∃ β1, β1 S.n = some ⟨l, 0, none⟩ ∧ Step β S w β1 { S with n := S.n + 1 } w := by
  have hn : β S.n = none := by
    cases e : β S.n with
    | none => rfl
    | some p => exact absurd (h.dom _ _ e) (Nat.lt_irrefl _)
  have hle : Map.le β (fun i => if i = S.n then some ⟨l, 0, none⟩ else β i) := fun i p e => by
    have : i ≠ S.n := fun e' => by rw [e', hn] at e; cases e
    simp [this, e]
  have hof : ∀ i p b, (if i = S.n then some ⟨l, 0, none⟩ else β i) = some p → S.h i = some b → β i = some p := by
    intro i p b hp hb
    by_cases hi : i = S.n
    · rw [hi, h.ok _ (Nat.le_refl _)] at hb; cases hb
    · simpa [hi] using hp
  refine ⟨fun i => if i = S.n then some ⟨l, 0, none⟩ else β i, by simp, hle, fun i p hp => ?_, Nat.le_succ _, ⟨fun i p hp => ?_, fun i hi => h.ok i (by have hi : S.n + 1 ≤ i := hi; omega), fun i p b hp hb => ?_, fun i j p q b b' hij hp hq hb hb' hw => ?_⟩, Nat.le_refl _, fun _ _ _ => rfl, ?_, ?_, rfl, rfl, rfl⟩
  · by_cases hi : i = S.n
    · exact .inr (by omega)
    · simp [hi] at hp; exact .inl hp
  · show i < S.n + 1
    by_cases hi : i = S.n
    · omega
    · simp [hi] at hp; have := h.dom i p hp; omega
  · exact Blk.rel_mono hle (h.blk i p b (hof i p b hp hb) hb) rfl
  · exact h.inj i j p q b b' hij (hof i p b hp hb) (hof j q b' hq hb') hb hb' hw
  · rintro k hk ⟨i, p, b, hp, hb, hw, rfl⟩
    exact ⟨i, p, b, hof i p b hp hb, hb, hw, rfl⟩
  · rintro k hk ⟨i, p, b, hp, hb, rfl⟩
    exact ⟨i, p, b, hof i p b hp hb, hb, rfl⟩

theorem region_run {call : CallF} {ops : List Oper} {T T' : List Va} {S S' : St} {es : List Eff} (h : xOps E call ops ops T S = some (T', S', es)) :
    ∃ R : Run E call ops, R.T 0 = T ∧ R.S 0 = S ∧ R.T ops.length = T' ∧ R.S ops.length = S' ∧ ∀ j, R.e j = es.getD j .pure := by
  obtain ⟨Ts, Ss, vs, h1, h2, h3, h4, h5⟩ := xOps_run h
  exact ⟨⟨Ts, Ss, vs, fun j => es.getD j .pure, h5⟩, h1, h2, h3, h4, fun _ => rfl⟩
theorem iter_good {f : List Va → St → Option (Ex × List Va × St)} (hf : ∀ T S e T' S', f T S = some (e, T', S') → S.ok → Good S S') : ∀ (n : Nat) (T : List Va) (S : St) (e : Ex) (T' : List Va) (S' : St), iter f n T S = some (e, T', S') → S.ok → Good S S'
  | 0, T, S, e, T', S', h, _ => by simp [iter] at h
  | n + 1, T, S, e, T', S', h, ho => by
    simp only [iter] at h
    split at h
    · rename_i T1 S1 h1
      have hg := hf _ _ _ _ _ h1 ho
      exact hg.trans (iter_good hf n _ _ _ _ _ h hg.ok)
    · exact hf _ _ _ _ _ h ho
theorem code_good {call : Yls → CallF} (hg : ∀ ys, GoodCall (call ys)) {ys : Yls} {fn : FuncId} {rnd : Bool} {cd : Nat → List (Nat × Nat)} {fuel : Nat} : ∀ (c : Code) (T : List Va) (S : St) (e : Ex) (T' : List Va) (S' : St), xCode E cd call ys fn rnd fuel c T S = some (e, T', S') → S.ok → Good S S' := by
  intro c
  induction c with
  | skip => intro T S e T' S' h ho; simp only [xCode] at h; cases h; exact .refl ho
  | exit id => intro T S e T' S' h ho; simp only [xCode] at h; cases h; exact .refl ho
  | ret => intro T S e T' S' h ho; simp only [xCode] at h; cases h; exact .refl ho
  | region id ops draw =>
    intro T S e T' S' h ho
    simp only [xCode, Option.bind_eq_bind] at h
    obtain ⟨⟨T1, S1, es⟩, h1, h⟩ := bind_some h
    simp only at h
    split at h
    · cases h
    · cases h
      obtain ⟨R, r1, r2, r3, r4, _⟩ := region_run h1
      rw [← r2, ← r4]
      exact R.all_good (hg ys) (by rw [r2]; exact ho) (Nat.le_refl _)
  | seq a b iha ihb =>
    intro T S e T' S' h ho
    simp only [xCode] at h
    split at h
    · rename_i T1 S1 h1
      have := iha _ _ _ _ _ h1 ho
      exact this.trans (ihb _ _ _ _ _ h this.ok)
    · exact iha _ _ _ _ _ h ho
  | cond c a b iha ihb =>
    intro T S e T' S' h ho
    simp only [xCode, Option.bind_eq_bind] at h
    obtain ⟨t, ht, h⟩ := bind_some h
    cases t with
    | true => exact iha _ _ _ _ _ h ho
    | false => exact ihb _ _ _ _ _ h ho
  | block id c ih =>
    intro T S e T' S' h ho
    simp only [xCode] at h
    split at h
    · rename_i id' T1 S1 h1
      cases h
      exact ih _ _ _ _ _ h1 ho
    · exact ih _ _ _ _ _ h ho
  | loop c ih =>
    intro T S e T' S' h ho
    simp only [xCode] at h
    exact iter_good ih _ _ _ _ _ _ h ho
  | rangeFunc g ps assign body iha ihb =>
    intro T S e T' S' h ho
    simp only [xCode] at h
    split at h
    · cases h
    · unfold ranged at h
      split at h
      · split at h
        · simp only [Option.bind_eq_bind] at h
          obtain ⟨⟨v, S1, p⟩, h1, h⟩ := bind_some h
          cases h
          have ho1 : St.ok { S with n := S.n + 1 } := ⟨Nat.le_succ_of_le ho.1, fun i hi => ho.2 i (by have hi : S.n + 1 ≤ i := hi; omega)⟩
          have hg0 : Good S { S with n := S.n + 1 } := ⟨Nat.le_succ _, ho1, Nat.le_refl _, fun _ _ => rfl⟩
          exact hg0.trans (hg _ _ _ _ _ _ _ h1 ho1).1
        · cases h
      · cases h
  | _ => intro T S e T' S' h; simp [xCode] at h

theorem least {p : Nat → Prop} (h : ∃ n, p n) : ∃ n, p n ∧ ∀ m, p m → n ≤ m := by
  obtain ⟨n, hn⟩ := h
  induction n using Nat.strongRecOn with
  | _ n ih =>
    by_cases h : ∃ m, m < n ∧ p m
    · obtain ⟨m, hm, hp⟩ := h
      exact ih m hm hp
    · exact ⟨n, hn, fun m hm => Classical.byContradiction fun hlt => h ⟨m, by omega, hm⟩⟩
noncomputable def first (p : Nat → Prop) : Nat := by
  classical
  exact if h : ∃ n, p n then Classical.choose (least h) else 0
theorem first_spec {p : Nat → Prop} (h : ∃ n, p n) : p (first p) ∧ ∀ m, p m → first p ≤ m := by
  unfold first
  rw [dif_pos h]
  exact Classical.choose_spec (least h)

theorem Step.start {β : Map} {S : St} {w : World} {β1 : Map} {S1 : St} {w1 : World} {e : Ex} {T' : List Va} {S' : St} {ex : Exit} {a' : Act} {w' : World} (hs : Step β S w β1 S1 w1) {B : Nat} (h : Post B β1 S1 w1 e T' S' ex a' w') : Post B β S w e T' S' ex a' w' := by
  obtain ⟨h1, β', h2, h3⟩ := h
  exact ⟨h1, β', hs.trans h2, h3⟩

theorem caps_rel {β β' : Map} (h : Map.le β β') {caps : List (Nat × Nat)} {lb : List Value} (hl : All2 (fun (x : Nat × Nat) u => ∃ p, β x.1 = some p ∧ u = Value.pointer (some (p.at x.2))) caps lb) : All2 (X.rel β') (caps.map fun p => .c (.ptr (some p))) lb := by
  induction hl with
  | nil => exact .nil
  | cons h1 _ ih =>
    obtain ⟨p, hp, e⟩ := h1
    exact .cons ⟨p, h _ _ hp, e⟩ ih
theorem code_sound (hT : TyOk P E) (hm : P.follows .mixedOrders = true) (hfn : ∀ f fn, E.fn f = some fn → P.funcs[f]? = some fn ∧ fn.name ≠ "runtime.NumGoroutine") {call : Yls → CallF} (hg : ∀ ys, GoodCall (call ys)) (hcall : ∀ ys, CallOk P (okYl E) ys (call ys)) {ys : Yls} {fn : FuncId} {r : Option Nat} {B : Nat} {cd : Nat → List (Nat × Nat)} (hcdf : cd = E.cd fn) {fuel : Nat} :
    ∀ (c : Code), codeOk cd c = true → ∀ (T : List Va) (S : St) (e : Ex) (T' : List Va) (S' : St), xCode E cd call ys fn r.isSome fuel c T S = some (e, T', S') → S.ok →
      ∀ (β : Map) (a : Act) (w : World), Rel β S w → Loops (okYl E) β ys w → B ≤ w.heap.size → Tm β T a.tmps → Marks B w a.defers → c.wpIn (FR r) 0 P (Post B β S w e T' S') a w := by
  intro c
  induction c with
  | skip =>
    intro _ T S e T' S' h ho β a w hr hL hB ht hd
    simp only [xCode] at h
    cases h
    exact wpIn_skip ⟨trivial, β, .refl hr, ht, hd⟩
  | exit id =>
    intro _ T S e T' S' h ho β a w hr hL hB ht hd
    simp only [xCode] at h
    cases h
    exact wpIn_exit ⟨rfl, β, .refl hr, ht, hd⟩
  | ret =>
    intro _ T S e T' S' h ho β a w hr hL hB ht hd
    simp only [xCode] at h
    cases h
    exact wpIn_ret ⟨trivial, β, .refl hr, ht, hd⟩
  | region id ops draw =>
    intro hcd T S e T' S' h ho β a w hr hL hB ht hd
    simp only [xCode, Option.bind_eq_bind] at h
    obtain ⟨⟨T1, S1, es⟩, h1, h⟩ := bind_some h
    simp only at h
    split at h
    · cases h
    · rename_i hfine
      cases h
      obtain ⟨R, r1, r2, r3, r4, r5⟩ := region_run h1
      have h0 : (R.S 0).ok := by rw [r2]; exact ho
      cases draw with
      | false =>
        refine wpIn_region ?_
        have hI := Inv.start R (hg ys) h0 (β0 := β) (w0 := w) (a := a) (by rw [r2]; exact hr) (by rw [r1]; exact ht) rfl
        have := text_sound R (hg ys) h0 hT (by rw [r2]; exact hr) hL (hcall ys) r (Post B β S w .nx T' S') (fun β' a' w' hI' => by
          obtain ⟨h1, h2⟩ := hI'.finish R (hg ys) h0 (fun y hy => hy)
          rw [r2, r4] at h1
          rw [r3] at h2
          exact ⟨trivial, β', h1, h2, by rw [hI'.defers]; exact hd.step hr h1⟩) ops.toList.length 0 β a w (by omega) (hI.congr R fun y => ⟨fun h => h.elim, fun h => by omega⟩)
        rw [← List.range_eq_range'] at this
        simpa using this
      | true =>
        refine wpIn_region_any hm ?_
        simp only [Bool.true_and, Bool.not_eq_true', Bool.not_eq_false] at hfine
        have hcd : regOk ops.toList (cd id) = true := by simpa [codeOk] using hcd
        obtain ⟨bt, hf⟩ := regOk_facts hcd
        have hrd : Rel β S w.drew := hr.drew
        have hI := Inv.start R (hg ys) h0 (β0 := β) (w0 := w.drew) (a := a) (by rw [r2]; exact hrd) (by rw [r1]; exact ht) rfl
        have hnone : ∀ y, ¬ doneOf ops.toList (Array.replicate ops.size false) y := by
          rintro y ⟨h1, h2⟩
          have : y < ops.size := by simpa using h1
          simp [this] at h2
        have := any_sound R (hg ys) h0 hT (by rw [r2]; exact hrd) (hL.step hr (Step.drew hr)) (hcall ys) r hf (fun i j hij => by
          rw [r5, r5]
          have := List.all_eq_true.1 hfine (i, j) hij
          simpa using this) (Post B β S w .nx T' S') (fun β' a' w' hI' => by
          obtain ⟨h1, h2⟩ := hI'.finish R (hg ys) h0 (fun y hy => hy)
          rw [r2, r4] at h1
          rw [r3] at h2
          exact (Step.drew hr).start ⟨trivial, β', h1, h2, by rw [hI'.defers]; exact (hd.step hr (Step.drew hr)).step hrd h1⟩) ops.size (Array.replicate ops.size false) β a w.drew (by simp) (by
            refine Nat.le_trans (List.length_filter_le _ _) ?_
            simp) (fun j y e hy hj => absurd hj (hnone j)) (hI.congr R fun y => ⟨fun h => h.elim, fun h => hnone y h⟩)
        simpa using this
  | seq x y ihx ihy =>
    intro hcd T S e T' S' h ho β a w hr hL hB ht hd
    simp only [codeOk, Bool.and_eq_true] at hcd
    simp only [xCode] at h
    split at h
    · rename_i T1 S1 h1
      have hgd := code_good hg _ _ _ _ _ _ h1 ho
      refine wpIn_seq (wpIn_mono (ihx hcd.1 _ _ _ _ _ h1 ho β a w hr hL hB ht hd) fun ex a1 w1 hp => ?_)
      obtain ⟨he, β1, hs, ht1, hd1⟩ := hp
      cases ex with
      | normal =>
        refine wpIn_mono (ihy hcd.2 _ _ _ _ _ h hgd.ok β1 a1 w1 hs.rel (hL.step hr hs) (Nat.le_trans hB hs.size) ht1 hd1) fun ex a2 w2 hp => hs.start hp
      | _ => exact he.elim
    · rename_i hne
      refine wpIn_seq (wpIn_mono (ihx hcd.1 _ _ _ _ _ h ho β a w hr hL hB ht hd) fun ex a1 w1 hp => ?_)
      cases ex with
      | normal =>
        obtain ⟨he, _⟩ := hp
        cases e with
        | nx => exact absurd h (hne _ _)
        | _ => exact he.elim
      | _ => exact hp
  | cond c x y ihx ihy =>
    intro hcd T S e T' S' h ho β a w hr hL hB ht hd
    simp only [codeOk, Bool.and_eq_true] at hcd
    simp only [xCode, Option.bind_eq_bind] at h
    obtain ⟨t, ht', h⟩ := bind_some h
    have hc : a.eval c = .bool t := evB_ok (ev_rel ht.1 fun t v u _ hv hu => ht.2 t v u hv hu) ht'
    refine wpIn_cond hc ?_
    cases t with
    | true => exact ihx hcd.1 _ _ _ _ _ h ho β a w hr hL hB ht hd
    | false => exact ihy hcd.2 _ _ _ _ _ h ho β a w hr hL hB ht hd
  | block id c ih =>
    intro hcd T S e T' S' h ho β a w hr hL hB ht hd
    simp only [codeOk] at hcd
    simp only [xCode] at h
    refine wpIn_block ?_
    split at h
    · rename_i id' T1 S1 h1
      cases h
      refine wpIn_mono (ih hcd _ _ _ _ _ h1 ho β a w hr hL hB ht hd) fun ex a1 w1 hp => ?_
      obtain ⟨he, hp⟩ := hp
      cases ex with
      | exit id2 =>
        obtain rfl := (show id' = id2 from he)
        show if id' = id then _ else _
        split
        · exact ⟨trivial, hp⟩
        · exact ⟨rfl, hp⟩
      | _ => exact he.elim
    · rename_i hne
      refine wpIn_mono (ih hcd _ _ _ _ _ h ho β a w hr hL hB ht hd) fun ex a1 w1 hp => ?_
      cases ex with
      | exit id2 =>
        obtain ⟨he, _⟩ := hp
        cases e with
        | ex id3 => exact absurd h (hne _ _ _)
        | _ => exact he.elim
      | _ => exact hp
  | loop c ih =>
    intro hcd T S e T' S' h ho β a w hr hL hB ht hd
    simp only [codeOk] at hcd
    simp only [xCode] at h
    let J : Nat → Act → World → Prop := fun n a1 w1 => ∃ T1 S1 β1, iter (xCode E cd call ys fn r.isSome fuel c) n T1 S1 = some (e, T', S') ∧ S1.ok ∧ Step β S w β1 S1 w1 ∧ Tm β1 T1 a1.tmps ∧ Marks B w1 a1.defers
    refine wpIn_loop (fun a1 w1 => ∃ n, J n a1 w1) (fun a1 w1 => first fun n => J n a1 w1) ⟨fuel, T, S, β, h, ho, .refl hr, ht, hd⟩ fun a1 w1 hJ => ?_
    obtain ⟨hn, _⟩ := first_spec hJ
    generalize hn0 : (first fun n => J n a1 w1) = n at hn
    obtain ⟨T1, S1, β1, hit, ho1, hs1, ht1, hd1⟩ := hn
    cases n with
    | zero => simp [iter] at hit
    | succ n =>
      simp only [iter] at hit
      split at hit
      · rename_i T2 S2 h2
        have hgd := code_good hg _ _ _ _ _ _ h2 ho1
        refine wpIn_mono (ih hcd _ _ _ _ _ h2 ho1 β1 a1 w1 hs1.rel (hL.step hr hs1) (Nat.le_trans hB hs1.size) ht1 hd1) fun ex a2 w2 hp => ?_
        obtain ⟨he, β2, hs2, ht2, hd2⟩ := hp
        cases ex with
        | normal =>
          have hJ2 : J n a2 w2 := ⟨T2, S2, β2, hit, hgd.ok, hs1.trans hs2, ht2, hd2⟩
          refine ⟨⟨n, hJ2⟩, ?_⟩
          have h3 := (first_spec (p := fun n => J n a2 w2) ⟨n, hJ2⟩).2 n hJ2
          show (first fun n => J n a2 w2) < n + 1
          omega
        | _ => exact he.elim
      · rename_i hne
        refine wpIn_mono (ih hcd _ _ _ _ _ hit ho1 β1 a1 w1 hs1.rel (hL.step hr hs1) (Nat.le_trans hB hs1.size) ht1 hd1) fun ex a2 w2 hp => ?_
        cases ex with
        | normal =>
          obtain ⟨he, _⟩ := hp
          cases e with
          | nx => exact absurd hit (hne _ _)
          | _ => exact he.elim
        | _ => exact hs1.start hp
  | rangeFunc g ps assign body _ _ =>
    intro hcd T S e T' S' h ho β a w hr hL hB ht hd
    simp only [xCode] at h
    split at h
    · cases h
    · rename_i hrn
      have hrn : r = none := by cases r <;> simp_all
      subst hrn
      unfold ranged at h
      split at h
      · rename_i gf caps hev
        split at h
        · rename_i hbody
          simp only [Option.bind_eq_bind] at h
          obtain ⟨⟨v, S2, p⟩, h1, h⟩ := bind_some h
          cases h
          obtain ⟨lb, hlb, hgv⟩ := evX_ok (ev_rel ht.1 fun t v u _ hv hu => ht.2 t v u hv hu) hev
          have ho1 : St.ok { S with n := S.n + 1 } := ⟨Nat.le_succ_of_le ho.1, fun i hi => ho.2 i (by have hi : S.n + 1 ≤ i := hi; omega)⟩
          refine wpIn_rangeFunc fun fn0 _ => ?_
          let rec0 : Loop := { state := .ready, pending := none, fn := fn0, tmps := a.tmps, params := ps, assign, body, defers := w.heap.size }
          let W1 := (w.alloc (.deferred (some []))).alloc (.loop rec0)
          have hs1 : Step β S w β S W1 := (Step.lay hr _).trans (Step.lay (Step.lay hr _).rel _)
          have hsz1 : (w.alloc (.deferred (some []))).heap.size = w.heap.size + 1 := by simp
          have hL1 : W1.heap[w.heap.size + 1]? = some (.loop rec0) := by
            have := heap_push_eq (w.alloc (.deferred (some []))) (.loop rec0)
            rw [hsz1] at this
            exact this
          have hD1 : W1.heap[w.heap.size]? = some (.deferred (some [])) := by
            have := heap_push_lt (w := w.alloc (.deferred (some []))) (o := .loop rec0) (k := w.heap.size) (by rw [hsz1]; omega)
            exact this.trans (heap_push_eq w _)
          obtain ⟨β1, hβ1, hs2⟩ := Step.name hs1.rel (w.heap.size + 1)
          have hs12 := hs1.trans hs2
          have hLs : Loops (okYl E) β1 (fun j => if j = S.n then some ⟨fn, T, ps.toList, assign, body⟩ else ys j) W1 := by
            intro i L hi
            dsimp only at hi
            split at hi
            · rename_i hin
              cases hi
              subst hin
              exact ⟨by rw [hcdf] at hcd; simpa [codeOk, okYl] using hcd, w.heap.size + 1, w.heap.size, fn0, a.tmps, hβ1, ht.mono hs12.le, by simpa [rec0] using hL1⟩
            · exact (hL.step hr hs12) i L hi
          have hargs : All2 (X.rel β1) (.c (.yl S.n) :: caps.map fun p => .c (.ptr (some p))) (.func (.yield (w.heap.size + 1)) #[] #[] :: lb) := by
            exact .cons ⟨_, hβ1, rfl⟩ (caps_rel hs12.le hlb)
          have hfo := hcall _ (.f gf) _ _ _ _ _ h1 ho1 β1 W1 _ hs2.rel hLs hargs
          obtain ⟨fnb, hfb, hfbody⟩ : ∃ fnb, E.fn gf = some fnb ∧ fnb.body.isSome = true := by
            cases hx : E.fn gf with
            | none => simp [hx] at hbody
            | some fnb => exact ⟨fnb, rfl, by simpa [hx] using hbody⟩
          obtain ⟨hpf, hname⟩ := hfn gf fnb hfb
          have hent : ∀ args w', (callFunc gf args).run P w' = .ok (.enter gf args) w' := by
            intro args w'
            have : fnb.body ≠ none := by
              intro hb
              rw [hb] at hfbody
              cases hfbody
            simp [callFunc, hpf, hname, this]
          have hcalls : Calls P gf (.func (.yield (w.heap.size + 1)) #[] #[] :: lb).toArray W1 (fun | .returned u, w' => ∃ β', v.rel β' u ∧ Step β1 { S with n := S.n + 1 } W1 β' S2 w' | _, _ => False) := by
            rcases hfo with ⟨_, h2⟩ | ⟨u, w', h2, _⟩
            · exact h2
            · rw [hent] at h2; cases h2
          refine ⟨w.heap.size + 1, [{ target := .collected w.heap.size, args := #[] }], W1, { target := .fn (.func gf) lb.toArray, args := #[.func (.yield (w.heap.size + 1)) #[] #[]] }, W1, gf, (.func (.yield (w.heap.size + 1)) #[] #[] :: lb).toArray, W1, ?_, ?_, fun _ _ => trivial, ?_, fun h => (by cases h), ?_⟩
          · exact run_enterLoop_outer _ _ _ _ _
          · simp only [resolve, hgv]
            simp [Act.eval, Deferred.ofValue]
          · have : (#[.func (.yield (w.heap.size + 1)) #[] #[]] ++ lb.toArray : Array Value) = (.func (.yield (w.heap.size + 1)) #[] #[] :: lb).toArray := by simp
            simp only [invoke]
            rw [this]
            exact hent _ _
          · refine callsIn_FR.2 (Calls.mono hcalls fun en w3 hen => ?_)
            cases en with
            | returned u =>
              obtain ⟨β2, _, hs3⟩ := hen
              have hl3 : w3.heap[w.heap.size + 1]? = some (.loop rec0) := (hs3.frame _ (lt_of_heap hL1) (hs2.rel.not_owned hL1 (fun _ _ _ => by simp))).trans hL1
              have hd3 : w3.heap[w.heap.size]? = some (.deferred (some [])) := (hs3.frame _ (lt_of_heap hD1) (hs2.rel.not_owned hD1 (fun _ _ _ => by simp))).trans hD1
              refine ⟨none, w3.putObj (w.heap.size + 1) (.loop { rec0 with state := .exhausted }), run_endLoop hl3 (by simp [rec0]), ?_⟩
              have hall := (hs12.trans hs3).put (o' := .loop { rec0 with state := .exhausted }) hl3 (fun _ _ _ => by simp) (by omega)
              refine ⟨trivial, β2, hall, ht.mono hall.le, ?_⟩
              obtain ⟨Ds, d1, d2, d3⟩ := hd.step hr hall
              obtain ⟨Ds0, d1', d2', d3'⟩ := hd
              have hDs : Ds = Ds0 := by
                have : Ds.map (fun D => ({ target := .collected D, args := #[] } : Deferred)) = Ds0.map (fun D => { target := .collected D, args := #[] }) := d1.symm.trans d1'
                exact (List.map_inj_right (fun x y hxy => by simpa using hxy)).1 this
              subst hDs
              refine ⟨w.heap.size :: Ds, by rw [d1]; rfl, List.nodup_cons.2 ⟨fun hmem => ?_, d2⟩, fun D hD => ?_⟩
              · have := lt_of_heap (d3' _ hmem).2
                omega
              · rcases List.mem_cons.1 hD with rfl | hD
                · exact ⟨hB, (World.putObj_heap_other (by omega)).trans hd3⟩
                · exact d3 D hD
            | panicked c => exact hen.elim
            | outgrown => exact hen.elim
        · cases h
      · cases h
  | _ => intro _ T S e T' S' h; simp [xCode] at h
end Go.V
