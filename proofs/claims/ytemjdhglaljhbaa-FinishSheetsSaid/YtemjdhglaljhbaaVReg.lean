/- The evaluator's soundness, part 12: regions. -/
import Derived.Test.YtemjdhglaljhbaaVOne
namespace Go.V
variable {P : Program} {E : Env}

/-- A region that draws its order: what the orders that are left open may not change. -/
def regOk (ops : List Oper) (cd : List (Nat × Nat)) : Bool :=
  let b := Region.before ops.toArray
  (List.range ops.length).all fun j =>
    match ops[j]? with
    | none => false
    | some y => y.after.all (fun e => !Region.binds .any e || decide (e.on < j)) && (List.range j).all fun i =>
      match ops[i]? with
      | none => false
      | some x =>
        if (b.getD j 0).testBit i then y.after.any fun e => Region.binds .any e && (e.on == i || (decide (i < e.on) && (b.getD e.on 0).testBit i))
        else x.apart ops.toArray y && (!touchy x y || cd.contains (i, j))

theorem bad_of {x y : Oper} {e e' : Eff} (h : okEff x e = true) (h' : okEff y e' = true) (ht : touchy x y = false) : Eff.bad e e' = false := by
  cases e <;> cases e' <;> simp [okEff, touchy, Eff.bad] at * <;> simp_all
section
variable {call : CallF} {ops : List Oper} (R : Run E call ops) (hg : GoodCall call) (h0 : (R.S 0).ok)
variable {ds : List Deferred} {β0 : Map} {w0 : World}
theorem Run.okEff {j : Nat} {o : Oper} (ho : ops[j]? = some o) : okEff o (R.e j) = true := by
  rcases R.at_ j o ho with ⟨_, _, h, _⟩ | ⟨_, _, _, h, _⟩
  · exact h
  · rw [h]; rfl
include hg h0
theorem Inv.start {a : Act} (hr : Rel β0 (R.S 0) w0) (ht : Tm β0 (R.T 0) a.tmps) (hd : a.defers = ds) : Inv R ds β0 w0 (fun _ => False) β0 a w0 := by
  have hle : ∀ j, j ≤ ops.length → Map.le β0 (β0.cut (R.S j).n) := fun j hj i p hp => Map.cut_some.2 ⟨Nat.lt_of_lt_of_le (hr.dom i p hp) (R.mono hg h0 (Nat.zero_le _) hj), hp⟩
  have hh : ∀ i j, j ≤ ops.length → HCons R (fun _ => False) i j → (R.S j).h i = (R.S 0).h i := fun i j hj hc => R.h_same hg h0 (Nat.zero_le _) hj fun y _ hy ht => (hc y (by omega) ht).1 hy
  refine ⟨fun _ h => h.elim, Map.le_refl _, fun i p h => .inl ⟨hr.dom i p h, h⟩, fun _ _ h => h.elim, ht.1, ?_, ?_, ?_, ?_, ?_, Nat.le_refl _, fun _ _ _ => rfl, rfl, rfl, rfl, hd⟩
  · intro t j v u hj hc hv hu
    rw [R.T_same (i := 0) (Nat.zero_le _) hj fun y o _ hy ho hd => (hc y o ho hd).1 hy] at hv
    exact Va.rel_mono (hle j hj) (ht.2 t v u hv hu)
  · intro i j p b hj hc hp hb
    rw [hh i j hj hc] at hb
    exact Blk.rel_mono (hle j hj) (hr.blk i p b hp hb) rfl
  · intro i k j l p q b b' hne hj hl hc hc' hp hq hb hb' hw
    rw [hh i j hj hc] at hb
    rw [hh k l hl hc'] at hb'
    exact hr.inj i k p q b b' hne hp hq hb hb' hw
  · intro i j p b hj hc hp hb hw _
    rw [hh i j hj hc] at hb
    exact ⟨i, p, b, hp, hb, hw, rfl⟩
  · intro i j p b hj hc hp hb _
    rw [hh i j hj hc] at hb
    exact ⟨i, p, b, hp, hb, rfl⟩
theorem Inv.finish {β : Map} {w : World} {a : Act} {D : Nat → Prop} (hI : Inv R ds β0 w0 D β a w) (hD : ∀ y, y < ops.length → D y) : Step β0 (R.S 0) w0 β (R.S ops.length) w ∧ Tm β (R.T ops.length) a.tmps := by
  have hc : ∀ i, HCons R D i ops.length := fun i y hy _ => ⟨fun h => hD y h, fun h => by omega⟩
  have htc : ∀ t, TCons ops D t ops.length := fun t y o ho _ => by
    have hy := (List.getElem?_eq_some_iff.1 ho).1
    exact ⟨fun h => hD y h, fun h => by omega⟩
  have hSok := R.ok hg h0 ops.length (Nat.le_refl _)
  refine ⟨⟨hI.le, ?_, R.mono hg h0 (Nat.zero_le _) (Nat.le_refl _), ⟨?_, hSok.2, ?_, ?_⟩, hI.size, hI.frame, ?_, ?_, hI.os, hI.tape, hI.output⟩, ?_, ?_⟩
  · intro i p hp
    rcases hI.dom i p hp with h | ⟨y, hy, h1, h2⟩
    · exact .inl h.2
    · right
      have := R.mono hg h0 (i := 0) (j := y) (Nat.zero_le _) (by have := hI.sub y hy; omega)
      omega
  · intro i p hp
    rcases hI.dom i p hp with ⟨h, _⟩ | ⟨y, hy, h1, h2⟩
    · have := R.mono hg h0 (i := 0) (j := ops.length) (Nat.zero_le _) (Nat.le_refl _)
      omega
    · have hyl := hI.sub y hy
      have := R.mono hg h0 (i := y + 1) (j := ops.length) (by omega) (Nat.le_refl _)
      omega
  · intro i p b hp hb
    exact Blk.rel_mono (Map.cut_le _ _) (hI.blk i _ p b (Nat.le_refl _) (hc i) hp hb) rfl
  · intro i k p q b b' hne hp hq hb hb' hw
    exact hI.inj i k _ _ p q b b' hne (Nat.le_refl _) (Nat.le_refl _) (hc i) (hc k) hp hq hb hb' hw
  · rintro k hk ⟨i, p, b, hp, hb, hw, rfl⟩
    exact hI.own i _ p b (Nat.le_refl _) (hc i) hp hb hw hk
  · rintro k hk ⟨i, p, b, hp, hb, rfl⟩
    exact hI.live i _ p b (Nat.le_refl _) (hc i) hp hb hk
  · rw [R.T_length _ (Nat.le_refl _)]
    exact hI.tsz
  · intro t v x hv hx
    exact Va.rel_mono (Map.cut_le _ _) (hI.tm t _ v x (Nat.le_refl _) (htc t) hv hx)

omit hg h0 in
theorem Inv.congr {β : Map} {w : World} {a : Act} {D D' : Nat → Prop} (h : ∀ y, D y ↔ D' y) (hI : Inv R ds β0 w0 D β a w) : Inv R ds β0 w0 D' β a w := by
  have : D = D' := funext fun y => propext (h y)
  rw [← this]
  exact hI
/-- In the order of the text. -/
theorem text_sound (hT : TyOk P E) {ok : Yl → Prop} {ys : Yls} (hr0 : Rel β0 (R.S 0) w0) (hL : Loops ok β0 ys w0) (hcall : CallOk P ok ys call) (r : Option Nat) (Q : Exit → Act → World → Prop) (hQ : ∀ β a w, Inv R ds β0 w0 (fun y => y < ops.length) β a w → Q .normal a w) :
    ∀ (k x : Nat) (β : Map) (a : Act) (w : World), x + k = ops.length → Inv R ds β0 w0 (fun y => y < x) β a w → wpOpsIn (FR r) 0 P ops.toArray Q (List.range' x k) a w
  | 0, x, β, a, w, hx, hI => by
    have hx : x = ops.length := hx
    subst hx
    exact hQ β a w hI
  | k + 1, x, β, a, w, hx, hI => by
    rw [List.range'_succ, wpOpsIn_cons]
    have hxl : x < ops.length := by omega
    have hF : Fits R (fun y => y < x) x := by
      refine ⟨Nat.lt_irrefl x, fun _ _ _ _ y o _ _ => ⟨fun h => h, fun h1 h2 => by omega⟩, fun _ _ _ _ y o h1 h2 => by omega, fun y h1 h2 => absurd h1 h2, fun y h1 h2 => by omega⟩
    refine wpOpIn_mono (fun a' w' h => ?_) (hI.op R hg h0 hT hr0 hL hcall (List.getElem?_eq_getElem hxl) hF r Q)
    obtain ⟨β', hI'⟩ := h
    exact text_sound hT hr0 hL hcall r Q hQ k (x + 1) β' a' w' (by omega) (hI'.congr R fun y => by unfold with_; omega)
/-- What the check of a region says. -/
structure RegFacts (ops : List Oper) (cd : List (Nat × Nat)) (bt : Nat → Nat → Bool) : Prop where
  edge : ∀ j y e, ops[j]? = some y → e ∈ y.after → Region.binds .any e = true → e.on < j
  just : ∀ i j y, i < j → ops[j]? = some y → bt i j = true → ∃ e ∈ y.after, Region.binds .any e = true ∧ (e.on = i ∨ (i < e.on ∧ bt i e.on = true))
  free : ∀ i j x y, i < j → ops[i]? = some x → ops[j]? = some y → bt i j = false → x.apart ops.toArray y = true ∧ (touchy x y = false ∨ (i, j) ∈ cd)
omit R hg h0 in
theorem regOk_facts {cd : List (Nat × Nat)} (h : regOk ops cd = true) : ∃ bt, RegFacts ops cd bt := by
  refine ⟨fun i j => ((Region.before ops.toArray).getD j 0).testBit i, ?_, ?_, ?_⟩
  all_goals
    simp only [regOk, List.all_eq_true, List.mem_range] at h
  · intro j y e hy he hb
    have hj := h j (List.getElem?_eq_some_iff.1 hy).1
    rw [hy] at hj
    simp only [Bool.and_eq_true, Array.all_eq_true_iff_forall_mem, Bool.or_eq_true, Bool.not_eq_true', decide_eq_true_eq] at hj
    exact (hj.1 e he).resolve_left (by simp [hb])
  · intro i j y hij hy hbt
    have hjl := (List.getElem?_eq_some_iff.1 hy).1
    have hj := h j hjl
    rw [hy] at hj
    simp only [Bool.and_eq_true, List.all_eq_true, List.mem_range] at hj
    have hi := hj.2 i hij
    rw [List.getElem?_eq_getElem (by omega : i < ops.length)] at hi
    simp only [hbt, if_true] at hi
    obtain ⟨e, he, h1⟩ := Array.any_eq_true'.1 hi
    simp only [Bool.and_eq_true, Bool.or_eq_true, beq_iff_eq, decide_eq_true_eq] at h1
    exact ⟨e, he, h1⟩
  · intro i j x y hij hx hy hbt
    have hj := h j (List.getElem?_eq_some_iff.1 hy).1
    rw [hy] at hj
    simp only [Bool.and_eq_true, List.all_eq_true, List.mem_range] at hj
    have hi := hj.2 i hij
    rw [hx] at hi
    simp only [hbt, Bool.false_eq_true, if_false, Bool.and_eq_true, Bool.or_eq_true, Bool.not_eq_true', List.contains_eq_mem, decide_eq_true_eq] at hi
    exact hi
def Closed (ops : List Oper) (D : Nat → Prop) : Prop := ∀ j y e, ops[j]? = some y → D j → e ∈ y.after → Region.binds .any e = true → D e.on
omit R hg h0 in
theorem Closed.pred {cd : List (Nat × Nat)} {bt : Nat → Nat → Bool} (hf : RegFacts ops cd bt) {D : Nat → Prop} (hc : Closed ops D) (hs : ∀ y, D y → y < ops.length) : ∀ (j i : Nat), i < j → D j → bt i j = true → D i := by
  intro j
  induction j using Nat.strongRecOn with
  | _ j ih =>
    intro i hij hD hbt
    have hjl := hs j hD
    have hj : ops[j]? = some ops[j] := List.getElem?_eq_getElem hjl
    obtain ⟨e, he, hb, h⟩ := hf.just i j _ hij hj hbt
    have hDe := hc j _ e hj hD he hb
    have hlt := hf.edge j _ e hj he hb
    rcases h with rfl | ⟨h1, h⟩
    · exact hDe
    · exact ih e.on hlt i h1 hDe h
omit hg h0 in
theorem fits_any {cd : List (Nat × Nat)} {bt : Nat → Nat → Bool} (hf : RegFacts ops cd bt) (hfine : ∀ i j, (i, j) ∈ cd → Eff.bad (R.e i) (R.e j) = false) {D : Nat → Prop} (hc : Closed ops D) (hs : ∀ y, D y → y < ops.length)
    {x : Nat} {o : Oper} (ho : ops[x]? = some o) (hn : ¬ D x) (hpre : ∀ e ∈ o.after, Region.binds .any e = true → D e.on) : Fits R D x := by
  have hxl := (List.getElem?_eq_some_iff.1 ho).1
  have hlt : ∀ y oy, ops[y]? = some oy → y < x → ¬ D y → oy.apart ops.toArray o = true ∧ (touchy oy o = false ∨ (y, x) ∈ cd) := by
    intro y oy hy hyx hD
    refine hf.free y x oy o hyx hy ho ?_
    cases hbt : bt y x with
    | false => rfl
    | true =>
      obtain ⟨e, he, hb, h⟩ := hf.just y x o hyx ho hbt
      have hDe := hpre e he hb
      rcases h with rfl | ⟨h1, h⟩
      · exact absurd hDe hD
      · exact absurd (hc.pred hf hs e.on y h1 hDe h) hD
  have hgt : ∀ y oy, ops[y]? = some oy → x < y → D y → o.apart ops.toArray oy = true ∧ (touchy o oy = false ∨ (x, y) ∈ cd) := by
    intro y oy hy hxy hD
    refine hf.free x y o oy hxy ho hy ?_
    cases hbt : bt x y with
    | false => rfl
    | true => exact absurd (hc.pred hf hs y x hxy hD hbt) hn
  refine ⟨hn, fun ox hox t ht y oy hy hd => ⟨fun hyx => Classical.byContradiction fun hD => ?_, fun hxy hD => ?_⟩, fun ox d hox hd y oy hxy hD hy hdy => ?_, fun y hyx hD => ?_, fun y hxy hD => ?_⟩
  · rw [ho] at hox
    cases hox
    obtain ⟨h1, _⟩ := hlt y oy hy hyx hD
    exact (Oper.apart_spec h1).1 t hd ht
  · rw [ho] at hox
    cases hox
    have hne : x ≠ y := fun e => hn (e ▸ hD)
    obtain ⟨h1, _⟩ := hgt y oy hy (by omega) hD
    exact (Oper.apart_spec h1).2.2 t hd ht
  · rw [ho] at hox
    cases hox
    obtain ⟨h1, _⟩ := hgt y oy hy hxy hD
    exact (Oper.apart_spec h1).2.1 d hd hdy
  · have hy : ops[y]? = some ops[y] := List.getElem?_eq_getElem (by omega)
    obtain ⟨_, h1 | h1⟩ := hlt y _ hy hyx hD
    · exact bad_of (R.okEff hy) (R.okEff ho) h1
    · exact hfine y x h1
  · have hyl := hs y hD
    have hy : ops[y]? = some ops[y] := List.getElem?_eq_getElem hyl
    obtain ⟨_, h1 | h1⟩ := hgt y _ hy hxy hD
    · exact bad_of (R.okEff ho) (R.okEff hy) h1
    · exact hfine x y h1

/-! ### Orders that are drawn -/
def doneOf (ops : List Oper) (listed : Array Bool) (y : Nat) : Prop := y < ops.length ∧ listed.getD y false = true
omit R hg h0 in
theorem getD_set {l : Array Bool} {x y : Nat} (hx : x < l.size) : (l.setIfInBounds x true).getD y false = true ↔ (l.getD y false = true ∨ y = x) := by
  by_cases h : y = x
  · subst h; simp [hx]
  · have : (l.setIfInBounds x true)[y]? = l[y]? := Array.getElem?_setIfInBounds_ne (Ne.symm h)
    simp [Array.getD_eq_getD_getElem?, this, h]
/-- In any order that the edges allow. -/
theorem any_sound (hT : TyOk P E) {ok : Yl → Prop} {ys : Yls} (hr0 : Rel β0 (R.S 0) w0) (hL : Loops ok β0 ys w0) (hcall : CallOk P ok ys call) (r : Option Nat) {cd : List (Nat × Nat)} {bt : Nat → Nat → Bool} (hf : RegFacts ops cd bt) (hfine : ∀ i j, (i, j) ∈ cd → Eff.bad (R.e i) (R.e j) = false) (Q : Exit → Act → World → Prop) (hQ : ∀ β a w, Inv R ds β0 w0 (fun y => y < ops.length) β a w → Q .normal a w) :
    ∀ (fuel : Nat) (listed : Array Bool) (β : Map) (a : Act) (w : World), listed.size = ops.length → (listed.toList.filter (! ·)).length ≤ fuel → Closed ops (doneOf ops listed) → Inv R ds β0 w0 (doneOf ops listed) β a w → wpAnyIn (FR r) 0 P .any ops.toArray Q fuel listed a w := by
  -- if none is ready, all have run
  have hdone : ∀ (listed : Array Bool) (β : Map) (a : Act) (w : World), listed.size = ops.length → Region.ready .any ops.toArray listed = [] → Inv R ds β0 w0 (doneOf ops listed) β a w → Q .normal a w := by
    intro listed β a w hsz hnil hI
    refine hQ β a w (hI.congr R fun y => ⟨fun h => h.1, fun h => ⟨h, ?_⟩⟩)
    induction y using Nat.strongRecOn with
    | _ y ih =>
      have hy : ops[y]? = some ops[y] := List.getElem?_eq_getElem h
      have hno : y ∉ Region.ready .any ops.toArray listed := by rw [hnil]; exact List.not_mem_nil
      cases hl : listed.getD y false with
      | true => rfl
      | false =>
        refine absurd (mem_ready.2 ⟨?_, ops[y], by simp, fun e he hb => ?_⟩) hno
        · have hlt : y < listed.size := by omega
          simpa [hlt] using hl
        · have hlt := hf.edge y _ e hy he hb
          exact ih e.on hlt (by omega)
  intro fuel
  induction fuel with
  | zero =>
    intro listed β a w hsz hfu hc hI
    have hnil : Region.ready .any ops.toArray listed = [] := by
      cases hr : Region.ready .any ops.toArray listed with
      | nil => rfl
      | cons x xs =>
        have hx : x ∈ Region.ready .any ops.toArray listed := by rw [hr]; exact List.mem_cons_self
        obtain ⟨h1, o, ho, _⟩ := mem_ready.1 hx
        have hxl : x < listed.size := by
          have := (Array.getElem?_eq_some_iff.1 ho).1
          simp at this
          omega
        have hmem : false ∈ listed.toList := by
          have : listed[x] = false := by simpa [hxl] using h1
          rw [← this]
          simp
        have hmem : false ∈ listed.toList.filter (! ·) := List.mem_filter.2 ⟨hmem, rfl⟩
        have := List.length_pos_of_mem hmem
        omega
    exact ⟨hnil, hdone listed β a w hsz hnil hI⟩
  | succ fuel ih =>
    intro listed β a w hsz hfu hc hI
    refine ⟨fun hnil => hdone listed β a w hsz hnil hI, fun x hx => ?_⟩
    obtain ⟨h1, o, ho, hpre⟩ := mem_ready.1 hx
    have ho' : ops[x]? = some o := by simpa using ho
    have hxl := (List.getElem?_eq_some_iff.1 ho').1
    have hxs : x < listed.size := by omega
    have hxf : listed[x] = false := by simpa [hxs] using h1
    have hn : ¬ doneOf ops listed x := by
      rintro ⟨_, h⟩
      simp [hxs, hxf] at h
    have hpre' : ∀ e ∈ o.after, Region.binds .any e = true → doneOf ops listed e.on := fun e he hb => by
      have := hf.edge x o e ho' he hb
      exact ⟨by omega, hpre e he hb⟩
    have hF := fits_any R hf hfine hc (fun y h => h.1) ho' hn hpre'
    have hD : ∀ y, with_ (doneOf ops listed) x y ↔ doneOf ops (listed.setIfInBounds x true) y := by
      intro y
      unfold with_ doneOf
      rw [getD_set hxs]
      constructor
      · rintro (⟨h1, h2⟩ | rfl)
        · exact ⟨h1, .inl h2⟩
        · exact ⟨hxl, .inr rfl⟩
      · rintro ⟨h1, h2 | rfl⟩
        · exact .inl ⟨h1, h2⟩
        · exact .inr rfl
    refine wpOpIn_mono (fun a' w' h => ?_) (hI.op R hg h0 hT hr0 hL hcall ho' hF r Q)
    obtain ⟨β', hI'⟩ := h
    refine ih (listed.setIfInBounds x true) β' a' w' (by simpa using hsz) ?_ ?_ (hI'.congr R hD)
    · rw [Array.toList_setIfInBounds]
      have hxl' : x < listed.toList.length := by simpa using hxs
      have hsplit : listed.toList = listed.toList.take x ++ false :: listed.toList.drop (x + 1) := by
        rw [← hxf]
        have := List.take_append_drop x listed.toList
        rw [List.drop_eq_getElem_cons hxl'] at this
        simpa using this.symm
      have hset : listed.toList.set x true = listed.toList.take x ++ true :: listed.toList.drop (x + 1) := List.set_eq_take_append_cons_drop.trans (by rw [if_pos hxl'])
      rw [hset]
      rw [hsplit] at hfu
      simp only [List.filter_append, List.length_append, List.filter_cons, Bool.not_false, if_true, List.length_cons, Bool.not_true, Bool.false_eq_true, if_false] at hfu ⊢
      omega
    · intro j y e hy hj he hb
      rw [← hD] at hj ⊢
      rcases hj with hj | rfl
      · exact .inl (hc j y e hy hj he hb)
      · rw [ho'] at hy
        cases hy
        exact .inl (hpre' e he hb)
end
end Go.V
