/- Aggregates of numbers and bools, compared: the evaluator's way and the program's. -/
import Derived.Test.YtemjdhglaljhbaaVFacts
namespace Go.V
variable {P : Program} {E : Env}

/-- Are these the fields of a struct of numbers and bools, from cell k on, with these zero cells? rec: for structs within. -/
def flatL (P : Program) (rec : List Field → List C → Bool) : Nat → List Field → List C → Bool
  | _, [], zs => zs.isEmpty
  | k, f :: fs, zs =>
    f.offset == k && f.name != "_" &&
    (match P.underlying f.type with
     | some (.int _) => (match zs with | .int _ _ :: zs' => flatL P rec (k + 1) fs zs' | _ => false)
     | some .bool => (match zs with | .bool _ :: zs' => flatL P rec (k + 1) fs zs' | _ => false)
     | some (.struct gs) =>
       !P.stoodInHeld f.type && (P.info? f.type).isSome && rec gs.toList (zs.take (P.cellsOf f.type)) && decide (P.cellsOf f.type ≤ zs.length) && flatL P rec (k + P.cellsOf f.type) fs (zs.drop (P.cellsOf f.type))
     | _ => false)
def flatF (P : Program) : Nat → List Field → List C → Bool
  | 0 => fun _ _ => false
  | d + 1 => flatL P (flatF P d) 0

theorem eqc_len : ∀ {xs ys : List C} {b : Bool}, eqCells xs ys = some b → xs.length = ys.length
  | [], [], _, _ => rfl
  | [], _ :: _, _, h => by cases h
  | _ :: _, [], _, h => by cases h
  | x :: xs, y :: ys, b, h => by
    simp only [eqCells, Option.bind_eq_bind] at h
    obtain ⟨e, he, h⟩ := bind_some h
    obtain ⟨r, hr, h⟩ := bind_some h
    simp [eqc_len hr]
theorem eqc_split : ∀ (s : Nat) {xs ys : List C} {b : Bool}, eqCells xs ys = some b → ∃ b1 b2, eqCells (xs.take s) (ys.take s) = some b1 ∧ eqCells (xs.drop s) (ys.drop s) = some b2 ∧ b = (b1 && b2)
  | 0, xs, ys, b, h => ⟨true, b, by simp [eqCells], by simpa using h, by simp⟩
  | s + 1, [], [], b, h => ⟨true, b, by simp [eqCells], by simpa using h, by simp⟩
  | s + 1, [], _ :: _, _, h => by cases h
  | s + 1, _ :: _, [], _, h => by cases h
  | s + 1, x :: xs, y :: ys, b, h => by
    simp only [eqCells, Option.bind_eq_bind] at h
    obtain ⟨e, he, h⟩ := bind_some h
    obtain ⟨r, hr, h⟩ := bind_some h
    cases h
    obtain ⟨b1, b2, h1, h2, rfl⟩ := eqc_split s hr
    refine ⟨e && b1, b2, ?_, by simpa using h2, by cases e <;> simp⟩
    simp only [List.take_succ_cons, eqCells, he, h1, Option.bind_eq_bind, Option.bind_some]
theorem eqF_cell {d k : Nat} {vx vy : List Value} {f : Field} {fs : List Field} {a c : Value} {r s : Bool} {w : World} (hn : f.name ≠ "_") (ho : f.offset = k) (ht : ∀ w, (isAgg f.type).run P w = .ok false w) (ha : vx[k]? = some a) (hc : vy[k]? = some c) (he : (Op.equalIn d f.type a c).run P w = .ok r w)
    (hr : (Op.eqFields d vx.toArray vy.toArray fs).run P w = .ok s w) : (Op.eqFields d vx.toArray vy.toArray (f :: fs)).run P w = .ok (r && s) w := by
  have h1 : (part f.type vx.toArray f.offset).run P w = .ok a w := by simp [part, ht, ho, ha, Result.andThen]
  have h2 : (part f.type vy.toArray f.offset).run P w = .ok c w := by simp [part, ht, ho, hc, Result.andThen]
  rw [Op.eqFields]
  simp only [if_pos hn, Sem.run_bind, h1, h2, he, Result.andThen_ok]
  cases r
  · simp
  · simpa using hr
theorem drop_head {α : Type} {l : List α} {k : Nat} {a : α} {t : List α} (h : l.drop k = a :: t) : l[k]? = some a ∧ l.drop (k + 1) = t := by
  constructor
  · have := congrArg (·[0]?) h
    simpa using this
  · have := congrArg (List.drop 1) h
    simpa [Nat.add_comm] using this
def Tells (P : Program) (d : Nat) (rec : List Field → List C → Bool) (k : Nat) : Prop := ∀ (fs : List Field) (zs xs ys : List C) (vx vy : List Value) (b : Bool) (β : Map) (n : Nat) (w : World), rec fs zs = true → (eqCells xs zs).isSome = true → eqCells xs ys = some b → All2 (C.rel β) xs (vx.drop k) → All2 (C.rel β) ys (vy.drop k) → d ≤ n →
    (Op.eqFields n vx.toArray vy.toArray fs).run P w = .ok b w
theorem flatL_ok {d : Nat} {rec : List Field → List C → Bool} (ihd : Tells P d rec 0) : ∀ k, Tells P (d + 1) (flatL P rec k) k := by
    intro k fs
    induction fs generalizing k with
    | nil =>
      intro zs xs ys vx vy b β n w hf hz he hx hy hn
      have : zs = [] := by simpa [flatL] using hf
      subst this
      obtain rfl := eqc_isSome_nil hz
      obtain ⟨rfl, rfl⟩ := eqc_nil he
      simp [Op.eqFields]
    | cons f fs ihf =>
      intro zs xs ys vx vy b β n w hf hz he hx hy hn
      · simp only [flatL, Bool.and_eq_true, beq_iff_eq, bne_iff_ne, ne_eq] at hf
        obtain ⟨⟨ho, hnm⟩, hf⟩ := hf
        obtain ⟨n, rfl⟩ : ∃ m, n = m + 1 := ⟨n - 1, by omega⟩
        split at hf
        · rename_i k0 hu
          split at hf
          · rename_i k1 z zs'
            obtain ⟨a, xs', rfl, hz'⟩ := eqc_isSome_int hz
            obtain ⟨c, ys', b', rfl, he', rfl⟩ := eqc_int he
            obtain ⟨vx', hvx, hx'⟩ := rel_int hx
            obtain ⟨vy', hvy, hy'⟩ := rel_int hy
            obtain ⟨hx1, hx2⟩ := drop_head hvx
            obtain ⟨hy1, hy2⟩ := drop_head hvy
            refine eqF_cell hnm ho (fun w => by simp [isAgg, run_underlying hu]) hx1 hy1 (run_equalIn_int w n f.type k1 k0 a c hu) (ihf (k + 1) zs' xs' ys' vx vy b' β (n + 1) w hf hz' he' (by rw [hx2]; exact hx') (by rw [hy2]; exact hy') hn)
          · cases hf
        · rename_i hu
          split at hf
          · rename_i z zs'
            obtain ⟨a, xs', rfl, hz'⟩ := eqc_isSome_bool hz
            obtain ⟨c, ys', b', rfl, he', rfl⟩ := eqc_bool he
            obtain ⟨vx', hvx, hx'⟩ := rel_bool hx
            obtain ⟨vy', hvy, hy'⟩ := rel_bool hy
            obtain ⟨hx1, hx2⟩ := drop_head hvx
            obtain ⟨hy1, hy2⟩ := drop_head hvy
            refine eqF_cell hnm ho (fun w => by simp [isAgg, run_underlying hu]) hx1 hy1 (equalIn_bool hu n a c w) (ihf (k + 1) zs' xs' ys' vx vy b' β (n + 1) w hf hz' he' (by rw [hx2]; exact hx') (by rw [hy2]; exact hy') hn)
          · cases hf
        · rename_i gs hu
          simp only [Bool.and_eq_true, Bool.not_eq_true', decide_eq_true_eq] at hf
          obtain ⟨⟨⟨⟨hst, hinf⟩, hg⟩, hle⟩, hf⟩ := hf
          generalize hs : P.cellsOf f.type = s at *
          obtain ⟨info, hinfo⟩ := Option.isSome_iff_exists.1 hinf
          have hsz : info.size = s := by rw [← hs]; simp [Program.cellsOf, hinfo]
          obtain ⟨b1, b2, h1, h2, rfl⟩ := eqc_split s he
          obtain ⟨zb, hzb⟩ := Option.isSome_iff_exists.1 hz
          obtain ⟨z1, z2, hz1, hz2, _⟩ := eqc_split s hzb
          have hag : ∀ w, (isAgg f.type).run P w = .ok true w := fun w => by simp [isAgg, run_underlying hu]
          have hpx : ∀ (v : List Value) (w : World), (part f.type v.toArray f.offset).run P w = .ok (.agg ((v.drop k).take s).toArray) w := fun v w => by
            simp [part, hag, sizeOf, typeInfo, hinfo, hsz, ho, Result.andThen, List.extract_eq_take_drop]
          have hrec := ihd gs.toList (zs.take s) (xs.take s) (ys.take s) ((vx.drop k).take s) ((vy.drop k).take s) b1 β n w hg (by rw [hz1]; rfl) h1 (by simpa using hx.take s) (by simpa using hy.take s) (by omega)
          have hfo : P.fieldsOf f.type = gs := by simp [Program.fieldsOf, hu]
          have hin : (Op.equalIn (n + 1) f.type (.agg ((vx.drop k).take s).toArray) (.agg ((vy.drop k).take s).toArray)).run P w = .ok b1 w := by
            rw [run_equalIn_struct w n f.type _ _ (by rw [hfo]; exact hu) hst, hfo]
            exact hrec
          have hrest := ihf (k + s) (zs.drop s) (xs.drop s) (ys.drop s) vx vy b2 β (n + 1) w hf (by rw [hz2]; rfl) h2 (by simpa using hx.drop s) (by simpa using hy.drop s) hn
          rw [Op.eqFields]
          simp only [ne_eq, if_pos hnm, Sem.run_bind, hpx, hin, Result.andThen_ok]
          cases b1
          · simp
          · simpa using hrest
        · cases hf
theorem flatF_ok : ∀ d, Tells P d (flatF P d) 0
  | 0 => fun fs zs xs ys vx vy b β n w hf => by cases hf
  | d + 1 => flatL_ok (flatF_ok d) 0
/-- A struct of numbers and bools. -/
theorem eq_struct {t : TypeId} {zs xs ys : List C} {vx vy : List Value} {b : Bool} {β : Map} (hst : P.stoodInHeld t = false) (hg : P.eqGuardType P.depth t = false) (hu : P.underlying t = some (.struct (P.fieldsOf t))) (hf : flatF P 9 (P.fieldsOf t).toList zs = true)
    (hz : (eqCells xs zs).isSome = true) (he : eqCells xs ys = some b) (hx : All2 (C.rel β) xs vx) (hy : All2 (C.rel β) ys vy) (op : BinOp) (x y : Operand) (w : World) :
    (eqGuard op t x y (.agg vx.toArray) (.agg vy.toArray)).run P w = .ok () w ∧ (Op.equal t (.agg vx.toArray) (.agg vy.toArray)).run P w = .ok b w := by
  refine ⟨run_eqGuard_agg w op t x y _ _ hg, ?_⟩
  rw [equal_succ, run_equalIn_struct w 9999 t _ _ hu hst]
  exact flatF_ok 9 _ zs xs ys vx vy b β 9999 w hf hz he (by simpa using hx) (by simpa using hy) (by decide)

theorem equalIn_arr3 {m : Nat} {t e : TypeId} {k k0 : IntKind} {a1 a2 a3 c1 c2 c3 : Int} (hu : P.underlying t = some (.array 3 e)) (hue : P.underlying e = some (.int k)) (hs : ∀ w, (sizeOf e).run P w = .ok 1 w)
    (e1 : ∀ (a c : Int) (w : World), (Op.equalIn m e (.int k0 a) (.int k0 c)).run P w = .ok (a == c) w) (w : World) :
    (Op.equalIn (m + 1) t (.agg [Value.int k0 a1, .int k0 a2, .int k0 a3].toArray) (.agg [Value.int k0 c1, .int k0 c2, .int k0 c3].toArray)).run P w = .ok ((a1 == c1) && ((a2 == c2) && ((a3 == c3) && true))) w := by
  have hag : ∀ w, (isAgg e).run P w = .ok false w := fun w => by simp [isAgg, run_underlying hue]
  have hp : ∀ (v : Array Value) (i : Nat) (u : Value) (w : World), v[i]? = some u → (part e v i).run P w = .ok u w := fun v i u w hv => by simp [part, hag, hv, Result.andThen]
  simp only [Op.equalIn, Sem.run_bind, run_underlying hu, Result.andThen_ok, hs]
  simp only [Std.Legacy.Range.forIn_eq_forIn_range', Std.Legacy.Range.size, Nat.sub_zero, Nat.add_one_sub_one, Nat.div_one, List.range', List.forIn_cons, List.forIn_nil, Sem.run_bind]
  have q1 : ∀ w, (part e [Value.int k0 a1, .int k0 a2, .int k0 a3].toArray (0 * 1)).run P w = .ok (.int k0 a1) w := fun w => hp _ 0 _ w rfl
  have q2 : ∀ w, (part e [Value.int k0 a1, .int k0 a2, .int k0 a3].toArray ((0 + 1) * 1)).run P w = .ok (.int k0 a2) w := fun w => hp _ 1 _ w rfl
  have q3 : ∀ w, (part e [Value.int k0 a1, .int k0 a2, .int k0 a3].toArray ((0 + 1 + 1) * 1)).run P w = .ok (.int k0 a3) w := fun w => hp _ 2 _ w rfl
  have r1 : ∀ w, (part e [Value.int k0 c1, .int k0 c2, .int k0 c3].toArray (0 * 1)).run P w = .ok (.int k0 c1) w := fun w => hp _ 0 _ w rfl
  have r2 : ∀ w, (part e [Value.int k0 c1, .int k0 c2, .int k0 c3].toArray ((0 + 1) * 1)).run P w = .ok (.int k0 c2) w := fun w => hp _ 1 _ w rfl
  have r3 : ∀ w, (part e [Value.int k0 c1, .int k0 c2, .int k0 c3].toArray ((0 + 1 + 1) * 1)).run P w = .ok (.int k0 c3) w := fun w => hp _ 2 _ w rfl
  simp only [q1, r1, e1, Result.andThen_ok]
  by_cases h1 : a1 = c1
  · subst h1
    simp only [beq_self_eq_true, Bool.not_true, Bool.false_eq_true, if_false, Sem.run_pure, Result.andThen_ok, Sem.run_bind, q2, r2, e1, Bool.true_and]
    by_cases h2 : a2 = c2
    · subst h2
      simp only [beq_self_eq_true, Bool.not_true, Bool.false_eq_true, if_false, Sem.run_pure, Result.andThen_ok, Sem.run_bind, q3, r3, e1, Bool.true_and]
      by_cases h3 : a3 = c3
      · subst h3
        simp
      · simp [h3]
    · simp [h2]
  · simp [h1]
/-- An array of three numbers. -/
theorem eq_arr3 {t e : TypeId} {k k0 : IntKind} {xs ys : List C} {vx vy : List Value} {b : Bool} {β : Map} (hg : P.eqGuardType P.depth t = false) (hu : P.underlying t = some (.array 3 e)) (hue : P.underlying e = some (.int k)) (hs : ∀ w, (sizeOf e).run P w = .ok 1 w)
    (hz : (eqCells xs [.int k0 0, .int k0 0, .int k0 0]).isSome = true) (he : eqCells xs ys = some b) (hx : All2 (C.rel β) xs vx) (hy : All2 (C.rel β) ys vy) (op : BinOp) (x y : Operand) (w : World) :
    (eqGuard op t x y (.agg vx.toArray) (.agg vy.toArray)).run P w = .ok () w ∧ (Op.equal t (.agg vx.toArray) (.agg vy.toArray)).run P w = .ok b w := by
  refine ⟨run_eqGuard_agg w op t x y _ _ hg, ?_⟩
  obtain ⟨a1, xs1, rfl, hz1⟩ := eqc_isSome_int hz
  obtain ⟨a2, xs2, rfl, hz2⟩ := eqc_isSome_int hz1
  obtain ⟨a3, xs3, rfl, hz3⟩ := eqc_isSome_int hz2
  obtain rfl := eqc_isSome_nil hz3
  obtain ⟨c1, ys1, b1, rfl, he1, rfl⟩ := eqc_int he
  obtain ⟨c2, ys2, b2, rfl, he2, rfl⟩ := eqc_int he1
  obtain ⟨c3, ys3, b3, rfl, he3, rfl⟩ := eqc_int he2
  obtain ⟨rfl, rfl⟩ := eqc_nil he3
  obtain ⟨vx1, rfl, hx1⟩ := rel_int hx
  obtain ⟨vx2, rfl, hx2⟩ := rel_int hx1
  obtain ⟨vx3, rfl, hx3⟩ := rel_int hx2
  obtain rfl := rel_nil hx3
  obtain ⟨vy1, rfl, hy1⟩ := rel_int hy
  obtain ⟨vy2, rfl, hy2⟩ := rel_int hy1
  obtain ⟨vy3, rfl, hy3⟩ := rel_int hy2
  obtain rfl := rel_nil hy3
  rw [equal_succ]
  exact equalIn_arr3 hu hue hs (fun a c w => run_equalIn_int w 9998 e k0 k a c hue) w
end Go.V
