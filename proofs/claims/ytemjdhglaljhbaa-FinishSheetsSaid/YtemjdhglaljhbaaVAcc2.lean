/- The evaluator's soundness, part 6: all operations that are no calls of functions. -/
import Derived.Test.YtemjdhglaljhbaaVAcc
namespace Go.V
variable {P : Program} {E : Env}
section
variable {β : Map} {T : List Va} {ρ : Operand → Value} {dst : Option Tmp} {ty : TypeId} {pos : String} {after : Array Edge} {guard : Option (Nat × Bool)} {A : Acc}
theorem acc_build (h : TyOk P E) (t : TypeId) (ps : Array (Nat × Operand)) (ho : ∀ x ∈ ps.toList, Rl β T ρ x.2) (e : acc E ⟨dst, .build t ps, ty, pos, after, guard⟩ T = some A) : A.ok P β fun w => (execOp ρ ⟨dst, .build t ps, ty, pos, after, guard⟩).run P w := by
  simp only [acc] at e
  obtain ⟨z, hz, e⟩ := bind_some e
  obtain ⟨xs, hxs, e⟩ := bind_some e
  obtain ⟨f, hf, e⟩ := bind_some e
  obtain ⟨cs, hcs, rfl⟩ := map_some e
  obtain ⟨zv, hzr, hzrel⟩ := h.zero hz
  have hps := evParts_ok ho hxs
  have hparts : (ps.map fun (i, x) => (i, ρ x)).toList = ps.toList.map fun x => (x.1, ρ x.2) := by simp
  rcases place_ok h hf with ⟨gs, hu, pl, hpl, hq⟩ | ⟨n, el, s, hu, hs, hq⟩
  · obtain ⟨vs', hfill, hrel⟩ := fill_ok (place' := (pl[·]?)) hq hps (X.rel_cells (hzrel β)) hcs
    refine val_of ⟨.agg vs', ⟨vs'.toList, hrel, by simp⟩, fun w => ?_⟩
    have hpl' := hpl w
    simp only [execOp, Instr.build, Sem.run_bind, hzr, Result.andThen_ok, run_underlying hu, hpl', hparts, hfill]
    simp
  · obtain ⟨vs', hfill, hrel⟩ := fill_ok (place' := fun i => some (i * s, s)) hq hps (X.rel_cells (hzrel β)) hcs
    refine val_of ⟨.agg vs', ⟨vs'.toList, hrel, by simp⟩, fun w => ?_⟩
    simp only [execOp, Instr.build, Sem.run_bind, hzr, Result.andThen_ok, run_underlying hu, hs, hparts, hfill]
    simp
theorem acc_buildSlice (h : TyOk P E) (t : TypeId) (len : Nat) (ps : Array (Nat × Operand)) (ho : ∀ x ∈ ps.toList, Rl β T ρ x.2) (e : acc E ⟨dst, .buildSlice t len ps, ty, pos, after, guard⟩ T = some A) : A.ok P β fun w => (execOp ρ ⟨dst, .buildSlice t len ps, ty, pos, after, guard⟩).run P w := by
  simp only [acc] at e
  obtain ⟨el, hel, e⟩ := bind_some e
  obtain ⟨i, hi, e⟩ := bind_some e
  obtain ⟨xs, hxs, e⟩ := bind_some e
  split at e
  · rename_i hc
    obtain ⟨h1, h2, h3⟩ := hc
    obtain ⟨cs, hcs, rfl⟩ := map_some e
    obtain ⟨info, z, i1, i2, i3, i4, i5⟩ := h.bytes hi
    have hps := evParts_ok ho hxs
    have hparts : (ps.map fun (i, x) => (i, ρ x)).toList = ps.toList.map fun x => (x.1, ρ x.2) := by simp
    have hzero := flat_ok (X.rel_cells (i5 β)) len i.size h3 h2
    obtain ⟨vs', hfill, hrel⟩ := fill_ok (place := fun j => some (j * i.size, i.size)) (place' := fun j => some (j * i.size, i.size)) (fun _ _ h => h) hps hzero hcs
    have hlen := hrel.length
    have hsz : ∀ {ps : List (Nat × X)} {cs cs' : List C}, V.fill (fun j => some (j * i.size, i.size)) cs ps = some cs' → cs'.length = cs.length := by
      intro ps
      induction ps with
      | nil => intro cs cs' e; simp [V.fill] at e; rw [e]
      | cons p ps ih =>
        intro cs cs' e
        obtain ⟨j, v⟩ := p
        simp only [V.fill, Option.bind_eq_bind, Option.bind_some] at e
        split at e
        · rename_i hc
          rw [ih e]
          simp
          omega
        · cases e
    have hcl := hsz hcs
    have hcl : cs.length = len * i.size := by simpa [List.length_flatten, h3] using hcl
    refine ⟨vs', el, some (len * i.size, i.size), fun k => .slice (some ⟨k, 0, none⟩) len len, ?_, ?_, fun w => ?_, fun β' n k hle hn => ?_⟩
    · rw [List.take_of_length_le (by show _ ≤ cs.length; omega)]
      exact hrel
    · intro s hs
      cases hs
      have : vs'.size = vs'.toList.length := by simp
      exact ⟨_, rfl, by omega⟩
    · have hne : len * info.size ≤ 2 ^ 24 := by rw [i2]; exact h1
      have hti : ∀ w, (typeInfo el).run P w = .ok info w := fun w => by simp [typeInfo, i1]
      have hzv : ∀ w, (zeroValue el).run P w = .ok z w := fun w => by simp [zeroValue, hti, i4]
      have hsz : ∀ w, (sizeOf el).run P w = .ok info.size w := fun w => by simp [sizeOf, hti]
      simp only [execOp, Instr.buildSlice, Sem.run_bind, run_underlying (slE_ok h hel), Result.andThen_ok, hsz, Sem.run_pure, Sem.run_ite, if_neg (show ¬ len * info.size > 2 ^ 24 by omega)]
      by_cases h0 : len * info.size = 0
      · have hl0 : len = 0 := by
          rcases Nat.eq_zero_or_pos len with h | h
          · exact h
          · have := Nat.mul_pos h (show 0 < info.size by omega)
            omega
        subst hl0
        have hf0 : Instr.fill (fun j => some (j * i.size, i.size)) #[] (ps.toList.map fun x => (x.1, ρ x.2)) = some vs' := by
          rw [← hfill]
          congr 1
          simp
        simp only [Nat.zero_mul, if_true, i2]
        rw [hparts]
        have hr : Array.map (fun x => (#[] : Array Value)[x % (#[] : Array Value).size]!) (Array.range 0) = #[] := by simp
        rw [hr, hf0]
        rfl
      · rw [if_neg h0]
        simp only [hzv, Result.andThen_ok]
        rw [i2, hparts, hfill]
        rfl
    · refine ⟨_, len, hn, by simp [Pl.at], Nat.le_refl _, fun _ cc s hc => ?_⟩
      cases hc
      rfl
  · cases e
theorem acc_makeSlice (h : TyOk P E) (t : TypeId) (x y : Operand) (hx : Rl β T ρ x) (hy : Rl β T ρ y) (e : acc E ⟨dst, .makeSlice t x y, ty, pos, after, guard⟩ T = some A) : A.ok P β fun w => (execOp ρ ⟨dst, .makeSlice t x y, ty, pos, after, guard⟩).run P w := by
  simp only [acc] at e
  obtain ⟨el, hel, e⟩ := bind_some e
  obtain ⟨n, hn, e⟩ := bind_some e
  obtain ⟨m, hm, e⟩ := bind_some e
  obtain ⟨i, hi, e⟩ := bind_some e
  split at e
  · rename_i hc
    obtain ⟨hnm, h1, h2, h3, h4, h5⟩ := hc
    cases e
    subst hnm
    obtain ⟨info, z, i1, i2, i3, i4, i5⟩ := h.bytes hi
    obtain ⟨k1, hk1⟩ := evI_ok hx hn
    obtain ⟨k2, hk2⟩ := evI_ok hy hm
    have h2 : n * (info.bytes : Int) ≤ 140737488355328 := by rw [i3]; exact h2
    have h3 : n ≤ 140737488355328 := h3
    have hwrap : IntKind.i64.wrap n = n := by rw [IntKind.wrap_i64]; omega
    have hzero := flat_ok (X.rel_cells (i5 β)) n.toNat i.size h5 h4
    refine ⟨(Array.range (n.toNat * i.size)).map (fun j => z.cells[j % z.cells.size]!), el, some (n.toNat * i.size, i.size), fun k => .slice (some ⟨k, 0, none⟩) n.toNat n.toNat, ?_, ?_, fun w => ?_, fun β' k b hle hk => ?_⟩
    · have hl := hzero.length
      rw [List.take_of_length_le (by rw [hl]; exact Nat.le_refl _)]
      exact hzero
    · intro s hs
      cases hs
      exact ⟨_, rfl, by simp⟩
    · have hb : ¬ ((281474976710656 : Int) < info.bytes * n) := by rw [Int.mul_comm]; omega
      have hn0 : ¬ (n < 0) := by omega
      have htl : ¬ ((decide (n < 0) || decide ((info.bytes : Int) * n > 2 ^ 48) || decide (n < 0) || decide (n > n)) = true) := by simp; omega
      have hti : ∀ w, (typeInfo el).run P w = .ok info w := fun w => by simp [typeInfo, i1]
      have hzv : ∀ w, (zeroValue el).run P w = .ok z w := fun w => by simp [zeroValue, hti, i4]
      have hsz : ∀ w, (sizeOf el).run P w = .ok i.size w := fun w => by simp [sizeOf, hti, i2]
      simp only [execOp, Instr.makeSlice, Sem.run_bind, run_underlying (slE_ok h hel), Result.andThen_ok, hk1, hk2, asInt, asIntOf, Sem.run_pure, hti, hwrap, hsz, Sem.run_ite]
      rw [if_neg htl]
      simp only [Result.andThen_ok, run_askRoom]
      by_cases h0 : n.toNat * i.size = 0
      · rw [if_pos h0]
        simp only [Result.andThen_ok, h0, newRow, Sem.run_bind, run_newObj, Sem.run_pure, show Array.range 0 = #[] from by simp, Array.map_empty]
        rfl
      · rw [if_neg h0]
        simp only [hzv, Result.andThen_ok, newRow, Sem.run_bind, run_newObj, Sem.run_pure]
        rfl
    · refine ⟨_, n.toNat, hk, by simp [Pl.at], Nat.le_refl _, fun _ cc s hc => ?_⟩
      cases hc
      rfl
  · cases e
theorem acc_indexAddr (h : TyOk P E) (t : TypeId) (x y : Operand) (hx : Rl β T ρ x) (hy : Rl β T ρ y) (e : acc E ⟨dst, .indexAddr t x y, ty, pos, after, guard⟩ T = some A) : A.ok P β fun w => (execOp ρ ⟨dst, .indexAddr t x y, ty, pos, after, guard⟩).run P w := by
  simp only [acc] at e
  obtain ⟨j, hj, e⟩ := bind_some e
  obtain ⟨k, hk⟩ := evI_ok hy hj
  split at e
  · rename_i len el hsh
    have hu := h.ar t len el hsh
    obtain ⟨s, hs, e⟩ := bind_some e
    obtain ⟨p, hp, e⟩ := bind_some e
    obtain ⟨pl, hpl, hv⟩ := evP_ok hx hp
    split at e
    · rename_i hc
      cases e
      refine val_of ⟨_, ⟨pl, hpl, rfl⟩, fun w => ?_⟩
      simp [execOp, Instr.indexAt, hk, asIntOf, run_underlying hu, hv, Instr.sureAddr, hc, h.size hs, at_add]
    · cases e
  · rename_i el hsh
    have hu := h.sl t el hsh
    obtain ⟨s, hs, e⟩ := bind_some e
    obtain ⟨q, hq, e⟩ := bind_some e
    obtain ⟨p, hp, e⟩ := bind_some e
    have hv := evS_ok hx hq
    rw [hp] at hv
    obtain ⟨pl, c, hpl, hv, hle, _⟩ := hv
    split at e
    · rename_i hc
      cases e
      refine val_of ⟨_, ⟨pl, hpl, rfl⟩, fun w => ?_⟩
      simp [execOp, Instr.indexAt, hk, asIntOf, run_underlying hu, hv, hc, h.size hs, at_add]
    · cases e
  · cases e
theorem acc_index (h : TyOk P E) (t : TypeId) (x y : Operand) (hx : Rl β T ρ x) (hy : Rl β T ρ y) (e : acc E ⟨dst, .index t x y, ty, pos, after, guard⟩ T = some A) : A.ok P β fun w => (execOp ρ ⟨dst, .index t x y, ty, pos, after, guard⟩).run P w := by
  simp only [acc] at e
  obtain ⟨j, hj, e⟩ := bind_some e
  obtain ⟨ne, hne, e⟩ := bind_some e
  obtain ⟨s, hs, e⟩ := bind_some e
  obtain ⟨cs, hcs, e⟩ := bind_some e
  obtain ⟨k, hk⟩ := evI_ok hy hj
  split at e
  · rename_i hc
    obtain ⟨v, hv, rfl⟩ := map_some e
    obtain ⟨vs, hvs, hva⟩ := evA_ok hx hcs
    obtain ⟨u, hu, hrun⟩ := part?_ok h hvs hv
    refine val_of ⟨u, hu, fun w => ?_⟩
    simp [execOp, Instr.index, hk, asIntOf, run_underlying (arE_ok h hne), hva, hc, h.size hs, hrun]
  · cases e
theorem acc_field (h : TyOk P E) (t : TypeId) (x : Operand) (f : Nat) (hx : Rl β T ρ x) (e : acc E ⟨dst, .field t x f, ty, pos, after, guard⟩ T = some A) : A.ok P β fun w => (execOp ρ ⟨dst, .field t x f, ty, pos, after, guard⟩).run P w := by
  simp only [acc] at e
  obtain ⟨fs, hfs, e⟩ := bind_some e
  obtain ⟨fd, hfd, e⟩ := bind_some e
  obtain ⟨cs, hcs, e⟩ := bind_some e
  obtain ⟨v, hv, rfl⟩ := map_some e
  obtain ⟨gs, g, hu, hg, hg1, hg2⟩ := stF_ok h hfs hfd
  obtain ⟨vs, hvs, hva⟩ := evA_ok hx hcs
  obtain ⟨u, hur, hrun⟩ := part?_ok h hvs hv
  refine val_of ⟨u, hur, fun w => ?_⟩
  rw [← hg1, ← hg2] at hrun
  simp [execOp, Instr.field, run_underlying hu, hg, hva, asAgg, hrun]
theorem acc_fieldAddr (h : TyOk P E) (t : TypeId) (x : Operand) (f : Nat) (hx : Rl β T ρ x) (e : acc E ⟨dst, .fieldAddr t x f, ty, pos, after, guard⟩ T = some A) : A.ok P β fun w => (execOp ρ ⟨dst, .fieldAddr t x f, ty, pos, after, guard⟩).run P w := by
  simp only [acc] at e
  obtain ⟨fs, hfs, e⟩ := bind_some e
  obtain ⟨fd, hfd, e⟩ := bind_some e
  obtain ⟨s, hs, e⟩ := bind_some e
  obtain ⟨p, hp, e⟩ := bind_some e
  split at e
  · rename_i hc
    cases e
    obtain ⟨gs, g, hu, hg, hg1, hg2⟩ := stF_ok h hfs hfd
    obtain ⟨pl, hpl, hv⟩ := evP_ok hx hp
    refine val_of ⟨_, ⟨pl, hpl, rfl⟩, fun w => ?_⟩
    have hsz := h.size hs w
    rw [← hg2] at hsz
    simp [execOp, Instr.fieldAt, run_underlying hu, hg, hv, Instr.sureAddr, fieldPlace, hsz, show s ≠ 0 by omega, at_add, hg1]
  · cases e
theorem acc_append (h : TyOk P E) (argTypes : Array TypeId) (args : Array Operand) (ho : ∀ x ∈ args.toList, Rl β T ρ x) (e : acc E ⟨dst, .call ⟨.builtin .append, args, argTypes⟩, ty, pos, after, guard⟩ T = some A) :
    A.ok P β fun w => (execOp ρ ⟨dst, .call ⟨.builtin .append, args, argTypes⟩, ty, pos, after, guard⟩).run P w := by
  simp only [acc] at e
  obtain ⟨t, ht, e⟩ := bind_some e
  obtain ⟨el, hel, e⟩ := bind_some e
  obtain ⟨t2, ht2, e⟩ := bind_some e
  obtain ⟨el2, hel2, e⟩ := bind_some e
  obtain ⟨i, hi, e⟩ := bind_some e
  obtain ⟨x, hx, e⟩ := bind_some e
  obtain ⟨p, hp, e⟩ := bind_some e
  obtain ⟨y, hy, e⟩ := bind_some e
  obtain ⟨q, hq, e⟩ := bind_some e
  split at e
  · rename_i hc
    obtain ⟨h1, h2⟩ := hc
    cases e
    have hvp := evS_ok (ho x (by have := Array.mem_of_getElem? hx; simpa using this)) hp
    have hvq := evQ_ok (ho y (by have := Array.mem_of_getElem? hy; simpa using this)) hq
    have ha : (args.map ρ)[0]? = some (ρ x) := by simp [hx]
    have hb : (args.map ρ)[1]? = some (ρ y) := by simp [hy]
    have hrun : ∀ w, (execOp ρ ⟨dst, .call ⟨.builtin .append, args, argTypes⟩, ty, pos, after, guard⟩).run P w = (do let v ← Builtin.append_ argTypes ty (args.map ρ); pure (Next.value v) : Sem Next).run P w := by
      intro w
      simp [execOp, resolve, invoke, builtin]
    refine ⟨ρ x, ρ y, hvp, hvq, fun hm w => ?_, fun hm w new lnew hnew hf hlen hmax hmax2 => ⟨fun hpn hn => ?_, fun k pl b hpk hk hb' hr hw hcs => ?_⟩⟩
    · have := append_zero (ty := ty) h ht (slE_ok h hel) ht2 (slE_ok h hel2) hi ha hb hvp (by rw [← hm]; exact hvq) w
      show (execOp ρ _).run P w = _
      rw [hrun, Sem.run_bind, this]
      rfl
    · obtain ⟨u, w', hr, ho⟩ := (append_some (ty := ty) h ht (slE_ok h hel) ht2 (slE_ok h hel2) hi h1 ha hb hvp h2 hvq hm hnew hf hlen hmax hmax2).1 hpn hn
      exact ⟨u, w', by show (execOp ρ _).run P w = _; rw [hrun, Sem.run_bind, hr]; rfl, ho⟩
    · obtain ⟨u, w', hr, ho⟩ := (append_some (ty := ty) h ht (slE_ok h hel) ht2 (slE_ok h hel2) hi h1 ha hb hvp h2 hvq hm hnew hf hlen hmax hmax2).2 k pl b hpk hk hb' hr hw hcs
      exact ⟨u, w', by show (execOp ρ _).run P w = _; rw [hrun, Sem.run_bind, hr]; rfl, ho⟩
  · cases e
theorem extremum_ok {f : Int → Int → Int} {g : Value → Value → Sem Value} (hg : ∀ k a b w, (g (.int k a) (.int k b)).run P w = .ok (.int k (f a b)) w) {xs : List X} {vs : List Value} {x : X} (w : World) (hr : All2 (X.rel β) xs vs) (e : extremum f xs = some x) :
    ∃ v rest u, vs = v :: rest ∧ x.rel β u ∧ (rest.foldlM g v).run P w = .ok u w := by
  unfold extremum at e
  split at e
  · rename_i k m rest
    cases hr with
    | cons h1 h2 =>
      rename_i v rest'
      obtain rfl := (show v = _ from h1)
      obtain ⟨u, hu, hrun⟩ := foldI_ok (P := P) hg w h2 e
      exact ⟨_, _, u, rfl, hu, hrun⟩
  · cases e
end
end Go.V
