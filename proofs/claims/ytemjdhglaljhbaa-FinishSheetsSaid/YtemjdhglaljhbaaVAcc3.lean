/- The evaluator's soundness, part 7: all operations that are no calls of functions, in one statement. -/
import Derived.Test.YtemjdhglaljhbaaVAcc2
namespace Go.V
variable {P : Program} {E : Env}
theorem acc_sound (h : TyOk P E) {β : Map} {T : List Va} {ρ : Operand → Value} {A : Acc} (o : Oper) (ho : ∀ x ∈ o.op.operands, Rl β T ρ x) (e : acc E o T = some A) : A.ok P β fun w => (execOp ρ o).run P w := by
  obtain ⟨dst, op, ty, pos, after, guard⟩ := o
  have hv : ∀ {s : Sem Value} {u : Value} {w : World}, s.run P w = .ok u w → (do pure (Next.value (← s)) : Sem Next).run P w = .ok (.value u) w := by
    intro s u w h
    rw [Sem.run_bind, h]
    rfl
  cases op with
  | move x =>
    simp only [acc] at e
    obtain ⟨v, hx, rfl⟩ := map_some e
    exact val_of ⟨ρ x, ho x (by simp [Op.operands]) v hx, fun w => rfl⟩
  | assign x =>
    simp only [acc] at e
    obtain ⟨v, hx, rfl⟩ := map_some e
    exact val_of ⟨ρ x, ho x (by simp [Op.operands]) v hx, fun w => rfl⟩
  | pick c a b =>
    simp only [acc] at e
    obtain ⟨t, ht, e⟩ := bind_some e
    obtain ⟨v, hx, rfl⟩ := map_some e
    have hc := evB_ok (ho c (by simp [Op.operands])) ht
    refine val_of ⟨if t then ρ a else ρ b, ?_, fun w => by simp [execOp, hc, asBool]⟩
    cases t with
    | true => exact ho a (by simp [Op.operands]) v hx
    | false => exact ho b (by simp [Op.operands]) v hx
  | alloc t =>
    simp only [acc] at e
    obtain ⟨z, hz, rfl⟩ := map_some e
    obtain ⟨zv, hzr, hzrel⟩ := h.zero hz
    have hcells := X.rel_cells (hzrel β)
    refine ⟨zv.cells, t, none, fun k => .pointer (some ⟨k, 0, none⟩), ?_, fun s hs => (by cases hs), fun w => ?_, fun β' n k _ hn => ⟨_, hn, by simp [Pl.at]⟩⟩
    · rw [List.take_of_length_le (by rw [hcells.length]; exact Nat.le_refl _)]
      exact hcells
    · show (execOp ρ _).run P w = _
      simp only [execOp]
      simp [Instr.alloc, hzr, newVar, newRow]
  | box t x =>
    simp only [acc] at e
    obtain ⟨z, hz, rfl⟩ := map_some e
    have hcells := X.rel_cells (evX_ok (ho x (by simp [Op.operands])) hz)
    refine ⟨(ρ x).cells, t, none, fun k => .pointer (some ⟨k, 0, none⟩), ?_, fun s hs => (by cases hs), fun w => ?_, fun β' n k _ hn => ⟨_, hn, by simp [Pl.at]⟩⟩
    · rw [List.take_of_length_le (by rw [hcells.length]; exact Nat.le_refl _)]
      exact hcells
    · show (execOp ρ _).run P w = _
      simp only [execOp]
      simp [Instr.box, newVar, newRow]
  | build t ps => exact acc_build h t ps (fun x hx => ho x.2 (by simp [Op.operands]; exact ⟨x.1, by simpa using hx⟩)) e
  | buildSlice t n ps => exact acc_buildSlice h t n ps (fun x hx => ho x.2 (by simp [Op.operands]; exact ⟨x.1, by simpa using hx⟩)) e
  | load t x => exact acc_load h t x (ho x (by simp [Op.operands])) e
  | store t x y => exact acc_store h t x y (ho x (by simp [Op.operands])) (ho y (by simp [Op.operands])) e
  | nilCheck x =>
    simp only [acc] at e
    obtain ⟨p, hp, rfl⟩ := map_some e
    obtain ⟨pl, hpl, hvx⟩ := evP_ok (ho x (by simp [Op.operands])) hp
    exact val_of ⟨_, ⟨pl, hpl, rfl⟩, fun w => by simp [execOp, hvx]⟩
  | binOp op t x y t2 =>
    simp only [acc] at e
    obtain ⟨a, ha, e⟩ := bind_some e
    obtain ⟨b, hb, e⟩ := bind_some e
    obtain ⟨c, hc, rfl⟩ := map_some e
    have hax := evX_ok (ho x (by simp [Op.operands])) ha
    have hbx := evX_ok (ho y (by simp [Op.operands])) hb
    intro w
    obtain ⟨u, hu, hrun⟩ := bin_ok h hax hbx hc w x y
    exact ⟨u, hu, hv hrun⟩
  | unOp op t x =>
    simp only [acc] at e
    obtain ⟨a, ha, e⟩ := bind_some e
    obtain ⟨c, hc, rfl⟩ := map_some e
    have hax := evX_ok (ho x (by simp [Op.operands])) ha
    intro w
    obtain ⟨u, hu, hrun⟩ := un_ok (P := P) hax hc w
    exact ⟨u, hu, hv hrun⟩
  | convert s d x =>
    simp only [acc] at e
    obtain ⟨a, ha, e⟩ := bind_some e
    obtain ⟨c, hc, rfl⟩ := map_some e
    have hax := evX_ok (ho x (by simp [Op.operands])) ha
    intro w
    obtain ⟨u, hu, hrun⟩ := conv_ok h hax hc w
    exact ⟨u, hu, hv hrun⟩
  | makeFunc f first captured =>
    cases f with
    | func f =>
      simp only [acc] at e
      split at e
      · rename_i h0
        obtain ⟨ps, hps, rfl⟩ := map_some e
        have hl := evPs_ok (fun x hx => ho x (by simp [Op.operands]; exact .inr (by simpa using hx))) hps
        refine val_of ⟨.func (.func f) (first.map ρ) (captured.map ρ), ⟨captured.toList.map ρ, hl, ?_⟩, fun w => by simp [execOp, Instr.makeFunc]⟩
        have : first = #[] := Array.eq_empty_of_size_eq_zero h0
        subst this
        simp [← Array.toList_map]
      · cases e
    | _ => simp [acc] at e
  | makeSlice t x y => exact acc_makeSlice h t x y (ho x (by simp [Op.operands])) (ho y (by simp [Op.operands])) e
  | slice t x lo hi mx =>
    cases mx with
    | none => exact acc_slice h t x lo hi (ho x (by simp [Op.operands])) (fun y hy => ho y (by subst hy; simp [Op.operands])) (fun y hy => ho y (by subst hy; simp [Op.operands])) e
    | some m => simp [acc] at e
  | fieldAddr t x f => exact acc_fieldAddr h t x f (ho x (by simp [Op.operands])) e
  | field t x f => exact acc_field h t x f (ho x (by simp [Op.operands])) e
  | indexAddr t x y => exact acc_indexAddr h t x y (ho x (by simp [Op.operands])) (ho y (by simp [Op.operands])) e
  | index t x y => exact acc_index h t x y (ho x (by simp [Op.operands])) (ho y (by simp [Op.operands])) e
  | extract x i =>
    simp only [acc] at e
    obtain ⟨vs, hvs, e⟩ := bind_some e
    obtain ⟨v, hi, rfl⟩ := map_some e
    obtain ⟨us, hus, hux⟩ := evT_ok (ho x (by simp [Op.operands])) hvs
    obtain ⟨u, hu, hr⟩ := hus.get _ _ hi
    exact val_of ⟨u, hr, fun w => by simp [execOp, Instr.extract, hux, hu]⟩
  | call c =>
    obtain ⟨callee, args, argTypes⟩ := c
    have hargs : ∀ x ∈ args.toList, Rl β T ρ x := fun x hx => ho x (by simp [Op.operands, Call.operands]; exact .inr (by simpa using hx))
    cases callee with
    | builtin b =>
      cases b with
      | append => exact acc_append h argTypes args hargs e
      | len =>
        simp only [acc] at e
        obtain ⟨t, ht, e⟩ := bind_some e
        obtain ⟨el, hel, e⟩ := bind_some e
        obtain ⟨x, hx, e⟩ := bind_some e
        obtain ⟨n, hn, rfl⟩ := map_some e
        obtain ⟨a, c, hv⟩ := evL_ok (hargs x (by have := Array.mem_of_getElem? hx; simpa using this)) hn
        refine val_of ⟨.int .i64 n, rfl, fun w => ?_⟩
        simp [execOp, resolve, invoke, builtin, Builtin.len_, ht, hx, hv, run_underlying (slE_ok h hel), goInt]
      | max =>
        simp only [acc] at e
        obtain ⟨xs, hxs, e⟩ := bind_some e
        obtain ⟨v, hv', rfl⟩ := map_some e
        have hr := evXs_ok hargs hxs
        intro w
        obtain ⟨v, rest, u, hl, hu, hrun⟩ := extremum_ok (P := P) (f := maxI) (g := Builtin.max2) (fun k a b w => by simp [Builtin.max2, maxI]) w hr hv'
        refine ⟨u, hu, hv ?_⟩
        have : (args.map ρ).toList = v :: rest := by rw [Array.toList_map]; exact hl
        simp only [Builtin.max_, this]
        exact hrun
      | min =>
        simp only [acc] at e
        obtain ⟨xs, hxs, e⟩ := bind_some e
        obtain ⟨v, hv', rfl⟩ := map_some e
        have hr := evXs_ok hargs hxs
        intro w
        obtain ⟨v, rest, u, hl, hu, hrun⟩ := extremum_ok (P := P) (f := minI) (g := Builtin.min2) (fun k a b w => by simp [Builtin.min2, minI]) w hr hv'
        refine ⟨u, hu, hv ?_⟩
        have : (args.map ρ).toList = v :: rest := by rw [Array.toList_map]; exact hl
        simp only [Builtin.min_, this]
        exact hrun
      | _ => simp [acc] at e
    | _ => simp [acc] at e
  | _ => simp [acc] at e
end Go.V
