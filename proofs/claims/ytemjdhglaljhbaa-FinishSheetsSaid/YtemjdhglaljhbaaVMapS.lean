/- The steps of a walk at a map that the call has made. -/
import Derived.Test.YtemjdhglaljhbaaVMap
namespace Go.V
variable {P : Program} {E : Env} {f : FuncId} {N : Nat} {β0 : Map} {S0 : St} {w0 : World} {T : List Va} {S : St} {w : World} {Q : List Va → St → World → Prop}

/-- A region's operations as steps. -/
def HdS (P : Program) (N : Nat) (β0 : Map) (S0 : St) (w0 : World) (l : List Stp) (T : List Va) (S : St) (w : World) (Q : List Va → St → World → Prop) : Prop :=
  ∀ (all : Array Oper) (ops : List Oper), stps all.toList ops = some l → HdL P N β0 S0 w0 all ops T S w Q
theorem hd_regS {id : Nat} {l : List Stp} {Q : Ex → List Va → St → World → Prop} (h : HdS P N β0 S0 w0 l T S w fun T' S' w' => Q .nx T' S' w') : Hd P E f N β0 S0 w0 (.reg id false l) T S w Q := hd_reg fun ops h1 => h ops _ h1
theorem hds_nil (h : Q T S w) : HdS P N β0 S0 w0 [] T S w Q := fun all ops h1 => by rw [stps_nil h1]; exact hdl_nil h
theorem hds_op {d : Option Tmp} {op : Op} {l : List Stp} {row : Option Nat} {v : Va} {w' : World} (hnd : ∀ c, op ≠ .defer c)
    (hrun : ∀ a (o : Oper), o.op = op → Pt β0 S0 w0 T S a w → ∃ u, (∀ β, v.rel β u) ∧ ((execOp a.eval o).run P w = .ok (.value u) w' ∨ (execOp a.eval o).run P w = .ok .skip w' ∧ u = undef)) (hgr : w.grownBy w' row)
    (hm : ∀ m, row = some m → w0.heap.size ≤ m ∧ ∃ ob, w.heap[m]? = some ob ∧ NoCells ob ∧ ob ≠ .deferred (some [])) (hK : HdS P N β0 S0 w0 l (put T d v) S w' Q) : HdS P N β0 S0 w0 (⟨none, d, op⟩ :: l) T S w Q := by
  intro all ops hops
  obtain ⟨o, rest, rfl, hg, rfl, rfl, hr⟩ := stps_cons hops
  exact hdl_op hg hnd (fun a hp _ => hrun a o rfl hp) hgr hm (hK all rest hr)
/-- A value that stands for one value alone. -/
def Flat (v : Va) : Prop := ∀ β β' u, v.rel β u → v.rel β' u
theorem flat_w (u : Value) : Flat (.w u) := fun _ _ _ h => h
theorem flat_int (k : IntKind) (n : Int) : Flat (.x (.c (.int k n))) := fun _ _ _ h => h
theorem flat_bool (b : Bool) : Flat (.x (.c (.bool b))) := fun _ _ _ h => h
variable {d : Option Tmp} {l : List Stp} {t : Tmp} {v : Va}
theorem hds_move (hT : T[t]? = some v) (hv : Flat v) (hK : HdS P N β0 S0 w0 l (put T d v) S w Q) : HdS P N β0 S0 w0 (⟨none, d, .move (.tmp t)⟩ :: l) T S w Q :=
  hds_op (row := none) (fun c h => by cases h) (fun a o ho hp => ⟨a.eval (.tmp t), fun β => hv _ β _ (hp.ev hT).choose_spec, .inl (by simp [execOp, ho])⟩) (.refl _ _) (fun m h => by cases h) hK
theorem hds_assign (hT : T[t]? = some v) (hv : Flat v) (hK : HdS P N β0 S0 w0 l (put T d v) S w Q) : HdS P N β0 S0 w0 (⟨none, d, .assign (.tmp t)⟩ :: l) T S w Q :=
  hds_op (row := none) (fun c h => by cases h) (fun a o ho hp => ⟨a.eval (.tmp t), fun β => hv _ β _ (hp.ev hT).choose_spec, .inl (by simp [execOp, ho])⟩) (.refl _ _) (fun m h => by cases h) hK
theorem hds_extract {vs : Array Value} {i : Nat} {u : Value} (hT : T[t]? = some (.w (.tuple vs))) (hi : vs[i]? = some u) (hv : ∀ β, v.rel β u) (hK : HdS P N β0 S0 w0 l (put T d v) S w Q) : HdS P N β0 S0 w0 (⟨none, d, .extract (.tmp t) i⟩ :: l) T S w Q :=
  hds_op (row := none) (fun c h => by cases h) (fun a o ho hp => ⟨u, hv, .inl (by simp [execOp, ho, hp.val hT, Instr.extract, hi])⟩) (.refl _ _) (fun m h => by cases h) hK
variable {tm k e : TypeId} {b n : Nat} {M : Int → Option Bool}
theorem hds_makeMap (hK : MapI P k e w.heap.size 0 (fun _ => none) (w.alloc (.map #[] 0)) → HdS P N β0 S0 w0 l (put T d (.w (.map (some w.heap.size)))) S (w.alloc (.map #[] 0)) Q) : HdS P N β0 S0 w0 (⟨none, d, .makeMap tm none⟩ :: l) T S w Q :=
  hds_op (row := none) (v := .w (.map (some w.heap.size))) (fun c h => by cases h) (fun a o ho hp => ⟨.map (some w.heap.size), fun β => rfl, .inl (by
    have hm : (Instr.makeMap tm none).run P w = .ok (.map (some w.heap.size)) (w.alloc (.map #[] 0)) := rfl
    simp [execOp, ho, hm, Result.andThen])⟩) (World.grownBy_alloc w _ none) (fun m h => by cases h) (hK (MapI.made w))
theorem hds_update (Y : MTy P tm k e) (h : MapI P k e b n M w) (hb : w0.heap.size ≤ b) (hn : n < maxLen) {m i : Tmp} {j : Int} {x : Bool} (hm : T[m]? = some (.w (.map (some b)))) (hi : T[i]? = some (.x (.c (.int .i64 j)))) (hj : Wf j)
    (hK : ∀ w', MapI P k e b (n + 1) (upd M j (some x)) w' → HdS P N β0 S0 w0 l (put T d .n) S w' Q) : HdS P N β0 S0 w0 (⟨none, d, .mapUpdate tm (.tmp m) (.tmp i) (.const (.bool x))⟩ :: l) T S w Q := by
  obtain ⟨w', h1, h2, h3⟩ := h.put Y hn hj x
  refine hds_op (row := some b) (v := .n) (w' := w') (fun c h => by cases h) (fun a o ho hp => ⟨undef, fun β => rfl, .inr ⟨?_, rfl⟩⟩) h3 (fun m hm' => by cases hm'; exact ⟨hb, h.obj⟩) (hK w' h2)
  have h4 : a.eval (.const (.bool x)) = .bool x := rfl
  simp only [execOp, ho, hp.val hm, hp.int hi, h4, Sem.run_bind, h1, Result.andThen_ok, Sem.run_pure]
theorem hds_look (Y : MTy P tm k e) (h : MapI P k e b n M w) {m i : Tmp} {j : Int} (hm : T[m]? = some (.w (.map (some b)))) (hi : T[i]? = some (.x (.c (.int .i64 j)))) (hj : Wf j)
    (hK : HdS P N β0 S0 w0 l (put T d (.x (.c (.bool ((M j).getD false))))) S w Q) : HdS P N β0 S0 w0 (⟨none, d, .lookup tm (.tmp m) (.tmp i) false⟩ :: l) T S w Q := by
  refine hds_op (row := none) (v := .x (.c (.bool ((M j).getD false)))) (fun c h => by cases h) (fun a o ho hp => ⟨.bool ((M j).getD false), fun β => rfl, .inl ?_⟩) (.refl _ _) (fun m h => by cases h) hK
  simp only [execOp, ho, hp.val hm, hp.int hi, Sem.run_bind, h.look Y hj, Result.andThen_ok, Sem.run_pure]
theorem hds_delete (Y : MTy P tm k e) (h : MapI P k e b n M w) (hb : w0.heap.size ≤ b) {m i : Tmp} {j : Int} (hm : T[m]? = some (.w (.map (some b)))) (hi : T[i]? = some (.x (.c (.int .i64 j)))) (hj : Wf j)
    (hK : ∀ w', MapI P k e b n (upd M j none) w' → HdS P N β0 S0 w0 l (put T d (.w (.tuple #[]))) S w' Q) : HdS P N β0 S0 w0 (⟨none, d, .call ⟨.builtin .delete, #[.tmp m, .tmp i], #[tm, k]⟩⟩ :: l) T S w Q := by
  intro all ops hops
  obtain ⟨o, rest, rfl, hg, rfl, hop, hr⟩ := stps_cons hops
  obtain ⟨w', h1, h2, h3⟩ := h.del Y hj o.type
  refine hdl_op (row := some b) (v := .w (.tuple #[])) (w' := w') hg (fun c h => by rw [hop] at h; cases h) (fun a hp _ => ⟨_, fun β => rfl, .inl ?_⟩) h3 (fun m hm' => by cases hm'; exact ⟨hb, h.obj⟩) (hK w' h2 all rest hr)
  simp [execOp, hop, resolve, invoke, builtin, hp.val hm, hp.int hi, h1, Result.andThen]
theorem hds_range (Y : MTy P tm k e) (h : MapI P k e b n M w) {m : Tmp} (hm : T[m]? = some (.w (.map (some b))))
    (hK : ∀ w' cnt, RngI P k e b w.heap.size n M (fun i => (M i).isSome) cnt w' → cnt ≤ n → HdS P N β0 S0 w0 l (put T d (.w (.pointer (some ⟨w.heap.size, 0, none⟩)))) S w' Q) : HdS P N β0 S0 w0 (⟨none, d, .range tm (.tmp m)⟩ :: l) T S w Q := by
  obtain ⟨w', cnt, h1, h2, h3, h4⟩ := h.range Y
  refine hds_op (row := none) (v := .w (.pointer (some ⟨w.heap.size, 0, none⟩))) (w' := w') (fun c h => by cases h) (fun a o ho hp => ⟨_, fun β => rfl, .inl ?_⟩) h4 (fun m h => by cases h) (hK w' cnt h2 h3)
  simp only [execOp, ho, hp.val hm, Sem.run_bind, h1, Result.andThen_ok, Sem.run_pure]
variable {r cnt : Nat} {left : Int → Bool}
theorem hds_next (Y : MTy P tm k e) (h : RngI P k e b r n M left cnt w) (hb : w0.heap.size ≤ r) {m : Tmp} (hm : T[m]? = some (.w (.pointer (some ⟨r, 0, none⟩))))
    (hK1 : (∀ i, left i = false) → HdS P N β0 S0 w0 l (put T d (.w (.tuple #[.bool false]))) S w Q)
    (hK2 : ∀ i x w' cnt', left i = true → M i = some x → Wf i → RngI P k e b r n M (fun j => left j && !decide (j = i)) cnt' w' → cnt' < cnt → (Instr.entry (.pointer (some ⟨r, 0, none⟩))).run P w' = .ok (.tuple #[.int .i64 i, .bool x]) w' →
      HdS P N β0 S0 w0 l (put T d (.w (.tuple #[.bool true, .int .i64 i, .bool x]))) S w' Q) : HdS P N β0 S0 w0 (⟨none, d, .next (.tmp m) false⟩ :: l) T S w Q := by
  intro all ops hops
  obtain ⟨o, rest, rfl, hg, rfl, hop, hr⟩ := stps_cons hops
  rcases h.next Y o.type with ⟨h1, h2, h3⟩ | ⟨i, x, w', cnt', h1, h2, h3, h4, h5, h6, h7, h8⟩
  · refine hdl_op (row := none) (v := .w (.tuple #[.bool false])) (w' := w) hg (fun c h => by rw [hop] at h; cases h) (fun a hp _ => ⟨_, fun β => rfl, .inl ?_⟩) (.refl _ _) (fun m h => by cases h) (hK1 h2 all rest hr)
    simp only [execOp, hop, hp.val hm, Sem.run_bind, h3, Result.andThen_ok, Sem.run_pure]
  · refine hdl_op (row := some r) (v := .w (.tuple #[.bool true, .int .i64 i, .bool x])) (w' := w') hg (fun c h => by rw [hop] at h; cases h) (fun a hp _ => ⟨_, fun β => rfl, .inl ?_⟩) h7 (fun m hm' => by cases hm'; exact ⟨hb, h.obj⟩) (hK2 i x w' cnt' h1 h2 h3 h5 h6 h8 all rest hr)
    simp only [execOp, hop, hp.val hm, Sem.run_bind, h4, Result.andThen_ok, Sem.run_pure]
theorem hds_entry {u : Value} {m : Tmp} (hm : T[m]? = some (.w (.pointer (some ⟨r, 0, none⟩)))) (h : (Instr.entry (.pointer (some ⟨r, 0, none⟩))).run P w = .ok u w)
    (hK : HdS P N β0 S0 w0 l (put T d (.w u)) S w Q) : HdS P N β0 S0 w0 (⟨none, d, .entry (.tmp m)⟩ :: l) T S w Q := by
  refine hds_op (row := none) (v := .w u) (fun c h => by cases h) (fun a o ho hp => ⟨_, fun β => rfl, .inl ?_⟩) (.refl _ _) (fun m h => by cases h) hK
  simp only [execOp, ho, hp.val hm, Sem.run_bind, h, Result.andThen_ok, Sem.run_pure]
end Go.V
