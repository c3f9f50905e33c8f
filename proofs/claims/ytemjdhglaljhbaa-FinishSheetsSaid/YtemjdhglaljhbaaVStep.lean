/- Walking with the evaluator: each operation's own rule. -/
import Derived.Test.YtemjdhglaljhbaaVWp
namespace Go.V
variable {E : Env} {ys : Yls} {l : List Stp} {T : List Va} {S : St} {es : List Eff} {Q : KS} {d : Option Tmp}


def PRn {α : Type} (x : Option α) (f : α → Prop) : Prop := ∃ a, x = some a ∧ f a
theorem Rn_P {α : Type} (x : Option α) (f : α → Prop) : @Rn α x ⟨f⟩ = PRn x f := rfl
@[simp] theorem PRn_some {α : Type} (a : α) (f : α → Prop) : PRn (some a) f = f a := by simp [PRn]
@[simp] theorem PRn_none {α : Type} (f : α → Prop) : PRn none f = False := by simp [PRn]
def PLt {α : Type} (x : α) (f : α → Prop) : Prop := f x
@[simp] theorem PLt_eval {α : Type} (x : α) (f : α → Prop) : PLt x f = f x := of_eq_true (eq_self _)
theorem PRn_map {α β : Type} (x : Option α) (g : α → β) (f : β → Prop) : PRn (x.map g) f = PRn x fun a => f (g a) := by cases x <;> simp
theorem PRn_bind {α β : Type} (x : Option α) (g : α → Option β) (f : β → Prop) : PRn (x.bind g) f = PRn x fun a => PRn (g a) f := by cases x <;> simp
theorem PRn_congr2 {α : Type} {x : Option α} {f g : α → Prop} (h : ∀ a, f a = g a) : PRn x f = PRn x g := by rw [show f = g from funext h]

/-- One of two values. -/
def Br2 (c : Bool) (a b : Option Va) : Option Va := if c then a else b
@[simp] theorem Br2_true (a b : Option Va) : Br2 true a b = a := of_eq_true (eq_self _)
@[simp] theorem Br2_false (a b : Option Va) : Br2 false a b = b := of_eq_true (eq_self _)
@[simp] theorem Br2_bool (c x y : Bool) : Br2 c (some (.x (.c (.bool x)))) (some (.x (.c (.bool y)))) = some (.x (.c (.bool (if c then x else y)))) := by cases c <;> rfl
theorem WpS_nil {q : List Va → St → List Eff → Prop} : @WpS E ys [] T S es ⟨q⟩ = q T S es.reverse := of_eq_true (eq_self _)
theorem WpS_guard_p (t : Tmp) (b : Bool) (op : Op) : @WpS E ys (⟨some (t, b), d, op⟩ :: l) T S es Q = PRn (want (some (t, b)) T) fun c => (c = true → @WpS E ys (⟨none, d, op⟩ :: l) T S es Q) ∧ (c = false → PLt (put T d .n) fun T' => @WpS E ys l T' S (.pure :: es) Q) := by
  simp only [WpS, Rn_P]
  refine PRn_congr2 fun c => ?_
  cases c <;> simp [want, stepR, Stp.oper, okEff, mayBad, mayNew, isLoad, isCall]
theorem WpS_acc_p {op : Op} (h : ∀ c as ts, op ≠ .call ⟨.value c, as, ts⟩) : @WpS E ys (⟨none, d, op⟩ :: l) T S es Q = PRn (acc E (Stp.oper ⟨none, d, op⟩) T) fun A => PRn (A.run S) fun r => okEff (Stp.oper ⟨none, d, op⟩) r.2.2 = true ∧ PLt (put T d r.1) fun T' => @WpS E ys l T' r.2.1 (r.2.2 :: es) Q := by
  have hs : stepR E ys ⟨none, d, op⟩ T S = (acc E (Stp.oper ⟨none, d, op⟩) T).bind (·.run S) := by
    unfold stepR xStep xOp
    split
    · rename_i c as ts hop
      exact absurd hop (h _ _ _)
    · rfl
  simp only [WpS, Rn_P, want, PRn_some, if_true, hs, PRn_bind, PLt_eval]
theorem WpS_val_p {op : Op} (h : ∀ c as ts, op ≠ .call ⟨.value c, as, ts⟩) {v : Option Va} (ha : acc E (Stp.oper ⟨none, d, op⟩) T = v.map .val) : @WpS E ys (⟨none, d, op⟩ :: l) T S es Q = PRn v fun v => PLt (put T d v) fun T' => @WpS E ys l T' S (.pure :: es) Q := by
  rw [WpS_acc_p h, ha, PRn_map]
  refine PRn_congr2 fun v => ?_
  simp [Acc.run, okEff]
variable {t : TypeId} {x y c a b : Operand}
theorem WpS_move_p : @WpS E ys (⟨none, d, .move x⟩ :: l) T S es Q = PRn (ev T x) fun v => PLt (put T d v) fun T' => @WpS E ys l T' S (.pure :: es) Q := WpS_val_p (by simp) rfl
theorem WpS_assign_p : @WpS E ys (⟨none, d, .assign x⟩ :: l) T S es Q = PRn (ev T x) fun v => PLt (put T d v) fun T' => @WpS E ys l T' S (.pure :: es) Q := WpS_val_p (by simp) rfl
theorem WpS_pick_p : @WpS E ys (⟨none, d, .pick c a b⟩ :: l) T S es Q = PRn (evB T c) fun t => PRn (Br2 t (ev T a) (ev T b)) fun v => PLt (put T d v) fun T' => @WpS E ys l T' S (.pure :: es) Q := by
  rw [WpS_val_p (v := (evB T c).bind fun t => ev T (if t then a else b)) (by simp) (by simp only [acc, Stp.oper]; cases evB T c <;> rfl), PRn_bind]
  refine PRn_congr2 fun t => ?_
  cases t <;> rfl
theorem WpS_build_p {ps : Array (Nat × Operand)} : @WpS E ys (⟨none, d, .build t ps⟩ :: l) T S es Q = PRn (zero? E t) fun z => PRn (evParts T ps.toList) fun ps => PRn (place E t) fun f => PRn (fill f z.cells ps) fun cs => PLt (put T d (.x (.a cs))) fun T' => @WpS E ys l T' S (.pure :: es) Q := by
  rw [WpS_val_p (v := (zero? E t).bind fun z => (evParts T ps.toList).bind fun ps => (place E t).bind fun f => (fill f z.cells ps).map fun cs => .x (.a cs)) (by simp)]
  · simp only [PRn_bind, PRn_map]
  · simp only [acc, Stp.oper]
    cases zero? E t <;> simp
    cases evParts T ps.toList <;> simp
    cases place E t <;> simp
    rfl
theorem WpS_bin_p {op : BinOp} {p : _} : @WpS E ys (⟨none, d, .binOp op t x y p⟩ :: l) T S es Q = PRn (evX T x) fun a => PRn (evX T y) fun b => PRn (bin E op t a b) fun v => PLt (put T d (.x (.c v))) fun T' => @WpS E ys l T' S (.pure :: es) Q := by
  rw [WpS_val_p (v := (evX T x).bind fun a => (evX T y).bind fun b => (bin E op t a b).map fun v => .x (.c v)) (by simp)]
  · simp only [PRn_bind, PRn_map]
  · simp only [acc, Stp.oper]
    cases evX T x <;> simp
    cases evX T y <;> simp
    rfl
theorem WpS_un_p {op : UnOp} : @WpS E ys (⟨none, d, .unOp op t x⟩ :: l) T S es Q = PRn (evX T x) fun a => PRn (un op a) fun v => PLt (put T d (.x (.c v))) fun T' => @WpS E ys l T' S (.pure :: es) Q := by
  rw [WpS_val_p (v := (evX T x).bind fun a => (un op a).map fun v => .x (.c v)) (by simp)]
  · simp only [PRn_bind, PRn_map]
  · simp only [acc, Stp.oper]
    cases evX T x <;> simp
    rfl
theorem WpS_conv_p {s t : TypeId} : @WpS E ys (⟨none, d, .convert s t x⟩ :: l) T S es Q = PRn (evX T x) fun a => PRn (conv E s t a) fun v => PLt (put T d (.x (.c v))) fun T' => @WpS E ys l T' S (.pure :: es) Q := by
  rw [WpS_val_p (v := (evX T x).bind fun a => (conv E s t a).map fun v => .x (.c v)) (by simp)]
  · simp only [PRn_bind, PRn_map]
  · simp only [acc, Stp.oper]
    cases evX T x <;> simp
    rfl
theorem WpS_makeFunc_p {f : FuncId} {fi : _} {cap : Array Operand} (hf : fi = #[]) : @WpS E ys (⟨none, d, .makeFunc (.func f) fi cap⟩ :: l) T S es Q = PRn (evPs T cap.toList) fun ps => PLt (put T d (.x (.c (.fn f ps)))) fun T' => @WpS E ys l T' S (.pure :: es) Q := by
  subst hf
  rw [WpS_val_p (v := (evPs T cap.toList).map fun ps => .x (.c (.fn f ps))) (by simp)]
  · simp only [PRn_map]
  · simp only [acc, Stp.oper]
    cases evPs T cap.toList <;> rfl
theorem WpS_nilCheck_p : @WpS E ys (⟨none, d, .nilCheck x⟩ :: l) T S es Q = PRn (evP T x) fun p => PLt (put T d (.x (.c (.ptr (some p))))) fun T' => @WpS E ys l T' S (.pure :: es) Q := by
  rw [WpS_val_p (v := (evP T x).map fun p => .x (.c (.ptr (some p)))) (by simp)]
  · simp only [PRn_map]
  · simp only [acc, Stp.oper]
    cases evP T x <;> rfl
/-- Where a field lies. -/
def faOff (E : Env) (t : TypeId) (f : Nat) : Option Nat := (stF E t).bind fun fs => (fs[f]?).bind fun fd => (size? E fd.2).bind fun s => if 0 < s then some fd.1 else none
theorem WpS_fieldAddr_p {f : Nat} : @WpS E ys (⟨none, d, .fieldAddr t x f⟩ :: l) T S es Q = PRn (faOff E t f) fun k => PRn (evP T x) fun p => PLt (put T d (.x (.c (.ptr (some (p.1, p.2 + k)))))) fun T' => @WpS E ys l T' S (.pure :: es) Q := by
  unfold faOff
  rw [WpS_val_p (v := ((stF E t).bind fun fs => (fs[f]?).bind fun fd => (size? E fd.2).bind fun s => if 0 < s then some fd.1 else none).bind fun k => (evP T x).map fun p => .x (.c (.ptr (some (p.1, p.2 + k))))) (by simp)]
  · simp only [PRn_bind, PRn_map]
  · simp only [acc, Stp.oper]
    cases stF E t <;> simp
    rename_i fs
    cases fs[f]? <;> simp
    rename_i fd
    cases size? E fd.2 <;> simp
    rename_i s
    cases evP T x <;> by_cases h : 0 < s <;> simp [h]
theorem WpS_field_p {f : Nat} : @WpS E ys (⟨none, d, .field t x f⟩ :: l) T S es Q = PRn ((stF E t).bind fun fs => fs[f]?) fun fd => PRn (evA T x) fun cs => PRn (part? E fd.2 cs fd.1) fun v => PLt (put T d (.x v)) fun T' => @WpS E ys l T' S (.pure :: es) Q := by
  rw [WpS_val_p (v := ((stF E t).bind fun fs => fs[f]?).bind fun fd => (evA T x).bind fun cs => (part? E fd.2 cs fd.1).map .x) (by simp)]
  · simp only [PRn_bind, PRn_map]
  · simp only [acc, Stp.oper]
    cases stF E t <;> simp
    rename_i fs
    cases fs[f]? <;> simp
    cases evA T x <;> simp
    rfl
/-- The place of an element. -/
def ixP (E : Env) (t : TypeId) (v : X) (j : Int) : Option (Nat × Nat) :=
  match E.sh t with
  | some (.array len e) => (size? E e).bind fun s => match v with
    | .c (.ptr (some p)) => if 0 ≤ j ∧ j < len then some (p.1, p.2 + j.toNat * s) else none
    | _ => none
  | some (.slice e) => (size? E e).bind fun s => match v with
    | .c (.sl (some p) n) => if 0 ≤ j ∧ j < n then some (p.1, p.2 + j.toNat * s) else none
    | _ => none
  | _ => none
theorem WpS_indexAddr_p : @WpS E ys (⟨none, d, .indexAddr t x y⟩ :: l) T S es Q = PRn (evI T y) fun j => PRn (evX T x) fun v => PRn (ixP E t v j) fun p => PLt (put T d (.x (.c (.ptr (some p))))) fun T' => @WpS E ys l T' S (.pure :: es) Q := by
  rw [WpS_val_p (v := (evI T y).bind fun j => (evX T x).bind fun v => (ixP E t v j).map fun p => .x (.c (.ptr (some p)))) (by simp)]
  · simp only [PRn_bind, PRn_map]
  · simp only [acc, Stp.oper]
    cases evI T y <;> simp
    rename_i j
    unfold ixP evP evS
    cases hs : E.sh t with
    | none => cases evX T x <;> rfl
    | some s =>
      cases s with
      | array n e =>
        simp only
        cases size? E e with
        | none => cases evX T x <;> rfl
        | some s =>
          cases evX T x with
          | none => rfl
          | some v => cases v with
            | a cs => rfl
            | c v => cases v with
              | ptr p => cases p with
                | none => rfl
                | some p => simp only [Option.bind_some]; split <;> simp_all
              | _ => rfl
      | slice e =>
        simp only
        cases size? E e with
        | none => cases evX T x <;> rfl
        | some s =>
          cases evX T x with
          | none => rfl
          | some v => cases v with
            | a cs => rfl
            | c v => cases v with
              | sl p n => cases p with
                | none => rfl
                | some p => simp only [Option.bind_some]; split <;> simp_all
              | _ => rfl
      | _ => cases evX T x <;> rfl
theorem WpS_index_p : @WpS E ys (⟨none, d, .index t x y⟩ :: l) T S es Q = PRn (evI T y) fun j => PRn (arE E t) fun ne => PRn (size? E ne.2) fun s => PRn (evA T x) fun cs => PRn (if 0 ≤ j ∧ j < ne.1 then part? E ne.2 cs (j.toNat * s) else none) fun v => PLt (put T d (.x v)) fun T' => @WpS E ys l T' S (.pure :: es) Q := by
  rw [WpS_val_p (v := (evI T y).bind fun j => (arE E t).bind fun ne => (size? E ne.2).bind fun s => (evA T x).bind fun cs => (if 0 ≤ j ∧ j < ne.1 then part? E ne.2 cs (j.toNat * s) else none).map .x) (by simp)]
  · simp only [PRn_bind, PRn_map]
  · simp only [acc, Stp.oper]
    cases evI T y <;> simp
    cases arE E t <;> simp
    rename_i ne
    cases size? E ne.2 <;> simp
    cases evA T x <;> simp
    split <;> rfl
theorem WpS_extract_p {i : Nat} : @WpS E ys (⟨none, d, .extract x i⟩ :: l) T S es Q = PRn (evT T x) fun vs => PRn (vs[i]?) fun v => PLt (put T d (.x v)) fun T' => @WpS E ys l T' S (.pure :: es) Q := by
  rw [WpS_val_p (v := (evT T x).bind fun vs => (vs[i]?).map .x) (by simp)]
  · simp only [PRn_bind, PRn_map]
  · simp only [acc, Stp.oper]
    cases evT T x <;> simp
    rfl
theorem WpS_len_p {as : Array Operand} {ts : Array TypeId} : @WpS E ys (⟨none, d, .call ⟨.builtin .len, as, ts⟩⟩ :: l) T S es Q = PRn ((ts[0]?).bind (slE E)) fun _ => PRn (as[0]?) fun x => PRn (evL T x) fun n => PLt (put T d (.x (.c (.int .i64 (n : Int))))) fun T' => @WpS E ys l T' S (.pure :: es) Q := by
  rw [WpS_val_p (v := ((ts[0]?).bind (slE E)).bind fun _ => (as[0]?).bind fun x => (evL T x).map fun (n : Nat) => .x (.c (.int .i64 (n : Int)))) (by simp)]
  · simp only [PRn_bind, PRn_map]
  · simp only [acc, Stp.oper]
    cases ts[0]? <;> simp
    rename_i t
    cases slE E t <;> simp
    cases as[0]? <;> simp
    rfl
theorem WpS_max_p {as : Array Operand} {ts : Array TypeId} : @WpS E ys (⟨none, d, .call ⟨.builtin .max, as, ts⟩⟩ :: l) T S es Q = PRn (evXs T as.toList) fun xs => PRn (extremum maxI xs) fun v => PLt (put T d (.x v)) fun T' => @WpS E ys l T' S (.pure :: es) Q := by
  rw [WpS_val_p (v := (evXs T as.toList).bind fun xs => (extremum maxI xs).map .x) (by simp)]
  · simp only [PRn_bind, PRn_map]
  · simp only [acc, Stp.oper]
    cases evXs T as.toList <;> simp
    rfl
theorem WpS_min_p {as : Array Operand} {ts : Array TypeId} : @WpS E ys (⟨none, d, .call ⟨.builtin .min, as, ts⟩⟩ :: l) T S es Q = PRn (evXs T as.toList) fun xs => PRn (extremum minI xs) fun v => PLt (put T d (.x v)) fun T' => @WpS E ys l T' S (.pure :: es) Q := by
  rw [WpS_val_p (v := (evXs T as.toList).bind fun xs => (extremum minI xs).map .x) (by simp)]
  · simp only [PRn_bind, PRn_map]
  · simp only [acc, Stp.oper]
    cases evXs T as.toList <;> simp
    rfl
/-- A slice of a slice. -/
def sliceR (s : Nat) (p : Option (Nat × Nat)) (n : Nat) (lo hi : Int) : Option C :=
  if 0 ≤ lo ∧ lo ≤ hi ∧ hi ≤ n ∧ 0 < s then
    match p with
    | none => some (.sl none 0)
    | some (i, o) => if lo = hi then some .em else some (.sl (some (i, o + lo.toNat * s)) (hi - lo).toNat)
  else none
theorem sliced_eq (s : Nat) (p : Option (Nat × Nat)) (n : Nat) (lo hi : Int) : sliced s p n lo hi = (sliceR s p n lo hi).map fun c => .val (.x (.c c)) := by
  unfold sliced sliceR
  by_cases h : 0 ≤ lo ∧ lo ≤ hi ∧ hi ≤ n ∧ 0 < s
  · rw [if_pos h, if_pos h]
    cases p with
    | none => rfl
    | some q => by_cases h2 : lo = hi <;> simp [h2]
  · rw [if_neg h, if_neg h]
    rfl
def hiOf (T : List Va) (h : Option Operand) (n : Nat) : Option Int := match h with | some y => evI T y | none => some (n : Int)
def loOf (T : List Va) (h : Option Operand) : Option Int := match h with | some y => evI T y | none => some 0
theorem WpS_slice_p {lo hi : Option Operand} : @WpS E ys (⟨none, d, .slice t x lo hi none⟩ :: l) T S es Q = PRn (slE E t) fun e => PRn (size? E e) fun s => PRn (evS T x) fun q => PRn (loOf T lo) fun a => PRn (hiOf T hi q.2) fun b => PRn (sliceR s q.1 q.2 a b) fun c => PLt (put T d (.x (.c c))) fun T' => @WpS E ys l T' S (.pure :: es) Q := by
  rw [WpS_val_p (v := (slE E t).bind fun e => (size? E e).bind fun s => (evS T x).bind fun q => (loOf T lo).bind fun a => (hiOf T hi q.2).bind fun b => (sliceR s q.1 q.2 a b).map fun c => .x (.c c)) (by simp)]
  · simp only [PRn_bind, PRn_map]
  · simp only [acc, Stp.oper, sliced_eq]
    cases slE E t <;> simp
    rename_i e
    cases size? E e <;> simp
    cases evS T x <;> simp
    rename_i q
    unfold loOf hiOf
    cases lo <;> cases hi <;> simp
    · rfl
    · cases evI T _ <;> simp
      rfl
    · cases evI T _ <;> simp
      rfl
    · cases evI T _ <;> simp
      cases evI T _ <;> simp
      rfl
/-! Memory -/
theorem WpS_alloc_p : @WpS E ys (⟨none, d, .alloc t⟩ :: l) T S es Q = PRn (zero? E t) fun z => PLt (put T d (.x (.c (.ptr (some (S.n, 0)))))) fun T' => PLt (S.new ⟨z.cells, none, true⟩) fun S' => @WpS E ys l T' S' (.new :: es) Q := by
  rw [WpS_acc_p (by simp)]
  simp only [acc, Stp.oper, PRn_map]
  refine PRn_congr2 fun z => ?_
  simp [Acc.run, okEff, mayNew]
theorem WpS_box_p : @WpS E ys (⟨none, d, .box t x⟩ :: l) T S es Q = PRn (evX T x) fun v => PLt (put T d (.x (.c (.ptr (some (S.n, 0)))))) fun T' => PLt (S.new ⟨v.cells, none, true⟩) fun S' => @WpS E ys l T' S' (.new :: es) Q := by
  rw [WpS_acc_p (by simp)]
  simp only [acc, Stp.oper, PRn_map]
  refine PRn_congr2 fun z => ?_
  simp [Acc.run, okEff, mayNew]
/-- The cells of a new slice with parts. -/
def bsl (E : Env) (t : TypeId) (len : Nat) (ps : List (Nat × X)) : Option (List C × Nat) :=
  (slE E t).bind fun e => (E.ti e).bind fun i =>
    if len * i.size ≤ 2 ^ 24 ∧ 0 < i.size ∧ i.zero.cells.length = i.size then
      (fill (fun j => some (j * i.size, i.size)) (List.replicate len i.zero.cells).flatten ps).map fun cs => (cs, i.size)
    else none
theorem WpS_buildSlice_p {len : Nat} {ps : Array (Nat × Operand)} : @WpS E ys (⟨none, d, .buildSlice t len ps⟩ :: l) T S es Q = PRn (evParts T ps.toList) fun ps => PRn (bsl E t len ps) fun cs => PLt (put T d (.x (.c (.sl (some (S.n, 0)) len)))) fun T' => PLt (S.new ⟨cs.1, some cs.2, true⟩) fun S' => @WpS E ys l T' S' (.new :: es) Q := by
  rw [WpS_acc_p (by simp)]
  have : acc E (Stp.oper ⟨none, d, .buildSlice t len ps⟩) T = (evParts T ps.toList).bind fun ps => (bsl E t len ps).map fun cs => .new ⟨cs.1, some cs.2, true⟩ fun n => .c (.sl (some (n, 0)) len) := by
    simp only [acc, Stp.oper, bsl]
    cases slE E t with
    | none => cases evParts T ps.toList <;> rfl
    | some e =>
      cases evParts T ps.toList with
      | none => simp only [Option.bind_some, Option.bind_none]; cases E.ti e <;> rfl
      | some ps =>
        simp only [Option.bind_some]
        cases E.ti e with
        | none => rfl
        | some i =>
          simp only [Option.bind_some]
          split
          · cases fill _ _ _ <;> rfl
          · rfl
  rw [this, PRn_bind]
  refine PRn_congr2 fun ps => ?_
  rw [PRn_map]
  refine PRn_congr2 fun cs => ?_
  simp [Acc.run, okEff, mayNew, Stp.oper]
def mks (E : Env) (t : TypeId) (n m : Int) : Option (List C × Nat) :=
  (slE E t).bind fun e => (E.ti e).bind fun i =>
    if n = m ∧ 0 ≤ n ∧ n * i.bytes ≤ maxBytes ∧ n ≤ maxBytes ∧ 0 < i.size ∧ i.zero.cells.length = i.size then some ((List.replicate n.toNat i.zero.cells).flatten, i.size) else none
theorem WpS_makeSlice_p : @WpS E ys (⟨none, d, .makeSlice t x y⟩ :: l) T S es Q = PRn (evI T x) fun n => PRn (evI T y) fun m => PRn (mks E t n m) fun cs => PLt (put T d (.x (.c (.sl (some (S.n, 0)) n.toNat)))) fun T' => PLt (S.new ⟨cs.1, some cs.2, true⟩) fun S' => @WpS E ys l T' S' (.new :: es) Q := by
  rw [WpS_acc_p (by simp)]
  have : acc E (Stp.oper ⟨none, d, .makeSlice t x y⟩) T = (evI T x).bind fun n => (evI T y).bind fun m => (mks E t n m).map fun cs => .new ⟨cs.1, some cs.2, true⟩ fun k => .c (.sl (some (k, 0)) n.toNat) := by
    simp only [acc, Stp.oper, mks]
    cases slE E t with
    | none => cases evI T x <;> cases evI T y <;> rfl
    | some e =>
      cases evI T x with
      | none => rfl
      | some n =>
        cases evI T y with
        | none => rfl
        | some m =>
          simp only [Option.bind_some]
          cases E.ti e with
          | none => rfl
          | some i =>
            simp only [Option.bind_some]
            split <;> rfl
  rw [this, PRn_bind]
  refine PRn_congr2 fun n => ?_
  rw [PRn_bind]
  refine PRn_congr2 fun m => ?_
  rw [PRn_map]
  refine PRn_congr2 fun cs => ?_
  simp [Acc.run, okEff, mayNew, Stp.oper]
theorem WpS_load_p : @WpS E ys (⟨none, d, .load t x⟩ :: l) T S es Q = PRn (evP T x) fun p => PRn (S.h p.1) fun b => PRn (part? E t b.cs p.2) fun v => PLt (put T d (.x v)) fun T' => @WpS E ys l T' S (.load p.1 :: es) Q := by
  rw [WpS_acc_p (by simp)]
  simp only [acc, Stp.oper, PRn_map, Acc.run, Option.bind_eq_bind, PRn_bind]
  refine PRn_congr2 fun p => PRn_congr2 fun b => PRn_congr2 fun v => ?_
  simp [okEff, mayBad]
theorem WpS_store_p : @WpS E ys (⟨none, d, .store t x y⟩ :: l) T S es Q = PRn (evP T x) fun p => PRn (evX T y) fun v => PRn (size? E t) fun s => PRn (S.h p.1) fun b => PRn (if v.cells.length = s ∧ p.2 + s ≤ b.cs.length ∧ b.wr = true then some (b.cs.take p.2 ++ v.cells ++ b.cs.drop (p.2 + s)) else none) fun cs => PLt (put T d .u) fun T' => PLt (S.set p.1 { b with cs := cs }) fun S' => @WpS E ys l T' S' (.store p.1 :: es) Q := by
  rw [WpS_acc_p (by simp)]
  simp only [acc, Stp.oper, PRn_bind]
  refine PRn_congr2 fun p => PRn_congr2 fun v => PRn_congr2 fun s => ?_
  by_cases h : v.cells.length = s
  · simp only [h, if_true, PRn_some, Acc.run, Option.bind_eq_bind, PRn_bind, true_and]
    refine PRn_congr2 fun b => ?_
    by_cases h2 : p.2 + s ≤ b.cs.length <;> by_cases h3 : b.wr = true <;> simp [h2, h3, okEff, mayBad, isLoad]
  · simp only [h, if_false, PRn_none, false_and]
    cases S.h p.1 <;> simp
/-- What an append comes to. -/
def appR (s bytes : Nat) (p : Option (Nat × Nat)) (n : Nat) (q : Option (Nat × Nat)) (m : Nat) (S : St) : Option (C × St × Eff) :=
  if m = 0 then some (.sl p n, S, .pure) else (rowAt S q (m * s)).bind fun new =>
    if (n + m) * bytes ≤ maxBytes ∧ n + m ≤ maxBytes then
      match p with
      | none => if n = 0 then some (.sl (some (S.n, 0)) m, S.new ⟨new, some s, true⟩, .app none (q.map (·.1))) else none
      | some (i, o) => (S.h i).bind fun b =>
        if b.row = some s ∧ b.wr = true ∧ o = 0 ∧ b.cs.length = n * s then
          some (.sl (some (S.n, 0)) (n + m), (S.kill i).new ⟨b.cs ++ new, some s, true⟩, .app (some i) (q.map (·.1)))
        else none
    else none
/-- The element's size and bytes. -/
def apI (E : Env) (ts : Array TypeId) : Option (Nat × Nat) :=
  (ts[0]?).bind fun t => (slE E t).bind fun e => (ts[1]?).bind fun t2 => (slE E t2).bind fun _ => (E.ti e).bind fun i => if 0 < i.size ∧ i.zero.cells.length = i.size then some (i.size, i.bytes) else none
theorem WpS_append_p {as : Array Operand} {ts : Array TypeId} : @WpS E ys (⟨none, d, .call ⟨.builtin .append, as, ts⟩⟩ :: l) T S es Q = PRn (apI E ts) fun sb => PRn ((as[0]?).bind (evS T)) fun p => PRn ((as[1]?).bind (evQ T)) fun q => PRn (appR sb.1 sb.2 p.1 p.2 q.1 q.2 S) fun r => PLt (put T d (.x (.c r.1))) fun T' => PLt r.2.1 fun S' => @WpS E ys l T' S' (r.2.2 :: es) Q := by
  rw [WpS_acc_p (by simp)]
  have : acc E (Stp.oper ⟨none, d, .call ⟨.builtin .append, as, ts⟩⟩) T = (apI E ts).bind fun sb => ((as[0]?).bind (evS T)).bind fun p => ((as[1]?).bind (evQ T)).map fun q => .app sb.1 sb.2 p.1 p.2 q.1 q.2 := by
    simp only [acc, Stp.oper, apI]
    cases ts[0]? <;> simp
    rename_i t
    cases slE E t <;> simp
    rename_i e
    cases ts[1]? <;> simp
    rename_i t2
    cases slE E t2 <;> simp
    cases E.ti e <;> simp
    rename_i i
    by_cases h : 0 < i.size ∧ i.zero.cells.length = i.size
    · rw [if_pos h]
      simp only [h, and_self, if_true, Option.bind_some]
      cases as[0]? <;> simp
      rename_i x
      cases evS T x <;> simp
      cases as[1]? <;> simp
      rename_i y
      cases evQ T y <;> rfl
    · rw [if_neg h]
      simp only [h, if_false]
      cases as[0]? <;> simp
  rw [this, PRn_bind]
  refine PRn_congr2 fun sb => ?_
  rw [PRn_bind]
  refine PRn_congr2 fun p => ?_
  rw [PRn_map]
  refine PRn_congr2 fun q => ?_
  have hrun : (Acc.app sb.1 sb.2 p.1 p.2 q.1 q.2).run S = (appR sb.1 sb.2 p.1 p.2 q.1 q.2 S).map fun r => (.x (.c r.1), r.2.1, r.2.2) := by
    simp only [Acc.run, appR, Option.bind_eq_bind]
    split
    · rfl
    · cases rowAt S q.1 (q.2 * sb.1) <;> simp
      split
      · cases p.1 with
        | none => simp only; split <;> rfl
        | some io =>
          simp only
          cases S.h io.1 <;> simp
      · rfl
  rw [hrun, PRn_map]
  have hok : ∀ r, appR sb.1 sb.2 p.1 p.2 q.1 q.2 S = some r → okEff (Stp.oper ⟨none, d, .call ⟨.builtin .append, as, ts⟩⟩) r.2.2 = true := by
    intro r hr
    unfold appR at hr
    split at hr
    · cases hr; rfl
    · obtain ⟨new, _, hr⟩ := bind_some hr
      split at hr
      · split at hr
        · split at hr
          · cases hr; rfl
          · cases hr
        · obtain ⟨b, _, hr⟩ := bind_some hr
          split at hr
          · cases hr; rfl
          · cases hr
      · cases hr
  unfold PRn
  apply propext
  constructor
  · rintro ⟨r, hr, _, h⟩; exact ⟨r, hr, h⟩
  · rintro ⟨r, hr, h⟩; exact ⟨r, hr, hok r hr, h⟩
/-! Calls -/
theorem WpS_call_p {f : Operand} {as : Array Operand} {ts : Array TypeId} : @WpS E ys (⟨none, d, .call ⟨.value f, as, ts⟩⟩ :: l) T S es Q = PRn (callee? T (.value f)) fun g => PRn (evXs T as.toList) fun xs => PRn (res E ys g.1 (xs ++ g.2) S) fun r => PLt (put T d r.1) fun T' => PLt r.2.1 fun S' => @WpS E ys l T' S' (.call r.2.2 :: es) Q := by
  have : stepR E ys ⟨none, d, .call ⟨.value f, as, ts⟩⟩ T S = (callee? T (.value f)).bind fun g => (evXs T as.toList).bind fun xs => (res E ys g.1 (xs ++ g.2) S).map fun r => (r.1, r.2.1, .call r.2.2) := by
    simp only [stepR, xStep, Stp.oper, Option.bind_eq_bind]
    cases callee? T (.value f) <;> simp
    cases evXs T as.toList <;> simp
    cases res E ys _ _ S <;> rfl
  simp only [WpS, Rn_P, want, PRn_some, if_true, this, PRn_bind, PRn_map, PLt_eval]
  refine PRn_congr2 fun g => PRn_congr2 fun xs => PRn_congr2 fun r => ?_
  simp [okEff, Stp.oper, mayBad, isLoad, isCall]
/-! The same, for simp. -/
theorem WpS_guard (t : Tmp) (b : Bool) (op : Op) : @WpS E ys (⟨some (t, b), d, op⟩ :: l) T S es Q = @Rn _ (want (some (t, b)) T) ⟨fun c => @Br c ⟨@WpS E ys (⟨none, d, op⟩ :: l) T S es Q⟩ ⟨@Lt _ (put T d .n) ⟨fun T' => @WpS E ys l T' S (.pure :: es) Q⟩⟩⟩ := WpS_guard_p t b op
theorem WpS_acc {op : Op} (h : ∀ c as ts, op ≠ .call ⟨.value c, as, ts⟩) : @WpS E ys (⟨none, d, op⟩ :: l) T S es Q = @Rn _ (acc E (Stp.oper ⟨none, d, op⟩) T) ⟨fun A => @Rn _ (A.run S) ⟨fun r => okEff (Stp.oper ⟨none, d, op⟩) r.2.2 = true ∧ @Lt _ (put T d r.1) ⟨fun T' => @WpS E ys l T' r.2.1 (r.2.2 :: es) Q⟩⟩⟩ := WpS_acc_p h
theorem WpS_val {op : Op} (h : ∀ c as ts, op ≠ .call ⟨.value c, as, ts⟩) {v : Option Va} (ha : acc E (Stp.oper ⟨none, d, op⟩) T = v.map .val) : @WpS E ys (⟨none, d, op⟩ :: l) T S es Q = @Rn _ v ⟨fun v => @Lt _ (put T d v) ⟨fun T' => @WpS E ys l T' S (.pure :: es) Q⟩⟩ := WpS_val_p h ha
theorem WpS_move : @WpS E ys (⟨none, d, .move x⟩ :: l) T S es Q = @Rn _ (ev T x) ⟨fun v => @Lt _ (put T d v) ⟨fun T' => @WpS E ys l T' S (.pure :: es) Q⟩⟩ := WpS_move_p
theorem WpS_assign : @WpS E ys (⟨none, d, .assign x⟩ :: l) T S es Q = @Rn _ (ev T x) ⟨fun v => @Lt _ (put T d v) ⟨fun T' => @WpS E ys l T' S (.pure :: es) Q⟩⟩ := WpS_assign_p
theorem WpS_pick : @WpS E ys (⟨none, d, .pick c a b⟩ :: l) T S es Q = @Rn _ (evB T c) ⟨fun t => @Rn _ (Br2 t (ev T a) (ev T b)) ⟨fun v => @Lt _ (put T d v) ⟨fun T' => @WpS E ys l T' S (.pure :: es) Q⟩⟩⟩ := WpS_pick_p
theorem WpS_build {ps : Array (Nat × Operand)} : @WpS E ys (⟨none, d, .build t ps⟩ :: l) T S es Q = @Rn _ (zero? E t) ⟨fun z => @Rn _ (evParts T ps.toList) ⟨fun ps => @Rn _ (place E t) ⟨fun f => @Rn _ (fill f z.cells ps) ⟨fun cs => @Lt _ (put T d (.x (.a cs))) ⟨fun T' => @WpS E ys l T' S (.pure :: es) Q⟩⟩⟩⟩⟩ := WpS_build_p
theorem WpS_bin {op : BinOp} {p : _} : @WpS E ys (⟨none, d, .binOp op t x y p⟩ :: l) T S es Q = @Rn _ (evX T x) ⟨fun a => @Rn _ (evX T y) ⟨fun b => @Rn _ (bin E op t a b) ⟨fun v => @Lt _ (put T d (.x (.c v))) ⟨fun T' => @WpS E ys l T' S (.pure :: es) Q⟩⟩⟩⟩ := WpS_bin_p
theorem WpS_un {op : UnOp} : @WpS E ys (⟨none, d, .unOp op t x⟩ :: l) T S es Q = @Rn _ (evX T x) ⟨fun a => @Rn _ (un op a) ⟨fun v => @Lt _ (put T d (.x (.c v))) ⟨fun T' => @WpS E ys l T' S (.pure :: es) Q⟩⟩⟩ := WpS_un_p
theorem WpS_conv {s t : TypeId} : @WpS E ys (⟨none, d, .convert s t x⟩ :: l) T S es Q = @Rn _ (evX T x) ⟨fun a => @Rn _ (conv E s t a) ⟨fun v => @Lt _ (put T d (.x (.c v))) ⟨fun T' => @WpS E ys l T' S (.pure :: es) Q⟩⟩⟩ := WpS_conv_p
theorem WpS_makeFunc {f : FuncId} {fi : _} {cap : Array Operand} (hf : fi = #[]) : @WpS E ys (⟨none, d, .makeFunc (.func f) fi cap⟩ :: l) T S es Q = @Rn _ (evPs T cap.toList) ⟨fun ps => @Lt _ (put T d (.x (.c (.fn f ps)))) ⟨fun T' => @WpS E ys l T' S (.pure :: es) Q⟩⟩ := WpS_makeFunc_p hf
theorem WpS_nilCheck : @WpS E ys (⟨none, d, .nilCheck x⟩ :: l) T S es Q = @Rn _ (evP T x) ⟨fun p => @Lt _ (put T d (.x (.c (.ptr (some p))))) ⟨fun T' => @WpS E ys l T' S (.pure :: es) Q⟩⟩ := WpS_nilCheck_p
theorem WpS_fieldAddr {f : Nat} : @WpS E ys (⟨none, d, .fieldAddr t x f⟩ :: l) T S es Q = @Rn _ (faOff E t f) ⟨fun k => @Rn _ (evP T x) ⟨fun p => @Lt _ (put T d (.x (.c (.ptr (some (p.1, p.2 + k)))))) ⟨fun T' => @WpS E ys l T' S (.pure :: es) Q⟩⟩⟩ := WpS_fieldAddr_p
theorem WpS_field {f : Nat} : @WpS E ys (⟨none, d, .field t x f⟩ :: l) T S es Q = @Rn _ ((stF E t).bind fun fs => fs[f]?) ⟨fun fd => @Rn _ (evA T x) ⟨fun cs => @Rn _ (part? E fd.2 cs fd.1) ⟨fun v => @Lt _ (put T d (.x v)) ⟨fun T' => @WpS E ys l T' S (.pure :: es) Q⟩⟩⟩⟩ := WpS_field_p
theorem WpS_indexAddr : @WpS E ys (⟨none, d, .indexAddr t x y⟩ :: l) T S es Q = @Rn _ (evI T y) ⟨fun j => @Rn _ (evX T x) ⟨fun v => @Rn _ (ixP E t v j) ⟨fun p => @Lt _ (put T d (.x (.c (.ptr (some p))))) ⟨fun T' => @WpS E ys l T' S (.pure :: es) Q⟩⟩⟩⟩ := WpS_indexAddr_p
theorem WpS_index : @WpS E ys (⟨none, d, .index t x y⟩ :: l) T S es Q = @Rn _ (evI T y) ⟨fun j => @Rn _ (arE E t) ⟨fun ne => @Rn _ (size? E ne.2) ⟨fun s => @Rn _ (evA T x) ⟨fun cs => @Rn _ (if 0 ≤ j ∧ j < ne.1 then part? E ne.2 cs (j.toNat * s) else none) ⟨fun v => @Lt _ (put T d (.x v)) ⟨fun T' => @WpS E ys l T' S (.pure :: es) Q⟩⟩⟩⟩⟩⟩ := WpS_index_p
theorem WpS_extract {i : Nat} : @WpS E ys (⟨none, d, .extract x i⟩ :: l) T S es Q = @Rn _ (evT T x) ⟨fun vs => @Rn _ (vs[i]?) ⟨fun v => @Lt _ (put T d (.x v)) ⟨fun T' => @WpS E ys l T' S (.pure :: es) Q⟩⟩⟩ := WpS_extract_p
theorem WpS_len {as : Array Operand} {ts : Array TypeId} : @WpS E ys (⟨none, d, .call ⟨.builtin .len, as, ts⟩⟩ :: l) T S es Q = @Rn _ ((ts[0]?).bind (slE E)) ⟨fun _ => @Rn _ (as[0]?) ⟨fun x => @Rn _ (evL T x) ⟨fun n => @Lt _ (put T d (.x (.c (.int .i64 (n : Int))))) ⟨fun T' => @WpS E ys l T' S (.pure :: es) Q⟩⟩⟩⟩ := WpS_len_p
theorem WpS_max {as : Array Operand} {ts : Array TypeId} : @WpS E ys (⟨none, d, .call ⟨.builtin .max, as, ts⟩⟩ :: l) T S es Q = @Rn _ (evXs T as.toList) ⟨fun xs => @Rn _ (extremum maxI xs) ⟨fun v => @Lt _ (put T d (.x v)) ⟨fun T' => @WpS E ys l T' S (.pure :: es) Q⟩⟩⟩ := WpS_max_p
theorem WpS_min {as : Array Operand} {ts : Array TypeId} : @WpS E ys (⟨none, d, .call ⟨.builtin .min, as, ts⟩⟩ :: l) T S es Q = @Rn _ (evXs T as.toList) ⟨fun xs => @Rn _ (extremum minI xs) ⟨fun v => @Lt _ (put T d (.x v)) ⟨fun T' => @WpS E ys l T' S (.pure :: es) Q⟩⟩⟩ := WpS_min_p
theorem WpS_slice {lo hi : Option Operand} : @WpS E ys (⟨none, d, .slice t x lo hi none⟩ :: l) T S es Q = @Rn _ (slE E t) ⟨fun e => @Rn _ (size? E e) ⟨fun s => @Rn _ (evS T x) ⟨fun q => @Rn _ (loOf T lo) ⟨fun a => @Rn _ (hiOf T hi q.2) ⟨fun b => @Rn _ (sliceR s q.1 q.2 a b) ⟨fun c => @Lt _ (put T d (.x (.c c))) ⟨fun T' => @WpS E ys l T' S (.pure :: es) Q⟩⟩⟩⟩⟩⟩⟩ := WpS_slice_p
theorem WpS_alloc : @WpS E ys (⟨none, d, .alloc t⟩ :: l) T S es Q = @Rn _ (zero? E t) ⟨fun z => @Lt _ (put T d (.x (.c (.ptr (some (S.n, 0)))))) ⟨fun T' => @Lt _ (S.new ⟨z.cells, none, true⟩) ⟨fun S' => @WpS E ys l T' S' (.new :: es) Q⟩⟩⟩ := WpS_alloc_p
theorem WpS_box : @WpS E ys (⟨none, d, .box t x⟩ :: l) T S es Q = @Rn _ (evX T x) ⟨fun v => @Lt _ (put T d (.x (.c (.ptr (some (S.n, 0)))))) ⟨fun T' => @Lt _ (S.new ⟨v.cells, none, true⟩) ⟨fun S' => @WpS E ys l T' S' (.new :: es) Q⟩⟩⟩ := WpS_box_p
theorem WpS_buildSlice {len : Nat} {ps : Array (Nat × Operand)} : @WpS E ys (⟨none, d, .buildSlice t len ps⟩ :: l) T S es Q = @Rn _ (evParts T ps.toList) ⟨fun ps => @Rn _ (bsl E t len ps) ⟨fun cs => @Lt _ (put T d (.x (.c (.sl (some (S.n, 0)) len)))) ⟨fun T' => @Lt _ (S.new ⟨cs.1, some cs.2, true⟩) ⟨fun S' => @WpS E ys l T' S' (.new :: es) Q⟩⟩⟩⟩ := WpS_buildSlice_p
theorem WpS_makeSlice : @WpS E ys (⟨none, d, .makeSlice t x y⟩ :: l) T S es Q = @Rn _ (evI T x) ⟨fun n => @Rn _ (evI T y) ⟨fun m => @Rn _ (mks E t n m) ⟨fun cs => @Lt _ (put T d (.x (.c (.sl (some (S.n, 0)) n.toNat)))) ⟨fun T' => @Lt _ (S.new ⟨cs.1, some cs.2, true⟩) ⟨fun S' => @WpS E ys l T' S' (.new :: es) Q⟩⟩⟩⟩⟩ := WpS_makeSlice_p
theorem WpS_load : @WpS E ys (⟨none, d, .load t x⟩ :: l) T S es Q = @Rn _ (evP T x) ⟨fun p => @Rn _ (S.h p.1) ⟨fun b => @Rn _ (part? E t b.cs p.2) ⟨fun v => @Lt _ (put T d (.x v)) ⟨fun T' => @WpS E ys l T' S (.load p.1 :: es) Q⟩⟩⟩⟩ := WpS_load_p
theorem WpS_store : @WpS E ys (⟨none, d, .store t x y⟩ :: l) T S es Q = @Rn _ (evP T x) ⟨fun p => @Rn _ (evX T y) ⟨fun v => @Rn _ (size? E t) ⟨fun s => @Rn _ (S.h p.1) ⟨fun b => @Rn _ (if v.cells.length = s ∧ p.2 + s ≤ b.cs.length ∧ b.wr = true then some (b.cs.take p.2 ++ v.cells ++ b.cs.drop (p.2 + s)) else none) ⟨fun cs => @Lt _ (put T d .u) ⟨fun T' => @Lt _ (S.set p.1 { b with cs := cs }) ⟨fun S' => @WpS E ys l T' S' (.store p.1 :: es) Q⟩⟩⟩⟩⟩⟩⟩ := WpS_store_p
theorem WpS_append {as : Array Operand} {ts : Array TypeId} : @WpS E ys (⟨none, d, .call ⟨.builtin .append, as, ts⟩⟩ :: l) T S es Q = @Rn _ (apI E ts) ⟨fun sb => @Rn _ ((as[0]?).bind (evS T)) ⟨fun p => @Rn _ ((as[1]?).bind (evQ T)) ⟨fun q => @Rn _ (appR sb.1 sb.2 p.1 p.2 q.1 q.2 S) ⟨fun r => @Lt _ (put T d (.x (.c r.1))) ⟨fun T' => @Lt _ r.2.1 ⟨fun S' => @WpS E ys l T' S' (r.2.2 :: es) Q⟩⟩⟩⟩⟩⟩ := WpS_append_p
theorem WpS_call {f : Operand} {as : Array Operand} {ts : Array TypeId} : @WpS E ys (⟨none, d, .call ⟨.value f, as, ts⟩⟩ :: l) T S es Q = @Rn _ (callee? T (.value f)) ⟨fun g => @Rn _ (evXs T as.toList) ⟨fun xs => @Rn _ (res E ys g.1 (xs ++ g.2) S) ⟨fun r => @Lt _ (put T d r.1) ⟨fun T' => @Lt _ r.2.1 ⟨fun S' => @WpS E ys l T' S' (.call r.2.2 :: es) Q⟩⟩⟩⟩⟩ := WpS_call_p
end Go.V
