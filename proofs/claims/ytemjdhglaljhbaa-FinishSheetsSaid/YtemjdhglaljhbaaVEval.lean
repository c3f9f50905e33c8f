/- Walking with the evaluator: the rules by which simp reckons. -/
import Derived.Test.YtemjdhglaljhbaaVStep
namespace Go.V
variable {E : Env} {T : List Va}

/-! ### Operands -/
def xOf : Option Va → Option X
  | some (.x v) => some v
  | _ => none
def cOf : Option Va → Option C
  | some (.x (.c v)) => some v
  | _ => none
def iOf : Option Va → Option Int
  | some (.x (.c (.int _ n))) => some n
  | _ => none
def bOf : Option Va → Option Bool
  | some (.x (.c (.bool b))) => some b
  | _ => none
def pOf : Option Va → Option (Nat × Nat)
  | some (.x (.c (.ptr (some p)))) => some p
  | _ => none
def sOf : Option Va → Option (Option (Nat × Nat) × Nat)
  | some (.x (.c (.sl p n))) => some (p, n)
  | _ => none
def lenC : C → Option Nat
  | .sl _ n => some n
  | .em => some 0
  | _ => none
def rdC : C → Option (Option (Nat × Nat) × Nat)
  | .sl p n => some (p, n)
  | .em => some (none, 0)
  | _ => none
def aOf : Option Va → Option (List C)
  | some (.x (.a cs)) => some cs
  | _ => none
def tOf : Option Va → Option (List X)
  | some (.t vs) => some vs
  | _ => none
def wOf (b : Bool) : Option Va → Option Bool
  | some (.x (.c (.bool c))) => some (c == b)
  | some .n => some false
  | _ => none
@[simp] theorem xOf_x (v : X) : xOf (some (.x v)) = some v := of_eq_true (eq_self _)
@[simp] theorem cOf_x (v : C) : cOf (some (.x (.c v))) = some v := of_eq_true (eq_self _)
@[simp] theorem iOf_x (k : IntKind) (n : Int) : iOf (some (.x (.c (.int k n)))) = some n := of_eq_true (eq_self _)
@[simp] theorem bOf_x (b : Bool) : bOf (some (.x (.c (.bool b)))) = some b := of_eq_true (eq_self _)
@[simp] theorem pOf_x (p : Nat × Nat) : pOf (some (.x (.c (.ptr (some p))))) = some p := of_eq_true (eq_self _)
@[simp] theorem sOf_x (p : Option (Nat × Nat)) (n : Nat) : sOf (some (.x (.c (.sl p n)))) = some (p, n) := of_eq_true (eq_self _)
@[simp] theorem lenC_sl (p : Option (Nat × Nat)) (n : Nat) : lenC (.sl p n) = some n := of_eq_true (eq_self _)
@[simp] theorem lenC_em : lenC .em = some 0 := of_eq_true (eq_self _)
@[simp] theorem rdC_sl (p : Option (Nat × Nat)) (n : Nat) : rdC (.sl p n) = some (p, n) := of_eq_true (eq_self _)
@[simp] theorem rdC_em : rdC .em = some (none, 0) := of_eq_true (eq_self _)
@[simp] theorem aOf_x (cs : List C) : aOf (some (.x (.a cs))) = some cs := of_eq_true (eq_self _)
@[simp] theorem tOf_t (vs : List X) : tOf (some (.t vs)) = some vs := of_eq_true (eq_self _)
@[simp] theorem wOf_b (b c : Bool) : wOf b (some (.x (.c (.bool c)))) = some (c == b) := of_eq_true (eq_self _)
@[simp] theorem wOf_n (b : Bool) : wOf b (some .n) = some false := of_eq_true (eq_self _)
@[simp] theorem want_some (t : Tmp) (b : Bool) : want (some (t, b)) T = wOf b (T[t]?) := by
  show (match T[t]? with | some (.x (.c (.bool c))) => some (c == b) | some .n => some false | _ => none) = wOf b (T[t]?)
  cases T[t]? with
  | none => rfl
  | some v => cases v with
    | x v => cases v with
      | c v => cases v <;> rfl
      | a v => rfl
    | _ => rfl
@[simp] theorem ev_tmp (t : Tmp) : ev T (.tmp t) = T[t]? := of_eq_true (eq_self _)
@[simp] theorem ev_int (k : IntKind) (n : Int) : ev T (.const (.int k n)) = some (.x (.c (.int k n))) := of_eq_true (eq_self _)
@[simp] theorem ev_bool (b : Bool) : ev T (.const (.bool b)) = some (.x (.c (.bool b))) := of_eq_true (eq_self _)
@[simp] theorem ev_func (f : FuncId) : ev T (.func f) = some (.x (.c (.fn f []))) := of_eq_true (eq_self _)
@[simp] theorem evX_tmp (t : Tmp) : evX T (.tmp t) = xOf (T[t]?) := by
  unfold evX xOf ev; rfl
@[simp] theorem evX_int (k : IntKind) (n : Int) : evX T (.const (.int k n)) = some (.c (.int k n)) := of_eq_true (eq_self _)
@[simp] theorem evX_bool (b : Bool) : evX T (.const (.bool b)) = some (.c (.bool b)) := of_eq_true (eq_self _)
@[simp] theorem evX_func (f : FuncId) : evX T (.func f) = some (.c (.fn f [])) := of_eq_true (eq_self _)
@[simp] theorem evX_str (s : ByteArray) : evX T (.const (.string s)) = some (.c (.str s)) := of_eq_true (eq_self _)
@[simp] theorem evX_slnil : evX T (.const (.slice none 0 0)) = some (.c (.sl none 0)) := of_eq_true (eq_self _)
@[simp] theorem ev_slnil : ev T (.const (.slice none 0 0)) = some (.x (.c (.sl none 0))) := of_eq_true (eq_self _)
@[simp] theorem evI_tmp (t : Tmp) : evI T (.tmp t) = iOf (T[t]?) := by
  unfold evI; rw [evX_tmp]
  cases T[t]? with
  | none => rfl
  | some v => cases v with
    | x v => cases v with
      | c v => cases v <;> rfl
      | a v => rfl
    | _ => rfl
@[simp] theorem evI_int (k : IntKind) (n : Int) : evI T (.const (.int k n)) = some n := of_eq_true (eq_self _)
@[simp] theorem evB_tmp (t : Tmp) : evB T (.tmp t) = bOf (T[t]?) := by
  unfold evB; rw [evX_tmp]
  cases T[t]? with
  | none => rfl
  | some v => cases v with
    | x v => cases v with
      | c v => cases v <;> rfl
      | a v => rfl
    | _ => rfl
@[simp] theorem evB_bool (b : Bool) : evB T (.const (.bool b)) = some b := of_eq_true (eq_self _)
@[simp] theorem evP_tmp (t : Tmp) : evP T (.tmp t) = pOf (T[t]?) := by
  unfold evP; rw [evX_tmp]
  cases T[t]? with
  | none => rfl
  | some v => cases v with
    | x v => cases v with
      | c v => cases v with
        | ptr p => cases p <;> rfl
        | _ => rfl
      | a v => rfl
    | _ => rfl
@[simp] theorem evS_tmp (t : Tmp) : evS T (.tmp t) = sOf (T[t]?) := by
  unfold evS; rw [evX_tmp]
  cases T[t]? with
  | none => rfl
  | some v => cases v with
    | x v => cases v with
      | c v => cases v <;> rfl
      | a v => rfl
    | _ => rfl
@[simp] theorem evL_tmp (t : Tmp) : evL T (.tmp t) = (cOf (T[t]?)).bind lenC := by
  unfold evL; rw [evX_tmp]
  cases T[t]? with
  | none => rfl
  | some v => cases v with
    | x v => cases v with
      | c v => cases v <;> rfl
      | a v => rfl
    | _ => rfl
@[simp] theorem evQ_tmp (t : Tmp) : evQ T (.tmp t) = (cOf (T[t]?)).bind rdC := by
  unfold evQ; rw [evX_tmp]
  cases T[t]? with
  | none => rfl
  | some v => cases v with
    | x v => cases v with
      | c v => cases v <;> rfl
      | a v => rfl
    | _ => rfl
@[simp] theorem evA_tmp (t : Tmp) : evA T (.tmp t) = aOf (T[t]?) := by
  unfold evA; rw [evX_tmp]
  cases T[t]? with
  | none => rfl
  | some v => cases v with
    | x v => cases v with
      | c v => cases v <;> rfl
      | a v => rfl
    | _ => rfl
@[simp] theorem evT_tmp (t : Tmp) : evT T (.tmp t) = tOf (T[t]?) := by
  unfold evT; rw [ev_tmp]
  cases T[t]? with
  | none => rfl
  | some v => cases v <;> rfl
@[simp] theorem evParts_nil : evParts T [] = some [] := of_eq_true (eq_self _)
@[simp] theorem evParts_cons (i : Nat) (x : Operand) (r : List (Nat × Operand)) : evParts T ((i, x) :: r) = (evX T x).bind fun v => (evParts T r).map fun l => (i, v) :: l := of_eq_true (eq_self _)
@[simp] theorem evXs_nil : evXs T [] = some [] := of_eq_true (eq_self _)
@[simp] theorem evXs_cons (x : Operand) (r : List Operand) : evXs T (x :: r) = (evX T x).bind fun v => (evXs T r).map fun l => v :: l := of_eq_true (eq_self _)
@[simp] theorem evPs_nil : evPs T [] = some [] := of_eq_true (eq_self _)
@[simp] theorem evPs_cons (x : Operand) (r : List Operand) : evPs T (x :: r) = (evP T x).bind fun v => (evPs T r).map fun l => v :: l := of_eq_true (eq_self _)
@[simp] theorem put_some (d : Tmp) (v : Va) : put T (some d) v = T.set d v := of_eq_true (eq_self _)
@[simp] theorem put_none (v : Va) : put T none v = T := of_eq_true (eq_self _)
def fnOf : Option Va → Option (Fun × List X)
  | some (.x (.c (.fn g caps))) => some (.f g, caps.map fun p => .c (.ptr (some p)))
  | some (.x (.c (.yl i))) => some (.y i, [])
  | _ => none
@[simp] theorem fnOf_fn (g : FuncId) (caps : List (Nat × Nat)) : fnOf (some (.x (.c (.fn g caps)))) = some (.f g, caps.map fun p => .c (.ptr (some p))) := of_eq_true (eq_self _)
@[simp] theorem fnOf_yl (i : Nat) : fnOf (some (.x (.c (.yl i)))) = some (.y i, []) := of_eq_true (eq_self _)
@[simp] theorem callee_func (f : FuncId) : callee? T (.value (.func f)) = some (.f f, []) := of_eq_true (eq_self _)
@[simp] theorem callee_tmp (t : Tmp) : callee? T (.value (.tmp t)) = fnOf (T[t]?) := by
  show (match evX T (.tmp t) with | some (.c (.fn g caps)) => some (Fun.f g, caps.map fun p => X.c (.ptr (some p))) | some (.c (.yl i)) => some (.y i, []) | _ => none) = _
  rw [evX_tmp]
  cases T[t]? with
  | none => rfl
  | some v => cases v with
    | x v => cases v with
      | c v => cases v <;> rfl
      | a v => rfl
    | _ => rfl
@[simp] theorem loOf_none : loOf T none = some 0 := of_eq_true (eq_self _)
@[simp] theorem loOf_some (y : Operand) : loOf T (some y) = evI T y := of_eq_true (eq_self _)
@[simp] theorem hiOf_none (n : Nat) : hiOf T none n = some (n : Int) := of_eq_true (eq_self _)
@[simp] theorem hiOf_some (y : Operand) (n : Nat) : hiOf T (some y) n = evI T y := of_eq_true (eq_self _)

/-! ### Numbers -/
section
variable (k : IntKind) (a b : Int) (t : TypeId)
@[simp] theorem bin_add : bin E .add t (.c (.int k a)) (.c (.int k b)) = some (.int k (k.wrap (a + b))) := by simp [bin, intOp, arith]
@[simp] theorem bin_sub : bin E .sub t (.c (.int k a)) (.c (.int k b)) = some (.int k (k.wrap (a - b))) := by simp [bin, intOp, arith]
@[simp] theorem bin_mul : bin E .mul t (.c (.int k a)) (.c (.int k b)) = some (.int k (k.wrap (a * b))) := by simp [bin, intOp, arith]
theorem bin_quo (h : b ≠ 0) : bin E .quo t (.c (.int k a)) (.c (.int k b)) = some (.int k (k.wrap (a.tdiv b))) := by simp [bin, intOp, arith, h]
theorem bin_rem (h : b ≠ 0) : bin E .rem t (.c (.int k a)) (.c (.int k b)) = some (.int k (a.tmod b)) := by simp [bin, intOp, arith, h]
@[simp] theorem bin_and : bin E .and t (.c (.int k a)) (.c (.int k b)) = some (.int k (k.wrap (BitVec.ofInt k.bits a &&& BitVec.ofInt k.bits b).toNat)) := by simp [bin, intOp, arith]
@[simp] theorem bin_or : bin E .or t (.c (.int k a)) (.c (.int k b)) = some (.int k (k.wrap (BitVec.ofInt k.bits a ||| BitVec.ofInt k.bits b).toNat)) := by simp [bin, intOp, arith]
@[simp] theorem bin_xor : bin E .xor t (.c (.int k a)) (.c (.int k b)) = some (.int k (k.wrap (BitVec.ofInt k.bits a ^^^ BitVec.ofInt k.bits b).toNat)) := by simp [bin, intOp, arith]
@[simp] theorem bin_eql : bin E .eql t (.c (.int k a)) (.c (.int k b)) = some (.bool (decide (a = b))) := by
  simp only [bin, intOp, arith, if_true]
  by_cases h : a = b <;> simp [h]
@[simp] theorem bin_neq : bin E .neq t (.c (.int k a)) (.c (.int k b)) = some (.bool (!decide (a = b))) := by
  simp only [bin, intOp, arith, if_true, bne]
  by_cases h : a = b <;> simp [h]
@[simp] theorem bin_lss : bin E .lss t (.c (.int k a)) (.c (.int k b)) = some (.bool (decide (a < b))) := by simp [bin, intOp, arith]
@[simp] theorem bin_leq : bin E .leq t (.c (.int k a)) (.c (.int k b)) = some (.bool (decide (a ≤ b))) := by simp [bin, intOp, arith]
@[simp] theorem bin_gtr : bin E .gtr t (.c (.int k a)) (.c (.int k b)) = some (.bool (decide (b < a))) := by simp [bin, intOp, arith]
@[simp] theorem bin_geq : bin E .geq t (.c (.int k a)) (.c (.int k b)) = some (.bool (decide (b ≤ a))) := by simp [bin, intOp, arith]
theorem int_beq (a b : Int) : (a == b) = decide (a = b) := by by_cases h : a = b <;> simp [h]
theorem bool_beq (a b : Bool) : (a == b) = decide (a = b) := by cases a <;> cases b <;> rfl
theorem bin_shl {k' : IntKind} (h : 0 ≤ b) : bin E .shl t (.c (.int k a)) (.c (.int k' b)) = some (.int k (k.wrap (a * 2 ^ min b.toNat k.bits))) := by
  have : ¬ b < 0 := by omega
  simp [bin, intOp, shift, this]
theorem bin_shr {k' : IntKind} (h : 0 ≤ b) : bin E .shr t (.c (.int k a)) (.c (.int k' b)) = some (.int k (a.fdiv (2 ^ min b.toNat k.bits))) := by
  have : ¬ b < 0 := by omega
  simp [bin, intOp, shift, this]
theorem bin_beq (h : E.sh t = some .bool) (a b : Bool) : bin E .eql t (.c (.bool a)) (.c (.bool b)) = some (.bool (a == b)) := by simp [bin, h, eqOut]
theorem bin_bne (h : E.sh t = some .bool) (a b : Bool) : bin E .neq t (.c (.bool a)) (.c (.bool b)) = some (.bool (!(a == b))) := by simp [bin, h, eqOut]
@[simp] theorem un_neg : un .neg (.c (.int k a)) = some (.int k (k.wrap (0 - a))) := of_eq_true (eq_self _)
@[simp] theorem un_not (b : Bool) : un .not (.c (.bool b)) = some (.bool (!b)) := of_eq_true (eq_self _)
theorem conv_int {s d : TypeId} {k1 k2 : IntKind} (h1 : E.sh s = some (.int k1)) (h2 : E.sh d = some (.int k2)) : conv E s d (.c (.int k a)) = some (.int k2 (k2.wrap a)) := by simp [conv, h1, h2]
theorem maxI_eq : maxI a b = max a b := by unfold maxI; omega
theorem minI_eq : minI a b = min a b := by unfold minI; omega
@[simp] theorem ext_max2 (k : IntKind) (a b : Int) : extremum maxI [.c (.int k a), .c (.int k b)] = some (.c (.int k (max a b))) := by simp [extremum, foldI, maxI_eq]
@[simp] theorem ext_min2 (k : IntKind) (a b : Int) : extremum minI [.c (.int k a), .c (.int k b)] = some (.c (.int k (min a b))) := by simp [extremum, foldI, minI_eq]
@[simp] theorem ext_max3 (k : IntKind) (a b c : Int) : extremum maxI [.c (.int k a), .c (.int k b), .c (.int k c)] = some (.c (.int k (max (max a b) c))) := by simp [extremum, foldI, maxI_eq]
@[simp] theorem ext_min3 (k : IntKind) (a b c : Int) : extremum minI [.c (.int k a), .c (.int k b), .c (.int k c)] = some (.c (.int k (min (min a b) c))) := by simp [extremum, foldI, minI_eq]
theorem wrap64 (h1 : -9223372036854775808 ≤ a) (h2 : a ≤ 9223372036854775807) : IntKind.wrap .i64 a = a := by
  have hb : IntKind.bits .i64 = 64 := rfl
  have hs : IntKind.signed .i64 = true := rfl
  unfold IntKind.wrap
  simp only [hb, hs]
  simp only [Bool.true_and, decide_eq_true_eq]
  split <;> omega
end

/-- Temporaries of this pattern, whatever stands where the pattern says J. -/
def Jk (p : (Nat → Va) → List Va) (T : List Va) : Prop := ∃ J, T = p J
theorem Jk_mk {p : (Nat → Va) → List Va} {T : List Va} (h : p (fun n => (T[n]?).getD .u) = T) : Jk p T := ⟨_, h.symm⟩
/-! ### Long lists of temporaries, in great strides -/
@[simp high] theorem get8 (a0 a1 a2 a3 a4 a5 a6 a7 : Va) (l : List Va) (n : Nat) : (a0 :: a1 :: a2 :: a3 :: a4 :: a5 :: a6 :: a7 :: l)[n + 8]? = l[n]? := by simp
@[simp high] theorem set8 (a0 a1 a2 a3 a4 a5 a6 a7 : Va) (l : List Va) (n : Nat) (v : Va) : (a0 :: a1 :: a2 :: a3 :: a4 :: a5 :: a6 :: a7 :: l).set (n + 8) v = a0 :: a1 :: a2 :: a3 :: a4 :: a5 :: a6 :: a7 :: l.set n v := by simp
@[simp high] theorem get32 (a0 a1 a2 a3 a4 a5 a6 a7 a8 a9 a10 a11 a12 a13 a14 a15 a16 a17 a18 a19 a20 a21 a22 a23 a24 a25 a26 a27 a28 a29 a30 a31 : Va) (l : List Va) (n : Nat) : (a0 :: a1 :: a2 :: a3 :: a4 :: a5 :: a6 :: a7 :: a8 :: a9 :: a10 :: a11 :: a12 :: a13 :: a14 :: a15 :: a16 :: a17 :: a18 :: a19 :: a20 :: a21 :: a22 :: a23 :: a24 :: a25 :: a26 :: a27 :: a28 :: a29 :: a30 :: a31 :: l)[n + 32]? = l[n]? := by simp
@[simp high] theorem set32 (a0 a1 a2 a3 a4 a5 a6 a7 a8 a9 a10 a11 a12 a13 a14 a15 a16 a17 a18 a19 a20 a21 a22 a23 a24 a25 a26 a27 a28 a29 a30 a31 : Va) (l : List Va) (n : Nat) (v : Va) : (a0 :: a1 :: a2 :: a3 :: a4 :: a5 :: a6 :: a7 :: a8 :: a9 :: a10 :: a11 :: a12 :: a13 :: a14 :: a15 :: a16 :: a17 :: a18 :: a19 :: a20 :: a21 :: a22 :: a23 :: a24 :: a25 :: a26 :: a27 :: a28 :: a29 :: a30 :: a31 :: l).set (n + 32) v = a0 :: a1 :: a2 :: a3 :: a4 :: a5 :: a6 :: a7 :: a8 :: a9 :: a10 :: a11 :: a12 :: a13 :: a14 :: a15 :: a16 :: a17 :: a18 :: a19 :: a20 :: a21 :: a22 :: a23 :: a24 :: a25 :: a26 :: a27 :: a28 :: a29 :: a30 :: a31 :: l.set n v := by simp
/-! ### Memory -/
/-- A state with new blocks behind it. -/
def ext (R : St) (l : List (Option Blk)) : St := { n := R.n + l.length, h := fun j => if j < R.n then R.h j else match l[j - R.n]? with | some b => b | none => R.h j, lo := R.lo }
theorem ext_nil (R : St) : ext R [] = R := by
  unfold ext
  simp
theorem ext_new (R : St) (l : List (Option Blk)) (b : Blk) : (ext R l).new b = ext R (l ++ [some b]) := by
  unfold ext St.new
  simp only [List.length_append, List.length_cons, List.length_nil, Nat.zero_add, Nat.add_assoc, St.mk.injEq, true_and, and_true]
  funext j
  by_cases h1 : j < R.n
  · have : j ≠ R.n + l.length := by omega
    simp [h1, this]
  · by_cases h2 : j = R.n + l.length
    · subst h2
      rw [if_pos rfl, if_neg h1]
      simp
    · simp only [h2, h1, if_false]
      by_cases h3 : j - R.n < l.length
      · rw [List.getElem?_append_left h3]
      · rw [List.getElem?_eq_none (by omega), List.getElem?_eq_none (by simp; omega)]
theorem ext_n (R : St) (l : List (Option Blk)) : (ext R l).n = R.n + l.length := of_eq_true (eq_self _)
theorem ext_lo (R : St) (l : List (Option Blk)) : (ext R l).lo = R.lo := of_eq_true (eq_self _)
theorem ext_old {R : St} {l : List (Option Blk)} {i : Nat} (h : i < R.n) : (ext R l).h i = R.h i := by simp [ext, h]
def orOld (o : Option (Option Blk)) (r : Option Blk) : Option Blk := match o with | some b => b | none => r
@[simp] theorem orOld_some (b r : Option Blk) : orOld (some b) r = b := of_eq_true (eq_self _)
theorem ext_at (R : St) (l : List (Option Blk)) (k : Nat) : (ext R l).h (R.n + k) = orOld l[k]? (R.h (R.n + k)) := by
  have : ¬ R.n + k < R.n := by omega
  simp only [ext, orOld, if_neg this, Nat.add_sub_cancel_left]
theorem ext_at0 (R : St) (l : List (Option Blk)) : (ext R l).h R.n = orOld l[0]? (R.h R.n) := by
  simp [ext, orOld]
theorem ext_set (R : St) (l : List (Option Blk)) (k : Nat) (b : Blk) (hk : k < l.length) (hlo : R.lo ≤ R.n) : (ext R l).set (R.n + k) b = ext R (l.set k (some b)) := by
  unfold ext St.set
  simp only [List.length_set, St.mk.injEq, true_and]
  refine ⟨?_, by omega⟩
  funext j
  by_cases h1 : j < R.n
  · have : j ≠ R.n + k := by omega
    simp [h1, this]
  · by_cases h2 : j = R.n + k
    · subst h2
      rw [if_pos rfl, if_neg h1]
      simp [hk]
    · simp only [h2, h1, if_false]
      rw [List.getElem?_set_ne (by omega)]
theorem ext_set0 (R : St) (l : List (Option Blk)) (b : Blk) (hk : 0 < l.length) (hlo : R.lo ≤ R.n) : (ext R l).set R.n b = ext R (l.set 0 (some b)) := ext_set R l 0 b hk hlo
theorem ext_set_old (R : St) (l : List (Option Blk)) (i : Nat) (b : Blk) (hi : i < R.n) : (ext R l).set i b = ext (R.set i b) l := by
  unfold ext St.set
  simp only [St.mk.injEq, and_true, true_and]
  funext j
  by_cases h1 : j = i
  · subst h1
    simp [hi]
  · simp [h1]
theorem ext_kill (R : St) (l : List (Option Blk)) (k : Nat) (hk : k < l.length) (hlo : R.lo ≤ R.n) : (ext R l).kill (R.n + k) = ext R (l.set k none) := by
  unfold ext St.kill
  simp only [List.length_set, St.mk.injEq, true_and]
  refine ⟨?_, by omega⟩
  funext j
  by_cases h1 : j < R.n
  · have : j ≠ R.n + k := by omega
    simp [h1, this]
  · by_cases h2 : j = R.n + k
    · subst h2
      rw [if_pos rfl, if_neg h1]
      simp [hk]
    · simp only [h2, h1, if_false]
      rw [List.getElem?_set_ne (by omega)]
theorem ext_kill0 (R : St) (l : List (Option Blk)) (hk : 0 < l.length) (hlo : R.lo ≤ R.n) : (ext R l).kill R.n = ext R (l.set 0 none) := ext_kill R l 0 hk hlo
theorem ext_kill_old (R : St) (l : List (Option Blk)) (i : Nat) (hi : i < R.n) : (ext R l).kill i = ext (R.kill i) l := by
  unfold ext St.kill
  simp only [St.mk.injEq, and_true, true_and]
  funext j
  by_cases h1 : j = i
  · subst h1
    simp [hi]
  · simp [h1]
theorem set_n (S : St) (i : Nat) (b : Blk) : (S.set i b).n = S.n := of_eq_true (eq_self _)
theorem set_lo (S : St) (i : Nat) (b : Blk) : (S.set i b).lo = min S.lo i := of_eq_true (eq_self _)
theorem set_at (S : St) (i : Nat) (b : Blk) : (S.set i b).h i = some b := by simp [St.set]
theorem set_ne (S : St) (i j : Nat) (b : Blk) (h : j ≠ i) : (S.set i b).h j = S.h j := by simp [St.set, h]
theorem kill_n (S : St) (i : Nat) : (S.kill i).n = S.n := of_eq_true (eq_self _)
theorem kill_lo (S : St) (i : Nat) : (S.kill i).lo = min S.lo i := of_eq_true (eq_self _)
theorem kill_ne (S : St) (i j : Nat) (h : j ≠ i) : (S.kill i).h j = S.h j := by simp [St.kill, h]
theorem set_set (S : St) (i : Nat) (b b' : Blk) : (S.set i b).set i b' = S.set i b' := by
  unfold St.set
  simp only [St.mk.injEq, true_and]
  refine ⟨?_, by omega⟩
  funext j
  by_cases h : j = i <;> simp [h]

/-! ### Code -/
section
variable {f : FuncId} {ys : Yls} {rnd : Bool} {S : St} {Q : Ex → List Va → St → Prop} {a b : Sk}
theorem Wp_seq {Q : KQ} : @Wp E f ys rnd (.seq a b) T S Q = @Wp E f ys rnd a T S ⟨fun e T' S' => match e with
    | .nx => @Wp E f ys rnd b T' S' Q
    | e => Q.run e T' S'⟩ := of_eq_true (eq_self _)
theorem Wp_cond {Q : KQ} {c : Operand} : @Wp E f ys rnd (.cond c a b) T S Q = @Rn _ (evB T c) ⟨fun t => @Br t ⟨@Wp E f ys rnd a T S Q⟩ ⟨@Wp E f ys rnd b T S Q⟩⟩ := of_eq_true (eq_self _)
theorem Wp_block {id : Nat} : @Wp E f ys rnd (.block id a) T S ⟨Q⟩ = @Wp E f ys rnd a T S ⟨fun e T' S' => match e with
    | .ex id' => Q (if id' = id then .nx else .ex id') T' S'
    | e => Q e T' S'⟩ := of_eq_true (eq_self _)
theorem Wp_skip : @Wp E f ys rnd .skip T S ⟨Q⟩ = Q .nx T S := of_eq_true (eq_self _)
theorem Wp_exit {id : Nat} : @Wp E f ys rnd (.exit id) T S ⟨Q⟩ = Q (.ex id) T S := of_eq_true (eq_self _)
theorem Wp_ret : @Wp E f ys rnd .ret T S ⟨Q⟩ = Q .rt T S := of_eq_true (eq_self _)
theorem Wp_reg {id : Nat} {draw : Bool} {l : List Stp} :
    @Wp E f ys rnd (.reg id draw l) T S ⟨Q⟩ = @WpS E ys l T S [] ⟨fun T' S' es => (draw = true → fine (E.cd f id) es = true) ∧ Q .nx T' S'⟩ := of_eq_true (eq_self _)
end
@[simp] theorem fine_nil (es : List Eff) : fine [] es = true := of_eq_true (eq_self _)
theorem fine_cons (i j : Nat) (l : List (Nat × Nat)) (es : List Eff) : fine ((i, j) :: l) es = (!(Eff.bad (es.getD i .pure) (es.getD j .pure)) && fine l es) := of_eq_true (eq_self _)
attribute [simp] fine_cons Eff.bad
section
variable {rs : List ResultVar} {S S' : St} {Q : Va → St → Bool → Prop}
theorem exitQ_rt : exitQ E rs S Q .rt T S' = @Rn _ (resR E T S' rs) ⟨fun vs => @Lt _ (tidy S S' vs) ⟨fun t => Q (outV t.1) t.2.1 t.2.2⟩⟩ := of_eq_true (eq_self _)
theorem exitQ_nx : exitQ E rs S Q .nx T S' = @Rn _ (resR E T S' rs) ⟨fun vs => @Lt _ (tidy S S' vs) ⟨fun t => Q (outV t.1) t.2.1 t.2.2⟩⟩ := of_eq_true (eq_self _)
@[simp] theorem outV_one (v : X) : outV [v] = .x v := of_eq_true (eq_self _)
@[simp] theorem outV_nil : outV [] = .t [] := of_eq_true (eq_self _)
@[simp] theorem outV_more (v u : X) (l : List X) : outV (v :: u :: l) = .t (v :: u :: l) := of_eq_true (eq_self _)
@[simp] theorem resR_nil : resR E T S [] = some [] := of_eq_true (eq_self _)
@[simp] theorem resR_tmp (t : Tmp) (l : List ResultVar) : resR E T S (.tmp t :: l) = (xOf (T[t]?)).bind fun x => (resR E T S l).map fun xs => x :: xs := by
  simp only [resR, resOf]
  cases T[t]? with
  | none => rfl
  | some v => cases v <;> rfl
@[simp] theorem resR_cell (a : Tmp) (t : TypeId) (l : List ResultVar) : resR E T S (.cell a t :: l) = (pOf (T[a]?)).bind fun p => (S.h p.1).bind fun b => (part? E t b.cs p.2).bind fun x => (resR E T S l).map fun xs => x :: xs := by
  simp only [resR, resOf]
  cases T[a]? with
  | none => rfl
  | some v => cases v with
    | x v => cases v with
      | c v => cases v with
        | ptr p => cases p with
          | none => rfl
          | some p =>
            simp only [toPtr, Option.bind_eq_bind, Option.bind_some, pOf_x, Option.bind_assoc]
        | _ => rfl
      | a v => rfl
    | _ => rfl
end
/-! ### Behind a call -/
def oldX (n : Nat) : List X → Bool
  | [] => true
  | x :: l => x.cells.all (C.old n) && oldX n l
theorem keep_old {n : Nat} {S' : St} : ∀ {cs : List C} {m : Nat} {h : Nat → Option Blk}, cs.all (C.old n) = true → keep n S' cs m h = some (cs, m, h)
  | [], m, h, _ => rfl
  | c :: l, m, h, ho => by
    simp only [List.all_cons, Bool.and_eq_true] at ho
    simp only [keep, ho.1, if_true, Option.bind_eq_bind, keep_old ho.2, Option.bind_some]
theorem keepX_old {n : Nat} {S' : St} : ∀ {xs : List X} {m : Nat} {h : Nat → Option Blk}, oldX n xs = true → keepX n S' xs m h = some (xs, m, h)
  | [], m, h, _ => rfl
  | .c x :: l, m, h, ho => by
    simp only [oldX, X.cells, Bool.and_eq_true] at ho
    simp only [keepX, Option.bind_eq_bind, keep_old ho.1, Option.bind_some, keepX_old ho.2, List.headD_cons]
  | .a cs :: l, m, h, ho => by
    simp only [oldX, X.cells, Bool.and_eq_true] at ho
    simp only [keepX, Option.bind_eq_bind, keep_old ho.1, Option.bind_some, keepX_old ho.2]
theorem newId_old {n : Nat} {c : C} (h : c.old n = true) : newId n c = none := by
  unfold newId
  split
  · rename_i i o len
    simp only [C.old, decide_eq_true_eq] at h
    rw [if_neg (by omega)]
  · rfl
theorem newIds_old {n : Nat} : ∀ {xs : List X}, oldX n xs = true → newIds n xs = []
  | [], _ => rfl
  | x :: l, h => by
    simp only [oldX, Bool.and_eq_true] at h
    simp only [newIds, newIds_old h.2, List.append_nil]
    rw [List.filterMap_eq_nil_iff]
    intro c hc
    exact newId_old (List.all_eq_true.1 h.1 c hc)
theorem tidy_old {S S' : St} {vs : List X} (hlo : S.n ≤ S'.lo) (ho : oldX S.n vs = true) : tidy S S' vs = (vs, S, true) := by
  unfold tidy
  rw [if_pos hlo, newIds_old ho, if_pos List.nodup_nil, keepX_old ho]
theorem tidy_out {S S' : St} {vs : List X} (hlo : S'.lo < S.n) : tidy S S' vs = (vs, { S' with lo := min S.lo S'.lo }, false) := by
  unfold tidy
  rw [if_neg (by omega)]
attribute [simp ↓] Wp_seq Wp_cond Wp_block Wp_skip Wp_exit Wp_ret Wp_reg exitQ_rt exitQ_nx WpS_nil WpS_guard WpS_move WpS_assign WpS_pick WpS_build WpS_bin WpS_un WpS_conv WpS_makeFunc WpS_nilCheck WpS_fieldAddr WpS_field WpS_indexAddr WpS_index WpS_extract WpS_len WpS_max WpS_min WpS_slice WpS_alloc WpS_box WpS_buildSlice WpS_makeSlice WpS_load WpS_store WpS_append WpS_call
attribute [simp] ext_new ext_n ext_lo ext_at ext_at0 ext_set ext_set0 ext_old ext_set_old ext_kill ext_kill0 ext_kill_old kill_n kill_lo set_n set_lo set_at tidy_old oldX C.old
/-- Behind a call that answers an aggregate whose last cell is a new row. -/
theorem tidy_row {S S' : St} {pre : List C} {i n : Nat} {b : Blk} (hlo : S.n ≤ S'.lo) (hp : pre.all (C.old S.n) = true) (hi : S.n ≤ i) (hb : S'.h i = some b) (hf : b.cs.all C.flat = true) (hr : b.row.isSome = true) (hw : b.wr = true) :
    tidy S S' [.a (pre ++ [.sl (some (i, 0)) n])] = ([.a (pre ++ [.sl (some (S.n, 0)) n])], S.new b, true) := by
  have hid : (newIds S.n [X.a (pre ++ [.sl (some (i, 0)) n])]) = [i] := by
    simp only [newIds, X.cells, List.filterMap_append, List.append_nil]
    rw [List.filterMap_eq_nil_iff.2 (fun c hc => newId_old (List.all_eq_true.1 hp c hc))]
    simp [newId, hi]
  have hk : ∀ (pre : List C) (m : Nat) (h : Nat → Option Blk), pre.all (C.old S.n) = true → keep S.n S' (pre ++ [.sl (some (i, 0)) n]) m h = some (pre ++ [.sl (some (m, 0)) n], m + 1, fun j => if j = m then some b else h j) := by
    intro pre
    induction pre with
    | nil =>
      intro m h _
      have : ¬ i < S.n := by omega
      simp [keep, C.old, this, hb, hr, hw]
      simpa using hf
    | cons c l ih =>
      intro m h ho
      simp only [List.all_cons, Bool.and_eq_true] at ho
      simp only [List.cons_append, keep, ho.1, if_true, Option.bind_eq_bind, ih m h ho.2, Option.bind_some]
  unfold tidy
  rw [if_pos hlo, hid, if_pos (by simp)]
  simp only [keepX, hk pre _ _ hp, Option.bind_eq_bind, Option.bind_some]
  rfl
theorem tidy_row2 {S S' : St} {cs : List C} (pre : List C) (i n : Nat) (b : Blk) (hcs : cs = pre ++ [.sl (some (i, 0)) n]) (hlo : S.n ≤ S'.lo) (hp : pre.all (C.old S.n) = true) (hi : S.n ≤ i) (hb : S'.h i = some b) (hf : b.cs.all C.flat = true) (hr : b.row.isSome = true) (hw : b.wr = true) :
    tidy S S' [.a cs] = ([.a (pre ++ [.sl (some (S.n, 0)) n])], S.new b, true) := by
  subst hcs
  exact tidy_row hlo hp hi hb hf hr hw
theorem tidy_one {S S' : St} (i n : Nat) (b : Blk) (hlo : S.n ≤ S'.lo) (hi : S.n ≤ i) (hb : S'.h i = some b) (hf : b.cs.all C.flat = true) (hr : b.row.isSome = true) (hw : b.wr = true) :
    tidy S S' [.c (.sl (some (i, 0)) n)] = ([.c (.sl (some (S.n, 0)) n)], S.new b, true) := by
  have : ¬ i < S.n := by omega
  unfold tidy
  rw [if_pos hlo]
  simp only [newIds, X.cells, List.filterMap_cons, newId, hi, if_true, List.filterMap_nil, List.append_nil]
  rw [if_pos (by simp)]
  simp only [keepX, keep, C.old, this, decide_false, Bool.false_eq_true, if_false, hb, Option.bind_eq_bind, Option.bind_some, hf, hr, hw, and_self, if_true, List.headD_cons]
  rfl
/-! ### Facts of types -/
theorem part_agg {t : TypeId} {s : Nat} (h : size? E t = some s) (ha : agg? E t = some true) {cs : List C} {o : Nat} : part? E t cs o = if o + s ≤ cs.length then some (.a ((cs.drop o).take s)) else none := by
  simp [part?, h, ha]
theorem part_one {t : TypeId} {i : Ti} (h : E.ti t = some i) (ha : i.agg = false) {cs : List C} {o : Nat} : part? E t cs o = (cs[o]?).map .c := by
  simp [part?, size?, agg?, h, ha]
theorem ix_slice {t e : TypeId} {s : Nat} (h : E.sh t = some (.slice e)) (hs : size? E e = some s) {p : Nat × Nat} {n : Nat} {j : Int} : ixP E t (.c (.sl (some p) n)) j = if 0 ≤ j ∧ j < n then some (p.1, p.2 + j.toNat * s) else none := by
  simp only [ixP, h, hs, Option.bind_some]
theorem ix_array {t e : TypeId} {s m : Nat} (h : E.sh t = some (.array m e)) (hs : size? E e = some s) {p : Nat × Nat} {j : Int} : ixP E t (.c (.ptr (some p))) j = if 0 ≤ j ∧ j < m then some (p.1, p.2 + j.toNat * s) else none := by
  simp only [ixP, h, hs, Option.bind_some]
theorem mks_of {t e : TypeId} {i : Ti} (h : slE E t = some e) (hi : E.ti e = some i) (h0 : 0 < i.size) (hz : i.zero.cells.length = i.size) {n m : Int} : mks E t n m = if n = m ∧ 0 ≤ n ∧ n * i.bytes ≤ maxBytes ∧ n ≤ maxBytes then some ((List.replicate n.toNat i.zero.cells).flatten, i.size) else none := by
  simp [mks, h, hi, h0, hz]
theorem bsl_of {t e : TypeId} {i : Ti} {len : Nat} (h : slE E t = some e) (hi : E.ti e = some i) (h0 : 0 < i.size) (hl : len * i.size ≤ 2 ^ 24) (hz : i.zero.cells.length = i.size) {ps : List (Nat × X)} : bsl E t len ps = (fill (fun j => some (j * i.size, i.size)) (List.replicate len i.zero.cells).flatten ps).map fun cs => (cs, i.size) := by
  simp only [bsl, h, hi, Option.bind_some, h0, hz, hl, and_self, if_true]
theorem fill_nil (f : Nat → Option (Nat × Nat)) (cs : List C) : fill f cs [] = some cs := of_eq_true (eq_self _)
theorem fill_cons (f : Nat → Option (Nat × Nat)) (cs : List C) (i : Nat) (v : X) (r : List (Nat × X)) : fill f cs ((i, v) :: r) = (f i).bind fun p => if v.cells.length = p.2 ∧ p.1 + p.2 ≤ cs.length then fill f (cs.take p.1 ++ v.cells ++ cs.drop (p.1 + p.2)) r else none := by
  simp only [fill, Option.bind_eq_bind]
attribute [simp] fill_nil fill_cons
@[simp] theorem cells_c (x : C) : X.cells (.c x) = [x] := of_eq_true (eq_self _)
@[simp] theorem cells_a (cs : List C) : X.cells (.a cs) = cs := of_eq_true (eq_self _)
/-- The cells of a slice. -/
def rdCells (S : St) (s : Nat) : C → Option (List C)
  | .em => some []
  | .sl none n => if n = 0 then some [] else none
  | .sl (some (i, o)) n => (S.h i).bind fun b => if o + n * s ≤ b.cs.length then some ((b.cs.drop o).take (n * s)) else none
  | _ => none
/-- Slices of numbers and of pairs of numbers. -/
def encI (l : List Int) : List C := l.map fun n => .int .i64 n
def encR : List (Int × Int) → List C
  | [] => []
  | r :: l => .int .i64 r.1 :: .int .i64 r.2 :: encR l
@[simp] theorem encI_length (l : List Int) : (encI l).length = l.length := by simp [encI]
@[simp] theorem encR_length (l : List (Int × Int)) : (encR l).length = l.length * 2 := by
  induction l with
  | nil => rfl
  | cons r l ih => simp [encR, ih]; omega
theorem encR_drop : ∀ (l : List (Int × Int)) (k : Nat), (encR l).drop (k * 2) = encR (l.drop k)
  | _, 0 => by simp
  | [], k + 1 => by simp [encR]
  | r :: l, k + 1 => by
    rw [show (k + 1) * 2 = k * 2 + 1 + 1 from by omega]
    simp only [encR, List.drop_succ_cons, encR_drop l k]
theorem encI_flat (l : List Int) : (encI l).all C.flat = true := by simp [encI, C.flat]
theorem encR_flat : ∀ l : List (Int × Int), (encR l).all C.flat = true
  | [] => rfl
  | r :: l => by simp [encR, C.flat, encR_flat l]
/-- A slice whose n elements of s cells each are these cells. -/
structure Sl (S : St) (s : Nat) (c : C) (cs : List C) (n : Nat) : Prop where
  rd : rdCells S s c = some cs
  len : lenC c = some n
  sz : cs.length = n * s
  lt : ∀ i o m, c = .sl (some (i, o)) m → i < S.n
def SlI (S : St) (c : C) (l : List Int) : Prop := Sl S 1 c (encI l) l.length
def SlR (S : St) (c : C) (l : List (Int × Int)) : Prop := Sl S 2 c (encR l) l.length
theorem Sl.mono {S S' : St} {s n : Nat} {c : C} {cs : List C} (h : Sl S s c cs n) (hn : S.n ≤ S'.n) (hh : ∀ i, i < S.n → S'.h i = S.h i) : Sl S' s c cs n := by
  obtain ⟨h1, h2, h3, h4⟩ := h
  refine ⟨?_, h2, h3, fun i o m e => Nat.lt_of_lt_of_le (h4 i o m e) hn⟩
  unfold rdCells at h1 ⊢
  split at h1
  · exact h1
  · exact h1
  · rename_i i o n'
    rw [hh i (h4 i o n' rfl)]
    exact h1
  · exact h1
theorem SlI.mono {S S' : St} {c : C} {l : List Int} (h : SlI S c l) (hn : S.n ≤ S'.n) (hh : ∀ i, i < S.n → S'.h i = S.h i) : SlI S' c l := Sl.mono h hn hh
theorem SlR.mono {S S' : St} {c : C} {l : List (Int × Int)} (h : SlR S c l) (hn : S.n ≤ S'.n) (hh : ∀ i, i < S.n → S'.h i = S.h i) : SlR S' c l := Sl.mono h hn hh
theorem Sl.at {S : St} {s n k : Nat} {c : C} {cs : List C} (h : Sl S s c cs n) (hk : k < n) : ∃ i o b, c = .sl (some (i, o)) n ∧ S.h i = some b ∧ i < S.n ∧ o + k * s + s ≤ b.cs.length ∧ o + n * s ≤ b.cs.length ∧ (b.cs.drop o).take (n * s) = cs ∧ (b.cs.drop (o + k * s)).take s = (cs.drop (k * s)).take s := by
  obtain ⟨h1, h2, h3, h4⟩ := h
  have hle : k * s + s ≤ n * s := by
    rw [← Nat.succ_mul]
    exact Nat.mul_le_mul_right s hk
  unfold rdCells at h1
  split at h1
  · cases h2; omega
  · cases h2
    split at h1
    · omega
    · cases h1
  · rename_i i o n'
    simp only [lenC_sl, Option.some.injEq] at h2
    subst h2
    obtain ⟨b, hb, h1⟩ := bind_some h1
    split at h1
    · rename_i hl
      simp only [Option.some.injEq] at h1
      refine ⟨i, o, b, rfl, hb, h4 i o n' rfl, by omega, hl, h1, ?_⟩
      rw [← h1, List.drop_take, List.drop_drop, List.take_take, Nat.min_eq_left (by omega)]
    · cases h1
  · cases h1
theorem SlI.at {S : St} {c : C} {l : List Int} (h : SlI S c l) {k : Nat} (hk : k < l.length) : ∃ i o b, c = .sl (some (i, o)) l.length ∧ S.h i = some b ∧ i < S.n ∧ b.cs[o + k]? = some (.int .i64 l[k]) := by
  obtain ⟨i, o, b, h1, h2, h3, h4, h5, h6, h7⟩ := Sl.at h hk
  refine ⟨i, o, b, h1, h2, h3, ?_⟩
  have : (b.cs.drop o)[k]? = some (.int .i64 l[k]) := by
    have h8 : ((b.cs.drop o).take (l.length * 1))[k]? = some (.int .i64 l[k]) := by
      rw [h6]
      simp [encI, hk]
    rwa [List.getElem?_take_of_lt (by omega)] at h8
  rwa [List.getElem?_drop] at this
theorem SlR.at {S : St} {c : C} {l : List (Int × Int)} (h : SlR S c l) {k : Nat} (hk : k < l.length) : ∃ i o b, c = .sl (some (i, o)) l.length ∧ S.h i = some b ∧ i < S.n ∧ o + k * 2 + 2 ≤ b.cs.length ∧ (b.cs.drop (o + k * 2)).take 2 = [.int .i64 l[k].1, .int .i64 l[k].2] ∧
    b.cs[o + k * 2]? = some (.int .i64 l[k].1) ∧ b.cs[o + k * 2 + 1]? = some (.int .i64 l[k].2) := by
  obtain ⟨i, o, b, h1, h2, h3, h4, h5, h6, h7⟩ := Sl.at h hk
  have hx : (b.cs.drop (o + k * 2)).take 2 = [.int .i64 l[k].1, .int .i64 l[k].2] := by
    rw [h7, encR_drop, List.drop_eq_getElem_cons hk]
    simp [encR]
  refine ⟨i, o, b, h1, h2, h3, h4, hx, ?_, ?_⟩
  · have := congrArg (·[0]?) hx
    simpa [List.getElem?_take_of_lt] using this
  · have := congrArg (·[1]?) hx
    simpa [List.getElem?_take_of_lt] using this
theorem SlI.mk {S : St} {i n : Nat} {b : Blk} {l : List Int} (hi : i < S.n) (hb : S.h i = some b) (hc : b.cs = encI l) (hn : n = l.length) : SlI S (.sl (some (i, 0)) n) l := by
  subst hn
  refine ⟨?_, rfl, by simp, fun i' o m e => by cases e; exact hi⟩
  simp [rdCells, hb, hc]
  rw [List.take_of_length_le (by simp)]
theorem SlR.mk {S : St} {i n : Nat} {b : Blk} {l : List (Int × Int)} (hi : i < S.n) (hb : S.h i = some b) (hc : b.cs = encR l) (hn : n = l.length) : SlR S (.sl (some (i, 0)) n) l := by
  subst hn
  refine ⟨?_, rfl, by simp, fun i' o m e => by cases e; exact hi⟩
  simp [rdCells, hb, hc]
  rw [List.take_of_length_le (by simp)]
theorem SlI.ext {S : St} {c : C} {l : List Int} (h : SlI S c l) (b : List (Option Blk)) : SlI (Go.V.ext S b) c l := h.mono (by simp) (by simp +contextual)
theorem SlR.ext {S : St} {c : C} {l : List (Int × Int)} (h : SlR S c l) (b : List (Option Blk)) : SlR (Go.V.ext S b) c l := h.mono (by simp) (by simp +contextual)
theorem SlI.old {S : St} {c : C} {l : List Int} (h : SlI S c l) : c.old S.n = true := by
  have h2 := h.lt; have h3 := h.rd
  unfold rdCells at h3
  split at h3 <;> simp_all [C.old]
theorem SlR.old {S : St} {c : C} {l : List (Int × Int)} (h : SlR S c l) : c.old S.n = true := by
  have h2 := h.lt; have h3 := h.rd
  unfold rdCells at h3
  split at h3 <;> simp_all [C.old]

theorem Sl.rdC {S : St} {s n : Nat} {c : C} {cs : List C} (h : Sl S s c cs n) : ∃ q, rdC c = some (q, n) ∧ rowAt S q (n * s) = some cs := by
  obtain ⟨h1, h2, h3, h4⟩ := h
  unfold rdCells at h1
  split at h1
  · cases h2
    cases h1
    exact ⟨none, rfl, by simp [rowAt]⟩
  · cases h2
    split at h1
    · rename_i hn
      subst hn
      cases h1
      exact ⟨none, rfl, by simp [rowAt]⟩
    · cases h1
  · rename_i i o n'
    simp only [lenC_sl, Option.some.injEq] at h2
    subst h2
    exact ⟨some (i, o), rfl, by simpa [rowAt] using h1⟩
  · cases h1
/-- A new slice of an append to an empty slice of one's own. -/
theorem appR_own {S : St} {s bytes i m : Nat} {q : Option (Nat × Nat)} {cs : List C} {b : Blk} (hb : S.h i = some b) (h1 : b.row = some s) (h2 : b.wr = true) (h3 : b.cs = []) (hm : 0 < m) (hq : rowAt S q (m * s) = some cs) (hB : m * bytes ≤ maxBytes) (hB2 : m ≤ maxBytes) :
    appR s bytes (some (i, 0)) 0 q m S = some (.sl (some (S.n, 0)) m, (S.kill i).new ⟨cs, some s, true⟩, .app (some i) (q.map (·.1))) := by
  have : ¬ m = 0 := by omega
  simp [appR, this, hq, hb, h1, h2, h3, hB, hB2]
@[simp] theorem appR_zero {S : St} {s bytes n : Nat} {p q : Option (Nat × Nat)} : appR s bytes p n q 0 S = some (.sl p n, S, .pure) := by simp [appR]
theorem rowAt_ext {S : St} {q : Option (Nat × Nat)} {m : Nat} {cs : List C} {l : List (Option Blk)} (h : rowAt S q m = some cs) (hlt : ∀ i o, q = some (i, o) → i < S.n) : rowAt (ext S l) q m = some cs := by
  cases q with
  | none => exact h
  | some io =>
    have := hlt io.1 io.2 rfl
    simp only [rowAt, ext_old this]
    exact h
theorem SlI.all {S : St} {c : C} {l : List Int} (h : SlI S c l) (hp : 0 < l.length) : ∃ i o b, c = .sl (some (i, o)) l.length ∧ S.h i = some b ∧ i < S.n ∧ ∀ k (hk : k < l.length), b.cs[o + k]? = some (.int .i64 l[k]) := by
  obtain ⟨i, o, b, h1, h2, h3, _⟩ := h.at hp
  refine ⟨i, o, b, h1, h2, h3, fun k hk => ?_⟩
  obtain ⟨i', o', b', h1', h2', h3', h4⟩ := h.at hk
  rw [h1] at h1'
  cases h1'
  rw [h2] at h2'
  cases h2'
  exact h4
theorem SlR.all {S : St} {c : C} {l : List (Int × Int)} (h : SlR S c l) (hp : 0 < l.length) : ∃ i o b, c = .sl (some (i, o)) l.length ∧ S.h i = some b ∧ i < S.n ∧ ∀ k (hk : k < l.length), o + k * 2 + 2 ≤ b.cs.length ∧ (b.cs.drop (o + k * 2)).take 2 = [.int .i64 l[k].1, .int .i64 l[k].2] ∧
    b.cs[o + k * 2]? = some (.int .i64 l[k].1) ∧ b.cs[o + k * 2 + 1]? = some (.int .i64 l[k].2) := by
  obtain ⟨i, o, b, h1, h2, h3, _⟩ := h.at hp
  refine ⟨i, o, b, h1, h2, h3, fun k hk => ?_⟩
  obtain ⟨i', o', b', h1', h2', h3', h4⟩ := h.at hk
  rw [h1] at h1'
  cases h1'
  rw [h2] at h2'
  cases h2'
  exact h4
theorem Sl.slice {S : St} {s n a b : Nat} {p : Option (Nat × Nat)} {cs : List C} {lo hi : Int} (h : Sl S s (.sl p n) cs n) (hs : 0 < s) (ha : lo = a) (hb : hi = b) (h1 : a ≤ b) (h2 : b ≤ n) :
    ∃ c', sliceR s p n lo hi = some c' ∧ Sl S s c' ((cs.drop (a * s)).take ((b - a) * s)) (b - a) := by
  subst ha hb
  have hc : (0 : Int) ≤ a ∧ (a : Int) ≤ b ∧ (b : Int) ≤ n ∧ 0 < s := by omega
  have hm : a * s ≤ b * s := Nat.mul_le_mul_right s h1
  have hm2 : b * s ≤ n * s := Nat.mul_le_mul_right s h2
  have hm3 : (b - a) * s = b * s - a * s := Nat.sub_mul ..
  obtain ⟨r1, r2, r3, r4⟩ := h
  unfold sliceR
  rw [if_pos hc]
  cases p with
  | none =>
    simp only [rdCells] at r1
    split at r1
    · rename_i hn
      subst hn
      obtain rfl : b = 0 := by omega
      obtain rfl : a = 0 := by omega
      cases r1
      exact ⟨_, rfl, by simp [rdCells], rfl, by simp, fun i o m e => by cases e⟩
    · cases r1
  | some io =>
    obtain ⟨i, o⟩ := io
    simp only [rdCells] at r1
    obtain ⟨bl, hbl, r1⟩ := bind_some r1
    split at r1
    · rename_i hle
      simp only [Option.some.injEq] at r1
      by_cases hab : a = b
      · subst hab
        refine ⟨.em, by simp, by simp [rdCells], by simp, by simp, fun i o m e => by cases e⟩
      · refine ⟨.sl (some (i, o + a * s)) (b - a), ?_, ?_, by simp, ?_, fun i' o' m e => ?_⟩
        · have : ¬ (a : Int) = b := by omega
          simp only [this, if_false, Option.some.injEq, C.sl.injEq, Prod.mk.injEq, true_and]
          refine ⟨by simp, by omega⟩
        · simp only [rdCells, hbl, Option.bind_some]
          rw [if_pos (by omega), ← r1, List.drop_take, List.drop_drop, List.take_take, Nat.min_eq_left (by omega)]
        · rw [List.length_take, List.length_drop, r3]
          omega
        · cases e
          exact r4 i o n rfl
    · cases r1
theorem encR_take : ∀ (l : List (Int × Int)) (k : Nat), (encR l).take (k * 2) = encR (l.take k)
  | _, 0 => by simp [encR]
  | [], k + 1 => by simp [encR]
  | r :: l, k + 1 => by
    rw [show (k + 1) * 2 = k * 2 + 1 + 1 from by omega]
    simp only [encR, List.take_succ_cons, encR_take l k]
theorem SlI.slice {S : St} {a b n : Nat} {p : Option (Nat × Nat)} {l : List Int} {lo hi : Int} (h : SlI S (.sl p n) l) (ha : lo = a) (hb : hi = b) (h1 : a ≤ b) (h2 : b ≤ l.length) :
    ∃ c', sliceR 1 p n lo hi = some c' ∧ SlI S c' ((l.drop a).take (b - a)) := by
  have hn : n = l.length := by have := h.len; simpa using this
  subst hn
  obtain ⟨c', h3, h4⟩ := Sl.slice h (by decide) ha hb h1 h2
  refine ⟨c', h3, ?_⟩
  unfold SlI
  have hlen : ((l.drop a).take (b - a)).length = b - a := by simp; omega
  rw [hlen]
  simpa [encI, List.map_drop, List.map_take] using h4
theorem SlR.slice {S : St} {a b n : Nat} {p : Option (Nat × Nat)} {l : List (Int × Int)} {lo hi : Int} (h : SlR S (.sl p n) l) (ha : lo = a) (hb : hi = b) (h1 : a ≤ b) (h2 : b ≤ l.length) :
    ∃ c', sliceR 2 p n lo hi = some c' ∧ SlR S c' ((l.drop a).take (b - a)) := by
  have hn : n = l.length := by have := h.len; simpa using this
  subst hn
  obtain ⟨c', h3, h4⟩ := Sl.slice h (by decide) ha hb h1 h2
  refine ⟨c', h3, ?_⟩
  unfold SlR
  have hlen : ((l.drop a).take (b - a)).length = b - a := by simp; omega
  rw [hlen]
  rwa [encR_drop, encR_take] at h4
@[simp] theorem SlI.lenC {S : St} {c : C} {l : List Int} (h : SlI S c l) : lenC c = some l.length := h.len
@[simp] theorem SlR.lenC {S : St} {c : C} {l : List (Int × Int)} (h : SlR S c l) : lenC c = some l.length := h.len
/-- A loop over a function in code: its assignments and its body. -/
def rfOf : Code → List (Code × Code)
  | .seq a b => rfOf a ++ rfOf b
  | .cond _ a b => rfOf a ++ rfOf b
  | .block _ a => rfOf a
  | .loop a => rfOf a
  | .rangeFunc _ _ a b => [(a, b)]
  | _ => []
def codeOf (f : Func) : Code := match f.body with | some c => c | none => .skip
theorem enter {ys : Yls} {f N : Nat} {args : List X} {S : St} {fn : Func} {k : Sk} {rs : List ResultVar} {T0 : List Va} {Q : Va → St → Bool → Prop} (hG : E.G f = none) (hf : E.fn f = some fn) (hk : fn.body.bind (skOf N) = some k) (hN : fn.ntmps = N)
    (hrs : fn.results.toList = rs) (hT : args.map .x ++ List.replicate (N - args.length) .u = T0 ∧ args.length ≤ N)
    (h : ∀ R : St, S.n = R.n → S.h = R.h → R.lo = R.n → @Wp E f ys false k T0 (ext R []) ⟨exitQ E rs S Q⟩) : ∃ r, res E ys (.f f) args S = some r ∧ Q r.1 r.2.1 r.2.2 := by
  obtain ⟨c, hc, hk⟩ := bind_some hk
  subst hN
  exact res_enter hG hf hc hk hT.2 hrs hT.1 (fun R h1 h2 h3 => by have := h R h1 h2 h3; rwa [ext_nil] at this)
end Go.V
