/- Closed calls, run by the kernel in the empty state: how their answers are read; the environment in which they stand as functions that are taken as given. -/
import Derived.Test.YtemjdhglaljhbaaZOra
import Derived.Test.YtemjdhglaljhbaaVOra
import Derived.Test.YtemjdhglaljhbaaVLen
namespace Go.V
def C.like : C → C → Bool
  | .int k n, .int k' n' => decide (k = k') && decide (n = n')
  | .bool b, .bool b' => b == b'
  | .ptr p, .ptr p' => decide (p = p')
  | .sl p n, .sl p' n' => decide (p = p') && decide (n = n')
  | .em, .em => true
  | _, _ => false
theorem C.like_eq : ∀ {a b : C}, C.like a b = true → a = b := by
  intro a b h
  cases a <;> cases b <;> simp [C.like] at h ⊢ <;> exact h
def sameL : List C → List C → Bool
  | [], [] => true
  | a :: l, b :: m => C.like a b && sameL l m
  | _, _ => false
theorem sameL_eq : ∀ {l m : List C}, sameL l m = true → l = m
  | [], [], _ => rfl
  | a :: l, b :: m, h => by
    simp only [sameL, Bool.and_eq_true] at h
    rw [C.like_eq h.1, sameL_eq h.2]
  | [], _ :: _, h => by simp [sameL] at h
  | _ :: _, [], h => by simp [sameL] at h
def X.like : X → X → Bool
  | .c y, .c z => C.like y z
  | .a l, .a m => sameL l m
  | _, _ => false
theorem X.like_eq : ∀ {a b : X}, X.like a b = true → a = b := by
  intro a b h
  cases a <;> cases b <;> simp [X.like] at h ⊢
  · exact C.like_eq h
  · exact sameL_eq h
def sameXs : List X → List X → Bool
  | [], [] => true
  | a :: l, b :: m => X.like a b && sameXs l m
  | _, _ => false
theorem sameXs_eq : ∀ {l m : List X}, sameXs l m = true → l = m
  | [], [], _ => rfl
  | a :: l, b :: m, h => by
    simp only [sameXs, Bool.and_eq_true] at h
    rw [X.like_eq h.1, sameXs_eq h.2]
  | [], _ :: _, h => by simp [sameXs] at h
  | _ :: _, [], h => by simp [sameXs] at h
def Va.same : Va → Va → Bool
  | .x y, .x z => X.like y z
  | .t l, .t m => sameXs l m
  | _, _ => false
theorem Va.same_eq : ∀ {a b : Va}, Va.same a b = true → a = b := by
  intro a b h
  cases a <;> cases b <;> simp [Va.same] at h ⊢
  · exact X.like_eq h
  · exact sameXs_eq h
def Blk.same (a b : Blk) : Bool := sameL a.cs b.cs && decide (a.row = b.row) && (a.wr == b.wr)
def sameB : Option Blk → Option Blk → Bool
  | some a, some b => a.same b
  | none, none => true
  | _, _ => false
theorem sameB_eq {a b : Option Blk} (h : sameB a b = true) : a = b := by
  cases a <;> cases b <;> simp [sameB] at h ⊢
  rename_i x y
  cases x; cases y
  simp [Blk.same] at h
  simp [sameL_eq h.1.1, h.1.2, h.2]
/-- Are the blocks from k on these, in this order? -/
def sameFrom (h : Nat → Option Blk) : Nat → List (Option Blk) → Bool
  | _, [] => true
  | k, b :: l => sameB (h k) b && sameFrom h (k + 1) l
theorem sameFrom_eq {h : Nat → Option Blk} : ∀ {l : List (Option Blk)} {k i : Nat} {b : Option Blk}, sameFrom h k l = true → l[i]? = some b → h (k + i) = b
  | [], k, i, b, _, hi => by simp at hi
  | c :: l, k, i, b, hs, hi => by
    simp only [sameFrom, Bool.and_eq_true] at hs
    cases i with
    | zero => simp at hi; subst hi; exact sameB_eq hs.1
    | succ i =>
      have := sameFrom_eq hs.2 (i := i) (by simpa using hi)
      rw [show k + (i + 1) = k + 1 + i from by omega]
      exact this
/-- The empty state. -/
def St0 : St := { n := 0, h := fun _ => none, lo := 0 }
/-- Does the run answer v, keep what was there, and lay these blocks? -/
def okRun (n : Nat) (L' : List (Option Blk)) (v : Va) : Option (Va × St × Bool) → Bool
  | some (v', S', p) => p && Va.same v' v && decide (S'.n = n + L'.length) && decide (S'.lo = 0) && sameFrom S'.h n L'
  | none => false
variable {P : Program} {E : Env}
theorem okRun_eq (hE : EnvOk P E) {k : Nat} {f : FuncId} {args : List X} {L L' : List (Option Blk)} {v : Va} (h : okRun L.length L' v (xCall E k (fun _ => none) (.f f) args (ext St0 L)) = true) :
    xCall E k (fun _ => none) (.f f) args (ext St0 L) = some (v, ext St0 (L ++ L'), true) := by
  cases hx : xCall E k (fun _ => none) (.f f) args (ext St0 L) with
  | none => rw [hx] at h; cases h
  | some r =>
    obtain ⟨v', S', p⟩ := r
    rw [hx] at h
    simp only [okRun, Bool.and_eq_true, decide_eq_true_eq] at h
    obtain ⟨⟨⟨⟨hp, hv⟩, hn⟩, hlo⟩, hb⟩ := h
    obtain rfl := Va.same_eq hv
    subst hp
    have hok : (ext St0 L).ok := ⟨Nat.zero_le _, fun i hi => by
      have hi : 0 + L.length ≤ i := hi
      show (if i < 0 then none else match L[i - 0]? with | some b => b | none => none) = none
      rw [if_neg (by omega), List.getElem?_eq_none (by omega)]⟩
    obtain ⟨hg, hk⟩ := xCall_good hE k _ (.f f) args _ _ _ _ hx hok
    have hS : S' = ext St0 (L ++ L') := by
      cases S' with
      | mk n h lo =>
        simp only at hn hlo hb
        subst hlo
        simp only [ext, St.mk.injEq, List.length_append]
        refine ⟨by show n = 0 + (L.length + L'.length); omega, ?_, rfl⟩
        funext i
        show h i = if i < 0 then none else match (L ++ L')[i - 0]? with | some b => b | none => none
        rw [if_neg (by omega), Nat.sub_zero]
        by_cases h1 : i < L.length
        · have := hk rfl i (by show i < 0 + L.length; omega)
          rw [show h i = _ from this, List.getElem?_append_left h1]
          show (if i < 0 then none else match L[i - 0]? with | some b => b | none => none) = _
          rw [if_neg (by omega), Nat.sub_zero]
        · rw [List.getElem?_append_right (by omega)]
          cases hc : L'[i - L.length]? with
          | some b =>
            have := sameFrom_eq hb hc
            rw [show L.length + (i - L.length) = i from by omega] at this
            exact this
          | none =>
            have := List.getElem?_eq_none_iff.1 hc
            exact hg.ok.2 i (by show n ≤ i; omega)
    rw [hS]
end Go.V
namespace Go.Proofs.Ytemjdhglaljhbaa.Y
open Go.V
/-- The environment of the closed runs. -/
noncomputable def E0 : Env := envOf G0
theorem e0Ok : EnvOk Try.prog E0 := envOk fun f g h => by
  unfold G0 at h
  split at h
  · rename_i e; cases h; subst e; exact sub64_ok
  · split at h
    · rename_i e; cases h; subst e; exact apart_ok
    · split at h
      · rename_i e; cases h; subst e; exact len64_ok
      · cases h
/-- A function, run. -/
noncomputable def runO (f : FuncId) : List X → St → Option (Va × St × Bool) := fun args S => xCall E0 1000 (fun _ => none) (.f f) args S
theorem runO_ok (f : FuncId) : OracleOk Try.prog f (runO f) := fun args S v S' p h ho =>
  ⟨xCall_good e0Ok 1000 _ (.f f) args S v S' p h ho, fun β w vargs hr hargs => xCall_sound e0Ok 1000 _ (.f f) args S v S' p h ho β w vargs hr (fun _ _ h => by cases h) hargs⟩
noncomputable def G1 (f : FuncId) : Option (List X → St → Option (Va × St × Bool)) := if f = 16 then none else some (runO f)
noncomputable def EE : Env := envOf G1
theorem eeOk : EnvOk Try.prog EE := envOk fun f g h => by
  unfold G1 at h
  split at h
  · cases h
  · cases h; exact runO_ok f
theorem res_run {f : FuncId} {args : List X} {L L' : List (Option Blk)} {v : Va} (hf : f ≠ 16) (h : okRun L.length L' v (xCall E0 1000 (fun _ => none) (.f f) args (ext St0 L)) = true) : res EE (fun _ => none) (.f f) args (ext St0 L) = some (v, ext St0 (L ++ L'), true) :=
  res_G (g := runO f) (show G1 f = some (runO f) by simp [G1, hf]) (okRun_eq e0Ok h)
end Go.Proofs.Ytemjdhglaljhbaa.Y
