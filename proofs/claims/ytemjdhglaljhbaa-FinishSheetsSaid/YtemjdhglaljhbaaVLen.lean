/- Functions that are taken as given: bits.Len64 (its walk was laid by the shelf's template). -/
import Derived.Test.YtemjdhglaljhbaaVOra
import Derived.Lib.Strings
import Derived.Lib.Slices
import Derived.Lib.Small
import Derived.Lib.Walk
import Derived.Lib.BitFns
namespace Go.Proofs

theorem Ytemjdhglaljhbaa.rw64 (n : Int) (h0 : 0 ≤ n) (h1 : n ≤ 1000) : RowKit.wrap64 n = n := by
  unfold RowKit.wrap64
  omega
open Ytemjdhglaljhbaa
theorem Ytemjdhglaljhbaa.l8 (y : Int) (h0 : 0 ≤ y) (h1 : y ≤ 255) (h2 : y.toNat < Lib.len8tab.size) : ((Lib.len8tab[y.toNat]'h2).toNat : Int) = Lib.bitLen y.toNat := by
  rw [← Lib.len8_of y h0 h1]
  unfold Lib.len8
  rw [getElem?_pos Lib.len8tab y.toNat h2]
  rfl
set_option maxHeartbeats 4000000 in
set_option maxRecDepth 100000 in
/-- bits.Len64: "Len64 returns the minimum number of bits required to represent x; the result is 0 for x == 0.": IT RETURNS 'Lib.bitLen x'; the world is as it was. ('h0', 'h1': x is a uint64.) -/
theorem Try.bits_Len64 (x : Int) (w : World) (h0 : 0 ≤ x) (h1 : x ≤ 18446744073709551615) :
    Calls Try.prog 128 #[.int .u64 x] w fun e w' => e = .returned (.int .i64 (Lib.bitLen x.toNat)) ∧ w' = w := by
  go_enter Try.func128, Try.ntmps128
  go_wp2
  all_goals first
    | (exfalso; rename_i hbad; rw [Lib.len8tab_size] at hbad; omega)
    | (go_ret
       refine ⟨congrArg Ending.returned (congrArg (Value.int IntKind.i64) ?_), rfl⟩
       rw [Ytemjdhglaljhbaa.l8 (x / 4294967296 / 65536 / 256) (by omega) (by omega)]
       have e : (x / 4294967296 / 65536 / 256).toNat = x.toNat / 72057594037927936 := by omega
       have l := Lib.bitLen_le8' (x / 4294967296 / 65536 / 256) (by omega) (by omega)
       have s := Lib.bitLen_shift56 x.toNat (by omega) (by omega)
       rw [e] at l ⊢
       simp only [rw64 (Lib.bitLen (x.toNat / 72057594037927936) : Int) (by omega) (by omega)]
       rw [rw64 _ (by omega) (by omega)]
       omega)
    | (go_ret
       refine ⟨congrArg Ending.returned (congrArg (Value.int IntKind.i64) ?_), rfl⟩
       rw [Ytemjdhglaljhbaa.l8 (x / 4294967296 / 65536) (by omega) (by omega)]
       have e : (x / 4294967296 / 65536).toNat = x.toNat / 281474976710656 := by omega
       have l := Lib.bitLen_le8' (x / 4294967296 / 65536) (by omega) (by omega)
       have s := Lib.bitLen_shift48 x.toNat (by omega) (by omega)
       rw [e] at l ⊢
       simp only [rw64 (Lib.bitLen (x.toNat / 281474976710656) : Int) (by omega) (by omega)]
       rw [rw64 _ (by omega) (by omega)]
       omega)
    | (go_ret
       refine ⟨congrArg Ending.returned (congrArg (Value.int IntKind.i64) ?_), rfl⟩
       rw [Ytemjdhglaljhbaa.l8 (x / 4294967296 / 256) (by omega) (by omega)]
       have e : (x / 4294967296 / 256).toNat = x.toNat / 1099511627776 := by omega
       have l := Lib.bitLen_le8' (x / 4294967296 / 256) (by omega) (by omega)
       have s := Lib.bitLen_shift40 x.toNat (by omega) (by omega)
       rw [e] at l ⊢
       simp only [rw64 (Lib.bitLen (x.toNat / 1099511627776) : Int) (by omega) (by omega)]
       rw [rw64 _ (by omega) (by omega)]
       omega)
    | (go_ret
       refine ⟨congrArg Ending.returned (congrArg (Value.int IntKind.i64) ?_), rfl⟩
       rw [Ytemjdhglaljhbaa.l8 (x / 4294967296) (by omega) (by omega)]
       have e : (x / 4294967296).toNat = x.toNat / 4294967296 := by omega
       have l := Lib.bitLen_le8' (x / 4294967296) (by omega) (by omega)
       have s := Lib.bitLen_shift32 x.toNat (by omega) (by omega)
       rw [e] at l ⊢
       simp only [rw64 (Lib.bitLen (x.toNat / 4294967296) : Int) (by omega) (by omega)]
       rw [rw64 _ (by omega) (by omega)]
       omega)
    | (go_ret
       refine ⟨congrArg Ending.returned (congrArg (Value.int IntKind.i64) ?_), rfl⟩
       rw [Ytemjdhglaljhbaa.l8 (x / 65536 / 256) (by omega) (by omega)]
       have e : (x / 65536 / 256).toNat = x.toNat / 16777216 := by omega
       have l := Lib.bitLen_le8' (x / 65536 / 256) (by omega) (by omega)
       have s := Lib.bitLen_shift24 x.toNat (by omega) (by omega)
       rw [e] at l ⊢
       simp only [rw64 (Lib.bitLen (x.toNat / 16777216) : Int) (by omega) (by omega)]
       rw [rw64 _ (by omega) (by omega)]
       omega)
    | (go_ret
       refine ⟨congrArg Ending.returned (congrArg (Value.int IntKind.i64) ?_), rfl⟩
       rw [Ytemjdhglaljhbaa.l8 (x / 65536) (by omega) (by omega)]
       have e : (x / 65536).toNat = x.toNat / 65536 := by omega
       have l := Lib.bitLen_le8' (x / 65536) (by omega) (by omega)
       have s := Lib.bitLen_shift16 x.toNat (by omega) (by omega)
       rw [e] at l ⊢
       simp only [rw64 (Lib.bitLen (x.toNat / 65536) : Int) (by omega) (by omega)]
       rw [rw64 _ (by omega) (by omega)]
       omega)
    | (go_ret
       refine ⟨congrArg Ending.returned (congrArg (Value.int IntKind.i64) ?_), rfl⟩
       rw [Ytemjdhglaljhbaa.l8 (x / 256) (by omega) (by omega)]
       have e : (x / 256).toNat = x.toNat / 256 := by omega
       have l := Lib.bitLen_le8' (x / 256) (by omega) (by omega)
       have s := Lib.bitLen_shift8 x.toNat (by omega) (by omega)
       rw [e] at l ⊢
       simp only [rw64 (Lib.bitLen (x.toNat / 256) : Int) (by omega) (by omega)]
       rw [rw64 _ (by omega) (by omega)]
       omega)
    | (go_ret
       refine ⟨congrArg Ending.returned (congrArg (Value.int IntKind.i64) ?_), rfl⟩
       rw [Ytemjdhglaljhbaa.l8 x (by omega) (by omega)]
       have l := Lib.bitLen_le8' x (by omega) (by omega)
       simp only [rw64 (Lib.bitLen x.toNat : Int) (by omega) (by omega)])

theorem Ytemjdhglaljhbaa.bitLenAux_eq : ∀ (f x : Nat), x < 2 ^ f → Lib.bitLenAux f x = if x = 0 then 0 else x.log2 + 1
  | 0, x, h => by
    have hx : x = 0 := by simpa using h
    subst hx
    simp [Lib.bitLenAux]
  | f + 1, x, h => by
    by_cases hx : x = 0
    · subst hx; simp [Lib.bitLenAux]
    · have ih := Ytemjdhglaljhbaa.bitLenAux_eq f (x / 2) (by rw [Nat.pow_succ] at h; omega)
      simp only [Lib.bitLenAux, hx, if_false, ih]
      rw [Nat.log2_def x]
      by_cases h2 : x / 2 = 0
      · have : ¬ 2 ≤ x := by omega
        simp [h2, this]
      · have : 2 ≤ x := by omega
        simp [h2, this]
        omega
namespace Ytemjdhglaljhbaa
open Go.V
theorem len64_ok : OracleOk Try.prog 128 len64 := by
  intro args S v S' p h ho
  unfold len64 at h
  split at h
  · rename_i x
    split at h
    · rename_i hx
      cases h
      refine ⟨⟨.refl ho, fun _ _ _ => rfl⟩, fun β w vargs hr hargs => ?_⟩
      cases hargs with
      | cons h1 t =>
        cases t
        obtain rfl := (show _ = _ from h1)
        left
        refine ⟨?_, ?_⟩
        · have hb : Try.f128.body.isSome = true := by kernel_rfl
          have hn : (Try.f128.name == "runtime.NumGoroutine") = false := by kernel_rfl
          have hn : Try.f128.name ≠ "runtime.NumGoroutine" := by simpa using hn
          have hb' : Try.f128.body ≠ none := by intro e; rw [e] at hb; cases hb
          obtain ⟨c, hc⟩ := Option.isSome_iff_exists.1 hb
          simp [callFunc, Try.func128, hc, hn]
        · refine Calls.mono (Try.bits_Len64 x w hx.1 (by omega)) ?_
          rintro e w' ⟨rfl, rfl⟩
          refine ⟨β, ?_, .refl hr⟩
          show _ = _
          unfold Lib.bitLen
          rw [bitLenAux_eq 64 x.toNat (by omega)]
          by_cases h0 : x.toNat = 0 <;> simp [h0]
    · cases h
  · cases h
end Ytemjdhglaljhbaa
end Go.Proofs
