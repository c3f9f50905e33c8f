/- Functions that are taken as given: Apart. -/
import Derived.Test.YtemjdhglaljhbaaZAp
namespace Go.Proofs.Ytemjdhglaljhbaa
open Go.V
set_option maxRecDepth 10000

theorem rngsOf_eq : ∀ {x : List C} {bs : List (Int × Int)}, rngsOf x = some bs → x = encR bs
  | [], bs, h => by cases h; rfl
  | [c], bs, h => by cases c <;> simp [rngsOf] at h
  | c :: d :: l, bs, h => by
    unfold rngsOf at h
    split at h
    · rename_i e; cases e
    · rename_i e
      cases e
      obtain ⟨r, hr, rfl⟩ := Option.map_eq_some_iff.1 h
      rw [rngsOf_eq hr]
      rfl
    · cases h
theorem intsOf_eq : ∀ {x : List C} {l : List Int}, intsOf x = some l → x = encI l
  | [], l, h => by cases h; rfl
  | c :: x, l, h => by
    unfold intsOf at h
    split at h
    · rename_i e; cases e
    · rename_i e
      cases e
      obtain ⟨r, hr, rfl⟩ := Option.map_eq_some_iff.1 h
      rw [intsOf_eq hr]
      rfl
    · cases h
theorem sl_of {S : St} {s n : Nat} {c : C} {x : List C} (ho : S.ok) (hs : 0 < s) (h : rdCells S s c = some x) (hx : x.length = n * s) : Sl S s c x n := by
  have key : ∀ m, x.length = m * s → m = n := fun m hm => Nat.eq_of_mul_eq_mul_right hs (hm.symm.trans hx)
  have h' := h
  unfold rdCells at h'
  split at h'
  · cases h'
    obtain rfl := key 0 (by simp)
    exact ⟨h, rfl, hx, fun i o m e => by cases e⟩
  · rename_i m
    split at h'
    · rename_i hm
      cases h'
      subst hm
      obtain rfl := key 0 (by simp)
      exact ⟨h, rfl, hx, fun i o m e => by cases e⟩
    · cases h'
  · rename_i i o m
    obtain ⟨b, hb, h'⟩ := Option.bind_eq_some_iff.1 h'
    split at h'
    · rename_i hle
      cases h'
      obtain rfl := key m (by simp; omega)
      refine ⟨h, rfl, hx, fun i' o' m' e => ?_⟩
      cases e
      rcases Nat.lt_or_ge i S.n with h1 | h1
      · exact h1
      · rw [ho.2 i h1] at hb; cases hb
    · cases h'
  · cases h'
theorem apart_ok : OracleOk Try.prog 38 apartO := by
  intro args S v S' p h ho
  unfold apartO at h
  split at h
  · rename_i cb al ah ca bl bh cc
    obtain ⟨x, hx, h⟩ := Option.bind_eq_some_iff.1 h
    obtain ⟨bs, hbs, h⟩ := Option.bind_eq_some_iff.1 h
    obtain ⟨y, hy, h⟩ := Option.bind_eq_some_iff.1 h
    obtain ⟨la, hla, h⟩ := Option.bind_eq_some_iff.1 h
    obtain ⟨z, hz, h⟩ := Option.bind_eq_some_iff.1 h
    obtain ⟨lb, hlb, h⟩ := Option.bind_eq_some_iff.1 h
    simp only at h
    split at h
    · rename_i hlen
      cases h
      obtain rfl := rngsOf_eq hbs
      obtain rfl := intsOf_eq hla
      obtain rfl := intsOf_eq hlb
      refine ⟨⟨.refl ho, fun _ _ _ => rfl⟩, fun β w vargs hr hargs => ?_⟩
      have hb : SlR S cb bs := sl_of ho (by omega) hx (by simp)
      have ha : SlI S ca la := sl_of ho (by omega) hy (by simp)
      have hc : SlI S cc lb := sl_of ho (by omega) hz (by simp)
      have hbody : ∃ c, Try.f38.body = some c ∧ skOf 113 c = some Z.k38 := by
        have := Z.sk38
        cases hb : Try.f38.body with
        | none => rw [hb] at this; cases this
        | some c => rw [hb] at this; exact ⟨c, rfl, this⟩
      obtain ⟨c, hc1, hc2⟩ := hbody
      refine fnOk_of_hd Z.eeOk (fn := Try.f38) (f := 38) (rs := [.cell 6 24, .tmp 7]) (by kernel_rfl) hc1 (by kernel_rfl) hc2 (by simp) (by kernel_rfl) rfl ho hr ?_ hargs
      have := Z.walk (S := S) (R := { S with lo := S.n }) (β := β) (w0 := w) (w := w) (al := al) (ah := ah) (bl := bl) (bh := bh) rfl rfl rfl (hb.mono (Nat.le_refl _) fun _ _ => rfl) (ha.mono (Nat.le_refl _) fun _ _ => rfl) (hc.mono (Nat.le_refl _) fun _ _ => rfl) hlen.1 hlen.2.1 hlen.2.2
      rw [ext_nil] at this
      exact this
    · cases h
  · cases h
end Go.Proofs.Ytemjdhglaljhbaa
