/- The evaluator's soundness, part 5: each operation that is no call of a function goes to memory as the evaluator says. -/
import Derived.Test.YtemjdhglaljhbaaVApp
namespace Go.V
variable {P : Program} {E : Env}

/-- The operation R, at values that β relates, does what the access says. -/
def Acc.ok (P : Program) (β : Map) (R : World → Result Next) : Acc → Prop
  | .val v => ∀ w, ∃ u, v.rel β u ∧ R w = .ok (.value u) w
  | .new b f => ∃ cs ty cap, ∃ u : Nat → Value, All2 (C.rel β) b.cs (cs.toList.take b.cs.length) ∧ (∀ s, b.row = some s → ∃ cc, cap = some (cc, s) ∧ cc ≤ cs.size) ∧ (∀ w, R w = .ok (.value (u w.heap.size)) (w.alloc (.cells cs ty))) ∧
      ∀ β' n k, Map.le β β' → β' n = some ⟨k, 0, cap⟩ → (f n).rel β' (u k)
  | .load i k => ∃ p, β i = some p ∧ ∀ w (b : Blk) v, b.rel β w p → k b.cs = some v → ∃ u, v.rel β u ∧ R w = .ok (.value u) w
  | .store i k => ∃ p, β i = some p ∧ ∀ w (b : Blk) cs', b.rel β w p → b.wr = true → k b.cs = some cs' → ∃ w' cs cs2 ty o vs, R w = .ok .skip w' ∧ w.heap[p.b]? = some (.cells cs ty (0, 0)) ∧ Wrote w w' p.b o cs cs2 ty vs ∧ ∀ (j : Nat) c, cs'[j]? = some c → ∃ v, cs2[p.o + j]? = some v ∧ c.rel β v
  | .app s bytes p n q m => ∃ vp vq, C.rel β (.sl p n) vp ∧ QRel β q m vq ∧ (m = 0 → ∀ w, R w = .ok (.value vp) w) ∧
      (m ≠ 0 → ∀ w new lnew, All2 (C.rel β) new lnew → (∀ w1 : World, w1.heap = w.heap → (Builtin.firstCells s m vq).run P w1 = .ok lnew.toArray w1) → new.length = m * s → (n + m) * bytes ≤ maxBytes → n + m ≤ maxBytes →
        (p = none → n = 0 → ∃ u w', R w = .ok (.value u) w' ∧ AppOut β w w' new s m u none) ∧
        (∀ k pl (b : Blk), p = some (k, 0) → β k = some pl → b.rel β w pl → b.row = some s → b.wr = true → b.cs.length = n * s → ∃ u w', R w = .ok (.value u) w' ∧ AppOut β w w' (b.cs ++ new) s (n + m) u (some pl)))

theorem val_of {β : Map} {R : World → Result Next} {v : Va} (h : ∃ u, v.rel β u ∧ ∀ w, R w = .ok (.value u) w) : Acc.ok P β R (.val v) := by
  obtain ⟨u, h1, h2⟩ := h
  exact fun w => ⟨u, h1, h2 w⟩
theorem bind_some {α γ : Type} {x : Option α} {f : α → Option γ} {b : γ} (h : x.bind f = some b) : ∃ a, x = some a ∧ f a = some b := Option.bind_eq_some_iff.1 h
theorem map_some {α γ : Type} {x : Option α} {f : α → γ} {b : γ} (h : x.map f = some b) : ∃ a, x = some a ∧ f a = b := Option.map_eq_some_iff.1 h
theorem slE_ok (h : TyOk P E) {t e : TypeId} (hs : slE E t = some e) : P.underlying t = some (.slice e) := by
  unfold slE at hs
  split at hs
  · rename_i e' hsh; cases hs; exact h.sl t e hsh
  · cases hs
theorem arE_ok (h : TyOk P E) {t : TypeId} {ne : Nat × TypeId} (hs : arE E t = some ne) : P.underlying t = some (.array ne.1 ne.2) := by
  unfold arE at hs
  split at hs
  · rename_i n e' hsh; cases hs; exact h.ar t n e' hsh
  · cases hs
theorem stF_ok (h : TyOk P E) {t : TypeId} {fs : List (Nat × TypeId)} (hs : stF E t = some fs) {f : Nat} {fd : Nat × TypeId} (hf : fs[f]? = some fd) : ∃ gs g, P.underlying t = some (.struct gs) ∧ gs[f]? = some g ∧ g.offset = fd.1 ∧ g.type = fd.2 := by
  unfold stF at hs
  split at hs
  · rename_i fs' hsh
    cases hs
    obtain ⟨gs, hu, hg⟩ := h.st t fs hsh
    rw [← hg, List.getElem?_map] at hf
    obtain ⟨g, hg1, hg2⟩ := Option.map_eq_some_iff.1 hf
    exact ⟨gs, g, hu, by simpa using hg1, by rw [← hg2], by rw [← hg2]⟩
  · cases hs
theorem at_add (p : Pl) (o n : Nat) : (p.at o).add n = p.at (o + n) := by
  rw [add_eq _ _ rfl]
  simp [Pl.at, Nat.add_assoc]

section
variable {β : Map} {T : List Va} {ρ : Operand → Value} {dst : Option Tmp} {ty : TypeId} {pos : String} {after : Array Edge} {guard : Option (Nat × Bool)} {A : Acc}
theorem acc_load (h : TyOk P E) (t : TypeId) (x : Operand) (ho : Rl β T ρ x) (e : acc E ⟨dst, .load t x, ty, pos, after, guard⟩ T = some A) : A.ok P β fun w => (execOp ρ ⟨dst, .load t x, ty, pos, after, guard⟩).run P w := by
  simp only [acc] at e
  obtain ⟨p, hp, rfl⟩ := map_some e
  obtain ⟨pl, hpl, hv⟩ := evP_ok ho hp
  refine ⟨pl, hpl, fun w b v hb hk => ?_⟩
  unfold part? at hk
  cases hs : size? E t with
  | none => simp [hs] at hk
  | some s =>
    cases ha : agg? E t with
    | none => simp [hs, ha] at hk
    | some g =>
      simp [hs, ha] at hk
      cases g with
      | true =>
        simp at hk
        obtain ⟨hle, rfl⟩ := hk
        obtain ⟨l, hl, hrun⟩ := Blk.rel_load (P := P) hb hle
        exact ⟨.agg l.toArray, ⟨l, hl, rfl⟩, by simp [execOp, Instr.loadAt, Instr.sureAddr, hv, loadVar, h.isAgg ha, h.size hs, Result.andThen, hrun w rfl]⟩
      | false =>
        simp at hk
        obtain ⟨c, hc, rfl⟩ := hk
        obtain ⟨cs, ty', fz, h1, h2, _⟩ := hb
        obtain ⟨u, hu, hru⟩ := h2 _ _ hc
        have hcell : w.cell? (pl.at p.2) = some u := by
          have := cell_of_heap h1 (pl.o + p.2)
          simpa [Pl.at, hu] using this
        exact ⟨u, hru, by simp [execOp, Instr.loadAt, Instr.sureAddr, hv, loadVar, h.isAgg ha, Result.andThen, hcell]⟩
theorem acc_store (h : TyOk P E) (t : TypeId) (x y : Operand) (hx : Rl β T ρ x) (hy : Rl β T ρ y) (e : acc E ⟨dst, .store t x y, ty, pos, after, guard⟩ T = some A) : A.ok P β fun w => (execOp ρ ⟨dst, .store t x y, ty, pos, after, guard⟩).run P w := by
  simp only [acc] at e
  obtain ⟨p, hp, e⟩ := bind_some e
  obtain ⟨v, hv, e⟩ := bind_some e
  obtain ⟨s, hs, e⟩ := bind_some e
  split at e
  · rename_i hlen
    cases e
    obtain ⟨pl, hpl, hvx⟩ := evP_ok hx hp
    have hvy := X.rel_cells (evX_ok hy hv)
    refine ⟨pl, hpl, fun w b cs' hb hw hk => ?_⟩
    dsimp only at hk
    split at hk
    · rename_i hle
      cases hk
      have hl := hvy.length
      obtain ⟨w', cs, cs2, ty', hrun, h1, hwr, hc⟩ := Blk.rel_store (P := P) hb hw (o := p.2) hvy (by
        rcases Nat.eq_zero_or_pos s with h0 | hpos
        · left
          have : (ρ y).cells.toList.length = 0 := by omega
          exact List.eq_nil_of_length_eq_zero this
        · right
          intro cs ty' fz hcs
          obtain ⟨cs0, ty0, fz0, h1, h2, _⟩ := hb
          rw [h1] at hcs
          cases hcs
          obtain ⟨u, hu, _⟩ := h2 (p.2 + s - 1) (b.cs[p.2 + s - 1]'(by omega)) (List.getElem?_eq_getElem _)
          have := (Array.getElem?_eq_some_iff.1 hu).1
          omega)
      have hsz : (ρ y).cells.size = s := by rw [← hlen, hl]; simp
      refine ⟨w', cs, cs2, ty', _, _, ?_, h1, hwr, fun j c hj => hc j c ?_ (by omega)⟩
      · simp [execOp, Instr.storeAt, Instr.sureAddr, hvx, storeVar, h.size hs, hsz, hrun]
      · rw [hlen]; exact hj
    · cases hk
  · cases e
theorem acc_slice (h : TyOk P E) (t : TypeId) (x : Operand) (lo hi : Option Operand) (hx : Rl β T ρ x) (hlo : ∀ y, lo = some y → Rl β T ρ y) (hhi : ∀ y, hi = some y → Rl β T ρ y) (e : acc E ⟨dst, .slice t x lo hi none, ty, pos, after, guard⟩ T = some A) :
    A.ok P β fun w => (execOp ρ ⟨dst, .slice t x lo hi none, ty, pos, after, guard⟩).run P w := by
  simp only [acc] at e
  obtain ⟨el, hel, e⟩ := bind_some e
  obtain ⟨s, hs, e⟩ := bind_some e
  obtain ⟨q, hq, e⟩ := bind_some e
  obtain ⟨l, hl, e⟩ := bind_some e
  obtain ⟨hh, hhh, e⟩ := bind_some e
  have hu := slE_ok h hel
  have hv := evS_ok hx hq
  unfold sliced at e
  split at e
  · rename_i hb
    obtain ⟨hb1, hb2, hb3, hb4⟩ := hb
    have hlow : ∀ (w : World) (H : Nat), hh = H → (match lo.map ρ with | some v => Instr.sliceBound v H .sliceB | none => pure 0 : Sem Nat).run P w = .ok l.toNat w := by
      intro w H hH
      cases lo with
      | none => simp at hl; subst hl; simp
      | some y =>
        obtain ⟨k, hk⟩ := evI_ok (hlo y rfl) hl
        have : l ≤ (H : Int) := by omega
        simp [Instr.sliceBound, hk, asIntOf, hb1, this]
    have hhigh : ∀ (w : World) (cap : Nat), q.2 ≤ cap → (match hi.map ρ with | some v => Instr.sliceBound v cap .sliceAcap | none => pure q.2 : Sem Nat).run P w = .ok hh.toNat w := by
      intro w cap hcap
      cases hi with
      | none => simp at hhh; subst hhh; simp
      | some y =>
        obtain ⟨k, hk⟩ := evI_ok (hhi y rfl) hhh
        have h1 : (0 : Int) ≤ hh := by omega
        have h2 : hh ≤ (cap : Int) := by omega
        simp [Instr.sliceBound, hk, asIntOf, h1, h2]
    have hmain : ∀ (w : World) (a : Option Addr) (cap : Nat), q.2 ≤ cap → ρ x = .slice a q.2 cap → (execOp ρ ⟨dst, .slice t x lo hi none, ty, pos, after, guard⟩).run P w =
        .ok (.value (.slice (if cap = l.toNat then a else a.map (·.add (l.toNat * s))) (hh.toNat - l.toNat) (cap - l.toNat))) w := by
      intro w a cap hcap hva
      have h1 := hhigh w cap hcap
      have h2 := hlow w hh.toNat (by omega)
      simp only [execOp, Instr.sliceAt, Instr.slice, Instr.sliceBounds, Sem.run_bind, run_underlying hu, Result.andThen_ok, hva, Option.map_none, Sem.run_pure]
      cases lo <;> cases hi <;> simp_all [h.size hs]
    cases hq1 : q.1 with
    | none =>
      rw [hq1] at e hv
      cases e
      obtain ⟨hn, hva⟩ := hv
      have h0 : l.toNat = 0 := by omega
      have h1 : hh.toNat = 0 := by omega
      refine val_of ⟨.slice none 0 0, ⟨rfl, rfl⟩, fun w => ?_⟩
      show (execOp ρ _).run P w = _
      rw [hmain w none 0 (by omega) (by rw [hn]; exact hva), h0, h1]
      simp
    | some pq =>
      obtain ⟨i, o⟩ := pq
      rw [hq1] at e hv
      simp only at e
      split at e
      · rename_i hlh
        cases e
        obtain ⟨pl, c, hpl, hva, hle, hcap⟩ := hv
        intro w
        refine ⟨.slice (if c = l.toNat then some (pl.at o) else (some (pl.at o)).map (·.add (l.toNat * s))) 0 (c - l.toNat), ?_, ?_⟩
        · split
          · exact ⟨_, _, rfl⟩
          · exact ⟨_, _, rfl⟩
        · show (execOp ρ _).run P w = _
          rw [hmain w _ c hle hva, hlh, Nat.sub_self]
      · rename_i hne
        cases e
        obtain ⟨pl, c, hpl, hva, hle, hcap⟩ := hv
        refine val_of ⟨.slice (some (pl.at (o + l.toNat * s))) (hh - l).toNat (c - l.toNat), ⟨pl, c - l.toNat, hpl, rfl, by omega, fun h0 cc s' hc => ?_⟩, fun w => ?_⟩
        · have h1 : l.toNat = 0 := by
            rcases Nat.eq_zero_or_pos l.toNat with h | h
            · exact h
            · have := Nat.mul_pos h hb4
              omega
          rw [h1, Nat.sub_zero]
          exact hcap (by omega) cc s' hc
        · show (execOp ρ _).run P w = _
          rw [hmain w _ c hle hva, if_neg (by omega)]
          simp only [Option.map_some, at_add]
          congr 3
          omega
  · cases e
end
end Go.V
