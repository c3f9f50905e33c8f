/- Apart: the walk. The map's regions are shown by hand, the others by the evaluator. -/
import Derived.Test.YtemjdhglaljhbaaZLaw
import Derived.Test.YtemjdhglaljhbaaVPtF
import Derived.Test.YtemjdhglaljhbaaVEnvOk
namespace Go.Proofs.Ytemjdhglaljhbaa.Z
open Go.V
set_option maxRecDepth 10000
set_option linter.unusedSimpArgs false
set_option linter.unusedVariables false

theorem eeOk : EnvOk Try.prog EE := envOk (fun _ _ h => by cases h)
theorem mty : MTy Try.prog 151 3 4 where
  ht := by kernel_rfl
  hk := by kernel_rfl
  he := by kernel_rfl
  hz w := by
    obtain ⟨z, h1, h2⟩ := (tyOk (fun _ => none)).zero (t := 4) (x := .c (.bool false)) (by kernel_rfl)
    rw [h1, show z = .bool false from h2 fun _ => none]
variable {S R : St} {cb ca cc : C} {bs : List Rg} {la lb : List Int} {al ah bl bh : Int} {β : Map} {w0 w : World}
theorem wf_small {n : Int} (h0 : 0 ≤ n) (h1 : n < 2 ^ 62) : Wf n := by
  have e1 : IntKind.min .i64 = -9223372036854775808 := rfl
  have e2 : IntKind.max .i64 = 9223372036854775807 := rfl
  simp only [Wf, Lit.wf, e1, e2, Bool.and_eq_true, decide_eq_true_eq]
  omega
theorem mapI_mono {b n n' : Nat} {M : Int → Option Bool} (h : MapI Try.prog 3 4 b n M w) (hn : n ≤ n') : MapI Try.prog 3 4 b n' M w := by
  obtain ⟨D, h1, h2⟩ := h
  exact ⟨D, h1.mono hn, h2⟩
theorem treated_lt {l : List Int} {many : Nat} (h : ∀ i (h : i < l.length), 0 ≤ l[i] ∧ l[i] < many ∧ (0 < i → l[i - 1]'(by omega) < l[i])) : ∀ j (hj : j < l.length) i (hi : i < j), l[i]'(by omega) < l[j]
  | 0, _, i, hi => by omega
  | j + 1, hj, i, hi => by
    have h1 := (h (j + 1) hj).2.2 (by omega)
    simp only [Nat.add_sub_cancel] at h1
    by_cases e : i = j
    · subst e; exact h1
    · have := treated_lt h j (by omega) i (by omega)
      omega
/-- What is held of the entries that have come out. -/
def Held (bs : List Rg) (la lb : List Int) (left : Int → Bool) (x : Bool) (a : Rg) (ps : List Rg) : Prop :=
  (∀ f : Rg → Int, (ps.map f).sum = f a + visSum bs bs.length (fun i => !left i && whose la lb i == some x) f) ∧ ∀ r ∈ ps, GoodR r
theorem held_start {x : Bool} {a : Rg} (ha : GoodR a) : Held bs la lb (fun i => (whose la lb i).isSome) x a [a] := by
  refine ⟨fun f => ?_, fun r hr => by simp at hr; subst hr; exact ha⟩
  rw [visSum_none (fun i _ => by cases h : whose la lb i <;> simp [h])]
  simp
theorem held_add {left : Int → Bool} {x : Bool} {a : Rg} {ps : List Rg} (h : Held bs la lb left x a ps) {j : Nat} (hj : j < bs.length) (hl : left j = true) (hw : whose la lb j = some x) (hg : GoodR bs[j]) : Held bs la lb (fun i => left i && !decide (i = (j : Int))) x a (ps ++ [bs[j]]) := by
  refine ⟨fun f => ?_, fun r hr => ?_⟩
  · rw [List.map_append, List.sum_append, h.1, visSum_add (p := fun i => !left i && whose la lb i == some x) (q := fun i => !(left i && !decide ((i : Int) = (j : Int))) && whose la lb i == some x) (j := j) (by simp [hl]) (by simp [hw]) (fun i hi => by
      have : ¬ (i : Int) = (j : Int) := by omega
      simp [this]) hj]
    simp [hj]
    omega
  · rcases List.mem_append.1 hr with h1 | h1
    · exact h.2 r h1
    · simp at h1; subst h1; exact hg
theorem held_other {left : Int → Bool} {x y : Bool} {a : Rg} {ps : List Rg} (h : Held bs la lb left x a ps) {j : Int} (hw : whose la lb j = some y) (hxy : y ≠ x) : Held bs la lb (fun i => left i && !decide (i = j)) x a ps := by
  refine ⟨fun f => ?_, h.2⟩
  rw [h.1]
  congr 1
  refine visSum_congr fun i _ => ?_
  by_cases e : (i : Int) = j
  · rw [e, hw]; simp [hxy]
  · simp [e]
theorem held_len {left : Int → Bool} {x : Bool} {a : Rg} {ps : List Rg} (h : Held bs la lb left x a ps) (hb : ¬ 60 < bs.length) : ps.length ≤ 61 := by
  have h1 := h.1 fun _ => 1
  have h2 := visSum_one (bs := bs) (p := fun i => !left i && whose la lb i == some x) (n := bs.length)
  have h3 : (ps.map fun _ => (1 : Int)).sum = ps.length := by
    clear h h1
    induction ps with
    | nil => rfl
    | cons r l ih => simp only [List.map_cons, List.sum_cons, ih, List.length_cons]; omega
  omega
theorem whose_mem {j : Int} {x : Bool} (h : whose la lb j = some x) : j ∈ la ∨ j ∈ lb := by
  unfold whose at h
  split at h
  · rename_i h1; exact .inr h1
  · split at h
    · rename_i h1; exact .inl h1
    · cases h
theorem treated_mem {l : List Int} {many : Nat} {lo hi : Int} (h : treatedS many ((lo, hi), l) = true) {j : Int} (hj : j ∈ l) : 0 ≤ j ∧ j < many := by
  have ht : (ascS (-1) l && l.all (· < (many : Int))) = true := by
    unfold treatedS at h
    exact (Bool.and_eq_true _ _ ▸ h).1
  obtain ⟨i, hi, rfl⟩ := List.getElem_of_mem hj
  have := (treated_iff l many).1 ht i hi
  exact ⟨this.1, this.2.1⟩
theorem appR_ext {L : List (Option Blk)} {q z n bytes : Nat} {cs cs' : List C} (hq : L[q]? = some (some ⟨cs, some 2, true⟩)) (hz : L[z]? = some (some ⟨cs', some 2, true⟩)) (hcs : cs.length = n * 2) (hcs' : cs'.length = 2) (hlo : R.lo = R.n) (hB : (n + 1) * bytes ≤ maxBytes) (hB2 : n + 1 ≤ maxBytes) :
    appR 2 bytes (some (R.n + q, 0)) n (some (R.n + z, 0)) 1 (ext R L) = some (.sl (some (R.n + L.length, 0)) (n + 1), ext R (L.set q none ++ [some ⟨cs ++ cs', some 2, true⟩]), .app (some (R.n + q)) (some (R.n + z))) := by
  have hql : q < L.length := (List.getElem?_eq_some_iff.1 hq).1
  have h2 : cs'.take 2 = cs' := List.take_of_length_le (by omega)
  have hr : V.rowAt (ext R L) (some (R.n + z, 0)) (1 * 2) = some cs' := by
    simp only [V.rowAt, ext_at, hz, orOld_some, Option.bind_eq_bind, Option.bind_some]
    simp [hcs', h2]
  unfold appR
  rw [if_neg (by decide), hr]
  simp only [Option.bind_some]
  rw [if_pos ⟨hB, hB2⟩, ext_at, hq]
  simp [hcs, hlo, hql]
theorem encR_append (l m : List Rg) : encR (l ++ m) = encR l ++ encR m := by
  induction l with
  | nil => rfl
  | cons r l ih => simp [encR, ih]
/-- From the range on. -/
abbrev tail38b : Sk := ((Sk.reg 19 true s38_19).seq
      (((Sk.reg 20 false s38_20).seq (Sk.block 5 l38_2.loop)).seq
        ((Sk.reg 26 false s38_26).seq ((Sk.reg 27 false s38_27).seq ((Sk.reg 28 false s38_28).seq Sk.ret)))))
set_option maxHeartbeats 4000000 in
theorem walk3 (hn : S.n = R.n) (hh : S.h = R.h) (hlo : R.lo = R.n) (hb : SlR R cb bs) (lb1 : bs.length < 2 ^ 62)
    (h1 : ¬ 60 < bs.length) (h2 : (bs.all fun r => spanS r 0 10000000) = true) (h3 : treatedS bs.length ((al, ah), la) = true) (h4 : treatedS bs.length ((bl, bh), lb) = true) {b n : Nat} (hw : w0.heap.size ≤ b) (hM : MapI Try.prog 3 4 b n (whose la lb) w) {T : List Va}
    (hT : Jk (fun J1 => [J1 0, J1 1, J1 2, .x (.c (.ptr (some (R.n, 0)))), .x (.c (.ptr (some (R.n + 1, 0)))), .x (.c (.ptr (some (R.n + 2, 0)))), .x (.c (.ptr (some (R.n + 3, 0)))), .x (.c (.int .i64 0)), J1 8, .w (.map (some b)), J1 10, J1 11, J1 12, J1 13, J1 14, J1 15, J1 16, J1 17, J1 18, J1 19, J1 20, J1 21, J1 22, J1 23, J1 24, J1 25, J1 26, J1 27, J1 28, J1 29, J1 30, J1 31, J1 32, J1 33, J1 34, J1 35, J1 36, J1 37, J1 38, J1 39, J1 40, J1 41, J1 42, J1 43, J1 44, J1 45, J1 46, J1 47, J1 48, J1 49, J1 50, J1 51, J1 52, J1 53, J1 54, J1 55, J1 56, J1 57, J1 58, J1 59, J1 60, J1 61, J1 62, J1 63, J1 64, J1 65, J1 66, J1 67, J1 68, J1 69, J1 70, J1 71, J1 72, J1 73, J1 74, J1 75, J1 76, J1 77, J1 78, J1 79, J1 80, J1 81, J1 82, J1 83, J1 84, J1 85, J1 86, J1 87, J1 88, J1 89, J1 90, J1 91, J1 92, J1 93, J1 94, J1 95, J1 96, J1 97, J1 98, J1 99, J1 100, J1 101, J1 102, J1 103, J1 104, J1 105, J1 106, J1 107, J1 108, J1 109, J1 110, J1 111, J1 112]) T) :
    Hd Try.prog EE 38 113 β R w0 tail38b T (ext R [some ⟨[cb], none, true⟩, some ⟨[.int .i64 al, .int .i64 ah, ca], none, true⟩, some ⟨[.int .i64 bl, .int .i64 bh, cc], none, true⟩, some ⟨[.int .i64 0, .int .i64 0], none, true⟩]) w
      fun e T' S' _ => exitQ EE [.cell 6 24, .tmp 7] S (Is (.t [.a [.int .i64 (apartS bs ((al, ah), la) ((bl, bh), lb)).1.1, .int .i64 (apartS bs ((al, ah), la) ((bl, bh), lb)).1.2], .c (.int .i64 (apartS bs ((al, ah), la) ((bl, bh), lb)).2)]) S true) e T' S' := by
  obtain ⟨J1, rfl⟩ := hT
  refine hd_seq_wp eeOk (MapI Try.prog 3 4 b n _) MapI.still hM ?_
  simp [hlo, hn]
  intro w hM
  refine hd_size fun hw2 => ?_
  refine hd_seq_k ?_
  refine hd_seq_k (hd_regS (hds_move (v := .w (.map (some b))) rfl (flat_w _) (hds_range mty hM rfl fun w' cnt hR hcnt => hds_nil ?_)))
  generalize w.heap.size = r at hw2 hR ⊢
  simp only [V.put, List.set]
  refine hd_block (hd_loop (γ := Nat) (fun cnt T S' w => ∃ left g ps ms q1 q2, S' = ext R (some ⟨[cb], none, true⟩ :: some ⟨[.int .i64 al, .int .i64 ah, ca], none, true⟩ :: some ⟨[.int .i64 bl, .int .i64 bh, cc], none, true⟩ :: some ⟨[.int .i64 0, .int .i64 0], none, true⟩ :: g) ∧ RngI Try.prog 3 4 b r n (whose la lb) left cnt w ∧ g[q1]? = some (some ⟨encR ps, some 2, true⟩) ∧ g[q2]? = some (some ⟨encR ms, some 2, true⟩) ∧ q1 ≠ q2 ∧ Held bs la lb left false (al, ah) ps ∧ Held bs la lb left true (bl, bh) ms ∧
    Jk (fun J2 => [J2 0, J2 1, J2 2, .x (.c (.ptr (some (R.n, 0)))), .x (.c (.ptr (some (R.n + 1, 0)))), .x (.c (.ptr (some (R.n + 2, 0)))), .x (.c (.ptr (some (R.n + 3, 0)))), .x (.c (.int .i64 0)), J2 8, J2 9, J2 10, J2 11, J2 12, J2 13, .x (.c (.sl (some (R.n + (q1 + 4), 0)) ps.length)), .x (.c (.sl (some (R.n + (q2 + 4), 0)) ms.length)), J2 16, J2 17, J2 18, J2 19, J2 20, J2 21, J2 22, J2 23, J2 24, J2 25, J2 26, J2 27, J2 28, J2 29, J2 30, J2 31, J2 32, J2 33, J2 34, J2 35, J2 36, J2 37, J2 38, J2 39, J2 40, J2 41, J2 42, J2 43, J2 44, J2 45, J2 46, J2 47, J2 48, J2 49, J2 50, J2 51, J2 52, J2 53, J2 54, J2 55, J2 56, J2 57, J2 58, J2 59, J2 60, J2 61, J2 62, J2 63, J2 64, J2 65, J2 66, J2 67, J2 68, J2 69, J2 70, J2 71, J2 72, J2 73, J2 74, J2 75, J2 76, .w (.pointer (some ⟨r, 0, none⟩)), J2 78, J2 79, J2 80, J2 81, J2 82, J2 83, J2 84, J2 85, J2 86, J2 87, J2 88, J2 89, J2 90, J2 91, J2 92, J2 93, J2 94, J2 95, J2 96, J2 97, J2 98, J2 99, J2 100, J2 101, J2 102, J2 103, J2 104, J2 105, J2 106, J2 107, J2 108, J2 109, J2 110, J2 111, J2 112]) T) (fun cnt => cnt) ?_ cnt ⟨_, [some ⟨encR [(al, ah)], some 2, true⟩, some ⟨encR [(bl, bh)], some 2, true⟩], [(al, ah)], [(bl, bh)], 0, 1, rfl, hR, rfl, rfl, by omega, held_start ?_, held_start ?_, Jk_mk rfl⟩)
  rotate_left
  · exact (goodR_iff _).1 ((Bool.and_eq_true _ _ ▸ (show _ = true from h3 : (ascS (-1) la && la.all (· < (bs.length : Int)) && spanS (al, ah) 0 10000000) = true)).2)
  · exact (goodR_iff _).1 ((Bool.and_eq_true _ _ ▸ (show _ = true from h4 : (ascS (-1) lb && lb.all (· < (bs.length : Int)) && spanS (bl, bh) 0 10000000) = true)).2)
  rintro cnt T _ w ⟨left, g, ps, ms, q1, q2, rfl, hR, hg1, hg2, hq, hp, hm, ⟨J2, rfl⟩⟩
  refine hd_seq_k (hd_regS (hds_next mty hR hw2 rfl (fun hl => ?_) (fun j x w' cnt' hl hx hwf hR hlt hent => ?_)))
  · refine hds_extract (u := .bool false) (v := .x (.c (.bool false))) rfl rfl (fun β => rfl) (hds_nil ?_)
    simp only [V.put, List.set]
    refine hd_seq_k (hd_cond (b := false) (by simp) ?_)
    simp only [Bool.false_eq_true, if_false]
    refine hd_exit ?_
    simp only [if_true]
    have hl1 := held_len hp h1
    have hl2 := held_len hm h1
    have hq2 : q2 < g.length := (List.getElem?_eq_some_iff.1 hg2).1
    have hq1 : q1 < g.length := (List.getElem?_eq_some_iff.1 hg1).1
    have es1 : sumR ps = ((sumLo ps, sumHi ps), 0) := good_sumR hp.2 (by omega)
    have es2 : sumR ms = ((sumLo ms, sumHi ms), 0) := good_sumR hm.2 (by omega)
    have el := good_less hp.2 (by omega) hm.2 (by omega)
    have hap : apartS bs ((al, ah), la) ((bl, bh), lb) = ((sumLo ps - sumHi ms, sumHi ps - sumLo ms), 0) := by
      have e1 := hp.1 (·.1)
      have e2 := hp.1 (·.2)
      have e3 := hm.1 (·.1)
      have e4 := hm.1 (·.2)
      simp only [hl, Bool.not_false, Bool.true_and] at e1 e2 e3 e4
      simp only [apartS, h1, h2, h3, h4, if_false, Bool.not_true, Bool.or_self, Bool.false_eq_true, apartSum_eq, sumLo, sumHi, e1, e2, e3, e4]
    refine hd_wp1 eeOk (fun _ => True) still_true trivial ?_
    simp
    rw [r54 (l := ps) (SlR.mk (b := ⟨encR ps, some 2, true⟩) (by simp; omega) (by simp [hg1]) rfl rfl) (by omega)]
    simp [hlo]
    rw [r54 (l := ms) (SlR.mk (b := ⟨encR ms, some 2, true⟩) (by simp; omega) (by simp [List.set_append, List.getElem?_append_left hq2, hg2]) rfl rfl) (by omega)]
    simp [hlo]
    rw [r74, es1, es2, el]
    simp [hlo, hn, hap]
  · refine hds_extract (u := .bool true) (v := .x (.c (.bool true))) rfl rfl (fun β => rfl) (hds_nil ?_)
    simp only [V.put, List.set]
    refine hd_seq_k (hd_cond (b := true) (by simp) ?_)
    simp only [if_true]
    refine hd_skip (hd_block (hd_seq_k (hd_regS (hds_entry rfl hent (hds_extract (u := .int .i64 j) (v := .x (.c (.int .i64 j))) rfl rfl (fun β => rfl) (hds_extract (u := .bool x) (v := .x (.c (.bool x))) rfl rfl (fun β => rfl) (hds_assign (v := .x (.c (.int .i64 j))) rfl (flat_int _ _) (hds_assign (v := .x (.c (.bool x))) rfl (flat_bool _) (hds_nil ?_)))))))))
    simp only [V.put, List.set]
    refine hd_seq_wp eeOk (RngI Try.prog 3 4 b r n _ _ cnt') RngI.still hR ?_
    simp
    intro w hR
    refine hd_cond (b := x) (by simp) ?_
    have hj : 0 ≤ j ∧ j < bs.length := by
      rcases whose_mem hx with h | h
      · exact treated_mem h3 h
      · exact treated_mem h4 h
    obtain ⟨j, rfl⟩ : ∃ i : Nat, j = i := ⟨j.toNat, by omega⟩
    have hj : j < bs.length := by omega
    obtain ⟨i, o, bk, rfl, hbk, hi, hle, he, _, _⟩ := hb.at hj
    have hz : GoodR bs[j] := (goodR_iff _).1 (List.all_eq_true.1 h2 _ (List.getElem_mem hj))
    have hl1 := held_len hp h1
    have hl2 := held_len hm h1
    cases x with
    | true =>
      simp only [if_true]
      refine hd_wp1 eeOk (RngI Try.prog 3 4 b r n _ _ cnt') RngI.still hR ?_
      simp [hi, hbk, hle, he, hlo, hj]
      have hq2 : q2 < g.length := (List.getElem?_eq_some_iff.1 hg2).1
      have hq1 : q1 < g.length := (List.getElem?_eq_some_iff.1 hg1).1
      rw [appR_ext (q := q2 + 4) (z := g.length + 4) (cs := encR ms) (cs' := [.int .i64 bs[j].1, .int .i64 bs[j].2]) (by simp [List.getElem?_append_left hq2, hg2]) (by simp) (by simp) rfl hlo (by simp [maxBytes]; omega) (by simp [maxBytes]; omega)]
      have e1 : ((g ++ [some (⟨[.int .i64 bs[j].1, .int .i64 bs[j].2], some 2, true⟩ : Blk)]).set q2 none ++ [some (⟨encR ms ++ [.int .i64 bs[j].1, .int .i64 bs[j].2], some 2, true⟩ : Blk)])[q1]? = some (some ⟨encR ps, some 2, true⟩) := by
        rw [List.getElem?_append_left (by simp; omega), List.getElem?_set_ne (by omega), List.getElem?_append_left hq1, hg1]
      have e2 : ((g ++ [some (⟨[.int .i64 bs[j].1, .int .i64 bs[j].2], some 2, true⟩ : Blk)]).set q2 none ++ [some (⟨encR ms ++ [.int .i64 bs[j].1, .int .i64 bs[j].2], some 2, true⟩ : Blk)])[g.length + 1]? = some (some ⟨encR (ms ++ [bs[j]]), some 2, true⟩) := by
        rw [List.getElem?_append_right (by simp)]
        simp [encR_append, encR]
      have hlen : (ms ++ [bs[j]]).length = ms.length + 1 := by simp
      simp
      intro w' hR
      refine ⟨cnt', hlt, _, _, rfl, hR, ps, ms ++ [bs[j]], q1, e1, g.length + 1, e2, by omega, held_other hp hx (by simp), held_add hm hj hl hx hz, ?_⟩
      rw [hlen]
      exact Jk_mk rfl
    | false =>
      simp only [Bool.false_eq_true, if_false]
      refine hd_wp1 eeOk (RngI Try.prog 3 4 b r n _ _ cnt') RngI.still hR ?_
      simp [hi, hbk, hle, he, hlo, hj]
      have hq2 : q2 < g.length := (List.getElem?_eq_some_iff.1 hg2).1
      have hq1 : q1 < g.length := (List.getElem?_eq_some_iff.1 hg1).1
      rw [appR_ext (q := q1 + 4) (z := g.length + 4) (cs := encR ps) (cs' := [.int .i64 bs[j].1, .int .i64 bs[j].2]) (by simp [List.getElem?_append_left hq1, hg1]) (by simp) (by simp) rfl hlo (by simp [maxBytes]; omega) (by simp [maxBytes]; omega)]
      have e1 : ((g ++ [some (⟨[.int .i64 bs[j].1, .int .i64 bs[j].2], some 2, true⟩ : Blk)]).set q1 none ++ [some (⟨encR ps ++ [.int .i64 bs[j].1, .int .i64 bs[j].2], some 2, true⟩ : Blk)])[q2]? = some (some ⟨encR ms, some 2, true⟩) := by
        rw [List.getElem?_append_left (by simp; omega), List.getElem?_set_ne (by omega), List.getElem?_append_left hq2, hg2]
      have e2 : ((g ++ [some (⟨[.int .i64 bs[j].1, .int .i64 bs[j].2], some 2, true⟩ : Blk)]).set q1 none ++ [some (⟨encR ps ++ [.int .i64 bs[j].1, .int .i64 bs[j].2], some 2, true⟩ : Blk)])[g.length + 1]? = some (some ⟨encR (ps ++ [bs[j]]), some 2, true⟩) := by
        rw [List.getElem?_append_right (by simp)]
        simp [encR_append, encR]
      have hlen : (ps ++ [bs[j]]).length = ps.length + 1 := by simp
      simp
      intro w' hR
      refine ⟨cnt', hlt, _, _, rfl, hR, ps ++ [bs[j]], ms, g.length + 1, e2, q2, e1, by omega, held_add hp hj hl hx hz, held_other hm hx (by simp), ?_⟩
      rw [hlen]
      exact Jk_mk rfl
/-- What is left behind the checks. -/
abbrev tail38 : Sk := ((Sk.reg 6 false s38_6).seq
      (((Sk.reg 7 false s38_7).seq (Sk.block 1 l38_0.loop)).seq
        (((Sk.reg 12 false s38_12).seq (Sk.block 3 l38_1.loop)).seq
          ((Sk.reg 19 true s38_19).seq
            (((Sk.reg 20 false s38_20).seq (Sk.block 5 l38_2.loop)).seq
              ((Sk.reg 26 false s38_26).seq ((Sk.reg 27 false s38_27).seq ((Sk.reg 28 false s38_28).seq Sk.ret))))))))
set_option maxHeartbeats 4000000 in
theorem walk2 (hn : S.n = R.n) (hh : S.h = R.h) (hlo : R.lo = R.n) (hb : SlR R cb bs) (ha : SlI R ca la) (hc : SlI R cc lb) (lb1 : bs.length < 2 ^ 62) (la1 : la.length < 2 ^ 62) (lc1 : lb.length < 2 ^ 62)
    (h1 : ¬ 60 < bs.length) (h2 : (bs.all fun r => spanS r 0 10000000) = true) (h3 : treatedS bs.length ((al, ah), la) = true) (h4 : treatedS bs.length ((bl, bh), lb) = true) {T : List Va}
    (hT : Jk (fun J1 => [J1 0, J1 1, J1 2, .x (.c (.ptr (some (R.n, 0)))), .x (.c (.ptr (some (R.n + 1, 0)))), .x (.c (.ptr (some (R.n + 2, 0)))), .x (.c (.ptr (some (R.n + 3, 0)))), .x (.c (.int .i64 0)), J1 8, J1 9, J1 10, J1 11, J1 12, J1 13, J1 14, J1 15, J1 16, J1 17, J1 18, J1 19, J1 20, J1 21, J1 22, J1 23, J1 24, J1 25, J1 26, J1 27, J1 28, J1 29, J1 30, J1 31, J1 32, J1 33, J1 34, J1 35, J1 36, J1 37, J1 38, J1 39, J1 40, J1 41, J1 42, J1 43, J1 44, J1 45, J1 46, J1 47, J1 48, J1 49, J1 50, J1 51, J1 52, J1 53, J1 54, J1 55, J1 56, J1 57, J1 58, J1 59, J1 60, J1 61, J1 62, J1 63, J1 64, J1 65, J1 66, J1 67, J1 68, J1 69, J1 70, J1 71, J1 72, J1 73, J1 74, J1 75, J1 76, J1 77, J1 78, J1 79, J1 80, J1 81, J1 82, J1 83, J1 84, J1 85, J1 86, J1 87, J1 88, J1 89, J1 90, J1 91, J1 92, J1 93, J1 94, J1 95, J1 96, J1 97, J1 98, J1 99, J1 100, J1 101, J1 102, J1 103, J1 104, J1 105, J1 106, J1 107, J1 108, J1 109, J1 110, J1 111, J1 112]) T) :
    Hd Try.prog EE 38 113 β R w0 tail38 T (ext R [some ⟨[cb], none, true⟩, some ⟨[.int .i64 al, .int .i64 ah, ca], none, true⟩, some ⟨[.int .i64 bl, .int .i64 bh, cc], none, true⟩, some ⟨[.int .i64 0, .int .i64 0], none, true⟩]) w
      fun e T' S' _ => exitQ EE [.cell 6 24, .tmp 7] S (Is (.t [.a [.int .i64 (apartS bs ((al, ah), la) ((bl, bh), lb)).1.1, .int .i64 (apartS bs ((al, ah), la) ((bl, bh), lb)).1.2], .c (.int .i64 (apartS bs ((al, ah), la) ((bl, bh), lb)).2)]) S true) e T' S' := by
  obtain ⟨J1, rfl⟩ := hT
  refine hd_size fun hw => ?_
  refine hd_seq_k (hd_regS (hds_makeMap (k := 3) (e := 4) fun hM => hds_assign (v := .w (.map (some w.heap.size))) (by rfl) (flat_w _) (hds_nil ?_)))
  generalize w.alloc (.map #[] 0) = w1 at hM ⊢
  generalize w.heap.size = b at hw hM ⊢
  simp only [V.put, List.set]
  refine hd_seq_k ?_
  refine hd_seq_wp eeOk (MapI Try.prog 3 4 b 0 fun _ => none) MapI.still hM ?_
  simp [ha.lenC]
  intro w2 hM
  have ht3 : (ascS (-1) la && la.all (· < (bs.length : Int))) = true := by
    unfold treatedS at h3
    exact (Bool.and_eq_true _ _ ▸ h3).1
  have ht4 : (ascS (-1) lb && lb.all (· < (bs.length : Int))) = true := by
    unfold treatedS at h4
    exact (Bool.and_eq_true _ _ ▸ h4).1
  have hla : ∀ i (h : i < la.length), 0 ≤ la[i] ∧ la[i] < bs.length := fun i h => by
    have := (treated_iff la bs.length).1 ht3 i h
    exact ⟨this.1, this.2.1⟩
  have hlb : ∀ i (h : i < lb.length), 0 ≤ lb[i] ∧ lb[i] < bs.length := fun i h => by
    have := (treated_iff lb bs.length).1 ht4 i h
    exact ⟨this.1, this.2.1⟩
  refine hd_block (hd_loop (γ := Nat) (fun k T S' w => k ≤ la.length ∧ S' = ext R [some ⟨[cb], none, true⟩, some ⟨[.int .i64 al, .int .i64 ah, ca], none, true⟩, some ⟨[.int .i64 bl, .int .i64 bh, cc], none, true⟩, some ⟨[.int .i64 0, .int .i64 0], none, true⟩] ∧ MapI Try.prog 3 4 b k (fun i => if i ∈ la.take k then some true else none) w ∧ Jk (fun J1 => [J1 0, J1 1, J1 2, .x (.c (.ptr (some (R.n, 0)))), .x (.c (.ptr (some (R.n + 1, 0)))), .x (.c (.ptr (some (R.n + 2, 0)))), .x (.c (.ptr (some (R.n + 3, 0)))), .x (.c (.int .i64 0)), J1 8, .w (.map (some b)), J1 10, J1 11, J1 12, J1 13, J1 14, J1 15, J1 16, J1 17, J1 18, J1 19, J1 20, J1 21, J1 22, J1 23, J1 24, J1 25, J1 26, J1 27, J1 28, J1 29, J1 30, J1 31, J1 32, J1 33, J1 34, J1 35, J1 36, J1 37, J1 38, J1 39, J1 40, J1 41, J1 42, J1 43, J1 44, J1 45, .x (.c ca), .x (.c (.int .i64 la.length)), .x (.c (.int .i64 k)), J1 49, J1 50, J1 51, J1 52, J1 53, J1 54, J1 55, J1 56, J1 57, J1 58, J1 59, J1 60, J1 61, J1 62, J1 63, J1 64, J1 65, J1 66, J1 67, J1 68, J1 69, J1 70, J1 71, J1 72, J1 73, J1 74, J1 75, J1 76, J1 77, J1 78, J1 79, J1 80, J1 81, J1 82, J1 83, J1 84, J1 85, J1 86, J1 87, J1 88, J1 89, J1 90, J1 91, J1 92, J1 93, J1 94, J1 95, J1 96, J1 97, J1 98, J1 99, J1 100, J1 101, J1 102, J1 103, J1 104, J1 105, J1 106, J1 107, J1 108, J1 109, J1 110, J1 111, J1 112]) T) (fun k => la.length - k) ?_ 0 ⟨Nat.zero_le _, rfl, by simpa using hM, Jk_mk rfl⟩)
  clear hM
  rintro k T _ w ⟨hk, rfl, hM, ⟨J1, rfl⟩⟩
  refine hd_seq_wp eeOk (MapI Try.prog 3 4 b k _) MapI.still hM ?_
  simp
  intro w hM
  refine hd_seq_k (hd_cond (b := decide (k < la.length)) (by simp) ?_)
  by_cases hkl : k < la.length
  · simp only [hkl, decide_true, if_true]
    refine hd_skip ?_
    have hwf : Wf la[k] := by have := hla k hkl; exact wf_small (by omega) (by omega)
    have hmx : k < maxLen := by have : maxLen = 2 ^ 63 - 1 := rfl; omega
    have hupd : upd (fun i => if i ∈ la.take k then some true else none) la[k] (some true) = fun i => if i ∈ la.take (k + 1) then some true else none := by
      funext i
      rw [List.take_succ_eq_append_getElem hkl]
      generalize la.take k = p
      generalize la[k] = q
      by_cases e : i = q <;> simp [upd, e]
    refine hd_seq_k (hd_block (hd_seq_wp eeOk (MapI Try.prog 3 4 b k _) MapI.still hM ?_))
    obtain ⟨i, o, bk, rfl, hbk, hi, he⟩ := ha.at hkl
    simp [hkl, hi, hbk, he]
    intro w hM
    refine hd_regS (hds_move (v := .w (.map (some b))) rfl (flat_w _) (hds_move (v := .x (.c (.int .i64 la[k]))) rfl (flat_int _ _) (hds_update mty hM hw hmx rfl rfl hwf fun w' hM => hds_nil ?_)))
    rw [hupd] at hM
    simp only [V.put, List.set]
    refine hd_wp1 eeOk (MapI Try.prog 3 4 b (k + 1) _) MapI.still hM ?_
    simp
    intro w hM
    rw [wrap64 _ (by omega) (by omega)]
    exact ⟨k + 1, by omega, by omega, hM, Jk_mk rfl⟩
  simp only [hkl, decide_false]
  refine hd_exit ?_
  have hk' : la.take k = la := List.take_of_length_le (by omega)
  rw [hk'] at hM
  simp only [if_true]
  refine hd_seq_k ?_
  refine hd_seq_wp eeOk (MapI Try.prog 3 4 b k _) MapI.still hM ?_
  simp [hc.lenC]
  intro w hM
  have hM0 : MapI Try.prog 3 4 b (la.length + 0) (whose la (lb.take 0)) w := by
    have e : whose la (lb.take 0) = fun i => if i ∈ la then some true else none := by funext i; simp [whose]
    rw [e]
    exact mapI_mono hM (by omega)
  refine hd_block (hd_loop (γ := Nat) (fun k T S' w => k ≤ lb.length ∧ S' = ext R [some ⟨[cb], none, true⟩, some ⟨[.int .i64 al, .int .i64 ah, ca], none, true⟩, some ⟨[.int .i64 bl, .int .i64 bh, cc], none, true⟩, some ⟨[.int .i64 0, .int .i64 0], none, true⟩] ∧ MapI Try.prog 3 4 b (la.length + k) (whose la (lb.take k)) w ∧ Jk (fun J2 => [J2 0, J2 1, J2 2, .x (.c (.ptr (some (R.n, 0)))), .x (.c (.ptr (some (R.n + 1, 0)))), .x (.c (.ptr (some (R.n + 2, 0)))), .x (.c (.ptr (some (R.n + 3, 0)))), .x (.c (.int .i64 0)), J2 8, .w (.map (some b)), J2 10, J2 11, J2 12, J2 13, J2 14, J2 15, J2 16, J2 17, J2 18, J2 19, J2 20, J2 21, J2 22, J2 23, J2 24, J2 25, J2 26, J2 27, J2 28, J2 29, J2 30, J2 31, J2 32, J2 33, J2 34, J2 35, J2 36, J2 37, J2 38, J2 39, J2 40, J2 41, J2 42, J2 43, J2 44, J2 45, J2 46, J2 47, J2 48, J2 49, J2 50, J2 51, J2 52, J2 53, J2 54, J2 55, .x (.c cc), .x (.c (.int .i64 lb.length)), .x (.c (.int .i64 k)), J2 59, J2 60, J2 61, J2 62, J2 63, J2 64, J2 65, J2 66, J2 67, J2 68, J2 69, J2 70, J2 71, J2 72, J2 73, J2 74, J2 75, J2 76, J2 77, J2 78, J2 79, J2 80, J2 81, J2 82, J2 83, J2 84, J2 85, J2 86, J2 87, J2 88, J2 89, J2 90, J2 91, J2 92, J2 93, J2 94, J2 95, J2 96, J2 97, J2 98, J2 99, J2 100, J2 101, J2 102, J2 103, J2 104, J2 105, J2 106, J2 107, J2 108, J2 109, J2 110, J2 111, J2 112]) T) (fun k => lb.length - k) ?_ 0 ⟨Nat.zero_le _, rfl, hM0, Jk_mk rfl⟩)
  rintro k T _ w ⟨hk, rfl, hM, ⟨J2, rfl⟩⟩
  refine hd_seq_wp eeOk (MapI Try.prog 3 4 b (la.length + k) _) MapI.still hM ?_
  simp
  intro w hM
  refine hd_seq_k (hd_cond (b := decide (k < lb.length)) (by simp) ?_)
  by_cases hkl : k < lb.length
  · simp only [hkl, decide_true, if_true]
    refine hd_skip ?_
    have hwf : Wf lb[k] := by have := hlb k hkl; exact wf_small (by omega) (by omega)
    have hmx : la.length + k < maxLen := by have : maxLen = 2 ^ 63 - 1 := rfl; omega
    have hnew : lb[k] ∉ lb.take k := fun hm => by
      obtain ⟨i, hi, e⟩ := List.getElem_of_mem hm
      simp only [List.length_take] at hi
      have := treated_lt ((treated_iff lb bs.length).1 ht4) k hkl i (by omega)
      rw [List.getElem_take] at e
      omega
    have htk : lb.take (k + 1) = lb.take k ++ [lb[k]] := List.take_succ_eq_append_getElem hkl
    refine hd_seq_k (hd_block (hd_seq_wp eeOk (MapI Try.prog 3 4 b (la.length + k) _) MapI.still hM ?_))
    obtain ⟨i, o, bk, rfl, hbk, hi, he⟩ := hc.at hkl
    simp [hkl, hi, hbk, he]
    intro w hM
    refine hd_seq_k (hd_regS (hds_move (v := .w (.map (some b))) rfl (flat_w _) (hds_move (v := .x (.c (.int .i64 lb[k]))) rfl (flat_int _ _) (hds_look mty hM rfl rfl hwf (hds_nil ?_)))))
    simp only [V.put, List.set]
    by_cases hm : lb[k] ∈ la
    · have hv : (whose la (lb.take k) lb[k]).getD false = true := by simp [whose, hnew, hm]
      have hupd : upd (whose la (lb.take k)) lb[k] none = whose la (lb.take (k + 1)) := by
        funext i
        rw [htk]
        generalize lb.take k = p at *
        generalize lb[k] = q at *
        by_cases e : i = q <;> simp [upd, e, whose, hm]
      rw [hv]
      refine hd_cond (b := true) (by simp) ?_
      simp only [if_true]
      refine hd_regS (hds_move (v := .w (.map (some b))) rfl (flat_w _) (hds_move (v := .x (.c (.int .i64 lb[k]))) rfl (flat_int _ _) (hds_delete mty hM hw rfl rfl hwf fun w' hM => hds_nil ?_)))
      rw [hupd] at hM
      simp only [V.put, List.set]
      refine hd_wp1 eeOk (MapI Try.prog 3 4 b (la.length + k) _) MapI.still hM ?_
      simp
      intro w hM
      rw [wrap64 _ (by omega) (by omega)]
      exact ⟨k + 1, by omega, by omega, mapI_mono hM (by omega), Jk_mk rfl⟩
    · have hv : (whose la (lb.take k) lb[k]).getD false = false := by simp [whose, hnew, hm]
      have hupd : upd (whose la (lb.take k)) lb[k] (some false) = whose la (lb.take (k + 1)) := by
        funext i
        rw [htk]
        generalize lb.take k = p at *
        generalize lb[k] = q at *
        by_cases e : i = q <;> simp [upd, e, whose, hm]
      rw [hv]
      refine hd_cond (b := false) (by simp) ?_
      simp only [Bool.false_eq_true, if_false]
      refine hd_regS (hds_move (v := .w (.map (some b))) rfl (flat_w _) (hds_move (v := .x (.c (.int .i64 lb[k]))) rfl (flat_int _ _) (hds_update mty hM hw hmx rfl rfl hwf fun w' hM => hds_nil ?_)))
      rw [hupd] at hM
      simp only [V.put, List.set]
      refine hd_wp1 eeOk (MapI Try.prog 3 4 b (la.length + k + 1) _) MapI.still hM ?_
      simp
      intro w hM
      rw [wrap64 _ (by omega) (by omega)]
      exact ⟨k + 1, by omega, by omega, mapI_mono hM (by omega), Jk_mk rfl⟩
  simp only [hkl, decide_false]
  refine hd_exit ?_
  have hk' : lb.take k = lb := List.take_of_length_le (by omega)
  rw [hk'] at hM
  simp only [if_true]
  have hM : MapI Try.prog 3 4 b (la.length + lb.length) (whose la lb) w := mapI_mono hM (by omega)
  exact walk3 hn hh hlo hb lb1 h1 h2 h3 h4 hw hM (Jk_mk rfl)
set_option maxHeartbeats 4000000 in
theorem walk (hn : S.n = R.n) (hh : S.h = R.h) (hlo : R.lo = R.n) (hb : SlR R cb bs) (ha : SlI R ca la) (hc : SlI R cc lb) (lb1 : bs.length < 2 ^ 62) (la1 : la.length < 2 ^ 62) (lc1 : lb.length < 2 ^ 62) :
    Hd Try.prog EE 38 113 β R w0 k38 [.x (.c cb), .x (.a [.int .i64 al, .int .i64 ah, ca]), .x (.a [.int .i64 bl, .int .i64 bh, cc]), .u, .u, .u, .u, .u, .u, .u, .u, .u, .u, .u, .u, .u, .u, .u, .u, .u, .u, .u, .u, .u, .u, .u, .u, .u, .u, .u, .u, .u, .u, .u, .u, .u, .u, .u, .u, .u, .u, .u, .u, .u, .u, .u, .u, .u, .u, .u, .u, .u, .u, .u, .u, .u, .u, .u, .u, .u, .u, .u, .u, .u, .u, .u, .u, .u, .u, .u, .u, .u, .u, .u, .u, .u, .u, .u, .u, .u, .u, .u, .u, .u, .u, .u, .u, .u, .u, .u, .u, .u, .u, .u, .u, .u, .u, .u, .u, .u, .u, .u, .u, .u, .u, .u, .u, .u, .u, .u, .u, .u, .u] (ext R []) w
      fun e T' S' _ => exitQ EE [.cell 6 24, .tmp 7] S (Is (.t [.a [.int .i64 (apartS bs ((al, ah), la) ((bl, bh), lb)).1.1, .int .i64 (apartS bs ((al, ah), la) ((bl, bh), lb)).1.2], .c (.int .i64 (apartS bs ((al, ah), la) ((bl, bh), lb)).2)]) S true) e T' S' := by
  refine hd_seq_wp eeOk (fun _ => True) still_true trivial ?_
  simp
  intro w1
  refine hd_seq_wp eeOk (fun _ => True) still_true trivial ?_
  simp
  intro w2
  refine hd_seq_wp eeOk (fun _ => True) still_true trivial ?_
  simp [hb.lenC]
  refine Br_i (fun h1 => ?_) (fun h1 => ?_) <;> simp at h1 <;> simp [hlo, hn]
  · have : 60 < bs.length := by omega
    simp [apartS, this]
  have h60 : ¬ 60 < bs.length := by omega
  rw [r59]
  simp
  rw [r49 (hb.ext _) lb1]
  simp
  refine Br_i (fun h2 => ?_) (fun h2 => ?_) <;> simp [hlo, hn, h2]
  rotate_left
  · simp [apartS, h60, h2]
  rw [r73 (by simp) (by simp) (hb.ext _) lb1 (ha.ext _) la1]
  simp
  refine Br_i (fun h3 => ?_) (fun h3 => ?_) <;> simp [hlo, hn, h3]
  rotate_left
  · simp [apartS, h60, h2, h3]
  rw [r73 (by simp) (by simp) (hb.ext _) lb1 (hc.ext _) lc1]
  simp
  refine Br_i (fun h4 => ?_) (fun h4 => ?_) <;> simp [hlo, hn, h4]
  rotate_left
  · simp [apartS, h60, h2, h3, h4]
  intro w3
  exact walk2 hn hh hlo hb ha hc lb1 la1 lc1 h60 (by simpa using h2) (by simpa using h3) (by simpa using h4) (Jk_mk rfl)
end Go.Proofs.Ytemjdhglaljhbaa.Z
