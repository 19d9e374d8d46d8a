/-
  Queues: the laws, as functions.
-/
import Derived.Test.YtbppiknmlipmpaaDoorQd
import Derived.Test.YtbppiknmlipmpaaDoorQe
set_option linter.unusedSimpArgs false
set_option linter.unusedVariables false
namespace Go.Proofs.YtbppiknmlipmpaaDoor.V
open Go Go.RowKit
open Classical

theorem qw_big (rs : List Row) : ((qwV rs).length : Int) < 9223372036854775808 := by have := qwV_len rs; omega
theorem qw_bigM (rs : List Row) : (qwV rs).length ≤ 1048576 := by have := qwV_len rs; omega
theorem dr_big (rs : List Row) (p : Int) : ((dropR rs p).length : Int) < 9223372036854775808 := by have := drop_len rs p; omega
theorem dr_bigM (rs : List Row) (p : Int) : (dropR rs p).length ≤ 1048576 := by have := drop_len rs p; omega
theorem dr_pos {rs : List Row} {p : Int} (h : dropB rs p = true) : 0 ≤ grL rs := by
  have hv := (of_decide_eq_true h).1
  rw [grL_yes hv]; exact (grtV_r rs).1
theorem fits_was {rs : List Row} (p : Int) (i : Nat) (h : rs.length ≤ 8) : Fits .i64 (grL rs - wasV rs p i) := by
  have h1 := was_r rs p i
  have h2 := grL_r rs
  exact fits_i64 ⟨by omega, by omega⟩
theorem drop_fin {rs : List Row} {p i : Int} (hn : nrms KRequest rs = rs) (hb : dropB rs p = true) (hi : i ≤ grL rs) (hx : ¬ i < grL rs ∨ ¬ i < rs.length) : grL rs - wasV rs p i.toNat ≤ grL (dropR rs p) := drop_ge hn hb (by have := (grL_r rs).2; omega)
set_option maxRecDepth 100000 in
set_option maxHeartbeats 16000000 in
theorem p_fnQueueWaits : Proved 4 (cLaw [.c (.s KU8)]) := by
  refine proved_of [(11, cDR1), (12, cQW), (14, cQW), (13, cEq KWait), (10, cGrL), (15, cLF)] ⟨p_drawQueueWaits, p_iQW, p_sQW, p_equalWaitS, p_iGrt, p_iLF, trivial⟩ [.tmp 2] Tryd.func4 rfl rfl rfl rfl (by kernel_rfl) ?_
  rintro ds K ⟨hds, hrel⟩
  obtain ⟨xs, rfl, h1, h2⟩ := law_code hds
  unfold maxLen at h1
  refine ⟨rfl, Nat.le_of_ble_eq_true rfl, fun k σ => match lookT σ.tm 3 with
    | .view _ rs => match k with
      | 9 => some { α := Lv 9 Int, R := fun ⟨i⟩ => (0 ≤ i ∧ i ≤ rs.length ∧ rs.length ≤ 8 ∧ (qwV rs).length ≤ 100), μ := fun ⟨i⟩ => (rs.length - i).toNat, st := fun ⟨i⟩ => up σ [(6, .int .i64 i)] }
      | 13 => match lookT σ.tm 6 with
        | .int _ i => some { α := Lv 13 Int, R := fun ⟨k⟩ => (0 ≤ k ∧ k ≤ (qwV rs).length ∧ (qwV rs).length ≤ 100), μ := fun ⟨k⟩ => ((qwV rs).length - k).toNat, st := fun ⟨k⟩ => up σ [(8, .int .i64 k), (7, .bool (sqB (qwV rs) (rc (row rs i.toNat) 0).int k.toNat))] }
        | _ => none
      | _ => none
    | _ => none, ?_⟩
  repeat' (first | with_reducible refine And.intro ?_ ?_ | (with_reducible intro h; first | (exact absurd h (by decide)) | (guard_hyp h : true = true; clear h) | (guard_hyp h : false = false; clear h) | (have hq := (h : Lv 9 _); clear hq; obtain ⟨_⟩ := h) | (have hq := (h : Lv 13 _); clear hq; obtain ⟨_⟩ := h) | skip) | with_reducible exact True.intro | ((with_reducible refine (id ?_ : @Eq Bool (nodupN _) true)); kernel_rfl) | ((with_reducible refine (id ?_ : @Eq Bool (apartN _ _) true)); kernel_rfl) | ((with_reducible refine (id ?_ : @Eq Bool (formL _ _) true)); kernel_rfl) | ((with_reducible refine (id ?_ : @Eq _ _ _)); exact rfl) | ((conv => whnf); first | done | with_reducible refine And.intro ?_ ?_ | (with_reducible intro h; first | (exact absurd h (by decide)) | (guard_hyp h : true = true; clear h) | (guard_hyp h : false = false; clear h) | (have hq := (h : Lv 9 _); clear hq; obtain ⟨_⟩ := h) | (have hq := (h : Lv 13 _); clear hq; obtain ⟨_⟩ := h) | skip) | with_reducible exact True.intro | ((with_reducible refine (id ?_ : @Eq _ _ _)); exact rfl) | refine Exists.intro (⟨?_⟩ : Lv 9 _) ?_ | refine Exists.intro (⟨?_⟩ : Lv 13 _) ?_ | refine Exists.intro _ (Exists.intro _ (And.intro hrel ?_)) | exact Or.inl rfl | exact Or.inr (And.intro rfl rfl) | (apply Exists.intro; refine And.intro ?_ ?_)) | exact Nat.le_of_ble_eq_true rfl)
  all_goals (try ((try (change _ = _)) <;> (try dsimp only at *) <;> (try simp only [decide_eq_true_eq, decide_eq_false_iff_not, Bool.not_eq_true', Bool.not_eq_false', Bool.and_eq_true, Bool.and_eq_false_iff, beq_iff_eq, bne_iff_ne, beq_eq_false_iff_ne, bne_eq_false_iff_eq, ne_eq, Decidable.not_not, bne_self_eq_false, Bool.false_eq_true, Bool.true_eq_false, Bool.not_true, Bool.not_false, not_true_eq_false, not_false_eq_true, Int.toNat_natCast, Nat.zero_add, Nat.reduceAdd, Nat.reduceMul, Nat.reduceDiv, Nat.mul_one, lenK_one, big, fill_len, marking_len, marks_len, nrms_len, List.length_set, List.length_append, List.length_map, List.length_replicate, List.length_cons, List.length_nil, Int.natCast_add, Int.natCast_one, Int.natCast_zero, decide_true, nrms_nrms] at *) <;> (repeat (with_reducible rename _ ∧ _ => hh; obtain ⟨_, _⟩ := hh)) <;> (first | omega | (refine fits_i64 ?_; omega) | (split <;> omega) | exact h2 _ (by with_reducible assumption) | (with_reducible assumption) | (with_reducible exact qw_big _) | (with_reducible exact qw_bigM _) | (with_reducible exact dr_big _ _) | (with_reducible exact dr_bigM _ _) | (with_reducible exact qwV_len _) | (with_reducible exact sq_zero _ _) | (with_reducible exact sq_old (by with_reducible assumption) (by omega)) | (with_reducible exact sq_dec (by with_reducible assumption) (by omega)) | (with_reducible exact sq_yes (by with_reducible assumption) (by omega)) | (with_reducible exact sq_no (by with_reducible assumption) (by with_reducible assumption) (by omega)) | (exfalso; exact sq_fin' (by with_reducible assumption) (by omega) (by omega) (by omega) (by omega) (by omega)) | (exfalso; exact sq_bne (by with_reducible assumption) (by omega) (by omega) (by omega) (by omega) (by omega)) | (with_reducible exact lock_qwV0 _) | (rw [lock_qwV0]; simp; done) | (rw [lock_qwV]; simp; done))))
set_option maxRecDepth 100000 in
set_option maxHeartbeats 16000000 in
theorem p_fnDropLock : Proved 3 (cLaw [.c (.s KU8)]) := by
  refine proved_of [(6, cDR2), (7, cDrop), (8, cDrop), (9, cEq KRequest), (10, cGrL)] ⟨p_drawDropLock, p_iDrop, p_sDrop, p_equalRequestS, p_iGrt, trivial⟩ [.tmp 2] Tryd.func3 rfl rfl rfl rfl (by kernel_rfl) ?_
  rintro ds K ⟨hds, hrel⟩
  obtain ⟨xs, rfl, h1, h2⟩ := law_code hds
  unfold maxLen at h1
  refine ⟨rfl, Nat.le_of_ble_eq_true rfl, fun k σ => match lookT σ.tm 3 with
    | .view _ rs => match lookT σ.tm 4 with
      | .int _ p => match k with
        | 11 => some { α := Lv 11 Int, R := fun ⟨i⟩ => (0 ≤ i ∧ i ≤ grL rs ∧ rs.length ≤ 8) ∧ dropB rs p = true, μ := fun ⟨i⟩ => (rs.length - i).toNat, st := fun ⟨i⟩ => up σ [(11, .int .i64 i), (10, .int .i64 (wasV rs p i.toNat))] }
        | _ => none
      | _ => none
    | _ => none, ?_⟩
  repeat' (first | with_reducible refine And.intro ?_ ?_ | (with_reducible intro h; first | (exact absurd h (by decide)) | (guard_hyp h : true = true; clear h) | (guard_hyp h : false = false; clear h) | (have hq := (h : Lv 11 _); clear hq; obtain ⟨_⟩ := h) | skip) | with_reducible exact True.intro | ((with_reducible refine (id ?_ : @Eq Bool (nodupN _) true)); kernel_rfl) | ((with_reducible refine (id ?_ : @Eq Bool (apartN _ _) true)); kernel_rfl) | ((with_reducible refine (id ?_ : @Eq Bool (formL _ _) true)); kernel_rfl) | ((with_reducible refine (id ?_ : @Eq _ _ _)); exact rfl) | ((conv => whnf); first | done | with_reducible refine And.intro ?_ ?_ | (with_reducible intro h; first | (exact absurd h (by decide)) | (guard_hyp h : true = true; clear h) | (guard_hyp h : false = false; clear h) | (have hq := (h : Lv 11 _); clear hq; obtain ⟨_⟩ := h) | skip) | with_reducible exact True.intro | ((with_reducible refine (id ?_ : @Eq _ _ _)); exact rfl) | refine Exists.intro (⟨?_⟩ : Lv 11 _) ?_ | refine Exists.intro _ (Exists.intro _ (And.intro hrel ?_)) | exact Or.inl rfl | exact Or.inr (And.intro rfl rfl) | (apply Exists.intro; refine And.intro ?_ ?_)) | exact Nat.le_of_ble_eq_true rfl)
  all_goals (try ((try (change _ = _)) <;> (try dsimp only at *) <;> (try simp only [decide_eq_true_eq, decide_eq_false_iff_not, Bool.not_eq_true', Bool.not_eq_false', Bool.and_eq_true, Bool.and_eq_false_iff, beq_iff_eq, bne_iff_ne, beq_eq_false_iff_ne, bne_eq_false_iff_eq, ne_eq, Decidable.not_not, bne_self_eq_false, Bool.false_eq_true, Bool.true_eq_false, Bool.not_true, Bool.not_false, not_true_eq_false, not_false_eq_true, Int.toNat_natCast, Nat.zero_add, Nat.reduceAdd, Nat.reduceMul, Nat.reduceDiv, Nat.mul_one, lenK_one, big, fill_len, marking_len, marks_len, nrms_len, List.length_set, List.length_append, List.length_map, List.length_replicate, List.length_cons, List.length_nil, Int.natCast_add, Int.natCast_one, Int.natCast_zero, decide_true, nrms_nrms] at *) <;> (repeat (with_reducible rename _ ∧ _ => hh; obtain ⟨_, _⟩ := hh)) <;> (first | omega | (refine fits_i64 ?_; omega) | (split <;> omega) | exact h2 _ (by with_reducible assumption) | (with_reducible assumption) | (with_reducible exact qw_big _) | (with_reducible exact qw_bigM _) | (with_reducible exact dr_big _ _) | (with_reducible exact dr_bigM _ _) | (with_reducible exact qwV_len _) | (with_reducible exact was_zero _ _) | (with_reducible exact was_yes (by with_reducible assumption) (by omega)) | (with_reducible exact was_yes (by omega) (by omega)) | (with_reducible exact was_no (by omega) (by omega)) | (with_reducible exact dr_pos (by with_reducible assumption)) | (with_reducible exact fits_was _ _ (by omega)) | (exact drop_fin (by with_reducible assumption) (by with_reducible assumption) (by omega) (by omega)) | (exfalso; have q := drop_l1 (by with_reducible assumption) (by with_reducible assumption); omega) | (have q := drop_l1 (by with_reducible assumption) (by with_reducible assumption); omega) | (have q := drop_fin (by with_reducible assumption) (by with_reducible assumption) (by omega) (by omega); omega) | (exfalso; have q := drop_fin (by with_reducible assumption) (by with_reducible assumption) (by omega) (by omega); omega))))
end Go.Proofs.YtbppiknmlipmpaaDoor.V
