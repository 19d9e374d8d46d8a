/-
  Owners under way: what both functions return; cells on the disk: the program's function.
-/
import Derived.Test.YtkjdhfkihampjaaRw
import Derived.Test.YtkjdhfkihampjaaVo
set_option linter.unusedSimpArgs false
set_option linter.unusedVariables false
namespace Go.Proofs.Ytkjdhfkihampjaa.V
open Go Go.RowKit
open Classical

/-- One of the first n notes is by the owner. -/
structure AnyO (es : List Row) (who : Int) (n : Nat) : Prop where
  h : ∃ j, j < n ∧ (rc (row es j) 1).int = who
noncomputable def anyB (es : List Row) (who : Int) (n : Nat) : Bool := decide (AnyO es who n)
theorem anyB_zero (es : List Row) (who : Int) : false = anyB es who (Int.toNat 0) := false_eq (fun ⟨j, h, _⟩ => by simp at h)
theorem anyB_yes {es : List Row} {who i : Int} (h0 : 0 ≤ i) (h : anyB es who i.toNat = true) : true = anyB es who (i + 1).toNat := by
  obtain ⟨j, h1, h2⟩ := of_decide_eq_true h
  exact true_eq ⟨⟨j, by omega, h2⟩⟩
theorem anyB_no {es : List Row} {who i : Int} (h0 : 0 ≤ i) (h : anyB es who i.toNat = false) : ((rc (row es i.toNat) 1).int == who) = anyB es who (i + 1).toNat := by
  have hn := of_decide_eq_false h
  by_cases e : (rc (row es i.toNat) 1).int = who
  · rw [show anyB es who (i + 1).toNat = true from (true_eq (p := AnyO es who (i + 1).toNat) ⟨⟨i.toNat, by omega, e⟩⟩).symm]; simpa using e
  · rw [show anyB es who (i + 1).toNat = false from (false_eq (p := AnyO es who (i + 1).toNat) (fun ⟨j, h1, h2⟩ => by
      by_cases ej : j = i.toNat
      · rw [ej] at h2; exact e h2
      · exact hn ⟨⟨j, by omega, h2⟩⟩)).symm]; simpa using e
/-- An owner of a note who has not ended is under way. -/
theorem los_under {s es : List Row} {n i : Int} (h : VN s es) (ha : anyB es n i.toNat = true) (hi : i ≤ es.length) (hn : NoEnd es n es.length) : UnderW es n := by
  obtain ⟨j, h1, h2⟩ := of_decide_eq_true ha
  refine ⟨hn, j, by omega, ?_, h2⟩
  cases hE : (rc (row es j) 0).bool with
  | false => rfl
  | true => exact absurd ⟨hE, h2⟩ (hn.h j (by omega))
theorem los_yes {s es : List Row} {n i : Int} (h : VN s es) (h0 : 0 ≤ n) (ha : anyB es n i.toNat = true) (hi : i ≤ es.length) (hn : NoEnd es n es.length) : opn es n.toNat ++ [[Sc.i n]] = opn es (n + 1).toNat := by
  rw [opn_step h0, if_pos (los_under h ha hi hn)]
theorem los_no {es : List Row} {n i : Int} (h0 : 0 ≤ n) (ha : anyB es n i.toNat = false) (hi : ¬ i < es.length) : opn es n.toNat = opn es (n + 1).toNat := by
  rw [opn_step h0, if_neg]
  rintro ⟨_, j, h1, _, h3⟩
  exact of_decide_eq_false ha ⟨⟨j, by omega, h3⟩⟩
theorem los_end {es : List Row} {n : Int} (h0 : 0 ≤ n) (hn : ¬ NoEnd es n es.length) : opn es n.toNat = opn es (n + 1).toNat := by
  rw [opn_step h0, if_neg (fun q => hn q.1)]
theorem losers_yes {s es : List Row} (h : VN s es) : opn es 8 = losersOf s es := by unfold losersOf; rw [if_pos h]
theorem losers_yes' {s es : List Row} {n : Int} (h : VN s es) (h1 : ¬ n ≤ 7) (h2 : n ≤ 8) : opn es n.toNat = losersOf s es := by rw [show n.toNat = 8 by omega]; exact losers_yes h
theorem losers_no {s es : List Row} (h : ¬ VN s es) : losersOf s es = [] := by unfold losersOf; rw [if_neg h]
theorem opn_bnd (es : List Row) {n : Int} (h0 : 0 ≤ n) (h : n ≤ 7) : ((opn es n.toNat).length + 1) * 8 ≤ 140737488355328 := by have := opn_len es n.toNat; omega
noncomputable def cLos : Ct := ⟨[], fun ds K => match ds with
  | [.view ks s, .view js es] => ks = KInt ∧ js = KNote ∧ (s.length ≤ 1048576 ∧ es.length ≤ 1048576) ∧ K (.fr 3 KInt (losersOf s es)) []
  | _ => False⟩
set_option maxRecDepth 100000 in
set_option maxHeartbeats 8000000 in
theorem p_sLos : Proved 14 cLos := by
  refine proved_of [(42, cVN), (43, cEnded)] ⟨p_svN, p_ended, trivial⟩ [.tmp 4] Try.func14 rfl rfl rfl rfl (by kernel_rfl) ?_
  intro ds K hrel
  simp only [cLos] at hrel
  split at hrel
  case h_2 => exact hrel.elim
  rename_i ks s js es
  obtain ⟨rfl, rfl, ⟨h1, h2⟩, hrel⟩ := hrel
  refine ⟨rfl, Nat.le_of_ble_eq_true rfl, fun k σ => match k with
    | 5 => some { α := Lv 5 Int, R := fun ⟨n⟩ => (0 ≤ n ∧ n ≤ 8) ∧ VN s es, μ := fun ⟨n⟩ => (8 - n).toNat, st := fun ⟨n⟩ => upH σ [(6, .int .i64 n), (5, .own 0)] 0 (.rows 3 KInt (opn es n.toNat)) }
    | 9 => match lookT σ.tm 6 with
      | .int _ n => some { α := Lv 9 Int, R := fun ⟨i⟩ => (0 ≤ i ∧ i ≤ es.length) ∧ True, μ := fun ⟨i⟩ => (es.length - i).toNat, st := fun ⟨i⟩ => up σ [(8, .int .i64 i), (7, .bool (anyB es n i.toNat))] }
      | _ => none
    | _ => none, ?_⟩
  repeat' (first | with_reducible refine And.intro ?_ ?_ | (with_reducible intro h; first | (exact absurd h (by decide)) | (guard_hyp h : true = true; clear h) | (guard_hyp h : false = false; clear h) | (have hq := (h : Lv 5 _); clear hq; obtain ⟨_⟩ := h) | (have hq := (h : Lv 9 _); clear hq; obtain ⟨_⟩ := h) | skip) | with_reducible exact True.intro | ((with_reducible refine (id ?_ : @Eq Bool (nodupN _) true)); kernel_rfl) | ((with_reducible refine (id ?_ : @Eq Bool (apartN _ _) true)); kernel_rfl) | ((with_reducible refine (id ?_ : @Eq Bool (formL _ _) true)); kernel_rfl) | ((with_reducible refine (id ?_ : @Eq _ _ _)); exact rfl) | ((conv => whnf); first | done | with_reducible refine And.intro ?_ ?_ | (with_reducible intro h; first | (exact absurd h (by decide)) | (guard_hyp h : true = true; clear h) | (guard_hyp h : false = false; clear h) | (have hq := (h : Lv 5 _); clear hq; obtain ⟨_⟩ := h) | (have hq := (h : Lv 9 _); clear hq; obtain ⟨_⟩ := h) | skip) | with_reducible exact True.intro | ((with_reducible refine (id ?_ : @Eq _ _ _)); exact rfl) | refine Exists.intro (⟨?_⟩ : Lv 5 _) ?_ | refine Exists.intro (⟨?_⟩ : Lv 9 _) ?_ | refine Exists.intro _ (Exists.intro _ (And.intro hrel ?_)) | exact Or.inl rfl | exact Or.inr (And.intro rfl rfl) | (apply Exists.intro; refine And.intro ?_ ?_)) | exact Nat.le_of_ble_eq_true rfl)
  all_goals (try ((try (change _ = _)) <;> (try dsimp only at *) <;> (try simp only [decide_eq_true_eq, decide_eq_false_iff_not, Bool.not_eq_true', Bool.not_eq_false', Bool.and_eq_true, Bool.and_eq_false_iff, beq_iff_eq, bne_iff_ne, beq_eq_false_iff_ne, bne_eq_false_iff_eq, ne_eq, Decidable.not_not, bne_self_eq_false, Bool.false_eq_true, Bool.true_eq_false, Bool.not_true, Bool.not_false, not_true_eq_false, not_false_eq_true, Int.toNat_natCast, Nat.zero_add, Nat.reduceAdd, Nat.reduceMul, Nat.reduceDiv, Nat.mul_one, lenK_one, big, fill_len, marking_len, marks_len, nrms_len, List.length_set, List.length_append, List.length_map, List.length_replicate, List.length_cons, List.length_nil, Int.natCast_add, Int.natCast_one, Int.natCast_zero] at *) <;> (repeat (with_reducible rename _ ∧ _ => hh; obtain ⟨_, _⟩ := hh)) <;> (first | omega | (refine fits_i64 ?_; omega) | (split <;> omega) | (with_reducible assumption) | (with_reducible exact opn_zero _) | (with_reducible exact (opn_zero _).symm) | (with_reducible exact anyB_zero _ _) | exact anyB_yes (by omega) (by with_reducible assumption) | exact anyB_no (by omega) (by with_reducible assumption) | (with_reducible exact los_yes (by with_reducible assumption) (by omega) (by with_reducible assumption) (by omega) (by with_reducible assumption)) | (with_reducible exact (los_yes (by with_reducible assumption) (by omega) (by with_reducible assumption) (by omega) (by with_reducible assumption)).symm) | (with_reducible exact los_no (by omega) (by with_reducible assumption) (by omega)) | (with_reducible exact los_end (by omega) (by with_reducible assumption)) | (with_reducible exact losers_yes' (by with_reducible assumption) (by omega) (by omega)) | (with_reducible exact losers_no (by with_reducible assumption)) | (with_reducible exact opn_bnd _ (by omega) (by omega)) | (with_reducible exact True.intro))))
set_option maxRecDepth 100000 in
set_option maxHeartbeats 4000000 in
theorem p_iLos : Proved 17 cLos := by
  refine proved_of [(25, cVN), (45, cOpn)] ⟨p_iVN, p_openOwners, trivial⟩ [.tmp 4] Try.func17 rfl rfl rfl rfl (by kernel_rfl) ?_
  intro ds K hrel
  simp only [cLos] at hrel
  split at hrel
  case h_2 => exact hrel.elim
  rename_i ks s js es
  obtain ⟨rfl, rfl, ⟨h1, h2⟩, hrel⟩ := hrel
  refine ⟨rfl, Nat.le_of_ble_eq_true rfl, fun _ _ => none, ?_⟩
  repeat' (first | with_reducible refine And.intro ?_ ?_ | (with_reducible intro h; first | (exact absurd h (by decide)) | (guard_hyp h : true = true; clear h) | (guard_hyp h : false = false; clear h) | skip) | with_reducible exact True.intro | ((with_reducible refine (id ?_ : @Eq Bool (nodupN _) true)); kernel_rfl) | ((with_reducible refine (id ?_ : @Eq Bool (apartN _ _) true)); kernel_rfl) | ((with_reducible refine (id ?_ : @Eq Bool (formL _ _) true)); kernel_rfl) | ((with_reducible refine (id ?_ : @Eq _ _ _)); exact rfl) | ((conv => whnf); first | done | with_reducible refine And.intro ?_ ?_ | (with_reducible intro h; first | (exact absurd h (by decide)) | (guard_hyp h : true = true; clear h) | (guard_hyp h : false = false; clear h) | skip) | with_reducible exact True.intro | ((with_reducible refine (id ?_ : @Eq _ _ _)); exact rfl) | refine Exists.intro _ (Exists.intro _ (And.intro hrel ?_)) | exact Or.inl rfl | exact Or.inr (And.intro rfl rfl) | (apply Exists.intro; refine And.intro ?_ ?_)) | exact Nat.le_of_ble_eq_true rfl)
  all_goals (try ((try (change _ = _)) <;> (try dsimp only at *) <;> (try simp only [decide_eq_true_eq, decide_eq_false_iff_not, Bool.not_eq_true', Bool.not_eq_false', Bool.and_eq_true, Bool.and_eq_false_iff, beq_iff_eq, bne_iff_ne, beq_eq_false_iff_ne, bne_eq_false_iff_eq, ne_eq, Decidable.not_not, bne_self_eq_false, Bool.false_eq_true, Bool.true_eq_false, Bool.not_true, Bool.not_false, not_true_eq_false, not_false_eq_true, Int.toNat_natCast, Nat.zero_add, Nat.reduceAdd, Nat.reduceMul, Nat.reduceDiv, Nat.mul_one, lenK_one, big, fill_len, marking_len, marks_len, nrms_len, List.length_set, List.length_append, List.length_map, List.length_replicate, List.length_cons, List.length_nil, Int.natCast_add, Int.natCast_one, Int.natCast_zero] at *) <;> (repeat (with_reducible rename _ ∧ _ => hh; obtain ⟨_, _⟩ := hh)) <;> (first | omega | (refine fits_i64 ?_; omega) | (split <;> omega) | (with_reducible assumption) | (with_reducible exact losers_yes (by with_reducible assumption)) | (with_reducible exact losers_no (by with_reducible assumption)) | (with_reducible exact vn_own (by with_reducible assumption)))))
/-! The cells, among the first notes. -/
theorem ct_yesN {s es : List Row} {t j u : Int} (h1 : (rc (row (es.take u.toNat) j.toNat) 0).bool = false) (h2 : (rc (row (es.take u.toNat) j.toNat) 2).int = t) (h0 : 0 ≤ j) (hj : j < u) : (rc (row (es.take u.toNat) j.toNat) 4).int = cellN s es t (j + 1) := by
  rw [row_take (by omega)] at h1 h2 ⊢; exact cN_yes h0 h1 h2
theorem ct_yesL {s es : List Row} {t j u : Int} (h1 : (rc (row (es.take u.toNat) j.toNat) 0).bool = false) (h2 : (rc (row (es.take u.toNat) j.toNat) 2).int = t) (h0 : 0 ≤ j) (hj : j < u) : j + 1 = cellL s es t (j + 1) := by
  rw [row_take (by omega)] at h1 h2; exact cL_yes h0 h1 h2
theorem ct_noEN {s es : List Row} {t j u : Int} (h1 : (rc (row (es.take u.toNat) j.toNat) 0).bool = true) (h0 : 0 ≤ j) (hj : j < u) : cellN s es t j = cellN s es t (j + 1) := by
  rw [row_take (by omega)] at h1; exact cN_noE h0 h1
theorem ct_noEL {s es : List Row} {t j u : Int} (h1 : (rc (row (es.take u.toNat) j.toNat) 0).bool = true) (h0 : 0 ≤ j) (hj : j < u) : cellL s es t j = cellL s es t (j + 1) := by
  rw [row_take (by omega)] at h1; exact cL_noE h0 h1
theorem ct_noTN {s es : List Row} {t j u : Int} (h1 : ¬ (rc (row (es.take u.toNat) j.toNat) 2).int = t) (h0 : 0 ≤ j) (hj : j < u) : cellN s es t j = cellN s es t (j + 1) := by
  rw [row_take (by omega)] at h1; exact cN_noT h0 h1
theorem ct_noTL {s es : List Row} {t j u : Int} (h1 : ¬ (rc (row (es.take u.toNat) j.toNat) 2).int = t) (h0 : 0 ≤ j) (hj : j < u) : cellL s es t j = cellL s es t (j + 1) := by
  rw [row_take (by omega)] at h1; exact cL_noT h0 h1
theorem ct_step {s es us : List Row} {i j : Int} (h0 : 0 ≤ i) (h1 : 0 ≤ j) (h2 : j ≤ (rc (row us i.toNat) 0).int) (h3 : ¬ j < min ((rc (row us i.toNat) 0).int.toNat : Int) es.length) (h4 : (rc (row us i.toNat) 0).int ≤ es.length) : cellsA s es us i.toNat ++ [[Sc.i (cellN s es i j), Sc.i (cellL s es i j)]] = cellsA s es us (i + 1).toNat := by
  rw [show j = (rc (row us i.toNat) 0).int by omega]; exact cells_stepI h0
theorem ct_bad {s es us : List Row} {i : Int} (h0 : 0 ≤ i) (hi : i < us.length) (h : ¬ (0 ≤ (rc (row us i.toNat) 0).int ∧ (rc (row us i.toNat) 0).int ≤ es.length)) : cellsAt s es us = [] := ca_no3 (fun q => h (q.h i.toNat (by omega)))
theorem ct_all {s es us : List Row} {i : Int} (h1 : VN s es) (h3 : AllIn us 0 es.length i) (h2 : (us.length : Int) = s.length) (hi : ¬ i < us.length) (hi2 : i ≤ us.length) : cellsA s es us i.toNat = cellsAt s es us := by
  refine ca_yes h1 (allIn_all h3 hi) h2 (by omega) (by omega)
theorem ct_len {us : List Row} {i : Int} {n : Nat} (h : i ≤ n) (hn : n ≤ 1048576) (s es : List Row) : ((cellsA s es us i.toNat).length + 1) * 16 ≤ 140737488355328 := by rw [cellsA_len]; omega
set_option maxRecDepth 100000 in
set_option maxHeartbeats 16000000 in
theorem p_iCellsAt : Proved 28 cCellsAt := by
  refine proved_of [(25, cVN)] ⟨p_iVN, trivial⟩ [.tmp 6] Try.func28 rfl rfl rfl rfl (by kernel_rfl) ?_
  intro ds K hrel
  simp only [cCellsAt] at hrel
  split at hrel
  case h_2 => exact hrel.elim
  rename_i ks s js es ls us
  obtain ⟨rfl, rfl, rfl, ⟨h1, h2, h3⟩, hrel⟩ := hrel
  refine ⟨rfl, Nat.le_of_ble_eq_true rfl, fun k σ => match k with
    | 5 => some { α := Lv 5 Int, R := fun ⟨i⟩ => (0 ≤ i ∧ i ≤ us.length ∧ (us.length : Int) ≤ s.length ∧ (s.length : Int) ≤ us.length) ∧ VN s es ∧ AllIn us 0 es.length i, μ := fun ⟨i⟩ => (us.length - i).toNat, st := fun ⟨i⟩ => upN σ [(26, .int .i64 i), (7, .own 0)] 0 (.rows 50 KCell (cellsA s es us i.toNat)) }
    | 11 => match lookT σ.tm 26 with
      | .int _ i => some { α := Lv 11 Int, R := fun ⟨j⟩ => (0 ≤ j ∧ j ≤ (rc (row us i.toNat) 0).int) ∧ True, μ := fun ⟨j⟩ => ((rc (row us i.toNat) 0).int - j).toNat, st := fun ⟨j⟩ => upH σ [(48, .int .i64 j)] 1 (.box [.int .i64 (cellN s es i j), .int .i64 (cellL s es i j)]) }
      | _ => none
    | _ => none, ?_⟩
  repeat' (first | with_reducible refine And.intro ?_ ?_ | (with_reducible intro h; first | (exact absurd h (by decide)) | (guard_hyp h : true = true; clear h) | (guard_hyp h : false = false; clear h) | (have hq := (h : Lv 5 _); clear hq; obtain ⟨_⟩ := h) | (have hq := (h : Lv 11 _); clear hq; obtain ⟨_⟩ := h) | skip) | with_reducible exact True.intro | ((with_reducible refine (id ?_ : @Eq Bool (nodupN _) true)); kernel_rfl) | ((with_reducible refine (id ?_ : @Eq Bool (apartN _ _) true)); kernel_rfl) | ((with_reducible refine (id ?_ : @Eq Bool (formL _ _) true)); kernel_rfl) | ((with_reducible refine (id ?_ : @Eq _ _ _)); exact rfl) | ((conv => whnf); first | done | with_reducible refine And.intro ?_ ?_ | (with_reducible intro h; first | (exact absurd h (by decide)) | (guard_hyp h : true = true; clear h) | (guard_hyp h : false = false; clear h) | (have hq := (h : Lv 5 _); clear hq; obtain ⟨_⟩ := h) | (have hq := (h : Lv 11 _); clear hq; obtain ⟨_⟩ := h) | skip) | with_reducible exact True.intro | ((with_reducible refine (id ?_ : @Eq _ _ _)); exact rfl) | refine Exists.intro (⟨?_⟩ : Lv 5 _) ?_ | refine Exists.intro (⟨?_⟩ : Lv 11 _) ?_ | refine Exists.intro _ (Exists.intro _ (And.intro hrel ?_)) | exact Or.inl rfl | exact Or.inr (And.intro rfl rfl) | (apply Exists.intro; refine And.intro ?_ ?_)) | exact Nat.le_of_ble_eq_true rfl)
  all_goals (try ((try (change _ = _)) <;> (try dsimp only at *) <;> (try simp only [decide_eq_true_eq, decide_eq_false_iff_not, Bool.not_eq_true', Bool.not_eq_false', Bool.and_eq_true, Bool.and_eq_false_iff, beq_iff_eq, bne_iff_ne, beq_eq_false_iff_ne, bne_eq_false_iff_eq, ne_eq, Decidable.not_not, bne_self_eq_false, Bool.false_eq_true, Bool.true_eq_false, Bool.not_true, Bool.not_false, not_true_eq_false, not_false_eq_true, Int.toNat_natCast, Nat.zero_add, Nat.reduceAdd, Nat.reduceMul, Nat.reduceDiv, Nat.mul_one, lenK_one, big, fill_len, marking_len, marks_len, nrms_len, List.length_set, List.length_append, List.length_map, List.length_replicate, List.length_cons, List.length_nil, Int.natCast_add, Int.natCast_one, Int.natCast_zero, List.drop_zero, Int.toNat_zero, List.length_take, List.length_drop, cellsA_len] at *) <;> (repeat (with_reducible rename _ ∧ _ => hh; obtain ⟨_, _⟩ := hh)) <;> (first | omega | (refine fits_i64 ?_; omega) | (split <;> omega) | (with_reducible assumption) | (with_reducible exact cells_zero' _ _ _) | (with_reducible exact (cells_zero' _ _ _).symm) | (with_reducible exact cells_zeroA _ _ _) | (with_reducible exact (cells_zeroA _ _ _).symm) | exact allIn_zero _ _ _ | exact allIn_step (by with_reducible assumption) (by omega) (by omega) | exact cN_zero _ _ _ | exact cL_zero _ _ _ | exact ct_yesN (by with_reducible assumption) (by with_reducible assumption) (by omega) (by omega) | exact ct_yesL (by with_reducible assumption) (by with_reducible assumption) (by omega) (by omega) | exact ct_noEN (by with_reducible assumption) (by omega) (by omega) | exact ct_noEL (by with_reducible assumption) (by omega) (by omega) | exact ct_noTN (by with_reducible assumption) (by omega) (by omega) | exact ct_noTL (by with_reducible assumption) (by omega) (by omega) | exact ct_step (by omega) (by omega) (by omega) (by omega) (by omega) | exact (ct_step (by omega) (by omega) (by omega) (by omega) (by omega)).symm | exact ct_bad (by omega) (by omega) (by omega) | exact ca_no1 (by with_reducible assumption) | exact ca_no2 (by omega) | exact ct_all (by with_reducible assumption) (by with_reducible assumption) (by omega) (by omega) (by omega) | (with_reducible exact True.intro))))
set_option maxRecDepth 100000 in
set_option maxHeartbeats 8000000 in
theorem p_fnExactLosersOf : Proved 3 (cLaw [.c (.s KInt), .c (.s KNote)]) := by
  refine proved_of [(13, cSz KNote), (15, cTo 3 KInt), (16, cTo 39 KNote), (18, cEq KInt), (19, cEq KNote), (20, cMark 3 KInt), (21, cMark 39 KNote), (22, cHeld KInt), (14, cLos), (17, cLos)] ⟨p_szNoteS, p_toIntS, p_toNoteS, p_eqIntS, p_eqNoteS, p_markIntS, p_markNoteS, p_heldIntS, p_sLos, p_iLos, trivial⟩ [.tmp 4] Try.func3 rfl rfl rfl rfl (by kernel_rfl) ?_
  rintro ds K ⟨⟨a, l, rfl, ⟨s, rfl, h1, -⟩, ⟨b, l', rfl, ⟨es, rfl, h2, -⟩, rfl⟩⟩, hrel⟩
  unfold maxLen at h1 h2
  have hol := losers_len (nrms KInt s) (nrms KNote es)
  refine ⟨rfl, Nat.le_of_ble_eq_true rfl, fun _ _ => none, ?_⟩
  repeat' (first | with_reducible refine And.intro ?_ ?_ | (with_reducible intro h; first | (exact absurd h (by decide)) | (guard_hyp h : true = true; clear h) | (guard_hyp h : false = false; clear h) | skip) | with_reducible exact True.intro | ((with_reducible refine (id ?_ : @Eq Bool (nodupN _) true)); kernel_rfl) | ((with_reducible refine (id ?_ : @Eq Bool (apartN _ _) true)); kernel_rfl) | ((with_reducible refine (id ?_ : @Eq Bool (formL _ _) true)); kernel_rfl) | ((with_reducible refine (id ?_ : @Eq _ _ _)); exact rfl) | ((conv => whnf); first | done | with_reducible refine And.intro ?_ ?_ | (with_reducible intro h; first | (exact absurd h (by decide)) | (guard_hyp h : true = true; clear h) | (guard_hyp h : false = false; clear h) | skip) | with_reducible exact True.intro | ((with_reducible refine (id ?_ : @Eq _ _ _)); exact rfl) | refine Exists.intro _ (Exists.intro _ (And.intro hrel ?_)) | exact Or.inl rfl | exact Or.inr (And.intro rfl rfl) | (apply Exists.intro; refine And.intro ?_ ?_)) | exact Nat.le_of_ble_eq_true rfl)
  all_goals (try ((try (change _ = _)) <;> (try dsimp only at *) <;> (try simp only [decide_eq_true_eq, decide_eq_false_iff_not, Bool.not_eq_true', Bool.not_eq_false', Bool.and_eq_true, Bool.and_eq_false_iff, beq_iff_eq, bne_iff_ne, beq_eq_false_iff_ne, bne_eq_false_iff_eq, ne_eq, Decidable.not_not, bne_self_eq_false, Bool.false_eq_true, Bool.true_eq_false, Bool.not_true, Bool.not_false, not_true_eq_false, not_false_eq_true, Int.toNat_natCast, Nat.zero_add, Nat.reduceAdd, Nat.reduceMul, Nat.reduceDiv, Nat.mul_one, lenK_one, big, fill_len, marking_len, marks_len, nrms_len, List.length_set, List.length_append, List.length_map, List.length_replicate, List.length_cons, List.length_nil, Int.natCast_add, Int.natCast_one, Int.natCast_zero, nrms_nrms, decide_true, losers_nrm, lenK_KInt, lenK_KNote] at *) <;> (repeat (with_reducible rename _ ∧ _ => hh; obtain ⟨_, _⟩ := hh)) <;> (first | omega | (refine fits_i64 ?_; omega) | (split <;> omega))))
set_option maxRecDepth 100000 in
set_option maxHeartbeats 8000000 in
theorem p_fnExactCellsAt : Proved 5 (cLaw [.c (.s KInt), .c (.s KNote), .c (.s KInt)]) := by
  refine proved_of [(13, cSz KNote), (15, cTo 3 KInt), (16, cTo 39 KNote), (18, cEq KInt), (19, cEq KNote), (29, cEq KCell), (20, cMark 3 KInt), (21, cMark 39 KNote), (30, cMark 50 KCell), (31, cHeld KCell), (27, cCellsAt), (28, cCellsAt)] ⟨p_szNoteS, p_toIntS, p_toNoteS, p_eqIntS, p_eqNoteS, p_eqCellS, p_markIntS, p_markNoteS, p_markCellS, p_heldCellS, p_sCellsAt, p_iCellsAt, trivial⟩ [.tmp 6] Try.func5 rfl rfl rfl rfl (by kernel_rfl) ?_
  rintro ds K ⟨⟨a, l, rfl, ⟨s, rfl, h1, -⟩, ⟨b, l', rfl, ⟨es, rfl, h2, -⟩, ⟨d, l2, rfl, ⟨us, rfl, h3, -⟩, rfl⟩⟩⟩, hrel⟩
  unfold maxLen at h1 h2 h3
  have hol := cellsAt_len (nrms KInt s) (nrms KNote es) (nrms KInt us)
  refine ⟨rfl, Nat.le_of_ble_eq_true rfl, fun _ _ => none, ?_⟩
  repeat' (first | with_reducible refine And.intro ?_ ?_ | (with_reducible intro h; first | (exact absurd h (by decide)) | (guard_hyp h : true = true; clear h) | (guard_hyp h : false = false; clear h) | skip) | with_reducible exact True.intro | ((with_reducible refine (id ?_ : @Eq Bool (nodupN _) true)); kernel_rfl) | ((with_reducible refine (id ?_ : @Eq Bool (apartN _ _) true)); kernel_rfl) | ((with_reducible refine (id ?_ : @Eq Bool (formL _ _) true)); kernel_rfl) | ((with_reducible refine (id ?_ : @Eq _ _ _)); exact rfl) | ((conv => whnf); first | done | with_reducible refine And.intro ?_ ?_ | (with_reducible intro h; first | (exact absurd h (by decide)) | (guard_hyp h : true = true; clear h) | (guard_hyp h : false = false; clear h) | skip) | with_reducible exact True.intro | ((with_reducible refine (id ?_ : @Eq _ _ _)); exact rfl) | refine Exists.intro _ (Exists.intro _ (And.intro hrel ?_)) | exact Or.inl rfl | exact Or.inr (And.intro rfl rfl) | (apply Exists.intro; refine And.intro ?_ ?_)) | exact Nat.le_of_ble_eq_true rfl)
  all_goals (try ((try (change _ = _)) <;> (try dsimp only at *) <;> (try simp only [decide_eq_true_eq, decide_eq_false_iff_not, Bool.not_eq_true', Bool.not_eq_false', Bool.and_eq_true, Bool.and_eq_false_iff, beq_iff_eq, bne_iff_ne, beq_eq_false_iff_ne, bne_eq_false_iff_eq, ne_eq, Decidable.not_not, bne_self_eq_false, Bool.false_eq_true, Bool.true_eq_false, Bool.not_true, Bool.not_false, not_true_eq_false, not_false_eq_true, Int.toNat_natCast, Nat.zero_add, Nat.reduceAdd, Nat.reduceMul, Nat.reduceDiv, Nat.mul_one, lenK_one, big, fill_len, marking_len, marks_len, nrms_len, List.length_set, List.length_append, List.length_map, List.length_replicate, List.length_cons, List.length_nil, Int.natCast_add, Int.natCast_one, Int.natCast_zero, nrms_nrms, decide_true, cellsAt_nrm, lenK_KInt, lenK_KNote, lenK_KCell] at *) <;> (repeat (with_reducible rename _ ∧ _ => hh; obtain ⟨_, _⟩ := hh)) <;> (first | omega | (refine fits_i64 ?_; omega) | (split <;> omega))))
end Go.Proofs.Ytkjdhfkihampjaa.V
