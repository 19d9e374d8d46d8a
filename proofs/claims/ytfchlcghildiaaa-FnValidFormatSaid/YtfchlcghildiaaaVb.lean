/-
  Rows that fit a format; the laws that the program answers as the reference does, as functions.
-/
import Derived.Test.YtfchlcghildiaaaVa
set_option linter.unusedSimpArgs false
set_option linter.unusedVariables false
namespace Go.Proofs.Ytfchlcghildiaaa.V
open Go Go.RowKit
open Classical

/-- The first n values of a row are valid. -/
structure RowN (xs : List Row) (n : Int) : Prop where
  h : ∀ j : Nat, (j : Int) < n → VV (rc (row xs j) 0).int (rc (row xs j) 1).int (rc (row xs j) 2).str
theorem rowN_zero (xs : List Row) : RowN xs 0 := ⟨fun j h => by omega⟩
theorem rowN_step {xs : List Row} {i : Int} (h : RowN xs i) (h1 : VV (rc (row xs i.toNat) 0).int (rc (row xs i.toNat) 1).int (rc (row xs i.toNat) 2).str) : RowN xs (i + 1) := ⟨fun j hj => by
  by_cases e : (j : Int) = i
  · subst e; exact h1
  · exact h.h j (by omega)⟩
structure VRow (xs : List Row) : Prop where
  l5 : xs.length ≤ 5
  a : RowN xs xs.length
theorem vr_bad {xs : List Row} {i : Int} (_ : RowN xs i) (h0 : 0 ≤ i) (hi : i < xs.length) (h : ¬ VV (rc (row xs i.toNat) 0).int (rc (row xs i.toNat) 1).int (rc (row xs i.toNat) 2).str) : ¬ VRow xs := fun v => h (v.a.h i.toNat (by omega))
theorem vr_pick {xs : List Row} {i : Int} (h : RowN xs i) (hi : ¬ i < xs.length) : decide ((xs.length : Int) ≤ 5) = decide (VRow xs) := by
  rw [decide_eq_decide]; exact ⟨fun q => ⟨by omega, ⟨fun j hj => h.h j (by omega)⟩⟩, fun v => by have := v.l5; omega⟩
noncomputable def cVRow : Ct := ⟨[], fun ds K => match ds with
  | [.view ks xs] => ks = KValue ∧ (xs.length : Int) < big ∧ SL 2 xs ∧ K (.bool (decide (VRow xs))) []
  | _ => False⟩
set_option maxRecDepth 100000 in
set_option maxHeartbeats 4000000 in
theorem p_svRow : Proved 73 cVRow := by
  refine proved_of [(75, cVV)] ⟨p_sVV, trivial⟩ [.tmp 2] Try.func73 rfl rfl rfl rfl (by kernel_rfl) ?_
  intro ds K hrel
  simp only [cVRow] at hrel
  split at hrel
  case h_2 => exact hrel.elim
  rename_i ks xs
  obtain ⟨rfl, h1, hs, hrel⟩ := hrel
  refine ⟨rfl, Nat.le_of_ble_eq_true rfl, fun k σ => match k with
    | 2 => some { α := Lv 2 Int, R := fun ⟨i⟩ => (0 ≤ i ∧ i ≤ xs.length) ∧ RowN xs i, μ := fun ⟨i⟩ => (xs.length - i).toNat, st := fun ⟨i⟩ => up σ [(3, .int .i64 i)] }
    | _ => none, ?_⟩
  repeat' (first | refine And.intro ?_ ?_ | (intro h; first | (exact absurd h (by decide)) | (guard_hyp h : true = true; clear h) | (guard_hyp h : false = false; clear h) | (have hq := (h : Lv 2 _); clear hq; obtain ⟨_⟩ := h) | skip) | refine Exists.intro (⟨?_⟩ : Lv 2 _) ?_ | refine Exists.intro _ (Exists.intro _ (And.intro hrel ?_)) | exact rfl | exact True.intro | exact Or.inl rfl | exact Or.inr (And.intro rfl rfl) | exact Nat.le_of_ble_eq_true rfl | (apply Exists.intro; refine And.intro ?_ ?_))
  all_goals (try ((try (change _ = _)) <;> (try dsimp only at *) <;> (try simp only [decide_eq_true_eq, decide_eq_false_iff_not, Bool.not_eq_true', Bool.not_eq_false', Bool.and_eq_true, Bool.and_eq_false_iff, beq_iff_eq, bne_iff_ne, beq_eq_false_iff_ne, bne_eq_false_iff_eq, ne_eq, Decidable.not_not, bne_self_eq_false, Bool.false_eq_true, Bool.true_eq_false, Bool.not_true, Bool.not_false, not_true_eq_false, not_false_eq_true, Int.toNat_natCast, Nat.zero_add, Nat.reduceAdd, Nat.reduceMul, Nat.reduceDiv, Nat.mul_one, lenK_one, big, fill_len, marking_len, marks_len, nrms_len, List.length_set, List.length_append, List.length_map, List.length_replicate, List.length_cons, List.length_nil, Int.natCast_add, Int.natCast_one, Int.natCast_zero] at *) <;> (repeat (with_reducible rename _ ∧ _ => hh; obtain ⟨_, _⟩ := hh)) <;> (first | omega | (refine fits_i64 ?_; omega) | (split <;> omega) | exact hs.h _ | exact rowN_zero _ | exact rowN_step (by with_reducible assumption) (by with_reducible assumption) | exact false_eq (vr_bad (by with_reducible assumption) (by omega) (by omega) (by with_reducible assumption)) | exact vr_pick (by with_reducible assumption) (by omega))))

/-- The first n values of a row are of the columns' kinds, or missing. -/
structure KnN (f xs : List Row) (n : Int) : Prop where
  h : ∀ j : Nat, (j : Int) < n → (rc (row xs j) 0).int = 0 ∨ (rc (row xs j) 0).int = (rc (row f j) 0).int
theorem knN_zero (f xs : List Row) : KnN f xs 0 := ⟨fun j h => by omega⟩
theorem knN_step {f xs : List Row} {i : Int} (h : KnN f xs i) (h1 : (rc (row xs i.toNat) 0).int = 0 ∨ (rc (row xs i.toNat) 0).int = (rc (row f i.toNat) 0).int) : KnN f xs (i + 1) := ⟨fun j hj => by
  by_cases e : (j : Int) = i
  · subst e; exact h1
  · exact h.h j (by omega)⟩
/-- A row that has a format. -/
structure Fts (f xs : List Row) : Prop where
  l : xs.length = f.length
  v : VRow xs
  k : KnN f xs xs.length
theorem fts_len {f xs : List Row} (h : ¬ (xs.length : Int) = f.length) : ¬ Fts f xs := fun q => h (by have := q.l; omega)
theorem fts_kind {f xs : List Row} {i : Int} (_ : KnN f xs i) (h0 : 0 ≤ i) (hi : i < xs.length) (h : ¬ (rc (row xs i.toNat) 0).int = 0) (h2 : ¬ (rc (row xs i.toNat) 0).int = (rc (row f i.toNat) 0).int) : ¬ Fts f xs := fun q => (q.k.h i.toNat (by omega)).elim h h2
theorem fts_val {f xs : List Row} {i : Int} (hr : RowN xs i) (h0 : 0 ≤ i) (hi : i < xs.length) (h : ¬ VV (rc (row xs i.toNat) 0).int (rc (row xs i.toNat) 1).int (rc (row xs i.toNat) 2).str) : ¬ Fts f xs := fun q => vr_bad hr h0 hi h q.v
theorem fts_yes {f xs : List Row} {i : Int} (h : KnN f xs i) (hv : VRow xs) (hi : ¬ i < xs.length) (hl : (xs.length : Int) = f.length) : Fts f xs := ⟨by omega, hv, ⟨fun j hj => h.h j (by omega)⟩⟩
noncomputable def cFts : Ct := ⟨[], fun ds K => match ds with
  | [.view js f, .view ks xs] => js = KColumn ∧ ks = KValue ∧ ((xs.length : Int) < big ∧ (f.length : Int) < big) ∧ SL 2 xs ∧ K (.bool (decide (Fts f xs))) []
  | _ => False⟩
set_option maxRecDepth 100000 in
set_option maxHeartbeats 4000000 in
theorem p_fits : Proved 54 cFts := by
  refine proved_of [(73, cVRow)] ⟨p_svRow, trivial⟩ [.tmp 4] Try.func54 rfl rfl rfl rfl (by kernel_rfl) ?_
  intro ds K hrel
  simp only [cFts] at hrel
  split at hrel
  case h_2 => exact hrel.elim
  rename_i js f ks xs
  obtain ⟨rfl, rfl, ⟨h1, h2⟩, hs, hrel⟩ := hrel
  refine ⟨rfl, Nat.le_of_ble_eq_true rfl, fun k σ => match k with
    | 4 => some { α := Lv 4 Int, R := fun ⟨i⟩ => (0 ≤ i ∧ i ≤ xs.length ∧ (xs.length : Int) ≤ f.length ∧ (f.length : Int) ≤ xs.length) ∧ KnN f xs i ∧ VRow xs, μ := fun ⟨i⟩ => (xs.length - i).toNat, st := fun ⟨i⟩ => up σ [(5, .int .i64 i)] }
    | _ => none, ?_⟩
  repeat' (first | refine And.intro ?_ ?_ | (intro h; first | (exact absurd h (by decide)) | (guard_hyp h : true = true; clear h) | (guard_hyp h : false = false; clear h) | (have hq := (h : Lv 4 _); clear hq; obtain ⟨_⟩ := h) | skip) | refine Exists.intro (⟨?_⟩ : Lv 4 _) ?_ | refine Exists.intro _ (Exists.intro _ (And.intro hrel ?_)) | exact rfl | exact True.intro | exact Or.inl rfl | exact Or.inr (And.intro rfl rfl) | exact Nat.le_of_ble_eq_true rfl | (apply Exists.intro; refine And.intro ?_ ?_))
  all_goals (try ((try (change _ = _)) <;> (try dsimp only at *) <;> (try simp only [decide_eq_true_eq, decide_eq_false_iff_not, Bool.not_eq_true', Bool.not_eq_false', Bool.and_eq_true, Bool.and_eq_false_iff, beq_iff_eq, bne_iff_ne, beq_eq_false_iff_ne, bne_eq_false_iff_eq, ne_eq, Decidable.not_not, bne_self_eq_false, Bool.false_eq_true, Bool.true_eq_false, Bool.not_true, Bool.not_false, not_true_eq_false, not_false_eq_true, Int.toNat_natCast, Nat.zero_add, Nat.reduceAdd, Nat.reduceMul, Nat.reduceDiv, Nat.mul_one, lenK_one, big, fill_len, marking_len, marks_len, nrms_len, List.length_set, List.length_append, List.length_map, List.length_replicate, List.length_cons, List.length_nil, Int.natCast_add, Int.natCast_one, Int.natCast_zero] at *) <;> (repeat (with_reducible rename _ ∧ _ => hh; obtain ⟨_, _⟩ := hh)) <;> (first | omega | (refine fits_i64 ?_; omega) | (split <;> omega) | (with_reducible assumption) | exact knN_zero _ _ | exact knN_step (by with_reducible assumption) (by omega) | exact false_eq (fts_len (by omega)) | exact false_eq (fun q => absurd q.v (by with_reducible assumption)) | exact false_eq (fts_kind (by with_reducible assumption) (by omega) (by omega) (by with_reducible assumption) (by with_reducible assumption)) | exact true_eq (fts_yes (by with_reducible assumption) (by with_reducible assumption) (by omega) (by omega)))))

noncomputable def cRF : Ct := ⟨[], fun ds K => match ds with
  | [.view js f, .view ks xs] => js = KColumn ∧ ks = KValue ∧ ((xs.length : Int) < big ∧ (f.length : Int) < big) ∧ SL 3 f ∧ SL 2 xs ∧ K (.bool (decide (VF f ∧ Fts f xs))) []
  | _ => False⟩
theorem rf_no {f xs : List Row} (h : ¬ VF f) : false = decide (VF f ∧ Fts f xs) := false_eq (fun q => h q.1)
theorem rf_no2 {f xs : List Row} (h : ¬ Fts f xs) : false = decide (VF f ∧ Fts f xs) := false_eq (fun q => h q.2)
theorem rf_pick {f xs : List Row} (h : VF f) : decide (Fts f xs) = decide (VF f ∧ Fts f xs) := by rw [decide_eq_decide]; exact ⟨fun q => ⟨h, q⟩, fun q => q.2⟩
theorem rf_yes {f xs : List Row} {i : Int} (hf : VF f) (h : KnN f xs i) (hr : RowN xs i) (hi : ¬ i < xs.length) (hl : (xs.length : Int) = f.length) : true = decide (VF f ∧ Fts f xs) :=
  true_eq ⟨hf, fts_yes h ⟨by have := hf.l5; omega, ⟨fun j hj => hr.h j (by omega)⟩⟩ hi hl⟩
set_option maxRecDepth 100000 in
set_option maxHeartbeats 4000000 in
theorem p_sRF : Proved 33 cRF := by
  refine proved_of [(47, cVF), (54, cFts)] ⟨p_svF, p_fits, trivial⟩ [.tmp 4] Try.func33 rfl rfl rfl rfl (by kernel_rfl) ?_
  intro ds K hrel
  simp only [cRF] at hrel
  split at hrel
  case h_2 => exact hrel.elim
  obtain ⟨rfl, rfl, ⟨h1, h2⟩, hs, hs2, hrel⟩ := hrel
  refine ⟨rfl, Nat.le_of_ble_eq_true rfl, fun _ _ => none, ?_⟩
  repeat' (first | refine And.intro ?_ ?_ | (intro h; first | (exact absurd h (by decide)) | (guard_hyp h : true = true; clear h) | (guard_hyp h : false = false; clear h) | skip) | refine Exists.intro _ (Exists.intro _ (And.intro hrel ?_)) | exact rfl | exact True.intro | exact Or.inl rfl | exact Or.inr (And.intro rfl rfl) | exact Nat.le_of_ble_eq_true rfl | (apply Exists.intro; refine And.intro ?_ ?_))
  all_goals (try ((try (change _ = _)) <;> (try dsimp only at *) <;> (try simp only [decide_eq_true_eq, decide_eq_false_iff_not, Bool.not_eq_true', Bool.not_eq_false', Bool.and_eq_true, Bool.and_eq_false_iff, beq_iff_eq, bne_iff_ne, beq_eq_false_iff_ne, bne_eq_false_iff_eq, ne_eq, Decidable.not_not, bne_self_eq_false, Bool.false_eq_true, Bool.true_eq_false, Bool.not_true, Bool.not_false, not_true_eq_false, not_false_eq_true, Int.toNat_natCast, Nat.zero_add, Nat.reduceAdd, Nat.reduceMul, Nat.reduceDiv, Nat.mul_one, lenK_one, big, fill_len, marking_len, marks_len, nrms_len, List.length_set, List.length_append, List.length_map, List.length_replicate, List.length_cons, List.length_nil, Int.natCast_add, Int.natCast_one, Int.natCast_zero] at *) <;> (repeat (with_reducible rename _ ∧ _ => hh; obtain ⟨_, _⟩ := hh)) <;> (first | omega | (refine fits_i64 ?_; omega) | (split <;> omega) | (with_reducible assumption) | exact rf_no (by with_reducible assumption) | exact rf_pick (by with_reducible assumption))))
set_option maxRecDepth 100000 in
set_option maxHeartbeats 4000000 in
theorem p_iRF : Proved 31 cRF := by
  refine proved_of [(28, cVF), (52, cVV)] ⟨p_iVF, p_iVV, trivial⟩ [.tmp 4] Try.func31 rfl rfl rfl rfl (by kernel_rfl) ?_
  intro ds K hrel
  simp only [cRF] at hrel
  split at hrel
  case h_2 => exact hrel.elim
  rename_i js f ks xs
  obtain ⟨rfl, rfl, ⟨h1, h2⟩, hs, hs2, hrel⟩ := hrel
  refine ⟨rfl, Nat.le_of_ble_eq_true rfl, fun k σ => match k with
    | 4 => some { α := Lv 4 Int, R := fun ⟨i⟩ => (0 ≤ i ∧ i ≤ xs.length ∧ (xs.length : Int) ≤ f.length ∧ (f.length : Int) ≤ xs.length) ∧ KnN f xs i ∧ RowN xs i ∧ VF f, μ := fun ⟨i⟩ => (xs.length - i).toNat, st := fun ⟨i⟩ => up σ [(19, .int .i64 i)] }
    | _ => none, ?_⟩
  repeat' (first | refine And.intro ?_ ?_ | (intro h; first | (exact absurd h (by decide)) | (guard_hyp h : true = true; clear h) | (guard_hyp h : false = false; clear h) | (have hq := (h : Lv 4 _); clear hq; obtain ⟨_⟩ := h) | skip) | refine Exists.intro (⟨?_⟩ : Lv 4 _) ?_ | refine Exists.intro _ (Exists.intro _ (And.intro hrel ?_)) | exact rfl | exact True.intro | exact Or.inl rfl | exact Or.inr (And.intro rfl rfl) | exact Nat.le_of_ble_eq_true rfl | (apply Exists.intro; refine And.intro ?_ ?_))
  all_goals (try ((try (change _ = _)) <;> (try dsimp only at *) <;> (try simp only [decide_eq_true_eq, decide_eq_false_iff_not, Bool.not_eq_true', Bool.not_eq_false', Bool.and_eq_true, Bool.and_eq_false_iff, beq_iff_eq, bne_iff_ne, beq_eq_false_iff_ne, bne_eq_false_iff_eq, ne_eq, Decidable.not_not, bne_self_eq_false, Bool.false_eq_true, Bool.true_eq_false, Bool.not_true, Bool.not_false, not_true_eq_false, not_false_eq_true, Int.toNat_natCast, Nat.zero_add, Nat.reduceAdd, Nat.reduceMul, Nat.reduceDiv, Nat.mul_one, lenK_one, big, fill_len, marking_len, marks_len, nrms_len, List.length_set, List.length_append, List.length_map, List.length_replicate, List.length_cons, List.length_nil, Int.natCast_add, Int.natCast_one, Int.natCast_zero] at *) <;> (repeat (with_reducible rename _ ∧ _ => hh; obtain ⟨_, _⟩ := hh)) <;> (first | omega | (refine fits_i64 ?_; omega) | (split <;> omega) | (with_reducible assumption) | exact hs2.h _ | exact knN_zero _ _ | exact knN_step (by with_reducible assumption) (by omega) | exact rowN_zero _ | exact rowN_step (by with_reducible assumption) (by with_reducible assumption) | exact rf_no (by with_reducible assumption) | exact rf_no2 (fts_len (by omega)) | exact rf_no2 (fts_val (by with_reducible assumption) (by omega) (by omega) (by with_reducible assumption)) | exact rf_no2 (fts_kind (by with_reducible assumption) (by omega) (by omega) (by with_reducible assumption) (by with_reducible assumption)) | exact rf_yes (by with_reducible assumption) (by with_reducible assumption) (by with_reducible assumption) (by omega) (by omega))))
set_option maxRecDepth 100000 in
set_option maxHeartbeats 8000000 in
theorem p_fnExactValidFormat : Proved 9 (cLaw [.c (.s KColumn)]) := by
  refine proved_of [(25, (cSzS KColumn 3)), (27, cTo 55 KColumn), (26, cVF), (28, cVF), (29, cEq KColumn)] ⟨p_szColumnS, p_toColumnS, p_sVF, p_iVF, p_eqColumnS, trivial⟩ [.tmp 2] Try.func9 rfl rfl rfl rfl (by kernel_rfl) ?_
  rintro ds K ⟨⟨a, l, rfl, ⟨xs, rfl, h1, h2⟩, rfl⟩, hrel⟩
  unfold maxLen at h1
  have hs : SL 3 xs := sl_of rfl h2
  have hs' : SL 3 (nrms KColumn xs) := sl_nrms rfl hs
  refine ⟨rfl, Nat.le_of_ble_eq_true rfl, fun _ _ => none, ?_⟩
  repeat' (first | refine And.intro ?_ ?_ | (intro h; first | (exact absurd h (by decide)) | (guard_hyp h : true = true; clear h) | (guard_hyp h : false = false; clear h) | skip) | refine Exists.intro _ (Exists.intro _ (And.intro hrel ?_)) | exact rfl | exact True.intro | exact Or.inl rfl | exact Or.inr (And.intro rfl rfl) | exact Nat.le_of_ble_eq_true rfl | (apply Exists.intro; refine And.intro ?_ ?_))
  all_goals (try ((try (change _ = _)) <;> (try dsimp only at *) <;> (try simp only [decide_eq_true_eq, decide_eq_false_iff_not, Bool.not_eq_true', Bool.not_eq_false', Bool.and_eq_true, Bool.and_eq_false_iff, beq_iff_eq, bne_iff_ne, beq_eq_false_iff_ne, bne_eq_false_iff_eq, ne_eq, Decidable.not_not, bne_self_eq_false, Bool.false_eq_true, Bool.true_eq_false, Bool.not_true, Bool.not_false, not_true_eq_false, not_false_eq_true, Int.toNat_natCast, Nat.zero_add, Nat.reduceAdd, Nat.reduceMul, Nat.reduceDiv, Nat.mul_one, lenK_one, big, fill_len, marking_len, marks_len, nrms_len, List.length_set, List.length_append, List.length_map, List.length_replicate, List.length_cons, List.length_nil, Int.natCast_add, Int.natCast_one, Int.natCast_zero, nrms_nrms, decide_true] at *) <;> (repeat (with_reducible rename _ ∧ _ => hh; obtain ⟨_, _⟩ := hh)) <;> (first | omega | (refine fits_i64 ?_; omega) | (split <;> omega) | (with_reducible assumption))))
set_option maxRecDepth 100000 in
set_option maxHeartbeats 8000000 in
theorem p_fnExactRowFits : Proved 12 (cLaw [.c (.s KColumn), .c (.s KValue)]) := by
  refine proved_of [(25, (cSzS KColumn 3)), (34, (cSzS KValue 2)), (27, cTo 55 KColumn), (35, cTo 53 KValue), (33, cRF), (31, cRF), (29, cEq KColumn), (36, cEq KValue)] ⟨p_szColumnS, p_szValueS, p_toColumnS, p_toValueS, p_sRF, p_iRF, p_eqColumnS, p_eqValueS, trivial⟩ [.tmp 4] Try.func12 rfl rfl rfl rfl (by kernel_rfl) ?_
  rintro ds K ⟨⟨a, l, rfl, ⟨f, rfl, h1, h2⟩, ⟨b, l', rfl, ⟨xs, rfl, h3, h4⟩, rfl⟩⟩, hrel⟩
  unfold maxLen at h1 h3
  have hs : SL 3 f := sl_of rfl h2
  have hs' : SL 3 (nrms KColumn f) := sl_nrms rfl hs
  have hv : SL 2 xs := sl_of rfl h4
  have hv' : SL 2 (nrms KValue xs) := sl_nrms rfl hv
  refine ⟨rfl, Nat.le_of_ble_eq_true rfl, fun _ _ => none, ?_⟩
  repeat' (first | refine And.intro ?_ ?_ | (intro h; first | (exact absurd h (by decide)) | (guard_hyp h : true = true; clear h) | (guard_hyp h : false = false; clear h) | skip) | refine Exists.intro _ (Exists.intro _ (And.intro hrel ?_)) | exact rfl | exact True.intro | exact Or.inl rfl | exact Or.inr (And.intro rfl rfl) | exact Nat.le_of_ble_eq_true rfl | (apply Exists.intro; refine And.intro ?_ ?_))
  all_goals (try ((try (change _ = _)) <;> (try dsimp only at *) <;> (try simp only [decide_eq_true_eq, decide_eq_false_iff_not, Bool.not_eq_true', Bool.not_eq_false', Bool.and_eq_true, Bool.and_eq_false_iff, beq_iff_eq, bne_iff_ne, beq_eq_false_iff_ne, bne_eq_false_iff_eq, ne_eq, Decidable.not_not, bne_self_eq_false, Bool.false_eq_true, Bool.true_eq_false, Bool.not_true, Bool.not_false, not_true_eq_false, not_false_eq_true, Int.toNat_natCast, Nat.zero_add, Nat.reduceAdd, Nat.reduceMul, Nat.reduceDiv, Nat.mul_one, lenK_one, big, fill_len, marking_len, marks_len, nrms_len, List.length_set, List.length_append, List.length_map, List.length_replicate, List.length_cons, List.length_nil, Int.natCast_add, Int.natCast_one, Int.natCast_zero, nrms_nrms, decide_true] at *) <;> (repeat (with_reducible rename _ ∧ _ => hh; obtain ⟨_, _⟩ := hh)) <;> (first | omega | (refine fits_i64 ?_; omega) | (split <;> omega) | (with_reducible assumption))))
end Go.Proofs.Ytfchlcghildiaaa.V
