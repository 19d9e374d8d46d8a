/-
  Journals and disks that are drawn, as the laws read them; the laws on losers.
-/
import Derived.Test.YtkjdhfkihampjaaLo
set_option linter.unusedSimpArgs false
set_option linter.unusedVariables false
namespace Go.Proofs.Ytkjdhfkihampjaa.V
open Go Go.RowKit
open Classical

noncomputable def cIsIn : Ct := ⟨[], fun ds K => match ds with
  | [.view ks xs, .int .i64 n] => ks = KInt ∧ (xs.length : Int) < big ∧ K (.bool (decide (memI xs n))) []
  | _ => False⟩
structure NoI (xs : List Row) (n : Int) (i : Int) : Prop where
  h : ∀ j : Nat, (j : Int) < i → ¬ (rc (row xs j) 0).int = n
theorem noI_zero (xs : List Row) (n : Int) : NoI xs n 0 := ⟨fun j h => by omega⟩
theorem noI_step {xs : List Row} {n i : Int} (h : NoI xs n i) (h0 : 0 ≤ i) (h1 : ¬ (rc (row xs i.toNat) 0).int = n) : NoI xs n (i + 1) := ⟨fun j hj => by
  by_cases e : (j : Int) = i
  · subst e; exact h1
  · exact h.h j (by omega)⟩
theorem isIn_yes {xs : List Row} {n i : Int} (h0 : 0 ≤ i) (h1 : i < xs.length) (h2 : (rc (row xs i.toNat) 0).int = n) : true = decide (memI xs n) := true_eq (by rw [← h2]; exact memI_row xs i.toNat (by omega))
theorem isIn_no {xs : List Row} {n i : Int} (h : NoI xs n i) (h1 : ¬ i < xs.length) : false = decide (memI xs n) := false_eq (fun hm => by obtain ⟨j, h2, h3⟩ := memI_get hm; exact h.h j (by omega) h3)
set_option maxRecDepth 100000 in
set_option maxHeartbeats 4000000 in
theorem p_lIsIn : Proved 26 cIsIn := by
  refine proved_of [] trivial [.tmp 4] Try.func26 rfl rfl rfl rfl (by kernel_rfl) ?_
  intro ds K hrel
  simp only [cIsIn] at hrel
  split at hrel
  case h_2 => exact hrel.elim
  rename_i ks xs n
  obtain ⟨rfl, h1, hrel⟩ := hrel
  refine ⟨rfl, Nat.le_of_ble_eq_true rfl, fun k σ => match k with
    | 2 => some { α := Lv 2 Int, R := fun i => (0 ≤ i.v ∧ i.v ≤ xs.length) ∧ NoI xs n i.v, μ := fun i => (xs.length - i.v).toNat, st := fun i => up σ [(5, .int .i64 i.v)] }
    | _ => none, ?_⟩
  repeat' (first | with_reducible refine And.intro ?_ ?_ | (with_reducible intro h; first | (exact absurd h (by decide)) | (guard_hyp h : true = true; clear h) | (guard_hyp h : false = false; clear h) | (have hq := (h : Lv 2 _); clear hq; obtain ⟨_⟩ := h) | skip) | with_reducible exact True.intro | ((with_reducible refine (id ?_ : @Eq Bool (nodupN _) true)); kernel_rfl) | ((with_reducible refine (id ?_ : @Eq Bool (apartN _ _) true)); kernel_rfl) | ((with_reducible refine (id ?_ : @Eq Bool (formL _ _) true)); kernel_rfl) | ((with_reducible refine (id ?_ : @Eq _ _ _)); exact rfl) | ((conv => whnf); first | done | with_reducible refine And.intro ?_ ?_ | (with_reducible intro h; first | (exact absurd h (by decide)) | (guard_hyp h : true = true; clear h) | (guard_hyp h : false = false; clear h) | (have hq := (h : Lv 2 _); clear hq; obtain ⟨_⟩ := h) | skip) | with_reducible exact True.intro | ((with_reducible refine (id ?_ : @Eq _ _ _)); exact rfl) | refine Exists.intro (⟨?_⟩ : Lv 2 _) ?_ | refine Exists.intro _ (Exists.intro _ (And.intro hrel ?_)) | exact Or.inl rfl | exact Or.inr (And.intro rfl rfl) | (apply Exists.intro; refine And.intro ?_ ?_)) | exact Nat.le_of_ble_eq_true rfl)
  all_goals (try ((try (change _ = _)) <;> (try dsimp only at *) <;> (try simp only [decide_eq_true_eq, decide_eq_false_iff_not, Bool.not_eq_true', Bool.not_eq_false', Bool.and_eq_true, Bool.and_eq_false_iff, beq_iff_eq, bne_iff_ne, beq_eq_false_iff_ne, bne_eq_false_iff_eq, ne_eq, Decidable.not_not, bne_self_eq_false, Bool.false_eq_true, Bool.true_eq_false, Bool.not_true, Bool.not_false, not_true_eq_false, not_false_eq_true, Int.toNat_natCast, Nat.zero_add, Nat.reduceAdd, Nat.reduceMul, Nat.reduceDiv, Nat.mul_one, lenK_one, big, fill_len, marking_len, marks_len, nrms_len, List.length_set, List.length_append, List.length_map, List.length_replicate, List.length_cons, List.length_nil, Int.natCast_add, Int.natCast_one, Int.natCast_zero] at *) <;> (repeat (with_reducible rename _ ∧ _ => hh; obtain ⟨_, _⟩ := hh)) <;> (first | omega | (refine fits_i64 ?_; omega) | (split <;> omega) | exact noI_zero _ _ | exact noI_step (by assumption) (by omega) (by assumption) | exact isIn_yes (by omega) (by omega) (by assumption) | exact isIn_no (by assumption) (by omega))))
def cDLO : Ct := ⟨[], fun ds K => match ds with
  | [.view ks xs] => ks = KU8 ∧ (xs.length : Int) < big ∧ (∀ i, i < xs.length → RowOk KU8 (row xs i)) ∧ ∀ (s es : List Row), s.length ≤ 7 → es.length ≤ 21 → K (.tup [.view KInt s, .view KNote es]) []
  | _ => False⟩
set_option maxRecDepth 100000 in
set_option maxHeartbeats 4000000 in
theorem p_drawLosersOf : Proved 23 cDLO := by
  refine proved_of [(48, cNewReader), (47, cANotes)] ⟨p_newReader, p_anyNotes, trivial⟩ [.tmp 2, .tmp 3] Try.func23 rfl rfl rfl rfl (by kernel_rfl) ?_
  intro ds K hrel
  simp only [cDLO] at hrel
  split at hrel
  case h_2 => exact hrel.elim
  rename_i ks xs
  obtain ⟨rfl, h1, h2, hrel⟩ := hrel
  refine ⟨rfl, Nat.le_of_ble_eq_true rfl, fun _ _ => none, ?_⟩
  repeat' (first | with_reducible refine And.intro ?_ ?_ | (with_reducible intro h; first | (exact absurd h (by decide)) | (guard_hyp h : true = true; clear h) | (guard_hyp h : false = false; clear h) | skip) | with_reducible exact True.intro | ((with_reducible refine (id ?_ : @Eq Bool (nodupN _) true)); kernel_rfl) | ((with_reducible refine (id ?_ : @Eq Bool (apartN _ _) true)); kernel_rfl) | ((with_reducible refine (id ?_ : @Eq Bool (formL _ _) true)); kernel_rfl) | ((with_reducible refine (id ?_ : @Eq _ _ _)); exact rfl) | ((conv => whnf); first | done | with_reducible refine And.intro ?_ ?_ | (with_reducible intro h; first | (exact absurd h (by decide)) | (guard_hyp h : true = true; clear h) | (guard_hyp h : false = false; clear h) | skip) | with_reducible exact True.intro | ((with_reducible refine (id ?_ : @Eq _ _ _)); exact rfl) | (refine Exists.intro _ (Exists.intro _ (And.intro (hrel ?_ ?_ ?_ ?_) ?_))) | refine Exists.intro _ (Exists.intro _ (And.intro hrel ?_)) | exact Or.inl rfl | exact Or.inr (And.intro rfl rfl) | (apply Exists.intro; refine And.intro ?_ ?_)) | exact Nat.le_of_ble_eq_true rfl)
  all_goals (try ((repeat (with_reducible rename PickR _ _ => hq; have hq1 := hq.lo; have hq2 := hq.hi; have hq3 := hq.zero; clear hq)) <;> (try (change _ = _)) <;> (try dsimp only at *) <;> (try simp only [decide_eq_true_eq, decide_eq_false_iff_not, Bool.not_eq_true', Bool.not_eq_false', Bool.and_eq_true, Bool.and_eq_false_iff, beq_iff_eq, bne_iff_ne, beq_eq_false_iff_ne, bne_eq_false_iff_eq, ne_eq, Decidable.not_not, bne_self_eq_false, Bool.false_eq_true, Bool.true_eq_false, Bool.not_true, Bool.not_false, not_true_eq_false, not_false_eq_true, Int.toNat_natCast, Nat.zero_add, Nat.reduceAdd, Nat.reduceMul, Nat.reduceDiv, Nat.mul_one, lenK_one, big, fill_len, marking_len, marks_len, nrms_len, List.length_set, List.length_append, List.length_map, List.length_replicate, List.length_cons, List.length_nil, Int.natCast_add, Int.natCast_one, Int.natCast_zero, memI_i, memI_nil, or_false, false_or] at *) <;> (repeat (with_reducible rename _ ∧ _ => hh; obtain ⟨_, _⟩ := hh)) <;> (first | omega | (refine fits_i64 ?_; omega) | (split <;> omega) | (with_reducible assumption) | exact h2 _ (by with_reducible assumption) | rfl)))
def cDCA : Ct := ⟨[], fun ds K => match ds with
  | [.view ks xs] => ks = KU8 ∧ (xs.length : Int) < big ∧ (∀ i, i < xs.length → RowOk KU8 (row xs i)) ∧ ∀ (s es us : List Row), s.length ≤ 7 → es.length ≤ 21 → us.length ≤ 101 → K (.tup [.view KInt s, .view KNote es, .view KInt us]) []
  | _ => False⟩
set_option maxRecDepth 100000 in
set_option maxHeartbeats 8000000 in
theorem p_drawCellsAt : Proved 32 cDCA := by
  refine proved_of [(48, cNewReader), (47, cANotes), (56, cUntil), (57, cSpoil)] ⟨p_newReader, p_anyNotes, p_someUntil, p_spoil, trivial⟩ [.tmp 2, .tmp 3, .tmp 4] Try.func32 rfl rfl rfl rfl (by kernel_rfl) ?_
  intro ds K hrel
  simp only [cDCA] at hrel
  split at hrel
  case h_2 => exact hrel.elim
  rename_i ks xs
  obtain ⟨rfl, h1, h2, hrel⟩ := hrel
  refine ⟨rfl, Nat.le_of_ble_eq_true rfl, fun _ _ => none, ?_⟩
  repeat' (first | with_reducible refine And.intro ?_ ?_ | (with_reducible intro h; first | (exact absurd h (by decide)) | (guard_hyp h : true = true; clear h) | (guard_hyp h : false = false; clear h) | skip) | with_reducible exact True.intro | ((with_reducible refine (id ?_ : @Eq Bool (nodupN _) true)); kernel_rfl) | ((with_reducible refine (id ?_ : @Eq Bool (apartN _ _) true)); kernel_rfl) | ((with_reducible refine (id ?_ : @Eq Bool (formL _ _) true)); kernel_rfl) | ((with_reducible refine (id ?_ : @Eq _ _ _)); exact rfl) | ((conv => whnf); first | done | with_reducible refine And.intro ?_ ?_ | (with_reducible intro h; first | (exact absurd h (by decide)) | (guard_hyp h : true = true; clear h) | (guard_hyp h : false = false; clear h) | skip) | with_reducible exact True.intro | ((with_reducible refine (id ?_ : @Eq _ _ _)); exact rfl) | (refine Exists.intro _ (Exists.intro _ (And.intro (hrel ?_ ?_ ?_ ?_ ?_ ?_) ?_))) | refine Exists.intro _ (Exists.intro _ (And.intro hrel ?_)) | exact Or.inl rfl | exact Or.inr (And.intro rfl rfl) | (apply Exists.intro; refine And.intro ?_ ?_)) | exact Nat.le_of_ble_eq_true rfl)
  all_goals (try ((repeat (with_reducible rename PickR _ _ => hq; have hq1 := hq.lo; have hq2 := hq.hi; have hq3 := hq.zero; clear hq)) <;> (try (change _ = _)) <;> (try dsimp only at *) <;> (try simp only [decide_eq_true_eq, decide_eq_false_iff_not, Bool.not_eq_true', Bool.not_eq_false', Bool.and_eq_true, Bool.and_eq_false_iff, beq_iff_eq, bne_iff_ne, beq_eq_false_iff_ne, bne_eq_false_iff_eq, ne_eq, Decidable.not_not, bne_self_eq_false, Bool.false_eq_true, Bool.true_eq_false, Bool.not_true, Bool.not_false, not_true_eq_false, not_false_eq_true, Int.toNat_natCast, Nat.zero_add, Nat.reduceAdd, Nat.reduceMul, Nat.reduceDiv, Nat.mul_one, lenK_one, big, fill_len, marking_len, marks_len, nrms_len, List.length_set, List.length_append, List.length_map, List.length_replicate, List.length_cons, List.length_nil, Int.natCast_add, Int.natCast_one, Int.natCast_zero, memI_i, memI_nil, or_false, false_or] at *) <;> (repeat (with_reducible rename _ ∧ _ => hh; obtain ⟨_, _⟩ := hh)) <;> (first | omega | (refine fits_i64 ?_; omega) | (split <;> omega) | (with_reducible assumption) | exact h2 _ (by with_reducible assumption) | rfl)))
def cDRF : Ct := ⟨[], fun ds K => match ds with
  | [.view ks xs] => ks = KU8 ∧ (xs.length : Int) < big ∧ (∀ i, i < xs.length → RowOk KU8 (row xs i)) ∧ ∀ (c es : List Row) (f : Int), c.length ≤ 7 → es.length ≤ 21 → Fits .i64 f → K (.tup [.view KCell c, .view KNote es, .int .i64 f]) []
  | _ => False⟩
set_option maxRecDepth 100000 in
set_option maxHeartbeats 8000000 in
theorem p_drawRecoverFrom : Proved 38 cDRF := by
  refine proved_of [(48, cNewReader), (60, cACells), (65, cOne)] ⟨p_newReader, p_anyCells, p_one, trivial⟩ [.tmp 2, .tmp 3, .tmp 4] Try.func38 rfl rfl rfl rfl (by kernel_rfl) ?_
  intro ds K hrel
  simp only [cDRF] at hrel
  split at hrel
  case h_2 => exact hrel.elim
  rename_i ks xs
  obtain ⟨rfl, h1, h2, hrel⟩ := hrel
  refine ⟨rfl, Nat.le_of_ble_eq_true rfl, fun _ _ => none, ?_⟩
  repeat' (first | with_reducible refine And.intro ?_ ?_ | (with_reducible intro h; first | (exact absurd h (by decide)) | (guard_hyp h : true = true; clear h) | (guard_hyp h : false = false; clear h) | skip) | with_reducible exact True.intro | ((with_reducible refine (id ?_ : @Eq Bool (nodupN _) true)); kernel_rfl) | ((with_reducible refine (id ?_ : @Eq Bool (apartN _ _) true)); kernel_rfl) | ((with_reducible refine (id ?_ : @Eq Bool (formL _ _) true)); kernel_rfl) | ((with_reducible refine (id ?_ : @Eq _ _ _)); exact rfl) | ((conv => whnf); first | done | with_reducible refine And.intro ?_ ?_ | (with_reducible intro h; first | (exact absurd h (by decide)) | (guard_hyp h : true = true; clear h) | (guard_hyp h : false = false; clear h) | skip) | with_reducible exact True.intro | ((with_reducible refine (id ?_ : @Eq _ _ _)); exact rfl) | (refine Exists.intro _ (Exists.intro _ (And.intro (hrel ?_ ?_ ?_ ?_ ?_ ?_) ?_))) | refine Exists.intro _ (Exists.intro _ (And.intro hrel ?_)) | exact Or.inl rfl | exact Or.inr (And.intro rfl rfl) | (apply Exists.intro; refine And.intro ?_ ?_)) | exact Nat.le_of_ble_eq_true rfl)
  all_goals (try ((repeat (with_reducible rename PickR _ _ => hq; have hq1 := hq.lo; have hq2 := hq.hi; have hq3 := hq.zero; clear hq)) <;> (try (change _ = _)) <;> (try dsimp only at *) <;> (try simp only [decide_eq_true_eq, decide_eq_false_iff_not, Bool.not_eq_true', Bool.not_eq_false', Bool.and_eq_true, Bool.and_eq_false_iff, beq_iff_eq, bne_iff_ne, beq_eq_false_iff_ne, bne_eq_false_iff_eq, ne_eq, Decidable.not_not, bne_self_eq_false, Bool.false_eq_true, Bool.true_eq_false, Bool.not_true, Bool.not_false, not_true_eq_false, not_false_eq_true, Int.toNat_natCast, Nat.zero_add, Nat.reduceAdd, Nat.reduceMul, Nat.reduceDiv, Nat.mul_one, lenK_one, big, fill_len, marking_len, marks_len, nrms_len, List.length_set, List.length_append, List.length_map, List.length_replicate, List.length_cons, List.length_nil, Int.natCast_add, Int.natCast_one, Int.natCast_zero, memI_i, memI_nil, or_false, false_or] at *) <;> (repeat (with_reducible rename _ ∧ _ => hh; obtain ⟨_, _⟩ := hh)) <;> (first | omega | (refine fits_i64 ?_; omega) | (split <;> omega) | (with_reducible assumption) | exact h2 _ (by with_reducible assumption) | rfl)))
set_option maxRecDepth 100000 in
set_option maxHeartbeats 4000000 in
theorem p_drawRecoverStore' : Proved 35 cDRC := by
  refine proved_of [(48, cNewReader), (60, cACells)] ⟨p_newReader, p_anyCells, trivial⟩ [.tmp 2, .tmp 3] Try.func35 rfl rfl rfl rfl (by kernel_rfl) ?_
  intro ds K hrel
  simp only [cDRC] at hrel
  split at hrel
  case h_2 => exact hrel.elim
  rename_i ks xs
  obtain ⟨rfl, h1, h2, hrel⟩ := hrel
  refine ⟨rfl, Nat.le_of_ble_eq_true rfl, fun _ _ => none, ?_⟩
  repeat' (first | with_reducible refine And.intro ?_ ?_ | (with_reducible intro h; first | (exact absurd h (by decide)) | (guard_hyp h : true = true; clear h) | (guard_hyp h : false = false; clear h) | skip) | with_reducible exact True.intro | ((with_reducible refine (id ?_ : @Eq Bool (nodupN _) true)); kernel_rfl) | ((with_reducible refine (id ?_ : @Eq Bool (apartN _ _) true)); kernel_rfl) | ((with_reducible refine (id ?_ : @Eq Bool (formL _ _) true)); kernel_rfl) | ((with_reducible refine (id ?_ : @Eq _ _ _)); exact rfl) | ((conv => whnf); first | done | with_reducible refine And.intro ?_ ?_ | (with_reducible intro h; first | (exact absurd h (by decide)) | (guard_hyp h : true = true; clear h) | (guard_hyp h : false = false; clear h) | skip) | with_reducible exact True.intro | ((with_reducible refine (id ?_ : @Eq _ _ _)); exact rfl) | (refine Exists.intro _ (Exists.intro _ (And.intro (hrel ?_ ?_ ?_ ?_ ?_ ?_) ?_))) | refine Exists.intro _ (Exists.intro _ (And.intro hrel ?_)) | exact Or.inl rfl | exact Or.inr (And.intro rfl rfl) | (apply Exists.intro; refine And.intro ?_ ?_)) | exact Nat.le_of_ble_eq_true rfl)
  all_goals (try ((repeat (with_reducible rename PickR _ _ => hq; have hq1 := hq.lo; have hq2 := hq.hi; have hq3 := hq.zero; clear hq)) <;> (try (change _ = _)) <;> (try dsimp only at *) <;> (try simp only [decide_eq_true_eq, decide_eq_false_iff_not, Bool.not_eq_true', Bool.not_eq_false', Bool.and_eq_true, Bool.and_eq_false_iff, beq_iff_eq, bne_iff_ne, beq_eq_false_iff_ne, bne_eq_false_iff_eq, ne_eq, Decidable.not_not, bne_self_eq_false, Bool.false_eq_true, Bool.true_eq_false, Bool.not_true, Bool.not_false, not_true_eq_false, not_false_eq_true, Int.toNat_natCast, Nat.zero_add, Nat.reduceAdd, Nat.reduceMul, Nat.reduceDiv, Nat.mul_one, lenK_one, big, fill_len, marking_len, marks_len, nrms_len, List.length_set, List.length_append, List.length_map, List.length_replicate, List.length_cons, List.length_nil, Int.natCast_add, Int.natCast_one, Int.natCast_zero, memI_i, memI_nil, or_false, false_or] at *) <;> (repeat (with_reducible rename _ ∧ _ => hh; obtain ⟨_, _⟩ := hh)) <;> (first | omega | (refine fits_i64 ?_; omega) | (split <;> omega) | (with_reducible assumption) | exact h2 _ (by with_reducible assumption) | rfl)))

/-- A journal with the Ends of the first i of a list of owners. -/
@[irreducible] def mend (es l : List Row) (i : Nat) : List Row := es ++ endsOf (l.take i)
theorem mend_zero (es l : List Row) : es = mend es l (Int.toNat 0) := by simp [mend, endsOf]
theorem mend_step {es l : List Row} {i : Int} (h0 : 0 ≤ i) (hi : i < l.length) : mend es l i.toNat ++ [[Sc.b true, Sc.i (rc (row l i.toNat) 0).int, Sc.i 0, Sc.i 0, Sc.i 0]] = mend es l (i + 1).toNat := by
  unfold mend
  rw [show (i + 1).toNat = i.toNat + 1 by omega, take_succ_row (by omega)]
  unfold endsOf
  rw [List.map_append, List.append_assoc]; rfl
theorem mend_all {es l : List Row} {i : Int} (hi : ¬ i < l.length) : mend es l i.toNat = es ++ endsOf l := by unfold mend; rw [List.take_of_length_le (by omega)]
theorem mend_len (es l : List Row) (i : Nat) : (mend es l i).length ≤ es.length + l.length := by unfold mend; rw [List.length_append, endsOf_len, List.length_take]; omega
theorem lo_big (s es : List Row) : ((losersOf s es).length : Int) < 9223372036854775808 := by have := losers_len s es; omega
theorem lo_fit {s es l : List Row} {i : Nat} (h : es.length ≤ 21) (hl : l.length ≤ 8) : ((mend es l i).length + 1) * 40 ≤ 140737488355328 := by have := mend_len es l i; omega
theorem lo_more {s es l : List Row} {i : Int} (h : VN s es) (hl : l = losersOf s es) (hi : ¬ i < l.length) : losersOf s (mend es l i.toNat) = [] := by rw [mend_all hi, hl]; exact lose_moreL h
theorem lose_edit' {s es : List Row} {i : Int} (h : VN s es) (hE : (rc (row es i.toNat) 0).bool = false) (hz : ((losersOf s (es.take (i + 1).toNat)).length : Int) = 0) (h0 : 0 ≤ i) (hi : i < es.length) : False := lose_edit h h0 hi hE hz
theorem lose_end' {s es : List Row} {i : Int} (hE : (rc (row es i.toNat) 0).bool = true) (hm : memI (losersOf s es) (rc (row es i.toNat) 1).int) (h0 : 0 ≤ i) (hi : i < es.length) : False := lose_end h0 hi hE hm
theorem mend_zero0 (es l : List Row) : es = mend es l 0 := mend_zero es l
theorem tf_no {b : Bool} (h1 : b = true) (h2 : b = false) : False := by rw [h1] at h2; cases h2
theorem lo_cut (es : List Row) (n : Nat) (h : es.length ≤ 21) : (es.take n).length ≤ 1048576 := by rw [List.length_take]; omega
theorem len_nil {xs : List Row} (h : xs = []) : ((xs.length : Nat) : Int) = 0 := by rw [h]; rfl
set_option maxRecDepth 100000 in
set_option maxHeartbeats 16000000 in
theorem p_fnLosersOf : Proved 4 (cLaw [.c (.s KU8)]) := by
  refine proved_of [(23, cDLO), (17, cLos), (14, cLos), (24, cEq KInt), (25, cVN), (26, cIsIn)] ⟨p_drawLosersOf, p_iLos, p_sLos, p_equalIntS, p_iVN, p_lIsIn, trivial⟩ [.tmp 2] Try.func4 rfl rfl rfl rfl (by kernel_rfl) ?_
  rintro ds K ⟨hds, hrel⟩
  obtain ⟨xs, rfl, h1, h2⟩ := law_code hds
  unfold maxLen at h1
  refine ⟨rfl, Nat.le_of_ble_eq_true rfl, fun k σ => match lookT σ.tm 3 with
    | .view _ s => match lookT σ.tm 4 with
      | .view _ es => match k with
        | 9 => some { α := Lv 9 Int, R := fun ⟨i⟩ => ((losersOf s es).length ≤ 8 ∧ 0 ≤ i ∧ i ≤ (losersOf s es).length ∧ s.length ≤ 7 ∧ es.length ≤ 21) ∧ VN s es, μ := fun ⟨i⟩ => ((losersOf s es).length - i).toNat, st := fun ⟨i⟩ => upH σ [(7, .int .i64 i), (6, .own 2)] 2 (.rows 39 KNote (mend es (losersOf s es) i.toNat)) }
        | 13 => some { α := Lv 13 Int, R := fun ⟨i⟩ => (0 ≤ i ∧ i ≤ es.length ∧ s.length ≤ 7 ∧ es.length ≤ 21) ∧ VN s es, μ := fun ⟨i⟩ => (es.length - i).toNat, st := fun ⟨i⟩ => up σ [(8, .int .i64 i)] }
        | _ => none
      | _ => none
    | _ => none, ?_⟩
  repeat' (first | with_reducible refine And.intro ?_ ?_ | (with_reducible intro h; first | (exact absurd h (by decide)) | (guard_hyp h : true = true; clear h) | (guard_hyp h : false = false; clear h) | (have hq := (h : Lv 9 _); clear hq; obtain ⟨_⟩ := h) | (have hq := (h : Lv 13 _); clear hq; obtain ⟨_⟩ := h) | skip) | with_reducible exact True.intro | ((with_reducible refine (id ?_ : @Eq Bool (nodupN _) true)); kernel_rfl) | ((with_reducible refine (id ?_ : @Eq Bool (apartN _ _) true)); kernel_rfl) | ((with_reducible refine (id ?_ : @Eq Bool (formL _ _) true)); kernel_rfl) | ((with_reducible refine (id ?_ : @Eq _ _ _)); exact rfl) | ((conv => whnf); first | done | with_reducible refine And.intro ?_ ?_ | (with_reducible intro h; first | (exact absurd h (by decide)) | (guard_hyp h : true = true; clear h) | (guard_hyp h : false = false; clear h) | (have hq := (h : Lv 9 _); clear hq; obtain ⟨_⟩ := h) | (have hq := (h : Lv 13 _); clear hq; obtain ⟨_⟩ := h) | skip) | with_reducible exact True.intro | ((with_reducible refine (id ?_ : @Eq _ _ _)); exact rfl) | refine Exists.intro (⟨?_⟩ : Lv 9 _) ?_ | refine Exists.intro (⟨?_⟩ : Lv 13 _) ?_ | refine Exists.intro _ (Exists.intro _ (And.intro hrel ?_)) | exact Or.inl rfl | exact Or.inr (And.intro rfl rfl) | (apply Exists.intro; refine And.intro ?_ ?_)) | exact Nat.le_of_ble_eq_true rfl)
  all_goals (try ((try (change _ = _)) <;> (try dsimp only at *) <;> (try simp only [decide_eq_true_eq, decide_eq_false_iff_not, Bool.not_eq_true', Bool.not_eq_false', Bool.and_eq_true, Bool.and_eq_false_iff, beq_iff_eq, bne_iff_ne, beq_eq_false_iff_ne, bne_eq_false_iff_eq, ne_eq, Decidable.not_not, bne_self_eq_false, Bool.false_eq_true, Bool.true_eq_false, Bool.not_true, Bool.not_false, not_true_eq_false, not_false_eq_true, Int.toNat_natCast, Nat.zero_add, Nat.reduceAdd, Nat.reduceMul, Nat.reduceDiv, Nat.mul_one, lenK_one, big, fill_len, marking_len, marks_len, nrms_len, List.length_set, List.length_append, List.length_map, List.length_replicate, List.length_cons, List.length_nil, Int.natCast_add, Int.natCast_one, Int.natCast_zero, decide_true, List.drop_zero, Int.toNat_zero, List.nil_append] at *) <;> (repeat (with_reducible rename _ ∧ _ => hh; obtain ⟨_, _⟩ := hh)) <;> (first | omega | (refine fits_i64 ?_; omega) | (split <;> omega) | exact h2 _ (by with_reducible assumption) | (with_reducible assumption) | (with_reducible exact lo_big _ _) | (with_reducible exact losers_len _ _) | (with_reducible exact mend_zero _ _) | (with_reducible exact mend_zero0 _ _) | (with_reducible exact mend_step (by omega) (by omega)) | (with_reducible exact (mend_step (by omega) (by omega)).symm) | (exfalso; with_reducible exact lose_end' (by with_reducible assumption) (by with_reducible assumption) (by omega) (by omega)) | (exfalso; with_reducible exact lose_edit' (by with_reducible assumption) (by with_reducible assumption) (by with_reducible assumption) (by omega) (by omega)) | (exfalso; with_reducible exact tf_no (by with_reducible assumption) (by with_reducible assumption)) | (refine lo_fit (s := s) (by omega) (losers_len _ _)) | exact lo_fit (s := []) (by omega) (losers_len _ _) | (with_reducible exact lo_cut _ _ (by omega)) | (exact len_nil (lo_more (by with_reducible assumption) rfl (by omega))) | (have q := len_nil (lo_more (by with_reducible assumption) rfl (by omega)); omega) | (have q := losers_len _ _; have q2 := mend_len _ _ _; omega))))
end Go.Proofs.Ytkjdhfkihampjaa.V
