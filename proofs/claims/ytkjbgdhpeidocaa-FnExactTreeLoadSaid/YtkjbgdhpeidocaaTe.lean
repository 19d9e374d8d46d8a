/-
  The items of a tree in a range; the laws of both.
-/
import Derived.Test.YtkjbgdhpeidocaaTd
import Derived.Test.YtkjbgdhpeidocaaTn
set_option linter.unusedSimpArgs false
set_option linter.unusedVariables false
namespace Go.Proofs.Ytkjbgdhpeidocaa.V
open Go Go.RowKit
open Classical

theorem filt_yes {ks : List Kd} {p : Row → Bool} {xs : List Row} {i : Int} (h0 : 0 ≤ i) (hi : i < xs.length) (h : p (row xs i.toNat) = true) :
    nrms ks ((xs.take (i + 1).toNat).filter p) = nrms ks ((xs.take i.toNat).filter p) ++ [nrm ks (row xs i.toNat)] := by
  rw [show (i + 1).toNat = i.toNat + 1 by omega, take_succ_row (by omega), List.filter_append, nrms_append]
  simp [h, nrms]
theorem filt_no {ks : List Kd} {p : Row → Bool} {xs : List Row} {i : Int} (h0 : 0 ≤ i) (hi : i < xs.length) (h : p (row xs i.toNat) = false) :
    nrms ks ((xs.take (i + 1).toNat).filter p) = nrms ks ((xs.take i.toNat).filter p) := by
  rw [show (i + 1).toNat = i.toNat + 1 by omega, take_succ_row (by omega), List.filter_append, nrms_append]
  simp [h, nrms]
def inR (lo hi : Int) (r : Row) : Bool := decide (lo ≤ (rc r 0).int) && decide ((rc r 0).int ≤ hi)
@[irreducible] def rng (lo hi : Int) (xs : List Row) (i : Int) : List Row := nrms KItem ((xs.take i.toNat).filter (inR lo hi))
theorem rng_zero (lo hi : Int) (xs : List Row) : rng lo hi xs 0 = [] := by simp [rng, nrms]
theorem rng_len (lo hi : Int) (xs : List Row) (i : Int) : (rng lo hi xs i).length ≤ xs.length := by
  unfold rng
  rw [nrms_len]; exact Nat.le_trans (List.length_filter_le _ _) (by simp; omega)
theorem rng_yes {lo hi : Int} {xs : List Row} {i : Int} (h0 : 0 ≤ i) (h1 : i < xs.length) (hl : lo ≤ (rc (row xs i.toNat) 0).int) (hh : (rc (row xs i.toNat) 0).int ≤ hi) : rng lo hi xs i ++ [[.i (rc (row xs i.toNat) 0).int, .i (rc (row xs i.toNat) 1).int]] = rng lo hi xs (i + 1) := by
  unfold rng
  rw [filt_yes h0 h1 (by simp [inR, hl, hh])]; rfl
theorem rng_no {lo hi : Int} {xs : List Row} {i : Int} (h0 : 0 ≤ i) (h1 : i < xs.length) (h : ¬ (lo ≤ (rc (row xs i.toNat) 0).int ∧ (rc (row xs i.toNat) 0).int ≤ hi)) : rng lo hi xs i = rng lo hi xs (i + 1) := by
  unfold rng
  rw [filt_no h0 h1]
  simp only [inR, Bool.and_eq_false_iff, decide_eq_false_iff_not]
  omega
def rangeOf (lo hi : Int) (xs : List Row) : List Row := nrms KItem (xs.filter (inR lo hi))
theorem rng_all {lo hi : Int} {xs : List Row} {i : Int} (h : ¬ i < xs.length) : rng lo hi xs i = rangeOf lo hi xs := by
  unfold rng rangeOf; rw [List.take_of_length_le (by omega)]
theorem range_nrm (lo hi : Int) (xs : List Row) : nrms KItem (rangeOf lo hi xs) = rangeOf lo hi xs := nrms_nrms _ _
theorem range_len (lo hi : Int) (xs : List Row) : (rangeOf lo hi xs).length ≤ xs.length := by
  unfold rangeOf; rw [nrms_len]; exact List.length_filter_le _ _
theorem range_nil {lo hi : Int} {xss : List (List Row)} (h : ¬ VTree xss) : rangeOf lo hi (itemsOf xss) = [] := by rw [items_no h]; rfl
theorem range_yes {lo hi : Int} {xss : List (List Row)} {i : Int} (hv : VTree xss) (h : ¬ i < xss.flatten.length) : rng lo hi xss.flatten i = rangeOf lo hi (itemsOf xss) := by rw [← items_yes hv]; exact rng_all h
noncomputable def cRange : Ct := ⟨[], fun ds K => match ds with
  | [.agg [.vv js xss], .int .i64 lo, .int .i64 hi] => js = KItem ∧ (xss.length ≤ 1048576 ∧ tot xss ≤ 1048576) ∧ K (.fr 49 KItem (rangeOf lo hi (itemsOf xss))) []
  | _ => False⟩
theorem nrms_flatten (ks : List Kd) : ∀ xss : List (List Row), nrms ks xss.flatten = (xss.map (nrms ks)).flatten
  | [] => rfl
  | xs :: r => by simp [nrms_append, nrms_flatten ks r]
theorem items_nrm (xss : List (List Row)) : nrms KItem (itemsOf (xss.map (nrms KItem))) = itemsOf (xss.map (nrms KItem)) := by
  unfold itemsOf
  split
  · rw [nrms_flatten, nrmsS_nrmsS]
  · rfl
theorem preM_nrm (xss : List (List Row)) (h1 : xss.length ≤ 1048576) (h2 : tot xss ≤ 1048576) : PreM 1 (xss.map (nrms KItem)) := ⟨nrmsS_nrmsS KItem xss, by omega, by simpa using h1, by rw [tot_nrms]; exact h2⟩
set_option maxRecDepth 100000 in
set_option maxHeartbeats 4000000 in
theorem p_sRange : Proved 24 cRange := by
  refine proved_of [(37, cVTree), (40, cFlat), (41, cInRange)] ⟨p_svTree, p_flat, p_inRange, trivial⟩ [.tmp 6] Try.func24 rfl rfl rfl rfl (by kernel_rfl) ?_
  intro ds K hrel
  simp only [cRange] at hrel
  split at hrel
  case h_2 => exact hrel.elim
  rename_i ks xss lo hi
  obtain ⟨rfl, ⟨h1, h2⟩, hrel⟩ := hrel
  have hf := flatten_len xss
  refine ⟨rfl, Nat.le_of_ble_eq_true rfl, fun k σ => match k with
    | 6 => some { α := Lv 6 Int, R := fun ⟨i⟩ => (0 ≤ i ∧ i ≤ xss.flatten.length) ∧ VTree xss, μ := fun ⟨i⟩ => (xss.flatten.length - i).toNat, st := fun ⟨i⟩ => upH σ [(9, .int .i64 i), (7, .own 1)] 1 (.rows 49 KItem (rng lo hi xss.flatten i)) }
    | _ => none, ?_⟩
  repeat' (first | with_reducible refine And.intro ?_ ?_ | (with_reducible intro h; first | (exact absurd h (by decide)) | (guard_hyp h : true = true; clear h) | (guard_hyp h : false = false; clear h) | (have hq := (h : Lv 6 _); clear hq; obtain ⟨_⟩ := h) | skip) | with_reducible exact True.intro | ((with_reducible refine (id ?_ : @Eq Bool (nodupN _) true)); kernel_rfl) | ((with_reducible refine (id ?_ : @Eq Bool (apartN _ _) true)); kernel_rfl) | ((with_reducible refine (id ?_ : @Eq Bool (formL _ _) true)); kernel_rfl) | ((with_reducible refine (id ?_ : @Eq _ _ _)); exact rfl) | ((conv => whnf); first | done | with_reducible refine And.intro ?_ ?_ | (with_reducible intro h; first | (exact absurd h (by decide)) | (guard_hyp h : true = true; clear h) | (guard_hyp h : false = false; clear h) | (have hq := (h : Lv 6 _); clear hq; obtain ⟨_⟩ := h) | skip) | with_reducible exact True.intro | ((with_reducible refine (id ?_ : @Eq _ _ _)); exact rfl) | refine Exists.intro (⟨?_⟩ : Lv 6 _) ?_ | refine Exists.intro _ (Exists.intro _ (And.intro hrel ?_)) | exact Or.inl rfl | exact Or.inr (And.intro rfl rfl) | (apply Exists.intro; refine And.intro ?_ ?_)) | exact Nat.le_of_ble_eq_true rfl)
  all_goals (try ((try (change _ = _)) <;> (try dsimp only at *) <;> (try simp only [decide_eq_true_eq, decide_eq_false_iff_not, Bool.not_eq_true', Bool.not_eq_false', Bool.and_eq_true, Bool.and_eq_false_iff, beq_iff_eq, bne_iff_ne, beq_eq_false_iff_ne, bne_eq_false_iff_eq, ne_eq, Decidable.not_not, bne_self_eq_false, Bool.false_eq_true, Bool.true_eq_false, Bool.not_true, Bool.not_false, not_true_eq_false, not_false_eq_true, Int.toNat_natCast, Nat.zero_add, Nat.reduceAdd, Nat.reduceMul, Nat.reduceDiv, Nat.mul_one, lenK_one, big, fill_len, marking_len, marks_len, nrms_len, List.length_set, List.length_append, List.length_map, List.length_replicate, List.length_cons, List.length_nil, Int.natCast_add, Int.natCast_one, Int.natCast_zero] at *) <;> (repeat (with_reducible rename _ ∧ _ => hh; obtain ⟨_, _⟩ := hh)) <;> (first | omega | (refine fits_i64 ?_; omega) | (split <;> omega) | (with_reducible assumption) | (with_reducible exact range_nil (by with_reducible assumption)) | (with_reducible exact (range_nil (by with_reducible assumption)).symm) | (with_reducible exact (rng_zero _ _ _).symm) | (with_reducible exact rng_zero _ _ _) | (with_reducible exact rng_yes (by omega) (by omega) (by omega) (by omega)) | (with_reducible exact (rng_yes (by omega) (by omega) (by omega) (by omega)).symm) | (with_reducible exact rng_no (by omega) (by omega) (by omega)) | (with_reducible exact range_yes (by with_reducible assumption) (by omega)) | (with_reducible exact rng_all (by omega)) | (have hr := rng_len lo hi xss.flatten (by with_reducible assumption : Int); omega))))
set_option maxRecDepth 100000 in
set_option maxHeartbeats 4000000 in
theorem p_iRange : Proved 25 cRange := by
  refine proved_of [(22, cItems)] ⟨p_iItems, trivial⟩ [.tmp 6] Try.func25 rfl rfl rfl rfl (by kernel_rfl) ?_
  intro ds K hrel
  simp only [cRange] at hrel
  split at hrel
  case h_2 => exact hrel.elim
  rename_i ks xss lo hi
  obtain ⟨rfl, ⟨h1, h2⟩, hrel⟩ := hrel
  have hf := items_len xss
  refine ⟨rfl, Nat.le_of_ble_eq_true rfl, fun k σ => match k with
    | 3 => some { α := Lv 3 Int, R := fun ⟨i⟩ => (0 ≤ i ∧ i ≤ (itemsOf xss).length), μ := fun ⟨i⟩ => ((itemsOf xss).length - i).toNat, st := fun ⟨i⟩ => upN σ [(13, .int .i64 i), (7, .own 2)] 2 (.rows 49 KItem (rng lo hi (itemsOf xss) i)) }
    | _ => none, ?_⟩
  repeat' (first | with_reducible refine And.intro ?_ ?_ | (with_reducible intro h; first | (exact absurd h (by decide)) | (guard_hyp h : true = true; clear h) | (guard_hyp h : false = false; clear h) | (have hq := (h : Lv 3 _); clear hq; obtain ⟨_⟩ := h) | skip) | with_reducible exact True.intro | ((with_reducible refine (id ?_ : @Eq Bool (nodupN _) true)); kernel_rfl) | ((with_reducible refine (id ?_ : @Eq Bool (apartN _ _) true)); kernel_rfl) | ((with_reducible refine (id ?_ : @Eq Bool (formL _ _) true)); kernel_rfl) | ((with_reducible refine (id ?_ : @Eq _ _ _)); exact rfl) | ((conv => whnf); first | done | with_reducible refine And.intro ?_ ?_ | (with_reducible intro h; first | (exact absurd h (by decide)) | (guard_hyp h : true = true; clear h) | (guard_hyp h : false = false; clear h) | (have hq := (h : Lv 3 _); clear hq; obtain ⟨_⟩ := h) | skip) | with_reducible exact True.intro | ((with_reducible refine (id ?_ : @Eq _ _ _)); exact rfl) | refine Exists.intro (⟨?_⟩ : Lv 3 _) ?_ | refine Exists.intro _ (Exists.intro _ (And.intro hrel ?_)) | exact Or.inl rfl | exact Or.inr (And.intro rfl rfl) | (apply Exists.intro; refine And.intro ?_ ?_)) | exact Nat.le_of_ble_eq_true rfl)
  all_goals (try ((try (change _ = _)) <;> (try dsimp only at *) <;> (try simp only [decide_eq_true_eq, decide_eq_false_iff_not, Bool.not_eq_true', Bool.not_eq_false', Bool.and_eq_true, Bool.and_eq_false_iff, beq_iff_eq, bne_iff_ne, beq_eq_false_iff_ne, bne_eq_false_iff_eq, ne_eq, Decidable.not_not, bne_self_eq_false, Bool.false_eq_true, Bool.true_eq_false, Bool.not_true, Bool.not_false, not_true_eq_false, not_false_eq_true, Int.toNat_natCast, Nat.zero_add, Nat.reduceAdd, Nat.reduceMul, Nat.reduceDiv, Nat.mul_one, lenK_one, big, fill_len, marking_len, marks_len, nrms_len, List.length_set, List.length_append, List.length_map, List.length_replicate, List.length_cons, List.length_nil, Int.natCast_add, Int.natCast_one, Int.natCast_zero] at *) <;> (repeat (with_reducible rename _ ∧ _ => hh; obtain ⟨_, _⟩ := hh)) <;> (first | omega | (refine fits_i64 ?_; omega) | (split <;> omega) | (with_reducible assumption) | (with_reducible exact range_nil (by with_reducible assumption)) | (with_reducible exact (range_nil (by with_reducible assumption)).symm) | (with_reducible exact (rng_zero _ _ _).symm) | (with_reducible exact rng_zero _ _ _) | (with_reducible exact rng_yes (by omega) (by omega) (by omega) (by omega)) | (with_reducible exact (rng_yes (by omega) (by omega) (by omega) (by omega)).symm) | (with_reducible exact rng_no (by omega) (by omega) (by omega)) | (with_reducible exact range_yes (by with_reducible assumption) (by omega)) | (with_reducible exact rng_all (by omega)) | (have hr := rng_len lo hi (itemsOf xss) (by with_reducible assumption : Int); omega))))
/-- The orders of regions that draw. -/
def trXTI : Nat → Option (Bool × Tr)
  | 10 => some (true, .take 0 (.take 1 (.all (.cons 2 (.all (.cons 3 (.take 4 .done) .nil)) .nil))))
  | _ => none
set_option maxRecDepth 100000 in
set_option maxHeartbeats 16000000 in
theorem p_fnExactTreeItems : Proved 5 (cLaw [.st [.ss KItem]]) := by
  refine proved_spc (spc1 15 (.mark 29 49 KItem PreM markM)) (spc1_ok mark_ok) trXTI [(17, cSzTree KItem), (19, cToTree 29 49 KItem), (12, cEqTree KItem), (13, cEq KItem), (14, cMark 49 KItem), (23, cHeld KItem), (21, cItems), (22, cItems)] ⟨p_szTree, p_toTree, p_eqTree, p_eqItemS, p_markItemS, p_heldItemS, p_sItems, p_iItems, trivial⟩ [.tmp 2] Try.func5 rfl rfl rfl rfl (by kernel_rfl) ?_
  rintro ds K ⟨⟨a, l, rfl, ⟨al, rfl, ⟨c, l2, rfl, ⟨xss, rfl, h1, h2⟩, rfl⟩⟩, rfl⟩, hrel⟩
  unfold maxLen at h1 h2
  have hs : Sml xss := ⟨fun i => by have := h2 i; omega⟩
  have hil := items_len (xss.map (nrms KItem))
  rw [tot_nrms] at hil
  refine ⟨rfl, Nat.le_of_ble_eq_true rfl, fun _ _ => none, ?_⟩
  repeat' (first | with_reducible refine And.intro ?_ ?_ | (with_reducible intro h; first | (exact absurd h (by decide)) | (guard_hyp h : true = true; clear h) | (guard_hyp h : false = false; clear h) | skip) | with_reducible exact True.intro | ((with_reducible refine (id ?_ : @Eq Bool (nodupN _) true)); kernel_rfl) | ((with_reducible refine (id ?_ : @Eq Bool (apartN _ _) true)); kernel_rfl) | ((with_reducible refine (id ?_ : @Eq Bool (formL _ _) true)); kernel_rfl) | ((with_reducible refine (id ?_ : @Eq _ _ _)); exact rfl) | ((conv => whnf); first | done | with_reducible refine And.intro ?_ ?_ | (with_reducible intro h; first | (exact absurd h (by decide)) | (guard_hyp h : true = true; clear h) | (guard_hyp h : false = false; clear h) | skip) | with_reducible exact True.intro | ((with_reducible refine (id ?_ : @Eq _ _ _)); exact rfl) | refine Exists.intro _ (Exists.intro _ (And.intro hrel ?_)) | exact Or.inl rfl | exact Or.inr (And.intro rfl rfl) | (apply Exists.intro; refine And.intro ?_ ?_)) | exact Nat.le_of_ble_eq_true rfl)
  all_goals (try ((try (change _ = _)) <;> (try dsimp only at *) <;> (try simp only [decide_eq_true_eq, decide_eq_false_iff_not, Bool.not_eq_true', Bool.not_eq_false', Bool.and_eq_true, Bool.and_eq_false_iff, beq_iff_eq, bne_iff_ne, beq_eq_false_iff_ne, bne_eq_false_iff_eq, ne_eq, Decidable.not_not, bne_self_eq_false, Bool.false_eq_true, Bool.true_eq_false, Bool.not_true, Bool.not_false, not_true_eq_false, not_false_eq_true, Int.toNat_natCast, Nat.zero_add, Nat.reduceAdd, Nat.reduceMul, Nat.reduceDiv, Nat.mul_one, lenK_one, big, fill_len, marking_len, marks_len, nrms_len, List.length_set, List.length_append, List.length_map, List.length_replicate, List.length_cons, List.length_nil, Int.natCast_add, Int.natCast_one, Int.natCast_zero, tot_nrms, nrmsS_nrmsS, nrms_nrms, items_nrm, decide_true, lenK_KItem, markM] at *) <;> (repeat (with_reducible rename _ ∧ _ => hh; obtain ⟨_, _⟩ := hh)) <;> (first | omega | (refine fits_i64 ?_; omega) | (split <;> omega) | (with_reducible assumption) | (with_reducible exact preM_nrm _ (by omega) (by omega)))))
/-- The orders of regions that draw. -/
def trXTR : Nat → Option (Bool × Tr)
  | 10 => some (true, .take 0 (.take 1 (.all (.cons 2 (.all (.cons 3 (.take 4 .done) .nil)) .nil))))
  | _ => none
set_option maxRecDepth 100000 in
set_option maxHeartbeats 16000000 in
theorem p_fnExactTreeRange : Proved 6 (cLaw [.st [.ss KItem], .c (.k (.int .i64)), .c (.k (.int .i64))]) := by
  refine proved_spc (spc1 15 (.mark 29 49 KItem PreM markM)) (spc1_ok mark_ok) trXTR [(17, cSzTree KItem), (19, cToTree 29 49 KItem), (12, cEqTree KItem), (13, cEq KItem), (14, cMark 49 KItem), (23, cHeld KItem), (24, cRange), (25, cRange)] ⟨p_szTree, p_toTree, p_eqTree, p_eqItemS, p_markItemS, p_heldItemS, p_sRange, p_iRange, trivial⟩ [.tmp 6] Try.func6 rfl rfl rfl rfl (by kernel_rfl) ?_
  rintro ds K ⟨⟨a, l, rfl, ⟨al, rfl, ⟨c, l2, rfl, ⟨xss, rfl, h1, h2⟩, rfl⟩⟩, ⟨b, l3, rfl, ⟨lo, rfl, hlo⟩, ⟨e, l4, rfl, ⟨hi, rfl, hhi⟩, rfl⟩⟩⟩, hrel⟩
  unfold maxLen at h1 h2
  have hs : Sml xss := ⟨fun i => by have := h2 i; omega⟩
  have hil := items_len (xss.map (nrms KItem))
  rw [tot_nrms] at hil
  have hrl := range_len lo hi (itemsOf (xss.map (nrms KItem)))
  refine ⟨rfl, Nat.le_of_ble_eq_true rfl, fun _ _ => none, ?_⟩
  repeat' (first | with_reducible refine And.intro ?_ ?_ | (with_reducible intro h; first | (exact absurd h (by decide)) | (guard_hyp h : true = true; clear h) | (guard_hyp h : false = false; clear h) | skip) | with_reducible exact True.intro | ((with_reducible refine (id ?_ : @Eq Bool (nodupN _) true)); kernel_rfl) | ((with_reducible refine (id ?_ : @Eq Bool (apartN _ _) true)); kernel_rfl) | ((with_reducible refine (id ?_ : @Eq Bool (formL _ _) true)); kernel_rfl) | ((with_reducible refine (id ?_ : @Eq _ _ _)); exact rfl) | ((conv => whnf); first | done | with_reducible refine And.intro ?_ ?_ | (with_reducible intro h; first | (exact absurd h (by decide)) | (guard_hyp h : true = true; clear h) | (guard_hyp h : false = false; clear h) | skip) | with_reducible exact True.intro | ((with_reducible refine (id ?_ : @Eq _ _ _)); exact rfl) | refine Exists.intro _ (Exists.intro _ (And.intro hrel ?_)) | exact Or.inl rfl | exact Or.inr (And.intro rfl rfl) | (apply Exists.intro; refine And.intro ?_ ?_)) | exact Nat.le_of_ble_eq_true rfl)
  all_goals (try ((try (change _ = _)) <;> (try dsimp only at *) <;> (try simp only [decide_eq_true_eq, decide_eq_false_iff_not, Bool.not_eq_true', Bool.not_eq_false', Bool.and_eq_true, Bool.and_eq_false_iff, beq_iff_eq, bne_iff_ne, beq_eq_false_iff_ne, bne_eq_false_iff_eq, ne_eq, Decidable.not_not, bne_self_eq_false, Bool.false_eq_true, Bool.true_eq_false, Bool.not_true, Bool.not_false, not_true_eq_false, not_false_eq_true, Int.toNat_natCast, Nat.zero_add, Nat.reduceAdd, Nat.reduceMul, Nat.reduceDiv, Nat.mul_one, lenK_one, big, fill_len, marking_len, marks_len, nrms_len, List.length_set, List.length_append, List.length_map, List.length_replicate, List.length_cons, List.length_nil, Int.natCast_add, Int.natCast_one, Int.natCast_zero, tot_nrms, nrmsS_nrmsS, nrms_nrms, range_nrm, decide_true, lenK_KItem, markM] at *) <;> (repeat (with_reducible rename _ ∧ _ => hh; obtain ⟨_, _⟩ := hh)) <;> (first | omega | (refine fits_i64 ?_; omega) | (split <;> omega) | (with_reducible assumption) | (with_reducible exact preM_nrm _ (by omega) (by omega)))))
end Go.Proofs.Ytkjbgdhpeidocaa.V
