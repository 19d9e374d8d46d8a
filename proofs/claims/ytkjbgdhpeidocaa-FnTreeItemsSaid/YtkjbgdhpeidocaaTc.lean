/-
  Trees: what they hold, which are valid, their items.
-/
import Derived.Test.YtkjbgdhpeidocaaTb
import Derived.Test.YtkjbgdhpeidocaaTg
set_option linter.unusedSimpArgs false
set_option linter.unusedVariables false
namespace Go.Proofs.Ytkjbgdhpeidocaa.V
open Go Go.RowKit
open Classical

/-- The rows of the first i slices, one behind the other. -/
@[irreducible] def flatN (xss : List (List Row)) (i : Nat) : List Row := (xss.take i).flatten
theorem flatN_zero (xss : List (List Row)) : flatN xss 0 = [] := by simp [flatN]
theorem flatN_succ (xss : List (List Row)) (i : Nat) (h : i < xss.length) : flatN xss (i + 1) = flatN xss i ++ xss.getD i [] := by
  unfold flatN
  rw [List.take_add_one, List.flatten_append, List.getElem?_eq_getElem h, List.getD_eq_getElem?_getD, List.getElem?_eq_getElem h]
  simp
theorem flatten_len : ∀ xss : List (List Row), xss.flatten.length = tot xss
  | [] => rfl
  | xs :: r => by simp [tot, flatten_len r]
theorem flatN_len (xss : List (List Row)) (i : Nat) : (flatN xss i).length = tot (xss.take i) := by unfold flatN; exact flatten_len _
theorem flatN_all {xss : List (List Row)} {i : Nat} (h : ¬ (i : Int) < xss.length) : flatN xss i = xss.flatten := by unfold flatN; rw [tot_all h]
theorem flatN_step {xss : List (List Row)} {i : Nat} (h : (i : Int) < xss.length) : flatN xss i ++ xss.getD i [] = flatN xss (i + 1) := (flatN_succ xss i (by omega)).symm
def cFlat : Ct := ⟨[], fun ds K => match ds with
  | [.agg [.vv js xss]] => js = KItem ∧ (xss.length ≤ 1048576 ∧ tot xss ≤ 1048576) ∧ K (.fr 49 KItem xss.flatten) []
  | _ => False⟩
def cConcat : Ct := ⟨[], fun ds K => match ds with
  | [.vv js xss] => js = KItem ∧ (xss.length ≤ 1048576 ∧ tot xss ≤ 1048576) ∧ K (.fr 49 KItem xss.flatten) []
  | _ => False⟩
def leastI (xss : List (List Row)) : Int := if (xss.length : Int) = 1 then 1 else 2
theorem least_1 {xss : List (List Row)} (h : (xss.length : Int) = 1) : leastI xss = 1 := by unfold leastI; rw [if_pos h]
theorem least_2 {xss : List (List Row)} (h : ¬ (xss.length : Int) = 1) : leastI xss = 2 := by unfold leastI; rw [if_neg h]
theorem least_pos (xss : List (List Row)) : 1 ≤ leastI xss := by unfold leastI; split <;> omega
structure LeafN (xss : List (List Row)) (n : Nat) : Prop where
  h : ∀ j, j < n → leastI xss ≤ (xss.getD j []).length ∧ (xss.getD j []).length ≤ 4
theorem leaf_zero (xss : List (List Row)) : LeafN xss 0 := ⟨fun j h => by omega⟩
theorem leaf_step {xss : List (List Row)} {i : Nat} (h : LeafN xss i) (h1 : leastI xss ≤ (xss.getD i []).length) (h2 : (xss.getD i []).length ≤ 4) : LeafN xss (i + 1) := ⟨fun j hj => by
  rcases Nat.lt_succ_iff_lt_or_eq.1 hj with q | rfl
  · exact h.h j q
  · exact ⟨h1, h2⟩⟩
theorem leaf_not1 {xss : List (List Row)} {i : Nat} (hi : (i : Int) < xss.length) (h : ((xss.getD i []).length : Int) < leastI xss) : ¬ LeafN xss xss.length := fun q => by
  have := (q.h i (by omega)).1; omega
theorem leaf_not2 {xss : List (List Row)} {i : Nat} (hi : (i : Int) < xss.length) (h : 4 < ((xss.getD i []).length : Int)) : ¬ LeafN xss xss.length := fun q => by
  have := (q.h i (by omega)).2; omega
theorem leaf_all {xss : List (List Row)} {i : Nat} (h : LeafN xss i) (hi : ¬ (i : Int) < xss.length) (hi2 : i ≤ xss.length) : LeafN xss xss.length := by rw [show xss.length = i by omega]; exact h
theorem leaf_many {xss : List (List Row)} : ∀ n, n ≤ xss.length → LeafN xss n → n ≤ tot (xss.take n)
  | 0, _, _ => Nat.zero_le _
  | n + 1, hn, h => by
    have ih := leaf_many n (by omega) ⟨fun j hj => h.h j (by omega)⟩
    have h1 := (h.h n (by omega)).1
    have h2 := least_pos xss
    rw [tot_succ xss n (by omega)]
    omega
/-- A valid tree. -/
structure VTree (xss : List (List Row)) : Prop where
  leaf : LeafN xss xss.length
  ord : Ord xss.flatten
theorem vt_many {xss : List (List Row)} (h : VTree xss) : xss.length ≤ 30 := by
  have h1 := leaf_many xss.length (Nat.le_refl _) h.leaf
  rw [List.take_length] at h1
  have h2 := h.ord.2
  rw [flatten_len] at h2
  omega
theorem vt_no1 {xss : List (List Row)} {i : Nat} (hi : (i : Int) < xss.length) (h : ((xss.getD i []).length : Int) < leastI xss) : ¬ VTree xss := fun q => leaf_not1 hi h q.leaf
theorem vt_no2 {xss : List (List Row)} {i : Nat} (hi : (i : Int) < xss.length) (h : 4 < ((xss.getD i []).length : Int)) : ¬ VTree xss := fun q => leaf_not2 hi h q.leaf
theorem vt_no12 {xss : List (List Row)} {i : Nat} (hi : (i : Int) < xss.length) (h : leastI xss ≤ ((xss.getD i []).length : Int) → 4 < ((xss.getD i []).length : Int)) : ¬ VTree xss := by
  by_cases q : leastI xss ≤ ((xss.getD i []).length : Int)
  · exact vt_no2 hi (h q)
  · exact vt_no1 hi (by omega)
theorem vt_no3 {xss : List (List Row)} (h : 30 < (xss.length : Int)) : ¬ VTree xss := fun q => by have := vt_many q; omega
theorem vt_no4 {xss : List (List Row)} (h : ¬ Ord xss.flatten) : ¬ VTree xss := fun q => h q.ord
theorem vt_no5 {xss : List (List Row)} (h : 30 < (xss.flatten.length : Int)) : ¬ VTree xss := fun q => by have := q.ord.2; omega
theorem vt_yes {xss : List (List Row)} {i : Nat} (h : LeafN xss i) (hi : ¬ (i : Int) < xss.length) (hi2 : i ≤ xss.length) : decide (Ord xss.flatten) = decide (VTree xss) :=
  decide_eq_decide.2 ⟨fun q => ⟨leaf_all h hi hi2, q⟩, fun q => q.ord⟩
theorem vt_yes2 {xss : List (List Row)} {i : Nat} (h : LeafN xss i) (hi : ¬ (i : Int) < xss.length) (hi2 : i ≤ xss.length) (hl : (xss.flatten.length : Int) ≤ 30) : decide (OrdN xss.flatten xss.flatten.length) = decide (VTree xss) :=
  decide_eq_decide.2 ⟨fun q => ⟨leaf_all h hi hi2, q, by omega⟩, fun q => q.ord.1⟩
noncomputable def cVTree : Ct := ⟨[], fun ds K => match ds with
  | [.agg [.vv js xss]] => js = KItem ∧ (xss.length ≤ 1048576 ∧ tot xss ≤ 1048576) ∧ K (.bool (decide (VTree xss))) []
  | _ => False⟩
set_option maxRecDepth 100000 in
set_option maxHeartbeats 4000000 in
theorem p_flat : Proved 40 cFlat := by
  refine proved_of [] trivial [.tmp 2] Try.func40 rfl rfl rfl rfl (by kernel_rfl) ?_
  intro ds K hrel
  simp only [cFlat] at hrel
  split at hrel
  case h_2 => exact hrel.elim
  rename_i ks xss
  obtain ⟨rfl, ⟨h1, h2⟩, hrel⟩ := hrel
  refine ⟨rfl, Nat.le_of_ble_eq_true rfl, fun k σ => match k with
    | 3 => some { α := Lv 3 Nat, R := fun i => i.v ≤ xss.length, μ := fun i => xss.length - i.v, st := fun i => upH σ [(4, .int .i64 i.v), (3, .own 1)] 1 (.rows 49 KItem (flatN xss i.v)) }
    | _ => none, ?_⟩
  repeat' (first | with_reducible refine And.intro ?_ ?_ | (with_reducible intro h; first | (exact absurd h (by decide)) | (guard_hyp h : true = true; clear h) | (guard_hyp h : false = false; clear h) | skip) | with_reducible exact True.intro | ((with_reducible refine (id ?_ : @Eq Bool (nodupN _) true)); kernel_rfl) | ((with_reducible refine (id ?_ : @Eq Bool (apartN _ _) true)); kernel_rfl) | ((with_reducible refine (id ?_ : @Eq Bool (formL _ _) true)); kernel_rfl) | ((with_reducible refine (id ?_ : @Eq _ _ _)); exact rfl) | ((conv => whnf); first | done | with_reducible refine And.intro ?_ ?_ | (with_reducible intro h; first | (exact absurd h (by decide)) | (guard_hyp h : true = true; clear h) | (guard_hyp h : false = false; clear h) | skip) | with_reducible exact True.intro | ((with_reducible refine (id ?_ : @Eq _ _ _)); exact rfl) | refine Exists.intro (⟨(by with_reducible assumption : Lv 3 Nat).v + 1⟩ : Lv 3 Nat) ?_ | refine Exists.intro (⟨0⟩ : Lv 3 Nat) ?_ | refine Exists.intro _ (Exists.intro _ (And.intro hrel ?_)) | exact Or.inl rfl | exact Or.inr (And.intro rfl rfl) | (apply Exists.intro; refine And.intro ?_ ?_)) | exact Nat.le_of_ble_eq_true rfl)
  all_goals (try ((try (change _ = _)) <;> (try dsimp only at *) <;> (try simp only [decide_eq_true_eq, decide_eq_false_iff_not, Bool.not_eq_true', Bool.not_eq_false', Bool.and_eq_true, Bool.and_eq_false_iff, beq_iff_eq, bne_iff_ne, beq_eq_false_iff_ne, bne_eq_false_iff_eq, ne_eq, Decidable.not_not, bne_self_eq_false, Bool.false_eq_true, Bool.true_eq_false, Bool.not_true, Bool.not_false, not_true_eq_false, not_false_eq_true, Int.toNat_natCast, Nat.zero_add, Nat.reduceAdd, Nat.reduceMul, Nat.reduceDiv, Nat.mul_one, lenK_one, big, fill_len, marking_len, marks_len, nrms_len, List.length_set, List.length_append, List.length_map, List.length_replicate, List.length_cons, List.length_nil, Int.natCast_add, Int.natCast_one, Int.natCast_zero, flatN_len] at *) <;> (repeat (with_reducible rename _ ∧ _ => hh; obtain ⟨_, _⟩ := hh)) <;> (first | omega | (refine fits_i64 ?_; omega) | (split <;> omega) | (with_reducible exact flatN_step (by omega)) | (with_reducible exact (flatN_step (by omega)).symm) | (with_reducible exact flatN_all (by with_reducible assumption)) | (with_reducible exact (flatN_zero _).symm) | (with_reducible exact flatN_zero _) | (have ht := tot_succ xss (Lv.v (by with_reducible assumption : Lv 3 Nat)) (by omega); have hm := tot_le xss ((Lv.v (by with_reducible assumption : Lv 3 Nat)) + 1); have hl := len_tot xss (Lv.v (by with_reducible assumption : Lv 3 Nat)); omega))))
set_option maxRecDepth 100000 in
set_option maxHeartbeats 4000000 in
theorem p_concat : Proved 39 cConcat := by
  refine proved_spc (spc1 48 (.grow 49 16 KItem)) (spc1_ok grow_ok) noTr [] trivial [.tmp 2] Try.func39 rfl rfl rfl rfl (by kernel_rfl) ?_
  intro ds K hrel
  simp only [cConcat] at hrel
  split at hrel
  case h_2 => exact hrel.elim
  rename_i ks xss
  obtain ⟨rfl, ⟨h1, h2⟩, hrel⟩ := hrel
  refine ⟨rfl, Nat.le_of_ble_eq_true rfl, fun k σ => match k with
    | 3 => some { α := Lv 3 Nat, R := fun i => i.v ≤ xss.length, μ := fun i => xss.length - i.v, st := fun i => up σ [(11, .int .i64 i.v), (3, .int .i64 (tot (xss.take i.v)))] }
    | 11 => some { α := Lv 11 Nat, R := fun i => i.v ≤ xss.length, μ := fun i => xss.length - i.v, st := fun i => upH σ [(27, .int .i64 i.v), (6, .own 0)] 0 (.rows 49 KItem (flatN xss i.v)) }
    | _ => none, ?_⟩
  repeat' (first | with_reducible refine And.intro ?_ ?_ | (with_reducible intro h; first | (exact absurd h (by decide)) | (guard_hyp h : true = true; clear h) | (guard_hyp h : false = false; clear h) | skip) | with_reducible exact True.intro | ((with_reducible refine (id ?_ : @Eq Bool (nodupN _) true)); kernel_rfl) | ((with_reducible refine (id ?_ : @Eq Bool (apartN _ _) true)); kernel_rfl) | ((with_reducible refine (id ?_ : @Eq Bool (formL _ _) true)); kernel_rfl) | ((with_reducible refine (id ?_ : @Eq _ _ _)); exact rfl) | ((conv => whnf); first | done | with_reducible refine And.intro ?_ ?_ | (with_reducible intro h; first | (exact absurd h (by decide)) | (guard_hyp h : true = true; clear h) | (guard_hyp h : false = false; clear h) | skip) | with_reducible exact True.intro | ((with_reducible refine (id ?_ : @Eq _ _ _)); exact rfl) | refine Exists.intro (⟨(by with_reducible assumption : Lv 3 Nat).v + 1⟩ : Lv 3 Nat) ?_ | refine Exists.intro (⟨0⟩ : Lv 3 Nat) ?_ | refine Exists.intro (⟨(by with_reducible assumption : Lv 11 Nat).v + 1⟩ : Lv 11 Nat) ?_ | refine Exists.intro (⟨0⟩ : Lv 11 Nat) ?_ | refine Exists.intro _ (Exists.intro _ (And.intro hrel ?_)) | exact Or.inl rfl | exact Or.inr (And.intro rfl rfl) | (apply Exists.intro; refine And.intro ?_ ?_)) | exact Nat.le_of_ble_eq_true rfl)
  all_goals (try ((try (change _ = _)) <;> (try dsimp only at *) <;> (try simp only [decide_eq_true_eq, decide_eq_false_iff_not, Bool.not_eq_true', Bool.not_eq_false', Bool.and_eq_true, Bool.and_eq_false_iff, beq_iff_eq, bne_iff_ne, beq_eq_false_iff_ne, bne_eq_false_iff_eq, ne_eq, Decidable.not_not, bne_self_eq_false, Bool.false_eq_true, Bool.true_eq_false, Bool.not_true, Bool.not_false, not_true_eq_false, not_false_eq_true, Int.toNat_natCast, Nat.zero_add, Nat.reduceAdd, Nat.reduceMul, Nat.reduceDiv, Nat.mul_one, lenK_one, big, fill_len, marking_len, marks_len, nrms_len, List.length_set, List.length_append, List.length_map, List.length_replicate, List.length_cons, List.length_nil, Int.natCast_add, Int.natCast_one, Int.natCast_zero, flatN_len] at *) <;> (repeat (with_reducible rename _ ∧ _ => hh; obtain ⟨_, _⟩ := hh)) <;> (first | omega | (refine fits_i64 ?_; omega) | (split <;> omega) | (rw [List.take_zero]; simp only [tot]; omega) | (with_reducible exact flatN_step (by omega)) | (with_reducible exact (flatN_step (by omega)).symm) | (with_reducible exact flatN_all (by with_reducible assumption)) | (with_reducible exact (flatN_zero _).symm) | (with_reducible exact flatN_zero _) | (have ht := tot_succ xss (Lv.v (by with_reducible assumption : Lv 3 Nat)) (by omega); have hm := tot_le xss ((Lv.v (by with_reducible assumption : Lv 3 Nat)) + 1); have hl := len_tot xss (Lv.v (by with_reducible assumption : Lv 3 Nat)); omega) | (with_reducible exact flatN_step (by omega)) | (with_reducible exact (flatN_step (by omega)).symm) | (with_reducible exact flatN_all (by with_reducible assumption)) | (with_reducible exact (flatN_zero _).symm) | (with_reducible exact flatN_zero _) | (have ht := tot_succ xss (Lv.v (by with_reducible assumption : Lv 11 Nat)) (by omega); have hm := tot_le xss ((Lv.v (by with_reducible assumption : Lv 11 Nat)) + 1); have hl := len_tot xss (Lv.v (by with_reducible assumption : Lv 11 Nat)); omega) | (have hm := tot_le xss (Lv.v (by with_reducible assumption : Lv 3 Nat)); omega) | (have ht := tot_succ xss (Lv.v (by with_reducible assumption : Lv 3 Nat)) (by omega); have hm := tot_le xss ((Lv.v (by with_reducible assumption : Lv 3 Nat)) + 1); omega) | (refine fits_i64 ?_; have ht := tot_succ xss (Lv.v (by with_reducible assumption : Lv 3 Nat)) (by omega); have hm := tot_le xss ((Lv.v (by with_reducible assumption : Lv 3 Nat)) + 1); omega) | (exfalso; omega))))
set_option maxRecDepth 100000 in
set_option maxHeartbeats 4000000 in
theorem p_svTree : Proved 37 cVTree := by
  refine proved_of [(41, cInRange), (40, cFlat), (28, cOrd)] ⟨p_inRange, p_flat, p_validItems, trivial⟩ [.tmp 2] Try.func37 rfl rfl rfl rfl (by kernel_rfl) ?_
  intro ds K hrel
  simp only [cVTree] at hrel
  split at hrel
  case h_2 => exact hrel.elim
  rename_i ks xss
  obtain ⟨rfl, ⟨h1, h2⟩, hrel⟩ := hrel
  refine ⟨rfl, Nat.le_of_ble_eq_true rfl, fun k σ => match k with
    | 2 => some { α := Lv 2 Nat, R := fun i => i.v ≤ xss.length ∧ LeafN xss i.v, μ := fun i => xss.length - i.v, st := fun i => up σ [(3, .int .i64 i.v)] }
    | _ => none, ?_⟩
  repeat' (first | with_reducible refine And.intro ?_ ?_ | (with_reducible intro h; first | (exact absurd h (by decide)) | (guard_hyp h : true = true; clear h) | (guard_hyp h : false = false; clear h) | skip) | with_reducible exact True.intro | ((with_reducible refine (id ?_ : @Eq Bool (nodupN _) true)); kernel_rfl) | ((with_reducible refine (id ?_ : @Eq Bool (apartN _ _) true)); kernel_rfl) | ((with_reducible refine (id ?_ : @Eq Bool (formL _ _) true)); kernel_rfl) | ((with_reducible refine (id ?_ : @Eq _ _ _)); exact rfl) | ((conv => whnf); first | done | with_reducible refine And.intro ?_ ?_ | (with_reducible intro h; first | (exact absurd h (by decide)) | (guard_hyp h : true = true; clear h) | (guard_hyp h : false = false; clear h) | skip) | with_reducible exact True.intro | ((with_reducible refine (id ?_ : @Eq _ _ _)); exact rfl) | refine Exists.intro (⟨(by with_reducible assumption : Lv 2 Nat).v + 1⟩ : Lv 2 Nat) ?_ | refine Exists.intro (⟨0⟩ : Lv 2 Nat) ?_ | refine Exists.intro _ (Exists.intro _ (And.intro hrel ?_)) | exact Or.inl rfl | exact Or.inr (And.intro rfl rfl) | (apply Exists.intro; refine And.intro ?_ ?_)) | exact Nat.le_of_ble_eq_true rfl)
  all_goals (try ((try (change _ = _)) <;> (try dsimp only at *) <;> (try simp only [decide_eq_true_eq, decide_eq_false_iff_not, Bool.not_eq_true', Bool.not_eq_false', Bool.and_eq_true, Bool.and_eq_false_iff, beq_iff_eq, bne_iff_ne, beq_eq_false_iff_ne, bne_eq_false_iff_eq, ne_eq, Decidable.not_not, bne_self_eq_false, Bool.false_eq_true, Bool.true_eq_false, Bool.not_true, Bool.not_false, not_true_eq_false, not_false_eq_true, Int.toNat_natCast, Nat.zero_add, Nat.reduceAdd, Nat.reduceMul, Nat.reduceDiv, Nat.mul_one, lenK_one, big, fill_len, marking_len, marks_len, nrms_len, List.length_set, List.length_append, List.length_map, List.length_replicate, List.length_cons, List.length_nil, Int.natCast_add, Int.natCast_one, Int.natCast_zero] at *) <;> (repeat (with_reducible rename _ ∧ _ => hh; obtain ⟨_, _⟩ := hh)) <;> (first | omega | (refine fits_i64 ?_; omega) | (split <;> omega) | (have hm := flatten_len xss; omega) | (have hq := least_1 (by with_reducible assumption); exact false_eq (vt_no12 (by omega) (by rw [hq]; first | assumption | omega))) | (have hq := least_2 (by with_reducible assumption); exact false_eq (vt_no12 (by omega) (by rw [hq]; first | assumption | omega))) | (have hq := least_1 (by with_reducible assumption); exact leaf_step (by with_reducible assumption) (by omega) (by omega)) | (have hq := least_2 (by with_reducible assumption); exact leaf_step (by with_reducible assumption) (by omega) (by omega)) | (with_reducible exact leaf_zero _) | (with_reducible exact false_eq (vt_no1 (by omega) (by omega))) | (with_reducible exact false_eq (vt_no2 (by omega) (by omega))) | (with_reducible exact false_eq (vt_no3 (by omega))) | (with_reducible exact false_eq (vt_no4 (by with_reducible assumption))) | (with_reducible exact false_eq (vt_no5 (by omega))) | (with_reducible exact vt_yes (by with_reducible assumption) (by with_reducible assumption) (by with_reducible assumption)) | (with_reducible exact vt_yes2 (by with_reducible assumption) (by with_reducible assumption) (by with_reducible assumption) (by omega)) | (with_reducible exact leaf_step (by with_reducible assumption) (by omega) (by omega)))))
set_option maxRecDepth 100000 in
set_option maxHeartbeats 4000000 in
theorem p_sValidTree : Proved 18 cVTree := by
  refine proved_of [(37, cVTree)] ⟨p_svTree, trivial⟩ [.tmp 2] Try.func18 rfl rfl rfl rfl (by kernel_rfl) ?_
  intro ds K hrel
  simp only [cVTree] at hrel
  split at hrel
  case h_2 => exact hrel.elim
  rename_i ks xss
  obtain ⟨rfl, ⟨h1, h2⟩, hrel⟩ := hrel
  refine ⟨rfl, Nat.le_of_ble_eq_true rfl, fun _ _ => none, ?_⟩
  repeat' (first | with_reducible refine And.intro ?_ ?_ | (with_reducible intro h; first | (exact absurd h (by decide)) | (guard_hyp h : true = true; clear h) | (guard_hyp h : false = false; clear h) | skip) | with_reducible exact True.intro | ((with_reducible refine (id ?_ : @Eq Bool (nodupN _) true)); kernel_rfl) | ((with_reducible refine (id ?_ : @Eq Bool (apartN _ _) true)); kernel_rfl) | ((with_reducible refine (id ?_ : @Eq Bool (formL _ _) true)); kernel_rfl) | ((with_reducible refine (id ?_ : @Eq _ _ _)); exact rfl) | ((conv => whnf); first | done | with_reducible refine And.intro ?_ ?_ | (with_reducible intro h; first | (exact absurd h (by decide)) | (guard_hyp h : true = true; clear h) | (guard_hyp h : false = false; clear h) | skip) | with_reducible exact True.intro | ((with_reducible refine (id ?_ : @Eq _ _ _)); exact rfl) | refine Exists.intro _ (Exists.intro _ (And.intro hrel ?_)) | exact Or.inl rfl | exact Or.inr (And.intro rfl rfl) | (apply Exists.intro; refine And.intro ?_ ?_)) | exact Nat.le_of_ble_eq_true rfl)
  all_goals (try ((try (change _ = _)) <;> (try dsimp only at *) <;> (try simp only [decide_eq_true_eq, decide_eq_false_iff_not, Bool.not_eq_true', Bool.not_eq_false', Bool.and_eq_true, Bool.and_eq_false_iff, beq_iff_eq, bne_iff_ne, beq_eq_false_iff_ne, bne_eq_false_iff_eq, ne_eq, Decidable.not_not, bne_self_eq_false, Bool.false_eq_true, Bool.true_eq_false, Bool.not_true, Bool.not_false, not_true_eq_false, not_false_eq_true, Int.toNat_natCast, Nat.zero_add, Nat.reduceAdd, Nat.reduceMul, Nat.reduceDiv, Nat.mul_one, lenK_one, big, fill_len, marking_len, marks_len, nrms_len, List.length_set, List.length_append, List.length_map, List.length_replicate, List.length_cons, List.length_nil, Int.natCast_add, Int.natCast_one, Int.natCast_zero] at *) <;> (repeat (with_reducible rename _ ∧ _ => hh; obtain ⟨_, _⟩ := hh)) <;> (first | omega | (refine fits_i64 ?_; omega) | (split <;> omega))))
set_option maxRecDepth 100000 in
set_option maxHeartbeats 4000000 in
theorem p_iValidTree : Proved 20 cVTree := by
  refine proved_of [(39, cConcat), (30, cOrdN)] ⟨p_concat, p_inOrder, trivial⟩ [.tmp 2] Try.func20 rfl rfl rfl rfl (by kernel_rfl) ?_
  intro ds K hrel
  simp only [cVTree] at hrel
  split at hrel
  case h_2 => exact hrel.elim
  rename_i ks xss
  obtain ⟨rfl, ⟨h1, h2⟩, hrel⟩ := hrel
  refine ⟨rfl, Nat.le_of_ble_eq_true rfl, fun k σ => match k with
    | 5 => some { α := Lv 5 Nat, R := fun i => i.v ≤ xss.length ∧ LeafN xss i.v, μ := fun i => xss.length - i.v, st := fun i => up σ [(14, .int .i64 i.v), (3, .int .i64 (leastI xss))] }
    | _ => none, ?_⟩
  repeat' (first | with_reducible refine And.intro ?_ ?_ | (with_reducible intro h; first | (exact absurd h (by decide)) | (guard_hyp h : true = true; clear h) | (guard_hyp h : false = false; clear h) | skip) | with_reducible exact True.intro | ((with_reducible refine (id ?_ : @Eq Bool (nodupN _) true)); kernel_rfl) | ((with_reducible refine (id ?_ : @Eq Bool (apartN _ _) true)); kernel_rfl) | ((with_reducible refine (id ?_ : @Eq Bool (formL _ _) true)); kernel_rfl) | ((with_reducible refine (id ?_ : @Eq _ _ _)); exact rfl) | ((conv => whnf); first | done | with_reducible refine And.intro ?_ ?_ | (with_reducible intro h; first | (exact absurd h (by decide)) | (guard_hyp h : true = true; clear h) | (guard_hyp h : false = false; clear h) | skip) | with_reducible exact True.intro | ((with_reducible refine (id ?_ : @Eq _ _ _)); exact rfl) | refine Exists.intro (⟨(by with_reducible assumption : Lv 5 Nat).v + 1⟩ : Lv 5 Nat) ?_ | refine Exists.intro (⟨0⟩ : Lv 5 Nat) ?_ | refine Exists.intro _ (Exists.intro _ (And.intro hrel ?_)) | exact Or.inl rfl | exact Or.inr (And.intro rfl rfl) | (apply Exists.intro; refine And.intro ?_ ?_)) | exact Nat.le_of_ble_eq_true rfl)
  all_goals (try ((try (change _ = _)) <;> (try dsimp only at *) <;> (try simp only [decide_eq_true_eq, decide_eq_false_iff_not, Bool.not_eq_true', Bool.not_eq_false', Bool.and_eq_true, Bool.and_eq_false_iff, beq_iff_eq, bne_iff_ne, beq_eq_false_iff_ne, bne_eq_false_iff_eq, ne_eq, Decidable.not_not, bne_self_eq_false, Bool.false_eq_true, Bool.true_eq_false, Bool.not_true, Bool.not_false, not_true_eq_false, not_false_eq_true, Int.toNat_natCast, Nat.zero_add, Nat.reduceAdd, Nat.reduceMul, Nat.reduceDiv, Nat.mul_one, lenK_one, big, fill_len, marking_len, marks_len, nrms_len, List.length_set, List.length_append, List.length_map, List.length_replicate, List.length_cons, List.length_nil, Int.natCast_add, Int.natCast_one, Int.natCast_zero] at *) <;> (repeat (with_reducible rename _ ∧ _ => hh; obtain ⟨_, _⟩ := hh)) <;> (first | omega | (refine fits_i64 ?_; omega) | (split <;> omega) | (have hm := flatten_len xss; omega) | (exact (least_1 (by with_reducible assumption)).symm) | (exact (least_2 (by with_reducible assumption)).symm) | exact least_1 (by with_reducible assumption) | exact least_2 (by with_reducible assumption) | (with_reducible exact leaf_zero _) | (with_reducible exact false_eq (vt_no1 (by omega) (by omega))) | (with_reducible exact false_eq (vt_no2 (by omega) (by omega))) | (with_reducible exact false_eq (vt_no3 (by omega))) | (with_reducible exact false_eq (vt_no4 (by with_reducible assumption))) | (with_reducible exact false_eq (vt_no5 (by omega))) | (with_reducible exact vt_yes (by with_reducible assumption) (by with_reducible assumption) (by with_reducible assumption)) | (with_reducible exact vt_yes2 (by with_reducible assumption) (by with_reducible assumption) (by with_reducible assumption) (by omega)) | (with_reducible exact leaf_step (by with_reducible assumption) (by omega) (by omega)))))
noncomputable def itemsOf (xss : List (List Row)) : List Row := if VTree xss then xss.flatten else []
theorem items_yes {xss : List (List Row)} (h : VTree xss) : xss.flatten = itemsOf xss := by unfold itemsOf; rw [if_pos h]
theorem items_no {xss : List (List Row)} (h : ¬ VTree xss) : itemsOf xss = [] := by unfold itemsOf; rw [if_neg h]
theorem items_len (xss : List (List Row)) : (itemsOf xss).length ≤ tot xss := by
  unfold itemsOf; split
  · rw [flatten_len]; exact Nat.le_refl _
  · simp
noncomputable def cItems : Ct := ⟨[], fun ds K => match ds with
  | [.agg [.vv js xss]] => js = KItem ∧ (xss.length ≤ 1048576 ∧ tot xss ≤ 1048576) ∧ K (.fr 49 KItem (itemsOf xss)) []
  | _ => False⟩
set_option maxRecDepth 100000 in
set_option maxHeartbeats 4000000 in
theorem p_sItems : Proved 21 cItems := by
  refine proved_of [(37, cVTree), (40, cFlat)] ⟨p_svTree, p_flat, trivial⟩ [.tmp 2] Try.func21 rfl rfl rfl rfl (by kernel_rfl) ?_
  intro ds K hrel
  simp only [cItems] at hrel
  split at hrel
  case h_2 => exact hrel.elim
  rename_i ks xss
  obtain ⟨rfl, ⟨h1, h2⟩, hrel⟩ := hrel
  refine ⟨rfl, Nat.le_of_ble_eq_true rfl, fun _ _ => none, ?_⟩
  repeat' (first | with_reducible refine And.intro ?_ ?_ | (with_reducible intro h; first | (exact absurd h (by decide)) | (guard_hyp h : true = true; clear h) | (guard_hyp h : false = false; clear h) | skip) | with_reducible exact True.intro | ((with_reducible refine (id ?_ : @Eq Bool (nodupN _) true)); kernel_rfl) | ((with_reducible refine (id ?_ : @Eq Bool (apartN _ _) true)); kernel_rfl) | ((with_reducible refine (id ?_ : @Eq Bool (formL _ _) true)); kernel_rfl) | ((with_reducible refine (id ?_ : @Eq _ _ _)); exact rfl) | ((conv => whnf); first | done | with_reducible refine And.intro ?_ ?_ | (with_reducible intro h; first | (exact absurd h (by decide)) | (guard_hyp h : true = true; clear h) | (guard_hyp h : false = false; clear h) | skip) | with_reducible exact True.intro | ((with_reducible refine (id ?_ : @Eq _ _ _)); exact rfl) | refine Exists.intro _ (Exists.intro _ (And.intro hrel ?_)) | exact Or.inl rfl | exact Or.inr (And.intro rfl rfl) | (apply Exists.intro; refine And.intro ?_ ?_)) | exact Nat.le_of_ble_eq_true rfl)
  all_goals (try ((try (change _ = _)) <;> (try dsimp only at *) <;> (try simp only [decide_eq_true_eq, decide_eq_false_iff_not, Bool.not_eq_true', Bool.not_eq_false', Bool.and_eq_true, Bool.and_eq_false_iff, beq_iff_eq, bne_iff_ne, beq_eq_false_iff_ne, bne_eq_false_iff_eq, ne_eq, Decidable.not_not, bne_self_eq_false, Bool.false_eq_true, Bool.true_eq_false, Bool.not_true, Bool.not_false, not_true_eq_false, not_false_eq_true, Int.toNat_natCast, Nat.zero_add, Nat.reduceAdd, Nat.reduceMul, Nat.reduceDiv, Nat.mul_one, lenK_one, big, fill_len, marking_len, marks_len, nrms_len, List.length_set, List.length_append, List.length_map, List.length_replicate, List.length_cons, List.length_nil, Int.natCast_add, Int.natCast_one, Int.natCast_zero] at *) <;> (repeat (with_reducible rename _ ∧ _ => hh; obtain ⟨_, _⟩ := hh)) <;> (first | omega | (refine fits_i64 ?_; omega) | (split <;> omega) | (with_reducible exact items_yes (by with_reducible assumption)) | (with_reducible exact items_no (by with_reducible assumption)))))
set_option maxRecDepth 100000 in
set_option maxHeartbeats 4000000 in
theorem p_iItems : Proved 22 cItems := by
  refine proved_of [(20, cVTree), (39, cConcat)] ⟨p_iValidTree, p_concat, trivial⟩ [.tmp 2] Try.func22 rfl rfl rfl rfl (by kernel_rfl) ?_
  intro ds K hrel
  simp only [cItems] at hrel
  split at hrel
  case h_2 => exact hrel.elim
  rename_i ks xss
  obtain ⟨rfl, ⟨h1, h2⟩, hrel⟩ := hrel
  refine ⟨rfl, Nat.le_of_ble_eq_true rfl, fun _ _ => none, ?_⟩
  repeat' (first | with_reducible refine And.intro ?_ ?_ | (with_reducible intro h; first | (exact absurd h (by decide)) | (guard_hyp h : true = true; clear h) | (guard_hyp h : false = false; clear h) | skip) | with_reducible exact True.intro | ((with_reducible refine (id ?_ : @Eq Bool (nodupN _) true)); kernel_rfl) | ((with_reducible refine (id ?_ : @Eq Bool (apartN _ _) true)); kernel_rfl) | ((with_reducible refine (id ?_ : @Eq Bool (formL _ _) true)); kernel_rfl) | ((with_reducible refine (id ?_ : @Eq _ _ _)); exact rfl) | ((conv => whnf); first | done | with_reducible refine And.intro ?_ ?_ | (with_reducible intro h; first | (exact absurd h (by decide)) | (guard_hyp h : true = true; clear h) | (guard_hyp h : false = false; clear h) | skip) | with_reducible exact True.intro | ((with_reducible refine (id ?_ : @Eq _ _ _)); exact rfl) | refine Exists.intro _ (Exists.intro _ (And.intro hrel ?_)) | exact Or.inl rfl | exact Or.inr (And.intro rfl rfl) | (apply Exists.intro; refine And.intro ?_ ?_)) | exact Nat.le_of_ble_eq_true rfl)
  all_goals (try ((try (change _ = _)) <;> (try dsimp only at *) <;> (try simp only [decide_eq_true_eq, decide_eq_false_iff_not, Bool.not_eq_true', Bool.not_eq_false', Bool.and_eq_true, Bool.and_eq_false_iff, beq_iff_eq, bne_iff_ne, beq_eq_false_iff_ne, bne_eq_false_iff_eq, ne_eq, Decidable.not_not, bne_self_eq_false, Bool.false_eq_true, Bool.true_eq_false, Bool.not_true, Bool.not_false, not_true_eq_false, not_false_eq_true, Int.toNat_natCast, Nat.zero_add, Nat.reduceAdd, Nat.reduceMul, Nat.reduceDiv, Nat.mul_one, lenK_one, big, fill_len, marking_len, marks_len, nrms_len, List.length_set, List.length_append, List.length_map, List.length_replicate, List.length_cons, List.length_nil, Int.natCast_add, Int.natCast_one, Int.natCast_zero] at *) <;> (repeat (with_reducible rename _ ∧ _ => hh; obtain ⟨_, _⟩ := hh)) <;> (first | omega | (refine fits_i64 ?_; omega) | (split <;> omega) | (with_reducible exact items_yes (by with_reducible assumption)) | (with_reducible exact items_no (by with_reducible assumption)))))
end Go.Proofs.Ytkjbgdhpeidocaa.V
