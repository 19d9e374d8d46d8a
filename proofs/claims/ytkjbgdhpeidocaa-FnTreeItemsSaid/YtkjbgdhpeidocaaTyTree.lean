/-
  The laws' own functions on types: how much there is, copies, equality, marks.
-/
import Derived.Test.YtkjbgdhpeidocaaCom
set_option linter.unusedSimpArgs false
set_option linter.unusedVariables false
namespace Go.Proofs.Ytkjbgdhpeidocaa.V
open Go Go.RowKit
open Classical

theorem eqRow_nrmK : ∀ (ks : List Kd) (p q r s : Row) (c : Nat), p.length = q.length → (eqRow ks (p ++ nrmK ks r c) (q ++ nrmK ks s c) p.length = true ↔ nrmK ks r c = nrmK ks s c)
  | [], _, _, _, _, _, _ => by simp [eqRow, nrmK]
  | k :: ks, p, q, r, s, c, hl => by
    have e : ∀ (x : Sc) (p t : Row), rc (p ++ x :: t) p.length = x := fun x p t => by simp [rc]
    have ih : ∀ x y : Sc, (eqRow ks (p ++ x :: nrmK ks r (c + 1)) (q ++ y :: nrmK ks s (c + 1)) (p.length + 1) = true ↔ nrmK ks r (c + 1) = nrmK ks s (c + 1)) := fun x y => by
      have := eqRow_nrmK ks (p ++ [x]) (q ++ [y]) r s (c + 1) (by simp [hl])
      simpa using this
    rw [eqRow_cons, Bool.and_eq_true]
    cases k <;> simp only [nrmK, eqRow, e, ih, List.cons.injEq, Sc.i.injEq, Sc.b.injEq, Sc.s.injEq, Sc.int_i, Sc.bool_b, Sc.str_s, beq_iff_eq] <;> (rw [hl] ; simp only [e, Sc.int_i, Sc.bool_b, Sc.str_s])
theorem eqRow_iff (ks : List Kd) (r s : Row) : eqRow ks (nrm ks r) (nrm ks s) 0 = true ↔ nrm ks r = nrm ks s := by simpa [nrm] using eqRow_nrmK ks [] [] r s 0 rfl
theorem eqRow_yes {ks : List Kd} {r s : Row} (h : eqRow ks (nrm ks r) (nrm ks s) 0 = true) : nrm ks r = nrm ks s := (eqRow_iff ks r s).1 h
theorem eqRow_no {ks : List Kd} {r s : Row} (h : eqRow ks (nrm ks r) (nrm ks s) 0 = false) : ¬ nrm ks r = nrm ks s := fun e => by rw [(eqRow_iff ks r s).2 e] at h; cases h

def KItem : List Kd := [.int .i64, .int .i64]
theorem lenK_KItem : lenK KItem = 2 := rfl
set_option maxRecDepth 100000 in
set_option maxHeartbeats 4000000 in
theorem p_szItemS : Proved 8 (cSz KItem) := by
  refine proved_of [] trivial [.tmp 4] Try.func8 rfl rfl rfl rfl (by kernel_rfl) ?_
  intro ds K hrel
  simp only [cSz] at hrel
  split at hrel
  case h_2 => exact hrel.elim
  obtain ⟨rfl, h1, h2, h3, hrel⟩ := hrel
  refine ⟨rfl, Nat.le_of_ble_eq_true rfl, fun _ _ => none, ?_⟩
  repeat' (first | with_reducible refine And.intro ?_ ?_ | (with_reducible intro h; first | (exact absurd h (by decide)) | (guard_hyp h : true = true; clear h) | (guard_hyp h : false = false; clear h) | skip) | with_reducible exact True.intro | ((with_reducible refine (id ?_ : @Eq Bool (nodupN _) true)); kernel_rfl) | ((with_reducible refine (id ?_ : @Eq Bool (apartN _ _) true)); kernel_rfl) | ((with_reducible refine (id ?_ : @Eq Bool (formL _ _) true)); kernel_rfl) | ((with_reducible refine (id ?_ : @Eq _ _ _)); exact rfl) | ((conv => whnf); first | done | with_reducible refine And.intro ?_ ?_ | (with_reducible intro h; first | (exact absurd h (by decide)) | (guard_hyp h : true = true; clear h) | (guard_hyp h : false = false; clear h) | skip) | with_reducible exact True.intro | ((with_reducible refine (id ?_ : @Eq _ _ _)); exact rfl) | refine Exists.intro _ (Exists.intro _ (And.intro hrel ?_)) | exact Or.inl rfl | exact Or.inr (And.intro rfl rfl) | (apply Exists.intro; refine And.intro ?_ ?_)) | exact Nat.le_of_ble_eq_true rfl)
  all_goals (try ((try (change _ = _)) <;> (try dsimp only at *) <;> (try simp only [decide_eq_true_eq, decide_eq_false_iff_not, Bool.not_eq_true', Bool.not_eq_false', Bool.and_eq_true, Bool.and_eq_false_iff, beq_iff_eq, bne_iff_ne, beq_eq_false_iff_ne, bne_eq_false_iff_eq, ne_eq, Decidable.not_not, bne_self_eq_false, Bool.false_eq_true, Bool.true_eq_false, Bool.not_true, Bool.not_false, not_true_eq_false, not_false_eq_true, Int.toNat_natCast, Nat.zero_add, Nat.reduceAdd, Nat.reduceMul, Nat.reduceDiv, Nat.mul_one, lenK_one, big, fill_len, marking_len, marks_len, nrms_len, List.length_set, List.length_append, List.length_map, List.length_replicate, List.length_cons, List.length_nil, Int.natCast_add, Int.natCast_one, Int.natCast_zero] at *) <;> (repeat (with_reducible rename _ ∧ _ => hh; obtain ⟨_, _⟩ := hh)) <;> (first | omega | (refine fits_i64 ?_; omega) | (split <;> omega))))

def cToItem : Ct := ⟨[], fun ds K => match ds with
  | [.agg [.int .i64 x0, .int .i64 x1]] => K (.agg [.int .i64 x0, .int .i64 x1]) []
  | _ => False⟩
set_option maxRecDepth 100000 in
set_option maxHeartbeats 4000000 in
theorem p_toItem : Proved 29 cToItem := by
  refine proved_of [] trivial [.cell 2 49] Try.func29 rfl rfl rfl rfl (by kernel_rfl) ?_
  intro ds K hrel
  simp only [cToItem] at hrel
  split at hrel
  case h_2 => exact hrel.elim
  refine ⟨rfl, Nat.le_of_ble_eq_true rfl, fun _ _ => none, ?_⟩
  repeat' (first | with_reducible refine And.intro ?_ ?_ | (with_reducible intro h; first | (exact absurd h (by decide)) | (guard_hyp h : true = true; clear h) | (guard_hyp h : false = false; clear h) | skip) | with_reducible exact True.intro | ((with_reducible refine (id ?_ : @Eq Bool (nodupN _) true)); kernel_rfl) | ((with_reducible refine (id ?_ : @Eq Bool (apartN _ _) true)); kernel_rfl) | ((with_reducible refine (id ?_ : @Eq Bool (formL _ _) true)); kernel_rfl) | ((with_reducible refine (id ?_ : @Eq _ _ _)); exact rfl) | ((conv => whnf); first | done | with_reducible refine And.intro ?_ ?_ | (with_reducible intro h; first | (exact absurd h (by decide)) | (guard_hyp h : true = true; clear h) | (guard_hyp h : false = false; clear h) | skip) | with_reducible exact True.intro | ((with_reducible refine (id ?_ : @Eq _ _ _)); exact rfl) | refine Exists.intro _ (Exists.intro _ (And.intro hrel ?_)) | exact Or.inl rfl | exact Or.inr (And.intro rfl rfl) | (apply Exists.intro; refine And.intro ?_ ?_)) | exact Nat.le_of_ble_eq_true rfl)

set_option maxRecDepth 100000 in
set_option maxHeartbeats 4000000 in
theorem p_toItemS : Proved 10 (cTo 49 KItem) := by
  refine proved_of [(29, cToItem)] ⟨p_toItem, trivial⟩ [.tmp 2] Try.func10 rfl rfl rfl rfl (by kernel_rfl) ?_
  intro ds K hrel
  simp only [cTo] at hrel
  split at hrel
  case h_2 => exact hrel.elim
  rename_i ks xs
  obtain ⟨rfl, h1, hrel⟩ := hrel
  refine ⟨rfl, Nat.le_of_ble_eq_true rfl, fun k σ => match k with
    | 3 => some { α := Lv 3 Nat, R := fun i => i.v ≤ xs.length, μ := fun i => xs.length - i.v,
                  st := fun i => upH σ [(4, .int .i64 i.v)] 0 (.rows 49 KItem (fill (nrm KItem) (zeroRow KItem) xs i.v)) }
    | _ => none, ?_⟩
  repeat' (first | with_reducible refine And.intro ?_ ?_ | (with_reducible intro h; first | (exact absurd h (by decide)) | (guard_hyp h : true = true; clear h) | (guard_hyp h : false = false; clear h) | skip) | with_reducible exact True.intro | ((with_reducible refine (id ?_ : @Eq Bool (nodupN _) true)); kernel_rfl) | ((with_reducible refine (id ?_ : @Eq Bool (apartN _ _) true)); kernel_rfl) | ((with_reducible refine (id ?_ : @Eq Bool (formL _ _) true)); kernel_rfl) | ((with_reducible refine (id ?_ : @Eq _ _ _)); exact rfl) | ((conv => whnf); first | done | with_reducible refine And.intro ?_ ?_ | (with_reducible intro h; first | (exact absurd h (by decide)) | (guard_hyp h : true = true; clear h) | (guard_hyp h : false = false; clear h) | skip) | with_reducible exact True.intro | ((with_reducible refine (id ?_ : @Eq _ _ _)); exact rfl) | refine Exists.intro (⟨(by assumption : Lv 3 Nat).v + 1⟩ : Lv 3 Nat) ?_ | refine Exists.intro (⟨0⟩ : Lv 3 Nat) ?_ | refine Exists.intro _ (Exists.intro _ (And.intro hrel ?_)) | exact Or.inl rfl | exact Or.inr (And.intro rfl rfl) | (apply Exists.intro; refine And.intro ?_ ?_)) | exact Nat.le_of_ble_eq_true rfl)
  all_goals (try ((try (change _ = _)) <;> (try dsimp only at *) <;> (try simp only [decide_eq_true_eq, decide_eq_false_iff_not, Bool.not_eq_true', Bool.not_eq_false', Bool.and_eq_true, Bool.and_eq_false_iff, beq_iff_eq, bne_iff_ne, beq_eq_false_iff_ne, bne_eq_false_iff_eq, ne_eq, Decidable.not_not, bne_self_eq_false, Bool.false_eq_true, Bool.true_eq_false, Bool.not_true, Bool.not_false, not_true_eq_false, not_false_eq_true, Int.toNat_natCast, Nat.zero_add, Nat.reduceAdd, Nat.reduceMul, Nat.reduceDiv, Nat.mul_one, lenK_one, big, fill_len, marking_len, marks_len, nrms_len, List.length_set, List.length_append, List.length_map, List.length_replicate, List.length_cons, List.length_nil, Int.natCast_add, Int.natCast_one, Int.natCast_zero] at *) <;> (repeat (with_reducible rename _ ∧ _ => hh; obtain ⟨_, _⟩ := hh)) <;> (first | omega | (refine fits_i64 ?_; omega) | (split <;> omega) | exact fill_step (by omega) (by rintro _ rfl; rfl) rfl | exact fill_end (by omega) (by omega) | exact fill_zero _ _ _)))

noncomputable def cEqItem : Ct := ⟨[], fun ds K => match ds with
  | [.agg [.int .i64 x0, .int .i64 x1], .agg [.int .i64 y0, .int .i64 y1]] => K (.bool (decide (x0 = y0 ∧ x1 = y1))) []
  | _ => False⟩
set_option maxRecDepth 100000 in
set_option maxHeartbeats 4000000 in
theorem p_eqItem : Proved 33 cEqItem := by
  refine proved_of [] trivial [.tmp 4] Try.func33 rfl rfl rfl rfl (by kernel_rfl) ?_
  intro ds K hrel
  simp only [cEqItem] at hrel
  split at hrel
  case h_2 => exact hrel.elim
  refine ⟨rfl, Nat.le_of_ble_eq_true rfl, fun _ _ => none, ?_⟩
  repeat' (first | with_reducible refine And.intro ?_ ?_ | (with_reducible intro h; first | (exact absurd h (by decide)) | (guard_hyp h : true = true; clear h) | (guard_hyp h : false = false; clear h) | skip) | with_reducible exact True.intro | ((with_reducible refine (id ?_ : @Eq Bool (nodupN _) true)); kernel_rfl) | ((with_reducible refine (id ?_ : @Eq Bool (apartN _ _) true)); kernel_rfl) | ((with_reducible refine (id ?_ : @Eq Bool (formL _ _) true)); kernel_rfl) | ((with_reducible refine (id ?_ : @Eq _ _ _)); exact rfl) | ((conv => whnf); first | done | with_reducible refine And.intro ?_ ?_ | (with_reducible intro h; first | (exact absurd h (by decide)) | (guard_hyp h : true = true; clear h) | (guard_hyp h : false = false; clear h) | skip) | with_reducible exact True.intro | ((with_reducible refine (id ?_ : @Eq _ _ _)); exact rfl) | refine Exists.intro _ (Exists.intro _ (And.intro hrel ?_)) | exact Or.inl rfl | exact Or.inr (And.intro rfl rfl) | (apply Exists.intro; refine And.intro ?_ ?_)) | exact Nat.le_of_ble_eq_true rfl)
  all_goals (try change _ = _)
  all_goals simp_all

set_option maxRecDepth 100000 in
set_option maxHeartbeats 4000000 in
theorem p_eqItemS : Proved 13 (cEq KItem) := by
  refine proved_of [(33, cEqItem)] ⟨p_eqItem, trivial⟩ [.tmp 4] Try.func13 rfl rfl rfl rfl (by kernel_rfl) ?_
  intro ds K hrel
  simp only [cEq] at hrel
  split at hrel
  case h_2 => exact hrel.elim
  rename_i ks xs js ys
  obtain ⟨rfl, rfl, h1, hrel⟩ := hrel
  refine ⟨rfl, Nat.le_of_ble_eq_true rfl, fun k σ => match k with
    | 4 => some { α := Lv 4 Nat, R := fun i => i.v ≤ xs.length ∧ (xs.length : Int) = ys.length ∧ Same KItem xs ys i.v, μ := fun i => xs.length - i.v,
                  st := fun i => up σ [(5, .int .i64 i.v)] }
    | _ => none, ?_⟩
  repeat' (first | with_reducible refine And.intro ?_ ?_ | (with_reducible intro h; first | (exact absurd h (by decide)) | (guard_hyp h : true = true; clear h) | (guard_hyp h : false = false; clear h) | skip) | with_reducible exact True.intro | ((with_reducible refine (id ?_ : @Eq Bool (nodupN _) true)); kernel_rfl) | ((with_reducible refine (id ?_ : @Eq Bool (apartN _ _) true)); kernel_rfl) | ((with_reducible refine (id ?_ : @Eq Bool (formL _ _) true)); kernel_rfl) | ((with_reducible refine (id ?_ : @Eq _ _ _)); exact rfl) | ((conv => whnf); first | done | with_reducible refine And.intro ?_ ?_ | (with_reducible intro h; first | (exact absurd h (by decide)) | (guard_hyp h : true = true; clear h) | (guard_hyp h : false = false; clear h) | skip) | with_reducible exact True.intro | ((with_reducible refine (id ?_ : @Eq _ _ _)); exact rfl) | refine Exists.intro (⟨(by assumption : Lv 4 Nat).v + 1⟩ : Lv 4 Nat) ?_ | refine Exists.intro (⟨0⟩ : Lv 4 Nat) ?_ | refine Exists.intro _ (Exists.intro _ (And.intro hrel ?_)) | exact Or.inl rfl | exact Or.inr (And.intro rfl rfl) | (apply Exists.intro; refine And.intro ?_ ?_)) | exact Nat.le_of_ble_eq_true rfl)
  all_goals (try ((try (change _ = _)) <;> (try dsimp only at *) <;> (try simp only [decide_eq_true_eq, decide_eq_false_iff_not, Bool.not_eq_true', Bool.not_eq_false', Bool.and_eq_true, Bool.and_eq_false_iff, beq_iff_eq, bne_iff_ne, beq_eq_false_iff_ne, bne_eq_false_iff_eq, ne_eq, Decidable.not_not, bne_self_eq_false, Bool.false_eq_true, Bool.true_eq_false, Bool.not_true, Bool.not_false, not_true_eq_false, not_false_eq_true, Int.toNat_natCast, Nat.zero_add, Nat.reduceAdd, Nat.reduceMul, Nat.reduceDiv, Nat.mul_one, lenK_one, big, fill_len, marking_len, marks_len, nrms_len, List.length_set, List.length_append, List.length_map, List.length_replicate, List.length_cons, List.length_nil, Int.natCast_add, Int.natCast_one, Int.natCast_zero] at *) <;> (repeat (with_reducible rename _ ∧ _ => hh; obtain ⟨_, _⟩ := hh)) <;> (first | omega | (refine fits_i64 ?_; omega) | (split <;> omega) | exact same_zero _ _ _ | exact same_step (by assumption) (by simp only [KItem, nrm, nrmK]; simp [*]) | exact same_len (by assumption) | exact same_not (n := Lv.v (by assumption : Lv 4 Nat)) (by omega) (by assumption) (by simp only [KItem, nrm, nrmK]; simp_all) | exact same_all (by assumption) (by assumption) (by assumption) (by assumption))))

set_option maxRecDepth 100000 in
set_option maxHeartbeats 4000000 in
theorem p_equalItemS : Proved 27 (cEq KItem) := by
  refine proved_of [] trivial [.tmp 4] Try.func27 rfl rfl rfl rfl (by kernel_rfl) ?_
  intro ds K hrel
  simp only [cEq] at hrel
  split at hrel
  case h_2 => exact hrel.elim
  rename_i ks xs js ys
  obtain ⟨rfl, rfl, h1, hrel⟩ := hrel
  refine ⟨rfl, Nat.le_of_ble_eq_true rfl, fun k σ => match k with
    | 4 => some { α := Lv 4 Nat, R := fun i => i.v ≤ xs.length ∧ (xs.length : Int) = ys.length ∧ Same KItem xs ys i.v, μ := fun i => xs.length - i.v,
                  st := fun i => up σ [(5, .int .i64 i.v)] }
    | _ => none, ?_⟩
  repeat' (first | with_reducible refine And.intro ?_ ?_ | (with_reducible intro h; first | (exact absurd h (by decide)) | (guard_hyp h : true = true; clear h) | (guard_hyp h : false = false; clear h) | skip) | with_reducible exact True.intro | ((with_reducible refine (id ?_ : @Eq Bool (nodupN _) true)); kernel_rfl) | ((with_reducible refine (id ?_ : @Eq Bool (apartN _ _) true)); kernel_rfl) | ((with_reducible refine (id ?_ : @Eq Bool (formL _ _) true)); kernel_rfl) | ((with_reducible refine (id ?_ : @Eq _ _ _)); exact rfl) | ((conv => whnf); first | done | with_reducible refine And.intro ?_ ?_ | (with_reducible intro h; first | (exact absurd h (by decide)) | (guard_hyp h : true = true; clear h) | (guard_hyp h : false = false; clear h) | skip) | with_reducible exact True.intro | ((with_reducible refine (id ?_ : @Eq _ _ _)); exact rfl) | refine Exists.intro (⟨(by assumption : Lv 4 Nat).v + 1⟩ : Lv 4 Nat) ?_ | refine Exists.intro (⟨0⟩ : Lv 4 Nat) ?_ | refine Exists.intro _ (Exists.intro _ (And.intro hrel ?_)) | exact Or.inl rfl | exact Or.inr (And.intro rfl rfl) | (apply Exists.intro; refine And.intro ?_ ?_)) | exact Nat.le_of_ble_eq_true rfl)
  all_goals (try ((try (change _ = _)) <;> (try dsimp only at *) <;> (try simp only [decide_eq_true_eq, decide_eq_false_iff_not, Bool.not_eq_true', Bool.not_eq_false', Bool.and_eq_true, Bool.and_eq_false_iff, beq_iff_eq, bne_iff_ne, beq_eq_false_iff_ne, bne_eq_false_iff_eq, ne_eq, Decidable.not_not, bne_self_eq_false, Bool.false_eq_true, Bool.true_eq_false, Bool.not_true, Bool.not_false, not_true_eq_false, not_false_eq_true, Int.toNat_natCast, Nat.zero_add, Nat.reduceAdd, Nat.reduceMul, Nat.reduceDiv, Nat.mul_one, lenK_one, big, fill_len, marking_len, marks_len, nrms_len, List.length_set, List.length_append, List.length_map, List.length_replicate, List.length_cons, List.length_nil, Int.natCast_add, Int.natCast_one, Int.natCast_zero] at *) <;> (repeat (with_reducible rename _ ∧ _ => hh; obtain ⟨_, _⟩ := hh)) <;> (first | omega | (refine fits_i64 ?_; omega) | (split <;> omega) | exact same_zero _ _ _ | exact same_step (by assumption) (eqRow_yes (by assumption)) | exact same_len (by assumption) | exact same_not (n := Lv.v (by assumption : Lv 4 Nat)) (by omega) (by assumption) (eqRow_no (by assumption)) | exact same_all (by assumption) (by assumption) (by assumption) (by assumption))))

set_option maxRecDepth 100000 in
set_option maxHeartbeats 4000000 in
theorem p_markItemS : Proved 14 (cMark 49 KItem) := by
  refine proved_of [] trivial [.tmp 4] Try.func14 rfl rfl rfl rfl (by kernel_rfl) ?_
  intro ds K hrel
  simp only [cMark] at hrel
  split at hrel
  case h_3 => exact hrel.elim
  case h_2 =>
    rename_i js xs q
    obtain ⟨rfl, rfl, hrel⟩ := hrel
    refine ⟨rfl, Nat.le_of_ble_eq_true rfl, fun k σ => match k with
      | 2 => some { α := Lv 2 Unit, R := fun i => True, μ := fun i => 0, st := fun i => up σ [(1, .int .i64 q), (5, .int .i64 0)] }
      | _ => none, ?_⟩
    repeat' (first | with_reducible refine And.intro ?_ ?_ | (with_reducible intro h; first | (exact absurd h (by decide)) | (guard_hyp h : true = true; clear h) | (guard_hyp h : false = false; clear h) | skip) | with_reducible exact True.intro | ((with_reducible refine (id ?_ : @Eq Bool (nodupN _) true)); kernel_rfl) | ((with_reducible refine (id ?_ : @Eq Bool (apartN _ _) true)); kernel_rfl) | ((with_reducible refine (id ?_ : @Eq Bool (formL _ _) true)); kernel_rfl) | ((with_reducible refine (id ?_ : @Eq _ _ _)); exact rfl) | ((conv => whnf); first | done | with_reducible refine And.intro ?_ ?_ | (with_reducible intro h; first | (exact absurd h (by decide)) | (guard_hyp h : true = true; clear h) | (guard_hyp h : false = false; clear h) | skip) | with_reducible exact True.intro | ((with_reducible refine (id ?_ : @Eq _ _ _)); exact rfl) | refine Exists.intro (⟨()⟩ : Lv 2 Unit) ?_ | refine Exists.intro _ (Exists.intro _ (And.intro hrel ?_)) | exact Or.inl rfl | exact Or.inr (And.intro rfl rfl) | (apply Exists.intro; refine And.intro ?_ ?_)) | exact Nat.le_of_ble_eq_true rfl)
    all_goals (try ((try (change _ = _)) <;> (try dsimp only at *) <;> (try simp only [decide_eq_true_eq, decide_eq_false_iff_not, Bool.not_eq_true', Bool.not_eq_false', Bool.and_eq_true, Bool.and_eq_false_iff, beq_iff_eq, bne_iff_ne, beq_eq_false_iff_ne, bne_eq_false_iff_eq, ne_eq, Decidable.not_not, bne_self_eq_false, Bool.false_eq_true, Bool.true_eq_false, Bool.not_true, Bool.not_false, not_true_eq_false, not_false_eq_true, Int.toNat_natCast, Nat.zero_add, Nat.reduceAdd, Nat.reduceMul, Nat.reduceDiv, Nat.mul_one, lenK_one, big, fill_len, marking_len, marks_len, nrms_len, List.length_set, List.length_append, List.length_map, List.length_replicate, List.length_cons, List.length_nil, Int.natCast_add, Int.natCast_one, Int.natCast_zero] at *) <;> (repeat (with_reducible rename _ ∧ _ => hh; obtain ⟨_, _⟩ := hh)) <;> (first | omega | (refine fits_i64 ?_; omega) | (split <;> omega))))
  rename_i e js xs k
  obtain ⟨rfl, rfl, hx, ⟨h1, h2, h3⟩, hrel⟩ := hrel
  refine ⟨rfl, Nat.le_of_ble_eq_true rfl, fun q σ => match q with
    | 2 => some { α := Lv 2 Nat, R := fun i => i.v ≤ xs.length ∧ (0 ≤ k ∧ k ≤ 1000000000000 ∧ xs.length ≤ 1048576), μ := fun i => xs.length - i.v,
                  st := fun i => upH σ [(1, .int .i64 (k + i.v * 2)), (5, .int .i64 i.v)] 0 (.rows 49 KItem (marking KItem xs k i.v)) }
    | _ => none, ?_⟩
  repeat' (first | with_reducible refine And.intro ?_ ?_ | (with_reducible intro h; first | (exact absurd h (by decide)) | (guard_hyp h : true = true; clear h) | (guard_hyp h : false = false; clear h) | skip) | with_reducible exact True.intro | ((with_reducible refine (id ?_ : @Eq Bool (nodupN _) true)); kernel_rfl) | ((with_reducible refine (id ?_ : @Eq Bool (apartN _ _) true)); kernel_rfl) | ((with_reducible refine (id ?_ : @Eq Bool (formL _ _) true)); kernel_rfl) | ((with_reducible refine (id ?_ : @Eq _ _ _)); exact rfl) | ((conv => whnf); first | done | with_reducible refine And.intro ?_ ?_ | (with_reducible intro h; first | (exact absurd h (by decide)) | (guard_hyp h : true = true; clear h) | (guard_hyp h : false = false; clear h) | skip) | with_reducible exact True.intro | ((with_reducible refine (id ?_ : @Eq _ _ _)); exact rfl) | refine Exists.intro (⟨(by assumption : Lv 2 Nat).v + 1⟩ : Lv 2 Nat) ?_ | refine Exists.intro (⟨0⟩ : Lv 2 Nat) ?_ | refine Exists.intro _ (Exists.intro _ (And.intro hrel ?_)) | exact Or.inl rfl | exact Or.inr (And.intro rfl rfl) | (apply Exists.intro; refine And.intro ?_ ?_)) | exact Nat.le_of_ble_eq_true rfl)
  all_goals (try ((try (change _ = _)) <;> (try dsimp only at *) <;> (try simp only [decide_eq_true_eq, decide_eq_false_iff_not, Bool.not_eq_true', Bool.not_eq_false', Bool.and_eq_true, Bool.and_eq_false_iff, beq_iff_eq, bne_iff_ne, beq_eq_false_iff_ne, bne_eq_false_iff_eq, ne_eq, Decidable.not_not, bne_self_eq_false, Bool.false_eq_true, Bool.true_eq_false, Bool.not_true, Bool.not_false, not_true_eq_false, not_false_eq_true, Int.toNat_natCast, Nat.zero_add, Nat.reduceAdd, Nat.reduceMul, Nat.reduceDiv, Nat.mul_one, lenK_one, big, fill_len, marking_len, marks_len, nrms_len, List.length_set, List.length_append, List.length_map, List.length_replicate, List.length_cons, List.length_nil, Int.natCast_add, Int.natCast_one, Int.natCast_zero, lenK_KItem] at *) <;> (repeat (with_reducible rename _ ∧ _ => hh; obtain ⟨_, _⟩ := hh)) <;> (first | omega | (refine fits_i64 ?_; omega) | (split <;> omega) | exact mark_fin (ks := KItem) (fun r => pasteR (pasteR r 0 [.i (k + (((by assumption : Lv 2 Nat).v : Nat) : Int) * 2)]) 1 [.i (k + (((by assumption : Lv 2 Nat).v : Nat) : Int) * 2 + 1)]) (by omega) (by assumption) (by have hlt : (Lv.v (by assumption : Lv 2 Nat)) < xs.length := (by omega); simp only [row_set, List.length_set, marking_len, List.set_set, hlt, and_self, if_true]) (fun q => rfl) | exact marking_end (by omega) (by omega) | exact marking_zero _ _ _ | exact mark_end (by omega) (by omega) rfl)))

set_option maxRecDepth 100000 in
set_option maxHeartbeats 4000000 in
theorem p_heldItemS : Proved 23 (cHeld KItem) := by
  refine proved_of [] trivial [.tmp 4] Try.func23 rfl rfl rfl rfl (by kernel_rfl) ?_
  intro ds K hrel
  simp only [cHeld] at hrel
  split at hrel
  case h_2 => exact hrel.elim
  rename_i ks xs k
  obtain ⟨rfl, ⟨h1, h2, h3⟩, hx, hrel⟩ := hrel
  have hrow : ∀ i : Nat, i < xs.length → row xs i = markC KItem (k + i * 2) := fun i hi => by
    have := row_marks KItem xs.length i k hi
    rw [← hx] at this; exact this
  refine ⟨rfl, Nat.le_of_ble_eq_true rfl, fun q σ => match q with
    | 2 => some { α := Lv 2 Nat, R := fun i => i.v ≤ xs.length, μ := fun i => xs.length - i.v,
                  st := fun i => up σ [(1, .int .i64 (k + i.v * 2)), (5, .int .i64 i.v)] }
    | _ => none, ?_⟩
  repeat' (first | with_reducible refine And.intro ?_ ?_ | (with_reducible intro h; first | (exact absurd h (by decide)) | (guard_hyp h : true = true; clear h) | (guard_hyp h : false = false; clear h) | skip) | with_reducible exact True.intro | ((with_reducible refine (id ?_ : @Eq Bool (nodupN _) true)); kernel_rfl) | ((with_reducible refine (id ?_ : @Eq Bool (apartN _ _) true)); kernel_rfl) | ((with_reducible refine (id ?_ : @Eq Bool (formL _ _) true)); kernel_rfl) | ((with_reducible refine (id ?_ : @Eq _ _ _)); exact rfl) | ((conv => whnf); first | done | with_reducible refine And.intro ?_ ?_ | (with_reducible intro h; first | (exact absurd h (by decide)) | (guard_hyp h : true = true; clear h) | (guard_hyp h : false = false; clear h) | skip) | with_reducible exact True.intro | ((with_reducible refine (id ?_ : @Eq _ _ _)); exact rfl) | refine Exists.intro (⟨(by assumption : Lv 2 Nat).v + 1⟩ : Lv 2 Nat) ?_ | refine Exists.intro (⟨0⟩ : Lv 2 Nat) ?_ | refine Exists.intro _ (Exists.intro _ (And.intro hrel ?_)) | exact Or.inl rfl | exact Or.inr (And.intro rfl rfl) | (apply Exists.intro; refine And.intro ?_ ?_)) | exact Nat.le_of_ble_eq_true rfl)
  all_goals (try ((try (change _ = _)) <;> (try dsimp only at *) <;> (try simp only [decide_eq_true_eq, decide_eq_false_iff_not, Bool.not_eq_true', Bool.not_eq_false', Bool.and_eq_true, Bool.and_eq_false_iff, beq_iff_eq, bne_iff_ne, beq_eq_false_iff_ne, bne_eq_false_iff_eq, ne_eq, Decidable.not_not, bne_self_eq_false, Bool.false_eq_true, Bool.true_eq_false, Bool.not_true, Bool.not_false, not_true_eq_false, not_false_eq_true, Int.toNat_natCast, Nat.zero_add, Nat.reduceAdd, Nat.reduceMul, Nat.reduceDiv, Nat.mul_one, lenK_one, big, fill_len, marking_len, marks_len, nrms_len, List.length_set, List.length_append, List.length_map, List.length_replicate, List.length_cons, List.length_nil, Int.natCast_add, Int.natCast_one, Int.natCast_zero, lenK_KItem] at *) <;> (repeat (with_reducible rename _ ∧ _ => hh; obtain ⟨_, _⟩ := hh)) <;> (first | omega | (refine fits_i64 ?_; omega) | (split <;> omega) | (exfalso; have hr := hrow (Lv.v (by assumption : Lv 2 Nat)) (by omega); have c0 : (rc (row xs (Lv.v (by assumption : Lv 2 Nat))) 0).int = k + (((by assumption : Lv 2 Nat).v : Nat) : Int) * 2 := (by rw [hr]; rfl); have c1 : (rc (row xs (Lv.v (by assumption : Lv 2 Nat))) 1).int = k + (((by assumption : Lv 2 Nat).v : Nat) : Int) * 2 + 1 := (by rw [hr]; rfl); first | omega | contradiction | simp_all) | exact mark_end (by omega) (by omega) rfl)))

end Go.Proofs.Ytkjbgdhpeidocaa.V
