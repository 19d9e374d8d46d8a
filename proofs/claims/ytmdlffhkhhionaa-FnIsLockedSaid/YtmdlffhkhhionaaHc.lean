/-
  Acts: strict and locked histories, in the program and in the reference.
-/
import Derived.Test.YtmdlffhkhhionaaHb
set_option linter.unusedSimpArgs false
set_option linter.unusedVariables false
namespace Go.Proofs.Ytmdlffhkhhionaa.V
open Go Go.RowKit
open Classical

set_option maxRecDepth 100000 in
set_option maxHeartbeats 8000000 in
theorem p_sStrict : Proved 21 (cStr true) := by
  refine proved_of [(34, cValid), (39, cConflict), (40, cCommitted)] ⟨p_sValidActs, p_sConflict, p_committed, trivial⟩ [.tmp 2] Try.func21 rfl rfl rfl rfl (by kernel_rfl) ?_
  intro ds K hrel
  simp only [cStr] at hrel
  split at hrel
  case h_2 => exact hrel.elim
  rename_i ks xs
  obtain ⟨rfl, h1, hrel⟩ := hrel
  refine ⟨rfl, Nat.le_of_ble_eq_true rfl, fun k σ => match k with
    | 4 => some { α := Lv 4 Nat, R := fun i => i.v ≤ xs.length ∧ VA xs ∧ StrN true xs i.v, μ := fun i => xs.length - i.v,
                  st := fun i => ⟨[(0, .view KAct xs), (3, .int .i64 i.v)], []⟩ }
    | 7 => match lookT σ.tm 3 with
      | .int _ i => some { α := Lv 7 Nat, R := fun j => ((j.v : Int) ≤ i ∧ 0 ≤ i ∧ i < xs.length) ∧ (VA xs ∧ StrN true xs i.toNat) ∧ StrK true xs i.toNat j.v, μ := fun j => i.toNat - j.v,
                           st := fun j => ⟨[(0, .view KAct xs), (3, .int .i64 i), (4, .int .i64 j.v)], []⟩ }
      | _ => none
    | _ => none, ?_⟩
  repeat' (first | with_reducible refine And.intro ?_ ?_ | (with_reducible intro h; first | (exact absurd h (by decide)) | (guard_hyp h : true = true; clear h) | (guard_hyp h : false = false; clear h) | skip) | with_reducible exact True.intro | ((with_reducible refine (id ?_ : @Eq Bool (nodupN _) true)); kernel_rfl) | ((with_reducible refine (id ?_ : @Eq Bool (apartN _ _) true)); kernel_rfl) | ((with_reducible refine (id ?_ : @Eq Bool (formL _ _) true)); kernel_rfl) | ((with_reducible refine (id ?_ : @Eq _ _ _)); exact rfl) | ((conv => whnf); first | done | with_reducible refine And.intro ?_ ?_ | (with_reducible intro h; first | (exact absurd h (by decide)) | (guard_hyp h : true = true; clear h) | (guard_hyp h : false = false; clear h) | skip) | with_reducible exact True.intro | ((with_reducible refine (id ?_ : @Eq _ _ _)); exact rfl) | refine Exists.intro (⟨(by assumption : Lv 7 Nat).v + 1⟩ : Lv 7 Nat) ?_ | refine Exists.intro (⟨(by assumption : Lv 4 Nat).v + 1⟩ : Lv 4 Nat) ?_ | refine Exists.intro (⟨0⟩ : Lv 4 Nat) ?_ | refine Exists.intro (⟨0⟩ : Lv 7 Nat) ?_ | refine Exists.intro _ (Exists.intro _ (And.intro hrel ?_)) | exact Or.inl rfl | exact Or.inr (And.intro rfl rfl) | (apply Exists.intro; refine And.intro ?_ ?_)) | exact Nat.le_of_ble_eq_true rfl)
  all_goals (try ((try (change _ = _)) <;> (try dsimp only at *) <;> (try simp only [decide_eq_true_eq, decide_eq_false_iff_not, Bool.not_eq_true', Bool.not_eq_false', Bool.and_eq_true, Bool.and_eq_false_iff, beq_iff_eq, bne_iff_ne, beq_eq_false_iff_ne, bne_eq_false_iff_eq, ne_eq, Decidable.not_not, bne_self_eq_false, Bool.false_eq_true, Bool.true_eq_false, Bool.not_true, Bool.not_false, not_true_eq_false, not_false_eq_true, Int.toNat_natCast, Nat.zero_add, Nat.reduceAdd, Nat.reduceMul, Nat.reduceDiv, Nat.mul_one, lenK_one, big, fill_len, marking_len, marks_len, nrms_len, List.length_set, List.length_append, List.length_map, List.length_replicate, List.length_cons, List.length_nil, Int.natCast_add, Int.natCast_one, Int.natCast_zero] at *) <;> (repeat (with_reducible rename _ ∧ _ => hh; obtain ⟨_, _⟩ := hh)) <;> (first | omega | (refine fits_i64 ?_; omega) | (split <;> omega) | exact strn_zero _ _ | exact strk_zero _ _ _ | exact strn_step (by assumption) (by assumption) (by assumption) | exact str_invalid (by assumption) | exact str_all (by assumption) (by assumption) (by assumption) (by assumption) | exact Int.lt_of_le_of_lt (Int.ofNat_le.2 cut_len) (by omega) | exact str_bad (k := Lv.v (by assumption : Lv 7 Nat)) (i := Lv.v (by assumption : Lv 4 Nat)) (by omega) (by omega) ⟨fun _ => by assumption, by assumption, fun hc => absurd ((cut_comm (by omega)).2 hc) (by assumption)⟩ | exact strk_step (by assumption) (fun hb => absurd (hb.1 rfl) (by assumption)) | exact strk_step (by assumption) (fun hb => absurd hb.2.1 (by assumption)) | exact strk_step (by assumption) (fun hb => hb.2.2 ((cut_comm (by omega)).1 (by assumption))))))


/-- The act k, as it stands in the history up to act i. -/
theorem cut_row {xs : List Row} {k i : Nat} (h : k < i) : row ((xs.take i).drop (Int.toNat 0)) k = row xs k := by
  unfold row
  rw [List.getD_eq_getElem?_getD, List.getD_eq_getElem?_getD, List.getElem?_drop, List.getElem?_take]
  simp [h]
theorem cut_len_eq {xs : List Row} {i : Nat} (h : i ≤ xs.length) : ((xs.take i).drop (Int.toNat 0)).length = i := by simp; omega
theorem str_badc {w : Bool} {xs : List Row} {k i : Nat} (hv : VA xs) (hi : i < xs.length) (hk : k < i) (h1 : w = true → (rc (row ((xs.take i).drop (Int.toNat 0)) k) 1).int = 1)
    (h2 : confl (rc (row ((xs.take i).drop (Int.toNat 0)) k) 0).int (rc (row ((xs.take i).drop (Int.toNat 0)) k) 1).int (rc (row ((xs.take i).drop (Int.toNat 0)) k) 2).int (rc (row xs i) 0).int (rc (row xs i) 1).int (rc (row xs i) 2).int)
    (h3 : ¬ Comm xs (rc (row ((xs.take i).drop (Int.toNat 0)) k) 0).int k i) : false = decide (Str w xs) := by
  rw [cut_row hk] at h1 h2 h3
  exact str_bad hi hk ⟨h1, h2, fun hc => h3 ((comm_behind hv hk hi).1 hc)⟩
theorem strk_c1 {xs : List Row} {i n : Nat} (h : StrK true xs i n) (hk : n < i) (h1 : ¬ (rc (row ((xs.take i).drop (Int.toNat 0)) n) 1).int = 1) : StrK true xs i (n + 1) := by
  rw [cut_row hk] at h1
  exact strk_step h (fun hb => h1 (hb.1 rfl))
theorem strk_c2 {w : Bool} {xs : List Row} {i n : Nat} (h : StrK w xs i n) (hk : n < i)
    (h2 : ¬ confl (rc (row ((xs.take i).drop (Int.toNat 0)) n) 0).int (rc (row ((xs.take i).drop (Int.toNat 0)) n) 1).int (rc (row ((xs.take i).drop (Int.toNat 0)) n) 2).int (rc (row xs i) 0).int (rc (row xs i) 1).int (rc (row xs i) 2).int) : StrK w xs i (n + 1) := by
  rw [cut_row hk] at h2
  exact strk_step h (fun hb => h2 hb.2.1)
theorem strk_c3 {w : Bool} {xs : List Row} {i n : Nat} (h : StrK w xs i n) (hk : n < i) (h3 : Comm xs (rc (row ((xs.take i).drop (Int.toNat 0)) n) 0).int n i) : StrK w xs i (n + 1) := by
  rw [cut_row hk] at h3
  exact strk_step h (fun hb => hb.2.2 (by obtain ⟨j, _, q⟩ := h3; exact ⟨j, Nat.zero_le _, q⟩))
set_option maxRecDepth 100000 in
set_option maxHeartbeats 8000000 in
theorem p_sLocked : Proved 19 (cStr false) := by
  refine proved_of [(34, cValid), (39, cConflict), (40, cCommitted)] ⟨p_sValidActs, p_sConflict, p_committed, trivial⟩ [.tmp 2] Try.func19 rfl rfl rfl rfl (by kernel_rfl) ?_
  intro ds K hrel
  simp only [cStr] at hrel
  split at hrel
  case h_2 => exact hrel.elim
  rename_i ks xs
  obtain ⟨rfl, h1, hrel⟩ := hrel
  refine ⟨rfl, Nat.le_of_ble_eq_true rfl, fun k σ => match k with
    | 4 => some { α := Lv 4 Nat, R := fun i => i.v ≤ xs.length ∧ VA xs ∧ StrN false xs i.v, μ := fun i => xs.length - i.v,
                  st := fun i => ⟨[(0, .view KAct xs), (3, .int .i64 i.v)], []⟩ }
    | 7 => match lookT σ.tm 3 with
      | .int _ i => some { α := Lv 7 Nat, R := fun j => ((j.v : Int) ≤ i ∧ 0 ≤ i ∧ i < xs.length) ∧ (VA xs ∧ StrN false xs i.toNat) ∧ StrK false xs i.toNat j.v, μ := fun j => i.toNat - j.v,
                           st := fun j => ⟨[(0, .view KAct xs), (3, .int .i64 i), (4, .int .i64 j.v)], []⟩ }
      | _ => none
    | _ => none, ?_⟩
  repeat' (first | with_reducible refine And.intro ?_ ?_ | (with_reducible intro h; first | (exact absurd h (by decide)) | (guard_hyp h : true = true; clear h) | (guard_hyp h : false = false; clear h) | skip) | with_reducible exact True.intro | ((with_reducible refine (id ?_ : @Eq Bool (nodupN _) true)); kernel_rfl) | ((with_reducible refine (id ?_ : @Eq Bool (apartN _ _) true)); kernel_rfl) | ((with_reducible refine (id ?_ : @Eq Bool (formL _ _) true)); kernel_rfl) | ((with_reducible refine (id ?_ : @Eq _ _ _)); exact rfl) | ((conv => whnf); first | done | with_reducible refine And.intro ?_ ?_ | (with_reducible intro h; first | (exact absurd h (by decide)) | (guard_hyp h : true = true; clear h) | (guard_hyp h : false = false; clear h) | skip) | with_reducible exact True.intro | ((with_reducible refine (id ?_ : @Eq _ _ _)); exact rfl) | refine Exists.intro (⟨(by assumption : Lv 7 Nat).v + 1⟩ : Lv 7 Nat) ?_ | refine Exists.intro (⟨(by assumption : Lv 4 Nat).v + 1⟩ : Lv 4 Nat) ?_ | refine Exists.intro (⟨0⟩ : Lv 4 Nat) ?_ | refine Exists.intro (⟨0⟩ : Lv 7 Nat) ?_ | refine Exists.intro _ (Exists.intro _ (And.intro hrel ?_)) | exact Or.inl rfl | exact Or.inr (And.intro rfl rfl) | (apply Exists.intro; refine And.intro ?_ ?_)) | exact Nat.le_of_ble_eq_true rfl)
  all_goals (try ((try (change _ = _)) <;> (try dsimp only at *) <;> (try simp only [decide_eq_true_eq, decide_eq_false_iff_not, Bool.not_eq_true', Bool.not_eq_false', Bool.and_eq_true, Bool.and_eq_false_iff, beq_iff_eq, bne_iff_ne, beq_eq_false_iff_ne, bne_eq_false_iff_eq, ne_eq, Decidable.not_not, bne_self_eq_false, Bool.false_eq_true, Bool.true_eq_false, Bool.not_true, Bool.not_false, not_true_eq_false, not_false_eq_true, Int.toNat_natCast, Nat.zero_add, Nat.reduceAdd, Nat.reduceMul, Nat.reduceDiv, Nat.mul_one, lenK_one, big, fill_len, marking_len, marks_len, nrms_len, List.length_set, List.length_append, List.length_map, List.length_replicate, List.length_cons, List.length_nil, Int.natCast_add, Int.natCast_one, Int.natCast_zero] at *) <;> (repeat (with_reducible rename _ ∧ _ => hh; obtain ⟨_, _⟩ := hh)) <;> (first | omega | (refine fits_i64 ?_; omega) | (split <;> omega) | exact strn_zero _ _ | exact strk_zero _ _ _ | exact strn_step (by assumption) (by assumption) (by assumption) | exact str_invalid (by assumption) | exact str_all (by assumption) (by assumption) (by assumption) (by assumption) | exact Int.lt_of_le_of_lt (Int.ofNat_le.2 cut_len) (by omega) | exact str_bad (w := false) (k := Lv.v (by assumption : Lv 7 Nat)) (i := Lv.v (by assumption : Lv 4 Nat)) (by omega) (by omega) ⟨(fun hw => by cases hw), by assumption, fun hc => absurd ((cut_comm (by omega)).2 hc) (by assumption)⟩ | exact strk_step (by assumption) (fun hb => absurd hb.2.1 (by assumption)) | exact strk_step (by assumption) (fun hb => hb.2.2 ((cut_comm (by omega)).1 (by assumption))))))


set_option maxRecDepth 100000 in
set_option maxHeartbeats 8000000 in
theorem p_iLocked : Proved 20 (cStr false) := by
  refine proved_of [(16, cValid), (41, cConflict), (42, cBetween)] ⟨p_iValidActs, p_iConflict, p_between, trivial⟩ [.tmp 2] Try.func20 rfl rfl rfl rfl (by kernel_rfl) ?_
  intro ds K hrel
  simp only [cStr] at hrel
  split at hrel
  case h_2 => exact hrel.elim
  rename_i ks xs
  obtain ⟨rfl, h1, hrel⟩ := hrel
  refine ⟨rfl, Nat.le_of_ble_eq_true rfl, fun k σ => match k with
    | 4 => some { α := Lv 4 Nat, R := fun i => i.v ≤ xs.length ∧ VA xs ∧ StrN false xs i.v, μ := fun i => xs.length - i.v, st := fun i => up σ [(12, .int .i64 i.v)] }
    | 7 => match lookT σ.tm 12 with
      | .int _ i => some { α := Lv 7 Nat, R := fun j => ((j.v : Int) ≤ i ∧ 0 ≤ i ∧ i < xs.length) ∧ (VA xs ∧ StrN false xs i.toNat) ∧ StrK false xs i.toNat j.v, μ := fun j => i.toNat - j.v, st := fun j => up σ [(21, .int .i64 j.v)] }
      | _ => none
    | _ => none, ?_⟩
  repeat' (first | with_reducible refine And.intro ?_ ?_ | (with_reducible intro h; first | (exact absurd h (by decide)) | (guard_hyp h : true = true; clear h) | (guard_hyp h : false = false; clear h) | skip) | with_reducible exact True.intro | ((with_reducible refine (id ?_ : @Eq Bool (nodupN _) true)); kernel_rfl) | ((with_reducible refine (id ?_ : @Eq Bool (apartN _ _) true)); kernel_rfl) | ((with_reducible refine (id ?_ : @Eq Bool (formL _ _) true)); kernel_rfl) | ((with_reducible refine (id ?_ : @Eq _ _ _)); exact rfl) | ((conv => whnf); first | done | with_reducible refine And.intro ?_ ?_ | (with_reducible intro h; first | (exact absurd h (by decide)) | (guard_hyp h : true = true; clear h) | (guard_hyp h : false = false; clear h) | skip) | with_reducible exact True.intro | ((with_reducible refine (id ?_ : @Eq _ _ _)); exact rfl) | refine Exists.intro (⟨(by assumption : Lv 7 Nat).v + 1⟩ : Lv 7 Nat) ?_ | refine Exists.intro (⟨(by assumption : Lv 4 Nat).v + 1⟩ : Lv 4 Nat) ?_ | refine Exists.intro (⟨0⟩ : Lv 4 Nat) ?_ | refine Exists.intro (⟨0⟩ : Lv 7 Nat) ?_ | refine Exists.intro _ (Exists.intro _ (And.intro hrel ?_)) | exact Or.inl rfl | exact Or.inr (And.intro rfl rfl) | (apply Exists.intro; refine And.intro ?_ ?_)) | exact Nat.le_of_ble_eq_true rfl)
  all_goals (try ((try (change _ = _)) <;> (try dsimp only at *) <;> (try simp only [decide_eq_true_eq, decide_eq_false_iff_not, Bool.not_eq_true', Bool.not_eq_false', Bool.and_eq_true, Bool.and_eq_false_iff, beq_iff_eq, bne_iff_ne, beq_eq_false_iff_ne, bne_eq_false_iff_eq, ne_eq, Decidable.not_not, bne_self_eq_false, Bool.false_eq_true, Bool.true_eq_false, Bool.not_true, Bool.not_false, not_true_eq_false, not_false_eq_true, Int.toNat_natCast, Nat.zero_add, Nat.reduceAdd, Nat.reduceMul, Nat.reduceDiv, Nat.mul_one, lenK_one, big, fill_len, marking_len, marks_len, nrms_len, List.length_set, List.length_append, List.length_map, List.length_replicate, List.length_cons, List.length_nil, Int.natCast_add, Int.natCast_one, Int.natCast_zero] at *) <;> (repeat (with_reducible rename _ ∧ _ => hh; obtain ⟨_, _⟩ := hh)) <;> (first | omega | (refine fits_i64 ?_; omega) | (split <;> omega) | (rw [cut_len_eq (by omega)] at *; omega) | exact strn_zero _ _ | exact strk_zero _ _ _ | exact strn_step (by assumption) (by assumption) (by rw [cut_len_eq (by omega)] at *; omega) | exact str_invalid (by assumption) | exact str_all (by assumption) (by assumption) (by assumption) (by assumption) | exact str_badc (k := Lv.v (by assumption : Lv 7 Nat)) (i := Lv.v (by assumption : Lv 4 Nat)) (by assumption) (by omega) (by rw [cut_len_eq (by omega)] at *; omega) (fun hw => by cases hw) (by assumption) (by assumption) | exact strk_c2 (by assumption) (by rw [cut_len_eq (by omega)] at *; omega) (by assumption) | exact strk_c3 (by assumption) (by rw [cut_len_eq (by omega)] at *; omega) (by assumption))))

set_option maxRecDepth 100000 in
set_option maxHeartbeats 8000000 in
theorem p_iStrict : Proved 22 (cStr true) := by
  refine proved_of [(16, cValid), (41, cConflict), (42, cBetween)] ⟨p_iValidActs, p_iConflict, p_between, trivial⟩ [.tmp 2] Try.func22 rfl rfl rfl rfl (by kernel_rfl) ?_
  intro ds K hrel
  simp only [cStr] at hrel
  split at hrel
  case h_2 => exact hrel.elim
  rename_i ks xs
  obtain ⟨rfl, h1, hrel⟩ := hrel
  refine ⟨rfl, Nat.le_of_ble_eq_true rfl, fun k σ => match k with
    | 4 => some { α := Lv 4 Nat, R := fun i => i.v ≤ xs.length ∧ VA xs ∧ StrN true xs i.v, μ := fun i => xs.length - i.v, st := fun i => up σ [(12, .int .i64 i.v)] }
    | 7 => match lookT σ.tm 12 with
      | .int _ i => some { α := Lv 7 Nat, R := fun j => ((j.v : Int) ≤ i ∧ 0 ≤ i ∧ i < xs.length) ∧ (VA xs ∧ StrN true xs i.toNat) ∧ StrK true xs i.toNat j.v, μ := fun j => i.toNat - j.v, st := fun j => up σ [(21, .int .i64 j.v)] }
      | _ => none
    | _ => none, ?_⟩
  repeat' (first | with_reducible refine And.intro ?_ ?_ | (with_reducible intro h; first | (exact absurd h (by decide)) | (guard_hyp h : true = true; clear h) | (guard_hyp h : false = false; clear h) | skip) | with_reducible exact True.intro | ((with_reducible refine (id ?_ : @Eq Bool (nodupN _) true)); kernel_rfl) | ((with_reducible refine (id ?_ : @Eq Bool (apartN _ _) true)); kernel_rfl) | ((with_reducible refine (id ?_ : @Eq Bool (formL _ _) true)); kernel_rfl) | ((with_reducible refine (id ?_ : @Eq _ _ _)); exact rfl) | ((conv => whnf); first | done | with_reducible refine And.intro ?_ ?_ | (with_reducible intro h; first | (exact absurd h (by decide)) | (guard_hyp h : true = true; clear h) | (guard_hyp h : false = false; clear h) | skip) | with_reducible exact True.intro | ((with_reducible refine (id ?_ : @Eq _ _ _)); exact rfl) | refine Exists.intro (⟨(by assumption : Lv 7 Nat).v + 1⟩ : Lv 7 Nat) ?_ | refine Exists.intro (⟨(by assumption : Lv 4 Nat).v + 1⟩ : Lv 4 Nat) ?_ | refine Exists.intro (⟨0⟩ : Lv 4 Nat) ?_ | refine Exists.intro (⟨0⟩ : Lv 7 Nat) ?_ | refine Exists.intro _ (Exists.intro _ (And.intro hrel ?_)) | exact Or.inl rfl | exact Or.inr (And.intro rfl rfl) | (apply Exists.intro; refine And.intro ?_ ?_)) | exact Nat.le_of_ble_eq_true rfl)
  all_goals (try ((try (change _ = _)) <;> (try dsimp only at *) <;> (try simp only [decide_eq_true_eq, decide_eq_false_iff_not, Bool.not_eq_true', Bool.not_eq_false', Bool.and_eq_true, Bool.and_eq_false_iff, beq_iff_eq, bne_iff_ne, beq_eq_false_iff_ne, bne_eq_false_iff_eq, ne_eq, Decidable.not_not, bne_self_eq_false, Bool.false_eq_true, Bool.true_eq_false, Bool.not_true, Bool.not_false, not_true_eq_false, not_false_eq_true, Int.toNat_natCast, Nat.zero_add, Nat.reduceAdd, Nat.reduceMul, Nat.reduceDiv, Nat.mul_one, lenK_one, big, fill_len, marking_len, marks_len, nrms_len, List.length_set, List.length_append, List.length_map, List.length_replicate, List.length_cons, List.length_nil, Int.natCast_add, Int.natCast_one, Int.natCast_zero] at *) <;> (repeat (with_reducible rename _ ∧ _ => hh; obtain ⟨_, _⟩ := hh)) <;> (first | omega | (refine fits_i64 ?_; omega) | (split <;> omega) | (rw [cut_len_eq (by omega)] at *; omega) | exact strn_zero _ _ | exact strk_zero _ _ _ | exact strn_step (by assumption) (by assumption) (by rw [cut_len_eq (by omega)] at *; omega) | exact str_invalid (by assumption) | exact str_all (by assumption) (by assumption) (by assumption) (by assumption) | exact str_badc (k := Lv.v (by assumption : Lv 7 Nat)) (i := Lv.v (by assumption : Lv 4 Nat)) (by assumption) (by omega) (by rw [cut_len_eq (by omega)] at *; omega) (fun _ => by assumption) (by assumption) (by assumption) | exact strk_c1 (by assumption) (by rw [cut_len_eq (by omega)] at *; omega) (by assumption) | exact strk_c2 (by assumption) (by rw [cut_len_eq (by omega)] at *; omega) (by assumption) | exact strk_c3 (by assumption) (by rw [cut_len_eq (by omega)] at *; omega) (by assumption))))
end Go.Proofs.Ytmdlffhkhhionaa.V
