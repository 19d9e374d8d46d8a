/-
  Acts: what makes a history valid, in the program and in the reference.
-/
import Derived.Test.YtmdlffhkhhionaaTyHist
set_option linter.unusedSimpArgs false
set_option linter.unusedVariables false
namespace Go.Proofs.Ytmdlffhkhhionaa.V
open Go Go.RowKit
open Classical
def cInRange : Ct := ⟨[], fun ds K => match ds with
  | [.int .i64 n, .int .i64 lo, .int .i64 hi] => K (.bool (decide (lo ≤ n) && decide (n ≤ hi))) []
  | _ => False⟩

set_option maxRecDepth 100000 in
set_option maxHeartbeats 1000000 in
theorem p_inRange : Proved 49 cInRange := by
  refine proved_of [] trivial [.tmp 6] Try.func49 rfl rfl rfl rfl (by kernel_rfl) ?_
  intro ds K hrel
  simp only [cInRange] at hrel
  split at hrel
  case h_2 => exact hrel.elim
  refine ⟨rfl, Nat.le_of_ble_eq_true rfl, fun _ _ => none, ?_⟩
  repeat' (first | with_reducible refine And.intro ?_ ?_ | (with_reducible intro h; first | (exact absurd h (by decide)) | (guard_hyp h : true = true; clear h) | (guard_hyp h : false = false; clear h) | skip) | with_reducible exact True.intro | ((with_reducible refine (id ?_ : @Eq Bool (nodupN _) true)); kernel_rfl) | ((with_reducible refine (id ?_ : @Eq Bool (apartN _ _) true)); kernel_rfl) | ((with_reducible refine (id ?_ : @Eq Bool (formL _ _) true)); kernel_rfl) | ((with_reducible refine (id ?_ : @Eq _ _ _)); exact rfl) | ((conv => whnf); first | done | with_reducible refine And.intro ?_ ?_ | (with_reducible intro h; first | (exact absurd h (by decide)) | (guard_hyp h : true = true; clear h) | (guard_hyp h : false = false; clear h) | skip) | with_reducible exact True.intro | ((with_reducible refine (id ?_ : @Eq _ _ _)); exact rfl) | refine Exists.intro _ (Exists.intro _ (And.intro hrel ?_)) | exact Or.inl rfl | exact Or.inr (And.intro rfl rfl) | (apply Exists.intro; refine And.intro ?_ ?_)) | exact Nat.le_of_ble_eq_true rfl)
  all_goals (conv => whnf)
  all_goals simp [*]


def okRow (r : Row) : Prop := 0 ≤ (rc r 0).int ∧ (rc r 0).int ≤ 7 ∧ 0 ≤ (rc r 1).int ∧ (rc r 1).int ≤ 2 ∧ 0 ≤ (rc r 2).int ∧ (rc r 2).int ≤ 5 ∧ ((rc r 1).int = 2 → (rc r 2).int = 0)
structure OkRow (r : Row) : Prop where
  h : okRow r
/-- Act i comes behind no commit of its transaction among the first n. -/
structure Free (xs : List Row) (i n : Nat) : Prop where
  h : ∀ j, j < n → ¬ ((rc (row xs j) 0).int = (rc (row xs i) 0).int ∧ (rc (row xs j) 1).int = 2)
structure Good (xs : List Row) (n : Nat) : Prop where
  h : ∀ j, j < n → OkRow (row xs j) ∧ Free xs j j
/-- A valid history. -/
structure VA (xs : List Row) : Prop where
  g : Good xs xs.length
  l : xs.length ≤ 16

theorem va_row {xs : List Row} {i : Nat} (h : i < xs.length) (hr : ¬ okRow (row xs i)) : false = decide (VA xs) := by
  symm; rw [decide_eq_false_iff_not]; exact fun hv => hr (hv.1.h i h).1.h
theorem va_free {xs : List Row} {i j : Nat} (h : i < xs.length) (hj : j < i) (he : (rc (row xs j) 0).int = (rc (row xs i) 0).int) (he2 : (rc (row xs j) 1).int = 2) : false = decide (VA xs) := by
  symm; rw [decide_eq_false_iff_not]; exact fun hv => (hv.1.h i h).2.h j hj ⟨he, he2⟩
theorem va_long {xs : List Row} (h : 16 < (xs.length : Int)) : false = decide (VA xs) := by
  symm; rw [decide_eq_false_iff_not]; exact fun hv => by have := hv.2; omega
theorem va_all {xs : List Row} {n : Nat} (h : Good xs n) (hn : n ≤ xs.length) (hn2 : ¬ (n : Int) < xs.length) : decide ((xs.length : Int) ≤ 16) = decide (VA xs) := by
  have : n = xs.length := by omega
  subst this
  rw [decide_eq_decide]; exact ⟨fun hl => ⟨h, by omega⟩, fun hv => by have := hv.2; omega⟩
theorem va_true {xs : List Row} {n : Nat} (h : Good xs n) (hn : n ≤ xs.length) (hn2 : ¬ (n : Int) < xs.length) (hl : ¬ 16 < (xs.length : Int)) : true = decide (VA xs) := by
  rw [← va_all h hn hn2]; symm; rw [decide_eq_true_eq]; omega
theorem good_zero (xs : List Row) : Good xs 0 := ⟨fun j h => by omega⟩
theorem free_zero (xs : List Row) (i : Nat) : Free xs i 0 := ⟨fun j h => by omega⟩
theorem good_step {xs : List Row} {i n : Nat} (h : Good xs i) (h1 : OkRow (row xs i)) (h2 : Free xs i n) (hn : ¬ (n : Int) < i) : Good xs (i + 1) := ⟨by
  intro j hj
  rcases Nat.lt_succ_iff_lt_or_eq.1 hj with h3 | rfl
  · exact h.h j h3
  · exact ⟨h1, ⟨fun k hk => h2.h k (by omega)⟩⟩⟩
theorem free_step {xs : List Row} {i j : Nat} (h : Free xs i j) (h1 : (rc (row xs j) 0).int = (rc (row xs i) 0).int → ¬ (rc (row xs j) 1).int = 2) : Free xs i (j + 1) := ⟨by
  intro k hk
  rcases Nat.lt_succ_iff_lt_or_eq.1 hk with h3 | rfl
  · exact h.h k h3
  · exact fun hh => h1 hh.1 hh.2⟩

noncomputable def cValid : Ct := ⟨[], fun ds K => match ds with
  | [.view ks xs] => ks = KAct ∧ (xs.length : Int) < big ∧ K (.bool (decide (VA xs))) []
  | _ => False⟩

set_option maxRecDepth 100000 in
set_option maxHeartbeats 4000000 in
theorem p_sValidActs : Proved 34 cValid := by
  refine proved_of [(49, cInRange)] ⟨p_inRange, trivial⟩ [.tmp 2] Try.func34 rfl rfl rfl rfl (by kernel_rfl) ?_
  intro ds K hrel
  simp only [cValid] at hrel
  split at hrel
  case h_2 => exact hrel.elim
  rename_i ks xs
  obtain ⟨rfl, h1, hrel⟩ := hrel
  refine ⟨rfl, Nat.le_of_ble_eq_true rfl, fun k σ => match k with
    | 2 => some { α := Lv 2 Nat, R := fun i => i.v ≤ xs.length ∧ Good xs i.v, μ := fun i => xs.length - i.v,
                  st := fun i => ⟨[(0, .view KAct xs), (3, .int .i64 i.v)], []⟩ }
    | 8 => match lookT σ.tm 3 with
      | .int _ i => some { α := Lv 8 Nat, R := fun j => ((j.v : Int) ≤ i ∧ 0 ≤ i ∧ i < xs.length) ∧ (OkRow (row xs i.toNat) ∧ Good xs i.toNat) ∧ Free xs i.toNat j.v, μ := fun j => i.toNat - j.v,
                           st := fun j => ⟨[(0, .view KAct xs), (3, .int .i64 i), (4, .box 0 0), (5, .int .i64 j.v)], [some (.box [.int .i64 (rc (row xs i.toNat) 0).int, .int .i64 (rc (row xs i.toNat) 1).int, .int .i64 (rc (row xs i.toNat) 2).int])]⟩ }
      | _ => none
    | _ => none, ?_⟩
  repeat' (first | with_reducible refine And.intro ?_ ?_ | (with_reducible intro h; first | (exact absurd h (by decide)) | (guard_hyp h : true = true; clear h) | (guard_hyp h : false = false; clear h) | skip) | with_reducible exact True.intro | ((with_reducible refine (id ?_ : @Eq Bool (nodupN _) true)); kernel_rfl) | ((with_reducible refine (id ?_ : @Eq Bool (apartN _ _) true)); kernel_rfl) | ((with_reducible refine (id ?_ : @Eq Bool (formL _ _) true)); kernel_rfl) | ((with_reducible refine (id ?_ : @Eq _ _ _)); exact rfl) | ((conv => whnf); first | done | with_reducible refine And.intro ?_ ?_ | (with_reducible intro h; first | (exact absurd h (by decide)) | (guard_hyp h : true = true; clear h) | (guard_hyp h : false = false; clear h) | skip) | with_reducible exact True.intro | ((with_reducible refine (id ?_ : @Eq _ _ _)); exact rfl) | refine Exists.intro (⟨(by assumption : Lv 8 Nat).v + 1⟩ : Lv 8 Nat) ?_ | refine Exists.intro (⟨(by assumption : Lv 2 Nat).v + 1⟩ : Lv 2 Nat) ?_ | refine Exists.intro (⟨0⟩ : Lv 2 Nat) ?_ | refine Exists.intro (⟨0⟩ : Lv 8 Nat) ?_ | refine Exists.intro _ (Exists.intro _ (And.intro hrel ?_)) | exact Or.inl rfl | exact Or.inr (And.intro rfl rfl) | (apply Exists.intro; refine And.intro ?_ ?_)) | exact Nat.le_of_ble_eq_true rfl)
  all_goals (try ((try (change _ = _)) <;> (try dsimp only at *) <;> (try simp only [decide_eq_true_eq, decide_eq_false_iff_not, Bool.not_eq_true', Bool.not_eq_false', Bool.and_eq_true, Bool.and_eq_false_iff, beq_iff_eq, bne_iff_ne, beq_eq_false_iff_ne, bne_eq_false_iff_eq, ne_eq, Decidable.not_not, bne_self_eq_false, Bool.false_eq_true, Bool.true_eq_false, Bool.not_true, Bool.not_false, not_true_eq_false, not_false_eq_true, Int.toNat_natCast, Nat.zero_add, Nat.reduceAdd, Nat.reduceMul, Nat.reduceDiv, Nat.mul_one, lenK_one, big, fill_len, marking_len, marks_len, nrms_len, List.length_set, List.length_append, List.length_map, List.length_replicate, List.length_cons, List.length_nil, Int.natCast_add, Int.natCast_one, Int.natCast_zero] at *) <;> (repeat (with_reducible rename _ ∧ _ => hh; obtain ⟨_, _⟩ := hh)) <;> (first | omega | (refine fits_i64 ?_; omega) | (split <;> omega) | exact va_row (i := Lv.v (by assumption : Lv 2 Nat)) (by omega) (by unfold okRow; omega) | exact va_free (i := Lv.v (by assumption : Lv 2 Nat)) (j := Lv.v (by assumption : Lv 8 Nat)) (by omega) (by omega) (by assumption) (by assumption) | exact good_zero _ | exact free_zero _ _ | exact ⟨by unfold okRow; omega⟩ | exact good_step (by assumption) (by assumption) (by assumption) (by assumption) | exact free_step (by assumption) (by omega) | assumption | exact va_all (by assumption) (by assumption) (by assumption))))

set_option maxRecDepth 100000 in
set_option maxHeartbeats 1000000 in
theorem p_spValidActs : Proved 14 cValid := by
  refine proved_of [(34, cValid)] ⟨p_sValidActs, trivial⟩ [.tmp 2] Try.func14 rfl rfl rfl rfl (by kernel_rfl) ?_
  intro ds K hrel
  simp only [cValid] at hrel
  split at hrel
  case h_2 => exact hrel.elim
  obtain ⟨rfl, h1, hrel⟩ := hrel
  refine ⟨rfl, Nat.le_of_ble_eq_true rfl, fun _ _ => none, ?_⟩
  repeat' (first | with_reducible refine And.intro ?_ ?_ | (with_reducible intro h; first | (exact absurd h (by decide)) | (guard_hyp h : true = true; clear h) | (guard_hyp h : false = false; clear h) | skip) | with_reducible exact True.intro | ((with_reducible refine (id ?_ : @Eq Bool (nodupN _) true)); kernel_rfl) | ((with_reducible refine (id ?_ : @Eq Bool (apartN _ _) true)); kernel_rfl) | ((with_reducible refine (id ?_ : @Eq Bool (formL _ _) true)); kernel_rfl) | ((with_reducible refine (id ?_ : @Eq _ _ _)); exact rfl) | ((conv => whnf); first | done | with_reducible refine And.intro ?_ ?_ | (with_reducible intro h; first | (exact absurd h (by decide)) | (guard_hyp h : true = true; clear h) | (guard_hyp h : false = false; clear h) | skip) | with_reducible exact True.intro | ((with_reducible refine (id ?_ : @Eq _ _ _)); exact rfl) | refine Exists.intro _ (Exists.intro _ (And.intro hrel ?_)) | exact Or.inl rfl | exact Or.inr (And.intro rfl rfl) | (apply Exists.intro; refine And.intro ?_ ?_)) | exact Nat.le_of_ble_eq_true rfl)
  all_goals (try ((try (change _ = _)) <;> (try dsimp only at *) <;> (try simp only [decide_eq_true_eq, decide_eq_false_iff_not, Bool.not_eq_true', Bool.not_eq_false', Bool.and_eq_true, Bool.and_eq_false_iff, beq_iff_eq, bne_iff_ne, beq_eq_false_iff_ne, bne_eq_false_iff_eq, ne_eq, Decidable.not_not, bne_self_eq_false, Bool.false_eq_true, Bool.true_eq_false, Bool.not_true, Bool.not_false, not_true_eq_false, not_false_eq_true, Int.toNat_natCast, Nat.zero_add, Nat.reduceAdd, Nat.reduceMul, Nat.reduceDiv, Nat.mul_one, lenK_one, big, fill_len, marking_len, marks_len, nrms_len, List.length_set, List.length_append, List.length_map, List.length_replicate, List.length_cons, List.length_nil, Int.natCast_add, Int.natCast_one, Int.natCast_zero] at *) <;> (repeat (with_reducible rename _ ∧ _ => hh; obtain ⟨_, _⟩ := hh)) <;> (first | omega | (refine fits_i64 ?_; omega) | (split <;> omega) | assumption)))

/-- Which transactions have ended among the first n acts. -/
structure Ended (xs es : List Row) (n : Nat) : Prop where
  len : es.length = 8
  h : ∀ o : Nat, o < 8 → ((rc (row es o) 0).bool = true ↔ ∃ j, j < n ∧ (rc (row xs j) 0).int = o ∧ (rc (row xs j) 1).int = 2)
def eStep (es : List Row) (r : Row) : List Row := if (rc r 1).int = 2 then es.set (rc r 0).int.toNat (pasteR (row es (rc r 0).int.toNat) 0 [.b true]) else es
theorem eStep_len (es : List Row) (r : Row) : (eStep es r).length = es.length := by unfold eStep; split <;> simp
theorem rc_paste (r : Row) (s : Sc) : rc (pasteR r 0 [s]) 0 = s := by cases r <;> rfl
theorem ended_zero (xs : List Row) : Ended xs (List.replicate 8 (zeroRow [.bool])) 0 := by
  refine ⟨rfl, fun o ho => ?_⟩
  have : (rc (row (List.replicate 8 (zeroRow [.bool])) o) 0).bool = false := by
    unfold row
    rw [List.getD_eq_getElem?_getD, List.getElem?_replicate, if_pos ho]
    rfl
  rw [this]
  simp
theorem ended_step {xs es : List Row} {n : Nat} (h : Ended xs es n) (h0 : 0 ≤ (rc (row xs n) 0).int) (h7 : (rc (row xs n) 0).int ≤ 7) : Ended xs (eStep es (row xs n)) (n + 1) := by
  unfold eStep
  by_cases h2 : (rc (row xs n) 1).int = 2
  · rw [if_pos h2]
    refine ⟨by rw [List.length_set]; exact h.len, fun o ho => ?_⟩
    rw [row_set]
    by_cases he : (rc (row xs n) 0).int.toNat = o
    · rw [if_pos ⟨he, by rw [h.len]; exact ho⟩, rc_paste]
      refine ⟨fun _ => ⟨n, by omega, by omega, h2⟩, fun _ => rfl⟩
    · rw [if_neg (fun hh => he hh.1), h.h o ho]
      refine ⟨fun ⟨j, h1, h3⟩ => ⟨j, by omega, h3⟩, fun ⟨j, h1, h3, h4⟩ => ⟨j, ?_, h3, h4⟩⟩
      rcases Nat.lt_succ_iff_lt_or_eq.1 h1 with h5 | rfl
      · exact h5
      · omega
  · rw [if_neg h2]
    refine ⟨h.len, fun o ho => ?_⟩
    rw [h.h o ho]
    refine ⟨fun ⟨j, h1, h3⟩ => ⟨j, by omega, h3⟩, fun ⟨j, h1, h3, h4⟩ => ⟨j, ?_, h3, h4⟩⟩
    rcases Nat.lt_succ_iff_lt_or_eq.1 h1 with h5 | rfl
    · exact h5
    · exact absurd h4 h2
theorem ended_free {xs es : List Row} {n : Nat} (h : Ended xs es n) (h0 : 0 ≤ (rc (row xs n) 0).int) (h7 : (rc (row xs n) 0).int ≤ 7)
    (hb : (rc (row es (rc (row xs n) 0).int.toNat) 0).bool = false) : Free xs n n := ⟨fun j hj he => by
  have := (h.h (rc (row xs n) 0).int.toNat (by omega)).2 ⟨j, hj, by omega, he.2⟩
  rw [hb] at this; cases this⟩
theorem ended_bad {xs es : List Row} {n : Nat} (hn : n < xs.length) (h : Ended xs es n) (h0 : 0 ≤ (rc (row xs n) 0).int) (h7 : (rc (row xs n) 0).int ≤ 7)
    (hb : (rc (row es (rc (row xs n) 0).int.toNat) 0).bool = true) : false = decide (VA xs) := by
  obtain ⟨j, hj, h1, h2⟩ := (h.h (rc (row xs n) 0).int.toNat (by omega)).1 hb
  exact va_free hn hj (by omega) h2
theorem good_next {xs : List Row} {n : Nat} (h : Good xs n) (h1 : okRow (row xs n)) (h2 : Free xs n n) : Good xs (n + 1) := good_step h ⟨h1⟩ h2 (by omega)

set_option maxRecDepth 100000 in
set_option maxHeartbeats 4000000 in
theorem p_iValidActs : Proved 16 cValid := by
  refine proved_of [] trivial [.tmp 2] Try.func16 rfl rfl rfl rfl (by kernel_rfl) ?_
  intro ds K hrel
  simp only [cValid] at hrel
  split at hrel
  case h_2 => exact hrel.elim
  rename_i ks xs
  obtain ⟨rfl, h1, hrel⟩ := hrel
  refine ⟨rfl, Nat.le_of_ble_eq_true rfl, fun k σ => match k with
    | 5 => some { α := Lv 5 (Nat × List Row), R := fun i => (i.v.1 ≤ xs.length ∧ ¬ 16 < (xs.length : Int)) ∧ (i.v.2.length = 8 ∧ Good xs i.v.1) ∧ Ended xs i.v.2 i.v.1, μ := fun i => xs.length - i.v.1,
                  st := fun i => ⟨[(0, .view KAct xs), (9, .view KAct xs), (10, .int .i64 xs.length), (11, .int .i64 i.v.1), (3, .cel 0 0 0)], [some (.arr [.bool] i.v.2)]⟩ }
    | _ => none, ?_⟩
  repeat' (first | with_reducible refine And.intro ?_ ?_ | (with_reducible intro h; first | (exact absurd h (by decide)) | (guard_hyp h : true = true; clear h) | (guard_hyp h : false = false; clear h) | skip) | with_reducible exact True.intro | ((with_reducible refine (id ?_ : @Eq Bool (nodupN _) true)); kernel_rfl) | ((with_reducible refine (id ?_ : @Eq Bool (apartN _ _) true)); kernel_rfl) | ((with_reducible refine (id ?_ : @Eq Bool (formL _ _) true)); kernel_rfl) | ((with_reducible refine (id ?_ : @Eq _ _ _)); exact rfl) | ((conv => whnf); first | done | with_reducible refine And.intro ?_ ?_ | (with_reducible intro h; first | (exact absurd h (by decide)) | (guard_hyp h : true = true; clear h) | (guard_hyp h : false = false; clear h) | skip) | with_reducible exact True.intro | ((with_reducible refine (id ?_ : @Eq _ _ _)); exact rfl) | refine Exists.intro (⟨((by assumption : Lv 5 (Nat × List Row)).v.1 + 1, eStep (by assumption : Lv 5 (Nat × List Row)).v.2 (row xs (by assumption : Lv 5 (Nat × List Row)).v.1))⟩ : Lv 5 (Nat × List Row)) ?_ | refine Exists.intro (⟨(0, List.replicate 8 (zeroRow [.bool]))⟩ : Lv 5 (Nat × List Row)) ?_ | refine Exists.intro _ (Exists.intro _ (And.intro hrel ?_)) | exact Or.inl rfl | exact Or.inr (And.intro rfl rfl) | (apply Exists.intro; refine And.intro ?_ ?_)) | exact Nat.le_of_ble_eq_true rfl)
  all_goals (try ((try (change _ = _)) <;> (try dsimp only at *) <;> (try simp only [decide_eq_true_eq, decide_eq_false_iff_not, Bool.not_eq_true', Bool.not_eq_false', Bool.and_eq_true, Bool.and_eq_false_iff, beq_iff_eq, bne_iff_ne, beq_eq_false_iff_ne, bne_eq_false_iff_eq, ne_eq, Decidable.not_not, bne_self_eq_false, Bool.false_eq_true, Bool.true_eq_false, Bool.not_true, Bool.not_false, not_true_eq_false, not_false_eq_true, Int.toNat_natCast, Nat.zero_add, Nat.reduceAdd, Nat.reduceMul, Nat.reduceDiv, Nat.mul_one, lenK_one, big, fill_len, marking_len, marks_len, nrms_len, List.length_set, List.length_append, List.length_map, List.length_replicate, List.length_cons, List.length_nil, Int.natCast_add, Int.natCast_one, Int.natCast_zero] at *) <;> (repeat (with_reducible rename _ ∧ _ => hh; obtain ⟨_, _⟩ := hh)) <;> (first | omega | (refine fits_i64 ?_; omega) | (split <;> omega) | exact va_row (i := (Lv.v (by assumption : Lv 5 (Nat × List Row))).1) (by omega) (by unfold okRow; omega) | exact ended_bad (n := (Lv.v (by assumption : Lv 5 (Nat × List Row))).1) (by omega) (by assumption) (by omega) (by omega) (by assumption) | exact good_zero _ | exact ended_zero _ | exact (eStep_len _ _).trans (by assumption) | exact ended_step (by assumption) (by omega) (by omega) | exact good_next (by assumption) (by unfold okRow; omega) (ended_free (by assumption) (by omega) (by omega) (by assumption)) | assumption | exact (if_pos (by omega)).symm | exact (if_neg (by omega)).symm | exact va_true (by assumption) (by assumption) (by assumption) (by assumption) | exact va_long (by omega))))


end Go.Proofs.Ytmdlffhkhhionaa.V
