/-
  Notes: owners that have ended, things that are free.
-/
import Derived.Test.YtkjdhfkihampjaaSt
set_option linter.unusedSimpArgs false
set_option linter.unusedVariables false

namespace Go.Proofs.Ytkjdhfkihampjaa.V
open Go Go.RowKit
open Classical

/-- None of the first n notes ends the owner. -/
structure NoEnd (xs : List Row) (who : Int) (n : Int) : Prop where
  h : ∀ j : Nat, (j : Int) < n → ¬ ((rc (row xs j) 0).bool = true ∧ (rc (row xs j) 1).int = who)
theorem noEnd_zero (xs : List Row) (who : Int) : NoEnd xs who 0 := ⟨fun j h => by omega⟩
theorem noEnd_step {xs : List Row} {who i : Int} (h : NoEnd xs who i) (h1 : ¬ ((rc (row xs i.toNat) 0).bool = true ∧ (rc (row xs i.toNat) 1).int = who)) : NoEnd xs who (i + 1) := ⟨fun j hj => by
  by_cases e : (j : Int) = i
  · subst e; exact h1
  · exact h.h j (by omega)⟩
theorem noEnd_step1 {xs : List Row} {who i : Int} (h : NoEnd xs who i) (h1 : (rc (row xs i.toNat) 0).bool = false) : NoEnd xs who (i + 1) := noEnd_step h (fun q => by rw [h1] at q; cases q.1)
theorem noEnd_step2 {xs : List Row} {who i : Int} (h : NoEnd xs who i) (h1 : ¬ (rc (row xs i.toNat) 1).int = who) : NoEnd xs who (i + 1) := noEnd_step h (fun q => h1 q.2)
theorem noEnd_all {xs : List Row} {who i : Int} (h : NoEnd xs who i) (h1 : ¬ i < xs.length) : NoEnd xs who xs.length := ⟨fun j hj => h.h j (by omega)⟩
theorem noEnd_bad {xs : List Row} {who i : Int} (h0 : 0 ≤ i) (hi : i < xs.length) (h1 : (rc (row xs i.toNat) 0).bool = true) (h2 : (rc (row xs i.toNat) 1).int = who) : ¬ NoEnd xs who xs.length := fun h => h.h i.toNat (by omega) ⟨h1, h2⟩
noncomputable def cEnded : Ct := ⟨[], fun ds K => match ds with
  | [.view ks xs, .int .i64 who] => ks = KNote ∧ (xs.length : Int) < big ∧ K (.bool (decide (¬ NoEnd xs who xs.length))) []
  | _ => False⟩
set_option maxRecDepth 100000 in
set_option maxHeartbeats 4000000 in
theorem p_ended : Proved 43 cEnded := by
  refine proved_of [] trivial [.tmp 4] Try.func43 rfl rfl rfl rfl (by kernel_rfl) ?_
  intro ds K hrel
  simp only [cEnded] at hrel
  split at hrel
  case h_2 => exact hrel.elim
  rename_i ks xs who
  obtain ⟨rfl, h1, hrel⟩ := hrel
  refine ⟨rfl, Nat.le_of_ble_eq_true rfl, fun k σ => match k with
    | 2 => some { α := Lv 2 Int, R := fun ⟨i⟩ => (0 ≤ i ∧ i ≤ xs.length) ∧ NoEnd xs who i, μ := fun ⟨i⟩ => (xs.length - i).toNat, st := fun ⟨i⟩ => up σ [(5, .int .i64 i)] }
    | _ => none, ?_⟩
  repeat' (first | with_reducible refine And.intro ?_ ?_ | (with_reducible intro h; first | (exact absurd h (by decide)) | (guard_hyp h : true = true; clear h) | (guard_hyp h : false = false; clear h) | (have hq := (h : Lv 2 _); clear hq; obtain ⟨_⟩ := h) | skip) | with_reducible exact True.intro | ((with_reducible refine (id ?_ : @Eq Bool (nodupN _) true)); kernel_rfl) | ((with_reducible refine (id ?_ : @Eq Bool (apartN _ _) true)); kernel_rfl) | ((with_reducible refine (id ?_ : @Eq Bool (formL _ _) true)); kernel_rfl) | ((with_reducible refine (id ?_ : @Eq _ _ _)); exact rfl) | ((conv => whnf); first | done | with_reducible refine And.intro ?_ ?_ | (with_reducible intro h; first | (exact absurd h (by decide)) | (guard_hyp h : true = true; clear h) | (guard_hyp h : false = false; clear h) | (have hq := (h : Lv 2 _); clear hq; obtain ⟨_⟩ := h) | skip) | with_reducible exact True.intro | ((with_reducible refine (id ?_ : @Eq _ _ _)); exact rfl) | refine Exists.intro (⟨?_⟩ : Lv 2 _) ?_ | refine Exists.intro _ (Exists.intro _ (And.intro hrel ?_)) | exact Or.inl rfl | exact Or.inr (And.intro rfl rfl) | (apply Exists.intro; refine And.intro ?_ ?_)) | exact Nat.le_of_ble_eq_true rfl)
  all_goals (try ((try (change _ = _)) <;> (try dsimp only at *) <;> (try simp only [decide_eq_true_eq, decide_eq_false_iff_not, Bool.not_eq_true', Bool.not_eq_false', Bool.and_eq_true, Bool.and_eq_false_iff, beq_iff_eq, bne_iff_ne, beq_eq_false_iff_ne, bne_eq_false_iff_eq, ne_eq, Decidable.not_not, bne_self_eq_false, Bool.false_eq_true, Bool.true_eq_false, Bool.not_true, Bool.not_false, not_true_eq_false, not_false_eq_true, Int.toNat_natCast, Nat.zero_add, Nat.reduceAdd, Nat.reduceMul, Nat.reduceDiv, Nat.mul_one, lenK_one, big, fill_len, marking_len, marks_len, nrms_len, List.length_set, List.length_append, List.length_map, List.length_replicate, List.length_cons, List.length_nil, Int.natCast_add, Int.natCast_one, Int.natCast_zero] at *) <;> (repeat (with_reducible rename _ ∧ _ => hh; obtain ⟨_, _⟩ := hh)) <;> (first | omega | (refine fits_i64 ?_; omega) | (split <;> omega) | exact noEnd_zero _ _ | exact noEnd_step1 (by assumption) (by assumption) | exact noEnd_step2 (by assumption) (by assumption) | exact true_eq (noEnd_bad (by omega) (by omega) (by assumption) (by assumption)) | (refine false_eq ?_; exact fun h => h (noEnd_all (by assumption) (by omega))))))

/-- No note of an owner who is under way has changed the thing, but for one's own. -/
structure Free (xs : List Row) (thing who : Int) (n : Int) : Prop where
  h : ∀ j : Nat, (j : Int) < n → ¬ ((rc (row xs j) 0).bool = false ∧ (rc (row xs j) 2).int = thing ∧ (rc (row xs j) 1).int ≠ who ∧ NoEnd xs (rc (row xs j) 1).int xs.length)
theorem free_zero (xs : List Row) (t who : Int) : Free xs t who 0 := ⟨fun j h => by omega⟩
theorem free_step {xs : List Row} {t who i : Int} (h : Free xs t who i) (h1 : ¬ ((rc (row xs i.toNat) 0).bool = false ∧ (rc (row xs i.toNat) 2).int = t ∧ (rc (row xs i.toNat) 1).int ≠ who ∧ NoEnd xs (rc (row xs i.toNat) 1).int xs.length)) : Free xs t who (i + 1) := ⟨fun j hj => by
  by_cases e : (j : Int) = i
  · subst e; exact h1
  · exact h.h j (by omega)⟩
theorem free_step1 {xs : List Row} {t who i : Int} (h : Free xs t who i) (h1 : (rc (row xs i.toNat) 0).bool = true) : Free xs t who (i + 1) := free_step h (fun q => by rw [h1] at q; cases q.1)
theorem free_step2 {xs : List Row} {t who i : Int} (h : Free xs t who i) (h1 : ¬ (rc (row xs i.toNat) 2).int = t) : Free xs t who (i + 1) := free_step h (fun q => h1 q.2.1)
theorem free_step3 {xs : List Row} {t who i : Int} (h : Free xs t who i) (h1 : (rc (row xs i.toNat) 1).int = who) : Free xs t who (i + 1) := free_step h (fun q => q.2.2.1 h1)
theorem free_step4 {xs : List Row} {t who i : Int} (h : Free xs t who i) (h1 : ¬ NoEnd xs (rc (row xs i.toNat) 1).int xs.length) : Free xs t who (i + 1) := free_step h (fun q => h1 q.2.2.2)
theorem free_all {xs : List Row} {t who i : Int} (h : Free xs t who i) (h1 : ¬ i < xs.length) : Free xs t who xs.length := ⟨fun j hj => h.h j (by omega)⟩
theorem free_bad {xs : List Row} {t who i : Int} (h0 : 0 ≤ i) (hi : i < xs.length) (h1 : (rc (row xs i.toNat) 0).bool = false) (h2 : (rc (row xs i.toNat) 2).int = t) (h3 : ¬ (rc (row xs i.toNat) 1).int = who) (h4 : NoEnd xs (rc (row xs i.toNat) 1).int xs.length) : ¬ Free xs t who xs.length := fun h => h.h i.toNat (by omega) ⟨h1, h2, h3, h4⟩
noncomputable def cFree : Ct := ⟨[], fun ds K => match ds with
  | [.view ks xs, .int .i64 t, .int .i64 who] => ks = KNote ∧ (xs.length : Int) < big ∧ K (.bool (decide (Free xs t who xs.length))) []
  | _ => False⟩
set_option maxRecDepth 100000 in
set_option maxHeartbeats 4000000 in
theorem p_free : Proved 70 cFree := by
  refine proved_of [(43, cEnded)] ⟨p_ended, trivial⟩ [.tmp 6] Try.func70 rfl rfl rfl rfl (by kernel_rfl) ?_
  intro ds K hrel
  simp only [cFree] at hrel
  split at hrel
  case h_2 => exact hrel.elim
  rename_i ks xs t who
  obtain ⟨rfl, h1, hrel⟩ := hrel
  refine ⟨rfl, Nat.le_of_ble_eq_true rfl, fun k σ => match k with
    | 2 => some { α := Lv 2 Int, R := fun ⟨i⟩ => (0 ≤ i ∧ i ≤ xs.length) ∧ Free xs t who i, μ := fun ⟨i⟩ => (xs.length - i).toNat, st := fun ⟨i⟩ => up σ [(7, .int .i64 i)] }
    | _ => none, ?_⟩
  repeat' (first | with_reducible refine And.intro ?_ ?_ | (with_reducible intro h; first | (exact absurd h (by decide)) | (guard_hyp h : true = true; clear h) | (guard_hyp h : false = false; clear h) | (have hq := (h : Lv 2 _); clear hq; obtain ⟨_⟩ := h) | skip) | with_reducible exact True.intro | ((with_reducible refine (id ?_ : @Eq Bool (nodupN _) true)); kernel_rfl) | ((with_reducible refine (id ?_ : @Eq Bool (apartN _ _) true)); kernel_rfl) | ((with_reducible refine (id ?_ : @Eq Bool (formL _ _) true)); kernel_rfl) | ((with_reducible refine (id ?_ : @Eq _ _ _)); exact rfl) | ((conv => whnf); first | done | with_reducible refine And.intro ?_ ?_ | (with_reducible intro h; first | (exact absurd h (by decide)) | (guard_hyp h : true = true; clear h) | (guard_hyp h : false = false; clear h) | (have hq := (h : Lv 2 _); clear hq; obtain ⟨_⟩ := h) | skip) | with_reducible exact True.intro | ((with_reducible refine (id ?_ : @Eq _ _ _)); exact rfl) | refine Exists.intro (⟨?_⟩ : Lv 2 _) ?_ | refine Exists.intro _ (Exists.intro _ (And.intro hrel ?_)) | exact Or.inl rfl | exact Or.inr (And.intro rfl rfl) | (apply Exists.intro; refine And.intro ?_ ?_)) | exact Nat.le_of_ble_eq_true rfl)
  all_goals (try ((try (change _ = _)) <;> (try dsimp only at *) <;> (try simp only [decide_eq_true_eq, decide_eq_false_iff_not, Bool.not_eq_true', Bool.not_eq_false', Bool.and_eq_true, Bool.and_eq_false_iff, beq_iff_eq, bne_iff_ne, beq_eq_false_iff_ne, bne_eq_false_iff_eq, ne_eq, Decidable.not_not, bne_self_eq_false, Bool.false_eq_true, Bool.true_eq_false, Bool.not_true, Bool.not_false, not_true_eq_false, not_false_eq_true, Int.toNat_natCast, Nat.zero_add, Nat.reduceAdd, Nat.reduceMul, Nat.reduceDiv, Nat.mul_one, lenK_one, big, fill_len, marking_len, marks_len, nrms_len, List.length_set, List.length_append, List.length_map, List.length_replicate, List.length_cons, List.length_nil, Int.natCast_add, Int.natCast_one, Int.natCast_zero] at *) <;> (repeat (with_reducible rename _ ∧ _ => hh; obtain ⟨_, _⟩ := hh)) <;> (first | omega | (refine fits_i64 ?_; omega) | (split <;> omega) | exact free_zero _ _ _ | exact free_step1 (by assumption) (by assumption) | exact free_step2 (by assumption) (by assumption) | exact free_step3 (by assumption) (by assumption) | exact free_step4 (by assumption) (by assumption) | exact false_eq (free_bad (by omega) (by omega) (by assumption) (by assumption) (by assumption) (by assumption)) | exact true_eq (free_all (by assumption) (by omega)))))
end Go.Proofs.Ytkjdhfkihampjaa.V
