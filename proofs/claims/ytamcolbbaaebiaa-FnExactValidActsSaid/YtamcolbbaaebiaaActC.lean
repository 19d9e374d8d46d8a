/-
  Acts: valid histories in the program, and the law that it answers as the reference does.
-/
import Derived.Test.YtamcolbbaaebiaaActB
namespace Go.Proofs.Ytamcolbbaaebiaa.V
open Go Go.RowKit
open Classical

set_option maxRecDepth 100000 in
set_option maxHeartbeats 1000000 in
theorem p_spValidActs : Proved 10 cValid := by
  refine proved_of [(36, cValid)] ⟨p_sValidActs, trivial⟩ [.tmp 2] Try.func10 rfl rfl rfl rfl (by kernel_rfl) ?_
  intro ds K hrel
  simp only [cValid] at hrel
  split at hrel
  case h_2 => exact hrel.elim
  obtain ⟨rfl, h1, hrel⟩ := hrel
  refine ⟨rfl, Nat.le_of_ble_eq_true rfl, fun _ _ => none, ?_⟩
  repeat' (first | refine And.intro ?_ ?_ | (intro h; first | (exact absurd h (by decide)) | (guard_hyp h : true = true; clear h) | (guard_hyp h : false = false; clear h) | skip) | refine Exists.intro _ (Exists.intro _ (And.intro hrel ?_)) | exact rfl | exact True.intro | exact Or.inl rfl | exact Or.inr (And.intro rfl rfl) | exact Nat.le_of_ble_eq_true rfl | (apply Exists.intro; refine And.intro ?_ ?_))
  all_goals (try ((try (change _ = _)); (try dsimp only at *); (try simp only [decide_eq_true_eq, decide_eq_false_iff_not, Bool.not_eq_true', Bool.not_eq_false', Bool.and_eq_true, Bool.and_eq_false_iff, beq_iff_eq, bne_iff_ne, beq_eq_false_iff_ne, bne_eq_false_iff_eq, ne_eq, Decidable.not_not, Int.toNat_natCast, Nat.zero_add, Nat.reduceAdd, Nat.reduceMul, Nat.reduceDiv, Nat.mul_one, lenK_one, big, fill_len] at *); (repeat (rename _ ∧ _ => hh; obtain ⟨_, _⟩ := hh)); first | omega | (refine fits_i64 ?_; omega) | (split <;> omega) | assumption))

/-- Which transactions have ended among the first n acts. -/
structure Ended (xs es : List Row) (n : Nat) : Prop where
  len : es.length = 8
  h : ∀ o : Nat, o < 8 → ((rc (row es o) 0).bool = true ↔ ∃ j, j < n ∧ (rc (row xs j) 0).int = o ∧ (rc (row xs j) 1).int = 2)
def eStep (es : List Row) (r : Row) : List Row := if (rc r 1).int = 2 then es.set (rc r 0).int.toNat (pasteR (row es (rc r 0).int.toNat) 0 [.b true]) else es
theorem eStep_len (es : List Row) (r : Row) : (eStep es r).length = es.length := by unfold eStep; split <;> simp
theorem rc_paste (r : Row) (s : Sc) : rc (pasteR r 0 [s]) 0 = s := by cases r <;> rfl
theorem row_set {xs : List Row} {i j : Nat} {r : Row} : row (xs.set i r) j = if i = j ∧ j < xs.length then r else row xs j := by
  unfold row
  rw [List.getD_eq_getElem?_getD, List.getD_eq_getElem?_getD, List.getElem?_set]
  by_cases h : i = j
  · subst h
    by_cases h2 : i < xs.length
    · simp [h2]
    · simp [h2]
  · simp [h]
theorem ended_zero (xs : List Row) : Ended xs (List.replicate 8 (zeroRow [.bool])) 0 := by
  refine ⟨rfl, fun o ho => ?_⟩
  have : (rc (row (List.replicate 8 (zeroRow [.bool])) o) 0).bool = false := by
    unfold row
    rw [List.getD_eq_getElem?_getD, List.getElem?_replicate, if_pos ho]
    rfl
  rw [this]
  simp
theorem ended_step {xs es : List Row} {n : Nat} (h : Ended xs es n) (h0 : 0 ≤ (rc (row xs n) 0).int) (h7 : (rc (row xs n) 0).int ≤ 7) : Ended xs (eStep es (row xs n)) (n + 1) := by
  unfold eStep
  by_cases h2 : (rc (row xs n) 1).int = 2
  · rw [if_pos h2]
    refine ⟨by rw [List.length_set]; exact h.len, fun o ho => ?_⟩
    rw [row_set]
    by_cases he : (rc (row xs n) 0).int.toNat = o
    · rw [if_pos ⟨he, by rw [h.len]; exact ho⟩, rc_paste]
      refine ⟨fun _ => ⟨n, by omega, by omega, h2⟩, fun _ => rfl⟩
    · rw [if_neg (fun hh => he hh.1), h.h o ho]
      refine ⟨fun ⟨j, h1, h3⟩ => ⟨j, by omega, h3⟩, fun ⟨j, h1, h3, h4⟩ => ⟨j, ?_, h3, h4⟩⟩
      rcases Nat.lt_succ_iff_lt_or_eq.1 h1 with h5 | rfl
      · exact h5
      · omega
  · rw [if_neg h2]
    refine ⟨h.len, fun o ho => ?_⟩
    rw [h.h o ho]
    refine ⟨fun ⟨j, h1, h3⟩ => ⟨j, by omega, h3⟩, fun ⟨j, h1, h3, h4⟩ => ⟨j, ?_, h3, h4⟩⟩
    rcases Nat.lt_succ_iff_lt_or_eq.1 h1 with h5 | rfl
    · exact h5
    · exact absurd h4 h2
theorem ended_free {xs es : List Row} {n : Nat} (h : Ended xs es n) (h0 : 0 ≤ (rc (row xs n) 0).int) (h7 : (rc (row xs n) 0).int ≤ 7)
    (hb : (rc (row es (rc (row xs n) 0).int.toNat) 0).bool = false) : Free xs n n := ⟨fun j hj he => by
  have := (h.h (rc (row xs n) 0).int.toNat (by omega)).2 ⟨j, hj, by omega, he.2⟩
  rw [hb] at this; cases this⟩
theorem ended_bad {xs es : List Row} {n : Nat} (hn : n < xs.length) (h : Ended xs es n) (h0 : 0 ≤ (rc (row xs n) 0).int) (h7 : (rc (row xs n) 0).int ≤ 7)
    (hb : (rc (row es (rc (row xs n) 0).int.toNat) 0).bool = true) : false = decide (VA xs) := by
  obtain ⟨j, hj, h1, h2⟩ := (h.h (rc (row xs n) 0).int.toNat (by omega)).1 hb
  exact va_free hn hj (by omega) h2
theorem good_next {xs : List Row} {n : Nat} (h : Good xs n) (h1 : okRow (row xs n)) (h2 : Free xs n n) : Good xs (n + 1) := good_step h ⟨h1⟩ h2 (by omega)

set_option maxRecDepth 100000 in
set_option maxHeartbeats 4000000 in
theorem p_iValidActs : Proved 12 cValid := by
  refine proved_of [] trivial [.tmp 2] Try.func12 rfl rfl rfl rfl (by kernel_rfl) ?_
  intro ds K hrel
  simp only [cValid] at hrel
  split at hrel
  case h_2 => exact hrel.elim
  rename_i ks xs
  obtain ⟨rfl, h1, hrel⟩ := hrel
  refine ⟨rfl, Nat.le_of_ble_eq_true rfl, fun k σ => match k with
    | 5 => some { α := Lv 5 (Nat × List Row), R := fun i => (i.v.1 ≤ xs.length ∧ ¬ 16 < (xs.length : Int)) ∧ (i.v.2.length = 8 ∧ Good xs i.v.1) ∧ Ended xs i.v.2 i.v.1, μ := fun i => xs.length - i.v.1,
                  st := fun i => ⟨[(0, .view K3 xs), (9, .view K3 xs), (10, .int .i64 xs.length), (11, .int .i64 i.v.1), (3, .cel 0 0 0)], [some (.arr [.bool] i.v.2)]⟩ }
    | _ => none, ?_⟩
  repeat' (first | refine And.intro ?_ ?_ | (intro h; first | (exact absurd h (by decide)) | (guard_hyp h : true = true; clear h) | (guard_hyp h : false = false; clear h) | skip) | refine Exists.intro (⟨((by assumption : Lv 5 (Nat × List Row)).v.1 + 1, eStep (by assumption : Lv 5 (Nat × List Row)).v.2 (row xs (by assumption : Lv 5 (Nat × List Row)).v.1))⟩ : Lv 5 (Nat × List Row)) ?_ | refine Exists.intro (⟨(0, List.replicate 8 (zeroRow [.bool]))⟩ : Lv 5 (Nat × List Row)) ?_ | refine Exists.intro _ (Exists.intro _ (And.intro hrel ?_)) | exact rfl | exact True.intro | exact Or.inl rfl | exact Or.inr (And.intro rfl rfl) | exact Nat.le_of_ble_eq_true rfl | (apply Exists.intro; refine And.intro ?_ ?_))
  all_goals (try ((try (change _ = _)); (try dsimp only at *); (try simp only [decide_eq_true_eq, decide_eq_false_iff_not, Bool.not_eq_true', Bool.not_eq_false', Bool.and_eq_true, Bool.and_eq_false_iff, beq_iff_eq, bne_iff_ne, beq_eq_false_iff_ne, bne_eq_false_iff_eq, ne_eq, Decidable.not_not, Int.toNat_natCast, Nat.zero_add, Nat.reduceAdd, Nat.reduceMul, Nat.reduceDiv, Nat.mul_one, lenK_one, big, fill_len] at *); (repeat (rename _ ∧ _ => hh; obtain ⟨_, _⟩ := hh)); first | omega | (refine fits_i64 ?_; omega) | (split <;> omega) | exact va_row (i := (Lv.v (by assumption : Lv 5 (Nat × List Row))).1) (by omega) (by unfold okRow; omega) | exact ended_bad (n := (Lv.v (by assumption : Lv 5 (Nat × List Row))).1) (by omega) (by assumption) (by omega) (by omega) (by assumption) | exact good_zero _ | exact ended_zero _ | exact (eStep_len _ _).trans (by assumption) | exact ended_step (by assumption) (by omega) (by omega) | exact good_next (by assumption) (by unfold okRow; omega) (ended_free (by assumption) (by omega) (by omega) (by assumption)) | assumption | exact (if_pos (by omega)).symm | exact (if_neg (by omega)).symm | exact va_true (by assumption) (by assumption) (by assumption) (by assumption) | exact va_long (by omega)))

def cEqAct : Ct := ⟨[], fun ds K => match ds with
  | [.agg [.int .i64 a, .int .i64 b, .int .i64 c], .agg [.int .i64 d, .int .i64 e, .int .i64 f]] => K (.bool (decide (a = d ∧ b = e ∧ c = f))) []
  | _ => False⟩
set_option maxRecDepth 100000 in
set_option maxHeartbeats 1000000 in
theorem p_eqAct : Proved 38 cEqAct := by
  refine proved_of [] trivial [.tmp 4] Try.func38 rfl rfl rfl rfl (by kernel_rfl) ?_
  intro ds K hrel
  simp only [cEqAct] at hrel
  split at hrel
  case h_2 => exact hrel.elim
  refine ⟨rfl, Nat.le_of_ble_eq_true rfl, fun _ _ => none, ?_⟩
  repeat' (first | refine And.intro ?_ ?_ | (intro h; first | (exact absurd h (by decide)) | (guard_hyp h : true = true; clear h) | (guard_hyp h : false = false; clear h) | skip) | refine Exists.intro _ (Exists.intro _ (And.intro hrel ?_)) | exact rfl | exact True.intro | exact Or.inl rfl | exact Or.inr (And.intro rfl rfl) | exact Nat.le_of_ble_eq_true rfl | (apply Exists.intro; refine And.intro ?_ ?_))
  all_goals (try change _ = _)
  all_goals simp_all

structure Same (xs ys : List Row) (n : Nat) : Prop where
  h : ∀ i, i < n → nrm3 (row xs i) = nrm3 (row ys i)
theorem same_zero (xs ys : List Row) : Same xs ys 0 := ⟨fun i h => by omega⟩
theorem same_step {xs ys : List Row} {n : Nat} (h : Same xs ys n) (h1 : (rc (row xs n) 0).int = (rc (row ys n) 0).int) (h2 : (rc (row xs n) 1).int = (rc (row ys n) 1).int) (h3 : (rc (row xs n) 2).int = (rc (row ys n) 2).int) : Same xs ys (n + 1) := ⟨by
  intro i hi
  rcases Nat.lt_succ_iff_lt_or_eq.1 hi with h4 | rfl
  · exact h.h i h4
  · simp [nrm3, h1, h2, h3]⟩
theorem row_map {f : Row → Row} {xs : List Row} {i : Nat} (h : i < xs.length) : row (xs.map f) i = f (row xs i) := by
  unfold row
  rw [List.getD_eq_getElem?_getD, List.getD_eq_getElem?_getD, List.getElem?_map, List.getElem?_eq_getElem h]
  rfl
theorem same_all {xs ys : List Row} {n : Nat} (h : Same xs ys n) (hl : (xs.length : Int) = ys.length) (hn : n ≤ xs.length) (hn2 : ¬ (n : Int) < xs.length) : true = decide (xs.map nrm3 = ys.map nrm3) := by
  have : n = xs.length := by omega
  subst this
  symm; rw [decide_eq_true_eq]
  apply List.ext_getElem
  · simp; omega
  · intro i h1 h2
    have h1' : i < xs.length := by simpa using h1
    have h2' : i < ys.length := by simpa using h2
    have := h.h i h1'
    unfold row at this
    rw [List.getD_eq_getElem?_getD, List.getD_eq_getElem?_getD, List.getElem?_eq_getElem h1', List.getElem?_eq_getElem h2'] at this
    simpa using this
theorem same_len {xs ys : List Row} (hl : ¬ (xs.length : Int) = ys.length) : false = decide (xs.map nrm3 = ys.map nrm3) := by
  symm; rw [decide_eq_false_iff_not]
  intro he
  have := congrArg List.length he
  simp at this
  omega
theorem same_not {xs ys : List Row} {n : Nat} (hn : n < xs.length) (hl : (xs.length : Int) = ys.length) (h : ¬ ((rc (row xs n) 0).int = (rc (row ys n) 0).int ∧ (rc (row xs n) 1).int = (rc (row ys n) 1).int ∧ (rc (row xs n) 2).int = (rc (row ys n) 2).int)) :
    false = decide (xs.map nrm3 = ys.map nrm3) := by
  symm; rw [decide_eq_false_iff_not]
  intro he
  apply h
  have h1 : row (xs.map nrm3) n = row (ys.map nrm3) n := by rw [he]
  rw [row_map hn, row_map (by omega)] at h1
  simpa [nrm3] using h1

noncomputable def cEqActS : Ct := ⟨[], fun ds K => match ds with
  | [.view ks xs, .view js ys] => ks = K3 ∧ js = K3 ∧ (xs.length : Int) < big ∧ K (.bool (decide (xs.map nrm3 = ys.map nrm3))) []
  | _ => False⟩
set_option maxRecDepth 100000 in
set_option maxHeartbeats 4000000 in
theorem p_eqActS : Proved 13 cEqActS := by
  refine proved_of [(38, cEqAct)] ⟨p_eqAct, trivial⟩ [.tmp 4] Try.func13 rfl rfl rfl rfl (by kernel_rfl) ?_
  intro ds K hrel
  simp only [cEqActS] at hrel
  split at hrel
  case h_2 => exact hrel.elim
  rename_i ks xs js ys
  obtain ⟨rfl, rfl, h1, hrel⟩ := hrel
  refine ⟨rfl, Nat.le_of_ble_eq_true rfl, fun k σ => match k with
    | 4 => some { α := Lv 4 Nat, R := fun i => i.v ≤ xs.length ∧ (xs.length : Int) = ys.length ∧ Same xs ys i.v, μ := fun i => xs.length - i.v,
                  st := fun i => ⟨[(0, .view K3 xs), (1, .view K3 ys), (5, .int .i64 i.v)], []⟩ }
    | _ => none, ?_⟩
  repeat' (first | refine And.intro ?_ ?_ | (intro h; first | (exact absurd h (by decide)) | (guard_hyp h : true = true; clear h) | (guard_hyp h : false = false; clear h) | skip) | refine Exists.intro (⟨(by assumption : Lv 4 Nat).v + 1⟩ : Lv 4 Nat) ?_ | refine Exists.intro (⟨0⟩ : Lv 4 Nat) ?_ | refine Exists.intro _ (Exists.intro _ (And.intro hrel ?_)) | exact rfl | exact True.intro | exact Or.inl rfl | exact Or.inr (And.intro rfl rfl) | exact Nat.le_of_ble_eq_true rfl | (apply Exists.intro; refine And.intro ?_ ?_))
  all_goals (try ((try (change _ = _)); (try dsimp only at *); (try simp only [decide_eq_true_eq, decide_eq_false_iff_not, Bool.not_eq_true', Bool.not_eq_false', Bool.and_eq_true, Bool.and_eq_false_iff, beq_iff_eq, bne_iff_ne, beq_eq_false_iff_ne, bne_eq_false_iff_eq, ne_eq, Decidable.not_not, Int.toNat_natCast, Nat.zero_add, Nat.reduceAdd, Nat.reduceMul, Nat.reduceDiv, Nat.mul_one, lenK_one, big, fill_len] at *); (repeat (rename _ ∧ _ => hh; obtain ⟨_, _⟩ := hh)); first | omega | (refine fits_i64 ?_; omega) | (split <;> omega) | exact same_zero _ _ | exact same_step (by assumption) (by omega) (by omega) (by omega) | exact same_len (by assumption) | exact same_not (n := Lv.v (by assumption : Lv 4 Nat)) (by omega) (by assumption) (by assumption) | exact same_all (by assumption) (by assumption) (by assumption) (by assumption)))
end Go.Proofs.Ytamcolbbaaebiaa.V
