/-
  Items: their order, one by one and in lists.
-/
import Derived.Test.YtkjbgdhpeidocaaTa
set_option linter.unusedSimpArgs false
set_option linter.unusedVariables false
namespace Go.Proofs.Ytkjbgdhpeidocaa.V
open Go Go.RowKit
open Classical

def KInt : List Kd := [.int .i64]
def cInRange : Ct := ⟨[], fun ds K => match ds with
  | [.int .i64 n, .int .i64 lo, .int .i64 hi] => K (.bool (decide (lo ≤ n) && decide (n ≤ hi))) []
  | _ => False⟩
def okI (a b : Int) : Prop := (0 ≤ a ∧ a ≤ 999999) ∧ 0 ≤ b ∧ b ≤ 99
def lessI (a b c d : Int) : Prop := a < c ∨ (a = c ∧ b < d)
noncomputable def cValidI : Ct := ⟨[], fun ds K => match ds with
  | [.agg [.int .i64 a, .int .i64 b]] => K (.bool (decide (okI a b))) []
  | _ => False⟩
noncomputable def cLessI : Ct := ⟨[], fun ds K => match ds with
  | [.agg [.int .i64 a, .int .i64 b], .agg [.int .i64 c, .int .i64 e]] => K (.bool (decide (lessI a b c e))) []
  | _ => False⟩
def cmp1 (a b : Int) : Int := if a < b then -1 else if b < a then 1 else 0
def cCmp1 : Ct := ⟨[], fun ds K => match ds with
  | [.int .i64 a, .int .i64 b] => K (.int .i64 (cmp1 a b)) []
  | _ => False⟩
def cNaN : Ct := ⟨[], fun ds K => match ds with
  | [.int .i64 a] => K (.bool false) []
  | _ => False⟩
/-- The first number that is not zero. -/
def orv : List Row → Int
  | [] => 0
  | r :: xs => if (rc r 0).int = 0 then orv xs else (rc r 0).int
theorem orv_drop (xs : List Row) : ∀ i : Nat, i < xs.length → orv (xs.drop i) = if (rc (row xs i) 0).int = 0 then orv (xs.drop (i + 1)) else (rc (row xs i) 0).int := by
  intro i h
  rw [List.drop_eq_getElem_cons h]
  have : xs[i] = row xs i := by rw [row, List.getD_eq_getElem?_getD, List.getElem?_eq_getElem h]; rfl
  rw [this]; rfl
theorem orv_skip {xs : List Row} {i : Nat} (h : i < xs.length) (h0 : (rc (row xs i) 0).int = 0) (hi : orv (xs.drop i) = orv xs) : orv (xs.drop (i + 1)) = orv xs := by
  rw [← hi, orv_drop xs i h, if_pos h0]
theorem orv_stop {xs : List Row} {i : Nat} (h : i < xs.length) (h0 : ¬ (rc (row xs i) 0).int = 0) (hi : orv (xs.drop i) = orv xs) : (rc (row xs i) 0).int = orv xs := by
  rw [← hi, orv_drop xs i h, if_neg h0]
theorem orv_end {xs : List Row} {i : Nat} (h : ¬ (i : Int) < xs.length) (hi : orv (xs.drop i) = orv xs) : 0 = orv xs := by
  rw [← hi, List.drop_eq_nil_of_le (by omega)]; rfl
def cOr : Ct := ⟨[], fun ds K => match ds with
  | [.view ks xs] => ks = KInt ∧ (xs.length : Int) < big ∧ K (.int .i64 (orv xs)) []
  | _ => False⟩
def cmpI (a b c e : Int) : Int := orv [[.i (cmp1 a c)], [.i (cmp1 b e)]]
theorem cmpI_ge {a b c e : Int} : 0 ≤ cmpI a b c e ↔ ¬ lessI a b c e := by
  simp only [cmpI, orv, rc, List.getD_cons_zero, Sc.int_i, cmp1, lessI]
  split <;> (try split) <;> (try split) <;> (try split) <;> omega
def cCmpI : Ct := ⟨[], fun ds K => match ds with
  | [.agg [.int .i64 a, .int .i64 b], .agg [.int .i64 c, .int .i64 e]] => K (.int .i64 (cmpI a b c e)) []
  | _ => False⟩
/-- The first items of a list are possible and ascend. -/
structure OrdN (xs : List Row) (n : Int) : Prop where
  h : ∀ j : Int, 0 ≤ j → j < n → okI (rc (row xs j.toNat) 0).int (rc (row xs j.toNat) 1).int ∧ (0 < j → lessI (rc (row xs (j - 1).toNat) 0).int (rc (row xs (j - 1).toNat) 1).int (rc (row xs j.toNat) 0).int (rc (row xs j.toNat) 1).int)
theorem ord_zero (xs : List Row) : OrdN xs 0 := ⟨fun j h1 h2 => by omega⟩
theorem ord_step {xs : List Row} {i : Int} (h : OrdN xs i) (h1 : okI (rc (row xs i.toNat) 0).int (rc (row xs i.toNat) 1).int) (h2 : 0 < i → lessI (rc (row xs (i - 1).toNat) 0).int (rc (row xs (i - 1).toNat) 1).int (rc (row xs i.toNat) 0).int (rc (row xs i.toNat) 1).int) : OrdN xs (i + 1) := ⟨fun j h3 h4 => by
  by_cases e : j = i
  · subst e; exact ⟨h1, h2⟩
  · exact h.h j h3 (by omega)⟩
theorem ord_not1 {xs : List Row} {i : Int} (h0 : 0 ≤ i) (hi : i < xs.length) (h : ¬ okI (rc (row xs i.toNat) 0).int (rc (row xs i.toNat) 1).int) : ¬ OrdN xs xs.length := fun q => h (q.h i h0 hi).1
theorem ord_not2 {xs : List Row} {i : Int} (h0 : 0 < i) (hi : i < xs.length) (h : ¬ lessI (rc (row xs (i - 1).toNat) 0).int (rc (row xs (i - 1).toNat) 1).int (rc (row xs i.toNat) 0).int (rc (row xs i.toNat) 1).int) : ¬ OrdN xs xs.length := fun q => h ((q.h i (by omega) hi).2 h0)
theorem ord_all {xs : List Row} {i : Int} (h : OrdN xs i) (hi : ¬ i < xs.length) (hi2 : i ≤ xs.length) : OrdN xs xs.length := by
  rw [show (xs.length : Int) = i by omega]; exact h
/-- A list of possible items that ascend, not too many. -/
structure Ord (xs : List Row) : Prop where
  o : OrdN xs xs.length
  l : xs.length ≤ 30
theorem ord_no1 {xs : List Row} {i : Int} (h0 : 0 ≤ i) (hi : i < xs.length) (h : ¬ okI (rc (row xs i.toNat) 0).int (rc (row xs i.toNat) 1).int) : ¬ Ord xs := fun q => ord_not1 h0 hi h q.1
theorem ord_no2 {xs : List Row} {i : Int} (h0 : 0 < i) (hi : i < xs.length) (h : ¬ lessI (rc (row xs (i - 1).toNat) 0).int (rc (row xs (i - 1).toNat) 1).int (rc (row xs i.toNat) 0).int (rc (row xs i.toNat) 1).int) : ¬ Ord xs := fun q => ord_not2 h0 hi h q.1
noncomputable def cOrd : Ct := ⟨[], fun ds K => match ds with
  | [.view ks xs] => ks = KItem ∧ (xs.length : Int) < big ∧ K (.bool (decide (Ord xs))) []
  | _ => False⟩
noncomputable def cOrdN : Ct := ⟨[], fun ds K => match ds with
  | [.view ks xs] => ks = KItem ∧ (xs.length : Int) < big ∧ K (.bool (decide (OrdN xs xs.length))) []
  | _ => False⟩
theorem ord_yes {xs : List Row} {i : Int} (h : OrdN xs i) (hi : ¬ i < xs.length) (hi2 : i ≤ xs.length) : decide ((xs.length : Int) ≤ 30) = decide (Ord xs) := by
  refine decide_eq_decide.2 ⟨fun q => ⟨ord_all h hi hi2, by omega⟩, fun q => by have := q.2; omega⟩
set_option maxRecDepth 100000 in
set_option maxHeartbeats 4000000 in
theorem p_inRange : Proved 41 cInRange := by
  refine proved_of [] trivial [.tmp 6] Try.func41 rfl rfl rfl rfl (by kernel_rfl) ?_
  intro ds K hrel
  simp only [cInRange] at hrel
  split at hrel
  case h_2 => exact hrel.elim
  skip
  refine ⟨rfl, Nat.le_of_ble_eq_true rfl, fun _ _ => none, ?_⟩
  repeat' (first | with_reducible refine And.intro ?_ ?_ | (with_reducible intro h; first | (exact absurd h (by decide)) | (guard_hyp h : true = true; clear h) | (guard_hyp h : false = false; clear h) | skip) | with_reducible exact True.intro | ((with_reducible refine (id ?_ : @Eq Bool (nodupN _) true)); kernel_rfl) | ((with_reducible refine (id ?_ : @Eq Bool (apartN _ _) true)); kernel_rfl) | ((with_reducible refine (id ?_ : @Eq Bool (formL _ _) true)); kernel_rfl) | ((with_reducible refine (id ?_ : @Eq _ _ _)); exact rfl) | ((conv => whnf); first | done | with_reducible refine And.intro ?_ ?_ | (with_reducible intro h; first | (exact absurd h (by decide)) | (guard_hyp h : true = true; clear h) | (guard_hyp h : false = false; clear h) | skip) | with_reducible exact True.intro | ((with_reducible refine (id ?_ : @Eq _ _ _)); exact rfl) | refine Exists.intro _ (Exists.intro _ (And.intro hrel ?_)) | exact Or.inl rfl | exact Or.inr (And.intro rfl rfl) | (apply Exists.intro; refine And.intro ?_ ?_)) | exact Nat.le_of_ble_eq_true rfl)
  all_goals (conv => whnf)
  all_goals simp [*]
set_option maxRecDepth 100000 in
set_option maxHeartbeats 4000000 in
theorem p_validItem : Proved 44 cValidI := by
  refine proved_of [(41, cInRange)] ⟨p_inRange, trivial⟩ [.tmp 2] Try.func44 rfl rfl rfl rfl (by kernel_rfl) ?_
  intro ds K hrel
  simp only [cValidI] at hrel
  split at hrel
  case h_2 => exact hrel.elim
  skip
  refine ⟨rfl, Nat.le_of_ble_eq_true rfl, fun _ _ => none, ?_⟩
  repeat' (first | with_reducible refine And.intro ?_ ?_ | (with_reducible intro h; first | (exact absurd h (by decide)) | (guard_hyp h : true = true; clear h) | (guard_hyp h : false = false; clear h) | skip) | with_reducible exact True.intro | ((with_reducible refine (id ?_ : @Eq Bool (nodupN _) true)); kernel_rfl) | ((with_reducible refine (id ?_ : @Eq Bool (apartN _ _) true)); kernel_rfl) | ((with_reducible refine (id ?_ : @Eq Bool (formL _ _) true)); kernel_rfl) | ((with_reducible refine (id ?_ : @Eq _ _ _)); exact rfl) | ((conv => whnf); first | done | with_reducible refine And.intro ?_ ?_ | (with_reducible intro h; first | (exact absurd h (by decide)) | (guard_hyp h : true = true; clear h) | (guard_hyp h : false = false; clear h) | skip) | with_reducible exact True.intro | ((with_reducible refine (id ?_ : @Eq _ _ _)); exact rfl) | refine Exists.intro _ (Exists.intro _ (And.intro hrel ?_)) | exact Or.inl rfl | exact Or.inr (And.intro rfl rfl) | (apply Exists.intro; refine And.intro ?_ ?_)) | exact Nat.le_of_ble_eq_true rfl)
  all_goals (try change _ = _)
  all_goals (unfold okI; simp_all)
  all_goals omega
set_option maxRecDepth 100000 in
set_option maxHeartbeats 4000000 in
theorem p_valid : Proved 46 cValidI := by
  refine proved_of [] trivial [.tmp 2] Try.func46 rfl rfl rfl rfl (by kernel_rfl) ?_
  intro ds K hrel
  simp only [cValidI] at hrel
  split at hrel
  case h_2 => exact hrel.elim
  skip
  refine ⟨rfl, Nat.le_of_ble_eq_true rfl, fun _ _ => none, ?_⟩
  repeat' (first | with_reducible refine And.intro ?_ ?_ | (with_reducible intro h; first | (exact absurd h (by decide)) | (guard_hyp h : true = true; clear h) | (guard_hyp h : false = false; clear h) | skip) | with_reducible exact True.intro | ((with_reducible refine (id ?_ : @Eq Bool (nodupN _) true)); kernel_rfl) | ((with_reducible refine (id ?_ : @Eq Bool (apartN _ _) true)); kernel_rfl) | ((with_reducible refine (id ?_ : @Eq Bool (formL _ _) true)); kernel_rfl) | ((with_reducible refine (id ?_ : @Eq _ _ _)); exact rfl) | ((conv => whnf); first | done | with_reducible refine And.intro ?_ ?_ | (with_reducible intro h; first | (exact absurd h (by decide)) | (guard_hyp h : true = true; clear h) | (guard_hyp h : false = false; clear h) | skip) | with_reducible exact True.intro | ((with_reducible refine (id ?_ : @Eq _ _ _)); exact rfl) | refine Exists.intro _ (Exists.intro _ (And.intro hrel ?_)) | exact Or.inl rfl | exact Or.inr (And.intro rfl rfl) | (apply Exists.intro; refine And.intro ?_ ?_)) | exact Nat.le_of_ble_eq_true rfl)
  all_goals (try change _ = _)
  all_goals (unfold okI; simp_all)
  all_goals omega
set_option maxRecDepth 100000 in
set_option maxHeartbeats 4000000 in
theorem p_lessItem : Proved 45 cLessI := by
  refine proved_of [] trivial [.tmp 4] Try.func45 rfl rfl rfl rfl (by kernel_rfl) ?_
  intro ds K hrel
  simp only [cLessI] at hrel
  split at hrel
  case h_2 => exact hrel.elim
  skip
  refine ⟨rfl, Nat.le_of_ble_eq_true rfl, fun _ _ => none, ?_⟩
  repeat' (first | with_reducible refine And.intro ?_ ?_ | (with_reducible intro h; first | (exact absurd h (by decide)) | (guard_hyp h : true = true; clear h) | (guard_hyp h : false = false; clear h) | skip) | with_reducible exact True.intro | ((with_reducible refine (id ?_ : @Eq Bool (nodupN _) true)); kernel_rfl) | ((with_reducible refine (id ?_ : @Eq Bool (apartN _ _) true)); kernel_rfl) | ((with_reducible refine (id ?_ : @Eq Bool (formL _ _) true)); kernel_rfl) | ((with_reducible refine (id ?_ : @Eq _ _ _)); exact rfl) | ((conv => whnf); first | done | with_reducible refine And.intro ?_ ?_ | (with_reducible intro h; first | (exact absurd h (by decide)) | (guard_hyp h : true = true; clear h) | (guard_hyp h : false = false; clear h) | skip) | with_reducible exact True.intro | ((with_reducible refine (id ?_ : @Eq _ _ _)); exact rfl) | refine Exists.intro _ (Exists.intro _ (And.intro hrel ?_)) | exact Or.inl rfl | exact Or.inr (And.intro rfl rfl) | (apply Exists.intro; refine And.intro ?_ ?_)) | exact Nat.le_of_ble_eq_true rfl)
  all_goals (try change _ = _)
  all_goals (unfold lessI; simp_all)
set_option maxRecDepth 100000 in
set_option maxHeartbeats 4000000 in
theorem p_isNaN : Proved 57 cNaN := by
  refine proved_of [] trivial [.tmp 2] Try.func57 rfl rfl rfl rfl (by kernel_rfl) ?_
  intro ds K hrel
  simp only [cNaN] at hrel
  split at hrel
  case h_2 => exact hrel.elim
  skip
  refine ⟨rfl, Nat.le_of_ble_eq_true rfl, fun _ _ => none, ?_⟩
  repeat' (first | with_reducible refine And.intro ?_ ?_ | (with_reducible intro h; first | (exact absurd h (by decide)) | (guard_hyp h : true = true; clear h) | (guard_hyp h : false = false; clear h) | skip) | with_reducible exact True.intro | ((with_reducible refine (id ?_ : @Eq Bool (nodupN _) true)); kernel_rfl) | ((with_reducible refine (id ?_ : @Eq Bool (apartN _ _) true)); kernel_rfl) | ((with_reducible refine (id ?_ : @Eq Bool (formL _ _) true)); kernel_rfl) | ((with_reducible refine (id ?_ : @Eq _ _ _)); exact rfl) | ((conv => whnf); first | done | with_reducible refine And.intro ?_ ?_ | (with_reducible intro h; first | (exact absurd h (by decide)) | (guard_hyp h : true = true; clear h) | (guard_hyp h : false = false; clear h) | skip) | with_reducible exact True.intro | ((with_reducible refine (id ?_ : @Eq _ _ _)); exact rfl) | refine Exists.intro _ (Exists.intro _ (And.intro hrel ?_)) | exact Or.inl rfl | exact Or.inr (And.intro rfl rfl) | (apply Exists.intro; refine And.intro ?_ ?_)) | exact Nat.le_of_ble_eq_true rfl)
  all_goals (try change _ = _)
  all_goals simp_all
set_option maxRecDepth 100000 in
set_option maxHeartbeats 4000000 in
theorem p_compare : Proved 52 cCmp1 := by
  refine proved_of [(57, cNaN)] ⟨p_isNaN, trivial⟩ [.tmp 4] Try.func52 rfl rfl rfl rfl (by kernel_rfl) ?_
  intro ds K hrel
  simp only [cCmp1] at hrel
  split at hrel
  case h_2 => exact hrel.elim
  skip
  refine ⟨rfl, Nat.le_of_ble_eq_true rfl, fun _ _ => none, ?_⟩
  repeat' (first | with_reducible refine And.intro ?_ ?_ | (with_reducible intro h; first | (exact absurd h (by decide)) | (guard_hyp h : true = true; clear h) | (guard_hyp h : false = false; clear h) | skip) | with_reducible exact True.intro | ((with_reducible refine (id ?_ : @Eq Bool (nodupN _) true)); kernel_rfl) | ((with_reducible refine (id ?_ : @Eq Bool (apartN _ _) true)); kernel_rfl) | ((with_reducible refine (id ?_ : @Eq Bool (formL _ _) true)); kernel_rfl) | ((with_reducible refine (id ?_ : @Eq _ _ _)); exact rfl) | ((conv => whnf); first | done | with_reducible refine And.intro ?_ ?_ | (with_reducible intro h; first | (exact absurd h (by decide)) | (guard_hyp h : true = true; clear h) | (guard_hyp h : false = false; clear h) | skip) | with_reducible exact True.intro | ((with_reducible refine (id ?_ : @Eq _ _ _)); exact rfl) | refine Exists.intro _ (Exists.intro _ (And.intro hrel ?_)) | exact Or.inl rfl | exact Or.inr (And.intro rfl rfl) | (apply Exists.intro; refine And.intro ?_ ?_)) | exact Nat.le_of_ble_eq_true rfl)
  all_goals (try change _ = _)
  all_goals (unfold cmp1; simp_all)
  all_goals ((try split) <;> (try split) <;> omega)
set_option maxRecDepth 100000 in
set_option maxHeartbeats 4000000 in
theorem p_or : Proved 51 cOr := by
  refine proved_of [] trivial [.tmp 2] Try.func51 rfl rfl rfl rfl (by kernel_rfl) ?_
  intro ds K hrel
  simp only [cOr] at hrel
  split at hrel
  case h_2 => exact hrel.elim
  rename_i ks xs
  obtain ⟨rfl, h1, hrel⟩ := hrel
  refine ⟨rfl, Nat.le_of_ble_eq_true rfl, fun k σ => match k with
    | 3 => some { α := Lv 3 Nat, R := fun i => i.v ≤ xs.length ∧ orv (xs.drop i.v) = orv xs, μ := fun i => xs.length - i.v, st := fun i => up σ [(8, .int .i64 i.v)] }
    | _ => none, ?_⟩
  repeat' (first | with_reducible refine And.intro ?_ ?_ | (with_reducible intro h; first | (exact absurd h (by decide)) | (guard_hyp h : true = true; clear h) | (guard_hyp h : false = false; clear h) | skip) | with_reducible exact True.intro | ((with_reducible refine (id ?_ : @Eq Bool (nodupN _) true)); kernel_rfl) | ((with_reducible refine (id ?_ : @Eq Bool (apartN _ _) true)); kernel_rfl) | ((with_reducible refine (id ?_ : @Eq Bool (formL _ _) true)); kernel_rfl) | ((with_reducible refine (id ?_ : @Eq _ _ _)); exact rfl) | ((conv => whnf); first | done | with_reducible refine And.intro ?_ ?_ | (with_reducible intro h; first | (exact absurd h (by decide)) | (guard_hyp h : true = true; clear h) | (guard_hyp h : false = false; clear h) | skip) | with_reducible exact True.intro | ((with_reducible refine (id ?_ : @Eq _ _ _)); exact rfl) | refine Exists.intro (⟨(by with_reducible assumption : Lv 3 Nat).v + 1⟩ : Lv 3 Nat) ?_ | refine Exists.intro (⟨0⟩ : Lv 3 Nat) ?_ | refine Exists.intro _ (Exists.intro _ (And.intro hrel ?_)) | exact Or.inl rfl | exact Or.inr (And.intro rfl rfl) | (apply Exists.intro; refine And.intro ?_ ?_)) | exact Nat.le_of_ble_eq_true rfl)
  all_goals (try ((try (change _ = _)) <;> (try dsimp only at *) <;> (try simp only [decide_eq_true_eq, decide_eq_false_iff_not, Bool.not_eq_true', Bool.not_eq_false', Bool.and_eq_true, Bool.and_eq_false_iff, beq_iff_eq, bne_iff_ne, beq_eq_false_iff_ne, bne_eq_false_iff_eq, ne_eq, Decidable.not_not, bne_self_eq_false, Bool.false_eq_true, Bool.true_eq_false, Bool.not_true, Bool.not_false, not_true_eq_false, not_false_eq_true, Int.toNat_natCast, Nat.zero_add, Nat.reduceAdd, Nat.reduceMul, Nat.reduceDiv, Nat.mul_one, lenK_one, big, fill_len, marking_len, marks_len, nrms_len, List.length_set, List.length_append, List.length_map, List.length_replicate, List.length_cons, List.length_nil, Int.natCast_add, Int.natCast_one, Int.natCast_zero] at *) <;> (repeat (with_reducible rename _ ∧ _ => hh; obtain ⟨_, _⟩ := hh)) <;> (first | omega | (refine fits_i64 ?_; omega) | (split <;> omega) | exact orv_skip (by omega) (by with_reducible assumption) (by with_reducible assumption) | exact orv_stop (by omega) (by with_reducible assumption) (by with_reducible assumption) | (with_reducible exact orv_end (by with_reducible assumption) (by with_reducible assumption)) | (rw [List.drop_zero]))))
/-- The orders of regions that draw. -/
def trCmp : Nat → Option (Bool × Tr)
  | 1 => some (true, .take 0 (.take 1 (.take 2 (.take 3 (.take 5 (.take 6 (.take 7 (.take 8 (.all (.cons 4 (.all (.cons 9 (.all (.cons 10 (.all (.cons 11 (.take 12 .done) .nil)) .nil)) .nil)) .nil))))))))))
  | _ => none
set_option maxRecDepth 100000 in
set_option maxHeartbeats 4000000 in
theorem p_cmpItems : Proved 47 cCmpI := by
  refine proved_tr trCmp [(52, cCmp1), (51, cOr)] ⟨p_compare, p_or, trivial⟩ [.tmp 4] Try.func47 rfl rfl rfl rfl (by kernel_rfl) ?_
  intro ds K hrel
  simp only [cCmpI] at hrel
  split at hrel
  case h_2 => exact hrel.elim
  skip
  refine ⟨rfl, Nat.le_of_ble_eq_true rfl, fun _ _ => none, ?_⟩
  repeat' (first | with_reducible refine And.intro ?_ ?_ | (with_reducible intro h; first | (exact absurd h (by decide)) | (guard_hyp h : true = true; clear h) | (guard_hyp h : false = false; clear h) | skip) | with_reducible exact True.intro | ((with_reducible refine (id ?_ : @Eq Bool (nodupN _) true)); kernel_rfl) | ((with_reducible refine (id ?_ : @Eq Bool (apartN _ _) true)); kernel_rfl) | ((with_reducible refine (id ?_ : @Eq Bool (formL _ _) true)); kernel_rfl) | ((with_reducible refine (id ?_ : @Eq _ _ _)); exact rfl) | ((conv => whnf); first | done | with_reducible refine And.intro ?_ ?_ | (with_reducible intro h; first | (exact absurd h (by decide)) | (guard_hyp h : true = true; clear h) | (guard_hyp h : false = false; clear h) | skip) | with_reducible exact True.intro | ((with_reducible refine (id ?_ : @Eq _ _ _)); exact rfl) | refine Exists.intro _ (Exists.intro _ (And.intro hrel ?_)) | exact Or.inl rfl | exact Or.inr (And.intro rfl rfl) | (apply Exists.intro; refine And.intro ?_ ?_)) | exact Nat.le_of_ble_eq_true rfl)
  all_goals (try ((try (change _ = _)) <;> (try dsimp only at *) <;> (try simp only [decide_eq_true_eq, decide_eq_false_iff_not, Bool.not_eq_true', Bool.not_eq_false', Bool.and_eq_true, Bool.and_eq_false_iff, beq_iff_eq, bne_iff_ne, beq_eq_false_iff_ne, bne_eq_false_iff_eq, ne_eq, Decidable.not_not, bne_self_eq_false, Bool.false_eq_true, Bool.true_eq_false, Bool.not_true, Bool.not_false, not_true_eq_false, not_false_eq_true, Int.toNat_natCast, Nat.zero_add, Nat.reduceAdd, Nat.reduceMul, Nat.reduceDiv, Nat.mul_one, lenK_one, big, fill_len, marking_len, marks_len, nrms_len, List.length_set, List.length_append, List.length_map, List.length_replicate, List.length_cons, List.length_nil, Int.natCast_add, Int.natCast_one, Int.natCast_zero] at *) <;> (repeat (with_reducible rename _ ∧ _ => hh; obtain ⟨_, _⟩ := hh)) <;> (first | omega | (refine fits_i64 ?_; omega) | (split <;> omega))))
set_option maxRecDepth 100000 in
set_option maxHeartbeats 4000000 in
theorem p_validItems : Proved 28 cOrd := by
  refine proved_of [(44, cValidI), (45, cLessI)] ⟨p_validItem, p_lessItem, trivial⟩ [.tmp 2] Try.func28 rfl rfl rfl rfl (by kernel_rfl) ?_
  intro ds K hrel
  simp only [cOrd] at hrel
  split at hrel
  case h_2 => exact hrel.elim
  rename_i ks xs
  obtain ⟨rfl, h1, hrel⟩ := hrel
  refine ⟨rfl, Nat.le_of_ble_eq_true rfl, fun k σ => match k with
    | 2 => some { α := Lv 2 Int, R := fun ⟨i⟩ => (0 ≤ i ∧ i ≤ xs.length) ∧ OrdN xs i, μ := fun ⟨i⟩ => (xs.length - i).toNat, st := fun ⟨i⟩ => up σ [(3, .int .i64 i)] }
    | _ => none, ?_⟩
  repeat' (first | with_reducible refine And.intro ?_ ?_ | (with_reducible intro h; first | (exact absurd h (by decide)) | (guard_hyp h : true = true; clear h) | (guard_hyp h : false = false; clear h) | (have hq := (h : Lv 2 _); clear hq; obtain ⟨_⟩ := h) | skip) | with_reducible exact True.intro | ((with_reducible refine (id ?_ : @Eq Bool (nodupN _) true)); kernel_rfl) | ((with_reducible refine (id ?_ : @Eq Bool (apartN _ _) true)); kernel_rfl) | ((with_reducible refine (id ?_ : @Eq Bool (formL _ _) true)); kernel_rfl) | ((with_reducible refine (id ?_ : @Eq _ _ _)); exact rfl) | ((conv => whnf); first | done | with_reducible refine And.intro ?_ ?_ | (with_reducible intro h; first | (exact absurd h (by decide)) | (guard_hyp h : true = true; clear h) | (guard_hyp h : false = false; clear h) | (have hq := (h : Lv 2 _); clear hq; obtain ⟨_⟩ := h) | skip) | with_reducible exact True.intro | ((with_reducible refine (id ?_ : @Eq _ _ _)); exact rfl) | refine Exists.intro (⟨?_⟩ : Lv 2 _) ?_ | refine Exists.intro _ (Exists.intro _ (And.intro hrel ?_)) | exact Or.inl rfl | exact Or.inr (And.intro rfl rfl) | (apply Exists.intro; refine And.intro ?_ ?_)) | exact Nat.le_of_ble_eq_true rfl)
  all_goals (try ((try (change _ = _)) <;> (try dsimp only at *) <;> (try simp only [decide_eq_true_eq, decide_eq_false_iff_not, Bool.not_eq_true', Bool.not_eq_false', Bool.and_eq_true, Bool.and_eq_false_iff, beq_iff_eq, bne_iff_ne, beq_eq_false_iff_ne, bne_eq_false_iff_eq, ne_eq, Decidable.not_not, bne_self_eq_false, Bool.false_eq_true, Bool.true_eq_false, Bool.not_true, Bool.not_false, not_true_eq_false, not_false_eq_true, Int.toNat_natCast, Nat.zero_add, Nat.reduceAdd, Nat.reduceMul, Nat.reduceDiv, Nat.mul_one, lenK_one, big, fill_len, marking_len, marks_len, nrms_len, List.length_set, List.length_append, List.length_map, List.length_replicate, List.length_cons, List.length_nil, Int.natCast_add, Int.natCast_one, Int.natCast_zero] at *) <;> (repeat (with_reducible rename _ ∧ _ => hh; obtain ⟨_, _⟩ := hh)) <;> (first | omega | (refine fits_i64 ?_; omega) | (split <;> omega) | (with_reducible exact ord_zero _) | exact ord_step (by with_reducible assumption) (by with_reducible assumption) (fun _ => (by with_reducible assumption)) | exact ord_step (by with_reducible assumption) (by with_reducible assumption) (fun _ => (by omega)) | (with_reducible exact false_eq (ord_not1 (by omega) (by omega) (by with_reducible assumption))) | (with_reducible exact false_eq (ord_not2 (by omega) (by omega) (by with_reducible assumption))) | (with_reducible exact ord_yes (by with_reducible assumption) (by omega) (by omega)) | (with_reducible exact false_eq (ord_no1 (by omega) (by omega) (by with_reducible assumption))) | (with_reducible exact false_eq (ord_no2 (by omega) (by omega) (by with_reducible assumption))) | exact ord_step (by with_reducible assumption) (by with_reducible assumption) (fun _ => (by with_reducible assumption)))))
set_option maxRecDepth 100000 in
set_option maxHeartbeats 4000000 in
theorem p_inOrder : Proved 30 cOrdN := by
  refine proved_of [(46, cValidI), (47, cCmpI)] ⟨p_valid, p_cmpItems, trivial⟩ [.tmp 2] Try.func30 rfl rfl rfl rfl (by kernel_rfl) ?_
  intro ds K hrel
  simp only [cOrdN] at hrel
  split at hrel
  case h_2 => exact hrel.elim
  rename_i ks xs
  obtain ⟨rfl, h1, hrel⟩ := hrel
  refine ⟨rfl, Nat.le_of_ble_eq_true rfl, fun k σ => match k with
    | 2 => some { α := Lv 2 Int, R := fun ⟨i⟩ => (0 ≤ i ∧ i ≤ xs.length) ∧ OrdN xs i, μ := fun ⟨i⟩ => (xs.length - i).toNat, st := fun ⟨i⟩ => up σ [(7, .int .i64 i)] }
    | _ => none, ?_⟩
  repeat' (first | with_reducible refine And.intro ?_ ?_ | (with_reducible intro h; first | (exact absurd h (by decide)) | (guard_hyp h : true = true; clear h) | (guard_hyp h : false = false; clear h) | (have hq := (h : Lv 2 _); clear hq; obtain ⟨_⟩ := h) | skip) | with_reducible exact True.intro | ((with_reducible refine (id ?_ : @Eq Bool (nodupN _) true)); kernel_rfl) | ((with_reducible refine (id ?_ : @Eq Bool (apartN _ _) true)); kernel_rfl) | ((with_reducible refine (id ?_ : @Eq Bool (formL _ _) true)); kernel_rfl) | ((with_reducible refine (id ?_ : @Eq _ _ _)); exact rfl) | ((conv => whnf); first | done | with_reducible refine And.intro ?_ ?_ | (with_reducible intro h; first | (exact absurd h (by decide)) | (guard_hyp h : true = true; clear h) | (guard_hyp h : false = false; clear h) | (have hq := (h : Lv 2 _); clear hq; obtain ⟨_⟩ := h) | skip) | with_reducible exact True.intro | ((with_reducible refine (id ?_ : @Eq _ _ _)); exact rfl) | refine Exists.intro (⟨?_⟩ : Lv 2 _) ?_ | refine Exists.intro _ (Exists.intro _ (And.intro hrel ?_)) | exact Or.inl rfl | exact Or.inr (And.intro rfl rfl) | (apply Exists.intro; refine And.intro ?_ ?_)) | exact Nat.le_of_ble_eq_true rfl)
  all_goals (try ((try (change _ = _)) <;> (try dsimp only at *) <;> (try simp only [decide_eq_true_eq, decide_eq_false_iff_not, Bool.not_eq_true', Bool.not_eq_false', Bool.and_eq_true, Bool.and_eq_false_iff, beq_iff_eq, bne_iff_ne, beq_eq_false_iff_ne, bne_eq_false_iff_eq, ne_eq, Decidable.not_not, bne_self_eq_false, Bool.false_eq_true, Bool.true_eq_false, Bool.not_true, Bool.not_false, not_true_eq_false, not_false_eq_true, Int.toNat_natCast, Nat.zero_add, Nat.reduceAdd, Nat.reduceMul, Nat.reduceDiv, Nat.mul_one, lenK_one, big, fill_len, marking_len, marks_len, nrms_len, List.length_set, List.length_append, List.length_map, List.length_replicate, List.length_cons, List.length_nil, Int.natCast_add, Int.natCast_one, Int.natCast_zero] at *) <;> (repeat (with_reducible rename _ ∧ _ => hh; obtain ⟨_, _⟩ := hh)) <;> (first | omega | (refine fits_i64 ?_; omega) | (split <;> omega) | (with_reducible exact ord_zero _) | exact ord_step (by with_reducible assumption) (by with_reducible assumption) (fun _ => (by with_reducible assumption)) | exact ord_step (by with_reducible assumption) (by with_reducible assumption) (fun _ => (by omega)) | (with_reducible exact false_eq (ord_not1 (by omega) (by omega) (by with_reducible assumption))) | (with_reducible exact false_eq (ord_not2 (by omega) (by omega) (by with_reducible assumption))) | exact ord_step (by with_reducible assumption) (by with_reducible assumption) (fun _ => Classical.not_not.1 (fun q => absurd (cmpI_ge.2 q) (by omega))) | (with_reducible exact false_eq (ord_not2 (by omega) (by omega) (cmpI_ge.1 (by omega)))) | (with_reducible exact true_eq (ord_all (by with_reducible assumption) (by omega) (by omega))))))
end Go.Proofs.Ytkjbgdhpeidocaa.V
