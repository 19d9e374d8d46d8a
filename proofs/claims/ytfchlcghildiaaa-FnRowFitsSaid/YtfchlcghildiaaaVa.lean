/-
  Values, columns, formats: which ones are valid; which rows fit.
-/
import Derived.Test.YtfchlcghildiaaaFi
import Derived.Test.YtfchlcghildiaaaTyBuff
set_option linter.unusedSimpArgs false
set_option linter.unusedVariables false
namespace Go.Proofs.Ytfchlcghildiaaa.V
open Go Go.RowKit
open Classical

def cToColumn : Ct := ⟨[], fun ds K => match ds with
  | [.agg [.int .i64 x0, .int .i64 x1, .int .i64 x2, .str x3]] => K (.agg [.int .i64 x0, .int .i64 x1, .int .i64 x2, .str x3]) []
  | _ => False⟩
set_option maxRecDepth 100000 in
set_option maxHeartbeats 4000000 in
theorem p_toColumn : Proved 48 cToColumn := by
  refine proved_of [(56, cToValue)] ⟨p_toValue, trivial⟩ [.cell 2 55] Try.func48 rfl rfl rfl rfl (by kernel_rfl) ?_
  intro ds K hrel
  simp only [cToColumn] at hrel
  split at hrel
  case h_2 => exact hrel.elim
  refine ⟨rfl, Nat.le_of_ble_eq_true rfl, fun _ _ => none, ?_⟩
  repeat' (first | refine And.intro ?_ ?_ | (intro h; first | (exact absurd h (by decide)) | (guard_hyp h : true = true; clear h) | (guard_hyp h : false = false; clear h) | skip) | refine Exists.intro _ (Exists.intro _ (And.intro hrel ?_)) | exact rfl | exact True.intro | exact Or.inl rfl | exact Or.inr (And.intro rfl rfl) | exact Nat.le_of_ble_eq_true rfl | (apply Exists.intro; refine And.intro ?_ ?_))

set_option maxRecDepth 100000 in
set_option maxHeartbeats 4000000 in
theorem p_toColumnS : Proved 27 (cTo 55 KColumn) := by
  refine proved_of [(48, cToColumn)] ⟨p_toColumn, trivial⟩ [.tmp 2] Try.func27 rfl rfl rfl rfl (by kernel_rfl) ?_
  intro ds K hrel
  simp only [cTo] at hrel
  split at hrel
  case h_2 => exact hrel.elim
  rename_i ks xs
  obtain ⟨rfl, h1, hrel⟩ := hrel
  refine ⟨rfl, Nat.le_of_ble_eq_true rfl, fun k σ => match k with
    | 3 => some { α := Lv 3 Nat, R := fun i => i.v ≤ xs.length, μ := fun i => xs.length - i.v,
                  st := fun i => upH σ [(4, .int .i64 i.v)] 0 (.rows 55 KColumn (fill (nrm KColumn) (zeroRow KColumn) xs i.v)) }
    | _ => none, ?_⟩
  repeat' (first | refine And.intro ?_ ?_ | (intro h; first | (exact absurd h (by decide)) | (guard_hyp h : true = true; clear h) | (guard_hyp h : false = false; clear h) | skip) | refine Exists.intro (⟨(by assumption : Lv 3 Nat).v + 1⟩ : Lv 3 Nat) ?_ | refine Exists.intro (⟨0⟩ : Lv 3 Nat) ?_ | refine Exists.intro _ (Exists.intro _ (And.intro hrel ?_)) | exact rfl | exact True.intro | exact Or.inl rfl | exact Or.inr (And.intro rfl rfl) | exact Nat.le_of_ble_eq_true rfl | (apply Exists.intro; refine And.intro ?_ ?_))
  all_goals (try ((try (change _ = _)) <;> (try dsimp only at *) <;> (try simp only [decide_eq_true_eq, decide_eq_false_iff_not, Bool.not_eq_true', Bool.not_eq_false', Bool.and_eq_true, Bool.and_eq_false_iff, beq_iff_eq, bne_iff_ne, beq_eq_false_iff_ne, bne_eq_false_iff_eq, ne_eq, Decidable.not_not, bne_self_eq_false, Bool.false_eq_true, Bool.true_eq_false, Bool.not_true, Bool.not_false, not_true_eq_false, not_false_eq_true, Int.toNat_natCast, Nat.zero_add, Nat.reduceAdd, Nat.reduceMul, Nat.reduceDiv, Nat.mul_one, lenK_one, big, fill_len, marking_len, marks_len, nrms_len, List.length_set, List.length_append, List.length_map, List.length_replicate, List.length_cons, List.length_nil, Int.natCast_add, Int.natCast_one, Int.natCast_zero] at *) <;> (repeat (with_reducible rename _ ∧ _ => hh; obtain ⟨_, _⟩ := hh)) <;> (first | omega | (refine fits_i64 ?_; omega) | (split <;> omega) | exact fill_step (by omega) (by rintro _ rfl; rfl) rfl | exact fill_end (by omega) (by omega) | exact fill_zero _ _ _)))

noncomputable def cEqColumn : Ct := ⟨[], fun ds K => match ds with
  | [.agg [.int .i64 x0, .int .i64 x1, .int .i64 x2, .str x3], .agg [.int .i64 y0, .int .i64 y1, .int .i64 y2, .str y3]] => K (.bool (decide (x0 = y0 ∧ x1 = y1 ∧ x2 = y2 ∧ x3 = y3))) []
  | _ => False⟩
set_option maxRecDepth 100000 in
set_option maxHeartbeats 4000000 in
theorem p_eqColumn : Proved 50 cEqColumn := by
  refine proved_of [(57, cEqValue)] ⟨p_eqValue, trivial⟩ [.tmp 4] Try.func50 rfl rfl rfl rfl (by kernel_rfl) ?_
  intro ds K hrel
  simp only [cEqColumn] at hrel
  split at hrel
  case h_2 => exact hrel.elim
  refine ⟨rfl, Nat.le_of_ble_eq_true rfl, fun _ _ => none, ?_⟩
  repeat' (first | refine And.intro ?_ ?_ | (intro h; first | (exact absurd h (by decide)) | (guard_hyp h : true = true; clear h) | (guard_hyp h : false = false; clear h) | skip) | refine Exists.intro _ (Exists.intro _ (And.intro hrel ?_)) | exact rfl | exact True.intro | exact Or.inl rfl | exact Or.inr (And.intro rfl rfl) | exact Nat.le_of_ble_eq_true rfl | (apply Exists.intro; refine And.intro ?_ ?_))
  all_goals (try change _ = _)
  all_goals (first | (simp_all; done) | (simp_all; rintro a b c; simp_all))

set_option maxRecDepth 100000 in
set_option maxHeartbeats 4000000 in
theorem p_eqColumnS : Proved 29 (cEq KColumn) := by
  refine proved_of [(50, cEqColumn)] ⟨p_eqColumn, trivial⟩ [.tmp 4] Try.func29 rfl rfl rfl rfl (by kernel_rfl) ?_
  intro ds K hrel
  simp only [cEq] at hrel
  split at hrel
  case h_2 => exact hrel.elim
  rename_i ks xs js ys
  obtain ⟨rfl, rfl, h1, hrel⟩ := hrel
  refine ⟨rfl, Nat.le_of_ble_eq_true rfl, fun k σ => match k with
    | 4 => some { α := Lv 4 Nat, R := fun i => i.v ≤ xs.length ∧ (xs.length : Int) = ys.length ∧ Same KColumn xs ys i.v, μ := fun i => xs.length - i.v,
                  st := fun i => up σ [(5, .int .i64 i.v)] }
    | _ => none, ?_⟩
  repeat' (first | refine And.intro ?_ ?_ | (intro h; first | (exact absurd h (by decide)) | (guard_hyp h : true = true; clear h) | (guard_hyp h : false = false; clear h) | skip) | refine Exists.intro (⟨(by assumption : Lv 4 Nat).v + 1⟩ : Lv 4 Nat) ?_ | refine Exists.intro (⟨0⟩ : Lv 4 Nat) ?_ | refine Exists.intro _ (Exists.intro _ (And.intro hrel ?_)) | exact rfl | exact True.intro | exact Or.inl rfl | exact Or.inr (And.intro rfl rfl) | exact Nat.le_of_ble_eq_true rfl | (apply Exists.intro; refine And.intro ?_ ?_))
  all_goals (try ((try (change _ = _)) <;> (try dsimp only at *) <;> (try simp only [decide_eq_true_eq, decide_eq_false_iff_not, Bool.not_eq_true', Bool.not_eq_false', Bool.and_eq_true, Bool.and_eq_false_iff, beq_iff_eq, bne_iff_ne, beq_eq_false_iff_ne, bne_eq_false_iff_eq, ne_eq, Decidable.not_not, bne_self_eq_false, Bool.false_eq_true, Bool.true_eq_false, Bool.not_true, Bool.not_false, not_true_eq_false, not_false_eq_true, Int.toNat_natCast, Nat.zero_add, Nat.reduceAdd, Nat.reduceMul, Nat.reduceDiv, Nat.mul_one, lenK_one, big, fill_len, marking_len, marks_len, nrms_len, List.length_set, List.length_append, List.length_map, List.length_replicate, List.length_cons, List.length_nil, Int.natCast_add, Int.natCast_one, Int.natCast_zero] at *) <;> (repeat (with_reducible rename _ ∧ _ => hh; obtain ⟨_, _⟩ := hh)) <;> (first | omega | (refine fits_i64 ?_; omega) | (split <;> omega) | exact same_zero _ _ _ | exact same_step (by assumption) (by simp only [KColumn, nrm, nrmK]; simp [*]) | exact same_len (by assumption) | exact same_not (n := Lv.v (by assumption : Lv 4 Nat)) (by omega) (by assumption) (by simp only [KColumn, nrm, nrmK]; simp_all) | exact same_all (by assumption) (by assumption) (by assumption) (by assumption))))


/-- The strings of a column are not too long to be counted. -/
structure SL (c : Nat) (xs : List Row) : Prop where
  h : ∀ i : Nat, (rc (row xs i) c).str.length ≤ 9223372036854775807
theorem sl_nrms {ks : List Kd} {c : Nat} {xs : List Row} (hk : getK ks c = some .str) (h : SL c xs) : SL c (nrms ks xs) := ⟨fun i => by
  by_cases hi : i < xs.length
  · rw [row_nrms hi]
    have e := nrmK_get ks (row xs i) 0 c .str hk
    simp only [Kd.av, AV.str.injEq, Nat.zero_add] at e
    show (rc (nrmK ks (row xs i) 0) c).str.length ≤ _
    rw [e]; exact h.h i
  · have e : row (nrms ks xs) i = [] := by
      unfold row
      rw [List.getD_eq_getElem?_getD, List.getElem?_eq_none (by rw [nrms_len]; omega)]
      rfl
    rw [e]; simp [rc, Sc.str]⟩
theorem sl_of {ks : List Kd} {c : Nat} {xs : List Row} (hk : getK ks c = some .str) (h : ∀ i, i < xs.length → RowOk ks (row xs i)) : SL c xs := ⟨fun i => by
  by_cases hi : i < xs.length
  · exact (h i hi).h c .str hk
  · have e : row xs i = [] := by
      unfold row
      rw [List.getD_eq_getElem?_getD, List.getElem?_eq_none (by omega)]
      rfl
    rw [e]; simp [rc, Sc.str]⟩
def cSzValue : Ct := ⟨[], fun ds K => match ds with
  | [.agg [.int .i64 x0, .int .i64 x1, .str x2], .int .i64 n] => (x2.length ≤ 9223372036854775807 ∧ 0 ≤ n ∧ n < big) ∧ K (.int .i64 (if n < x2.length then -1 else n - x2.length)) []
  | _ => False⟩
set_option maxRecDepth 100000 in
set_option maxHeartbeats 4000000 in
theorem p_szValue : Proved 55 cSzValue := by
  refine proved_of [] trivial [.tmp 4] Try.func55 rfl rfl rfl rfl (by kernel_rfl) ?_
  intro ds K hrel
  simp only [cSzValue] at hrel
  split at hrel
  case h_2 => exact hrel.elim
  obtain ⟨⟨h1, h2, h3⟩, hrel⟩ := hrel
  refine ⟨rfl, Nat.le_of_ble_eq_true rfl, fun _ _ => none, ?_⟩
  repeat' (first | refine And.intro ?_ ?_ | (intro h; first | (exact absurd h (by decide)) | (guard_hyp h : true = true; clear h) | (guard_hyp h : false = false; clear h) | skip) | refine Exists.intro _ (Exists.intro _ (And.intro hrel ?_)) | exact rfl | exact True.intro | exact Or.inl rfl | exact Or.inr (And.intro rfl rfl) | exact Nat.le_of_ble_eq_true rfl | (apply Exists.intro; refine And.intro ?_ ?_))
  all_goals (try ((try (change _ = _)) <;> (try dsimp only at *) <;> (try simp only [decide_eq_true_eq, decide_eq_false_iff_not, Bool.not_eq_true', Bool.not_eq_false', Bool.and_eq_true, Bool.and_eq_false_iff, beq_iff_eq, bne_iff_ne, beq_eq_false_iff_ne, bne_eq_false_iff_eq, ne_eq, Decidable.not_not, bne_self_eq_false, Bool.false_eq_true, Bool.true_eq_false, Bool.not_true, Bool.not_false, not_true_eq_false, not_false_eq_true, Int.toNat_natCast, Nat.zero_add, Nat.reduceAdd, Nat.reduceMul, Nat.reduceDiv, Nat.mul_one, lenK_one, big, fill_len, marking_len, marks_len, nrms_len, List.length_set, List.length_append, List.length_map, List.length_replicate, List.length_cons, List.length_nil, Int.natCast_add, Int.natCast_one, Int.natCast_zero] at *) <;> (repeat (with_reducible rename _ ∧ _ => hh; obtain ⟨_, _⟩ := hh)) <;> (first | omega | (refine fits_i64 ?_; omega) | (split <;> omega) | (split <;> split <;> omega))))
def cSzColumn : Ct := ⟨[], fun ds K => match ds with
  | [.agg [.int .i64 x0, .int .i64 x1, .int .i64 x2, .str x3], .int .i64 n] => (x3.length ≤ 9223372036854775807 ∧ 0 ≤ n ∧ n < big) ∧ K (.int .i64 (if n < x3.length then -1 else n - x3.length)) []
  | _ => False⟩
set_option maxRecDepth 100000 in
set_option maxHeartbeats 4000000 in
theorem p_szColumn : Proved 46 cSzColumn := by
  refine proved_of [(55, cSzValue)] ⟨p_szValue, trivial⟩ [.tmp 4] Try.func46 rfl rfl rfl rfl (by kernel_rfl) ?_
  intro ds K hrel
  simp only [cSzColumn] at hrel
  split at hrel
  case h_2 => exact hrel.elim
  obtain ⟨⟨h1, h2, h3⟩, hrel⟩ := hrel
  refine ⟨rfl, Nat.le_of_ble_eq_true rfl, fun _ _ => none, ?_⟩
  repeat' (first | refine And.intro ?_ ?_ | (intro h; first | (exact absurd h (by decide)) | (guard_hyp h : true = true; clear h) | (guard_hyp h : false = false; clear h) | skip) | refine Exists.intro _ (Exists.intro _ (And.intro hrel ?_)) | exact rfl | exact True.intro | exact Or.inl rfl | exact Or.inr (And.intro rfl rfl) | exact Nat.le_of_ble_eq_true rfl | (apply Exists.intro; refine And.intro ?_ ?_))
  all_goals (try ((try (change _ = _)) <;> (try dsimp only at *) <;> (try simp only [decide_eq_true_eq, decide_eq_false_iff_not, Bool.not_eq_true', Bool.not_eq_false', Bool.and_eq_true, Bool.and_eq_false_iff, beq_iff_eq, bne_iff_ne, beq_eq_false_iff_ne, bne_eq_false_iff_eq, ne_eq, Decidable.not_not, bne_self_eq_false, Bool.false_eq_true, Bool.true_eq_false, Bool.not_true, Bool.not_false, not_true_eq_false, not_false_eq_true, Int.toNat_natCast, Nat.zero_add, Nat.reduceAdd, Nat.reduceMul, Nat.reduceDiv, Nat.mul_one, lenK_one, big, fill_len, marking_len, marks_len, nrms_len, List.length_set, List.length_append, List.length_map, List.length_replicate, List.length_cons, List.length_nil, Int.natCast_add, Int.natCast_one, Int.natCast_zero] at *) <;> (repeat (with_reducible rename _ ∧ _ => hh; obtain ⟨_, _⟩ := hh)) <;> (first | omega | (refine fits_i64 ?_; omega) | (split <;> omega) | (split <;> split <;> omega))))
/-- How much is left behind a slice: no more than before, and if any, then the slice is not longer. -/
def cSzS (ks : List Kd) (c : Nat) : Ct := ⟨[], fun ds K => match ds with
  | [.view js xs, .int .i64 n] => js = ks ∧ ((xs.length : Int) < big ∧ 0 ≤ n ∧ n < big) ∧ SL c xs ∧ ∀ q : Int, (0 ≤ q → (xs.length : Int) ≤ n) → (-1 ≤ q ∧ q ≤ n) → K (.int .i64 q) []
  | _ => False⟩
set_option maxRecDepth 100000 in
set_option maxHeartbeats 4000000 in
theorem p_szColumnS : Proved 25 (cSzS KColumn 3) := by
  refine proved_of [(46, cSzColumn)] ⟨p_szColumn, trivial⟩ [.tmp 4] Try.func25 rfl rfl rfl rfl (by kernel_rfl) ?_
  intro ds K hrel
  simp only [cSzS] at hrel
  split at hrel
  case h_2 => exact hrel.elim
  rename_i js xs n
  obtain ⟨rfl, ⟨h1, h2, h3⟩, hs, hrel⟩ := hrel
  have hsl := hs.h
  refine ⟨rfl, Nat.le_of_ble_eq_true rfl, fun k σ => match k with
    | 5 => some { α := Lv 5 (Int × Int), R := fun ⟨(i, l)⟩ => (0 ≤ i ∧ i ≤ xs.length ∧ 0 ≤ l ∧ l + xs.length ≤ n) ∧ True, μ := fun ⟨(i, _)⟩ => (xs.length - i).toNat, st := fun ⟨(i, l)⟩ => up σ [(5, .int .i64 i), (1, .int .i64 l)] }
    | _ => none, ?_⟩
  repeat' (first | refine And.intro ?_ ?_ | (intro h; first | (exact absurd h (by decide)) | (guard_hyp h : true = true; clear h) | (guard_hyp h : false = false; clear h) | (have hq := (h : Lv 5 _); clear hq; obtain ⟨_, _⟩ := h) | skip) | (refine Exists.intro _ (Exists.intro _ (And.intro (hrel ?_ ?_ ?_) ?_))) | refine Exists.intro (⟨(?_, ?_)⟩ : Lv 5 _) ?_ | refine Exists.intro _ (Exists.intro _ (And.intro hrel ?_)) | exact rfl | exact True.intro | exact Or.inl rfl | exact Or.inr (And.intro rfl rfl) | exact Nat.le_of_ble_eq_true rfl | (apply Exists.intro; refine And.intro ?_ ?_))
  all_goals (try ((try (change _ = _)) <;> (try dsimp only at *) <;> (try simp only [decide_eq_true_eq, decide_eq_false_iff_not, Bool.not_eq_true', Bool.not_eq_false', Bool.and_eq_true, Bool.and_eq_false_iff, beq_iff_eq, bne_iff_ne, beq_eq_false_iff_ne, bne_eq_false_iff_eq, ne_eq, Decidable.not_not, bne_self_eq_false, Bool.false_eq_true, Bool.true_eq_false, Bool.not_true, Bool.not_false, not_true_eq_false, not_false_eq_true, Int.toNat_natCast, Nat.zero_add, Nat.reduceAdd, Nat.reduceMul, Nat.reduceDiv, Nat.mul_one, lenK_one, big, fill_len, marking_len, marks_len, nrms_len, List.length_set, List.length_append, List.length_map, List.length_replicate, List.length_cons, List.length_nil, Int.natCast_add, Int.natCast_one, Int.natCast_zero] at *) <;> (repeat (with_reducible rename _ ∧ _ => hh; obtain ⟨_, _⟩ := hh)) <;> (first | omega | (refine fits_i64 ?_; omega) | (split <;> omega) | exact hs.h _ | (intro _; omega) | (intro _; split at * <;> omega) | (split at * <;> omega) | trivial)))
set_option maxRecDepth 100000 in
set_option maxHeartbeats 4000000 in
theorem p_szValueS : Proved 34 (cSzS KValue 2) := by
  refine proved_of [(55, cSzValue)] ⟨p_szValue, trivial⟩ [.tmp 4] Try.func34 rfl rfl rfl rfl (by kernel_rfl) ?_
  intro ds K hrel
  simp only [cSzS] at hrel
  split at hrel
  case h_2 => exact hrel.elim
  rename_i js xs n
  obtain ⟨rfl, ⟨h1, h2, h3⟩, hs, hrel⟩ := hrel
  have hsl := hs.h
  refine ⟨rfl, Nat.le_of_ble_eq_true rfl, fun k σ => match k with
    | 5 => some { α := Lv 5 (Int × Int), R := fun ⟨(i, l)⟩ => (0 ≤ i ∧ i ≤ xs.length ∧ 0 ≤ l ∧ l + xs.length ≤ n) ∧ True, μ := fun ⟨(i, _)⟩ => (xs.length - i).toNat, st := fun ⟨(i, l)⟩ => up σ [(5, .int .i64 i), (1, .int .i64 l)] }
    | _ => none, ?_⟩
  repeat' (first | refine And.intro ?_ ?_ | (intro h; first | (exact absurd h (by decide)) | (guard_hyp h : true = true; clear h) | (guard_hyp h : false = false; clear h) | (have hq := (h : Lv 5 _); clear hq; obtain ⟨_, _⟩ := h) | skip) | (refine Exists.intro _ (Exists.intro _ (And.intro (hrel ?_ ?_ ?_) ?_))) | refine Exists.intro (⟨(?_, ?_)⟩ : Lv 5 _) ?_ | refine Exists.intro _ (Exists.intro _ (And.intro hrel ?_)) | exact rfl | exact True.intro | exact Or.inl rfl | exact Or.inr (And.intro rfl rfl) | exact Nat.le_of_ble_eq_true rfl | (apply Exists.intro; refine And.intro ?_ ?_))
  all_goals (try ((try (change _ = _)) <;> (try dsimp only at *) <;> (try simp only [decide_eq_true_eq, decide_eq_false_iff_not, Bool.not_eq_true', Bool.not_eq_false', Bool.and_eq_true, Bool.and_eq_false_iff, beq_iff_eq, bne_iff_ne, beq_eq_false_iff_ne, bne_eq_false_iff_eq, ne_eq, Decidable.not_not, bne_self_eq_false, Bool.false_eq_true, Bool.true_eq_false, Bool.not_true, Bool.not_false, not_true_eq_false, not_false_eq_true, Int.toNat_natCast, Nat.zero_add, Nat.reduceAdd, Nat.reduceMul, Nat.reduceDiv, Nat.mul_one, lenK_one, big, fill_len, marking_len, marks_len, nrms_len, List.length_set, List.length_append, List.length_map, List.length_replicate, List.length_cons, List.length_nil, Int.natCast_add, Int.natCast_one, Int.natCast_zero] at *) <;> (repeat (with_reducible rename _ ∧ _ => hh; obtain ⟨_, _⟩ := hh)) <;> (first | omega | (refine fits_i64 ?_; omega) | (split <;> omega) | exact hs.h _ | (intro _; omega) | (intro _; split at * <;> omega) | (split at * <;> omega) | trivial)))

theorem byteAt_rng (l : List UInt8) (i : Nat) : 0 ≤ byteAt l i ∧ byteAt l i ≤ 255 := by
  unfold byteAt
  have := (l.getD i 0).toNat_lt
  omega
theorem fits_byteAt (l : List UInt8) (i : Nat) : Fits .i64 (byteAt l i) := by
  have := byteAt_rng l i
  exact fits_i64 (by omega)
/-- The first n bytes are printable. -/
structure TxN (l : List UInt8) (n : Int) : Prop where
  h : ∀ j : Nat, (j : Int) < n → 32 ≤ byteAt l j ∧ byteAt l j ≤ 126
theorem txN_zero (l : List UInt8) : TxN l 0 := ⟨fun j h => by omega⟩
theorem txN_step {l : List UInt8} {i : Int} (h : TxN l i) (h1 : 32 ≤ byteAt l i.toNat ∧ byteAt l i.toNat ≤ 126) : TxN l (i + 1) := ⟨fun j hj => by
  by_cases e : (j : Int) = i
  · subst e; exact h1
  · exact h.h j (by omega)⟩
/-- A valid text. -/
structure VT (l : List UInt8) : Prop where
  n : l.length ≤ 12
  a : TxN l l.length
theorem vt_bad {l : List UInt8} {i : Int} (_ : TxN l i) (h0 : 0 ≤ i) (hi : i < l.length) (h : ¬ (32 ≤ byteAt l i.toNat ∧ byteAt l i.toNat ≤ 126)) : false = decide (VT l) := false_eq (fun v => h (v.a.h i.toNat (by omega)))
theorem vt_long {l : List UInt8} (h : 12 < (l.length : Int)) : false = decide (VT l) := false_eq (fun v => by have := v.n; omega)
theorem vt_yes {l : List UInt8} {i : Int} (h : TxN l i) (hi : ¬ i < l.length) (hl : ¬ 12 < (l.length : Int)) : true = decide (VT l) := true_eq ⟨by omega, ⟨fun j hj => h.h j (by omega)⟩⟩
theorem vt_pick {l : List UInt8} {i : Int} (h : TxN l i) (hi : ¬ i < l.length) : decide ((l.length : Int) ≤ 12) = decide (VT l) := by
  rw [decide_eq_decide]; exact ⟨fun q => ⟨by omega, ⟨fun j hj => h.h j (by omega)⟩⟩, fun v => by have := v.n; omega⟩
noncomputable def cVT : Ct := ⟨[], fun ds K => match ds with
  | [.str l] => l.length ≤ 9223372036854775807 ∧ K (.bool (decide (VT l))) []
  | _ => False⟩
set_option maxRecDepth 100000 in
set_option maxHeartbeats 4000000 in
theorem p_sVT : Proved 78 cVT := by
  refine proved_of [(58, cInRange)] ⟨p_inRange, trivial⟩ [.tmp 2] Try.func78 rfl rfl rfl rfl (by kernel_rfl) ?_
  intro ds K hrel
  simp only [cVT] at hrel
  split at hrel
  case h_2 => exact hrel.elim
  rename_i l
  obtain ⟨h1, hrel⟩ := hrel
  refine ⟨rfl, Nat.le_of_ble_eq_true rfl, fun k σ => match k with
    | 2 => some { α := Lv 2 Int, R := fun ⟨i⟩ => (0 ≤ i ∧ i ≤ l.length) ∧ TxN l i, μ := fun ⟨i⟩ => (l.length - i).toNat, st := fun ⟨i⟩ => up σ [(3, .int .i64 i)] }
    | _ => none, ?_⟩
  repeat' (first | refine And.intro ?_ ?_ | (intro h; first | (exact absurd h (by decide)) | (guard_hyp h : true = true; clear h) | (guard_hyp h : false = false; clear h) | (have hq := (h : Lv 2 _); clear hq; obtain ⟨_⟩ := h) | skip) | refine Exists.intro (⟨?_⟩ : Lv 2 _) ?_ | refine Exists.intro _ (Exists.intro _ (And.intro hrel ?_)) | exact rfl | exact True.intro | exact Or.inl rfl | exact Or.inr (And.intro rfl rfl) | exact Nat.le_of_ble_eq_true rfl | (apply Exists.intro; refine And.intro ?_ ?_))
  all_goals (try ((try (change _ = _)) <;> (try dsimp only at *) <;> (try simp only [decide_eq_true_eq, decide_eq_false_iff_not, Bool.not_eq_true', Bool.not_eq_false', Bool.and_eq_true, Bool.and_eq_false_iff, beq_iff_eq, bne_iff_ne, beq_eq_false_iff_ne, bne_eq_false_iff_eq, ne_eq, Decidable.not_not, bne_self_eq_false, Bool.false_eq_true, Bool.true_eq_false, Bool.not_true, Bool.not_false, not_true_eq_false, not_false_eq_true, Int.toNat_natCast, Nat.zero_add, Nat.reduceAdd, Nat.reduceMul, Nat.reduceDiv, Nat.mul_one, lenK_one, big, fill_len, marking_len, marks_len, nrms_len, List.length_set, List.length_append, List.length_map, List.length_replicate, List.length_cons, List.length_nil, Int.natCast_add, Int.natCast_one, Int.natCast_zero] at *) <;> (repeat (with_reducible rename _ ∧ _ => hh; obtain ⟨_, _⟩ := hh)) <;> (first | omega | (refine fits_i64 ?_; omega) | (split <;> omega) | exact txN_zero _ | exact txN_step (by with_reducible assumption) (by omega) | exact fits_byteAt _ _ | exact vt_bad (by with_reducible assumption) (by omega) (by omega) (by omega) | exact vt_long (by omega) | exact vt_yes (by with_reducible assumption) (by omega) (by omega) | exact vt_pick (by with_reducible assumption) (by omega))))
set_option maxRecDepth 100000 in
set_option maxHeartbeats 4000000 in
theorem p_iVT : Proved 70 cVT := by
  refine proved_of [] trivial [.tmp 2] Try.func70 rfl rfl rfl rfl (by kernel_rfl) ?_
  intro ds K hrel
  simp only [cVT] at hrel
  split at hrel
  case h_2 => exact hrel.elim
  rename_i l
  obtain ⟨h1, hrel⟩ := hrel
  refine ⟨rfl, Nat.le_of_ble_eq_true rfl, fun k σ => match k with
    | 4 => some { α := Lv 4 Int, R := fun ⟨i⟩ => (0 ≤ i ∧ i ≤ l.length ∧ ¬ 12 < (l.length : Int)) ∧ TxN l i, μ := fun ⟨i⟩ => (l.length - i).toNat, st := fun ⟨i⟩ => up σ [(3, .int .i64 i)] }
    | _ => none, ?_⟩
  repeat' (first | refine And.intro ?_ ?_ | (intro h; first | (exact absurd h (by decide)) | (guard_hyp h : true = true; clear h) | (guard_hyp h : false = false; clear h) | (have hq := (h : Lv 4 _); clear hq; obtain ⟨_⟩ := h) | skip) | refine Exists.intro (⟨?_⟩ : Lv 4 _) ?_ | refine Exists.intro _ (Exists.intro _ (And.intro hrel ?_)) | exact rfl | exact True.intro | exact Or.inl rfl | exact Or.inr (And.intro rfl rfl) | exact Nat.le_of_ble_eq_true rfl | (apply Exists.intro; refine And.intro ?_ ?_))
  all_goals (try ((try (change _ = _)) <;> (try dsimp only at *) <;> (try simp only [decide_eq_true_eq, decide_eq_false_iff_not, Bool.not_eq_true', Bool.not_eq_false', Bool.and_eq_true, Bool.and_eq_false_iff, beq_iff_eq, bne_iff_ne, beq_eq_false_iff_ne, bne_eq_false_iff_eq, ne_eq, Decidable.not_not, bne_self_eq_false, Bool.false_eq_true, Bool.true_eq_false, Bool.not_true, Bool.not_false, not_true_eq_false, not_false_eq_true, Int.toNat_natCast, Nat.zero_add, Nat.reduceAdd, Nat.reduceMul, Nat.reduceDiv, Nat.mul_one, lenK_one, big, fill_len, marking_len, marks_len, nrms_len, List.length_set, List.length_append, List.length_map, List.length_replicate, List.length_cons, List.length_nil, Int.natCast_add, Int.natCast_one, Int.natCast_zero] at *) <;> (repeat (with_reducible rename _ ∧ _ => hh; obtain ⟨_, _⟩ := hh)) <;> (first | omega | (refine fits_i64 ?_; omega) | (split <;> omega) | exact txN_zero _ | exact txN_step (by with_reducible assumption) (by omega) | exact fits_byteAt _ _ | exact vt_bad (by with_reducible assumption) (by omega) (by omega) (by omega) | exact vt_long (by omega) | exact vt_yes (by with_reducible assumption) (by omega) (by omega) | exact vt_pick (by with_reducible assumption) (by omega))))

/-- A valid value. -/
def VV (k n : Int) (l : List UInt8) : Prop := (k = 0 ∧ n = 0 ∧ l = []) ∨ (k = 1 ∧ (-999999 ≤ n ∧ n ≤ 999999) ∧ l = []) ∨ (k = 2 ∧ n = 0 ∧ VT l)
theorem beq_dec (l : List UInt8) {p : Prop} [Decidable p] (h : p ↔ l = []) : (l == []) = decide p := by
  by_cases hl : l = []
  · subst hl; rw [← true_eq (h.2 rfl)]; rfl
  · rw [← false_eq (fun q => hl (h.1 q))]; simpa using hl
theorem vv0 {k n : Int} {l : List UInt8} (hk : k = 0) (hn : n = 0) : (l == []) = decide (VV k n l) := beq_dec l (by unfold VV; simp [hk, hn])
theorem vv1 {k n : Int} {l : List UInt8} (hk : k = 1) (hn : -999999 ≤ n ∧ n ≤ 999999) : (l == []) = decide (VV k n l) := beq_dec l (by unfold VV; simp [hk, hn])
theorem vv2 {k n : Int} {l : List UInt8} (hk : k = 2) (hn : n = 0) : decide (VT l) = decide (VV k n l) := by rw [decide_eq_decide]; unfold VV; simp [hk, hn]
theorem vvn {k n : Int} {l : List UInt8} (h : ¬ ((k = 0 ∧ n = 0) ∨ (k = 1 ∧ -999999 ≤ n ∧ n ≤ 999999) ∨ (k = 2 ∧ n = 0))) : false = decide (VV k n l) := false_eq (fun v => h (by
  rcases v with ⟨a, b, _⟩ | ⟨a, b, _⟩ | ⟨a, b, _⟩
  · exact .inl ⟨a, b⟩
  · exact .inr (.inl ⟨a, b⟩)
  · exact .inr (.inr ⟨a, b⟩)))
noncomputable def cVV : Ct := ⟨[], fun ds K => match ds with
  | [.agg [.int .i64 k, .int .i64 n, .str l]] => l.length ≤ 9223372036854775807 ∧ K (.bool (decide (VV k n l))) []
  | _ => False⟩
set_option maxRecDepth 100000 in
set_option maxHeartbeats 4000000 in
theorem p_sVV : Proved 75 cVV := by
  refine proved_of [(58, cInRange), (78, cVT)] ⟨p_inRange, p_sVT, trivial⟩ [.tmp 2] Try.func75 rfl rfl rfl rfl (by kernel_rfl) ?_
  intro ds K hrel
  simp only [cVV] at hrel
  split at hrel
  case h_2 => exact hrel.elim
  obtain ⟨h1, hrel⟩ := hrel
  refine ⟨rfl, Nat.le_of_ble_eq_true rfl, fun _ _ => none, ?_⟩
  repeat' (first | refine And.intro ?_ ?_ | (intro h; first | (exact absurd h (by decide)) | (guard_hyp h : true = true; clear h) | (guard_hyp h : false = false; clear h) | skip) | refine Exists.intro _ (Exists.intro _ (And.intro hrel ?_)) | exact rfl | exact True.intro | exact Or.inl rfl | exact Or.inr (And.intro rfl rfl) | exact Nat.le_of_ble_eq_true rfl | (apply Exists.intro; refine And.intro ?_ ?_))
  all_goals (try ((try (change _ = _)) <;> (try dsimp only at *) <;> (try simp only [decide_eq_true_eq, decide_eq_false_iff_not, Bool.not_eq_true', Bool.not_eq_false', Bool.and_eq_true, Bool.and_eq_false_iff, beq_iff_eq, bne_iff_ne, beq_eq_false_iff_ne, bne_eq_false_iff_eq, ne_eq, Decidable.not_not, bne_self_eq_false, Bool.false_eq_true, Bool.true_eq_false, Bool.not_true, Bool.not_false, not_true_eq_false, not_false_eq_true, Int.toNat_natCast, Nat.zero_add, Nat.reduceAdd, Nat.reduceMul, Nat.reduceDiv, Nat.mul_one, lenK_one, big, fill_len, marking_len, marks_len, nrms_len, List.length_set, List.length_append, List.length_map, List.length_replicate, List.length_cons, List.length_nil, Int.natCast_add, Int.natCast_one, Int.natCast_zero] at *) <;> (repeat (with_reducible rename _ ∧ _ => hh; obtain ⟨_, _⟩ := hh)) <;> (first | omega | (refine fits_i64 ?_; omega) | (split <;> omega) | exact vv0 (by omega) (by omega) | exact vv1 (by omega) (by omega) | exact vv2 (by omega) (by omega) | exact vvn (by omega))))
set_option maxRecDepth 100000 in
set_option maxHeartbeats 4000000 in
theorem p_iVV : Proved 52 cVV := by
  refine proved_of [(70, cVT)] ⟨p_iVT, trivial⟩ [.tmp 2] Try.func52 rfl rfl rfl rfl (by kernel_rfl) ?_
  intro ds K hrel
  simp only [cVV] at hrel
  split at hrel
  case h_2 => exact hrel.elim
  obtain ⟨h1, hrel⟩ := hrel
  refine ⟨rfl, Nat.le_of_ble_eq_true rfl, fun _ _ => none, ?_⟩
  repeat' (first | refine And.intro ?_ ?_ | (intro h; first | (exact absurd h (by decide)) | (guard_hyp h : true = true; clear h) | (guard_hyp h : false = false; clear h) | skip) | refine Exists.intro _ (Exists.intro _ (And.intro hrel ?_)) | exact rfl | exact True.intro | exact Or.inl rfl | exact Or.inr (And.intro rfl rfl) | exact Nat.le_of_ble_eq_true rfl | (apply Exists.intro; refine And.intro ?_ ?_))
  all_goals (try ((try (change _ = _)) <;> (try dsimp only at *) <;> (try simp only [decide_eq_true_eq, decide_eq_false_iff_not, Bool.not_eq_true', Bool.not_eq_false', Bool.and_eq_true, Bool.and_eq_false_iff, beq_iff_eq, bne_iff_ne, beq_eq_false_iff_ne, bne_eq_false_iff_eq, ne_eq, Decidable.not_not, bne_self_eq_false, Bool.false_eq_true, Bool.true_eq_false, Bool.not_true, Bool.not_false, not_true_eq_false, not_false_eq_true, Int.toNat_natCast, Nat.zero_add, Nat.reduceAdd, Nat.reduceMul, Nat.reduceDiv, Nat.mul_one, lenK_one, big, fill_len, marking_len, marks_len, nrms_len, List.length_set, List.length_append, List.length_map, List.length_replicate, List.length_cons, List.length_nil, Int.natCast_add, Int.natCast_one, Int.natCast_zero] at *) <;> (repeat (with_reducible rename _ ∧ _ => hh; obtain ⟨_, _⟩ := hh)) <;> (first | omega | (refine fits_i64 ?_; omega) | (split <;> omega) | exact vv0 (by omega) (by omega) | exact vv1 (by omega) (by omega) | exact vv2 (by omega) (by omega) | exact vvn (by omega))))

/-- A valid column. -/
structure VC (c k n : Int) (l : List UInt8) : Prop where
  c1 : 1 ≤ c
  c2 : c ≤ 2
  v : VV k n l
  d : k = 0 ∨ k = c
theorem vc_no1 {c k n : Int} {l : List UInt8} (h : ¬ (1 ≤ c ∧ c ≤ 2)) : false = decide (VC c k n l) := false_eq (fun v => h ⟨v.c1, v.c2⟩)
theorem vc_no2 {c k n : Int} {l : List UInt8} (h : ¬ VV k n l) : false = decide (VC c k n l) := false_eq (fun v => h v.v)
theorem vc_yes {c k n : Int} {l : List UInt8} (h : VV k n l) (hc : 1 ≤ c ∧ c ≤ 2) (hd : k = 0 ∨ k = c) : true = decide (VC c k n l) := true_eq ⟨hc.1, hc.2, h, hd⟩
theorem vc_p1 {c k n : Int} {l : List UInt8} (h : VV k n l) (hc : 1 ≤ c ∧ c ≤ 2) (hd : ¬ k = 0) : (k == c) = decide (VC c k n l) := by
  by_cases e : k = c
  · rw [← vc_yes h hc (.inr e)]; simpa using e
  · rw [← false_eq (p := VC c k n l) (fun v => v.d.elim hd e)]; simpa using e
theorem vc_p2 {c k n : Int} {l : List UInt8} (h : VV k n l) (hc : 1 ≤ c ∧ c ≤ 2) (hd : ¬ k = c) : (k == 0) = decide (VC c k n l) := by
  by_cases e : k = 0
  · rw [← vc_yes h hc (.inl e)]; simpa using e
  · rw [← false_eq (p := VC c k n l) (fun v => v.d.elim e hd)]; simpa using e
noncomputable def cVC : Ct := ⟨[], fun ds K => match ds with
  | [.agg [.int .i64 c, .int .i64 k, .int .i64 n, .str l]] => l.length ≤ 9223372036854775807 ∧ K (.bool (decide (VC c k n l))) []
  | _ => False⟩
set_option maxRecDepth 100000 in
set_option maxHeartbeats 4000000 in
theorem p_sVC : Proved 66 cVC := by
  refine proved_of [(58, cInRange), (75, cVV)] ⟨p_inRange, p_sVV, trivial⟩ [.tmp 2] Try.func66 rfl rfl rfl rfl (by kernel_rfl) ?_
  intro ds K hrel
  simp only [cVC] at hrel
  split at hrel
  case h_2 => exact hrel.elim
  obtain ⟨h1, hrel⟩ := hrel
  refine ⟨rfl, Nat.le_of_ble_eq_true rfl, fun _ _ => none, ?_⟩
  repeat' (first | refine And.intro ?_ ?_ | (intro h; first | (exact absurd h (by decide)) | (guard_hyp h : true = true; clear h) | (guard_hyp h : false = false; clear h) | skip) | refine Exists.intro _ (Exists.intro _ (And.intro hrel ?_)) | exact rfl | exact True.intro | exact Or.inl rfl | exact Or.inr (And.intro rfl rfl) | exact Nat.le_of_ble_eq_true rfl | (apply Exists.intro; refine And.intro ?_ ?_))
  all_goals (try ((try (change _ = _)) <;> (try dsimp only at *) <;> (try simp only [decide_eq_true_eq, decide_eq_false_iff_not, Bool.not_eq_true', Bool.not_eq_false', Bool.and_eq_true, Bool.and_eq_false_iff, beq_iff_eq, bne_iff_ne, beq_eq_false_iff_ne, bne_eq_false_iff_eq, ne_eq, Decidable.not_not, bne_self_eq_false, Bool.false_eq_true, Bool.true_eq_false, Bool.not_true, Bool.not_false, not_true_eq_false, not_false_eq_true, Int.toNat_natCast, Nat.zero_add, Nat.reduceAdd, Nat.reduceMul, Nat.reduceDiv, Nat.mul_one, lenK_one, big, fill_len, marking_len, marks_len, nrms_len, List.length_set, List.length_append, List.length_map, List.length_replicate, List.length_cons, List.length_nil, Int.natCast_add, Int.natCast_one, Int.natCast_zero] at *) <;> (repeat (with_reducible rename _ ∧ _ => hh; obtain ⟨_, _⟩ := hh)) <;> (first | omega | (refine fits_i64 ?_; omega) | (split <;> omega) | exact vc_no1 (by omega) | exact vc_no2 (by with_reducible assumption) | exact vc_yes (by with_reducible assumption) (by omega) (by omega) | exact vc_p1 (by with_reducible assumption) (by omega) (by omega) | exact vc_p2 (by with_reducible assumption) (by omega) (by omega))))
set_option maxRecDepth 100000 in
set_option maxHeartbeats 4000000 in
theorem p_iVC : Proved 49 cVC := by
  refine proved_of [(52, cVV)] ⟨p_iVV, trivial⟩ [.tmp 2] Try.func49 rfl rfl rfl rfl (by kernel_rfl) ?_
  intro ds K hrel
  simp only [cVC] at hrel
  split at hrel
  case h_2 => exact hrel.elim
  obtain ⟨h1, hrel⟩ := hrel
  refine ⟨rfl, Nat.le_of_ble_eq_true rfl, fun _ _ => none, ?_⟩
  repeat' (first | refine And.intro ?_ ?_ | (intro h; first | (exact absurd h (by decide)) | (guard_hyp h : true = true; clear h) | (guard_hyp h : false = false; clear h) | skip) | refine Exists.intro _ (Exists.intro _ (And.intro hrel ?_)) | exact rfl | exact True.intro | exact Or.inl rfl | exact Or.inr (And.intro rfl rfl) | exact Nat.le_of_ble_eq_true rfl | (apply Exists.intro; refine And.intro ?_ ?_))
  all_goals (try ((try (change _ = _)) <;> (try dsimp only at *) <;> (try simp only [decide_eq_true_eq, decide_eq_false_iff_not, Bool.not_eq_true', Bool.not_eq_false', Bool.and_eq_true, Bool.and_eq_false_iff, beq_iff_eq, bne_iff_ne, beq_eq_false_iff_ne, bne_eq_false_iff_eq, ne_eq, Decidable.not_not, bne_self_eq_false, Bool.false_eq_true, Bool.true_eq_false, Bool.not_true, Bool.not_false, not_true_eq_false, not_false_eq_true, Int.toNat_natCast, Nat.zero_add, Nat.reduceAdd, Nat.reduceMul, Nat.reduceDiv, Nat.mul_one, lenK_one, big, fill_len, marking_len, marks_len, nrms_len, List.length_set, List.length_append, List.length_map, List.length_replicate, List.length_cons, List.length_nil, Int.natCast_add, Int.natCast_one, Int.natCast_zero] at *) <;> (repeat (with_reducible rename _ ∧ _ => hh; obtain ⟨_, _⟩ := hh)) <;> (first | omega | (refine fits_i64 ?_; omega) | (split <;> omega) | exact vc_no1 (by omega) | exact vc_no2 (by with_reducible assumption) | exact vc_yes (by with_reducible assumption) (by omega) (by omega) | exact vc_p1 (by with_reducible assumption) (by omega) (by omega) | exact vc_p2 (by with_reducible assumption) (by omega) (by omega))))

/-- A valid column, as a row. -/
def VCr (r : Row) : Prop := VC (rc r 0).int (rc r 1).int (rc r 2).int (rc r 3).str
structure FmtN (xs : List Row) (n : Int) : Prop where
  h : ∀ j : Nat, (j : Int) < n → VCr (row xs j)
theorem fmt_zero (xs : List Row) : FmtN xs 0 := ⟨fun j h => by omega⟩
theorem fmt_step {xs : List Row} {i : Int} (h : FmtN xs i) (h1 : VC (rc (row xs i.toNat) 0).int (rc (row xs i.toNat) 1).int (rc (row xs i.toNat) 2).int (rc (row xs i.toNat) 3).str) : FmtN xs (i + 1) := ⟨fun j hj => by
  by_cases e : (j : Int) = i
  · subst e; exact h1
  · exact h.h j (by omega)⟩
/-- A valid format. -/
structure VF (xs : List Row) : Prop where
  l1 : 1 ≤ xs.length
  l5 : xs.length ≤ 5
  a : FmtN xs xs.length
theorem vf_bad {xs : List Row} {i : Int} (_ : FmtN xs i) (h0 : 0 ≤ i) (hi : i < xs.length) (h : ¬ VC (rc (row xs i.toNat) 0).int (rc (row xs i.toNat) 1).int (rc (row xs i.toNat) 2).int (rc (row xs i.toNat) 3).str) : false = decide (VF xs) := false_eq (fun v => h (v.a.h i.toNat (by omega)))
theorem vf_no {xs : List Row} (h : ¬ (1 ≤ (xs.length : Int) ∧ (xs.length : Int) ≤ 5)) : false = decide (VF xs) := false_eq (fun v => h ⟨by have := v.l1; omega, by have := v.l5; omega⟩)
theorem vf_yes {xs : List Row} {i : Int} (h : FmtN xs i) (hi : ¬ i < xs.length) (hl : 1 ≤ (xs.length : Int) ∧ (xs.length : Int) ≤ 5) : true = decide (VF xs) := true_eq ⟨by omega, by omega, ⟨fun j hj => h.h j (by omega)⟩⟩
theorem vf_pick {xs : List Row} {i : Int} (h : FmtN xs i) (hi : ¬ i < xs.length) : (decide (1 ≤ (xs.length : Int)) && decide ((xs.length : Int) ≤ 5)) = decide (VF xs) := by
  by_cases hl : 1 ≤ (xs.length : Int) ∧ (xs.length : Int) ≤ 5
  · rw [← vf_yes h hi hl]; simp [hl]
  · rw [← vf_no hl]; simp only [Bool.and_eq_false_iff, decide_eq_false_iff_not]; omega
noncomputable def cVF : Ct := ⟨[], fun ds K => match ds with
  | [.view ks xs] => ks = KColumn ∧ (xs.length : Int) < big ∧ SL 3 xs ∧ K (.bool (decide (VF xs))) []
  | _ => False⟩
set_option maxRecDepth 100000 in
set_option maxHeartbeats 4000000 in
theorem p_svF : Proved 47 cVF := by
  refine proved_of [(66, cVC), (58, cInRange)] ⟨p_sVC, p_inRange, trivial⟩ [.tmp 2] Try.func47 rfl rfl rfl rfl (by kernel_rfl) ?_
  intro ds K hrel
  simp only [cVF] at hrel
  split at hrel
  case h_2 => exact hrel.elim
  rename_i ks xs
  obtain ⟨rfl, h1, hs, hrel⟩ := hrel
  refine ⟨rfl, Nat.le_of_ble_eq_true rfl, fun k σ => match k with
    | 2 => some { α := Lv 2 Int, R := fun ⟨i⟩ => (0 ≤ i ∧ i ≤ xs.length) ∧ FmtN xs i, μ := fun ⟨i⟩ => (xs.length - i).toNat, st := fun ⟨i⟩ => up σ [(3, .int .i64 i)] }
    | _ => none, ?_⟩
  repeat' (first | refine And.intro ?_ ?_ | (intro h; first | (exact absurd h (by decide)) | (guard_hyp h : true = true; clear h) | (guard_hyp h : false = false; clear h) | (have hq := (h : Lv 2 _); clear hq; obtain ⟨_⟩ := h) | skip) | refine Exists.intro (⟨?_⟩ : Lv 2 _) ?_ | refine Exists.intro _ (Exists.intro _ (And.intro hrel ?_)) | exact rfl | exact True.intro | exact Or.inl rfl | exact Or.inr (And.intro rfl rfl) | exact Nat.le_of_ble_eq_true rfl | (apply Exists.intro; refine And.intro ?_ ?_))
  all_goals (try ((try (change _ = _)) <;> (try dsimp only at *) <;> (try simp only [decide_eq_true_eq, decide_eq_false_iff_not, Bool.not_eq_true', Bool.not_eq_false', Bool.and_eq_true, Bool.and_eq_false_iff, beq_iff_eq, bne_iff_ne, beq_eq_false_iff_ne, bne_eq_false_iff_eq, ne_eq, Decidable.not_not, bne_self_eq_false, Bool.false_eq_true, Bool.true_eq_false, Bool.not_true, Bool.not_false, not_true_eq_false, not_false_eq_true, Int.toNat_natCast, Nat.zero_add, Nat.reduceAdd, Nat.reduceMul, Nat.reduceDiv, Nat.mul_one, lenK_one, big, fill_len, marking_len, marks_len, nrms_len, List.length_set, List.length_append, List.length_map, List.length_replicate, List.length_cons, List.length_nil, Int.natCast_add, Int.natCast_one, Int.natCast_zero] at *) <;> (repeat (with_reducible rename _ ∧ _ => hh; obtain ⟨_, _⟩ := hh)) <;> (first | omega | (refine fits_i64 ?_; omega) | (split <;> omega) | exact hs.h _ | exact fmt_zero _ | exact fmt_step (by with_reducible assumption) (by with_reducible assumption) | exact vf_bad (by with_reducible assumption) (by omega) (by omega) (by with_reducible assumption) | exact vf_no (by omega) | exact vf_yes (by with_reducible assumption) (by omega) (by omega) | exact vf_pick (by with_reducible assumption) (by omega))))
set_option maxRecDepth 100000 in
set_option maxHeartbeats 4000000 in
theorem p_sVF : Proved 26 cVF := by
  refine proved_of [(47, cVF)] ⟨p_svF, trivial⟩ [.tmp 2] Try.func26 rfl rfl rfl rfl (by kernel_rfl) ?_
  intro ds K hrel
  simp only [cVF] at hrel
  split at hrel
  case h_2 => exact hrel.elim
  obtain ⟨rfl, h1, hs, hrel⟩ := hrel
  refine ⟨rfl, Nat.le_of_ble_eq_true rfl, fun _ _ => none, ?_⟩
  repeat' (first | refine And.intro ?_ ?_ | (intro h; first | (exact absurd h (by decide)) | (guard_hyp h : true = true; clear h) | (guard_hyp h : false = false; clear h) | skip) | refine Exists.intro _ (Exists.intro _ (And.intro hrel ?_)) | exact rfl | exact True.intro | exact Or.inl rfl | exact Or.inr (And.intro rfl rfl) | exact Nat.le_of_ble_eq_true rfl | (apply Exists.intro; refine And.intro ?_ ?_))
  all_goals (try ((try (change _ = _)) <;> (try dsimp only at *) <;> (try simp only [decide_eq_true_eq, decide_eq_false_iff_not, Bool.not_eq_true', Bool.not_eq_false', Bool.and_eq_true, Bool.and_eq_false_iff, beq_iff_eq, bne_iff_ne, beq_eq_false_iff_ne, bne_eq_false_iff_eq, ne_eq, Decidable.not_not, bne_self_eq_false, Bool.false_eq_true, Bool.true_eq_false, Bool.not_true, Bool.not_false, not_true_eq_false, not_false_eq_true, Int.toNat_natCast, Nat.zero_add, Nat.reduceAdd, Nat.reduceMul, Nat.reduceDiv, Nat.mul_one, lenK_one, big, fill_len, marking_len, marks_len, nrms_len, List.length_set, List.length_append, List.length_map, List.length_replicate, List.length_cons, List.length_nil, Int.natCast_add, Int.natCast_one, Int.natCast_zero] at *) <;> (repeat (with_reducible rename _ ∧ _ => hh; obtain ⟨_, _⟩ := hh)) <;> (first | omega | (refine fits_i64 ?_; omega) | (split <;> omega) | (with_reducible assumption))))
set_option maxRecDepth 100000 in
set_option maxHeartbeats 4000000 in
theorem p_iVF : Proved 28 cVF := by
  refine proved_of [(49, cVC)] ⟨p_iVC, trivial⟩ [.tmp 2] Try.func28 rfl rfl rfl rfl (by kernel_rfl) ?_
  intro ds K hrel
  simp only [cVF] at hrel
  split at hrel
  case h_2 => exact hrel.elim
  rename_i ks xs
  obtain ⟨rfl, h1, hs, hrel⟩ := hrel
  refine ⟨rfl, Nat.le_of_ble_eq_true rfl, fun k σ => match k with
    | 4 => some { α := Lv 4 Int, R := fun ⟨i⟩ => (0 ≤ i ∧ i ≤ xs.length ∧ 1 ≤ (xs.length : Int) ∧ (xs.length : Int) ≤ 5) ∧ FmtN xs i, μ := fun ⟨i⟩ => (xs.length - i).toNat, st := fun ⟨i⟩ => up σ [(15, .int .i64 i)] }
    | _ => none, ?_⟩
  repeat' (first | refine And.intro ?_ ?_ | (intro h; first | (exact absurd h (by decide)) | (guard_hyp h : true = true; clear h) | (guard_hyp h : false = false; clear h) | (have hq := (h : Lv 4 _); clear hq; obtain ⟨_⟩ := h) | skip) | refine Exists.intro (⟨?_⟩ : Lv 4 _) ?_ | refine Exists.intro _ (Exists.intro _ (And.intro hrel ?_)) | exact rfl | exact True.intro | exact Or.inl rfl | exact Or.inr (And.intro rfl rfl) | exact Nat.le_of_ble_eq_true rfl | (apply Exists.intro; refine And.intro ?_ ?_))
  all_goals (try ((try (change _ = _)) <;> (try dsimp only at *) <;> (try simp only [decide_eq_true_eq, decide_eq_false_iff_not, Bool.not_eq_true', Bool.not_eq_false', Bool.and_eq_true, Bool.and_eq_false_iff, beq_iff_eq, bne_iff_ne, beq_eq_false_iff_ne, bne_eq_false_iff_eq, ne_eq, Decidable.not_not, bne_self_eq_false, Bool.false_eq_true, Bool.true_eq_false, Bool.not_true, Bool.not_false, not_true_eq_false, not_false_eq_true, Int.toNat_natCast, Nat.zero_add, Nat.reduceAdd, Nat.reduceMul, Nat.reduceDiv, Nat.mul_one, lenK_one, big, fill_len, marking_len, marks_len, nrms_len, List.length_set, List.length_append, List.length_map, List.length_replicate, List.length_cons, List.length_nil, Int.natCast_add, Int.natCast_one, Int.natCast_zero] at *) <;> (repeat (with_reducible rename _ ∧ _ => hh; obtain ⟨_, _⟩ := hh)) <;> (first | omega | (refine fits_i64 ?_; omega) | (split <;> omega) | exact hs.h _ | exact fmt_zero _ | exact fmt_step (by with_reducible assumption) (by with_reducible assumption) | exact vf_bad (by with_reducible assumption) (by omega) (by omega) (by with_reducible assumption) | exact vf_no (by omega) | exact vf_yes (by with_reducible assumption) (by omega) (by omega) | exact vf_pick (by with_reducible assumption) (by omega))))
end Go.Proofs.Ytfchlcghildiaaa.V
