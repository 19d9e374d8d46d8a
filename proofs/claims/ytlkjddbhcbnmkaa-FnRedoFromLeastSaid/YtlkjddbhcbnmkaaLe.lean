/-
  Checkpoints that are drawn; the law that the start is the first one, as a function.
-/
import Derived.Test.YtlkjddbhcbnmkaaDp
import Derived.Test.YtlkjddbhcbnmkaaRa
set_option linter.unusedSimpArgs false
set_option linter.unusedVariables false
namespace Go.Proofs.Ytlkjddbhcbnmkaa.V
open Go Go.RowKit
open Classical

noncomputable def cIsIn : Ct := ⟨[], fun ds K => match ds with
  | [.view ks xs, .int .i64 n] => ks = KInt ∧ (xs.length : Int) < big ∧ K (.bool (decide (memI xs n))) []
  | _ => False⟩
structure NoI (xs : List Row) (n : Int) (i : Int) : Prop where
  h : ∀ j : Nat, (j : Int) < i → ¬ (rc (row xs j) 0).int = n
theorem noI_zero (xs : List Row) (n : Int) : NoI xs n 0 := ⟨fun j h => by omega⟩
theorem noI_step {xs : List Row} {n i : Int} (h : NoI xs n i) (h0 : 0 ≤ i) (h1 : ¬ (rc (row xs i.toNat) 0).int = n) : NoI xs n (i + 1) := ⟨fun j hj => by
  by_cases e : (j : Int) = i
  · subst e; exact h1
  · exact h.h j (by omega)⟩
theorem memI_iff : ∀ (xs : List Row) (n : Int), memI xs n ↔ ∃ i, i < xs.length ∧ (rc (row xs i) 0).int = n
  | [], n => by simp [memI]
  | r :: rs, n => by
    simp only [memI, memI_iff rs n]
    constructor
    · rintro (h | ⟨i, h1, h2⟩)
      · exact ⟨0, by simp, h⟩
      · exact ⟨i + 1, by simpa using h1, h2⟩
    · rintro ⟨i, h1, h2⟩
      cases i with
      | zero => exact .inl h2
      | succ i => exact .inr ⟨i, by simpa using h1, h2⟩
theorem isIn_yes {xs : List Row} {n i : Int} (h0 : 0 ≤ i) (h1 : i < xs.length) (h2 : (rc (row xs i.toNat) 0).int = n) : true = decide (memI xs n) :=
  true_eq ((memI_iff xs n).2 ⟨i.toNat, by omega, h2⟩)
theorem isIn_no {xs : List Row} {n i : Int} (h : NoI xs n i) (h1 : ¬ i < xs.length) : false = decide (memI xs n) :=
  false_eq (fun hm => by obtain ⟨j, h2, h3⟩ := (memI_iff xs n).1 hm; exact h.h j (by omega) h3)
set_option maxRecDepth 100000 in
set_option maxHeartbeats 4000000 in
theorem p_lIsIn : Proved 46 cIsIn := by
  refine proved_of [] trivial [.tmp 4] Try.func46 rfl rfl rfl rfl (by kernel_rfl) ?_
  intro ds K hrel
  simp only [cIsIn] at hrel
  split at hrel
  case h_2 => exact hrel.elim
  rename_i ks xs n
  obtain ⟨rfl, h1, hrel⟩ := hrel
  refine ⟨rfl, Nat.le_of_ble_eq_true rfl, fun k σ => match k with
    | 2 => some { α := Lv 2 Int, R := fun i => (0 ≤ i.v ∧ i.v ≤ xs.length) ∧ NoI xs n i.v, μ := fun i => (xs.length - i.v).toNat, st := fun i => up σ [(5, .int .i64 i.v)] }
    | _ => none, ?_⟩
  repeat' (first | with_reducible refine And.intro ?_ ?_ | (with_reducible intro h; first | (exact absurd h (by decide)) | (guard_hyp h : true = true; clear h) | (guard_hyp h : false = false; clear h) | (have hq := (h : Lv 2 _); clear hq; obtain ⟨_⟩ := h) | skip) | with_reducible exact True.intro | ((with_reducible refine (id ?_ : @Eq Bool (nodupN _) true)); kernel_rfl) | ((with_reducible refine (id ?_ : @Eq Bool (apartN _ _) true)); kernel_rfl) | ((with_reducible refine (id ?_ : @Eq Bool (formL _ _) true)); kernel_rfl) | ((with_reducible refine (id ?_ : @Eq _ _ _)); exact rfl) | ((conv => whnf); first | done | with_reducible refine And.intro ?_ ?_ | (with_reducible intro h; first | (exact absurd h (by decide)) | (guard_hyp h : true = true; clear h) | (guard_hyp h : false = false; clear h) | (have hq := (h : Lv 2 _); clear hq; obtain ⟨_⟩ := h) | skip) | with_reducible exact True.intro | ((with_reducible refine (id ?_ : @Eq _ _ _)); exact rfl) | refine Exists.intro (⟨?_⟩ : Lv 2 _) ?_ | refine Exists.intro _ (Exists.intro _ (And.intro hrel ?_)) | exact Or.inl rfl | exact Or.inr (And.intro rfl rfl) | (apply Exists.intro; refine And.intro ?_ ?_)) | exact Nat.le_of_ble_eq_true rfl)
  all_goals (try ((try (change _ = _)) <;> (try dsimp only at *) <;> (try simp only [decide_eq_true_eq, decide_eq_false_iff_not, Bool.not_eq_true', Bool.not_eq_false', Bool.and_eq_true, Bool.and_eq_false_iff, beq_iff_eq, bne_iff_ne, beq_eq_false_iff_ne, bne_eq_false_iff_eq, ne_eq, Decidable.not_not, bne_self_eq_false, Bool.false_eq_true, Bool.true_eq_false, Bool.not_true, Bool.not_false, not_true_eq_false, not_false_eq_true, Int.toNat_natCast, Nat.zero_add, Nat.reduceAdd, Nat.reduceMul, Nat.reduceDiv, Nat.mul_one, lenK_one, big, fill_len, marking_len, marks_len, nrms_len, List.length_set, List.length_append, List.length_map, List.length_replicate, List.length_cons, List.length_nil, Int.natCast_add, Int.natCast_one, Int.natCast_zero] at *) <;> (repeat (with_reducible rename _ ∧ _ => hh; obtain ⟨_, _⟩ := hh)) <;> (first | omega | (refine fits_i64 ?_; omega) | (split <;> omega) | exact noI_zero _ _ | exact noI_step (by assumption) (by omega) (by assumption) | exact isIn_yes (by omega) (by omega) (by assumption) | exact isIn_no (by assumption) (by omega))))
set_option maxRecDepth 100000 in
set_option maxHeartbeats 4000000 in
theorem p_sIsIn : Proved 87 cIsIn := by
  refine proved_of [] trivial [.tmp 4] Try.func87 rfl rfl rfl rfl (by kernel_rfl) ?_
  intro ds K hrel
  simp only [cIsIn] at hrel
  split at hrel
  case h_2 => exact hrel.elim
  rename_i ks xs n
  obtain ⟨rfl, h1, hrel⟩ := hrel
  refine ⟨rfl, Nat.le_of_ble_eq_true rfl, fun k σ => match k with
    | 2 => some { α := Lv 2 Int, R := fun i => (0 ≤ i.v ∧ i.v ≤ xs.length) ∧ NoI xs n i.v, μ := fun i => (xs.length - i.v).toNat, st := fun i => up σ [(5, .int .i64 i.v)] }
    | _ => none, ?_⟩
  repeat' (first | with_reducible refine And.intro ?_ ?_ | (with_reducible intro h; first | (exact absurd h (by decide)) | (guard_hyp h : true = true; clear h) | (guard_hyp h : false = false; clear h) | (have hq := (h : Lv 2 _); clear hq; obtain ⟨_⟩ := h) | skip) | with_reducible exact True.intro | ((with_reducible refine (id ?_ : @Eq Bool (nodupN _) true)); kernel_rfl) | ((with_reducible refine (id ?_ : @Eq Bool (apartN _ _) true)); kernel_rfl) | ((with_reducible refine (id ?_ : @Eq Bool (formL _ _) true)); kernel_rfl) | ((with_reducible refine (id ?_ : @Eq _ _ _)); exact rfl) | ((conv => whnf); first | done | with_reducible refine And.intro ?_ ?_ | (with_reducible intro h; first | (exact absurd h (by decide)) | (guard_hyp h : true = true; clear h) | (guard_hyp h : false = false; clear h) | (have hq := (h : Lv 2 _); clear hq; obtain ⟨_⟩ := h) | skip) | with_reducible exact True.intro | ((with_reducible refine (id ?_ : @Eq _ _ _)); exact rfl) | refine Exists.intro (⟨?_⟩ : Lv 2 _) ?_ | refine Exists.intro _ (Exists.intro _ (And.intro hrel ?_)) | exact Or.inl rfl | exact Or.inr (And.intro rfl rfl) | (apply Exists.intro; refine And.intro ?_ ?_)) | exact Nat.le_of_ble_eq_true rfl)
  all_goals (try ((try (change _ = _)) <;> (try dsimp only at *) <;> (try simp only [decide_eq_true_eq, decide_eq_false_iff_not, Bool.not_eq_true', Bool.not_eq_false', Bool.and_eq_true, Bool.and_eq_false_iff, beq_iff_eq, bne_iff_ne, beq_eq_false_iff_ne, bne_eq_false_iff_eq, ne_eq, Decidable.not_not, bne_self_eq_false, Bool.false_eq_true, Bool.true_eq_false, Bool.not_true, Bool.not_false, not_true_eq_false, not_false_eq_true, Int.toNat_natCast, Nat.zero_add, Nat.reduceAdd, Nat.reduceMul, Nat.reduceDiv, Nat.mul_one, lenK_one, big, fill_len, marking_len, marks_len, nrms_len, List.length_set, List.length_append, List.length_map, List.length_replicate, List.length_cons, List.length_nil, Int.natCast_add, Int.natCast_one, Int.natCast_zero] at *) <;> (repeat (with_reducible rename _ ∧ _ => hh; obtain ⟨_, _⟩ := hh)) <;> (first | omega | (refine fits_i64 ?_; omega) | (split <;> omega) | exact noI_zero _ _ | exact noI_step (by assumption) (by omega) (by assumption) | exact isIn_yes (by omega) (by omega) (by assumption) | exact isIn_no (by assumption) (by omega))))
def cSorted : Ct := ⟨[], fun ds K => match ds with
  | [.view ks xs] => ks = KInt ∧ xs.length ≤ 1000 ∧ ∀ ys : List Row, (xs.length ≤ ys.length ∧ ys.length ≤ xs.length) → K (.fr 3 KInt ys) []
  | _ => False⟩
set_option maxRecDepth 100000 in
set_option maxHeartbeats 8000000 in
theorem p_sorted : Proved 88 cSorted := by
  refine proved_of [(75, cCopy 3 KInt)] ⟨p_copyInts, trivial⟩ [.tmp 2] Try.func88 rfl rfl rfl rfl (by kernel_rfl) ?_
  intro ds K hrel
  simp only [cSorted] at hrel
  split at hrel
  case h_2 => exact hrel.elim
  rename_i ks xs
  obtain ⟨rfl, h1, hrel⟩ := hrel
  refine ⟨rfl, Nat.le_of_ble_eq_true rfl, fun k σ => match k with
    | 3 => some { α := Lv 3 (List Row × Int), R := fun ⟨(ys, i)⟩ => (1 ≤ i ∧ i ≤ 2000 ∧ (xs.length : Int) ≤ ys.length ∧ (ys.length : Int) ≤ xs.length), μ := fun ⟨(_, i)⟩ => (2000 - i).toNat, st := fun ⟨(ys, i)⟩ => upH σ [(4, .int .i64 i)] 0 (.rows 3 KInt ys) }
    | 6 => match lookT σ.tm 4 with
      | .int _ i => some { α := Lv 6 (List Row × Int), R := fun ⟨(ys, k)⟩ => (0 ≤ k ∧ k ≤ i ∧ 1 ≤ i ∧ i < xs.length ∧ (xs.length : Int) ≤ ys.length ∧ (ys.length : Int) ≤ xs.length), μ := fun ⟨(_, k)⟩ => k.toNat, st := fun ⟨(ys, k)⟩ => upH σ [(5, .int .i64 k)] 0 (.rows 3 KInt ys) }
      | _ => none
    | _ => none, ?_⟩
  repeat' (first | with_reducible refine And.intro ?_ ?_ | (with_reducible intro h; first | (exact absurd h (by decide)) | (guard_hyp h : true = true; clear h) | (guard_hyp h : false = false; clear h) | (have hq := (h : Lv 3 _); clear hq; obtain ⟨_, _⟩ := h) | (have hq := (h : Lv 6 _); clear hq; obtain ⟨_, _⟩ := h) | skip) | with_reducible exact True.intro | ((with_reducible refine (id ?_ : @Eq Bool (nodupN _) true)); kernel_rfl) | ((with_reducible refine (id ?_ : @Eq Bool (apartN _ _) true)); kernel_rfl) | ((with_reducible refine (id ?_ : @Eq Bool (formL _ _) true)); kernel_rfl) | ((with_reducible refine (id ?_ : @Eq _ _ _)); exact rfl) | ((conv => whnf); first | done | with_reducible refine And.intro ?_ ?_ | (with_reducible intro h; first | (exact absurd h (by decide)) | (guard_hyp h : true = true; clear h) | (guard_hyp h : false = false; clear h) | (have hq := (h : Lv 3 _); clear hq; obtain ⟨_, _⟩ := h) | (have hq := (h : Lv 6 _); clear hq; obtain ⟨_, _⟩ := h) | skip) | with_reducible exact True.intro | ((with_reducible refine (id ?_ : @Eq _ _ _)); exact rfl) | (refine Exists.intro _ (Exists.intro _ (And.intro (hrel ?_ ?_) ?_))) | refine Exists.intro (⟨(?_, ?_)⟩ : Lv 3 _) ?_ | refine Exists.intro (⟨(?_, ?_)⟩ : Lv 6 _) ?_ | refine Exists.intro _ (Exists.intro _ (And.intro hrel ?_)) | exact Or.inl rfl | exact Or.inr (And.intro rfl rfl) | (apply Exists.intro; refine And.intro ?_ ?_)) | exact Nat.le_of_ble_eq_true rfl)
  all_goals (try ((try (change _ = _)) <;> (try dsimp only at *) <;> (try simp only [decide_eq_true_eq, decide_eq_false_iff_not, Bool.not_eq_true', Bool.not_eq_false', Bool.and_eq_true, Bool.and_eq_false_iff, beq_iff_eq, bne_iff_ne, beq_eq_false_iff_ne, bne_eq_false_iff_eq, ne_eq, Decidable.not_not, bne_self_eq_false, Bool.false_eq_true, Bool.true_eq_false, Bool.not_true, Bool.not_false, not_true_eq_false, not_false_eq_true, Int.toNat_natCast, Nat.zero_add, Nat.reduceAdd, Nat.reduceMul, Nat.reduceDiv, Nat.mul_one, lenK_one, big, fill_len, marking_len, marks_len, nrms_len, List.length_set, List.length_append, List.length_map, List.length_replicate, List.length_cons, List.length_nil, Int.natCast_add, Int.natCast_one, Int.natCast_zero] at *) <;> (repeat (with_reducible rename _ ∧ _ => hh; obtain ⟨_, _⟩ := hh)) <;> (first | omega | (refine fits_i64 ?_; omega) | (split <;> omega) | rfl)))
def cSCk : Ct := ⟨[], fun ds K => match ds with
  | [.view ks c, .view js es] => ks = KCell ∧ js = KNote ∧ (c.length ≤ 7 ∧ es.length ≤ 21) ∧ ∀ a b d : List Row, a.length ≤ 30 → b.length ≤ 30 → d.length ≤ 30 → K (.agg [.fr 3 KInt a, .fr 3 KInt b, .fr 3 KInt d]) []
  | _ => False⟩
set_option maxRecDepth 100000 in
set_option maxHeartbeats 16000000 in
theorem p_sCheckOf : Proved 70 cSCk := by
  refine proved_of [(60, cUs), (76, cEnded), (87, cIsIn), (88, cSorted)] ⟨p_usable, p_ended, p_sIsIn, p_sorted, trivial⟩ [.cell 4 27] Try.func70 rfl rfl rfl rfl (by kernel_rfl) ?_
  intro ds K hrel
  simp only [cSCk] at hrel
  split at hrel
  case h_2 => exact hrel.elim
  rename_i ks c js es
  obtain ⟨rfl, rfl, ⟨h1, h2⟩, hrel⟩ := hrel
  refine ⟨rfl, Nat.le_of_ble_eq_true rfl, fun k σ => match k with
    | 7 => some { α := Lv 7 (List Row × List Row × Int), R := fun ⟨(a, b, t)⟩ => (0 ≤ t ∧ t ≤ c.length ∧ a.length ≤ t ∧ b.length ≤ t), μ := fun ⟨(_, _, t)⟩ => (c.length - t).toNat, st := fun ⟨(a, b, t)⟩ => upW σ [(8, .int .i64 t), (5, .own 1), (6, .own 2)] (setH (setH σ.hp 1 (some (.rows 3 KInt a))) 2 (some (.rows 3 KInt b))) }
    | 11 => some { α := Lv 11 (Int × Int), R := fun ⟨(i, n)⟩ => (-1 ≤ i ∧ i ≤ es.length - 1), μ := fun ⟨(i, _)⟩ => (i + 1).toNat, st := fun ⟨(i, n)⟩ => up σ [(10, .int .i64 i), (9, .int .i64 n)] }
    | 19 => some { α := Lv 19 (List Row × Int), R := fun ⟨(d, i)⟩ => (0 ≤ i ∧ i ≤ es.length ∧ d.length ≤ i), μ := fun ⟨(_, i)⟩ => (es.length - i).toNat, st := fun ⟨(d, i)⟩ => upW σ [(11, .int .i64 i), (7, .own 3)] (setH σ.hp 3 (some (.rows 3 KInt d))) }
    | _ => none, ?_⟩
  repeat' (first | with_reducible refine And.intro ?_ ?_ | (with_reducible intro h; first | (exact absurd h (by decide)) | (guard_hyp h : true = true; clear h) | (guard_hyp h : false = false; clear h) | (have hq := (h : Lv 7 _); clear hq; obtain ⟨_, _, _⟩ := h) | (have hq := (h : Lv 11 _); clear hq; obtain ⟨_, _⟩ := h) | (have hq := (h : Lv 19 _); clear hq; obtain ⟨_, _⟩ := h) | skip) | with_reducible exact True.intro | ((with_reducible refine (id ?_ : @Eq Bool (nodupN _) true)); kernel_rfl) | ((with_reducible refine (id ?_ : @Eq Bool (apartN _ _) true)); kernel_rfl) | ((with_reducible refine (id ?_ : @Eq Bool (formL _ _) true)); kernel_rfl) | ((with_reducible refine (id ?_ : @Eq _ _ _)); exact rfl) | ((conv => whnf); first | done | with_reducible refine And.intro ?_ ?_ | (with_reducible intro h; first | (exact absurd h (by decide)) | (guard_hyp h : true = true; clear h) | (guard_hyp h : false = false; clear h) | (have hq := (h : Lv 7 _); clear hq; obtain ⟨_, _, _⟩ := h) | (have hq := (h : Lv 11 _); clear hq; obtain ⟨_, _⟩ := h) | (have hq := (h : Lv 19 _); clear hq; obtain ⟨_, _⟩ := h) | skip) | with_reducible exact True.intro | ((with_reducible refine (id ?_ : @Eq _ _ _)); exact rfl) | (refine Exists.intro _ (Exists.intro _ (And.intro (hrel ?_ ?_ ?_ ?_ ?_ ?_) ?_))) | refine Exists.intro (⟨(?_, ?_, ?_)⟩ : Lv 7 _) ?_ | refine Exists.intro (⟨(?_, ?_)⟩ : Lv 11 _) ?_ | refine Exists.intro (⟨(?_, ?_)⟩ : Lv 19 _) ?_ | refine Exists.intro _ (Exists.intro _ (And.intro hrel ?_)) | exact Or.inl rfl | exact Or.inr (And.intro rfl rfl) | (apply Exists.intro; refine And.intro ?_ ?_)) | exact Nat.le_of_ble_eq_true rfl)
  all_goals (try ((try (change _ = _)) <;> (try dsimp only at *) <;> (try simp only [decide_eq_true_eq, decide_eq_false_iff_not, Bool.not_eq_true', Bool.not_eq_false', Bool.and_eq_true, Bool.and_eq_false_iff, beq_iff_eq, bne_iff_ne, beq_eq_false_iff_ne, bne_eq_false_iff_eq, ne_eq, Decidable.not_not, bne_self_eq_false, Bool.false_eq_true, Bool.true_eq_false, Bool.not_true, Bool.not_false, not_true_eq_false, not_false_eq_true, Int.toNat_natCast, Nat.zero_add, Nat.reduceAdd, Nat.reduceMul, Nat.reduceDiv, Nat.mul_one, lenK_one, big, fill_len, marking_len, marks_len, nrms_len, List.length_set, List.length_append, List.length_map, List.length_replicate, List.length_cons, List.length_nil, Int.natCast_add, Int.natCast_one, Int.natCast_zero] at *) <;> (repeat (with_reducible rename _ ∧ _ => hh; obtain ⟨_, _⟩ := hh)) <;> (first | omega | (refine fits_i64 ?_; omega) | (split <;> omega) | rfl)))
/-- The orders of regions that draw. -/
def trDRF : Nat → Option (Bool × Tr)
  | 9 => some (false, .take 1 (.take 2 (.take 3 (.take 4 (.take 5 (.take 6 (.all (.cons 0 (.all (.cons 7 (.all (.cons 8 (.all (.cons 9 (.take 10 .done) .nil)) .nil)) .nil)) (.cons 7 (.all (.cons 0 (.all (.cons 8 (.all (.cons 9 (.take 10 .done) .nil)) .nil)) (.cons 8 (.all (.cons 0 (.all (.cons 9 (.take 10 .done) .nil)) .nil)) .nil))) .nil)))))))))
  | _ => none
def cDRF : Ct := ⟨[], fun ds K => match ds with
  | [.view ks xs] => ks = KU8 ∧ (xs.length : Int) < big ∧ (∀ i, i < xs.length → RowOk KU8 (row xs i)) ∧ ∀ (a b d : List Row) (n : Int), a.length ≤ 31 → b.length ≤ 31 → d.length ≤ 31 → K (.tup [.agg [.view KInt a, .view KInt b, .view KInt d], .int .i64 n]) []
  | _ => False⟩
set_option maxRecDepth 100000 in
set_option maxHeartbeats 16000000 in
theorem p_drawRedoFrom : Proved 45 cDRF := by
  refine proved_tr trDRF [(59, cNewReader), (66, cACells), (70, cSCk), (71, cPick), (73, cOne), (72, cSpoil)] ⟨p_newReader, p_anyCells, p_sCheckOf, p_pick, p_one, p_spoil, trivial⟩ [.cell 2 27, .tmp 3] Try.func45 rfl rfl rfl rfl (by kernel_rfl) ?_
  intro ds K hrel
  simp only [cDRF] at hrel
  split at hrel
  case h_2 => exact hrel.elim
  rename_i ks xs
  obtain ⟨rfl, h1, h2, hrel⟩ := hrel
  refine ⟨rfl, Nat.le_of_ble_eq_true rfl, fun _ _ => none, ?_⟩
  repeat' (first | with_reducible refine And.intro ?_ ?_ | (with_reducible intro h; first | (exact absurd h (by decide)) | (guard_hyp h : true = true; clear h) | (guard_hyp h : false = false; clear h) | skip) | with_reducible exact True.intro | ((with_reducible refine (id ?_ : @Eq Bool (nodupN _) true)); kernel_rfl) | ((with_reducible refine (id ?_ : @Eq Bool (apartN _ _) true)); kernel_rfl) | ((with_reducible refine (id ?_ : @Eq Bool (formL _ _) true)); kernel_rfl) | ((with_reducible refine (id ?_ : @Eq _ _ _)); exact rfl) | ((conv => whnf); first | done | with_reducible refine And.intro ?_ ?_ | (with_reducible intro h; first | (exact absurd h (by decide)) | (guard_hyp h : true = true; clear h) | (guard_hyp h : false = false; clear h) | skip) | with_reducible exact True.intro | ((with_reducible refine (id ?_ : @Eq _ _ _)); exact rfl) | (refine Exists.intro _ (Exists.intro _ (And.intro (hrel ?_ ?_ ?_ ?_ ?_ ?_ ?_) ?_))) | refine Exists.intro _ (Exists.intro _ (And.intro hrel ?_)) | exact Or.inl rfl | exact Or.inr (And.intro rfl rfl) | (apply Exists.intro; refine And.intro ?_ ?_)) | exact Nat.le_of_ble_eq_true rfl)
  all_goals (try ((repeat (with_reducible rename PickR _ _ => hq; have hq1 := hq.lo; have hq2 := hq.hi; have hq3 := hq.zero; clear hq)) <;> (try (change _ = _)) <;> (try dsimp only at *) <;> (try simp only [decide_eq_true_eq, decide_eq_false_iff_not, Bool.not_eq_true', Bool.not_eq_false', Bool.and_eq_true, Bool.and_eq_false_iff, beq_iff_eq, bne_iff_ne, beq_eq_false_iff_ne, bne_eq_false_iff_eq, ne_eq, Decidable.not_not, bne_self_eq_false, Bool.false_eq_true, Bool.true_eq_false, Bool.not_true, Bool.not_false, not_true_eq_false, not_false_eq_true, Int.toNat_natCast, Nat.zero_add, Nat.reduceAdd, Nat.reduceMul, Nat.reduceDiv, Nat.mul_one, lenK_one, big, fill_len, marking_len, marks_len, nrms_len, List.length_set, List.length_append, List.length_map, List.length_replicate, List.length_cons, List.length_nil, Int.natCast_add, Int.natCast_one, Int.natCast_zero, memI_i, memI_nil, or_false, false_or] at *) <;> (repeat (with_reducible rename _ ∧ _ => hh; obtain ⟨_, _⟩ := hh)) <;> (first | omega | (refine fits_i64 ?_; omega) | (split <;> omega) | (with_reducible assumption) | exact h2 _ (by with_reducible assumption) | rfl)))
theorem law_codeL {ds : List AV} (h : PkAVs [.c (.s KU8)] ds) : ∃ xs, ds = [.view KU8 xs] ∧ xs.length ≤ maxLen ∧ ∀ i, i < xs.length → RowOk KU8 (row xs i) := by
  obtain ⟨a, l, rfl, ⟨xs, rfl, h1, h2⟩, h3⟩ := h
  simp only [PkAVs] at h3
  subst h3
  exact ⟨xs, rfl, h1, h2⟩
theorem lst_cons' (a : Int) (r : Row) (xs : List Row) : lst a (r :: xs) = lst (min a (rc r 0).int) xs := by simp [lst]
theorem lst_nil' (a : Int) : lst a [] = a := by simp [lst]
theorem lst_a : ∀ (xs : List Row) (a : Int), lst a xs ≤ a
  | [], a => by rw [lst_nil']; exact Int.le_refl _
  | r :: xs, a => by rw [lst_cons']; have := lst_a xs (min a (rc r 0).int); omega
theorem lst_le : ∀ (xs : List Row) (a : Int) (i : Nat), i < xs.length → lst a xs ≤ (rc (row xs i) 0).int
  | [], a, i, h => by simp at h
  | r :: xs, a, 0, _ => by rw [lst_cons']; have := lst_a xs (min a (rc r 0).int); show _ ≤ (rc r 0).int; omega
  | r :: xs, a, i + 1, h => by
    rw [lst_cons']
    have := lst_le xs (min a (rc r 0).int) i (by simpa using h)
    simpa [row] using this
theorem lst_mem : ∀ (xs : List Row) (a : Int), lst a xs = a ∨ memI xs (lst a xs)
  | [], a => .inl (lst_nil' a)
  | r :: xs, a => by
    rw [lst_cons']
    rcases lst_mem xs (min a (rc r 0).int) with h | h
    · by_cases hm : a ≤ (rc r 0).int
      · left; rw [h]; omega
      · right; left; rw [h]; omega
    · right; right; exact h
theorem rf_ok {ds fs : List Row} {a : Int} (h : ¬ redoF ds fs a < 0) : redoF ds fs a = lst a fs := by
  unfold redoF at h ⊢
  split
  · rfl
  · rename_i hn; rw [if_neg hn] at h; omega
theorem rl_bad {ds fs : List Row} {a i : Int} (h : (rc (row fs i.toNat) 0).int < redoF ds fs a) (h0 : ¬ redoF ds fs a < 0) (h1 : 0 ≤ i) (h2 : i < fs.length) : False := by
  rw [rf_ok h0] at h
  have := lst_le fs a i.toNat (by omega)
  omega
theorem rl_le {ds fs : List Row} {a : Int} (h : ¬ redoF ds fs a ≤ a) (h0 : ¬ redoF ds fs a < 0) : False := by
  rw [rf_ok h0] at h; exact h (lst_a fs a)
theorem rl_mem {ds fs : List Row} {a : Int} (h0 : ¬ redoF ds fs a < 0) (h : ¬ redoF ds fs a = a) : true = decide (memI fs (redoF ds fs a)) := by
  rw [rf_ok h0] at h ⊢
  exact true_eq ((lst_mem fs a).resolve_left h)
theorem rl_mem' {ds fs : List Row} {a : Int} (h0 : ¬ redoF ds fs a < 0) (h : ¬ redoF ds fs a = a) : memI fs (redoF ds fs a) := by
  rw [rf_ok h0] at h ⊢
  exact (lst_mem fs a).resolve_left h
set_option maxRecDepth 100000 in
set_option maxHeartbeats 16000000 in
theorem p_fnRedoFromLeast : Proved 12 (cLaw [.c (.s KU8)]) := by
  refine proved_of [(45, cDRF), (16, cRF), (14, cRF), (46, cIsIn)] ⟨p_drawRedoFrom, p_iRF, p_sRF, p_lIsIn, trivial⟩ [.tmp 2] Try.func12 rfl rfl rfl rfl (by kernel_rfl) ?_
  rintro ds K ⟨hds, hrel⟩
  obtain ⟨xs, rfl, h1, h2⟩ := law_codeL hds
  unfold maxLen at h1
  refine ⟨rfl, Nat.le_of_ble_eq_true rfl, fun k σ => match lookH σ.hp 0 with
    | some (.box [_, .view _ fs, _]) => match k with
      | 8 => some { α := Lv 8 Int, R := fun ⟨i⟩ => (0 ≤ i ∧ i ≤ fs.length ∧ fs.length ≤ 31), μ := fun ⟨i⟩ => (fs.length - i).toNat, st := fun ⟨i⟩ => up σ [(6, .int .i64 i)] }
      | _ => none
    | _ => none, ?_⟩
  repeat' (first | with_reducible refine And.intro ?_ ?_ | (with_reducible intro h; first | (exact absurd h (by decide)) | (guard_hyp h : true = true; clear h) | (guard_hyp h : false = false; clear h) | (have hq := (h : Lv 8 _); clear hq; obtain ⟨_⟩ := h) | skip) | with_reducible exact True.intro | ((with_reducible refine (id ?_ : @Eq Bool (nodupN _) true)); kernel_rfl) | ((with_reducible refine (id ?_ : @Eq Bool (apartN _ _) true)); kernel_rfl) | ((with_reducible refine (id ?_ : @Eq Bool (formL _ _) true)); kernel_rfl) | ((with_reducible refine (id ?_ : @Eq _ _ _)); exact rfl) | ((conv => whnf); first | done | with_reducible refine And.intro ?_ ?_ | (with_reducible intro h; first | (exact absurd h (by decide)) | (guard_hyp h : true = true; clear h) | (guard_hyp h : false = false; clear h) | (have hq := (h : Lv 8 _); clear hq; obtain ⟨_⟩ := h) | skip) | with_reducible exact True.intro | ((with_reducible refine (id ?_ : @Eq _ _ _)); exact rfl) | refine Exists.intro (⟨?_⟩ : Lv 8 _) ?_ | refine Exists.intro _ (Exists.intro _ (And.intro hrel ?_)) | exact Or.inl rfl | exact Or.inr (And.intro rfl rfl) | (apply Exists.intro; refine And.intro ?_ ?_)) | exact Nat.le_of_ble_eq_true rfl)
  all_goals (try ((try (change _ = _)) <;> (try dsimp only at *) <;> (try simp only [decide_eq_true_eq, decide_eq_false_iff_not, Bool.not_eq_true', Bool.not_eq_false', Bool.and_eq_true, Bool.and_eq_false_iff, beq_iff_eq, bne_iff_ne, beq_eq_false_iff_ne, bne_eq_false_iff_eq, ne_eq, Decidable.not_not, bne_self_eq_false, Bool.false_eq_true, Bool.true_eq_false, Bool.not_true, Bool.not_false, not_true_eq_false, not_false_eq_true, Int.toNat_natCast, Nat.zero_add, Nat.reduceAdd, Nat.reduceMul, Nat.reduceDiv, Nat.mul_one, lenK_one, big, fill_len, marking_len, marks_len, nrms_len, List.length_set, List.length_append, List.length_map, List.length_replicate, List.length_cons, List.length_nil, Int.natCast_add, Int.natCast_one, Int.natCast_zero, decide_true] at *) <;> (repeat (with_reducible rename _ ∧ _ => hh; obtain ⟨_, _⟩ := hh)) <;> (first | omega | (refine fits_i64 ?_; omega) | (split <;> omega) | exact h2 _ (by with_reducible assumption) | (with_reducible assumption) | (exfalso; exact rl_bad (by with_reducible assumption) (by omega) (by omega) (by omega)) | (exfalso; exact rl_le (by with_reducible assumption) (by omega)) | (with_reducible exact rl_mem (by omega) (by with_reducible assumption)) | (with_reducible exact (rl_mem (by omega) (by with_reducible assumption)).symm) | (with_reducible exact rl_mem' (by omega) (by with_reducible assumption)))))
end Go.Proofs.Ytlkjddbhcbnmkaa.V
