/-
  Buffers: which ones are valid, where a page's frame is, what can be written, where repeating starts.
-/
import Derived.Test.YtfchlcghildiaaaFi
import Derived.Test.YtfchlcghildiaaaTyBuff
set_option linter.unusedSimpArgs false
set_option linter.unusedVariables false
namespace Go.Proofs.Ytfchlcghildiaaa.V
open Go Go.RowKit
open Classical

/-- A frame that is possible. -/
structure FrOk (r : Row) : Prop where
  p0 : 0 ≤ (rc r 0).int
  p1 : (rc r 0).int ≤ 5
  l0 : 0 ≤ (rc r 3).int
  l1 : (rc r 3).int ≤ 9999
  f0 : 0 ≤ (rc r 2).int
  f1 : (rc r 2).int ≤ (rc r 3).int
  d : (rc r 1).bool = decide (0 < (rc r 2).int)
/-- The first n frames are possible, and of different pages. -/
structure FrsOk (xs : List Row) (n : Int) : Prop where
  ok : ∀ j : Nat, (j : Int) < n → FrOk (row xs j)
  un : ∀ j : Nat, (j : Int) < n → NoC 0 xs (rc (row xs j) 0).int j
theorem frs_zero (xs : List Row) : FrsOk xs 0 := ⟨fun j h => by omega, fun j h => by omega⟩
theorem frs_step {xs : List Row} {i : Int} (h : FrsOk xs i) (h0 : 0 ≤ i) (h1 : FrOk (row xs i.toNat)) (h2 : NoC 0 xs (rc (row xs i.toNat) 0).int i) : FrsOk xs (i + 1) := ⟨fun j hj => by
  by_cases e : (j : Int) = i
  · subst e; exact h1
  · exact h.ok j (by omega), fun j hj => by
  by_cases e : (j : Int) = i
  · subst e; exact h2
  · exact h.un j (by omega)⟩
/-- A valid buffer. -/
structure VB (xs : List Row) (f : Int) : Prop where
  l : xs.length ≤ 4
  f0 : 0 ≤ f
  f1 : f ≤ 9999
  a : FrsOk xs xs.length
noncomputable def cVB : Ct := ⟨[], fun ds K => match ds with
  | [.agg [.view ks xs, .int .i64 f]] => ks = KFrame ∧ (xs.length : Int) < big ∧ K (.bool (decide (VB xs f))) []
  | _ => False⟩
theorem vb_row {xs : List Row} {f i : Int} (_ : FrsOk xs i) (h0 : 0 ≤ i) (hi : i < xs.length) (h : ¬ FrOk (row xs i.toNat)) : false = decide (VB xs f) := false_eq (fun v => h (v.a.ok i.toNat (by omega)))
theorem vb_two {xs : List Row} {f i k : Int} (_ : NoC 0 xs (rc (row xs i.toNat) 0).int k) (h0 : 0 ≤ k) (hk : k < i) (hi : i < xs.length) (h : (rc (row xs k.toNat) 0).int = (rc (row xs i.toNat) 0).int) : false = decide (VB xs f) :=
  false_eq (fun v => (v.a.un i.toNat (by omega)).h k.toNat (by omega) h)
theorem vb_ends {xs : List Row} {f i : Int} (h : FrsOk xs i) (hi : ¬ i < xs.length) : (decide (0 ≤ f) && decide (f ≤ 9999)) = decide (VB xs f) ∨ ¬ (xs.length : Int) ≤ 4 := by
  by_cases hl : (xs.length : Int) ≤ 4
  · left
    have ha : FrsOk xs xs.length := ⟨fun j hj => h.ok j (by omega), fun j hj => h.un j (by omega)⟩
    by_cases hf : 0 ≤ f ∧ f ≤ 9999
    · rw [← true_eq (p := VB xs f) ⟨by omega, hf.1, hf.2, ha⟩]; simp [hf]
    · rw [← false_eq (p := VB xs f) (fun v => hf ⟨v.f0, v.f1⟩)]; simp only [Bool.and_eq_false_iff, decide_eq_false_iff_not]; omega
  · exact .inr hl
theorem vb_end {xs : List Row} {f i : Int} (h : FrsOk xs i) (hi : ¬ i < xs.length) (hl : (xs.length : Int) ≤ 4) : (decide (0 ≤ f) && decide (f ≤ 9999)) = decide (VB xs f) := (vb_ends h hi).resolve_right (fun q => q hl)
theorem vb_long {xs : List Row} {f : Int} (hl : ¬ (xs.length : Int) ≤ 4) : false = decide (VB xs f) := false_eq (fun v => hl (by have := v.l; omega))
theorem vb_no {xs : List Row} {f : Int} (hl : ¬ ((xs.length : Int) ≤ 4 ∧ 0 ≤ f ∧ f ≤ 9999)) : false = decide (VB xs f) := false_eq (fun v => hl ⟨by have := v.l; omega, v.f0, v.f1⟩)
theorem vb_yes {xs : List Row} {f i : Int} (h : FrsOk xs i) (hi : ¬ i < xs.length) (hl : (xs.length : Int) ≤ 4 ∧ 0 ≤ f ∧ f ≤ 9999) : true = decide (VB xs f) :=
  true_eq ⟨by omega, hl.2.1, hl.2.2, ⟨fun j hj => h.ok j (by omega), fun j hj => h.un j (by omega)⟩⟩
theorem fr_no {r : Row} (h : ¬ (0 ≤ (rc r 0).int ∧ (rc r 0).int ≤ 5 ∧ 0 ≤ (rc r 3).int ∧ (rc r 3).int ≤ 9999 ∧ 0 ≤ (rc r 2).int ∧ (rc r 2).int ≤ (rc r 3).int)) : ¬ FrOk r := fun q => h ⟨q.p0, q.p1, q.l0, q.l1, q.f0, q.f1⟩
theorem fr_nod {r : Row} (h : ¬ (rc r 1).bool = decide (0 < (rc r 2).int)) : ¬ FrOk r := fun q => h q.d
theorem vb_find {xs : List Row} {f i : Int} (_ : FrsOk xs i) (h0 : 0 ≤ i) (hi : i < xs.length) (h : ¬ findC 0 xs (rc (row xs i.toNat) 0).int = i) : false = decide (VB xs f) := false_eq (fun v => by
  have hu := v.a.un i.toNat (by omega)
  rw [Int.toNat_of_nonneg h0] at hu
  exact h (find_at h0 hi rfl hu).symm)
theorem find_no {xs : List Row} {i p : Int} (h0 : 0 ≤ i) (h : findC 0 xs p = i) : NoC 0 xs p i := by
  have := (find_spec 0 xs p).no (by omega)
  rwa [h] at this

set_option maxRecDepth 100000 in
set_option maxHeartbeats 4000000 in
theorem p_svB : Proved 38 cVB := by
  refine proved_of [(58, cInRange)] ⟨p_inRange, trivial⟩ [.tmp 2] Try.func38 rfl rfl rfl rfl (by kernel_rfl) ?_
  intro ds K hrel
  simp only [cVB] at hrel
  split at hrel
  case h_2 => exact hrel.elim
  rename_i ks xs f
  obtain ⟨rfl, h1, hrel⟩ := hrel
  refine ⟨rfl, Nat.le_of_ble_eq_true rfl, fun k σ => match k with
    | 2 => some { α := Lv 2 Int, R := fun ⟨i⟩ => (0 ≤ i ∧ i ≤ xs.length) ∧ FrsOk xs i, μ := fun ⟨i⟩ => (xs.length - i).toNat, st := fun ⟨i⟩ => up σ [(3, .int .i64 i)] }
    | 8 => match lookT σ.tm 3 with
      | .int _ i => some { α := Lv 8 Int, R := fun ⟨k⟩ => (0 ≤ k ∧ k ≤ i ∧ 0 ≤ i ∧ i < xs.length) ∧ FrsOk xs i ∧ FrOk (row xs i.toNat) ∧ NoC 0 xs (rc (row xs i.toNat) 0).int k, μ := fun ⟨k⟩ => (i - k).toNat, st := fun ⟨k⟩ => up σ [(5, .int .i64 k)] }
      | _ => none
    | _ => none, ?_⟩
  repeat' (first | with_reducible refine And.intro ?_ ?_ | (with_reducible intro h; first | (exact absurd h (by decide)) | (guard_hyp h : true = true; clear h) | (guard_hyp h : false = false; clear h) | (have hq := (h : Lv 2 _); clear hq; obtain ⟨_⟩ := h) | (have hq := (h : Lv 8 _); clear hq; obtain ⟨_⟩ := h) | skip) | with_reducible exact True.intro | ((with_reducible refine (id ?_ : @Eq Bool (nodupN _) true)); kernel_rfl) | ((with_reducible refine (id ?_ : @Eq Bool (apartN _ _) true)); kernel_rfl) | ((with_reducible refine (id ?_ : @Eq Bool (formL _ _) true)); kernel_rfl) | ((with_reducible refine (id ?_ : @Eq _ _ _)); exact rfl) | ((conv => whnf); first | done | with_reducible refine And.intro ?_ ?_ | (with_reducible intro h; first | (exact absurd h (by decide)) | (guard_hyp h : true = true; clear h) | (guard_hyp h : false = false; clear h) | (have hq := (h : Lv 2 _); clear hq; obtain ⟨_⟩ := h) | (have hq := (h : Lv 8 _); clear hq; obtain ⟨_⟩ := h) | skip) | with_reducible exact True.intro | ((with_reducible refine (id ?_ : @Eq _ _ _)); exact rfl) | refine Exists.intro (⟨?_⟩ : Lv 2 _) ?_ | refine Exists.intro (⟨?_⟩ : Lv 8 _) ?_ | refine Exists.intro _ (Exists.intro _ (And.intro hrel ?_)) | exact Or.inl rfl | exact Or.inr (And.intro rfl rfl) | (apply Exists.intro; refine And.intro ?_ ?_)) | exact Nat.le_of_ble_eq_true rfl)
  all_goals (try ((try (change _ = _)) <;> (try dsimp only at *) <;> (try simp only [decide_eq_true_eq, decide_eq_false_iff_not, Bool.not_eq_true', Bool.not_eq_false', Bool.and_eq_true, Bool.and_eq_false_iff, beq_iff_eq, bne_iff_ne, beq_eq_false_iff_ne, bne_eq_false_iff_eq, ne_eq, Decidable.not_not, bne_self_eq_false, Bool.false_eq_true, Bool.true_eq_false, Bool.not_true, Bool.not_false, not_true_eq_false, not_false_eq_true, Int.toNat_natCast, Nat.zero_add, Nat.reduceAdd, Nat.reduceMul, Nat.reduceDiv, Nat.mul_one, lenK_one, big, fill_len, marking_len, marks_len, nrms_len, List.length_set, List.length_append, List.length_map, List.length_replicate, List.length_cons, List.length_nil, Int.natCast_add, Int.natCast_one, Int.natCast_zero] at *) <;> (repeat (with_reducible rename _ ∧ _ => hh; obtain ⟨_, _⟩ := hh)) <;> (first | omega | (refine fits_i64 ?_; omega) | (split <;> omega) | exact frs_zero _ | exact noC_zero _ _ _ | assumption | exact noC_step (by assumption) (by assumption) | exact vb_two (by assumption) (by omega) (by omega) (by omega) (by assumption) | (refine frs_step (by assumption) (by omega) (by assumption) ?_; rename NoC _ _ _ _ => hn; exact ⟨fun j hj => hn.h j (by omega)⟩) | exact vb_row (by assumption) (by omega) (by omega) (fr_no (by omega)) | exact vb_row (by assumption) (by omega) (by omega) (fr_nod (by assumption)) | (refine ⟨?_, ?_, ?_, ?_, ?_, ?_, ?_⟩ <;> first | omega | assumption) | exact vb_long (by omega) | exact vb_end (by assumption) (by omega) (by omega))))
set_option maxRecDepth 100000 in
set_option maxHeartbeats 4000000 in
theorem p_sVB : Proved 14 cVB := by
  refine proved_of [(38, cVB)] ⟨p_svB, trivial⟩ [.tmp 2] Try.func14 rfl rfl rfl rfl (by kernel_rfl) ?_
  intro ds K hrel
  simp only [cVB] at hrel
  split at hrel
  case h_2 => exact hrel.elim
  obtain ⟨rfl, h1, hrel⟩ := hrel
  refine ⟨rfl, Nat.le_of_ble_eq_true rfl, fun _ _ => none, ?_⟩
  repeat' (first | with_reducible refine And.intro ?_ ?_ | (with_reducible intro h; first | (exact absurd h (by decide)) | (guard_hyp h : true = true; clear h) | (guard_hyp h : false = false; clear h) | skip) | with_reducible exact True.intro | ((with_reducible refine (id ?_ : @Eq Bool (nodupN _) true)); kernel_rfl) | ((with_reducible refine (id ?_ : @Eq Bool (apartN _ _) true)); kernel_rfl) | ((with_reducible refine (id ?_ : @Eq Bool (formL _ _) true)); kernel_rfl) | ((with_reducible refine (id ?_ : @Eq _ _ _)); exact rfl) | ((conv => whnf); first | done | with_reducible refine And.intro ?_ ?_ | (with_reducible intro h; first | (exact absurd h (by decide)) | (guard_hyp h : true = true; clear h) | (guard_hyp h : false = false; clear h) | skip) | with_reducible exact True.intro | ((with_reducible refine (id ?_ : @Eq _ _ _)); exact rfl) | refine Exists.intro _ (Exists.intro _ (And.intro hrel ?_)) | exact Or.inl rfl | exact Or.inr (And.intro rfl rfl) | (apply Exists.intro; refine And.intro ?_ ?_)) | exact Nat.le_of_ble_eq_true rfl)
  all_goals (try ((try (change _ = _)) <;> (try dsimp only at *) <;> (try simp only [decide_eq_true_eq, decide_eq_false_iff_not, Bool.not_eq_true', Bool.not_eq_false', Bool.and_eq_true, Bool.and_eq_false_iff, beq_iff_eq, bne_iff_ne, beq_eq_false_iff_ne, bne_eq_false_iff_eq, ne_eq, Decidable.not_not, bne_self_eq_false, Bool.false_eq_true, Bool.true_eq_false, Bool.not_true, Bool.not_false, not_true_eq_false, not_false_eq_true, Int.toNat_natCast, Nat.zero_add, Nat.reduceAdd, Nat.reduceMul, Nat.reduceDiv, Nat.mul_one, lenK_one, big, fill_len, marking_len, marks_len, nrms_len, List.length_set, List.length_append, List.length_map, List.length_replicate, List.length_cons, List.length_nil, Int.natCast_add, Int.natCast_one, Int.natCast_zero] at *) <;> (repeat (with_reducible rename _ ∧ _ => hh; obtain ⟨_, _⟩ := hh)) <;> (first | omega | (refine fits_i64 ?_; omega) | (split <;> omega))))

/-- Where a page's frame is. -/
def cFind1 : Ct := ⟨[], fun ds K => match ds with
  | [.agg [.int .i64 a, .bool b, .int .i64 c, .int .i64 d], .vcel [.int .i64] [[.i p]] 0 0] => K (.bool (a == p)) []
  | _ => False⟩
set_option maxRecDepth 100000 in
set_option maxHeartbeats 4000000 in
theorem p_find1 : Proved 61 cFind1 := by
  refine proved_of [] trivial [.tmp 3] Try.func61 rfl rfl rfl rfl (by kernel_rfl) ?_
  intro ds K hrel
  simp only [cFind1] at hrel
  split at hrel
  case h_2 => exact hrel.elim
  refine ⟨rfl, Nat.le_of_ble_eq_true rfl, fun _ _ => none, ?_⟩
  repeat' (first | with_reducible refine And.intro ?_ ?_ | (with_reducible intro h; first | (exact absurd h (by decide)) | (guard_hyp h : true = true; clear h) | (guard_hyp h : false = false; clear h) | skip) | with_reducible exact True.intro | ((with_reducible refine (id ?_ : @Eq Bool (nodupN _) true)); kernel_rfl) | ((with_reducible refine (id ?_ : @Eq Bool (apartN _ _) true)); kernel_rfl) | ((with_reducible refine (id ?_ : @Eq Bool (formL _ _) true)); kernel_rfl) | ((with_reducible refine (id ?_ : @Eq _ _ _)); exact rfl) | ((conv => whnf); first | done | with_reducible refine And.intro ?_ ?_ | (with_reducible intro h; first | (exact absurd h (by decide)) | (guard_hyp h : true = true; clear h) | (guard_hyp h : false = false; clear h) | skip) | with_reducible exact True.intro | ((with_reducible refine (id ?_ : @Eq _ _ _)); exact rfl) | refine Exists.intro _ (Exists.intro _ (And.intro hrel ?_)) | exact Or.inl rfl | exact Or.inr (And.intro rfl rfl) | (apply Exists.intro; refine And.intro ?_ ?_)) | exact Nat.le_of_ble_eq_true rfl)
  all_goals (try ((try (change _ = _)) <;> (try dsimp only at *) <;> (try simp only [decide_eq_true_eq, decide_eq_false_iff_not, Bool.not_eq_true', Bool.not_eq_false', Bool.and_eq_true, Bool.and_eq_false_iff, beq_iff_eq, bne_iff_ne, beq_eq_false_iff_ne, bne_eq_false_iff_eq, ne_eq, Decidable.not_not, bne_self_eq_false, Bool.false_eq_true, Bool.true_eq_false, Bool.not_true, Bool.not_false, not_true_eq_false, not_false_eq_true, Int.toNat_natCast, Nat.zero_add, Nat.reduceAdd, Nat.reduceMul, Nat.reduceDiv, Nat.mul_one, lenK_one, big, fill_len, marking_len, marks_len, nrms_len, List.length_set, List.length_append, List.length_map, List.length_replicate, List.length_cons, List.length_nil, Int.natCast_add, Int.natCast_one, Int.natCast_zero] at *) <;> (repeat (with_reducible rename _ ∧ _ => hh; obtain ⟨_, _⟩ := hh)) <;> (first | omega | (refine fits_i64 ?_; omega) | (split <;> omega))))
def cIdxF : Ct := ⟨[], fun ds K => match ds with
  | [.view ks xs, .fn f [.vcel [.int .i64] [[.i p]] 0 0]] => f = 61 ∧ ks = KFrame ∧ (xs.length : Int) < big ∧ K (.int .i64 (findC 0 xs p)) []
  | _ => False⟩
set_option maxRecDepth 100000 in
set_option maxHeartbeats 4000000 in
theorem p_idxF : Proved 60 cIdxF := by
  refine proved_of [(61, cFind1)] ⟨p_find1, trivial⟩ [.tmp 4] Try.func60 rfl rfl rfl rfl (by kernel_rfl) ?_
  intro ds K hrel
  simp only [cIdxF] at hrel
  split at hrel
  case h_2 => exact hrel.elim
  rename_i ks xs f p
  obtain ⟨rfl, rfl, h1, hrel⟩ := hrel
  refine ⟨rfl, Nat.le_of_ble_eq_true rfl, fun k σ => match k with
    | 2 => some { α := Lv 2 Int, R := fun ⟨i⟩ => (0 ≤ i ∧ i ≤ xs.length) ∧ NoC 0 xs p i, μ := fun ⟨i⟩ => (xs.length - i).toNat, st := fun ⟨i⟩ => up σ [(8, .int .i64 i)] }
    | _ => none, ?_⟩
  repeat' (first | with_reducible refine And.intro ?_ ?_ | (with_reducible intro h; first | (exact absurd h (by decide)) | (guard_hyp h : true = true; clear h) | (guard_hyp h : false = false; clear h) | (have hq := (h : Lv 2 _); clear hq; obtain ⟨_⟩ := h) | skip) | with_reducible exact True.intro | ((with_reducible refine (id ?_ : @Eq Bool (nodupN _) true)); kernel_rfl) | ((with_reducible refine (id ?_ : @Eq Bool (apartN _ _) true)); kernel_rfl) | ((with_reducible refine (id ?_ : @Eq Bool (formL _ _) true)); kernel_rfl) | ((with_reducible refine (id ?_ : @Eq _ _ _)); exact rfl) | ((conv => whnf); first | done | with_reducible refine And.intro ?_ ?_ | (with_reducible intro h; first | (exact absurd h (by decide)) | (guard_hyp h : true = true; clear h) | (guard_hyp h : false = false; clear h) | (have hq := (h : Lv 2 _); clear hq; obtain ⟨_⟩ := h) | skip) | with_reducible exact True.intro | ((with_reducible refine (id ?_ : @Eq _ _ _)); exact rfl) | refine Exists.intro (⟨?_⟩ : Lv 2 _) ?_ | refine Exists.intro _ (Exists.intro _ (And.intro hrel ?_)) | exact Or.inl rfl | exact Or.inr (And.intro rfl rfl) | (apply Exists.intro; refine And.intro ?_ ?_)) | exact Nat.le_of_ble_eq_true rfl)
  all_goals (try ((try (change _ = _)) <;> (try dsimp only at *) <;> (try simp only [decide_eq_true_eq, decide_eq_false_iff_not, Bool.not_eq_true', Bool.not_eq_false', Bool.and_eq_true, Bool.and_eq_false_iff, beq_iff_eq, bne_iff_ne, beq_eq_false_iff_ne, bne_eq_false_iff_eq, ne_eq, Decidable.not_not, bne_self_eq_false, Bool.false_eq_true, Bool.true_eq_false, Bool.not_true, Bool.not_false, not_true_eq_false, not_false_eq_true, Int.toNat_natCast, Nat.zero_add, Nat.reduceAdd, Nat.reduceMul, Nat.reduceDiv, Nat.mul_one, lenK_one, big, fill_len, marking_len, marks_len, nrms_len, List.length_set, List.length_append, List.length_map, List.length_replicate, List.length_cons, List.length_nil, Int.natCast_add, Int.natCast_one, Int.natCast_zero] at *) <;> (repeat (with_reducible rename _ ∧ _ => hh; obtain ⟨_, _⟩ := hh)) <;> (first | omega | (refine fits_i64 ?_; omega) | (split <;> omega) | exact noC_zero _ _ _ | exact noC_step (by assumption) (by assumption) | exact find_at (by omega) (by omega) (by assumption) (by assumption) | exact find_none (by omega) (by assumption))))
def cFind : Ct := ⟨[], fun ds K => match ds with
  | [.agg [.view ks xs, .int .i64 f], .int .i64 p] => ks = KFrame ∧ (xs.length : Int) < big ∧ K (.int .i64 (findC 0 xs p)) []
  | _ => False⟩
set_option maxRecDepth 100000 in
set_option maxHeartbeats 4000000 in
theorem p_find : Proved 40 cFind := by
  refine proved_of [(60, cIdxF)] ⟨p_idxF, trivial⟩ [.tmp 4] Try.func40 rfl rfl rfl rfl (by kernel_rfl) ?_
  intro ds K hrel
  simp only [cFind] at hrel
  split at hrel
  case h_2 => exact hrel.elim
  obtain ⟨rfl, h1, hrel⟩ := hrel
  refine ⟨rfl, Nat.le_of_ble_eq_true rfl, fun _ _ => none, ?_⟩
  repeat' (first | with_reducible refine And.intro ?_ ?_ | (with_reducible intro h; first | (exact absurd h (by decide)) | (guard_hyp h : true = true; clear h) | (guard_hyp h : false = false; clear h) | skip) | with_reducible exact True.intro | ((with_reducible refine (id ?_ : @Eq Bool (nodupN _) true)); kernel_rfl) | ((with_reducible refine (id ?_ : @Eq Bool (apartN _ _) true)); kernel_rfl) | ((with_reducible refine (id ?_ : @Eq Bool (formL _ _) true)); kernel_rfl) | ((with_reducible refine (id ?_ : @Eq _ _ _)); exact rfl) | ((conv => whnf); first | done | with_reducible refine And.intro ?_ ?_ | (with_reducible intro h; first | (exact absurd h (by decide)) | (guard_hyp h : true = true; clear h) | (guard_hyp h : false = false; clear h) | skip) | with_reducible exact True.intro | ((with_reducible refine (id ?_ : @Eq _ _ _)); exact rfl) | refine Exists.intro _ (Exists.intro _ (And.intro hrel ?_)) | exact Or.inl rfl | exact Or.inr (And.intro rfl rfl) | (apply Exists.intro; refine And.intro ?_ ?_)) | exact Nat.le_of_ble_eq_true rfl)
  all_goals (try ((try (change _ = _)) <;> (try dsimp only at *) <;> (try simp only [decide_eq_true_eq, decide_eq_false_iff_not, Bool.not_eq_true', Bool.not_eq_false', Bool.and_eq_true, Bool.and_eq_false_iff, beq_iff_eq, bne_iff_ne, beq_eq_false_iff_ne, bne_eq_false_iff_eq, ne_eq, Decidable.not_not, bne_self_eq_false, Bool.false_eq_true, Bool.true_eq_false, Bool.not_true, Bool.not_false, not_true_eq_false, not_false_eq_true, Int.toNat_natCast, Nat.zero_add, Nat.reduceAdd, Nat.reduceMul, Nat.reduceDiv, Nat.mul_one, lenK_one, big, fill_len, marking_len, marks_len, nrms_len, List.length_set, List.length_append, List.length_map, List.length_replicate, List.length_cons, List.length_nil, Int.natCast_add, Int.natCast_one, Int.natCast_zero] at *) <;> (repeat (with_reducible rename _ ∧ _ => hh; obtain ⟨_, _⟩ := hh)) <;> (first | omega | (refine fits_i64 ?_; omega) | (split <;> omega))))
set_option maxRecDepth 100000 in
set_option maxHeartbeats 4000000 in
theorem p_frameOf : Proved 42 cFind := by
  refine proved_of [] trivial [.tmp 4] Try.func42 rfl rfl rfl rfl (by kernel_rfl) ?_
  intro ds K hrel
  simp only [cFind] at hrel
  split at hrel
  case h_2 => exact hrel.elim
  rename_i ks xs f p
  obtain ⟨rfl, h1, hrel⟩ := hrel
  refine ⟨rfl, Nat.le_of_ble_eq_true rfl, fun k σ => match k with
    | 2 => some { α := Lv 2 Int, R := fun ⟨i⟩ => (0 ≤ i ∧ i ≤ xs.length) ∧ NoC 0 xs p i, μ := fun ⟨i⟩ => (xs.length - i).toNat, st := fun ⟨i⟩ => up σ [(5, .int .i64 i)] }
    | _ => none, ?_⟩
  repeat' (first | with_reducible refine And.intro ?_ ?_ | (with_reducible intro h; first | (exact absurd h (by decide)) | (guard_hyp h : true = true; clear h) | (guard_hyp h : false = false; clear h) | (have hq := (h : Lv 2 _); clear hq; obtain ⟨_⟩ := h) | skip) | with_reducible exact True.intro | ((with_reducible refine (id ?_ : @Eq Bool (nodupN _) true)); kernel_rfl) | ((with_reducible refine (id ?_ : @Eq Bool (apartN _ _) true)); kernel_rfl) | ((with_reducible refine (id ?_ : @Eq Bool (formL _ _) true)); kernel_rfl) | ((with_reducible refine (id ?_ : @Eq _ _ _)); exact rfl) | ((conv => whnf); first | done | with_reducible refine And.intro ?_ ?_ | (with_reducible intro h; first | (exact absurd h (by decide)) | (guard_hyp h : true = true; clear h) | (guard_hyp h : false = false; clear h) | (have hq := (h : Lv 2 _); clear hq; obtain ⟨_⟩ := h) | skip) | with_reducible exact True.intro | ((with_reducible refine (id ?_ : @Eq _ _ _)); exact rfl) | refine Exists.intro (⟨?_⟩ : Lv 2 _) ?_ | refine Exists.intro _ (Exists.intro _ (And.intro hrel ?_)) | exact Or.inl rfl | exact Or.inr (And.intro rfl rfl) | (apply Exists.intro; refine And.intro ?_ ?_)) | exact Nat.le_of_ble_eq_true rfl)
  all_goals (try ((try (change _ = _)) <;> (try dsimp only at *) <;> (try simp only [decide_eq_true_eq, decide_eq_false_iff_not, Bool.not_eq_true', Bool.not_eq_false', Bool.and_eq_true, Bool.and_eq_false_iff, beq_iff_eq, bne_iff_ne, beq_eq_false_iff_ne, bne_eq_false_iff_eq, ne_eq, Decidable.not_not, bne_self_eq_false, Bool.false_eq_true, Bool.true_eq_false, Bool.not_true, Bool.not_false, not_true_eq_false, not_false_eq_true, Int.toNat_natCast, Nat.zero_add, Nat.reduceAdd, Nat.reduceMul, Nat.reduceDiv, Nat.mul_one, lenK_one, big, fill_len, marking_len, marks_len, nrms_len, List.length_set, List.length_append, List.length_map, List.length_replicate, List.length_cons, List.length_nil, Int.natCast_add, Int.natCast_one, Int.natCast_zero] at *) <;> (repeat (with_reducible rename _ ∧ _ => hh; obtain ⟨_, _⟩ := hh)) <;> (first | omega | (refine fits_i64 ?_; omega) | (split <;> omega) | exact noC_zero _ _ _ | exact noC_step (by assumption) (by assumption) | exact find_at (by omega) (by omega) (by assumption) (by assumption) | exact find_none (by omega) (by assumption))))
set_option maxRecDepth 100000 in
set_option maxHeartbeats 4000000 in
theorem p_iVB : Proved 16 cVB := by
  refine proved_of [(40, cFind)] ⟨p_find, trivial⟩ [.tmp 2] Try.func16 rfl rfl rfl rfl (by kernel_rfl) ?_
  intro ds K hrel
  simp only [cVB] at hrel
  split at hrel
  case h_2 => exact hrel.elim
  rename_i ks xs f
  obtain ⟨rfl, h1, hrel⟩ := hrel
  refine ⟨rfl, Nat.le_of_ble_eq_true rfl, fun k σ => match k with
    | 4 => some { α := Lv 4 Int, R := fun ⟨i⟩ => (0 ≤ i ∧ i ≤ xs.length ∧ (xs.length : Int) ≤ 4 ∧ 0 ≤ f ∧ f ≤ 9999) ∧ FrsOk xs i, μ := fun ⟨i⟩ => (xs.length - i).toNat, st := fun ⟨i⟩ => up σ [(22, .int .i64 i)] }
    | _ => none, ?_⟩
  repeat' (first | with_reducible refine And.intro ?_ ?_ | (with_reducible intro h; first | (exact absurd h (by decide)) | (guard_hyp h : true = true; clear h) | (guard_hyp h : false = false; clear h) | (have hq := (h : Lv 4 _); clear hq; obtain ⟨_⟩ := h) | skip) | with_reducible exact True.intro | ((with_reducible refine (id ?_ : @Eq Bool (nodupN _) true)); kernel_rfl) | ((with_reducible refine (id ?_ : @Eq Bool (apartN _ _) true)); kernel_rfl) | ((with_reducible refine (id ?_ : @Eq Bool (formL _ _) true)); kernel_rfl) | ((with_reducible refine (id ?_ : @Eq _ _ _)); exact rfl) | ((conv => whnf); first | done | with_reducible refine And.intro ?_ ?_ | (with_reducible intro h; first | (exact absurd h (by decide)) | (guard_hyp h : true = true; clear h) | (guard_hyp h : false = false; clear h) | (have hq := (h : Lv 4 _); clear hq; obtain ⟨_⟩ := h) | skip) | with_reducible exact True.intro | ((with_reducible refine (id ?_ : @Eq _ _ _)); exact rfl) | refine Exists.intro (⟨?_⟩ : Lv 4 _) ?_ | refine Exists.intro _ (Exists.intro _ (And.intro hrel ?_)) | exact Or.inl rfl | exact Or.inr (And.intro rfl rfl) | (apply Exists.intro; refine And.intro ?_ ?_)) | exact Nat.le_of_ble_eq_true rfl)
  all_goals (try ((try (change _ = _)) <;> (try dsimp only at *) <;> (try simp only [decide_eq_true_eq, decide_eq_false_iff_not, Bool.not_eq_true', Bool.not_eq_false', Bool.and_eq_true, Bool.and_eq_false_iff, beq_iff_eq, bne_iff_ne, beq_eq_false_iff_ne, bne_eq_false_iff_eq, ne_eq, Decidable.not_not, bne_self_eq_false, Bool.false_eq_true, Bool.true_eq_false, Bool.not_true, Bool.not_false, not_true_eq_false, not_false_eq_true, Int.toNat_natCast, Nat.zero_add, Nat.reduceAdd, Nat.reduceMul, Nat.reduceDiv, Nat.mul_one, lenK_one, big, fill_len, marking_len, marks_len, nrms_len, List.length_set, List.length_append, List.length_map, List.length_replicate, List.length_cons, List.length_nil, Int.natCast_add, Int.natCast_one, Int.natCast_zero] at *) <;> (repeat (with_reducible rename _ ∧ _ => hh; obtain ⟨_, _⟩ := hh)) <;> (first | omega | (refine fits_i64 ?_; omega) | (split <;> omega) | exact frs_zero _ | exact vb_no (by omega) | (refine frs_step (by assumption) (by omega) ?_ (find_no (by omega) (by assumption)); (refine ⟨?_, ?_, ?_, ?_, ?_, ?_, ?_⟩ <;> first | omega | assumption)) | exact vb_find (by assumption) (by omega) (by omega) (by assumption) | exact vb_row (by assumption) (by omega) (by omega) (fr_no (by omega)) | exact vb_row (by assumption) (by omega) (by omega) (fr_nod (by assumption)) | exact vb_yes (by assumption) (by omega) (by omega))))

/-- A page that can be written. -/
structure CW (xs : List Row) (f p : Int) : Prop where
  v : VB xs f
  a : 0 ≤ findC 0 xs p
  d : (rc (row xs (findC 0 xs p).toNat) 1).bool = true
  l : (rc (row xs (findC 0 xs p).toNat) 3).int ≤ f
theorem cw_no1 {xs : List Row} {f p : Int} (h : ¬ VB xs f) : false = decide (CW xs f p) := false_eq (fun q => h q.v)
theorem cw_no2 {xs : List Row} {f p : Int} (h : ¬ 0 ≤ findC 0 xs p) : false = decide (CW xs f p) := false_eq (fun q => h q.a)
theorem cw_no3 {xs : List Row} {f p : Int} (h : (rc (row xs (findC 0 xs p).toNat) 1).bool = false) : false = decide (CW xs f p) := false_eq (fun q => by have := q.d; rw [h] at this; cases this)
theorem cw_pick {xs : List Row} {f p : Int} (h : VB xs f) (h2 : 0 ≤ findC 0 xs p) (h3 : (rc (row xs (findC 0 xs p).toNat) 1).bool = true) : decide ((rc (row xs (findC 0 xs p).toNat) 3).int ≤ f) = decide (CW xs f p) := by
  rw [decide_eq_decide]; exact ⟨fun q => ⟨h, h2, h3, q⟩, fun q => q.l⟩
noncomputable def cCW : Ct := ⟨[], fun ds K => match ds with
  | [.agg [.view ks xs, .int .i64 f], .int .i64 p] => ks = KFrame ∧ (xs.length : Int) < big ∧ K (.bool (decide (CW xs f p))) []
  | _ => False⟩
set_option maxRecDepth 100000 in
set_option maxHeartbeats 4000000 in
theorem p_sCW : Proved 18 cCW := by
  refine proved_of [(42, cFind), (38, cVB)] ⟨p_frameOf, p_svB, trivial⟩ [.tmp 4] Try.func18 rfl rfl rfl rfl (by kernel_rfl) ?_
  intro ds K hrel
  simp only [cCW] at hrel
  split at hrel
  case h_2 => exact hrel.elim
  rename_i ks xs f p
  obtain ⟨rfl, h1, hrel⟩ := hrel
  have hi := find_hi 0 xs p
  refine ⟨rfl, Nat.le_of_ble_eq_true rfl, fun _ _ => none, ?_⟩
  repeat' (first | with_reducible refine And.intro ?_ ?_ | (with_reducible intro h; first | (exact absurd h (by decide)) | (guard_hyp h : true = true; clear h) | (guard_hyp h : false = false; clear h) | skip) | with_reducible exact True.intro | ((with_reducible refine (id ?_ : @Eq Bool (nodupN _) true)); kernel_rfl) | ((with_reducible refine (id ?_ : @Eq Bool (apartN _ _) true)); kernel_rfl) | ((with_reducible refine (id ?_ : @Eq Bool (formL _ _) true)); kernel_rfl) | ((with_reducible refine (id ?_ : @Eq _ _ _)); exact rfl) | ((conv => whnf); first | done | with_reducible refine And.intro ?_ ?_ | (with_reducible intro h; first | (exact absurd h (by decide)) | (guard_hyp h : true = true; clear h) | (guard_hyp h : false = false; clear h) | skip) | with_reducible exact True.intro | ((with_reducible refine (id ?_ : @Eq _ _ _)); exact rfl) | refine Exists.intro _ (Exists.intro _ (And.intro hrel ?_)) | exact Or.inl rfl | exact Or.inr (And.intro rfl rfl) | (apply Exists.intro; refine And.intro ?_ ?_)) | exact Nat.le_of_ble_eq_true rfl)
  all_goals (try ((try (change _ = _)) <;> (try dsimp only at *) <;> (try simp only [decide_eq_true_eq, decide_eq_false_iff_not, Bool.not_eq_true', Bool.not_eq_false', Bool.and_eq_true, Bool.and_eq_false_iff, beq_iff_eq, bne_iff_ne, beq_eq_false_iff_ne, bne_eq_false_iff_eq, ne_eq, Decidable.not_not, bne_self_eq_false, Bool.false_eq_true, Bool.true_eq_false, Bool.not_true, Bool.not_false, not_true_eq_false, not_false_eq_true, Int.toNat_natCast, Nat.zero_add, Nat.reduceAdd, Nat.reduceMul, Nat.reduceDiv, Nat.mul_one, lenK_one, big, fill_len, marking_len, marks_len, nrms_len, List.length_set, List.length_append, List.length_map, List.length_replicate, List.length_cons, List.length_nil, Int.natCast_add, Int.natCast_one, Int.natCast_zero] at *) <;> (repeat (with_reducible rename _ ∧ _ => hh; obtain ⟨_, _⟩ := hh)) <;> (first | omega | (refine fits_i64 ?_; omega) | (split <;> omega) | exact cw_no1 (by assumption) | exact cw_no2 (by omega) | exact cw_no3 (by assumption) | exact cw_pick (by assumption) (by omega) (by assumption))))
set_option maxRecDepth 100000 in
set_option maxHeartbeats 4000000 in
theorem p_iCW : Proved 19 cCW := by
  refine proved_of [(40, cFind), (16, cVB)] ⟨p_find, p_iVB, trivial⟩ [.tmp 4] Try.func19 rfl rfl rfl rfl (by kernel_rfl) ?_
  intro ds K hrel
  simp only [cCW] at hrel
  split at hrel
  case h_2 => exact hrel.elim
  rename_i ks xs f p
  obtain ⟨rfl, h1, hrel⟩ := hrel
  have hi := find_hi 0 xs p
  refine ⟨rfl, Nat.le_of_ble_eq_true rfl, fun _ _ => none, ?_⟩
  repeat' (first | with_reducible refine And.intro ?_ ?_ | (with_reducible intro h; first | (exact absurd h (by decide)) | (guard_hyp h : true = true; clear h) | (guard_hyp h : false = false; clear h) | skip) | with_reducible exact True.intro | ((with_reducible refine (id ?_ : @Eq Bool (nodupN _) true)); kernel_rfl) | ((with_reducible refine (id ?_ : @Eq Bool (apartN _ _) true)); kernel_rfl) | ((with_reducible refine (id ?_ : @Eq Bool (formL _ _) true)); kernel_rfl) | ((with_reducible refine (id ?_ : @Eq _ _ _)); exact rfl) | ((conv => whnf); first | done | with_reducible refine And.intro ?_ ?_ | (with_reducible intro h; first | (exact absurd h (by decide)) | (guard_hyp h : true = true; clear h) | (guard_hyp h : false = false; clear h) | skip) | with_reducible exact True.intro | ((with_reducible refine (id ?_ : @Eq _ _ _)); exact rfl) | refine Exists.intro _ (Exists.intro _ (And.intro hrel ?_)) | exact Or.inl rfl | exact Or.inr (And.intro rfl rfl) | (apply Exists.intro; refine And.intro ?_ ?_)) | exact Nat.le_of_ble_eq_true rfl)
  all_goals (try ((try (change _ = _)) <;> (try dsimp only at *) <;> (try simp only [decide_eq_true_eq, decide_eq_false_iff_not, Bool.not_eq_true', Bool.not_eq_false', Bool.and_eq_true, Bool.and_eq_false_iff, beq_iff_eq, bne_iff_ne, beq_eq_false_iff_ne, bne_eq_false_iff_eq, ne_eq, Decidable.not_not, bne_self_eq_false, Bool.false_eq_true, Bool.true_eq_false, Bool.not_true, Bool.not_false, not_true_eq_false, not_false_eq_true, Int.toNat_natCast, Nat.zero_add, Nat.reduceAdd, Nat.reduceMul, Nat.reduceDiv, Nat.mul_one, lenK_one, big, fill_len, marking_len, marks_len, nrms_len, List.length_set, List.length_append, List.length_map, List.length_replicate, List.length_cons, List.length_nil, Int.natCast_add, Int.natCast_one, Int.natCast_zero] at *) <;> (repeat (with_reducible rename _ ∧ _ => hh; obtain ⟨_, _⟩ := hh)) <;> (first | omega | (refine fits_i64 ?_; omega) | (split <;> omega) | exact cw_no1 (by assumption) | exact cw_no2 (by omega) | exact cw_no3 (by assumption) | exact cw_pick (by assumption) (by omega) (by assumption))))

/-- The smallest First of the dirty frames. -/
@[irreducible] def rst (xs : List Row) : Int := xs.foldl (fun m r => if (rc r 1).bool = true ∧ (m = 0 ∨ (rc r 2).int < m) then (rc r 2).int else m) 0
theorem rst_zero (xs : List Row) : rst (xs.take (Int.toNat 0)) = 0 := by simp [rst]
theorem rst_snoc (xs : List Row) (r : Row) : rst (xs ++ [r]) = if (rc r 1).bool = true ∧ (rst xs = 0 ∨ (rc r 2).int < rst xs) then (rc r 2).int else rst xs := by simp [rst]
theorem rst_yes {xs : List Row} {i : Int} (h0 : 0 ≤ i) (hi : i < xs.length) (h : (rc (row xs i.toNat) 1).bool = true) (h2 : rst (xs.take i.toNat) = 0 ∨ (rc (row xs i.toNat) 2).int < rst (xs.take i.toNat)) : (rc (row xs i.toNat) 2).int = rst (xs.take (i + 1).toNat) := by
  rw [show (i + 1).toNat = i.toNat + 1 by omega, take_succ_row (by omega), rst_snoc, if_pos ⟨h, h2⟩]
theorem rst_no {xs : List Row} {i : Int} (h0 : 0 ≤ i) (hi : i < xs.length) (h2 : ¬ (rst (xs.take i.toNat) = 0 ∨ (rc (row xs i.toNat) 2).int < rst (xs.take i.toNat))) : rst (xs.take i.toNat) = rst (xs.take (i + 1).toNat) := by
  rw [show (i + 1).toNat = i.toNat + 1 by omega, take_succ_row (by omega), rst_snoc, if_neg (fun q => h2 q.2)]
theorem rst_no' {xs : List Row} {i : Int} (h0 : 0 ≤ i) (hi : i < xs.length) (h : (rc (row xs i.toNat) 1).bool = false) : rst (xs.take i.toNat) = rst (xs.take (i + 1).toNat) := by
  rw [show (i + 1).toNat = i.toNat + 1 by omega, take_succ_row (by omega), rst_snoc, if_neg (fun q => by rw [h] at q; cases q.1)]
noncomputable def RS (xs : List Row) (f : Int) : Int := if VB xs f then rst xs else -1
theorem rs_no {xs : List Row} {f : Int} (h : ¬ VB xs f) : -1 = RS xs f := by unfold RS; rw [if_neg h]
theorem rs_yes {xs : List Row} {f i : Int} (h : VB xs f) (hi : ¬ i < xs.length) : rst (xs.take i.toNat) = RS xs f := by unfold RS; rw [if_pos h, List.take_of_length_le (by omega)]
noncomputable def cRS : Ct := ⟨[], fun ds K => match ds with
  | [.agg [.view ks xs, .int .i64 f]] => ks = KFrame ∧ (xs.length : Int) < big ∧ K (.int .i64 (RS xs f)) []
  | _ => False⟩
set_option maxRecDepth 100000 in
set_option maxHeartbeats 4000000 in
theorem p_sRS : Proved 20 cRS := by
  refine proved_of [(38, cVB)] ⟨p_svB, trivial⟩ [.tmp 2] Try.func20 rfl rfl rfl rfl (by kernel_rfl) ?_
  intro ds K hrel
  simp only [cRS] at hrel
  split at hrel
  case h_2 => exact hrel.elim
  rename_i ks xs f
  obtain ⟨rfl, h1, hrel⟩ := hrel
  refine ⟨rfl, Nat.le_of_ble_eq_true rfl, fun k σ => match k with
    | 5 => some { α := Lv 5 Int, R := fun ⟨i⟩ => (0 ≤ i ∧ i ≤ xs.length) ∧ VB xs f, μ := fun ⟨i⟩ => (xs.length - i).toNat, st := fun ⟨i⟩ => up σ [(4, .int .i64 i), (3, .int .i64 (rst (xs.take i.toNat)))] }
    | _ => none, ?_⟩
  repeat' (first | with_reducible refine And.intro ?_ ?_ | (with_reducible intro h; first | (exact absurd h (by decide)) | (guard_hyp h : true = true; clear h) | (guard_hyp h : false = false; clear h) | (have hq := (h : Lv 5 _); clear hq; obtain ⟨_⟩ := h) | skip) | with_reducible exact True.intro | ((with_reducible refine (id ?_ : @Eq Bool (nodupN _) true)); kernel_rfl) | ((with_reducible refine (id ?_ : @Eq Bool (apartN _ _) true)); kernel_rfl) | ((with_reducible refine (id ?_ : @Eq Bool (formL _ _) true)); kernel_rfl) | ((with_reducible refine (id ?_ : @Eq _ _ _)); exact rfl) | ((conv => whnf); first | done | with_reducible refine And.intro ?_ ?_ | (with_reducible intro h; first | (exact absurd h (by decide)) | (guard_hyp h : true = true; clear h) | (guard_hyp h : false = false; clear h) | (have hq := (h : Lv 5 _); clear hq; obtain ⟨_⟩ := h) | skip) | with_reducible exact True.intro | ((with_reducible refine (id ?_ : @Eq _ _ _)); exact rfl) | refine Exists.intro (⟨?_⟩ : Lv 5 _) ?_ | refine Exists.intro _ (Exists.intro _ (And.intro hrel ?_)) | exact Or.inl rfl | exact Or.inr (And.intro rfl rfl) | (apply Exists.intro; refine And.intro ?_ ?_)) | exact Nat.le_of_ble_eq_true rfl)
  all_goals (try ((try (change _ = _)) <;> (try dsimp only at *) <;> (try simp only [decide_eq_true_eq, decide_eq_false_iff_not, Bool.not_eq_true', Bool.not_eq_false', Bool.and_eq_true, Bool.and_eq_false_iff, beq_iff_eq, bne_iff_ne, beq_eq_false_iff_ne, bne_eq_false_iff_eq, ne_eq, Decidable.not_not, bne_self_eq_false, Bool.false_eq_true, Bool.true_eq_false, Bool.not_true, Bool.not_false, not_true_eq_false, not_false_eq_true, Int.toNat_natCast, Nat.zero_add, Nat.reduceAdd, Nat.reduceMul, Nat.reduceDiv, Nat.mul_one, lenK_one, big, fill_len, marking_len, marks_len, nrms_len, List.length_set, List.length_append, List.length_map, List.length_replicate, List.length_cons, List.length_nil, Int.natCast_add, Int.natCast_one, Int.natCast_zero] at *) <;> (repeat (with_reducible rename _ ∧ _ => hh; obtain ⟨_, _⟩ := hh)) <;> (first | omega | (refine fits_i64 ?_; omega) | (split <;> omega) | exact rs_no (by assumption) | exact rs_yes (by assumption) (by omega) | exact (rst_zero _).symm | exact rst_yes (by omega) (by omega) (by assumption) (by omega) | exact rst_no (by omega) (by omega) (by omega) | exact rst_no' (by omega) (by omega) (by assumption) | assumption)))
set_option maxRecDepth 100000 in
set_option maxHeartbeats 4000000 in
theorem p_iRS : Proved 21 cRS := by
  refine proved_of [(16, cVB)] ⟨p_iVB, trivial⟩ [.tmp 2] Try.func21 rfl rfl rfl rfl (by kernel_rfl) ?_
  intro ds K hrel
  simp only [cRS] at hrel
  split at hrel
  case h_2 => exact hrel.elim
  rename_i ks xs f
  obtain ⟨rfl, h1, hrel⟩ := hrel
  refine ⟨rfl, Nat.le_of_ble_eq_true rfl, fun k σ => match k with
    | 5 => some { α := Lv 5 Int, R := fun ⟨i⟩ => (0 ≤ i ∧ i ≤ xs.length) ∧ VB xs f, μ := fun ⟨i⟩ => (xs.length - i).toNat, st := fun ⟨i⟩ => up σ [(12, .int .i64 i), (3, .int .i64 (rst (xs.take i.toNat)))] }
    | _ => none, ?_⟩
  repeat' (first | with_reducible refine And.intro ?_ ?_ | (with_reducible intro h; first | (exact absurd h (by decide)) | (guard_hyp h : true = true; clear h) | (guard_hyp h : false = false; clear h) | (have hq := (h : Lv 5 _); clear hq; obtain ⟨_⟩ := h) | skip) | with_reducible exact True.intro | ((with_reducible refine (id ?_ : @Eq Bool (nodupN _) true)); kernel_rfl) | ((with_reducible refine (id ?_ : @Eq Bool (apartN _ _) true)); kernel_rfl) | ((with_reducible refine (id ?_ : @Eq Bool (formL _ _) true)); kernel_rfl) | ((with_reducible refine (id ?_ : @Eq _ _ _)); exact rfl) | ((conv => whnf); first | done | with_reducible refine And.intro ?_ ?_ | (with_reducible intro h; first | (exact absurd h (by decide)) | (guard_hyp h : true = true; clear h) | (guard_hyp h : false = false; clear h) | (have hq := (h : Lv 5 _); clear hq; obtain ⟨_⟩ := h) | skip) | with_reducible exact True.intro | ((with_reducible refine (id ?_ : @Eq _ _ _)); exact rfl) | refine Exists.intro (⟨?_⟩ : Lv 5 _) ?_ | refine Exists.intro _ (Exists.intro _ (And.intro hrel ?_)) | exact Or.inl rfl | exact Or.inr (And.intro rfl rfl) | (apply Exists.intro; refine And.intro ?_ ?_)) | exact Nat.le_of_ble_eq_true rfl)
  all_goals (try ((try (change _ = _)) <;> (try dsimp only at *) <;> (try simp only [decide_eq_true_eq, decide_eq_false_iff_not, Bool.not_eq_true', Bool.not_eq_false', Bool.and_eq_true, Bool.and_eq_false_iff, beq_iff_eq, bne_iff_ne, beq_eq_false_iff_ne, bne_eq_false_iff_eq, ne_eq, Decidable.not_not, bne_self_eq_false, Bool.false_eq_true, Bool.true_eq_false, Bool.not_true, Bool.not_false, not_true_eq_false, not_false_eq_true, Int.toNat_natCast, Nat.zero_add, Nat.reduceAdd, Nat.reduceMul, Nat.reduceDiv, Nat.mul_one, lenK_one, big, fill_len, marking_len, marks_len, nrms_len, List.length_set, List.length_append, List.length_map, List.length_replicate, List.length_cons, List.length_nil, Int.natCast_add, Int.natCast_one, Int.natCast_zero] at *) <;> (repeat (with_reducible rename _ ∧ _ => hh; obtain ⟨_, _⟩ := hh)) <;> (first | omega | (refine fits_i64 ?_; omega) | (split <;> omega) | exact rs_no (by assumption) | exact rs_yes (by assumption) (by omega) | exact (rst_zero _).symm | exact rst_yes (by omega) (by omega) (by assumption) (by omega) | exact rst_no (by omega) (by omega) (by omega) | exact rst_no' (by omega) (by omega) (by assumption) | assumption)))
end Go.Proofs.Ytfchlcghildiaaa.V
