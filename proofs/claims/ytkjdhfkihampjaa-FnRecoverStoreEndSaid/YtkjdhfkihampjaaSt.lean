/-
  Stores and edits: which ones are valid.
-/
import Derived.Test.YtkjdhfkihampjaaLsR
set_option linter.unusedSimpArgs false
set_option linter.unusedVariables false
namespace Go.Proofs.Ytkjdhfkihampjaa.V
open Go Go.RowKit
open Classical

/-- A valid store. -/
structure VS (xs : List Row) : Prop where
  lo : 1 ≤ xs.length
  hi : xs.length ≤ 6
  a : AllIn xs 0 999999 xs.length
noncomputable def cVS : Ct := ⟨[], fun ds K => match ds with
  | [.view ks xs] => ks = KInt ∧ (xs.length : Int) < big ∧ K (.bool (decide (VS xs))) []
  | _ => False⟩
theorem vs_pick {xs : List Row} (h1 : 1 ≤ (xs.length : Int)) (h2 : (xs.length : Int) ≤ 6) : decide (AllIn xs 0 999999 xs.length) = decide (VS xs) := by
  rw [decide_eq_decide]; exact ⟨fun h => ⟨by omega, by omega, h⟩, fun h => h.a⟩
theorem vs_no {xs : List Row} (h1 : ¬ (1 ≤ (xs.length : Int) ∧ (xs.length : Int) ≤ 6)) : false = decide (VS xs) := false_eq (fun h => h1 ⟨by have := h.lo; omega, by have := h.hi; omega⟩)
theorem vs_bad {xs : List Row} {i : Int} (h0 : 0 ≤ i) (hi' : i < xs.length) (h1 : ¬ (0 ≤ (rc (row xs i.toNat) 0).int ∧ (rc (row xs i.toNat) 0).int ≤ 999999)) : false = decide (VS xs) := false_eq (fun h => allIn_not h0 hi' h1 h.a)
theorem vs_yes {xs : List Row} {i : Int} (h1 : 1 ≤ (xs.length : Int)) (h2 : (xs.length : Int) ≤ 6) (h : AllIn xs 0 999999 i) (hi : ¬ i < xs.length) : true = decide (VS xs) := true_eq ⟨by omega, by omega, allIn_all h hi⟩
set_option maxRecDepth 100000 in
set_option maxHeartbeats 4000000 in
theorem p_sVS : Proved 67 cVS := by
  refine proved_of [(66, cInRange), (53, cAllIn)] ⟨p_inRange, p_allIn, trivial⟩ [.tmp 2] Try.func67 rfl rfl rfl rfl (by kernel_rfl) ?_
  intro ds K hrel
  simp only [cVS] at hrel
  split at hrel
  case h_2 => exact hrel.elim
  obtain ⟨rfl, h1, hrel⟩ := hrel
  refine ⟨rfl, Nat.le_of_ble_eq_true rfl, fun _ _ => none, ?_⟩
  repeat' (first | with_reducible refine And.intro ?_ ?_ | (with_reducible intro h; first | (exact absurd h (by decide)) | (guard_hyp h : true = true; clear h) | (guard_hyp h : false = false; clear h) | skip) | with_reducible exact True.intro | ((with_reducible refine (id ?_ : @Eq Bool (nodupN _) true)); kernel_rfl) | ((with_reducible refine (id ?_ : @Eq Bool (apartN _ _) true)); kernel_rfl) | ((with_reducible refine (id ?_ : @Eq Bool (formL _ _) true)); kernel_rfl) | ((with_reducible refine (id ?_ : @Eq _ _ _)); exact rfl) | ((conv => whnf); first | done | with_reducible refine And.intro ?_ ?_ | (with_reducible intro h; first | (exact absurd h (by decide)) | (guard_hyp h : true = true; clear h) | (guard_hyp h : false = false; clear h) | skip) | with_reducible exact True.intro | ((with_reducible refine (id ?_ : @Eq _ _ _)); exact rfl) | refine Exists.intro _ (Exists.intro _ (And.intro hrel ?_)) | exact Or.inl rfl | exact Or.inr (And.intro rfl rfl) | (apply Exists.intro; refine And.intro ?_ ?_)) | exact Nat.le_of_ble_eq_true rfl)
  all_goals (try ((try (change _ = _)) <;> (try dsimp only at *) <;> (try simp only [decide_eq_true_eq, decide_eq_false_iff_not, Bool.not_eq_true', Bool.not_eq_false', Bool.and_eq_true, Bool.and_eq_false_iff, beq_iff_eq, bne_iff_ne, beq_eq_false_iff_ne, bne_eq_false_iff_eq, ne_eq, Decidable.not_not, bne_self_eq_false, Bool.false_eq_true, Bool.true_eq_false, Bool.not_true, Bool.not_false, not_true_eq_false, not_false_eq_true, Int.toNat_natCast, Nat.zero_add, Nat.reduceAdd, Nat.reduceMul, Nat.reduceDiv, Nat.mul_one, lenK_one, big, fill_len, marking_len, marks_len, nrms_len, List.length_set, List.length_append, List.length_map, List.length_replicate, List.length_cons, List.length_nil, Int.natCast_add, Int.natCast_one, Int.natCast_zero] at *) <;> (repeat (with_reducible rename _ ∧ _ => hh; obtain ⟨_, _⟩ := hh)) <;> (first | omega | (refine fits_i64 ?_; omega) | (split <;> omega) | exact vs_pick (by omega) (by omega) | exact vs_no (by omega))))
set_option maxRecDepth 100000 in
set_option maxHeartbeats 4000000 in
theorem p_iVS : Proved 49 cVS := by
  refine proved_of [] trivial [.tmp 2] Try.func49 rfl rfl rfl rfl (by kernel_rfl) ?_
  intro ds K hrel
  simp only [cVS] at hrel
  split at hrel
  case h_2 => exact hrel.elim
  rename_i ks xs
  obtain ⟨rfl, h1, hrel⟩ := hrel
  refine ⟨rfl, Nat.le_of_ble_eq_true rfl, fun k σ => match k with
    | 4 => some { α := Lv 4 Int, R := fun ⟨i⟩ => (0 ≤ i ∧ i ≤ xs.length ∧ 1 ≤ (xs.length : Int) ∧ (xs.length : Int) ≤ 6) ∧ AllIn xs 0 999999 i, μ := fun ⟨i⟩ => (xs.length - i).toNat, st := fun ⟨i⟩ => up σ [(15, .int .i64 i)] }
    | _ => none, ?_⟩
  repeat' (first | with_reducible refine And.intro ?_ ?_ | (with_reducible intro h; first | (exact absurd h (by decide)) | (guard_hyp h : true = true; clear h) | (guard_hyp h : false = false; clear h) | (have hq := (h : Lv 4 _); clear hq; obtain ⟨_⟩ := h) | skip) | with_reducible exact True.intro | ((with_reducible refine (id ?_ : @Eq Bool (nodupN _) true)); kernel_rfl) | ((with_reducible refine (id ?_ : @Eq Bool (apartN _ _) true)); kernel_rfl) | ((with_reducible refine (id ?_ : @Eq Bool (formL _ _) true)); kernel_rfl) | ((with_reducible refine (id ?_ : @Eq _ _ _)); exact rfl) | ((conv => whnf); first | done | with_reducible refine And.intro ?_ ?_ | (with_reducible intro h; first | (exact absurd h (by decide)) | (guard_hyp h : true = true; clear h) | (guard_hyp h : false = false; clear h) | (have hq := (h : Lv 4 _); clear hq; obtain ⟨_⟩ := h) | skip) | with_reducible exact True.intro | ((with_reducible refine (id ?_ : @Eq _ _ _)); exact rfl) | refine Exists.intro (⟨?_⟩ : Lv 4 _) ?_ | refine Exists.intro _ (Exists.intro _ (And.intro hrel ?_)) | exact Or.inl rfl | exact Or.inr (And.intro rfl rfl) | (apply Exists.intro; refine And.intro ?_ ?_)) | exact Nat.le_of_ble_eq_true rfl)
  all_goals (try ((try (change _ = _)) <;> (try dsimp only at *) <;> (try simp only [decide_eq_true_eq, decide_eq_false_iff_not, Bool.not_eq_true', Bool.not_eq_false', Bool.and_eq_true, Bool.and_eq_false_iff, beq_iff_eq, bne_iff_ne, beq_eq_false_iff_ne, bne_eq_false_iff_eq, ne_eq, Decidable.not_not, bne_self_eq_false, Bool.false_eq_true, Bool.true_eq_false, Bool.not_true, Bool.not_false, not_true_eq_false, not_false_eq_true, Int.toNat_natCast, Nat.zero_add, Nat.reduceAdd, Nat.reduceMul, Nat.reduceDiv, Nat.mul_one, lenK_one, big, fill_len, marking_len, marks_len, nrms_len, List.length_set, List.length_append, List.length_map, List.length_replicate, List.length_cons, List.length_nil, Int.natCast_add, Int.natCast_one, Int.natCast_zero] at *) <;> (repeat (with_reducible rename _ ∧ _ => hh; obtain ⟨_, _⟩ := hh)) <;> (first | omega | (refine fits_i64 ?_; omega) | (split <;> omega) | exact allIn_zero _ _ _ | exact allIn_step (by assumption) (by omega) (by omega) | exact vs_no (by omega) | exact vs_bad (by omega) (by omega) (by omega) | exact vs_yes (by omega) (by omega) (by assumption) (by omega))))

/-- An edit that is possible. -/
structure VE (s : List Row) (o t old new : Int) : Prop where
  o0 : 0 ≤ o
  o7 : o ≤ 7
  t0 : 0 ≤ t
  tl : t < s.length
  e : (rc (row s t.toNat) 0).int = old
  n0 : 0 ≤ new
  n1 : new ≤ 999999
noncomputable def cVE : Ct := ⟨[], fun ds K => match ds with
  | [.view ks s, .agg [.int .i64 o, .int .i64 t, .int .i64 old, .int .i64 new]] => ks = KInt ∧ (s.length : Int) < big ∧ K (.bool (decide (VE s o t old new))) []
  | _ => False⟩
noncomputable def cVE' : Ct := ⟨[], fun ds K => match ds with
  | [.agg [.int .i64 o, .int .i64 t, .int .i64 old, .int .i64 new], .view ks s] => ks = KInt ∧ (s.length : Int) < big ∧ K (.bool (decide (VE s o t old new))) []
  | _ => False⟩
theorem ve_no {s : List Row} {o t old new : Int} (h : ¬ (0 ≤ o ∧ o ≤ 7 ∧ 0 ≤ t ∧ t < s.length ∧ (rc (row s t.toNat) 0).int = old ∧ 0 ≤ new ∧ new ≤ 999999)) : false = decide (VE s o t old new) := false_eq (fun v => h ⟨v.o0, v.o7, v.t0, v.tl, v.e, v.n0, v.n1⟩)
theorem ve_yes {s : List Row} {o t old new : Int} (h : 0 ≤ o ∧ o ≤ 7 ∧ 0 ≤ t ∧ t < s.length ∧ (rc (row s t.toNat) 0).int = old ∧ 0 ≤ new ∧ new ≤ 999999) : true = decide (VE s o t old new) := true_eq ⟨h.1, h.2.1, h.2.2.1, h.2.2.2.1, h.2.2.2.2.1, h.2.2.2.2.2.1, h.2.2.2.2.2.2⟩
theorem ve_and {s : List Row} {o t old new : Int} (h : 0 ≤ o ∧ o ≤ 7 ∧ 0 ≤ t ∧ t < s.length ∧ (rc (row s t.toNat) 0).int = old) : (decide (0 ≤ new) && decide (new ≤ 999999)) = decide (VE s o t old new) := by
  by_cases hn : 0 ≤ new ∧ new ≤ 999999
  · rw [← ve_yes ⟨h.1, h.2.1, h.2.2.1, h.2.2.2.1, h.2.2.2.2, hn.1, hn.2⟩]; simp [hn]
  · rw [← ve_no (fun q => hn q.2.2.2.2.2)]; simp only [Bool.and_eq_false_iff, decide_eq_false_iff_not]; omega
theorem ve_old {s : List Row} {o t old new : Int} (h : 0 ≤ o ∧ o ≤ 7 ∧ 0 ≤ t ∧ t < s.length ∧ 0 ≤ new ∧ new ≤ 999999) : ((rc (row s t.toNat) 0).int == old) = decide (VE s o t old new) := by
  by_cases hn : (rc (row s t.toNat) 0).int = old
  · rw [← ve_yes ⟨h.1, h.2.1, h.2.2.1, h.2.2.2.1, hn, h.2.2.2.2.1, h.2.2.2.2.2⟩]; simp [hn]
  · rw [← ve_no (fun q => hn q.2.2.2.2.1)]; simpa using hn
set_option maxRecDepth 100000 in
set_option maxHeartbeats 4000000 in
theorem p_sVE : Proved 69 cVE := by
  refine proved_of [(66, cInRange)] ⟨p_inRange, trivial⟩ [.tmp 4] Try.func69 rfl rfl rfl rfl (by kernel_rfl) ?_
  intro ds K hrel
  simp only [cVE] at hrel
  split at hrel
  case h_2 => exact hrel.elim
  obtain ⟨rfl, h1, hrel⟩ := hrel
  refine ⟨rfl, Nat.le_of_ble_eq_true rfl, fun _ _ => none, ?_⟩
  repeat' (first | with_reducible refine And.intro ?_ ?_ | (with_reducible intro h; first | (exact absurd h (by decide)) | (guard_hyp h : true = true; clear h) | (guard_hyp h : false = false; clear h) | skip) | with_reducible exact True.intro | ((with_reducible refine (id ?_ : @Eq Bool (nodupN _) true)); kernel_rfl) | ((with_reducible refine (id ?_ : @Eq Bool (apartN _ _) true)); kernel_rfl) | ((with_reducible refine (id ?_ : @Eq Bool (formL _ _) true)); kernel_rfl) | ((with_reducible refine (id ?_ : @Eq _ _ _)); exact rfl) | ((conv => whnf); first | done | with_reducible refine And.intro ?_ ?_ | (with_reducible intro h; first | (exact absurd h (by decide)) | (guard_hyp h : true = true; clear h) | (guard_hyp h : false = false; clear h) | skip) | with_reducible exact True.intro | ((with_reducible refine (id ?_ : @Eq _ _ _)); exact rfl) | refine Exists.intro _ (Exists.intro _ (And.intro hrel ?_)) | exact Or.inl rfl | exact Or.inr (And.intro rfl rfl) | (apply Exists.intro; refine And.intro ?_ ?_)) | exact Nat.le_of_ble_eq_true rfl)
  all_goals (try ((try (change _ = _)) <;> (try dsimp only at *) <;> (try simp only [decide_eq_true_eq, decide_eq_false_iff_not, Bool.not_eq_true', Bool.not_eq_false', Bool.and_eq_true, Bool.and_eq_false_iff, beq_iff_eq, bne_iff_ne, beq_eq_false_iff_ne, bne_eq_false_iff_eq, ne_eq, Decidable.not_not, bne_self_eq_false, Bool.false_eq_true, Bool.true_eq_false, Bool.not_true, Bool.not_false, not_true_eq_false, not_false_eq_true, Int.toNat_natCast, Nat.zero_add, Nat.reduceAdd, Nat.reduceMul, Nat.reduceDiv, Nat.mul_one, lenK_one, big, fill_len, marking_len, marks_len, nrms_len, List.length_set, List.length_append, List.length_map, List.length_replicate, List.length_cons, List.length_nil, Int.natCast_add, Int.natCast_one, Int.natCast_zero] at *) <;> (repeat (with_reducible rename _ ∧ _ => hh; obtain ⟨_, _⟩ := hh)) <;> (first | omega | (refine fits_i64 ?_; omega) | (split <;> omega) | exact ve_no (by omega) | exact ve_yes (by omega) | exact ve_and (by omega))))
set_option maxRecDepth 100000 in
set_option maxHeartbeats 4000000 in
theorem p_iVE : Proved 52 cVE' := by
  refine proved_of [] trivial [.tmp 4] Try.func52 rfl rfl rfl rfl (by kernel_rfl) ?_
  intro ds K hrel
  simp only [cVE'] at hrel
  split at hrel
  case h_2 => exact hrel.elim
  obtain ⟨rfl, h1, hrel⟩ := hrel
  refine ⟨rfl, Nat.le_of_ble_eq_true rfl, fun _ _ => none, ?_⟩
  repeat' (first | with_reducible refine And.intro ?_ ?_ | (with_reducible intro h; first | (exact absurd h (by decide)) | (guard_hyp h : true = true; clear h) | (guard_hyp h : false = false; clear h) | skip) | with_reducible exact True.intro | ((with_reducible refine (id ?_ : @Eq Bool (nodupN _) true)); kernel_rfl) | ((with_reducible refine (id ?_ : @Eq Bool (apartN _ _) true)); kernel_rfl) | ((with_reducible refine (id ?_ : @Eq Bool (formL _ _) true)); kernel_rfl) | ((with_reducible refine (id ?_ : @Eq _ _ _)); exact rfl) | ((conv => whnf); first | done | with_reducible refine And.intro ?_ ?_ | (with_reducible intro h; first | (exact absurd h (by decide)) | (guard_hyp h : true = true; clear h) | (guard_hyp h : false = false; clear h) | skip) | with_reducible exact True.intro | ((with_reducible refine (id ?_ : @Eq _ _ _)); exact rfl) | refine Exists.intro _ (Exists.intro _ (And.intro hrel ?_)) | exact Or.inl rfl | exact Or.inr (And.intro rfl rfl) | (apply Exists.intro; refine And.intro ?_ ?_)) | exact Nat.le_of_ble_eq_true rfl)
  all_goals (try ((try (change _ = _)) <;> (try dsimp only at *) <;> (try simp only [decide_eq_true_eq, decide_eq_false_iff_not, Bool.not_eq_true', Bool.not_eq_false', Bool.and_eq_true, Bool.and_eq_false_iff, beq_iff_eq, bne_iff_ne, beq_eq_false_iff_ne, bne_eq_false_iff_eq, ne_eq, Decidable.not_not, bne_self_eq_false, Bool.false_eq_true, Bool.true_eq_false, Bool.not_true, Bool.not_false, not_true_eq_false, not_false_eq_true, Int.toNat_natCast, Nat.zero_add, Nat.reduceAdd, Nat.reduceMul, Nat.reduceDiv, Nat.mul_one, lenK_one, big, fill_len, marking_len, marks_len, nrms_len, List.length_set, List.length_append, List.length_map, List.length_replicate, List.length_cons, List.length_nil, Int.natCast_add, Int.natCast_one, Int.natCast_zero] at *) <;> (repeat (with_reducible rename _ ∧ _ => hh; obtain ⟨_, _⟩ := hh)) <;> (first | omega | (refine fits_i64 ?_; omega) | (split <;> omega) | exact ve_no (by omega) | exact ve_yes (by omega) | exact ve_old (by omega))))

/-- Number t of a store replaced. -/
def setI (s : List Row) (t v : Int) : List Row := s.set t.toNat (pasteR (row s t.toNat) 0 [.i v])
theorem setI_len (s : List Row) (t v : Int) : (setI s t v).length = s.length := by simp [setI]
theorem nrms_set' {ks : List Kd} {xs : List Row} {i : Nat} {r : Row} (h : nrms ks xs = xs) (h2 : nrm ks r = r) : nrms ks (xs.set i r) = xs.set i r := by
  have e : nrms ks (xs.set i r) = (nrms ks xs).set i (nrm ks r) := by simp [nrms, List.map_set]
  rw [e, h, h2]
theorem paste_int (r : Row) (v : Int) (h : nrm KInt r = r) : pasteR r 0 [.i v] = [.i v] := by rw [← h]; rfl
theorem nrms_setI {s : List Row} {t v : Int} (h : nrms KInt s = s) : nrms KInt (setI s t v) = setI s t v := by
  unfold setI
  by_cases hl : t.toNat < s.length
  · have e : nrm KInt (row s t.toNat) = row s t.toNat := by rw [← row_nrms hl, h]
    exact nrms_set' h (by rw [paste_int _ _ e]; rfl)
  · rw [List.set_eq_of_length_le (by omega), h]
end Go.Proofs.Ytkjdhfkihampjaa.V
