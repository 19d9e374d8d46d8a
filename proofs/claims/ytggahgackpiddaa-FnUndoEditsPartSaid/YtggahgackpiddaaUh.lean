/-
  Edits one after the other, and the edits that undo those of a transaction: what the functions compute.
-/
import Derived.Test.YtggahgackpiddaaUg
set_option linter.unusedSimpArgs false
set_option linter.unusedVariables false
namespace Go.Proofs.Ytggahgackpiddaa.V
open Go Go.RowKit
open Classical

/-- Edits that can be run on a store. -/
structure CanRun (s es : List Row) : Prop where
  st : VS s
  ln : es.length ≤ 20
  vs : VEs s es
noncomputable def ranE (s es : List Row) : List Row := if CanRun s es then runE s es else []
theorem run_zero (s es : List Row) : s = runE s (es.take (Int.toNat 0)) := by simp [runE]
theorem run_step {s es : List Row} {i : Int} (h0 : 0 ≤ i) (h1 : i < es.length) : setI (runE s (es.take i.toNat)) (rc (row es i.toNat) 1).int (rc (row es i.toNat) 3).int = runE s (es.take (i + 1).toNat) := by
  rw [show (i + 1).toNat = i.toNat + 1 by omega, runE_take (by omega)]
theorem ves_zero (s es : List Row) : VEs s (es.take (Int.toNat 0)) := by simp [VEs]
theorem ves_step {s es : List Row} {i : Int} (h : VEs s (es.take i.toNat)) (h0 : 0 ≤ i) (h1 : i < es.length) (v : VE (runE s (es.take i.toNat)) (rc (row es i.toNat) 0).int (rc (row es i.toNat) 1).int (rc (row es i.toNat) 2).int (rc (row es i.toNat) 3).int) : VEs s (es.take (i + 1).toNat) := by
  rw [show (i + 1).toNat = i.toNat + 1 by omega]
  exact (VEs_take (by omega)).2 ⟨h, v⟩
theorem ves_bad {s es : List Row} {i : Int} (_ : VEs s (es.take i.toNat)) (h0 : 0 ≤ i) (h1 : i < es.length) (v : ¬ VE (runE s (es.take i.toNat)) (rc (row es i.toNat) 0).int (rc (row es i.toNat) 1).int (rc (row es i.toNat) 2).int (rc (row es i.toNat) 3).int) : ¬ CanRun s es := by
  intro h
  have hv := h.vs
  rw [← List.take_append_drop (i.toNat + 1) es, VEs_app] at hv
  exact v ((VEs_take (by omega)).1 hv.1).2
theorem can_yes {s es : List Row} {i : Int} (h : VEs s (es.take i.toNat)) (hs : VS s) (hl : ¬ 20 < (es.length : Int)) (hi : ¬ i < es.length) : CanRun s es := ⟨hs, by omega, by rw [List.take_of_length_le (by omega)] at h; exact h⟩
theorem ran_no {s es : List Row} (h : ¬ CanRun s es) : ranE s es = [] := by unfold ranE; rw [if_neg h]
theorem ran_yes {s es : List Row} {i : Int} (h : VEs s (es.take i.toNat)) (hs : VS s) (hl : ¬ 20 < (es.length : Int)) (hi : ¬ i < es.length) : runE s (es.take i.toNat) = ranE s es := by
  unfold ranE; rw [if_pos (can_yes h hs hl hi), List.take_of_length_le (by omega)]
noncomputable def cVEs : Ct := ⟨[], fun ds K => match ds with
  | [.view ks s, .view js es] => ks = KInt ∧ js = KEdit ∧ (s.length ≤ 1048576 ∧ (es.length : Int) < big) ∧ K (.bool (decide (CanRun s es))) []
  | _ => False⟩
set_option maxRecDepth 100000 in
set_option maxHeartbeats 4000000 in
theorem p_sVEs : Proved 46 cVEs := by
  refine proved_of [(36, cVS), (37, cVE), (38, cRedo)] ⟨p_sVS, p_sVE, p_sRedo, trivial⟩ [.tmp 4] Try.func46 rfl rfl rfl rfl (by kernel_rfl) ?_
  intro ds K hrel
  simp only [cVEs] at hrel
  split at hrel
  case h_2 => exact hrel.elim
  rename_i ks s js es
  obtain ⟨rfl, rfl, ⟨h1, h2⟩, hrel⟩ := hrel
  refine ⟨rfl, Nat.le_of_ble_eq_true rfl, fun k σ => match k with
    | 4 => some { α := Lv 4 Int, R := fun ⟨i⟩ => (0 ≤ i ∧ i ≤ es.length ∧ ¬ 20 < (es.length : Int)) ∧ VS s ∧ VEs s (es.take i.toNat), μ := fun ⟨i⟩ => (es.length - i).toNat, st := fun ⟨i⟩ => up σ [(5, .int .i64 i), (0, .view KInt (runE s (es.take i.toNat)))] }
    | _ => none, ?_⟩
  repeat' (first | refine And.intro ?_ ?_ | (intro h; first | (exact absurd h (by decide)) | (guard_hyp h : true = true; clear h) | (guard_hyp h : false = false; clear h) | (have hq := (h : Lv 4 _); clear hq; obtain ⟨_⟩ := h) | skip) | refine Exists.intro (⟨?_⟩ : Lv 4 _) ?_ | refine Exists.intro _ (Exists.intro _ (And.intro hrel ?_)) | exact rfl | exact True.intro | exact Or.inl rfl | exact Or.inr (And.intro rfl rfl) | exact Nat.le_of_ble_eq_true rfl | (apply Exists.intro; refine And.intro ?_ ?_))
  all_goals (try ((try (change _ = _)) <;> (try dsimp only at *) <;> (try simp only [decide_eq_true_eq, decide_eq_false_iff_not, Bool.not_eq_true', Bool.not_eq_false', Bool.and_eq_true, Bool.and_eq_false_iff, beq_iff_eq, bne_iff_ne, beq_eq_false_iff_ne, bne_eq_false_iff_eq, ne_eq, Decidable.not_not, bne_self_eq_false, Bool.false_eq_true, Bool.true_eq_false, Bool.not_true, Bool.not_false, not_true_eq_false, not_false_eq_true, Int.toNat_natCast, Nat.zero_add, Nat.reduceAdd, Nat.reduceMul, Nat.reduceDiv, Nat.mul_one, lenK_one, big, fill_len, marking_len, marks_len, nrms_len, List.length_set, List.length_append, List.length_map, List.length_replicate, List.length_cons, List.length_nil, Int.natCast_add, Int.natCast_one, Int.natCast_zero, runE_len] at *) <;> (repeat (with_reducible rename _ ∧ _ => hh; obtain ⟨_, _⟩ := hh)) <;> (first | omega | (refine fits_i64 ?_; omega) | (split <;> omega) | (with_reducible exact run_zero _ _) | (with_reducible exact (run_zero _ _).symm) | exact run_step (by omega) (by omega) | exact (run_step (by omega) (by omega)).symm | (with_reducible exact ves_zero _ _) | exact ves_step (by assumption) (by omega) (by omega) (by assumption) | (with_reducible assumption) | exact false_eq (fun h => absurd h.st (by assumption)) | (refine false_eq (fun h => ?_); have := h.ln; omega) | exact false_eq (ves_bad (by assumption) (by omega) (by omega) (by assumption)) | exact true_eq (can_yes (by assumption) (by assumption) (by omega) (by omega)) | exact VE.t0 (by assumption) | (have := VE.tl (by assumption); rw [runE_len] at this; omega))))
noncomputable def cRunE : Ct := ⟨[], fun ds K => match ds with
  | [.view ks s, .view js es] => ks = KInt ∧ js = KEdit ∧ (s.length ≤ 1048576 ∧ (es.length : Int) < big) ∧ K (.tup [.fr 3 KInt (ranE s es), .bool (decide (CanRun s es))]) []
  | _ => False⟩
set_option maxRecDepth 100000 in
set_option maxHeartbeats 4000000 in
theorem p_iRunE : Proved 31 cRunE := by
  refine proved_of [(39, cVS), (40, cVE'), (41, cCopy 3 KInt)] ⟨p_iVS, p_iVE, p_cloneInt, trivial⟩ [.tmp 4, .tmp 5] Try.func31 rfl rfl rfl rfl (by kernel_rfl) ?_
  intro ds K hrel
  simp only [cRunE] at hrel
  split at hrel
  case h_2 => exact hrel.elim
  rename_i ks s js es
  obtain ⟨rfl, rfl, ⟨h1, h2⟩, hrel⟩ := hrel
  refine ⟨rfl, Nat.le_of_ble_eq_true rfl, fun k σ => match k with
    | 5 => some { α := Lv 5 Int, R := fun ⟨i⟩ => (0 ≤ i ∧ i ≤ es.length ∧ ¬ 20 < (es.length : Int)) ∧ VS s ∧ VEs s (es.take i.toNat), μ := fun ⟨i⟩ => (es.length - i).toNat, st := fun ⟨i⟩ => upH σ [(21, .int .i64 i)] 0 (.rows 3 KInt (runE s (es.take i.toNat))) }
    | _ => none, ?_⟩
  repeat' (first | refine And.intro ?_ ?_ | (intro h; first | (exact absurd h (by decide)) | (guard_hyp h : true = true; clear h) | (guard_hyp h : false = false; clear h) | (have hq := (h : Lv 5 _); clear hq; obtain ⟨_⟩ := h) | skip) | refine Exists.intro (⟨?_⟩ : Lv 5 _) ?_ | refine Exists.intro _ (Exists.intro _ (And.intro hrel ?_)) | exact rfl | exact True.intro | exact Or.inl rfl | exact Or.inr (And.intro rfl rfl) | exact Nat.le_of_ble_eq_true rfl | (apply Exists.intro; refine And.intro ?_ ?_))
  all_goals (try ((try (change _ = _)) <;> (try dsimp only at *) <;> (try simp only [decide_eq_true_eq, decide_eq_false_iff_not, Bool.not_eq_true', Bool.not_eq_false', Bool.and_eq_true, Bool.and_eq_false_iff, beq_iff_eq, bne_iff_ne, beq_eq_false_iff_ne, bne_eq_false_iff_eq, ne_eq, Decidable.not_not, bne_self_eq_false, Bool.false_eq_true, Bool.true_eq_false, Bool.not_true, Bool.not_false, not_true_eq_false, not_false_eq_true, Int.toNat_natCast, Nat.zero_add, Nat.reduceAdd, Nat.reduceMul, Nat.reduceDiv, Nat.mul_one, lenK_one, big, fill_len, marking_len, marks_len, nrms_len, List.length_set, List.length_append, List.length_map, List.length_replicate, List.length_cons, List.length_nil, Int.natCast_add, Int.natCast_one, Int.natCast_zero, runE_len] at *) <;> (repeat (with_reducible rename _ ∧ _ => hh; obtain ⟨_, _⟩ := hh)) <;> (first | omega | (refine fits_i64 ?_; omega) | (split <;> omega) | (with_reducible exact run_zero _ _) | (with_reducible exact (run_zero _ _).symm) | exact run_step (by omega) (by omega) | exact (run_step (by omega) (by omega)).symm | (with_reducible exact ves_zero _ _) | exact ves_step (by assumption) (by omega) (by omega) (by assumption) | (with_reducible assumption) | exact ran_no (fun h => absurd h.st (by assumption)) | (refine ran_no (fun h => ?_); have := h.ln; omega) | exact ran_no (ves_bad (by assumption) (by omega) (by omega) (by assumption)) | exact ran_yes (by assumption) (by assumption) (by omega) (by omega) | exact false_eq (fun h => absurd h.st (by assumption)) | (refine false_eq (fun h => ?_); have := h.ln; omega) | exact false_eq (ves_bad (by assumption) (by omega) (by omega) (by assumption)) | exact true_eq (can_yes (by assumption) (by assumption) (by omega) (by omega)) | exact VE.t0 (by assumption) | (have := VE.tl (by assumption); rw [runE_len] at this; omega))))

/-! Alone. -/
structure AlN (who : Int) (es : List Row) (f i : Int) : Prop where
  h : ∀ a b : Nat, f ≤ a → (a : Int) < i → a < b → b < es.length → (rc (row es a) 0).int = who → (rc (row es b) 1).int = (rc (row es a) 1).int → (rc (row es b) 0).int = who
structure AlK (who : Int) (es : List Row) (i k : Int) : Prop where
  h : ∀ b : Nat, i < b → (b : Int) < k → (rc (row es b) 1).int = (rc (row es i.toNat) 1).int → (rc (row es b) 0).int = who
theorem alN_zero (who : Int) (es : List Row) (f : Int) : AlN who es f f := ⟨fun a b h1 h2 => by omega⟩
theorem alK_zero (who : Int) (es : List Row) (i : Int) : AlK who es i (i + 1) := ⟨fun b h1 h2 => by omega⟩
theorem alK_step1 {who : Int} {es : List Row} {i k : Int} (h : AlK who es i k) (h1 : ¬ (rc (row es k.toNat) 1).int = (rc (row es i.toNat) 1).int) : AlK who es i (k + 1) := ⟨fun b hb hk he => by
  by_cases e : (b : Int) = k
  · subst e; exact absurd he h1
  · exact h.h b hb (by omega) he⟩
theorem alK_step2 {who : Int} {es : List Row} {i k : Int} (h : AlK who es i k) (h1 : (rc (row es k.toNat) 0).int = who) : AlK who es i (k + 1) := ⟨fun b hb hk he => by
  by_cases e : (b : Int) = k
  · subst e; exact h1
  · exact h.h b hb (by omega) he⟩
theorem alN_step1 {who : Int} {es : List Row} {f i k : Int} (h : AlN who es f i) (h2 : AlK who es i k) (hk : ¬ k < es.length) : AlN who es f (i + 1) := ⟨fun a b h3 h4 h5 h6 h7 h8 => by
  by_cases e : (a : Int) = i
  · subst e; exact h2.h b (by omega) (by omega) h8
  · exact h.h a b h3 (by omega) h5 h6 h7 h8⟩
theorem alN_step2 {who : Int} {es : List Row} {f i : Int} (h : AlN who es f i) (h2 : ¬ (rc (row es i.toNat) 0).int = who) : AlN who es f (i + 1) := ⟨fun a b h3 h4 h5 h6 h7 h8 => by
  by_cases e : (a : Int) = i
  · subst e; exact absurd h7 h2
  · exact h.h a b h3 (by omega) h5 h6 h7 h8⟩
theorem row_drop {xs : List Row} {n j : Nat} : row (xs.drop n) j = row xs (n + j) := by
  unfold row
  rw [List.getD_eq_getElem?_getD, List.getD_eq_getElem?_getD, List.getElem?_drop]
theorem getElem_row {xs : List Row} {i : Nat} (h : i < xs.length) : xs[i] = row xs i := by
  have := row_some h
  rw [List.getElem?_eq_getElem h] at this
  exact Option.some.inj this
theorem alone_of {who : Int} {es : List Row} {f i : Int} (h : AlN who es f i) (h0 : 0 ≤ f) (hi : ¬ i < es.length) : Alone who (es.drop f.toNat) := by
  unfold Alone
  rw [List.pairwise_iff_getElem]
  intro a b ha hb hab
  rw [getElem_row ha, getElem_row hb, row_drop, row_drop]
  rw [List.length_drop] at ha hb
  exact fun h1 h2 => h.h (f.toNat + a) (f.toNat + b) (by omega) (by omega) (by omega) (by omega) h1 h2
theorem alone_not {who : Int} {es : List Row} {f i k : Int} (_ : AlK who es i k) (h0 : 0 ≤ f) (h1 : f ≤ i) (h2 : i < k) (h3 : k < es.length) (h4 : (rc (row es i.toNat) 0).int = who) (h5 : (rc (row es k.toNat) 1).int = (rc (row es i.toNat) 1).int) (h6 : ¬ (rc (row es k.toNat) 0).int = who) : ¬ Alone who (es.drop f.toNat) := by
  intro h
  unfold Alone at h
  rw [List.pairwise_iff_getElem] at h
  have ha : i.toNat - f.toNat < (es.drop f.toNat).length := by rw [List.length_drop]; omega
  have hb : k.toNat - f.toNat < (es.drop f.toNat).length := by rw [List.length_drop]; omega
  have := h _ _ ha hb (by omega)
  rw [getElem_row ha, getElem_row hb, row_drop, row_drop, show f.toNat + (i.toNat - f.toNat) = i.toNat by omega, show f.toNat + (k.toNat - f.toNat) = k.toNat by omega] at this
  exact h6 (this h4 h5)
noncomputable def cAlone : Ct := ⟨[], fun ds K => match ds with
  | [.view ks es, .int .i64 who, .int .i64 f] => ks = KEdit ∧ (es.length : Int) < big ∧ (0 ≤ f ∧ f ≤ es.length) ∧ K (.bool (decide (Alone who (es.drop f.toNat)))) []
  | _ => False⟩
set_option maxRecDepth 100000 in
set_option maxHeartbeats 4000000 in
theorem p_alone : Proved 48 cAlone := by
  refine proved_of [] trivial [.tmp 6] Try.func48 rfl rfl rfl rfl (by kernel_rfl) ?_
  intro ds K hrel
  simp only [cAlone] at hrel
  split at hrel
  case h_2 => exact hrel.elim
  rename_i ks es who f
  obtain ⟨rfl, h1, ⟨h2, h3⟩, hrel⟩ := hrel
  refine ⟨rfl, Nat.le_of_ble_eq_true rfl, fun k σ => match k with
    | 2 => some { α := Lv 2 Int, R := fun ⟨i⟩ => (f ≤ i ∧ i ≤ es.length) ∧ AlN who es f i, μ := fun ⟨i⟩ => (es.length - i).toNat, st := fun ⟨i⟩ => up σ [(7, .int .i64 i)] }
    | 5 => match lookT σ.tm 7 with
      | .int _ i => some { α := Lv 5 Int, R := fun ⟨k⟩ => (i + 1 ≤ k ∧ k ≤ es.length ∧ f ≤ i ∧ i < es.length) ∧ AlN who es f i ∧ AlK who es i k, μ := fun ⟨k⟩ => (es.length - k).toNat, st := fun ⟨k⟩ => up σ [(8, .int .i64 k)] }
      | _ => none
    | _ => none, ?_⟩
  repeat' (first | refine And.intro ?_ ?_ | (intro h; first | (exact absurd h (by decide)) | (guard_hyp h : true = true; clear h) | (guard_hyp h : false = false; clear h) | (have hq := (h : Lv 2 _); clear hq; obtain ⟨_⟩ := h) | (have hq := (h : Lv 5 _); clear hq; obtain ⟨_⟩ := h) | skip) | refine Exists.intro (⟨?_⟩ : Lv 2 _) ?_ | refine Exists.intro (⟨?_⟩ : Lv 5 _) ?_ | refine Exists.intro _ (Exists.intro _ (And.intro hrel ?_)) | exact rfl | exact True.intro | exact Or.inl rfl | exact Or.inr (And.intro rfl rfl) | exact Nat.le_of_ble_eq_true rfl | (apply Exists.intro; refine And.intro ?_ ?_))
  all_goals (try ((try (change _ = _)) <;> (try dsimp only at *) <;> (try simp only [decide_eq_true_eq, decide_eq_false_iff_not, Bool.not_eq_true', Bool.not_eq_false', Bool.and_eq_true, Bool.and_eq_false_iff, beq_iff_eq, bne_iff_ne, beq_eq_false_iff_ne, bne_eq_false_iff_eq, ne_eq, Decidable.not_not, bne_self_eq_false, Bool.false_eq_true, Bool.true_eq_false, Bool.not_true, Bool.not_false, not_true_eq_false, not_false_eq_true, Int.toNat_natCast, Nat.zero_add, Nat.reduceAdd, Nat.reduceMul, Nat.reduceDiv, Nat.mul_one, lenK_one, big, fill_len, marking_len, marks_len, nrms_len, List.length_set, List.length_append, List.length_map, List.length_replicate, List.length_cons, List.length_nil, Int.natCast_add, Int.natCast_one, Int.natCast_zero] at *) <;> (repeat (with_reducible rename _ ∧ _ => hh; obtain ⟨_, _⟩ := hh)) <;> (first | omega | (refine fits_i64 ?_; omega) | (split <;> omega) | exact alN_zero _ _ _ | exact alK_zero _ _ _ | exact alK_step1 (by assumption) (by assumption) | exact alK_step2 (by assumption) (by assumption) | exact alN_step1 (by assumption) (by assumption) (by omega) | exact alN_step2 (by assumption) (by assumption) | exact true_eq (alone_of (by assumption) (by omega) (by omega)) | exact false_eq (alone_not (by assumption) (by omega) (by omega) (by omega) (by omega) (by assumption) (by assumption) (by assumption)) | (with_reducible assumption))))

/-! The edits that undo. -/
theorem drop_row {xs : List Row} {i : Nat} (h : i < xs.length) : xs.drop i = row xs i :: xs.drop (i + 1) := by
  rw [List.drop_eq_getElem_cons h, getElem_row h]
theorem undo_yes {who : Int} {es : List Row} {i : Int} (h0 : 0 ≤ i) (h1 : i < es.length) (h : (rc (row es i.toNat) 0).int = who) :
    undoE who (es.drop i.toNat) = undoE who (es.drop (i + 1).toNat) ++ [swp (row es i.toNat)] := by
  rw [show (i + 1).toNat = i.toNat + 1 by omega, drop_row (by omega)]
  simp [undoE, byW, h]
theorem undo_no {who : Int} {es : List Row} {i : Int} (h0 : 0 ≤ i) (h1 : i < es.length) (h : ¬ (rc (row es i.toNat) 0).int = who) :
    undoE who (es.drop i.toNat) = undoE who (es.drop (i + 1).toNat) := by
  rw [show (i + 1).toNat = i.toNat + 1 by omega, drop_row (by omega)]
  simp [undoE, byW, h]
theorem undo_yes1 {who : Int} {es : List Row} {i : Int} (h0 : 0 ≤ i) (h1 : i < es.length) (h : (rc (row es i.toNat) 0).int = who) :
    undoE who (es.drop (i + 1).toNat) ++ [[Sc.i who, Sc.i (rc (row es i.toNat) 1).int, Sc.i (rc (row es i.toNat) 3).int, Sc.i (rc (row es i.toNat) 2).int]] = undoE who (es.drop (i - 1 + 1).toNat) := by
  rw [show (i - 1 + 1) = i by omega, undo_yes h0 h1 h]
  unfold swp
  rw [h]
theorem undo_yes2 {who : Int} {es : List Row} {i : Int} (h0 : 0 ≤ i) (h1 : i < es.length) (h : (rc (row es i.toNat) 0).int = who) :
    undoE who (es.drop (i + 1).toNat) ++ [[Sc.i (rc (row es i.toNat) 0).int, Sc.i (rc (row es i.toNat) 1).int, Sc.i (rc (row es i.toNat) 3).int, Sc.i (rc (row es i.toNat) 2).int]] = undoE who (es.drop (i - 1 + 1).toNat) := by
  rw [show (i - 1 + 1) = i by omega, undo_yes h0 h1 h]
  rfl
theorem undo_no1 {who : Int} {es : List Row} {i : Int} (h0 : 0 ≤ i) (h1 : i < es.length) (h : ¬ (rc (row es i.toNat) 0).int = who) :
    undoE who (es.drop (i + 1).toNat) = undoE who (es.drop (i - 1 + 1).toNat) := by
  rw [show (i - 1 + 1) = i by omega, undo_no h0 h1 h]
theorem undo_zero (who : Int) (es : List Row) : undoE who (es.drop ((es.length : Int) - 1 + 1).toNat) = [] := by
  rw [List.drop_of_length_le (by omega)]; simp [undoE]
theorem undo_all {who : Int} {es : List Row} {i f : Int} (h : ¬ f ≤ i) (h2 : f - 1 ≤ i) : undoE who (es.drop (i + 1).toNat) = undoE who (es.drop f.toNat) := by
  rw [show i + 1 = f by omega]
theorem undo_len (who : Int) (es : List Row) (n : Nat) : (undoE who (es.drop n)).length ≤ es.length := by
  simp only [undoE, List.length_reverse, List.length_map]
  exact Nat.le_trans (List.length_filter_le _ _) (by simp)
def cRev : Ct := ⟨[], fun ds K => match ds with
  | [.view ks es, .int .i64 who, .int .i64 f] => ks = KEdit ∧ es.length ≤ 1048576 ∧ (0 ≤ f ∧ f ≤ es.length) ∧ K (.fr 29 KEdit (undoE who (es.drop f.toNat))) []
  | _ => False⟩
/-- The orders of a region that draws. -/
def trRev : Nat → Option (Bool × Tr)
  | 6 => some (false, .take 0 (.take 1 (.take 2 (.take 3 (.take 4 (.take 5 (.take 7 (.take 8 (.take 9 (.take 10 (.take 12 (.take 13 (.take 14 (.take 15 (.all (.cons 6 (.all (.cons 11 (.all (.cons 16 (.take 17 (.all (.cons 18 (.all (.cons 19 (.take 20 .done) .nil)) .nil))) .nil)) (.cons 16 (.all (.cons 11 (.take 17 (.all (.cons 18 (.all (.cons 19 (.take 20 .done) .nil)) .nil))) .nil)) .nil))) (.cons 11 (.all (.cons 6 (.all (.cons 16 (.take 17 (.all (.cons 18 (.all (.cons 19 (.take 20 .done) .nil)) .nil))) .nil)) (.cons 16 (.all (.cons 6 (.take 17 (.all (.cons 18 (.all (.cons 19 (.take 20 .done) .nil)) .nil))) .nil)) .nil))) (.cons 16 (.all (.cons 6 (.all (.cons 11 (.take 17 (.all (.cons 18 (.all (.cons 19 (.take 20 .done) .nil)) .nil))) .nil)) (.cons 11 (.all (.cons 6 (.take 17 (.all (.cons 18 (.all (.cons 19 (.take 20 .done) .nil)) .nil))) .nil)) .nil))) .nil))))))))))))))))))
  | _ => none
set_option maxRecDepth 100000 in
set_option maxHeartbeats 8000000 in
theorem p_rev : Proved 49 cRev := by
  refine proved_tr trRev [] trivial [.tmp 6] Try.func49 rfl rfl rfl rfl (by kernel_rfl) ?_
  intro ds K hrel
  simp only [cRev] at hrel
  split at hrel
  case h_2 => exact hrel.elim
  rename_i ks es who f
  obtain ⟨rfl, h1, ⟨h2, h3⟩, hrel⟩ := hrel
  refine ⟨rfl, Nat.le_of_ble_eq_true rfl, fun k σ => match k with
    | 3 => some { α := Lv 3 Int, R := fun ⟨i⟩ => f - 1 ≤ i ∧ i ≤ es.length - 1, μ := fun ⟨i⟩ => (i + 1).toNat, st := fun ⟨i⟩ => upH σ [(8, .int .i64 i), (7, .own 0)] 0 (.rows 29 KEdit (undoE who (es.drop (i + 1).toNat))) }
    | _ => none, ?_⟩
  repeat' (first | refine And.intro ?_ ?_ | (intro h; first | (exact absurd h (by decide)) | (guard_hyp h : true = true; clear h) | (guard_hyp h : false = false; clear h) | (have hq := (h : Lv 3 _); clear hq; obtain ⟨_⟩ := h) | skip) | refine Exists.intro (⟨?_⟩ : Lv 3 _) ?_ | refine Exists.intro _ (Exists.intro _ (And.intro hrel ?_)) | exact rfl | exact True.intro | exact Or.inl rfl | exact Or.inr (And.intro rfl rfl) | exact Nat.le_of_ble_eq_true rfl | (apply Exists.intro; refine And.intro ?_ ?_))
  all_goals (try ((try (change _ = _)) <;> (try dsimp only at *) <;> (try simp only [decide_eq_true_eq, decide_eq_false_iff_not, Bool.not_eq_true', Bool.not_eq_false', Bool.and_eq_true, Bool.and_eq_false_iff, beq_iff_eq, bne_iff_ne, beq_eq_false_iff_ne, bne_eq_false_iff_eq, ne_eq, Decidable.not_not, bne_self_eq_false, Bool.false_eq_true, Bool.true_eq_false, Bool.not_true, Bool.not_false, not_true_eq_false, not_false_eq_true, Int.toNat_natCast, Nat.zero_add, Nat.reduceAdd, Nat.reduceMul, Nat.reduceDiv, Nat.mul_one, lenK_one, big, fill_len, marking_len, marks_len, nrms_len, List.length_set, List.length_append, List.length_map, List.length_replicate, List.length_cons, List.length_nil, Int.natCast_add, Int.natCast_one, Int.natCast_zero] at *) <;> (repeat (with_reducible rename _ ∧ _ => hh; obtain ⟨_, _⟩ := hh)) <;> (first | omega | (refine fits_i64 ?_; omega) | (split <;> omega) | exact (undo_zero _ _).symm | exact undo_zero _ _ | exact undo_yes1 (by omega) (by omega) (by assumption) | exact (undo_yes1 (by omega) (by omega) (by assumption)).symm | exact undo_no1 (by omega) (by omega) (by assumption) | exact (undo_no1 (by omega) (by omega) (by assumption)).symm | exact undo_all (by omega) (by omega) | (refine Nat.le_trans (Nat.mul_le_mul_right 32 (Nat.add_le_add_right (undo_len _ _ _) _)) ?_; omega))))
end Go.Proofs.Ytggahgackpiddaa.V
