/-
  Edits: the laws that the program answers as the reference does, as functions: those of others, one edit.
-/
import Derived.Test.YtggahgackpiddaaUa
set_option linter.unusedSimpArgs false
set_option linter.unusedVariables false
namespace Go.Proofs.Ytggahgackpiddaa.V
open Go Go.RowKit
open Classical

theorem others_len (xs : List Row) (who : Int) : (others xs who).length ≤ 20 := by
  unfold others
  split
  · simp
  · rw [nrms_len]; exact Nat.le_trans (List.length_filter_le _ _) (by omega)
theorem others_nrms (xs : List Row) (who : Int) : nrms KEdit (others xs who) = others xs who := by
  unfold others
  split
  · rfl
  · rw [nrms_nrms]
set_option maxRecDepth 100000 in
set_option maxHeartbeats 8000000 in
theorem p_fnExactWithoutOwner : Proved 4 (cLaw [.c (.s KEdit), .c (.k (.int .i64))]) := by
  refine proved_of [(14, cSz KEdit), (15, cTo 29 KEdit), (13, cWO), (11, cWO), (16, cEq KEdit), (17, cMark 29 KEdit), (18, cHeld KEdit)]
    ⟨p_szEditS, p_toEditS, p_sWO, p_iWO, p_eqEditS, p_markEditS, p_heldEditS, trivial⟩ [.tmp 4] Try.func4 rfl rfl rfl rfl (by kernel_rfl) ?_
  rintro ds K ⟨⟨a, l, rfl, ⟨xs, rfl, h1, -⟩, ⟨b, l', rfl, ⟨who, rfl, hw⟩, rfl⟩⟩, hrel⟩
  unfold maxLen at h1
  have hol := others_len (nrms KEdit xs) who
  refine ⟨rfl, Nat.le_of_ble_eq_true rfl, fun _ _ => none, ?_⟩
  repeat' (first | refine And.intro ?_ ?_ | (intro h; first | (exact absurd h (by decide)) | (guard_hyp h : true = true; clear h) | (guard_hyp h : false = false; clear h) | skip) | refine Exists.intro _ (Exists.intro _ (And.intro hrel ?_)) | exact rfl | exact True.intro | exact Or.inl rfl | exact Or.inr (And.intro rfl rfl) | exact Nat.le_of_ble_eq_true rfl | (apply Exists.intro; refine And.intro ?_ ?_))
  all_goals (try ((try (change _ = _)) <;> (try dsimp only at *) <;> (try simp only [decide_eq_true_eq, decide_eq_false_iff_not, Bool.not_eq_true', Bool.not_eq_false', Bool.and_eq_true, Bool.and_eq_false_iff, beq_iff_eq, bne_iff_ne, beq_eq_false_iff_ne, bne_eq_false_iff_eq, ne_eq, Decidable.not_not, bne_self_eq_false, Bool.false_eq_true, Bool.true_eq_false, Bool.not_true, Bool.not_false, not_true_eq_false, not_false_eq_true, Int.toNat_natCast, Nat.zero_add, Nat.reduceAdd, Nat.reduceMul, Nat.reduceDiv, Nat.mul_one, lenK_one, big, fill_len, marking_len, marks_len, nrms_len, List.length_set, List.length_append, List.length_map, List.length_replicate, List.length_cons, List.length_nil, Int.natCast_add, Int.natCast_one, Int.natCast_zero, nrms_nrms, decide_true, others_nrms, lenK_KEdit] at *) <;> (repeat (with_reducible rename _ ∧ _ => hh; obtain ⟨_, _⟩ := hh)) <;> (first | omega | (refine fits_i64 ?_; omega) | (split <;> omega))))

theorem done_len (s : List Row) (o t od nw : Int) : (doneE s o t od nw).length ≤ 6 := by
  unfold doneE
  split
  · rename_i h; rw [setI_len]; exact h.1.hi
  · simp
theorem nrms_set' {ks : List Kd} {xs : List Row} {i : Nat} {r : Row} (h : nrms ks xs = xs) (h2 : nrm ks r = r) : nrms ks (xs.set i r) = xs.set i r := by
  have e : nrms ks (xs.set i r) = (nrms ks xs).set i (nrm ks r) := by simp [nrms, List.map_set]
  rw [e, h, h2]
theorem paste_int (r : Row) (v : Int) (h : nrm KInt r = r) : pasteR r 0 [.i v] = [.i v] := by rw [← h]; rfl
theorem nrms_setI {s : List Row} {t v : Int} (h : nrms KInt s = s) : nrms KInt (setI s t v) = setI s t v := by
  unfold setI
  by_cases hl : t.toNat < s.length
  · have e : nrm KInt (row s t.toNat) = row s t.toNat := by rw [← row_nrms hl, h]
    exact nrms_set' h (by rw [paste_int _ _ e]; rfl)
  · rw [List.set_eq_of_length_le (by omega), h]
theorem done_nrms (s : List Row) (o t od nw : Int) : nrms KInt (doneE (nrms KInt s) o t od nw) = doneE (nrms KInt s) o t od nw := by
  unfold doneE
  split
  · exact nrms_setI (nrms_nrms KInt s)
  · rfl
/-- The orders of the regions that draw. -/
def trDo : Nat → Option (Bool × Tr)
  | 3 => some (true, .take 0 (.take 2 (.all (.cons 1 (.all (.cons 3 (.all (.cons 4 (.take 5 (.take 6 (.take 7 (.take 8 (.take 9 .done))))) .nil)) .nil)) .nil))))
  | 22 => some (true, .take 0 (.take 2 (.all (.cons 1 (.all (.cons 3 (.all (.cons 4 (.take 5 (.take 6 (.take 7 (.take 8 (.take 9 .done))))) .nil)) .nil)) .nil))))
  | _ => none
def CEdit : PK := .st [.k (.int .i64), .k (.int .i64), .k (.int .i64), .k (.int .i64)]
set_option maxRecDepth 100000 in
set_option maxHeartbeats 8000000 in
theorem p_fnExactDoEdit : Proved 5 (cLaw [.c (.s KInt), CEdit]) := by
  refine proved_tr trDo [(20, cTo 3 KInt), (21, cToEdit), (19, cDo), (22, cDo), (23, cEq KInt), (24, cMark 3 KInt), (25, cHeld KInt)]
    ⟨p_toIntS, p_toEdit, p_sDo, p_iDo, p_eqIntS, p_markIntS, p_heldIntS, trivial⟩ [.tmp 4] Try.func5 rfl rfl rfl rfl (by kernel_rfl) ?_
  rintro ds K ⟨⟨a, l, rfl, ⟨xs, rfl, h1, -⟩, ⟨b, l', rfl, ⟨al, rfl, hal⟩, rfl⟩⟩, hrel⟩
  obtain ⟨_, _, rfl, ⟨o, rfl, ho⟩, _, _, rfl, ⟨t, rfl, ht⟩, _, _, rfl, ⟨od, rfl, hod⟩, _, _, rfl, ⟨nw, rfl, hnw⟩, rfl⟩ := hal
  unfold maxLen at h1
  have hdl := done_len (nrms KInt xs) o t od nw
  refine ⟨rfl, Nat.le_of_ble_eq_true rfl, fun _ _ => none, ?_⟩
  repeat' (first | refine And.intro ?_ ?_ | (intro h; first | (exact absurd h (by decide)) | (guard_hyp h : true = true; clear h) | (guard_hyp h : false = false; clear h) | skip) | refine Exists.intro _ (Exists.intro _ (And.intro hrel ?_)) | exact rfl | exact True.intro | exact Or.inl rfl | exact Or.inr (And.intro rfl rfl) | exact Nat.le_of_ble_eq_true rfl | (apply Exists.intro; refine And.intro ?_ ?_))
  all_goals (try ((try (change _ = _)) <;> (try dsimp only at *) <;> (try simp only [decide_eq_true_eq, decide_eq_false_iff_not, Bool.not_eq_true', Bool.not_eq_false', Bool.and_eq_true, Bool.and_eq_false_iff, beq_iff_eq, bne_iff_ne, beq_eq_false_iff_ne, bne_eq_false_iff_eq, ne_eq, Decidable.not_not, bne_self_eq_false, Bool.false_eq_true, Bool.true_eq_false, Bool.not_true, Bool.not_false, not_true_eq_false, not_false_eq_true, Int.toNat_natCast, Nat.zero_add, Nat.reduceAdd, Nat.reduceMul, Nat.reduceDiv, Nat.mul_one, lenK_one, big, fill_len, marking_len, marks_len, nrms_len, List.length_set, List.length_append, List.length_map, List.length_replicate, List.length_cons, List.length_nil, Int.natCast_add, Int.natCast_one, Int.natCast_zero, nrms_nrms, decide_true, lenK_KInt, done_nrms] at *) <;> (repeat (with_reducible rename _ ∧ _ => hh; obtain ⟨_, _⟩ := hh)) <;> (first | omega | (refine fits_i64 ?_; omega) | (split <;> omega))))
end Go.Proofs.Ytggahgackpiddaa.V
