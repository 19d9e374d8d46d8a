/-
  The laws on edits that are undone, as functions: all of them, those from a point on.
-/
import Derived.Test.YtggahgackpiddaaUk
set_option linter.unusedSimpArgs false
set_option linter.unusedVariables false
namespace Go.Proofs.Ytggahgackpiddaa.V
open Go Go.RowKit
open Classical

theorem undo_two {s es : List Row} {who : Int} (h : CanUndo s es who 0) (hn : nrms KEdit es = es) (h2 : CanRun s (others es who)) : true = decide (nrms KInt (ranE s (es ++ undone s es who 0)) = nrms KInt (ranE s (others es who))) := true_eq (undo_zero_law h hn h2)
theorem app_big {s es : List Row} {who f : Int} (h : es.length ≤ 21) : (es.length : Int) + (undone s es who f).length < 9223372036854775808 := by have := undoE_len s es who f; omega
theorem ran_big {s es : List Row} (h : s.length ≤ 6) : ((ranE s es).length : Int) < 9223372036854775808 := by have := ranE_len s es; omega
theorem app_len (s es : List Row) (who f : Int) (h : es.length ≤ 21) : (es ++ undone s es who f).length ≤ 41 := by
  rw [List.length_append]; have := undoE_len s es who f; omega
set_option maxRecDepth 100000 in
set_option maxHeartbeats 16000000 in
theorem p_fnUndoEdits : Proved 8 (cLaw [.c (.s KU8)]) := by
  refine proved_of [(28, cDrawUE), (29, cUndo), (30, cUndo), (12, cEq KEdit), (31, cRunE), (11, cWO), (27, cEq KInt)] ⟨p_drawUndoEdits, p_iUndo, p_sUndo, p_equalEditS, p_iRunE, p_iWO, p_equalIntS, trivial⟩ [.tmp 2] Try.func8 rfl rfl rfl rfl (by kernel_rfl) ?_
  rintro ds K ⟨hds, hrel⟩
  obtain ⟨xs, rfl, h1, h2⟩ := law_code hds
  unfold maxLen at h1
  refine ⟨rfl, Nat.le_of_ble_eq_true rfl, fun _ _ => none, ?_⟩
  repeat' (first | refine And.intro ?_ ?_ | (intro h; first | (exact absurd h (by decide)) | (guard_hyp h : true = true; clear h) | (guard_hyp h : false = false; clear h) | skip) | refine Exists.intro _ (Exists.intro _ (And.intro hrel ?_)) | exact rfl | exact True.intro | exact Or.inl rfl | exact Or.inr (And.intro rfl rfl) | exact Nat.le_of_ble_eq_true rfl | (apply Exists.intro; refine And.intro ?_ ?_))
  all_goals (try ((try (change _ = _)) <;> (try dsimp only at *) <;> (try simp only [decide_eq_true_eq, decide_eq_false_iff_not, Bool.not_eq_true', Bool.not_eq_false', Bool.and_eq_true, Bool.and_eq_false_iff, beq_iff_eq, bne_iff_ne, beq_eq_false_iff_ne, bne_eq_false_iff_eq, ne_eq, Decidable.not_not, bne_self_eq_false, Bool.false_eq_true, Bool.true_eq_false, Bool.not_true, Bool.not_false, not_true_eq_false, not_false_eq_true, Int.toNat_natCast, Nat.zero_add, Nat.reduceAdd, Nat.reduceMul, Nat.reduceDiv, Nat.mul_one, lenK_one, big, fill_len, marking_len, marks_len, nrms_len, List.length_set, List.length_append, List.length_map, List.length_replicate, List.length_cons, List.length_nil, Int.natCast_add, Int.natCast_one, Int.natCast_zero, decide_true, List.nil_append] at *) <;> (repeat (with_reducible rename _ ∧ _ => hh; obtain ⟨_, _⟩ := hh)) <;> (first | omega | (refine fits_i64 ?_; omega) | (split <;> omega) | exact h2 _ (by with_reducible assumption) | (with_reducible exact Int.lt_of_le_of_lt (Int.ofNat_le.2 (undoE_len _ _ _ _)) (by decide)) | (refine Nat.le_trans (Nat.mul_le_mul_right 32 (Nat.add_le_add_left (undoE_len _ _ _ _) _)) ?_; omega) | (with_reducible exact app_big (by omega)) | (with_reducible exact ran_big (by omega)) | (with_reducible exact Int.lt_of_le_of_lt (Int.ofNat_le.2 (others_len _ _)) (by decide)) | (exfalso; refine absurd (undo_one ?_) (by with_reducible assumption) <;> with_reducible assumption) | (with_reducible rename _ = (0 : Int) => hf0; subst hf0; first | (refine undo_two ?_ ?_ ?_ <;> with_reducible assumption) | (refine (undo_two ?_ ?_ ?_).symm <;> with_reducible assumption) | (refine undo_zero_law ?_ ?_ ?_ <;> with_reducible assumption)))))
end Go.Proofs.Ytggahgackpiddaa.V
