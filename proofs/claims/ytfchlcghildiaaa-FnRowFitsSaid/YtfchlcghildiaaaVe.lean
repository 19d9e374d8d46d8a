/-
  The law on rows, as a function.
-/
import Derived.Test.YtfchlcghildiaaaVd
set_option linter.unusedSimpArgs false
set_option linter.unusedVariables false
namespace Go.Proofs.Ytfchlcghildiaaa.V
open Go Go.RowKit
open Classical

set_option maxRecDepth 100000 in
set_option maxHeartbeats 16000000 in
theorem p_fnRowFits : Proved 11 (cLaw [.c (.s KU8)]) := by
  refine proved_of [(32, cDRF), (31, cRF), (33, cRF)] ⟨p_drawRowFits, p_iRF, p_sRF, trivial⟩ [.tmp 2] Try.func11 rfl rfl rfl rfl (by kernel_rfl) ?_
  rintro ds K ⟨hds, hrel⟩
  obtain ⟨xs, rfl, h1, h2⟩ := law_code hds
  unfold maxLen at h1
  refine ⟨rfl, Nat.le_of_ble_eq_true rfl, fun _ _ => none, ?_⟩
  repeat' (first | refine And.intro ?_ ?_ | (intro h; first | (exact absurd h (by decide)) | (guard_hyp h : true = true; clear h) | (guard_hyp h : false = false; clear h) | skip) | refine Exists.intro _ (Exists.intro _ (And.intro hrel ?_)) | exact rfl | exact True.intro | exact Or.inl rfl | exact Or.inr (And.intro rfl rfl) | exact Nat.le_of_ble_eq_true rfl | (apply Exists.intro; refine And.intro ?_ ?_))
  all_goals (try ((try (change _ = _)) <;> (try dsimp only at *) <;> (try simp only [decide_eq_true_eq, decide_eq_false_iff_not, Bool.not_eq_true', Bool.not_eq_false', Bool.and_eq_true, Bool.and_eq_false_iff, beq_iff_eq, bne_iff_ne, beq_eq_false_iff_ne, bne_eq_false_iff_eq, ne_eq, Decidable.not_not, bne_self_eq_false, Bool.false_eq_true, Bool.true_eq_false, Bool.not_true, Bool.not_false, not_true_eq_false, not_false_eq_true, Int.toNat_natCast, Nat.zero_add, Nat.reduceAdd, Nat.reduceMul, Nat.reduceDiv, Nat.mul_one, lenK_one, big, fill_len, marking_len, marks_len, nrms_len, List.length_set, List.length_append, List.length_map, List.length_replicate, List.length_cons, List.length_nil, Int.natCast_add, Int.natCast_one, Int.natCast_zero, decide_true, List.nil_append, List.drop_zero, Int.toNat_zero, Bool.and_self] at *) <;> (repeat (with_reducible rename _ ∧ _ => hh; obtain ⟨_, _⟩ := hh)) <;> (first | omega | (refine fits_i64 ?_; omega) | (split <;> omega) | exact h2 _ (by with_reducible assumption) | (with_reducible assumption) | exact sb_sl (by with_reducible assumption) | (exfalso; have q1 := rf_len ⟨(by with_reducible assumption), (by with_reducible assumption)⟩; omega) | (with_reducible exact (rem_rng ⟨(by with_reducible assumption), (by with_reducible assumption)⟩).1) | (with_reducible exact (rem_rng ⟨(by with_reducible assumption), (by with_reducible assumption)⟩).2) | (with_reducible exact sl_less (by with_reducible assumption)) | (with_reducible exact sl_part (by with_reducible assumption) _) | (with_reducible exact part_big (by omega)) | (with_reducible exact len_pred (by with_reducible assumption) (by with_reducible assumption)) | (with_reducible exact short_t (by with_reducible assumption) (by with_reducible assumption)) | (with_reducible exact (short_t (by with_reducible assumption) (by with_reducible assumption)).symm) | (with_reducible exact short_law ⟨(by with_reducible assumption), (by with_reducible assumption)⟩) | (with_reducible exact (short_f (by with_reducible assumption) (by with_reducible assumption)).symm) | (exfalso; exact less_bad ⟨(by with_reducible assumption), (by with_reducible assumption)⟩ (by with_reducible assumption)) | (with_reducible exact less_law ⟨(by with_reducible assumption), (by with_reducible assumption)⟩ (by omega)))))
end Go.Proofs.Ytfchlcghildiaaa.V
