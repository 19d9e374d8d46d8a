/-
  Recovery: the laws that the program answers as the reference does, as functions.
-/
import Derived.Test.YtlkjddbhcbnmkaaCd
set_option linter.unusedSimpArgs false
set_option linter.unusedVariables false
namespace Go.Proofs.Ytlkjddbhcbnmkaa.V
open Go Go.RowKit
open Classical

set_option maxRecDepth 100000 in
set_option maxHeartbeats 8000000 in
theorem p_fnExactRedoCells : Proved 6 (cLaw [.c (.s KCell), .c (.s KNote)]) := by
  refine proved_of [(26, cSz KCell), (18, cSz KNote), (28, cTo 56 KCell), (21, cTo 69 KNote), (30, cEq KCell), (24, cEq KNote), (31, cMark 56 KCell), (32, cMark 69 KNote), (33, cHeld KCell), (27, cRedoC), (29, cRedoC)] ⟨p_szCellS, p_szNoteS, p_toCellS, p_toNoteS, p_eqCellS, p_eqNoteS, p_markCellS, p_markNoteS, p_heldCellS, p_sRedoC, p_iRedoC, trivial⟩ [.tmp 4] Try.func6 rfl rfl rfl rfl (by kernel_rfl) ?_
  rintro ds K ⟨⟨a, l, rfl, ⟨c, rfl, h1, -⟩, ⟨b, l', rfl, ⟨es, rfl, h2, -⟩, rfl⟩⟩, hrel⟩
  unfold maxLen at h1 h2
  have hol := redone_len (nrms KCell c) (nrms KNote es)
  refine ⟨rfl, Nat.le_of_ble_eq_true rfl, fun _ _ => none, ?_⟩
  repeat' (first | refine And.intro ?_ ?_ | (intro h; first | (exact absurd h (by decide)) | (guard_hyp h : true = true; clear h) | (guard_hyp h : false = false; clear h) | skip) | refine Exists.intro _ (Exists.intro _ (And.intro hrel ?_)) | exact rfl | exact True.intro | exact Or.inl rfl | exact Or.inr (And.intro rfl rfl) | exact Nat.le_of_ble_eq_true rfl | (apply Exists.intro; refine And.intro ?_ ?_))
  all_goals (try ((try (change _ = _)) <;> (try dsimp only at *) <;> (try simp only [decide_eq_true_eq, decide_eq_false_iff_not, Bool.not_eq_true', Bool.not_eq_false', Bool.and_eq_true, Bool.and_eq_false_iff, beq_iff_eq, bne_iff_ne, beq_eq_false_iff_ne, bne_eq_false_iff_eq, ne_eq, Decidable.not_not, bne_self_eq_false, Bool.false_eq_true, Bool.true_eq_false, Bool.not_true, Bool.not_false, not_true_eq_false, not_false_eq_true, Int.toNat_natCast, Nat.zero_add, Nat.reduceAdd, Nat.reduceMul, Nat.reduceDiv, Nat.mul_one, lenK_one, big, fill_len, marking_len, marks_len, nrms_len, List.length_set, List.length_append, List.length_map, List.length_replicate, List.length_cons, List.length_nil, Int.natCast_add, Int.natCast_one, Int.natCast_zero, nrms_nrms, decide_true, nrms_redone, lenK_KCell, lenK_KNote] at *) <;> (repeat (with_reducible rename _ ∧ _ => hh; obtain ⟨_, _⟩ := hh)) <;> (first | omega | (refine fits_i64 ?_; omega) | (split <;> omega))))
set_option maxRecDepth 100000 in
set_option maxHeartbeats 8000000 in
theorem p_fnExactRecoverStore : Proved 10 (cLaw [.c (.s KCell), .c (.s KNote)]) := by
  refine proved_of [(26, cSz KCell), (18, cSz KNote), (28, cTo 56 KCell), (21, cTo 69 KNote), (30, cEq KCell), (24, cEq KNote), (31, cMark 56 KCell), (32, cMark 69 KNote), (23, cEq KInt), (38, cMark 3 KInt), (39, cHeld KInt), (40, cRcvS), (41, cRcvS)] ⟨p_szCellS, p_szNoteS, p_toCellS, p_toNoteS, p_eqCellS, p_eqNoteS, p_markCellS, p_markNoteS, p_eqIntS, p_markIntS, p_heldIntS, p_sRcvS, p_iRcvS, trivial⟩ [.tmp 4] Try.func10 rfl rfl rfl rfl (by kernel_rfl) ?_
  rintro ds K ⟨⟨a, l, rfl, ⟨c, rfl, h1, -⟩, ⟨b, l', rfl, ⟨es, rfl, h2, -⟩, rfl⟩⟩, hrel⟩
  unfold maxLen at h1 h2
  have hol := rcvS_len (nrms KCell c) (nrms KNote es)
  refine ⟨rfl, Nat.le_of_ble_eq_true rfl, fun _ _ => none, ?_⟩
  repeat' (first | refine And.intro ?_ ?_ | (intro h; first | (exact absurd h (by decide)) | (guard_hyp h : true = true; clear h) | (guard_hyp h : false = false; clear h) | skip) | refine Exists.intro _ (Exists.intro _ (And.intro hrel ?_)) | exact rfl | exact True.intro | exact Or.inl rfl | exact Or.inr (And.intro rfl rfl) | exact Nat.le_of_ble_eq_true rfl | (apply Exists.intro; refine And.intro ?_ ?_))
  all_goals (try ((try (change _ = _)) <;> (try dsimp only at *) <;> (try simp only [decide_eq_true_eq, decide_eq_false_iff_not, Bool.not_eq_true', Bool.not_eq_false', Bool.and_eq_true, Bool.and_eq_false_iff, beq_iff_eq, bne_iff_ne, beq_eq_false_iff_ne, bne_eq_false_iff_eq, ne_eq, Decidable.not_not, bne_self_eq_false, Bool.false_eq_true, Bool.true_eq_false, Bool.not_true, Bool.not_false, not_true_eq_false, not_false_eq_true, Int.toNat_natCast, Nat.zero_add, Nat.reduceAdd, Nat.reduceMul, Nat.reduceDiv, Nat.mul_one, lenK_one, big, fill_len, marking_len, marks_len, nrms_len, List.length_set, List.length_append, List.length_map, List.length_replicate, List.length_cons, List.length_nil, Int.natCast_add, Int.natCast_one, Int.natCast_zero, nrms_nrms, decide_true, nrms_rcvS, lenK_KCell, lenK_KNote, lenK_KInt] at *) <;> (repeat (with_reducible rename _ ∧ _ => hh; obtain ⟨_, _⟩ := hh)) <;> (first | omega | (refine fits_i64 ?_; omega) | (split <;> omega))))
set_option maxRecDepth 100000 in
set_option maxHeartbeats 8000000 in
theorem p_fnExactRecoverFrom : Proved 9 (cLaw [.c (.s KCell), .c (.s KNote), .c (.k (.int .i64))]) := by
  refine proved_of [(26, cSz KCell), (18, cSz KNote), (28, cTo 56 KCell), (21, cTo 69 KNote), (30, cEq KCell), (24, cEq KNote), (31, cMark 56 KCell), (32, cMark 69 KNote), (23, cEq KInt), (38, cMark 3 KInt), (39, cHeld KInt), (36, cRcvR), (37, cRcvR)] ⟨p_szCellS, p_szNoteS, p_toCellS, p_toNoteS, p_eqCellS, p_eqNoteS, p_markCellS, p_markNoteS, p_eqIntS, p_markIntS, p_heldIntS, p_sRcvR, p_iRcvR, trivial⟩ [.tmp 6] Try.func9 rfl rfl rfl rfl (by kernel_rfl) ?_
  rintro ds K ⟨⟨a, l, rfl, ⟨c, rfl, h1, -⟩, ⟨b, l', rfl, ⟨es, rfl, h2, -⟩, ⟨d, l2, rfl, ⟨f, rfl, hf⟩, rfl⟩⟩⟩, hrel⟩
  unfold maxLen at h1 h2
  have hol := rcvR_len (nrms KCell c) (nrms KNote es) f
  refine ⟨rfl, Nat.le_of_ble_eq_true rfl, fun _ _ => none, ?_⟩
  repeat' (first | refine And.intro ?_ ?_ | (intro h; first | (exact absurd h (by decide)) | (guard_hyp h : true = true; clear h) | (guard_hyp h : false = false; clear h) | skip) | refine Exists.intro _ (Exists.intro _ (And.intro hrel ?_)) | exact rfl | exact True.intro | exact Or.inl rfl | exact Or.inr (And.intro rfl rfl) | exact Nat.le_of_ble_eq_true rfl | (apply Exists.intro; refine And.intro ?_ ?_))
  all_goals (try ((try (change _ = _)) <;> (try dsimp only at *) <;> (try simp only [decide_eq_true_eq, decide_eq_false_iff_not, Bool.not_eq_true', Bool.not_eq_false', Bool.and_eq_true, Bool.and_eq_false_iff, beq_iff_eq, bne_iff_ne, beq_eq_false_iff_ne, bne_eq_false_iff_eq, ne_eq, Decidable.not_not, bne_self_eq_false, Bool.false_eq_true, Bool.true_eq_false, Bool.not_true, Bool.not_false, not_true_eq_false, not_false_eq_true, Int.toNat_natCast, Nat.zero_add, Nat.reduceAdd, Nat.reduceMul, Nat.reduceDiv, Nat.mul_one, lenK_one, big, fill_len, marking_len, marks_len, nrms_len, List.length_set, List.length_append, List.length_map, List.length_replicate, List.length_cons, List.length_nil, Int.natCast_add, Int.natCast_one, Int.natCast_zero, nrms_nrms, decide_true, nrms_rcvR, lenK_KCell, lenK_KNote, lenK_KInt] at *) <;> (repeat (with_reducible rename _ ∧ _ => hh; obtain ⟨_, _⟩ := hh)) <;> (first | omega | (refine fits_i64 ?_; omega) | (split <;> omega) | (with_reducible assumption))))
end Go.Proofs.Ytlkjddbhcbnmkaa.V
