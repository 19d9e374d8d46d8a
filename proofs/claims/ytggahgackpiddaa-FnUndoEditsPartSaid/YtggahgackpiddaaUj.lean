/-
  The laws on edits that are undone, as functions.
-/
import Derived.Test.YtggahgackpiddaaUi
set_option linter.unusedSimpArgs false
set_option linter.unusedVariables false
namespace Go.Proofs.Ytggahgackpiddaa.V
open Go Go.RowKit
open Classical

theorem undoE_len (s es : List Row) (who f : Int) : (undone s es who f).length ≤ 20 := by
  unfold undone
  split
  · rename_i h; have := h.ln; omega
  · simp
theorem swp_nrm (e : Row) : nrm KEdit (swp e) = swp e := rfl
theorem nrms_mem {ks : List Kd} {xs : List Row} (h : ∀ r ∈ xs, nrm ks r = r) : nrms ks xs = xs := by
  unfold nrms
  induction xs with
  | nil => rfl
  | cons a l ih => simp only [List.map_cons]; rw [h a (List.mem_cons_self ..), ih (fun r hr => h r (List.mem_cons_of_mem _ hr))]
theorem nrms_undone (s es : List Row) (who f : Int) : nrms KEdit (undone s es who f) = undone s es who f := by
  unfold undone
  split
  · refine nrms_mem (fun r hr => ?_)
    simp only [undoE, List.mem_reverse, List.mem_map] at hr
    obtain ⟨x, _, rfl⟩ := hr
    exact swp_nrm x
  · rfl
set_option maxRecDepth 100000 in
set_option maxHeartbeats 8000000 in
theorem p_fnExactUndoEdits : Proved 9 (cLaw [.c (.s KInt), .c (.s KEdit), .c (.k (.int .i64)), .c (.k (.int .i64))]) := by
  refine proved_of [(20, cTo 3 KInt), (14, cSz KEdit), (15, cTo 29 KEdit), (30, cUndo), (29, cUndo), (23, cEq KInt), (24, cMark 3 KInt), (16, cEq KEdit), (17, cMark 29 KEdit), (18, cHeld KEdit)]
    ⟨p_toIntS, p_szEditS, p_toEditS, p_sUndo, p_iUndo, p_eqIntS, p_markIntS, p_eqEditS, p_markEditS, p_heldEditS, trivial⟩ [.tmp 8] Try.func9 rfl rfl rfl rfl (by kernel_rfl) ?_
  rintro ds K ⟨⟨a, l, rfl, ⟨s, rfl, h1, -⟩, ⟨b, l', rfl, ⟨es, rfl, h2, -⟩, ⟨c, l2, rfl, ⟨who, rfl, hw⟩, ⟨d, l3, rfl, ⟨f, rfl, hf⟩, rfl⟩⟩⟩⟩, hrel⟩
  unfold maxLen at h1 h2
  have hol := undoE_len (nrms KInt s) (nrms KEdit es) who f
  refine ⟨rfl, Nat.le_of_ble_eq_true rfl, fun _ _ => none, ?_⟩
  repeat' (first | refine And.intro ?_ ?_ | (intro h; first | (exact absurd h (by decide)) | (guard_hyp h : true = true; clear h) | (guard_hyp h : false = false; clear h) | skip) | refine Exists.intro _ (Exists.intro _ (And.intro hrel ?_)) | exact rfl | exact True.intro | exact Or.inl rfl | exact Or.inr (And.intro rfl rfl) | exact Nat.le_of_ble_eq_true rfl | (apply Exists.intro; refine And.intro ?_ ?_))
  all_goals (try ((try (change _ = _)) <;> (try dsimp only at *) <;> (try simp only [decide_eq_true_eq, decide_eq_false_iff_not, Bool.not_eq_true', Bool.not_eq_false', Bool.and_eq_true, Bool.and_eq_false_iff, beq_iff_eq, bne_iff_ne, beq_eq_false_iff_ne, bne_eq_false_iff_eq, ne_eq, Decidable.not_not, bne_self_eq_false, Bool.false_eq_true, Bool.true_eq_false, Bool.not_true, Bool.not_false, not_true_eq_false, not_false_eq_true, Int.toNat_natCast, Nat.zero_add, Nat.reduceAdd, Nat.reduceMul, Nat.reduceDiv, Nat.mul_one, lenK_one, big, fill_len, marking_len, marks_len, nrms_len, List.length_set, List.length_append, List.length_map, List.length_replicate, List.length_cons, List.length_nil, Int.natCast_add, Int.natCast_one, Int.natCast_zero, nrms_nrms, decide_true, nrms_undone, lenK_KEdit, lenK_KInt] at *) <;> (repeat (with_reducible rename _ ∧ _ => hh; obtain ⟨_, _⟩ := hh)) <;> (first | omega | (refine fits_i64 ?_; omega) | (split <;> omega))))
end Go.Proofs.Ytggahgackpiddaa.V
