/-
  The law on edits that are undone from a point on, as a function.
-/
import Derived.Test.YtggahgackpiddaaUl
set_option linter.unusedSimpArgs false
set_option linter.unusedVariables false
namespace Go.Proofs.Ytggahgackpiddaa.V
open Go Go.RowKit
open Classical

/-- What the last loop of the law knows. -/
theorem part_bad {s es : List Row} {who f t i : Int} (h : CanUndo s es who f) (ho : ¬ OthP who es f t i) (hb : ¬ (rc (row (ranE s (es ++ undone s es who f)) t.toNat) 0).int = (rc (row (ranE s (es.take f.toNat)) t.toNat) 0).int) (ht : 0 ≤ t) (hi : ¬ i < es.length) : False :=
  hb (by have := part_law h (point_ok h) ht hi ho; simpa using this)
theorem lt_all {s es : List Row} {who f t : Int} (h : CanUndo s es who f) (h1 : t < s.length) : t < (ranE s (es ++ undone s es who f)).length := by rw [ran_len (undo_one h)]; exact h1
theorem point_ok' {s es : List Row} {who f : Int} (h : CanUndo s es who f) : CanRun s (es.take f.toNat) := by simpa using point_ok h
theorem lt_point {s es : List Row} {who f t : Int} (h : CanUndo s es who f) (h1 : t < s.length) : t < (ranE s (es.take f.toNat)).length := by rw [ran_len (point_ok' h)]; exact h1
theorem othP_yes {who : Int} {es : List Row} {f t i : Int} (h : OthP who es f t i) : true = decide (OthP who es f t (i + 1)) := true_eq (othP_mono h)
theorem take_big {es : List Row} {n : Nat} (h : es.length ≤ 21) : ((es.take n).length : Int) < 9223372036854775808 := by simp only [List.length_take]; omega
theorem cut_big {es : List Row} {n m : Nat} (h : es.length ≤ 21) : (((es.take n).drop m).length : Int) < 9223372036854775808 := by simp only [List.length_drop, List.length_take]; omega
set_option maxRecDepth 100000 in
set_option maxHeartbeats 16000000 in
theorem p_fnUndoEditsPart : Proved 7 (cLaw [.c (.s KU8)]) := by
  refine proved_of [(28, cDrawUE), (29, cUndo), (30, cUndo), (12, cEq KEdit), (31, cRunE)] ⟨p_drawUndoEdits, p_iUndo, p_sUndo, p_equalEditS, p_iRunE, trivial⟩ [.tmp 2] Try.func7 rfl rfl rfl rfl (by kernel_rfl) ?_
  rintro ds K ⟨hds, hrel⟩
  obtain ⟨xs, rfl, h1, h2⟩ := law_code hds
  unfold maxLen at h1
  refine ⟨rfl, Nat.le_of_ble_eq_true rfl, fun k σ => match lookT σ.tm 4 with
    | .view _ es => match lookT σ.tm 3 with
      | .view _ s => match lookT σ.tm 5 with
        | .int _ who => match lookT σ.tm 6 with
          | .int _ f => match k with
            | 13 => some { α := Lv 13 Int, R := fun ⟨t⟩ => (0 ≤ t ∧ t ≤ s.length ∧ s.length ≤ 6 ∧ es.length ≤ 21 ∧ 0 ≤ f ∧ f ≤ es.length) ∧ CanUndo s es who f, μ := fun ⟨t⟩ => (s.length - t).toNat, st := fun ⟨t⟩ => up σ [(15, .int .i64 t)] }
            | 17 => match lookT σ.tm 15 with
              | .int _ t => some { α := Lv 17 Int, R := fun ⟨i⟩ => (f ≤ i ∧ i ≤ es.length ∧ 0 ≤ t ∧ t < s.length ∧ s.length ≤ 6 ∧ es.length ≤ 21 ∧ 0 ≤ f ∧ f ≤ es.length) ∧ CanUndo s es who f, μ := fun ⟨i⟩ => (es.length - i).toNat, st := fun ⟨i⟩ => up σ [(17, .int .i64 i), (16, .bool (decide (OthP who es f t i)))] }
              | _ => none
            | _ => none
          | _ => none
        | _ => none
      | _ => none
    | _ => none, ?_⟩
  repeat' (first | refine And.intro ?_ ?_ | (intro h; first | (exact absurd h (by decide)) | (guard_hyp h : true = true; clear h) | (guard_hyp h : false = false; clear h) | (have hq := (h : Lv 13 _); clear hq; obtain ⟨_⟩ := h) | (have hq := (h : Lv 17 _); clear hq; obtain ⟨_⟩ := h) | skip) | refine Exists.intro (⟨?_⟩ : Lv 13 _) ?_ | refine Exists.intro (⟨?_⟩ : Lv 17 _) ?_ | refine Exists.intro _ (Exists.intro _ (And.intro hrel ?_)) | exact rfl | exact True.intro | exact Or.inl rfl | exact Or.inr (And.intro rfl rfl) | exact Nat.le_of_ble_eq_true rfl | (apply Exists.intro; refine And.intro ?_ ?_))
  all_goals (try ((try (change _ = _)) <;> (try dsimp only at *) <;> (try simp only [decide_eq_true_eq, decide_eq_false_iff_not, Bool.not_eq_true', Bool.not_eq_false', Bool.and_eq_true, Bool.and_eq_false_iff, beq_iff_eq, bne_iff_ne, beq_eq_false_iff_ne, bne_eq_false_iff_eq, ne_eq, Decidable.not_not, bne_self_eq_false, Bool.false_eq_true, Bool.true_eq_false, Bool.not_true, Bool.not_false, not_true_eq_false, not_false_eq_true, Int.toNat_natCast, Nat.zero_add, Nat.reduceAdd, Nat.reduceMul, Nat.reduceDiv, Nat.mul_one, lenK_one, big, fill_len, marking_len, marks_len, nrms_len, List.length_set, List.length_append, List.length_map, List.length_replicate, List.length_cons, List.length_nil, Int.natCast_add, Int.natCast_one, Int.natCast_zero, decide_true, List.nil_append, List.drop_zero, Int.toNat_zero] at *) <;> (repeat (with_reducible rename _ ∧ _ => hh; obtain ⟨_, _⟩ := hh)) <;> (first | omega | (refine fits_i64 ?_; omega) | (split <;> omega) | with_reducible exact h2 _ (by with_reducible assumption) | (with_reducible exact Int.lt_of_le_of_lt (Int.ofNat_le.2 (undoE_len _ _ _ _)) (by decide)) | (refine Nat.le_trans (Nat.mul_le_mul_right 32 (Nat.add_le_add_left (undoE_len _ _ _ _) _)) ?_; omega) | (with_reducible exact app_big (by omega)) | (with_reducible exact ran_big (by omega)) | (exfalso; exact absurd (undo_one (by with_reducible assumption)) (by with_reducible assumption)) | (exfalso; exact absurd (point_ok' (by with_reducible assumption)) (by with_reducible assumption)) | (with_reducible exact CanUndo.f0 (by with_reducible assumption)) | (with_reducible exact CanUndo.f1 (by with_reducible assumption)) | (with_reducible assumption) | (with_reducible exact cut_big (by omega)) | (with_reducible exact (false_eq (othP_zero _ _ _ _))) | (with_reducible exact (false_eq (othP_zero _ _ _ _)).symm) | (with_reducible exact othP_yes (by with_reducible assumption)) | (with_reducible exact othP_no (by with_reducible assumption) (by with_reducible assumption)) | (with_reducible exact othP_pick (by with_reducible assumption) (by omega) (by with_reducible assumption)) | (with_reducible exact lt_all (by with_reducible assumption) (by first | with_reducible assumption | omega)) | (with_reducible exact lt_point (by with_reducible assumption) (by first | with_reducible assumption | omega)) | (exfalso; exact part_bad (by with_reducible assumption) (by with_reducible assumption) (by with_reducible assumption) (by omega) (by omega)) | (with_reducible exact take_big (by omega)))))
end Go.Proofs.Ytggahgackpiddaa.V
