/-
  The law that edits can be undone, as a function.
-/
import Derived.Test.YtggahgackpiddaaUe
set_option linter.unusedSimpArgs false
set_option linter.unusedVariables false
namespace Go.Proofs.Ytggahgackpiddaa.V
open Go Go.RowKit
open Classical

theorem dn {s : List Row} {o t od nw : Int} (h : Can s o t od nw) : doneE s o t od nw = setI s t nw := (done_yes h.1 h.2).symm
theorem dn_can {s : List Row} {o t od nw : Int} (h : Can s o t od nw) : Can (doneE s o t od nw) o t nw od := by rw [dn h]; exact can_back h
theorem dn_back {s : List Row} {o t od nw : Int} (h : Can s o t od nw) : nrms KInt (doneE (doneE s o t od nw) o t nw od) = nrms KInt s := by
  rw [dn (dn_can h), dn h]; exact back_nrms h.2.t0 h.2.tl h.2.e
theorem dn_len {s : List Row} {o t od nw : Int} (h : Can s o t od nw) : (doneE s o t od nw).length = s.length ∧ 0 ≤ t ∧ t < s.length := ⟨by rw [dn h, setI_len], h.2.t0, h.2.tl⟩
theorem dn_row {s : List Row} {o t od nw : Int} (h : Can s o t od nw) : (rc (row (doneE s o t od nw) t.toNat) 0).int = nw := by rw [dn h]; exact row_setI h.2.t0 h.2.tl
theorem dn_take {s : List Row} {o t od nw : Int} (h : Can s o t od nw) : nrms KInt (((doneE s o t od nw).take t.toNat).drop (Int.toNat 0)) = nrms KInt ((s.take t.toNat).drop (Int.toNat 0)) := by rw [dn h]; exact take_nrms h.2.t0
theorem dn_lt {s : List Row} {o t od nw : Int} (h : Can s o t od nw) : t < (doneE s o t od nw).length := by have := dn_len h; omega
theorem dn_cut {s : List Row} {o t od nw : Int} {i j : Nat} : ((((doneE s o t od nw).take i).drop j).length : Int) < 9223372036854775808 := by
  have := done_len s o t od nw
  simp only [List.length_drop, List.length_take]
  omega
/-- The orders of a region that draws. -/
def trFD : Nat → Option (Bool × Tr)
  | 9 => some (true, .take 0 (.take 1 (.take 2 (.take 3 (.all (.cons 4 (.take 5 (.take 6 (.take 7 (.take 8 (.take 9 (.take 10 (.take 11 (.take 12 (.take 13 (.take 14 (.take 15 (.take 16 (.take 17 (.take 18 (.take 19 (.take 21 (.take 22 (.take 23 (.all (.cons 20 (.all (.cons 24 (.all (.cons 25 (.take 26 (.take 27 .done)) .nil)) .nil)) (.cons 24 (.all (.cons 20 (.all (.cons 25 (.take 26 (.take 27 .done)) .nil)) .nil)) .nil))))))))))))))))))))) .nil))))))
  | _ => none
set_option maxRecDepth 100000 in
set_option maxHeartbeats 32000000 in
theorem p_fnDoEdit : Proved 6 (cLaw [.c (.s KU8)]) := by
  refine proved_tr trFD [(26, cDrawDE), (22, cDo), (19, cDo), (27, cEq KInt)] ⟨p_drawDoEdit, p_iDo, p_sDo, p_equalIntS, trivial⟩ [.tmp 2] Try.func6 rfl rfl rfl rfl (by kernel_rfl) ?_
  rintro ds K ⟨hds, hrel⟩
  obtain ⟨xs, rfl, h1, h2⟩ := law_code hds
  unfold maxLen at h1
  refine ⟨rfl, Nat.le_of_ble_eq_true rfl, fun _ _ => none, ?_⟩
  repeat' (first | refine And.intro ?_ ?_ | (intro h; first | (exact absurd h (by decide)) | (guard_hyp h : true = true; clear h) | (guard_hyp h : false = false; clear h) | skip) | refine Exists.intro _ (Exists.intro _ (And.intro hrel ?_)) | exact rfl | exact True.intro | exact Or.inl rfl | exact Or.inr (And.intro rfl rfl) | exact Nat.le_of_ble_eq_true rfl | (apply Exists.intro; refine And.intro ?_ ?_))
  all_goals (try ((try (change _ = _)) <;> (try dsimp only at *) <;> (try simp only [decide_eq_true_eq, decide_eq_false_iff_not, Bool.not_eq_true', Bool.not_eq_false', Bool.and_eq_true, Bool.and_eq_false_iff, beq_iff_eq, bne_iff_ne, beq_eq_false_iff_ne, bne_eq_false_iff_eq, ne_eq, Decidable.not_not, bne_self_eq_false, Bool.false_eq_true, Bool.true_eq_false, Bool.not_true, Bool.not_false, not_true_eq_false, not_false_eq_true, Int.toNat_natCast, Nat.zero_add, Nat.reduceAdd, Nat.reduceMul, Nat.reduceDiv, Nat.mul_one, lenK_one, big, fill_len, marking_len, marks_len, nrms_len, List.length_set, List.length_append, List.length_map, List.length_replicate, List.length_cons, List.length_nil, Int.natCast_add, Int.natCast_one, Int.natCast_zero, decide_true] at *) <;> (repeat (with_reducible rename _ ∧ _ => hh; obtain ⟨_, _⟩ := hh)) <;> (first | omega | (refine fits_i64 ?_; omega) | (split <;> omega) | exact h2 _ (by with_reducible assumption) | (with_reducible exact Int.lt_of_le_of_lt (Int.ofNat_le.2 (done_len _ _ _ _ _)) (by decide)) | (with_reducible exact Nat.le_trans (done_len _ _ _ _ _) (by decide)) | (with_reducible rename Can _ _ _ _ _ => hc1; have q1 := dn_len hc1; have q2 := dn_lt hc1; clear hc1; (try (with_reducible rename Can _ _ _ _ _ => hc2; have q3 := dn_len hc2; have q4 := dn_lt hc2)); omega) | (exfalso; refine absurd (dn_can ?_) (by with_reducible assumption) <;> with_reducible assumption) | (exfalso; refine absurd (dn_back ?_) (by with_reducible assumption) <;> with_reducible assumption) | (exfalso; refine absurd (dn_take ?_) (by with_reducible assumption) <;> with_reducible assumption) | (exfalso; refine absurd (dn_row ?_) (by with_reducible assumption) <;> with_reducible assumption) | exact dn_cut | (refine true_eq (dn_take ?_); with_reducible assumption) | (refine decide_eq_true (dn_take ?_); with_reducible assumption) | (with_reducible rename Can _ _ _ _ _ => hc1; clear hc1; with_reducible rename Can _ _ _ _ _ => hc2; simp only [dn_take hc2, decide_true]) | (with_reducible rename Can _ _ _ _ _ => hc1; simp only [dn_take hc1, decide_true]) | (with_reducible rfl))))
end Go.Proofs.Ytggahgackpiddaa.V
