/-
  One edit that is drawn; the law that edits can be undone, as a function.
-/
import Derived.Test.YtggahgackpiddaaUd
set_option linter.unusedSimpArgs false
set_option linter.unusedVariables false
namespace Go.Proofs.Ytggahgackpiddaa.V
open Go Go.RowKit
open Classical

def cSpoil : Ct := ⟨[], fun ds K => match ds with
  | [.bx [.view ks bs, .int .i64 p], .view js s, .int .i64 _] => ks = KU8 ∧ js = KInt ∧ Bytes bs ∧ (0 ≤ p ∧ p ≤ 1000) ∧ s.length ≤ 900 ∧ ∀ (ys : List Row) (q : Int), ys.length ≤ 1000 → (0 ≤ q ∧ q ≤ p + 3) → K (.view KInt ys) [.bx [.view KU8 bs, .int .i64 q]]
  | _ => False⟩
set_option maxRecDepth 100000 in
set_option maxHeartbeats 8000000 in
theorem p_spoil : Proved 45 cSpoil := by
  refine proved_of [(34, cPick), (44, cOne), (51, cCopy 3 KInt)] ⟨p_pick, p_one, p_copyInts, trivial⟩ [.tmp 6] Try.func45 rfl rfl rfl rfl (by kernel_rfl) ?_
  intro ds K hrel
  simp only [cSpoil] at hrel
  split at hrel
  case h_2 => exact hrel.elim
  rename_i ks bs p js s z
  obtain ⟨rfl, rfl, hb, ⟨h1, h2⟩, h3, hrel⟩ := hrel
  refine ⟨rfl, Nat.le_of_ble_eq_true rfl, fun _ _ => none, ?_⟩
  repeat' (first | refine And.intro ?_ ?_ | (intro h; first | (exact absurd h (by decide)) | (guard_hyp h : true = true; clear h) | (guard_hyp h : false = false; clear h) | skip) | (refine Exists.intro _ (Exists.intro _ (And.intro (hrel ?_ ?_ ?_ ?_) ?_))) | refine Exists.intro _ (Exists.intro _ (And.intro hrel ?_)) | exact rfl | exact True.intro | exact Or.inl rfl | exact Or.inr (And.intro rfl rfl) | exact Nat.le_of_ble_eq_true rfl | (apply Exists.intro; refine And.intro ?_ ?_))
  all_goals (try ((repeat (with_reducible rename PickR _ _ => hq; have hq1 := hq.lo; have hq2 := hq.hi; have hq3 := hq.zero; clear hq)) <;> (try (change _ = _)) <;> (try dsimp only at *) <;> (try simp only [decide_eq_true_eq, decide_eq_false_iff_not, Bool.not_eq_true', Bool.not_eq_false', Bool.and_eq_true, Bool.and_eq_false_iff, beq_iff_eq, bne_iff_ne, beq_eq_false_iff_ne, bne_eq_false_iff_eq, ne_eq, Decidable.not_not, bne_self_eq_false, Bool.false_eq_true, Bool.true_eq_false, Bool.not_true, Bool.not_false, not_true_eq_false, not_false_eq_true, Int.toNat_natCast, Nat.zero_add, Nat.reduceAdd, Nat.reduceMul, Nat.reduceDiv, Nat.mul_one, lenK_one, big, fill_len, marking_len, marks_len, nrms_len, List.length_set, List.length_append, List.length_map, List.length_replicate, List.length_cons, List.length_nil, Int.natCast_add, Int.natCast_one, Int.natCast_zero, memI_i, memI_nil, or_false, false_or, List.length_drop, List.length_take] at *) <;> (repeat (with_reducible rename _ ∧ _ => hh; obtain ⟨_, _⟩ := hh)) <;> (first | omega | (refine fits_i64 ?_; omega) | (split <;> omega) | rfl | assumption | (rw [List.length_drop, List.length_take]; omega))))

/-- The orders of a region that draws. -/
def trDE : Nat → Option (Bool × Tr)
  | 13 => some (false, .take 0 (.take 2 (.all (.cons 1 (.all (.cons 3 .done .nil)) .nil))))
  | _ => none
def cDrawDE : Ct := ⟨[], fun ds K => match ds with
  | [.view ks xs] => ks = KU8 ∧ (xs.length : Int) < big ∧ (∀ i, i < xs.length → RowOk KU8 (row xs i)) ∧ ∀ (s : List Row) (o t od nw : Int), s.length ≤ 1000 → K (.tup [.view KInt s, .agg [.int .i64 o, .int .i64 t, .int .i64 od, .int .i64 nw]]) []
  | _ => False⟩
theorem fits_sm0 {xs : List Row} {i : Nat} (h : Sm 0 xs) : Fits .i64 ((rc (row xs i) 0).int + 1) := fits_i64 ⟨by have := sm_row h i; omega, by have := sm_row h i; omega⟩
set_option maxRecDepth 100000 in
set_option maxHeartbeats 8000000 in
theorem p_drawDoEdit : Proved 26 cDrawDE := by
  refine proved_tr trDE [(32, cNewReader), (42, cRStore), (43, cREdit), (34, cPick), (44, cOne), (45, cSpoil)] ⟨p_newReader, p_randomStore, p_randomEdit, p_pick, p_one, p_spoil, trivial⟩ [.tmp 2, .cell 3 29] Try.func26 rfl rfl rfl rfl (by kernel_rfl) ?_
  intro ds K hrel
  simp only [cDrawDE] at hrel
  split at hrel
  case h_2 => exact hrel.elim
  rename_i ks xs
  obtain ⟨rfl, h1, h2, hrel⟩ := hrel
  refine ⟨rfl, Nat.le_of_ble_eq_true rfl, fun _ _ => none, ?_⟩
  repeat' (first | refine And.intro ?_ ?_ | (intro h; first | (exact absurd h (by decide)) | (guard_hyp h : true = true; clear h) | (guard_hyp h : false = false; clear h) | skip) | (refine Exists.intro _ (Exists.intro _ (And.intro (hrel ?_ ?_ ?_ ?_ ?_ ?_) ?_))) | refine Exists.intro _ (Exists.intro _ (And.intro hrel ?_)) | exact rfl | exact True.intro | exact Or.inl rfl | exact Or.inr (And.intro rfl rfl) | exact Nat.le_of_ble_eq_true rfl | (apply Exists.intro; refine And.intro ?_ ?_))
  all_goals (try ((repeat (with_reducible rename PickR _ _ => hq; have hq1 := hq.lo; have hq2 := hq.hi; have hq3 := hq.zero; clear hq)) <;> (try (change _ = _)) <;> (try dsimp only at *) <;> (try simp only [decide_eq_true_eq, decide_eq_false_iff_not, Bool.not_eq_true', Bool.not_eq_false', Bool.and_eq_true, Bool.and_eq_false_iff, beq_iff_eq, bne_iff_ne, beq_eq_false_iff_ne, bne_eq_false_iff_eq, ne_eq, Decidable.not_not, bne_self_eq_false, Bool.false_eq_true, Bool.true_eq_false, Bool.not_true, Bool.not_false, not_true_eq_false, not_false_eq_true, Int.toNat_natCast, Nat.zero_add, Nat.reduceAdd, Nat.reduceMul, Nat.reduceDiv, Nat.mul_one, lenK_one, big, fill_len, marking_len, marks_len, nrms_len, List.length_set, List.length_append, List.length_map, List.length_replicate, List.length_cons, List.length_nil, Int.natCast_add, Int.natCast_one, Int.natCast_zero, memI_i, memI_nil, or_false, false_or] at *) <;> (repeat (with_reducible rename _ ∧ _ => hh; obtain ⟨_, _⟩ := hh)) <;> (first | omega | (refine fits_i64 ?_; omega) | (split <;> omega) | assumption | exact h2 _ (by assumption) | exact fits_sm0 (by assumption) | rfl)))
/-- What an edit has done can be done back. -/
theorem back_nrms {s : List Row} {t nw od : Int} (h : 0 ≤ t) (hl : t < s.length) (ho : (rc (row s t.toNat) 0).int = od) : nrms KInt (setI (setI s t nw) t od) = nrms KInt s := by
  have hp : ∀ (r : Row) (v : Int), nrm KInt (pasteR r 0 [Sc.i v]) = [Sc.i v] := by
    intro r v; cases r <;> rfl
  have e : nrms KInt (setI (setI s t nw) t od) = (nrms KInt s).set t.toNat [Sc.i od] := by
    unfold setI
    simp only [nrms, List.map_set, List.set_set, hp]
  have hn : (nrms KInt s)[t.toNat]? = some [Sc.i od] := by
    rw [row_some (by rw [nrms_len]; omega), row_nrms (by omega)]
    show some [Sc.i (rc (row s t.toNat) 0).int] = _
    rw [ho]
  rw [e]
  apply List.ext_getElem?
  intro j
  rw [List.getElem?_set]
  by_cases hj : t.toNat = j
  · subst hj
    rw [if_pos rfl, if_pos (by rw [nrms_len]; omega), hn]
  · rw [if_neg hj]
theorem take_nrms {s : List Row} {t nw : Int} (h : 0 ≤ t) : nrms KInt (((setI s t nw).take t.toNat).drop (Int.toNat 0)) = nrms KInt ((s.take t.toNat).drop (Int.toNat 0)) := by
  unfold setI
  rw [List.take_set_of_le (Nat.le_refl _)]
theorem row_setI {s : List Row} {t nw : Int} (h : 0 ≤ t) (hl : t < s.length) : (rc (row (setI s t nw) t.toNat) 0).int = nw := by
  unfold setI
  rw [row_set_self (by omega)]
  cases row s t.toNat <;> rfl
theorem can_back {s : List Row} {o t od nw : Int} (h : Can s o t od nw) : Can (setI s t nw) o t nw od := by
  obtain ⟨⟨h1, h2, h3⟩, h4⟩ := h
  have ht0 := h4.t0
  have htl := h4.tl
  have hrow : ∀ j : Nat, (rc (row (setI s t nw) j) 0).int = if t.toNat = j then nw else (rc (row s j) 0).int := by
    intro j
    by_cases hj : t.toNat = j
    · subst hj; rw [if_pos rfl]; exact row_setI ht0 htl
    · rw [if_neg hj]; unfold setI; rw [row_set, if_neg (by omega)]
  have hod := h3.h t.toNat (by omega)
  rw [h4.e] at hod
  refine ⟨⟨by rw [setI_len]; exact h1, by rw [setI_len]; exact h2, ⟨fun j hj => ?_⟩⟩, ⟨h4.o0, h4.o7, ht0, by rw [setI_len]; exact htl, row_setI ht0 htl, hod.1, hod.2⟩⟩
  rw [setI_len] at hj
  rw [hrow]
  split
  · exact ⟨h4.n0, h4.n1⟩
  · exact h3.h j hj
end Go.Proofs.Ytggahgackpiddaa.V
