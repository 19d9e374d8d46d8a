/-
  The law on the edits of others, as a function.
-/
import Derived.Test.YtggahgackpiddaaUc
set_option linter.unusedSimpArgs false
set_option linter.unusedVariables false
namespace Go.Proofs.Ytggahgackpiddaa.V
open Go Go.RowKit
open Classical

theorem law_code {ds : List AV} (h : PkAVs [.c (.s KU8)] ds) : ∃ xs, ds = [.view KU8 xs] ∧ xs.length ≤ maxLen ∧ ∀ i, i < xs.length → RowOk KU8 (row xs i) := by
  obtain ⟨a, l, rfl, ⟨xs, rfl, h1, h2⟩, h3⟩ := h
  simp only [PkAVs] at h3
  subst h3
  exact ⟨xs, rfl, h1, h2⟩
def cDrawWO : Ct := ⟨[], fun ds K => match ds with
  | [.view ks xs] => ks = KU8 ∧ (xs.length : Int) < big ∧ (∀ i, i < xs.length → RowOk KU8 (row xs i)) ∧ ∀ (ys : List Row) (who : Int), ys.length ≤ 21 → nrms KEdit ys = ys → K (.tup [.fr 29 KEdit ys, .int .i64 who]) []
  | _ => False⟩
set_option maxRecDepth 100000 in
set_option maxHeartbeats 4000000 in
theorem p_drawWithoutOwner : Proved 10 cDrawWO := by
  refine proved_of [(32, cNewReader), (33, cAnyE 200), (34, cPick)] ⟨p_newReader, p_anyEdits, p_pick, trivial⟩ [.tmp 2, .tmp 3] Try.func10 rfl rfl rfl rfl (by kernel_rfl) ?_
  intro ds K hrel
  simp only [cDrawWO] at hrel
  split at hrel
  case h_2 => exact hrel.elim
  rename_i ks xs
  obtain ⟨rfl, h1, h2, hrel⟩ := hrel
  refine ⟨rfl, Nat.le_of_ble_eq_true rfl, fun _ _ => none, ?_⟩
  repeat' (first | refine And.intro ?_ ?_ | (intro h; first | (exact absurd h (by decide)) | (guard_hyp h : true = true; clear h) | (guard_hyp h : false = false; clear h) | skip) | (refine Exists.intro _ (Exists.intro _ (And.intro (hrel ?_ ?_ ?_ ?_) ?_))) | refine Exists.intro _ (Exists.intro _ (And.intro hrel ?_)) | exact rfl | exact True.intro | exact Or.inl rfl | exact Or.inr (And.intro rfl rfl) | exact Nat.le_of_ble_eq_true rfl | (apply Exists.intro; refine And.intro ?_ ?_))
  all_goals (try ((repeat (with_reducible rename PickR _ _ => hq; have hq1 := hq.lo; have hq2 := hq.hi; have hq3 := hq.zero; clear hq)) <;> (try (change _ = _)) <;> (try dsimp only at *) <;> (try simp only [decide_eq_true_eq, decide_eq_false_iff_not, Bool.not_eq_true', Bool.not_eq_false', Bool.and_eq_true, Bool.and_eq_false_iff, beq_iff_eq, bne_iff_ne, beq_eq_false_iff_ne, bne_eq_false_iff_eq, ne_eq, Decidable.not_not, bne_self_eq_false, Bool.false_eq_true, Bool.true_eq_false, Bool.not_true, Bool.not_false, not_true_eq_false, not_false_eq_true, Int.toNat_natCast, Nat.zero_add, Nat.reduceAdd, Nat.reduceMul, Nat.reduceDiv, Nat.mul_one, lenK_one, big, fill_len, marking_len, marks_len, nrms_len, List.length_set, List.length_append, List.length_map, List.length_replicate, List.length_cons, List.length_nil, Int.natCast_add, Int.natCast_one, Int.natCast_zero, memI_i, memI_nil, or_false, false_or] at *) <;> (repeat (with_reducible rename _ ∧ _ => hh; obtain ⟨_, _⟩ := hh)) <;> (first | omega | (refine fits_i64 ?_; omega) | (split <;> omega) | assumption | exact h2 _ (by assumption) | rfl)))

def cntE (ys : List Row) (who i : Int) : Int := ((ys.take i.toNat).filter (notBy who)).length
theorem cnt_zero (ys : List Row) (who : Int) : cntE ys who 0 = 0 := by simp [cntE]
theorem cnt_yes {ys : List Row} {who i : Int} (h0 : 0 ≤ i) (hi : i < ys.length) (h : ¬ (rc (row ys i.toNat) 0).int = who) : cntE ys who (i + 1) = cntE ys who i + 1 := by
  unfold cntE
  rw [show (i + 1).toNat = i.toNat + 1 by omega, take_succ_row (by omega), List.filter_append]
  simp [notBy_yes h]
theorem cnt_no {ys : List Row} {who i : Int} (h0 : 0 ≤ i) (hi : i < ys.length) (h : (rc (row ys i.toNat) 0).int = who) : cntE ys who (i + 1) = cntE ys who i := by
  unfold cntE
  rw [show (i + 1).toNat = i.toNat + 1 by omega, take_succ_row (by omega), List.filter_append]
  simp [notBy_no h]
theorem cnt_le (ys : List Row) (who i : Int) : 0 ≤ cntE ys who i ∧ cntE ys who i ≤ ys.length := by
  unfold cntE
  have := List.length_filter_le (notBy who) (ys.take i.toNat)
  have h2 : (ys.take i.toNat).length ≤ ys.length := by simp; omega
  omega
theorem cnt_end {ys : List Row} {who i : Int} (h : ¬ i < ys.length) (h2 : ¬ 20 < (ys.length : Int)) : ((others ys who).length : Int) = cntE ys who i := by
  unfold cntE others
  rw [if_neg (by omega), nrms_len, List.take_of_length_le (by omega)]
theorem others_ne {ys : List Row} {who : Int} {i : Nat} (h : i < (others ys who).length) : ¬ (rc (row (others ys who) i) 0).int = who := by
  unfold others at h ⊢
  split at h
  · simp at h
  · rename_i hl
    rw [if_neg hl]
    rw [nrms_len] at h
    rw [row_nrms h]
    have hm := List.mem_of_getElem? (row_some h)
    have := (List.mem_filter.1 hm).2
    intro e
    rw [notBy_no (r := row (ys.filter (notBy who)) i) e] at this
    cases this
theorem fits_cnt {ys : List Row} {who i : Int} (h : ys.length ≤ 21) : Fits .i64 (cntE ys who i + 1) := by
  have := cnt_le ys who i
  exact fits_i64 (by omega)
theorem oth_bad {ys : List Row} {who i : Int} (h0 : 0 ≤ i) (h1 : i < (others ys who).length) (h2 : (rc (row (others ys who) i.toNat) 0).int = who) : False := others_ne (by omega) h2
theorem oth_a {ys : List Row} {who : Int} (h : 20 < (ys.length : Int)) (h2 : ¬ ((others ys who).length : Int) = 0) : False := h2 (by rw [others_long h]; rfl)
theorem oth_b {ys : List Row} {who i : Int} (h : ¬ i < ys.length) (h2 : ¬ 20 < (ys.length : Int)) (h3 : ¬ ((others ys who).length : Int) = cntE ys who i) : False := h3 (cnt_end h h2)
set_option maxRecDepth 100000 in
set_option maxHeartbeats 16000000 in
theorem p_fnWithoutOwner : Proved 3 (cLaw [.c (.s KU8)]) := by
  refine proved_of [(10, cDrawWO), (11, cWO), (13, cWO), (12, cEq KEdit)] ⟨p_drawWithoutOwner, p_iWO, p_sWO, p_equalEditS, trivial⟩ [.tmp 2] Try.func3 rfl rfl rfl rfl (by kernel_rfl) ?_
  rintro ds K ⟨hds, hrel⟩
  obtain ⟨xs, rfl, h1, h2⟩ := law_code hds
  unfold maxLen at h1
  refine ⟨rfl, Nat.le_of_ble_eq_true rfl, fun k σ => match lookH σ.hp 0 with
    | some (.rows _ _ ys) => match lookT σ.tm 4 with
      | .int _ who => match k with
        | 9 => some { α := Lv 9 Int, R := fun ⟨i⟩ => 0 ≤ i ∧ i ≤ ys.length ∧ ys.length ≤ 21, μ := fun ⟨i⟩ => (ys.length - i).toNat, st := fun ⟨i⟩ => up σ [(7, .int .i64 i), (6, .int .i64 (cntE ys who i))] }
        | 14 => some { α := Lv 14 Int, R := fun ⟨i⟩ => 0 ≤ i ∧ i ≤ (others ys who).length ∧ (others ys who).length ≤ 20, μ := fun ⟨i⟩ => ((others ys who).length - i).toNat, st := fun ⟨i⟩ => up σ [(8, .int .i64 i)] }
        | _ => none
      | _ => none
    | _ => none, ?_⟩
  repeat' (first | refine And.intro ?_ ?_ | (intro h; first | (exact absurd h (by decide)) | (guard_hyp h : true = true; clear h) | (guard_hyp h : false = false; clear h) | (have hq := (h : Lv 9 _); clear hq; obtain ⟨_⟩ := h) | (have hq := (h : Lv 14 _); clear hq; obtain ⟨_⟩ := h) | skip) | refine Exists.intro (⟨?_⟩ : Lv 9 _) ?_ | refine Exists.intro (⟨?_⟩ : Lv 14 _) ?_ | refine Exists.intro _ (Exists.intro _ (And.intro hrel ?_)) | exact rfl | exact True.intro | exact Or.inl rfl | exact Or.inr (And.intro rfl rfl) | exact Nat.le_of_ble_eq_true rfl | (apply Exists.intro; refine And.intro ?_ ?_))
  all_goals (try ((try (change _ = _)) <;> (try dsimp only at *) <;> (try simp only [decide_eq_true_eq, decide_eq_false_iff_not, Bool.not_eq_true', Bool.not_eq_false', Bool.and_eq_true, Bool.and_eq_false_iff, beq_iff_eq, bne_iff_ne, beq_eq_false_iff_ne, bne_eq_false_iff_eq, ne_eq, Decidable.not_not, bne_self_eq_false, Bool.false_eq_true, Bool.true_eq_false, Bool.not_true, Bool.not_false, not_true_eq_false, not_false_eq_true, Int.toNat_natCast, Nat.zero_add, Nat.reduceAdd, Nat.reduceMul, Nat.reduceDiv, Nat.mul_one, lenK_one, big, fill_len, marking_len, marks_len, nrms_len, List.length_set, List.length_append, List.length_map, List.length_replicate, List.length_cons, List.length_nil, Int.natCast_add, Int.natCast_one, Int.natCast_zero] at *) <;> (repeat (with_reducible rename _ ∧ _ => hh; obtain ⟨_, _⟩ := hh)) <;> (first | omega | (refine fits_i64 ?_; omega) | (split <;> omega) | exact h2 _ (by assumption) | exact (cnt_yes (by omega) (by omega) (by assumption)).symm | exact (cnt_no (by omega) (by omega) (by assumption)).symm | exact (cnt_zero _ _).symm | exact fits_cnt (by omega) | exact others_len _ _ | (exfalso; refine oth_bad ?_ ?_ (by assumption) <;> omega) | (exfalso; refine oth_a ?_ (by assumption) <;> omega) | (exfalso; refine oth_b ?_ ?_ (by assumption) <;> omega) | exact (beq_iff_eq.2 (cnt_end (by omega) (by omega))).symm | exact cnt_end (by omega) (by omega) | exact Int.lt_of_le_of_lt (Int.ofNat_le.2 (others_len _ _)) (by decide) | rfl)))
end Go.Proofs.Ytggahgackpiddaa.V
