/-
  The laws on formats and rows, as functions.
-/
import Derived.Test.YtfchlcghildiaaaVc
set_option linter.unusedSimpArgs false
set_option linter.unusedVariables false
namespace Go.Proofs.Ytfchlcghildiaaa.V
open Go Go.RowKit
open Classical

theorem law_code {ds : List AV} (h : PkAVs [.c (.s KU8)] ds) : ∃ xs, ds = [.view KU8 xs] ∧ xs.length ≤ maxLen ∧ ∀ i, i < xs.length → RowOk KU8 (row xs i) := by
  obtain ⟨a, l, rfl, ⟨xs, rfl, h1, h2⟩, h3⟩ := h
  simp only [PkAVs] at h3
  subst h3
  exact ⟨xs, rfl, h1, h2⟩
/-- A column's default, as a row. -/
def dfl (r : Row) : Row := [.i (rc r 1).int, .i (rc r 2).int, .s (rc r 3).str]
def dflts (f : List Row) (i : Int) : List Row := (f.take i.toNat).map dfl
def nones (i : Int) : List Row := List.replicate i.toNat [.i 0, .i 0, .s []]
theorem dflts_zero (f : List Row) : dflts f 0 = [] := by simp [dflts]
theorem nones_zero : nones 0 = [] := by simp [nones]
theorem dflts_step {f : List Row} {i : Int} (h0 : 0 ≤ i) (hi : i < f.length) : dflts f i ++ [[Sc.i (rc (row f i.toNat) 1).int, Sc.i (rc (row f i.toNat) 2).int, Sc.s (rc (row f i.toNat) 3).str]] = dflts f (i + 1) := by
  unfold dflts
  rw [show (i + 1).toNat = i.toNat + 1 by omega, take_succ_row (by omega), List.map_append]
  rfl
theorem nones_step {i : Int} (h0 : 0 ≤ i) : nones i ++ [[Sc.i 0, Sc.i 0, Sc.s []]] = nones (i + 1) := by
  unfold nones
  rw [show (i + 1).toNat = i.toNat + 1 by omega, List.replicate_succ']
theorem dflts_len {f : List Row} {i : Int} (hi : ¬ i < f.length) : (dflts f i).length = f.length := by unfold dflts; simp; omega
theorem dflts_le (f : List Row) (i : Int) : (dflts f i).length ≤ f.length := by unfold dflts; simp; omega
theorem nones_len (i : Int) : (nones i).length = i.toNat := by simp [nones]
theorem row_nones {i : Int} {j : Nat} (h : j < i.toNat) : row (nones i) j = [.i 0, .i 0, .s []] := by
  unfold row nones
  rw [List.getD_eq_getElem?_getD, List.getElem?_replicate, if_pos h]; rfl
theorem row_dflts {f : List Row} {i : Int} {j : Nat} (hi : ¬ i < f.length) (h : j < f.length) : row (dflts f i) j = dfl (row f j) := by
  unfold dflts
  rw [List.take_of_length_le (by omega)]
  exact row_map h
theorem sl_nones (i : Int) : SL 2 (nones i) := sb_sl ⟨fun r hr => by
  have := List.eq_of_mem_replicate hr
  rw [this]; simp [rc, Sc.str]⟩
theorem sl_dflts {f : List Row} (h : SB 3 f) (i : Int) : SL 2 (dflts f i) := sb_sl ⟨fun r hr => by
  obtain ⟨x, hx, rfl⟩ := List.mem_map.1 hr
  exact h.h x (List.mem_of_mem_take hx)⟩
theorem fts_nones {f : List Row} {i : Int} (h : VF f) (h0 : 0 ≤ i ∧ i ≤ f.length) (hi : ¬ i < f.length) : Fts f (nones i) := by
  have hl := nones_len i
  have hv : ∀ j : Nat, (j : Int) < (nones i).length → row (nones i) j = [.i 0, .i 0, .s []] := fun j hj => row_nones (by omega)
  refine ⟨by omega, ⟨by have := h.l5; omega, ⟨fun j hj => ?_⟩⟩, ⟨fun j hj => ?_⟩⟩
  · rw [hv j hj]; exact .inl ⟨rfl, rfl, rfl⟩
  · rw [hv j hj]; exact .inl rfl
theorem rf_nones {f : List Row} {i : Int} (h0 : 0 ≤ i ∧ i ≤ f.length) (hi : ¬ i < f.length) : decide (VF f ∧ Fts f (nones i)) = decide (VF f) := by
  rw [decide_eq_decide]; exact ⟨fun q => q.1, fun q => ⟨q, fts_nones q h0 hi⟩⟩
theorem rf_bad {f : List Row} {i : Int} (h : ¬ decide (VF f ∧ Fts f (nones i)) = decide (VF f)) (h0 : 0 ≤ i ∧ i ≤ f.length) (hi : ¬ i < f.length) : False := h (rf_nones h0 hi)
theorem rf_dflts {f : List Row} {i : Int} (h : VF f) (hi : ¬ i < f.length) : VF f ∧ Fts f (dflts f i) := by
  have hl := dflts_len hi
  have hv : ∀ j : Nat, (j : Int) < (dflts f i).length → row (dflts f i) j = dfl (row f j) := fun j hj => row_dflts hi (by omega)
  refine ⟨h, hl, ⟨by have := h.l5; omega, ⟨fun j hj => ?_⟩⟩, ⟨fun j hj => ?_⟩⟩
  · rw [hv j hj]; exact (h.a.h j (by omega)).v
  · rw [hv j hj]; exact (h.a.h j (by omega)).d
theorem rf_dd {f : List Row} {i : Int} (h : VF f) (hi : ¬ i < f.length) : true = decide (VF f ∧ Fts f (dflts f i)) := true_eq (rf_dflts h hi)
theorem nones_big {f : List Row} {i : Int} (h : i ≤ f.length) (h2 : f.length ≤ 6) : ((nones i).length : Int) < 9223372036854775808 := by rw [nones_len]; omega
theorem dflts_big {f : List Row} {i : Int} (h2 : f.length ≤ 6) : ((dflts f i).length : Int) < 9223372036854775808 := by have := dflts_le f i; omega
theorem nones_fit {f : List Row} {i : Int} (h : i ≤ f.length) (h2 : f.length ≤ 6) (k : Nat) (hk : k ≤ 10) : ((nones i).length + k) * 32 ≤ 140737488355328 := by rw [nones_len]; omega
theorem dflts_fit {f : List Row} {i : Int} (h2 : f.length ≤ 6) (k : Nat) (hk : k ≤ 10) : ((dflts f i).length + k) * 32 ≤ 140737488355328 := by have := dflts_le f i; omega
set_option maxRecDepth 100000 in
set_option maxHeartbeats 16000000 in
theorem p_fnValidFormat : Proved 10 (cLaw [.c (.s KU8)]) := by
  refine proved_of [(30, cDVF), (28, cVF), (26, cVF), (31, cRF)] ⟨p_drawValidFormat, p_iVF, p_sVF, p_iRF, trivial⟩ [.tmp 2] Try.func10 rfl rfl rfl rfl (by kernel_rfl) ?_
  rintro ds K ⟨hds, hrel⟩
  obtain ⟨xs, rfl, h1, h2⟩ := law_code hds
  unfold maxLen at h1
  refine ⟨rfl, Nat.le_of_ble_eq_true rfl, fun k σ => match lookH σ.hp 0 with
    | some (.rows _ _ f) => match k with
      | 10 => some { α := Lv 10 Int, R := fun ⟨i⟩ => (0 ≤ i ∧ i ≤ f.length ∧ f.length ≤ 6) ∧ SB 3 f, μ := fun ⟨i⟩ => (f.length - i).toNat, st := fun ⟨i⟩ => upW σ [(7, .int .i64 i), (5, .own 1), (6, .own 2)] (setH (setH σ.hp 1 (some (.rows 53 KValue (dflts f i)))) 2 (some (.rows 53 KValue (nones i)))) }
      | _ => none
    | _ => none, ?_⟩
  repeat' (first | refine And.intro ?_ ?_ | (intro h; first | (exact absurd h (by decide)) | (guard_hyp h : true = true; clear h) | (guard_hyp h : false = false; clear h) | (have hq := (h : Lv 10 _); clear hq; obtain ⟨_⟩ := h) | skip) | refine Exists.intro (⟨?_⟩ : Lv 10 _) ?_ | refine Exists.intro _ (Exists.intro _ (And.intro hrel ?_)) | exact rfl | exact True.intro | exact Or.inl rfl | exact Or.inr (And.intro rfl rfl) | exact Nat.le_of_ble_eq_true rfl | (apply Exists.intro; refine And.intro ?_ ?_))
  all_goals (try ((try (change _ = _)) <;> (try dsimp only at *) <;> (try simp only [decide_eq_true_eq, decide_eq_false_iff_not, Bool.not_eq_true', Bool.not_eq_false', Bool.and_eq_true, Bool.and_eq_false_iff, beq_iff_eq, bne_iff_ne, beq_eq_false_iff_ne, bne_eq_false_iff_eq, ne_eq, Decidable.not_not, bne_self_eq_false, Bool.false_eq_true, Bool.true_eq_false, Bool.not_true, Bool.not_false, not_true_eq_false, not_false_eq_true, Int.toNat_natCast, Nat.zero_add, Nat.reduceAdd, Nat.reduceMul, Nat.reduceDiv, Nat.mul_one, lenK_one, big, fill_len, marking_len, marks_len, nrms_len, List.length_set, List.length_append, List.length_map, List.length_replicate, List.length_cons, List.length_nil, Int.natCast_add, Int.natCast_one, Int.natCast_zero] at *) <;> (repeat (with_reducible rename _ ∧ _ => hh; obtain ⟨_, _⟩ := hh)) <;> (first | omega | (refine fits_i64 ?_; omega) | (split <;> omega) | exact h2 _ (by with_reducible assumption) | (with_reducible assumption) | exact sb_sl (by with_reducible assumption) | exact sl_nones _ | exact sl_dflts (by with_reducible assumption) _ | (with_reducible exact (dflts_zero _).symm) | (with_reducible exact nones_zero.symm) | exact dflts_step (by omega) (by omega) | exact nones_step (by omega) | (with_reducible exact nones_big (by omega) (by omega)) | (with_reducible exact dflts_big (by omega)) | (with_reducible exact nones_fit (by omega) (by omega) _ (by omega)) | (with_reducible exact dflts_fit (by omega) _ (by omega)) | (exfalso; exact rf_bad (by with_reducible assumption) (by omega) (by omega)) | exact rf_dd (by with_reducible assumption) (by omega) | exact (rf_dd (by with_reducible assumption) (by omega)).symm | exact rf_dflts (by with_reducible assumption) (by omega))))

theorem less_law {f xs : List Row} {i : Nat} (h : VF f ∧ Fts f xs) (hi : i < xs.length) : VF f ∧ Fts f (xs.set i (pasteR (row xs i) 0 [Sc.i 0, Sc.i 0, Sc.s []])) := by
  refine ⟨h.1, by rw [List.length_set]; exact h.2.l, ⟨by rw [List.length_set]; exact h.2.v.l5, ⟨fun j hj => ?_⟩⟩, ⟨fun j hj => ?_⟩⟩
  · rw [List.length_set] at hj
    rw [row_set]
    split
    · rw [rc_paste_in _ _ _ 0 (by omega) (by simp), rc_paste_in _ _ _ 1 (by omega) (by simp), rc_paste_in _ _ _ 2 (by omega) (by simp)]
      exact .inl ⟨rfl, rfl, rfl⟩
    · exact h.2.v.a.h j hj
  · rw [List.length_set] at hj
    rw [row_set]
    split
    · rw [rc_paste_in _ _ _ 0 (by omega) (by simp)]
      exact .inl rfl
    · exact h.2.k.h j hj
theorem rf_len {f xs : List Row} (h : VF f ∧ Fts f xs) : 1 ≤ (xs.length : Int) := by have := h.1.l1; have := h.2.l; omega
theorem short_law {f xs : List Row} (h : VF f ∧ Fts f xs) : ¬ (VF f ∧ Fts f (xs.take ((xs.length : Int) - 1).toNat)) := fun q => by
  have h1 := q.2.l
  have h2 := h.2.l
  have h3 := h.1.l1
  rw [List.length_take] at h1
  omega
theorem rem_rng {a : Nat} {f xs : List Row} (h : VF f ∧ Fts f xs) : 0 ≤ (a : Int).tmod (xs.length : Int) ∧ (a : Int).tmod (xs.length : Int) < xs.length := mod_pos (by omega) (rf_len h)
theorem less_true {a : Nat} {f xs : List Row} (h : VF f ∧ Fts f xs) : true = decide (VF f ∧ Fts f (xs.set ((a : Int).tmod (xs.length : Int)).toNat (pasteR (row xs ((a : Int).tmod (xs.length : Int)).toNat) 0 [Sc.i 0, Sc.i 0, Sc.s []]))) :=
  true_eq (less_law h (by have := rem_rng (a := a) h; omega))
theorem less_bad {a : Nat} {f xs : List Row} (h : VF f ∧ Fts f xs) (h2 : ¬ (VF f ∧ Fts f (xs.set ((a : Int).tmod (xs.length : Int)).toNat (pasteR (row xs ((a : Int).tmod (xs.length : Int)).toNat) 0 [Sc.i 0, Sc.i 0, Sc.s []])))) : False := h2 (less_law h (by have := rem_rng (a := a) h; omega))
theorem less_bad' {a : Nat} {f xs : List Row} (h : VF f) (h' : Fts f xs) (h2 : VF f → ¬ Fts f (xs.set ((a : Int).tmod (xs.length : Int)).toNat (pasteR (row xs ((a : Int).tmod (xs.length : Int)).toNat) 0 [Sc.i 0, Sc.i 0, Sc.s []]))) : False := h2 h (less_law ⟨h, h'⟩ (by have := rem_rng (a := a) ⟨h, h'⟩; omega)).2
theorem sl_part {c : Nat} {xs : List Row} (h : SB c xs) (n : Nat) : SL c (xs.take n) := sb_sl ⟨fun r hr => h.h r (List.mem_of_mem_take hr)⟩
theorem sl_less {xs : List Row} {i : Nat} (h : SB 2 xs) : SL 2 (xs.set i (pasteR (row xs i) 0 [Sc.i 0, Sc.i 0, Sc.s []])) := sb_sl (sb_seti h (by simp) (by simp [Sc.str]))
theorem short_t {f xs : List Row} (h : VF f) (h' : Fts f xs) : true = !decide (VF f ∧ Fts f (xs.take ((xs.length : Int) - 1).toNat)) := by
  rw [← false_eq (short_law ⟨h, h'⟩)]; rfl
theorem short_f {f xs : List Row} (h : VF f) (h' : Fts f xs) : false = decide (VF f ∧ Fts f (xs.take ((xs.length : Int) - 1).toNat)) := false_eq (short_law ⟨h, h'⟩)
theorem len_pred {f xs : List Row} (h : VF f) (h' : Fts f xs) : 0 ≤ (xs.length : Int) - 1 := by have := rf_len ⟨h, h'⟩; omega
theorem part_big {xs : List Row} {n : Nat} (h : xs.length ≤ 6) : ((xs.take n).length : Int) < 9223372036854775808 := by rw [List.length_take]; omega
end Go.Proofs.Ytfchlcghildiaaa.V
