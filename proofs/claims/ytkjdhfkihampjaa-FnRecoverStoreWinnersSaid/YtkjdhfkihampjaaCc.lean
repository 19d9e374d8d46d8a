/-
  What a recovery makes of cells: the edits of those that have not ended are undone.
-/
import Derived.Test.YtkjdhfkihampjaaCb
set_option linter.unusedSimpArgs false
set_option linter.unusedVariables false
namespace Go.Proofs.Ytkjdhfkihampjaa.V
open Go Go.RowKit
open Classical

/-- Which owners have ended among the first n notes. -/
structure EndA (es ar : List Row) (n : Int) : Prop where
  len : ar.length = 8
  h : ∀ t : Nat, t < 8 → ((rc (row ar t) 0).bool = true ↔ ¬ NoEnd es (t : Int) n)
theorem endA_zero (es : List Row) : EndA es (List.replicate 8 [Sc.b false]) 0 := ⟨rfl, fun t ht => by
  have e : row (List.replicate 8 [Sc.b false]) t = [Sc.b false] := by
    unfold row
    rw [List.getD_eq_getElem?_getD, List.getElem?_replicate, if_pos ht]; rfl
  rw [e]
  exact ⟨fun h => by simp [rc] at h, fun h => absurd (noEnd_zero es t) h⟩⟩
theorem noEnd_back {es : List Row} {who i : Int} (h : NoEnd es who (i + 1)) : NoEnd es who i := ⟨fun j hj => h.h j (by omega)⟩
theorem endA_skip {es ar : List Row} {i : Int} (h : EndA es ar i) (h1 : (rc (row es i.toNat) 0).bool = false) : EndA es ar (i + 1) := ⟨h.len, fun t ht => by
  rw [h.h t ht]
  exact ⟨fun q q2 => q (noEnd_back q2), fun q q2 => q (noEnd_step1 q2 h1)⟩⟩
theorem endA_set {es ar : List Row} {i : Int} (h : EndA es ar i) (h0 : 0 ≤ i) (h1 : (rc (row es i.toNat) 0).bool = true) (ho : 0 ≤ (rc (row es i.toNat) 1).int ∧ (rc (row es i.toNat) 1).int ≤ 7) :
    EndA es (ar.set (rc (row es i.toNat) 1).int.toNat (pasteR (row ar (rc (row es i.toNat) 1).int.toNat) 0 [Sc.b true])) (i + 1) := by
  refine ⟨by simp [h.len], fun t ht => ?_⟩
  rw [row_set]
  by_cases e : (rc (row es i.toNat) 1).int.toNat = t
  · rw [if_pos ⟨e, by rw [h.len]; exact ht⟩]
    have e1 : (rc (pasteR (row ar (rc (row es i.toNat) 1).int.toNat) 0 [Sc.b true]) 0).bool = true := by cases row ar (rc (row es i.toNat) 1).int.toNat <;> rfl
    rw [e1]
    exact ⟨fun _ q => q.h i.toNat (by omega) ⟨h1, by omega⟩, fun _ => rfl⟩
  · rw [if_neg (fun q => e q.1), h.h t ht]
    exact ⟨fun q q2 => q (noEnd_back q2), fun q q2 => q (noEnd_step2 q2 (by omega))⟩
theorem endA_all {es ar : List Row} {i : Int} (h : EndA es ar i) (hi : ¬ i < es.length) (h2 : i ≤ es.length) : EndA es ar es.length := by
  rw [show i = (es.length : Int) by omega] at h; exact h
theorem no_owner {m : Int} {es : List Row} {i : Int} (h : NotesN m es es.length) (h0 : 0 ≤ i) (hi : i < es.length) : 0 ≤ (rc (row es i.toNat) 1).int ∧ (rc (row es i.toNat) 1).int ≤ 7 := by
  have := h.h i.toNat (by omega)
  exact ⟨this.o0, this.o7⟩
/-- Owners of notes are in range. -/
structure OwnN (es : List Row) : Prop where
  h : ∀ j : Nat, j < es.length → 0 ≤ (rc (row es j) 1).int ∧ (rc (row es j) 1).int ≤ 7
theorem own_at {es : List Row} {i : Int} (h : OwnN es) (h0 : 0 ≤ i) (hi : i < es.length) : 0 ≤ (rc (row es i.toNat) 1).int ∧ (rc (row es i.toNat) 1).int ≤ 7 := h.h i.toNat (by omega)
theorem own_of {m : Int} {es : List Row} (h : NotesN m es es.length) : OwnN es := ⟨fun j hj => ⟨(h.h j (by omega)).o0, (h.h j (by omega)).o7⟩⟩
theorem own_lt {es : List Row} {i : Int} (h : OwnN es) (h0 : 0 ≤ i) (hi : i < es.length) : (rc (row es i.toNat) 1).int < 8 := by have := own_at h h0 hi; omega
def cEndO : Ct := ⟨[], fun ds K => match ds with
  | [.view ks es] => ks = KNote ∧ es.length ≤ 1048576 ∧ OwnN es ∧ ∀ ar : List Row, EndA es ar es.length → K (.arr [.bool] ar) []
  | _ => False⟩
set_option maxRecDepth 100000 in
set_option maxHeartbeats 4000000 in
theorem p_endOwners : Proved 71 cEndO := by
  refine proved_of [] trivial [.cell 2 70] Try.func71 rfl rfl rfl rfl (by kernel_rfl) ?_
  intro ds K hrel
  simp only [cEndO] at hrel
  split at hrel
  case h_2 => exact hrel.elim
  rename_i ks es
  obtain ⟨rfl, h1, ho, hrel⟩ := hrel
  refine ⟨rfl, Nat.le_of_ble_eq_true rfl, fun k σ => match k with
    | 3 => some { α := Lv 3 (Int × List Row), R := fun ⟨(i, ar)⟩ => (0 ≤ i ∧ i ≤ es.length ∧ 8 ≤ (ar.length : Int) ∧ (ar.length : Int) ≤ 8) ∧ EndA es ar i, μ := fun ⟨(i, _)⟩ => (es.length - i).toNat, st := fun ⟨(i, ar)⟩ => upH σ [(8, .int .i64 i)] 1 (.arr [.bool] ar) }
    | _ => none, ?_⟩
  repeat' (first | with_reducible refine And.intro ?_ ?_ | (with_reducible intro h; first | (exact absurd h (by decide)) | (guard_hyp h : true = true; clear h) | (guard_hyp h : false = false; clear h) | (have hq := (h : Lv 3 _); clear hq; obtain ⟨_, _⟩ := h) | skip) | with_reducible exact True.intro | ((with_reducible refine (id ?_ : @Eq Bool (nodupN _) true)); kernel_rfl) | ((with_reducible refine (id ?_ : @Eq Bool (apartN _ _) true)); kernel_rfl) | ((with_reducible refine (id ?_ : @Eq Bool (formL _ _) true)); kernel_rfl) | ((with_reducible refine (id ?_ : @Eq _ _ _)); exact rfl) | ((conv => whnf); first | done | with_reducible refine And.intro ?_ ?_ | (with_reducible intro h; first | (exact absurd h (by decide)) | (guard_hyp h : true = true; clear h) | (guard_hyp h : false = false; clear h) | (have hq := (h : Lv 3 _); clear hq; obtain ⟨_, _⟩ := h) | skip) | with_reducible exact True.intro | ((with_reducible refine (id ?_ : @Eq _ _ _)); exact rfl) | (refine Exists.intro _ (Exists.intro _ (And.intro (hrel ?_ ?_) ?_))) | refine Exists.intro (⟨(?_, ?_)⟩ : Lv 3 _) ?_ | refine Exists.intro _ (Exists.intro _ (And.intro hrel ?_)) | exact Or.inl rfl | exact Or.inr (And.intro rfl rfl) | (apply Exists.intro; refine And.intro ?_ ?_)) | exact Nat.le_of_ble_eq_true rfl)
  all_goals (try ((try (change _ = _)) <;> (try dsimp only at *) <;> (try simp only [decide_eq_true_eq, decide_eq_false_iff_not, Bool.not_eq_true', Bool.not_eq_false', Bool.and_eq_true, Bool.and_eq_false_iff, beq_iff_eq, bne_iff_ne, beq_eq_false_iff_ne, bne_eq_false_iff_eq, ne_eq, Decidable.not_not, bne_self_eq_false, Bool.false_eq_true, Bool.true_eq_false, Bool.not_true, Bool.not_false, not_true_eq_false, not_false_eq_true, Int.toNat_natCast, Nat.zero_add, Nat.reduceAdd, Nat.reduceMul, Nat.reduceDiv, Nat.mul_one, lenK_one, big, fill_len, marking_len, marks_len, nrms_len, List.length_set, List.length_append, List.length_map, List.length_replicate, List.length_cons, List.length_nil, Int.natCast_add, Int.natCast_one, Int.natCast_zero] at *) <;> (repeat (with_reducible rename _ ∧ _ => hh; obtain ⟨_, _⟩ := hh)) <;> (first | omega | (refine fits_i64 ?_; omega) | (split <;> omega) | exact endA_zero _ | exact endA_skip (by with_reducible assumption) (by with_reducible assumption) | exact endA_set (by with_reducible assumption) (by omega) (by with_reducible assumption) (own_at ho (by omega) (by omega)) | exact endA_all (by with_reducible assumption) (by omega) (by omega) | (show (8 : Nat) = _; omega) | exact (own_at ho (by omega) (by omega)).1 | exact own_lt ho (by omega) (by omega))))

/-- The numbers of the first i cells. -/
@[irreducible] def nums (c : List Row) (i : Nat) : List Row := (c.take i).map (fun r => [.i (rc r 0).int])
theorem nums_zero (c : List Row) : nums c (Int.toNat 0) = [] := by simp [nums]
theorem nums_step {c : List Row} {i : Int} (h0 : 0 ≤ i) (hi : i < c.length) : nums c i.toNat ++ [[Sc.i (rc (row c i.toNat) 0).int]] = nums c (i + 1).toNat := by
  unfold nums
  rw [show (i + 1).toNat = i.toNat + 1 by omega, take_succ_row (by omega), List.map_append]; rfl
theorem nums_len (c : List Row) (i : Nat) : (nums c i).length ≤ c.length := by unfold nums; simp; omega
theorem nums_lenA (c : List Row) : (nums c c.length).length = c.length := by unfold nums; simp
theorem nums_all {c : List Row} {i : Int} (hi : ¬ i < c.length) (h : i ≤ c.length) : nums c i.toNat = nums c c.length := by rw [show i.toNat = c.length by omega]
/-- The edit of one who has not ended undone. -/
noncomputable def undS (all s : List Row) (n : Row) : List Row := if (rc n 0).bool = false ∧ NoEnd all (rc n 1).int all.length then setI s (rc n 2).int (rc n 3).int else s
noncomputable def und0 (all : List Row) : List Row → List Row → List Row
  | [], s => s
  | n :: es, s => undS all (und0 all es s) n
/-- The notes from index i on, of those that have not ended, undone. -/
@[irreducible] noncomputable def und (es s : List Row) (i : Nat) : List Row := und0 es (es.drop i) s
theorem und_end (es s : List Row) : und es s es.length = s := by simp [und, und0]
theorem und_succ {es : List Row} (s : List Row) {i : Nat} (h : i < es.length) : und es s i = undS es (und es s (i + 1)) (row es i) := by
  simp only [und]
  have : es.drop i = row es i :: es.drop (i + 1) := by
    rw [List.drop_eq_getElem_cons h]
    congr 1
    have := row_some h
    rw [List.getElem?_eq_getElem h] at this
    exact Option.some.inj this
  rw [this]; rfl
theorem undS_len (all s : List Row) (n : Row) : (undS all s n).length = s.length := by unfold undS; split <;> simp [setI_len]
theorem und0_len (all s : List Row) : ∀ es : List Row, (und0 all es s).length = s.length
  | [] => rfl
  | n :: es => by simp only [und0]; rw [undS_len, und0_len all s es]
theorem und_len (es s : List Row) (i : Nat) : (und es s i).length = s.length := by unfold und; exact und0_len es s _
theorem und_start {c es : List Row} {i : Int} (hi : ¬ i < c.length) (h : i ≤ c.length) : nums c i.toNat = und es (nums c c.length) ((es.length : Int) - 1 + 1).toNat := by
  rw [show ((es.length : Int) - 1 + 1).toNat = es.length by omega, und_end]; exact nums_all hi h
theorem und_stepI {es : List Row} (s : List Row) {i : Int} (h0 : 0 ≤ i) (hi : i < es.length) : und es s (i - 1 + 1).toNat = undS es (und es s (i + 1).toNat) (row es i.toNat) := by
  rw [show i - 1 + 1 = i by omega, und_succ s (show i.toNat < es.length by omega), show i.toNat + 1 = (i + 1).toNat by omega]
theorem und_yes {es s : List Row} {i : Int} (h0 : 0 ≤ i) (hi : i < es.length) (hE : (rc (row es i.toNat) 0).bool = false) (hn : NoEnd es (rc (row es i.toNat) 1).int es.length) :
    setI (und es s (i + 1).toNat) (rc (row es i.toNat) 2).int (rc (row es i.toNat) 3).int = und es s (i - 1 + 1).toNat := by
  rw [und_stepI s h0 hi]; unfold undS; rw [if_pos ⟨hE, hn⟩]
theorem und_noE {es s : List Row} {i : Int} (h0 : 0 ≤ i) (hi : i < es.length) (hE : (rc (row es i.toNat) 0).bool = true) : und es s (i + 1).toNat = und es s (i - 1 + 1).toNat := by
  rw [und_stepI s h0 hi]; unfold undS; rw [if_neg (fun q => by rw [hE] at q; cases q.1)]
theorem und_noN {es s : List Row} {i : Int} (h0 : 0 ≤ i) (hi : i < es.length) (hn : ¬ NoEnd es (rc (row es i.toNat) 1).int es.length) : und es s (i + 1).toNat = und es s (i - 1 + 1).toNat := by
  rw [und_stepI s h0 hi]; unfold undS; rw [if_neg (fun q => hn q.2)]
theorem und_last {es s : List Row} {i : Int} (h : ¬ 0 ≤ i) (h2 : -1 ≤ i) : und es s (i + 1).toNat = und es s 0 := by rw [show (i + 1).toNat = 0 by omega]
theorem endA_no {es ar : List Row} {i : Int} (h : EndA es ar es.length) (ho : OwnN es) (h0 : 0 ≤ i) (hi : i < es.length) (hb : (rc (row ar (rc (row es i.toNat) 1).int.toNat) 0).bool = false) : NoEnd es (rc (row es i.toNat) 1).int es.length := by
  have hr := own_at ho h0 hi
  have := h.h (rc (row es i.toNat) 1).int.toNat (by omega)
  rw [show (((rc (row es i.toNat) 1).int.toNat : Nat) : Int) = (rc (row es i.toNat) 1).int by omega] at this
  apply Classical.byContradiction
  intro hn
  rw [this.2 hn] at hb; cases hb
theorem endA_yes {es ar : List Row} {i : Int} (h : EndA es ar es.length) (ho : OwnN es) (h0 : 0 ≤ i) (hi : i < es.length) (hb : (rc (row ar (rc (row es i.toNat) 1).int.toNat) 0).bool = true) : ¬ NoEnd es (rc (row es i.toNat) 1).int es.length := by
  have hr := own_at ho h0 hi
  have := h.h (rc (row es i.toNat) 1).int.toNat (by omega)
  rw [show (((rc (row es i.toNat) 1).int.toNat : Nat) : Int) = (rc (row es i.toNat) 1).int by omega] at this
  exact this.1 hb
theorem no_thing {m : Int} {es : List Row} {i : Int} (h : NotesN m es es.length) (h0 : 0 ≤ i) (hi : i < es.length) : 0 ≤ (rc (row es i.toNat) 2).int ∧ (rc (row es i.toNat) 2).int < m := by
  have := h.h i.toNat (by omega)
  exact ⟨this.t0, this.tm⟩
noncomputable def cRecd : Ct := ⟨[], fun ds K => match ds with
  | [.view ks c, .view js es] => ks = KCell ∧ js = KNote ∧ (c.length ≤ 6 ∧ es.length ≤ 20) ∧ NotesN c.length es es.length ∧ K (.fr 3 KInt (und es (nums c c.length) 0)) []
  | _ => False⟩
/-- The orders of regions that draw. -/
def trRecd : Nat → Option (Bool × Tr)
  | 10 => some (false, .take 0 (.take 1 (.take 2 (.take 3 (.take 4 (.take 6 (.take 7 (.take 8 (.take 9 (.all (.cons 5 (.all (.cons 10 (.take 11 (.all (.cons 12 .done .nil))) .nil)) (.cons 10 (.all (.cons 5 (.take 11 (.all (.cons 12 .done .nil))) .nil)) .nil))))))))))))
  | _ => none
set_option maxRecDepth 100000 in
set_option maxHeartbeats 8000000 in
theorem p_recovered : Proved 63 cRecd := by
  refine proved_tr trRecd [(43, cEnded)] ⟨p_ended, trivial⟩ [.tmp 4] Try.func63 rfl rfl rfl rfl (by kernel_rfl) ?_
  intro ds K hrel
  simp only [cRecd] at hrel
  split at hrel
  case h_2 => exact hrel.elim
  rename_i ks c js es
  obtain ⟨rfl, rfl, ⟨h1, h2⟩, hn, hrel⟩ := hrel
  refine ⟨rfl, Nat.le_of_ble_eq_true rfl, fun k σ => match k with
    | 3 => some { α := Lv 3 Int, R := fun ⟨i⟩ => (0 ≤ i ∧ i ≤ c.length) ∧ True, μ := fun ⟨i⟩ => (c.length - i).toNat, st := fun ⟨i⟩ => upN σ [(6, .int .i64 i), (5, .own 0)] 0 (.rows 3 KInt (nums c i.toNat)) }
    | 7 => some { α := Lv 7 Int, R := fun ⟨i⟩ => (-1 ≤ i ∧ i ≤ es.length - 1) ∧ True, μ := fun ⟨i⟩ => (i + 1).toNat, st := fun ⟨i⟩ => upH σ [(7, .int .i64 i)] 0 (.rows 3 KInt (und es (nums c c.length) (i + 1).toNat)) }
    | _ => none, ?_⟩
  repeat' (first | with_reducible refine And.intro ?_ ?_ | (with_reducible intro h; first | (exact absurd h (by decide)) | (guard_hyp h : true = true; clear h) | (guard_hyp h : false = false; clear h) | (have hq := (h : Lv 3 _); clear hq; obtain ⟨_⟩ := h) | (have hq := (h : Lv 7 _); clear hq; obtain ⟨_⟩ := h) | skip) | with_reducible exact True.intro | ((with_reducible refine (id ?_ : @Eq Bool (nodupN _) true)); kernel_rfl) | ((with_reducible refine (id ?_ : @Eq Bool (apartN _ _) true)); kernel_rfl) | ((with_reducible refine (id ?_ : @Eq Bool (formL _ _) true)); kernel_rfl) | ((with_reducible refine (id ?_ : @Eq _ _ _)); exact rfl) | ((conv => whnf); first | done | with_reducible refine And.intro ?_ ?_ | (with_reducible intro h; first | (exact absurd h (by decide)) | (guard_hyp h : true = true; clear h) | (guard_hyp h : false = false; clear h) | (have hq := (h : Lv 3 _); clear hq; obtain ⟨_⟩ := h) | (have hq := (h : Lv 7 _); clear hq; obtain ⟨_⟩ := h) | skip) | with_reducible exact True.intro | ((with_reducible refine (id ?_ : @Eq _ _ _)); exact rfl) | refine Exists.intro (⟨?_⟩ : Lv 3 _) ?_ | refine Exists.intro (⟨?_⟩ : Lv 7 _) ?_ | refine Exists.intro _ (Exists.intro _ (And.intro hrel ?_)) | exact Or.inl rfl | exact Or.inr (And.intro rfl rfl) | (apply Exists.intro; refine And.intro ?_ ?_)) | exact Nat.le_of_ble_eq_true rfl)
  all_goals (try ((try (change _ = _)) <;> (try dsimp only at *) <;> (try simp only [decide_eq_true_eq, decide_eq_false_iff_not, Bool.not_eq_true', Bool.not_eq_false', Bool.and_eq_true, Bool.and_eq_false_iff, beq_iff_eq, bne_iff_ne, beq_eq_false_iff_ne, bne_eq_false_iff_eq, ne_eq, Decidable.not_not, bne_self_eq_false, Bool.false_eq_true, Bool.true_eq_false, Bool.not_true, Bool.not_false, not_true_eq_false, not_false_eq_true, Int.toNat_natCast, Nat.zero_add, Nat.reduceAdd, Nat.reduceMul, Nat.reduceDiv, Nat.mul_one, lenK_one, big, fill_len, marking_len, marks_len, nrms_len, List.length_set, List.length_append, List.length_map, List.length_replicate, List.length_cons, List.length_nil, Int.natCast_add, Int.natCast_one, Int.natCast_zero, und_len, nums_lenA] at *) <;> (repeat (with_reducible rename _ ∧ _ => hh; obtain ⟨_, _⟩ := hh)) <;> (first | omega | (refine fits_i64 ?_; omega) | (split <;> omega) | (with_reducible exact nums_zero _) | (with_reducible exact (nums_zero _).symm) | exact nums_step (by omega) (by omega) | exact (nums_step (by omega) (by omega)).symm | (with_reducible exact und_start (by omega) (by omega)) | exact und_yes (by omega) (by omega) (by with_reducible assumption) (by with_reducible assumption) | exact (und_yes (by omega) (by omega) (by with_reducible assumption) (by with_reducible assumption)).symm | (with_reducible exact und_noE (by omega) (by omega) (by with_reducible assumption)) | (with_reducible exact und_noN (by omega) (by omega) (by with_reducible assumption)) | (with_reducible exact und_last (by omega) (by omega)) | exact (no_thing hn (by omega) (by omega)).1 | exact (no_thing hn (by omega) (by omega)).2 | (refine Nat.le_trans (Nat.mul_le_mul_right 8 (Nat.add_le_add_right (nums_len _ _) _)) ?_; omega) | trivial)))
set_option maxRecDepth 100000 in
set_option maxHeartbeats 8000000 in
theorem p_undone : Proved 61 cRecd := by
  refine proved_of [(71, cEndO)] ⟨p_endOwners, trivial⟩ [.tmp 4] Try.func61 rfl rfl rfl rfl (by kernel_rfl) ?_
  intro ds K hrel
  simp only [cRecd] at hrel
  split at hrel
  case h_2 => exact hrel.elim
  rename_i ks c js es
  obtain ⟨rfl, rfl, ⟨h1, h2⟩, hn, hrel⟩ := hrel
  have ho := own_of hn
  refine ⟨rfl, Nat.le_of_ble_eq_true rfl, fun k σ => match k with
    | 3 => some { α := Lv 3 Int, R := fun ⟨i⟩ => (0 ≤ i ∧ i ≤ c.length) ∧ True, μ := fun ⟨i⟩ => (c.length - i).toNat, st := fun ⟨i⟩ => upN σ [(13, .int .i64 i), (5, .own 0)] 0 (.rows 3 KInt (nums c i.toNat)) }
    | 9 => some { α := Lv 9 Int, R := fun ⟨i⟩ => (-1 ≤ i ∧ i ≤ es.length - 1) ∧ True, μ := fun ⟨i⟩ => (i + 1).toNat, st := fun ⟨i⟩ => upH σ [(9, .int .i64 i)] 0 (.rows 3 KInt (und es (nums c c.length) (i + 1).toNat)) }
    | _ => none, ?_⟩
  repeat' (first | with_reducible refine And.intro ?_ ?_ | (with_reducible intro h; first | (exact absurd h (by decide)) | (guard_hyp h : true = true; clear h) | (guard_hyp h : false = false; clear h) | (have hq := (h : Lv 3 _); clear hq; obtain ⟨_⟩ := h) | (have hq := (h : Lv 9 _); clear hq; obtain ⟨_⟩ := h) | skip) | with_reducible exact True.intro | ((with_reducible refine (id ?_ : @Eq Bool (nodupN _) true)); kernel_rfl) | ((with_reducible refine (id ?_ : @Eq Bool (apartN _ _) true)); kernel_rfl) | ((with_reducible refine (id ?_ : @Eq Bool (formL _ _) true)); kernel_rfl) | ((with_reducible refine (id ?_ : @Eq _ _ _)); exact rfl) | ((conv => whnf); first | done | with_reducible refine And.intro ?_ ?_ | (with_reducible intro h; first | (exact absurd h (by decide)) | (guard_hyp h : true = true; clear h) | (guard_hyp h : false = false; clear h) | (have hq := (h : Lv 3 _); clear hq; obtain ⟨_⟩ := h) | (have hq := (h : Lv 9 _); clear hq; obtain ⟨_⟩ := h) | skip) | with_reducible exact True.intro | ((with_reducible refine (id ?_ : @Eq _ _ _)); exact rfl) | refine Exists.intro (⟨?_⟩ : Lv 3 _) ?_ | refine Exists.intro (⟨?_⟩ : Lv 9 _) ?_ | refine Exists.intro _ (Exists.intro _ (And.intro hrel ?_)) | exact Or.inl rfl | exact Or.inr (And.intro rfl rfl) | (apply Exists.intro; refine And.intro ?_ ?_)) | exact Nat.le_of_ble_eq_true rfl)
  all_goals (try ((try (change _ = _)) <;> (try dsimp only at *) <;> (try simp only [decide_eq_true_eq, decide_eq_false_iff_not, Bool.not_eq_true', Bool.not_eq_false', Bool.and_eq_true, Bool.and_eq_false_iff, beq_iff_eq, bne_iff_ne, beq_eq_false_iff_ne, bne_eq_false_iff_eq, ne_eq, Decidable.not_not, bne_self_eq_false, Bool.false_eq_true, Bool.true_eq_false, Bool.not_true, Bool.not_false, not_true_eq_false, not_false_eq_true, Int.toNat_natCast, Nat.zero_add, Nat.reduceAdd, Nat.reduceMul, Nat.reduceDiv, Nat.mul_one, lenK_one, big, fill_len, marking_len, marks_len, nrms_len, List.length_set, List.length_append, List.length_map, List.length_replicate, List.length_cons, List.length_nil, Int.natCast_add, Int.natCast_one, Int.natCast_zero, und_len, nums_lenA] at *) <;> (repeat (with_reducible rename _ ∧ _ => hh; obtain ⟨_, _⟩ := hh)) <;> (first | omega | (refine fits_i64 ?_; omega) | (split <;> omega) | (with_reducible assumption) | (with_reducible exact nums_zero _) | (with_reducible exact (nums_zero _).symm) | exact nums_step (by omega) (by omega) | exact (nums_step (by omega) (by omega)).symm | (with_reducible exact und_start (by omega) (by omega)) | exact und_yes (by omega) (by omega) (by with_reducible assumption) (by with_reducible assumption) | exact (und_yes (by omega) (by omega) (by with_reducible assumption) (by with_reducible assumption)).symm | (with_reducible exact und_noE (by omega) (by omega) (by with_reducible assumption)) | (with_reducible exact und_noN (by omega) (by omega) (by with_reducible assumption)) | (with_reducible exact und_last (by omega) (by omega)) | exact (no_thing hn (by omega) (by omega)).1 | exact (no_thing hn (by omega) (by omega)).2 | (refine Nat.le_trans (Nat.mul_le_mul_right 8 (Nat.add_le_add_right (nums_len _ _) _)) ?_; omega) | trivial | exact und_yes (by omega) (by omega) (by with_reducible assumption) (endA_no (by with_reducible assumption) ho (by omega) (by omega) (by with_reducible assumption)) | exact (und_yes (by omega) (by omega) (by with_reducible assumption) (endA_no (by with_reducible assumption) ho (by omega) (by omega) (by with_reducible assumption))).symm | (with_reducible exact und_noN (by omega) (by omega) (endA_yes (by with_reducible assumption) ho (by omega) (by omega) (by with_reducible assumption))) | exact (own_at ho (by omega) (by omega)).1 | exact own_lt ho (by omega) (by omega) | (have hl := EndA.len (by with_reducible assumption); omega) | (show (8 : Nat) = _; have hl := EndA.len (by with_reducible assumption); omega))))
end Go.Proofs.Ytkjdhfkihampjaa.V
