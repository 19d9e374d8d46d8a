/-
  Journals: the program's check; the law that it answers as the reference does, as a function.
-/
import Derived.Test.YtkjdhfkihampjaaVn
set_option linter.unusedSimpArgs false
set_option linter.unusedVariables false
namespace Go.Proofs.Ytkjdhfkihampjaa.V
open Go Go.RowKit
open Classical

def cEdit : Ct := ⟨[], fun ds K => match ds with
  | [.agg [.bool e, .int .i64 o, .int .i64 t, .int .i64 d, .int .i64 w]] => K (.agg [.int .i64 o, .int .i64 t, .int .i64 d, .int .i64 w]) []
  | _ => False⟩
set_option maxRecDepth 100000 in
set_option maxHeartbeats 4000000 in
theorem p_edit : Proved 51 cEdit := by
  refine proved_of [] trivial [.cell 2 72] Try.func51 rfl rfl rfl rfl (by kernel_rfl) ?_
  intro ds K hrel
  simp only [cEdit] at hrel
  split at hrel
  case h_2 => exact hrel.elim
  refine ⟨rfl, Nat.le_of_ble_eq_true rfl, fun _ _ => none, ?_⟩
  repeat' (first | with_reducible refine And.intro ?_ ?_ | (with_reducible intro h; first | (exact absurd h (by decide)) | (guard_hyp h : true = true; clear h) | (guard_hyp h : false = false; clear h) | skip) | with_reducible exact True.intro | ((with_reducible refine (id ?_ : @Eq Bool (nodupN _) true)); kernel_rfl) | ((with_reducible refine (id ?_ : @Eq Bool (apartN _ _) true)); kernel_rfl) | ((with_reducible refine (id ?_ : @Eq Bool (formL _ _) true)); kernel_rfl) | ((with_reducible refine (id ?_ : @Eq _ _ _)); exact rfl) | ((conv => whnf); first | done | with_reducible refine And.intro ?_ ?_ | (with_reducible intro h; first | (exact absurd h (by decide)) | (guard_hyp h : true = true; clear h) | (guard_hyp h : false = false; clear h) | skip) | with_reducible exact True.intro | ((with_reducible refine (id ?_ : @Eq _ _ _)); exact rfl) | refine Exists.intro _ (Exists.intro _ (And.intro hrel ?_)) | exact Or.inl rfl | exact Or.inr (And.intro rfl rfl) | (apply Exists.intro; refine And.intro ?_ ?_)) | exact Nat.le_of_ble_eq_true rfl)
theorem own_vn {s es : List Row} {i : Int} (h : VNn s es i) {j : Nat} (hj : (j : Int) < i) : 0 ≤ (rc (row es j) 1).int ∧ (rc (row es j) 1).int ≤ 7 := by
  have := h.h j hj
  exact ⟨this.o0, this.o7⟩
theorem ea_no {es ar : List Row} {i o : Int} (h : EndA es ar i) (ho : 0 ≤ o ∧ o ≤ 7) (hb : (rc (row ar o.toNat) 0).bool = false) : NoEnd es o i := by
  have := h.h o.toNat (by omega)
  rw [show ((o.toNat : Nat) : Int) = o by omega] at this
  apply Classical.byContradiction
  intro hn
  rw [this.2 hn] at hb; cases hb
theorem ea_yes {es ar : List Row} {i o : Int} (h : EndA es ar i) (ho : 0 ≤ o ∧ o ≤ 7) (hb : (rc (row ar o.toNat) 0).bool = true) : ¬ NoEnd es o i := by
  have := h.h o.toNat (by omega)
  rw [show ((o.toNat : Nat) : Int) = o by omega] at this
  exact this.1 hb
theorem fp_bad {s es ar : List Row} {t who i j : Int} (_ : FreeP es t who i j) (hv : VNn s es i) (ha : EndA es ar i) (h0 : 0 ≤ j) (hj : j < i) (c1 : (rc (row (es.take i.toNat) j.toNat) 0).bool = false) (c2 : (rc (row (es.take i.toNat) j.toNat) 2).int = t) (c3 : ¬ (rc (row (es.take i.toNat) j.toNat) 1).int = who) (c4 : (rc (row ar (rc (row (es.take i.toNat) j.toNat) 1).int.toNat) 0).bool = false) : ¬ FreeP es t who i i := by
  rw [row_take (by omega)] at c1 c2 c3 c4
  exact fun q => q.h j.toNat (by omega) ⟨c1, c2, c3, ea_no ha (own_vn hv (by omega)) c4⟩
theorem fp_s1 {es : List Row} {t who i j : Int} (h : FreeP es t who i j) (h0 : 0 ≤ j) (hj : j < i) (c1 : (rc (row (es.take i.toNat) j.toNat) 0).bool = true) : FreeP es t who i (j + 1) := freeP_step h (fun q => by
  rw [row_take (by omega)] at c1; rw [c1] at q; cases q.1)
theorem fp_s2 {es : List Row} {t who i j : Int} (h : FreeP es t who i j) (h0 : 0 ≤ j) (hj : j < i) (c1 : ¬ (rc (row (es.take i.toNat) j.toNat) 2).int = t) : FreeP es t who i (j + 1) := freeP_step h (fun q => by
  rw [row_take (by omega)] at c1; exact c1 q.2.1)
theorem fp_s3 {es : List Row} {t who i j : Int} (h : FreeP es t who i j) (h0 : 0 ≤ j) (hj : j < i) (c1 : (rc (row (es.take i.toNat) j.toNat) 1).int = who) : FreeP es t who i (j + 1) := freeP_step h (fun q => by
  rw [row_take (by omega)] at c1; exact q.2.2.1 c1)
theorem fp_s4 {s es ar : List Row} {t who i j : Int} (h : FreeP es t who i j) (hv : VNn s es i) (ha : EndA es ar i) (h0 : 0 ≤ j) (hj : j < i) (c4 : (rc (row ar (rc (row (es.take i.toNat) j.toNat) 1).int.toNat) 0).bool = true) : FreeP es t who i (j + 1) := freeP_step h (fun q => by
  rw [row_take (by omega)] at c4; exact ea_yes ha (own_vn hv (by omega)) c4 q.2.2.2)
theorem fp_all {es : List Row} {t who i j : Int} (h : FreeP es t who i j) (hj : ¬ j < i) (h2 : j ≤ i) : FreeP es t who i i := by rw [show j = i by omega] at h; exact h
theorem own_tk {s es : List Row} {i j : Int} (h : VNn s es i) (h0 : 0 ≤ j) (hj : j < i) : 0 ≤ (rc (row (es.take i.toNat) j.toNat) 1).int ∧ (rc (row (es.take i.toNat) j.toNat) 1).int < 8 := by
  rw [row_take (by omega)]
  have := own_vn h (j := j.toNat) (by omega)
  omega
set_option maxRecDepth 100000 in
set_option maxHeartbeats 16000000 in
theorem p_iVN : Proved 25 cVN := by
  refine proved_of [(49, cVS), (50, cCopy 3 KInt), (51, cEdit), (52, cVE')] ⟨p_iVS, p_cloneInt, p_edit, p_iVE, trivial⟩ [.tmp 4] Try.func25 rfl rfl rfl rfl (by kernel_rfl) ?_
  intro ds K hrel
  simp only [cVN] at hrel
  split at hrel
  case h_2 => exact hrel.elim
  rename_i ks s js es
  obtain ⟨rfl, rfl, ⟨h1, h2⟩, hrel⟩ := hrel
  refine ⟨rfl, Nat.le_of_ble_eq_true rfl, fun k σ => match k with
    | 6 => some { α := Lv 6 (Int × List Row), R := fun ⟨(i, ar)⟩ => (0 ≤ i ∧ i ≤ es.length ∧ ¬ 20 < (es.length : Int) ∧ 8 ≤ (ar.length : Int) ∧ (ar.length : Int) ≤ 8) ∧ VS s ∧ VNn s es i ∧ EndA es ar i, μ := fun ⟨(i, _)⟩ => (es.length - i).toNat, st := fun ⟨(i, ar)⟩ => upW σ [(23, .int .i64 i)] (setH (setH σ.hp 0 (some (.rows 3 KInt (now s es i.toNat)))) 1 (some (.arr [.bool] ar))) }
    | 17 => match lookT σ.tm 23 with
      | .int _ i => some { α := Lv 17 Int, R := fun ⟨j⟩ => (0 ≤ j ∧ j ≤ i) ∧ FreeP es (rc (row es i.toNat) 2).int (rc (row es i.toNat) 1).int i j, μ := fun ⟨j⟩ => (i - j).toNat, st := fun ⟨j⟩ => up σ [(69, .int .i64 j)] }
      | _ => none
    | _ => none, ?_⟩
  repeat' (first | with_reducible refine And.intro ?_ ?_ | (with_reducible intro h; first | (exact absurd h (by decide)) | (guard_hyp h : true = true; clear h) | (guard_hyp h : false = false; clear h) | (have hq := (h : Lv 6 _); clear hq; obtain ⟨_, _⟩ := h) | (have hq := (h : Lv 17 _); clear hq; obtain ⟨_⟩ := h) | skip) | with_reducible exact True.intro | ((with_reducible refine (id ?_ : @Eq Bool (nodupN _) true)); kernel_rfl) | ((with_reducible refine (id ?_ : @Eq Bool (apartN _ _) true)); kernel_rfl) | ((with_reducible refine (id ?_ : @Eq Bool (formL _ _) true)); kernel_rfl) | ((with_reducible refine (id ?_ : @Eq _ _ _)); exact rfl) | ((conv => whnf); first | done | with_reducible refine And.intro ?_ ?_ | (with_reducible intro h; first | (exact absurd h (by decide)) | (guard_hyp h : true = true; clear h) | (guard_hyp h : false = false; clear h) | (have hq := (h : Lv 6 _); clear hq; obtain ⟨_, _⟩ := h) | (have hq := (h : Lv 17 _); clear hq; obtain ⟨_⟩ := h) | skip) | with_reducible exact True.intro | ((with_reducible refine (id ?_ : @Eq _ _ _)); exact rfl) | refine Exists.intro (⟨(?_, ?_)⟩ : Lv 6 _) ?_ | refine Exists.intro (⟨?_⟩ : Lv 17 _) ?_ | refine Exists.intro _ (Exists.intro _ (And.intro hrel ?_)) | exact Or.inl rfl | exact Or.inr (And.intro rfl rfl) | (apply Exists.intro; refine And.intro ?_ ?_)) | exact Nat.le_of_ble_eq_true rfl)
  all_goals (try ((try (change _ = _)) <;> (try dsimp only at *) <;> (try simp only [decide_eq_true_eq, decide_eq_false_iff_not, Bool.not_eq_true', Bool.not_eq_false', Bool.and_eq_true, Bool.and_eq_false_iff, beq_iff_eq, bne_iff_ne, beq_eq_false_iff_ne, bne_eq_false_iff_eq, ne_eq, Decidable.not_not, bne_self_eq_false, Bool.false_eq_true, Bool.true_eq_false, Bool.not_true, Bool.not_false, not_true_eq_false, not_false_eq_true, Int.toNat_natCast, Nat.zero_add, Nat.reduceAdd, Nat.reduceMul, Nat.reduceDiv, Nat.mul_one, lenK_one, big, fill_len, marking_len, marks_len, nrms_len, List.length_set, List.length_append, List.length_map, List.length_replicate, List.length_cons, List.length_nil, Int.natCast_add, Int.natCast_one, Int.natCast_zero, List.drop_zero, Int.toNat_zero, now_len, List.length_take, List.length_drop] at *) <;> (repeat (with_reducible rename _ ∧ _ => hh; obtain ⟨_, _⟩ := hh)) <;> (first | omega | (refine fits_i64 ?_; omega) | (split <;> omega) | (with_reducible assumption) | (with_reducible exact now_zero _ _) | (with_reducible exact now_zero0 _ _) | exact now_end (by omega) (by with_reducible assumption) | exact now_edit (by omega) (by with_reducible assumption) | exact vnn_zero _ _ | exact endA_zero _ | exact endA_skip (by with_reducible assumption) (by with_reducible assumption) | exact endA_set (by with_reducible assumption) (by omega) (by with_reducible assumption) (by omega) | exact freeP_zero _ _ _ _ | exact fp_s1 (by with_reducible assumption) (by omega) (by omega) (by with_reducible assumption) | exact fp_s2 (by with_reducible assumption) (by omega) (by omega) (by with_reducible assumption) | exact fp_s3 (by with_reducible assumption) (by omega) (by omega) (by with_reducible assumption) | exact fp_s4 (by with_reducible assumption) (by with_reducible assumption) (by with_reducible assumption) (by omega) (by omega) (by with_reducible assumption) | exact vn_long (by omega) | exact vn_st (by with_reducible assumption) | exact vn_yes (by with_reducible assumption) (by with_reducible assumption) (by omega) (by omega) | exact vnn_end (by with_reducible assumption) (ea_no (by with_reducible assumption) (by omega) (by with_reducible assumption)) (by with_reducible assumption) (by omega) (by omega) | exact vnn_edit (by with_reducible assumption) (ea_no (by with_reducible assumption) (by omega) (by with_reducible assumption)) (by with_reducible assumption) (by with_reducible assumption) (fp_all (by with_reducible assumption) (by omega) (by omega)) (by omega) | exact vn_bad (by with_reducible assumption) (by omega) (by omega) (nv_own (by omega)) | exact vn_bad (by with_reducible assumption) (by omega) (by omega) (nv_ended (ea_yes (by with_reducible assumption) (by omega) (by with_reducible assumption))) | exact vn_bad (by with_reducible assumption) (by omega) (by omega) (nv_zero (by with_reducible assumption) (by omega)) | exact vn_bad (by with_reducible assumption) (by omega) (by omega) (nv_ve (by with_reducible assumption) (by with_reducible assumption)) | exact vn_bad (by with_reducible assumption) (by omega) (by omega) (nv_free (by with_reducible assumption) (fp_bad (by with_reducible assumption) (by with_reducible assumption) (by with_reducible assumption) (by omega) (by omega) (by with_reducible assumption) (by with_reducible assumption) (by with_reducible assumption) (by with_reducible assumption))) | (with_reducible exact VE.t0 (by with_reducible assumption)) | (have q := VE.tl (by with_reducible assumption); rw [now_len] at q; omega) | exact (own_tk (by with_reducible assumption) (by omega) (by omega)).1 | exact (own_tk (by with_reducible assumption) (by omega) (by omega)).2)))
end Go.Proofs.Ytkjdhfkihampjaa.V
