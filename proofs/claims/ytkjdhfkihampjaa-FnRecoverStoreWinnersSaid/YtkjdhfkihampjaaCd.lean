/-
  Recovery: what the functions return; the laws that the program answers as the reference does, as functions.
-/
import Derived.Test.YtkjdhfkihampjaaCc
set_option linter.unusedSimpArgs false
set_option linter.unusedVariables false
namespace Go.Proofs.Ytkjdhfkihampjaa.V
open Go Go.RowKit
open Classical

noncomputable def rcvF (c es : List Row) (f : Int) : List Row := und es (nums (rd f c es es.length) (rd f c es es.length).length) 0
theorem rcvF_len (c es : List Row) (f : Int) : (rcvF c es f).length = c.length := by unfold rcvF; rw [und_len, nums_lenA, rd_len]
theorem rd_min {f : Int} (c es : List Row) (hf : 1 ≤ f) : rd (min (f - 1) es.length + 1) c es es.length = rd f c es es.length := by
  by_cases h : f - 1 ≤ es.length
  · rw [Int.min_eq_left h, show f - 1 + 1 = f by omega]
  · rw [rd_skip (by omega), rd_skip (by omega)]
noncomputable def rcvS (c es : List Row) : List Row := if Usable c es then rcvF c es 1 else []
noncomputable def rcvR (c es : List Row) (f : Int) : List Row := if Usable c es ∧ 1 ≤ f ∧ f ≤ 21 then rcvF c es f else []
theorem rcvS_no {c es : List Row} (h : ¬ Usable c es) : rcvS c es = [] := by unfold rcvS; rw [if_neg h]
theorem rcvS_yes {c es : List Row} (h : Usable c es) : und es (nums (rd 1 c es es.length) (rd 1 c es es.length).length) 0 = rcvS c es := by unfold rcvS; rw [if_pos h]; rfl
theorem rcvS_yes' {c es : List Row} (h : Usable c es) : und es (nums (rd 1 c es es.length) c.length) 0 = rcvS c es := by rw [← rcvS_yes h, rd_len]
theorem rcvR_no {c es : List Row} {f : Int} (h : ¬ Usable c es) : rcvR c es f = [] := by unfold rcvR; rw [if_neg (fun q => h q.1)]
theorem rcvR_no2 {c es : List Row} {f : Int} (h : ¬ (1 ≤ f ∧ f ≤ 21)) : rcvR c es f = [] := by unfold rcvR; rw [if_neg (fun q => h q.2)]
theorem rcvR_yes {c es : List Row} {f : Int} (h : Usable c es) (h2 : 1 ≤ f ∧ f ≤ 21) : und es (nums (rd f c es es.length) c.length) 0 = rcvR c es f := by unfold rcvR; rw [if_pos ⟨h, h2⟩]; unfold rcvF; rw [rd_len]
theorem rcvR_yes' {c es : List Row} {f : Int} (h : Usable c es) (h2 : 1 ≤ f ∧ f ≤ 21) : und es (nums (rd (min (f - 1) es.length + 1) c es es.length) c.length) 0 = rcvR c es f := by rw [rd_min c es h2.1]; exact rcvR_yes h h2
theorem no_rd {c es : List Row} {f : Int} (h : Usable c es) : NotesN (rd f c es es.length).length es es.length := by rw [rd_len]; exact h.no
theorem no_us {c es : List Row} (h : Usable c es) : NotesN c.length es es.length := h.no
theorem rd_le6 {c es : List Row} {f : Int} (h : Usable c es) : (rd f c es es.length).length ≤ 6 := by rw [rd_len]; exact h.v.c6
theorem us_c6 {c es : List Row} (h : Usable c es) : c.length ≤ 6 := h.v.c6
theorem us_n20 {c es : List Row} (h : Usable c es) : es.length ≤ 20 := h.n
noncomputable def cRcvS : Ct := ⟨[], fun ds K => match ds with
  | [.view ks c, .view js es] => ks = KCell ∧ js = KNote ∧ ((c.length : Int) < big ∧ (es.length : Int) < big) ∧ K (.fr 3 KInt (rcvS c es)) []
  | _ => False⟩
noncomputable def cRcvR : Ct := ⟨[], fun ds K => match ds with
  | [.view ks c, .view js es, .int .i64 f] => ks = KCell ∧ js = KNote ∧ ((c.length : Int) < big ∧ (es.length : Int) < big) ∧ Fits .i64 f ∧ K (.fr 3 KInt (rcvR c es f)) []
  | _ => False⟩
set_option maxRecDepth 100000 in
set_option maxHeartbeats 4000000 in
theorem p_sRcvS : Proved 37 cRcvS := by
  refine proved_of [(62, cUs), (64, cRep), (63, cRecd)] ⟨p_usable, p_repeated, p_recovered, trivial⟩ [.tmp 4] Try.func37 rfl rfl rfl rfl (by kernel_rfl) ?_
  intro ds K hrel
  simp only [cRcvS] at hrel
  split at hrel
  case h_2 => exact hrel.elim
  obtain ⟨rfl, rfl, ⟨h1, h2⟩, hrel⟩ := hrel
  refine ⟨rfl, Nat.le_of_ble_eq_true rfl, fun _ _ => none, ?_⟩
  repeat' (first | with_reducible refine And.intro ?_ ?_ | (with_reducible intro h; first | (exact absurd h (by decide)) | (guard_hyp h : true = true; clear h) | (guard_hyp h : false = false; clear h) | skip) | with_reducible exact True.intro | ((with_reducible refine (id ?_ : @Eq Bool (nodupN _) true)); kernel_rfl) | ((with_reducible refine (id ?_ : @Eq Bool (apartN _ _) true)); kernel_rfl) | ((with_reducible refine (id ?_ : @Eq Bool (formL _ _) true)); kernel_rfl) | ((with_reducible refine (id ?_ : @Eq _ _ _)); exact rfl) | ((conv => whnf); first | done | with_reducible refine And.intro ?_ ?_ | (with_reducible intro h; first | (exact absurd h (by decide)) | (guard_hyp h : true = true; clear h) | (guard_hyp h : false = false; clear h) | skip) | with_reducible exact True.intro | ((with_reducible refine (id ?_ : @Eq _ _ _)); exact rfl) | refine Exists.intro _ (Exists.intro _ (And.intro hrel ?_)) | exact Or.inl rfl | exact Or.inr (And.intro rfl rfl) | (apply Exists.intro; refine And.intro ?_ ?_)) | exact Nat.le_of_ble_eq_true rfl)
  all_goals (try ((try (change _ = _)) <;> (try dsimp only at *) <;> (try simp only [decide_eq_true_eq, decide_eq_false_iff_not, Bool.not_eq_true', Bool.not_eq_false', Bool.and_eq_true, Bool.and_eq_false_iff, beq_iff_eq, bne_iff_ne, beq_eq_false_iff_ne, bne_eq_false_iff_eq, ne_eq, Decidable.not_not, bne_self_eq_false, Bool.false_eq_true, Bool.true_eq_false, Bool.not_true, Bool.not_false, not_true_eq_false, not_false_eq_true, Int.toNat_natCast, Nat.zero_add, Nat.reduceAdd, Nat.reduceMul, Nat.reduceDiv, Nat.mul_one, lenK_one, big, fill_len, marking_len, marks_len, nrms_len, List.length_set, List.length_append, List.length_map, List.length_replicate, List.length_cons, List.length_nil, Int.natCast_add, Int.natCast_one, Int.natCast_zero, Int.zero_add, rd_len, eq_self, ↓reduceIte] at *) <;> (repeat (with_reducible rename _ ∧ _ => hh; obtain ⟨_, _⟩ := hh)) <;> (first | omega | (refine fits_i64 ?_; omega) | (split <;> omega) | (with_reducible assumption) | exact no_us (by with_reducible assumption) | exact us_c6 (by with_reducible assumption) | exact us_n20 (by with_reducible assumption) | exact rcvS_no (by with_reducible assumption) | exact rcvS_yes' (by with_reducible assumption))))
set_option maxRecDepth 100000 in
set_option maxHeartbeats 4000000 in
theorem p_iRcvS : Proved 36 cRcvS := by
  refine proved_of [(58, cUs), (59, cRedoF), (61, cRecd)] ⟨p_canRedo, p_redo, p_undone, trivial⟩ [.tmp 4] Try.func36 rfl rfl rfl rfl (by kernel_rfl) ?_
  intro ds K hrel
  simp only [cRcvS] at hrel
  split at hrel
  case h_2 => exact hrel.elim
  obtain ⟨rfl, rfl, ⟨h1, h2⟩, hrel⟩ := hrel
  refine ⟨rfl, Nat.le_of_ble_eq_true rfl, fun _ _ => none, ?_⟩
  repeat' (first | with_reducible refine And.intro ?_ ?_ | (with_reducible intro h; first | (exact absurd h (by decide)) | (guard_hyp h : true = true; clear h) | (guard_hyp h : false = false; clear h) | skip) | with_reducible exact True.intro | ((with_reducible refine (id ?_ : @Eq Bool (nodupN _) true)); kernel_rfl) | ((with_reducible refine (id ?_ : @Eq Bool (apartN _ _) true)); kernel_rfl) | ((with_reducible refine (id ?_ : @Eq Bool (formL _ _) true)); kernel_rfl) | ((with_reducible refine (id ?_ : @Eq _ _ _)); exact rfl) | ((conv => whnf); first | done | with_reducible refine And.intro ?_ ?_ | (with_reducible intro h; first | (exact absurd h (by decide)) | (guard_hyp h : true = true; clear h) | (guard_hyp h : false = false; clear h) | skip) | with_reducible exact True.intro | ((with_reducible refine (id ?_ : @Eq _ _ _)); exact rfl) | refine Exists.intro _ (Exists.intro _ (And.intro hrel ?_)) | exact Or.inl rfl | exact Or.inr (And.intro rfl rfl) | (apply Exists.intro; refine And.intro ?_ ?_)) | exact Nat.le_of_ble_eq_true rfl)
  all_goals (try ((try (change _ = _)) <;> (try dsimp only at *) <;> (try simp only [decide_eq_true_eq, decide_eq_false_iff_not, Bool.not_eq_true', Bool.not_eq_false', Bool.and_eq_true, Bool.and_eq_false_iff, beq_iff_eq, bne_iff_ne, beq_eq_false_iff_ne, bne_eq_false_iff_eq, ne_eq, Decidable.not_not, bne_self_eq_false, Bool.false_eq_true, Bool.true_eq_false, Bool.not_true, Bool.not_false, not_true_eq_false, not_false_eq_true, Int.toNat_natCast, Nat.zero_add, Nat.reduceAdd, Nat.reduceMul, Nat.reduceDiv, Nat.mul_one, lenK_one, big, fill_len, marking_len, marks_len, nrms_len, List.length_set, List.length_append, List.length_map, List.length_replicate, List.length_cons, List.length_nil, Int.natCast_add, Int.natCast_one, Int.natCast_zero, Int.zero_add, rd_len, eq_self, ↓reduceIte] at *) <;> (repeat (with_reducible rename _ ∧ _ => hh; obtain ⟨_, _⟩ := hh)) <;> (first | omega | (refine fits_i64 ?_; omega) | (split <;> omega) | (with_reducible assumption) | exact no_us (by with_reducible assumption) | exact us_c6 (by with_reducible assumption) | exact us_n20 (by with_reducible assumption) | exact rcvS_no (by with_reducible assumption) | exact rcvS_yes' (by with_reducible assumption))))
set_option maxRecDepth 100000 in
set_option maxHeartbeats 4000000 in
theorem p_sRcvR : Proved 40 cRcvR := by
  refine proved_of [(62, cUs), (64, cRep), (63, cRecd), (66, cInRange)] ⟨p_usable, p_repeated, p_recovered, p_inRange, trivial⟩ [.tmp 6] Try.func40 rfl rfl rfl rfl (by kernel_rfl) ?_
  intro ds K hrel
  simp only [cRcvR] at hrel
  split at hrel
  case h_2 => exact hrel.elim
  rename_i ks c js es f
  obtain ⟨rfl, rfl, ⟨h1, h2⟩, ⟨hf1, hf2⟩, hrel⟩ := hrel
  have hf3 : (-9223372036854775808 : Int) ≤ f := hf1
  refine ⟨rfl, Nat.le_of_ble_eq_true rfl, fun _ _ => none, ?_⟩
  repeat' (first | with_reducible refine And.intro ?_ ?_ | (with_reducible intro h; first | (exact absurd h (by decide)) | (guard_hyp h : true = true; clear h) | (guard_hyp h : false = false; clear h) | skip) | with_reducible exact True.intro | ((with_reducible refine (id ?_ : @Eq Bool (nodupN _) true)); kernel_rfl) | ((with_reducible refine (id ?_ : @Eq Bool (apartN _ _) true)); kernel_rfl) | ((with_reducible refine (id ?_ : @Eq Bool (formL _ _) true)); kernel_rfl) | ((with_reducible refine (id ?_ : @Eq _ _ _)); exact rfl) | ((conv => whnf); first | done | with_reducible refine And.intro ?_ ?_ | (with_reducible intro h; first | (exact absurd h (by decide)) | (guard_hyp h : true = true; clear h) | (guard_hyp h : false = false; clear h) | skip) | with_reducible exact True.intro | ((with_reducible refine (id ?_ : @Eq _ _ _)); exact rfl) | refine Exists.intro _ (Exists.intro _ (And.intro hrel ?_)) | exact Or.inl rfl | exact Or.inr (And.intro rfl rfl) | (apply Exists.intro; refine And.intro ?_ ?_)) | exact Nat.le_of_ble_eq_true rfl)
  all_goals (try ((try (change _ = _)) <;> (try dsimp only at *) <;> (try simp only [decide_eq_true_eq, decide_eq_false_iff_not, Bool.not_eq_true', Bool.not_eq_false', Bool.and_eq_true, Bool.and_eq_false_iff, beq_iff_eq, bne_iff_ne, beq_eq_false_iff_ne, bne_eq_false_iff_eq, ne_eq, Decidable.not_not, bne_self_eq_false, Bool.false_eq_true, Bool.true_eq_false, Bool.not_true, Bool.not_false, not_true_eq_false, not_false_eq_true, Int.toNat_natCast, Nat.zero_add, Nat.reduceAdd, Nat.reduceMul, Nat.reduceDiv, Nat.mul_one, lenK_one, big, fill_len, marking_len, marks_len, nrms_len, List.length_set, List.length_append, List.length_map, List.length_replicate, List.length_cons, List.length_nil, Int.natCast_add, Int.natCast_one, Int.natCast_zero, Int.zero_add, rd_len, eq_self, ↓reduceIte] at *) <;> (repeat (with_reducible rename _ ∧ _ => hh; obtain ⟨_, _⟩ := hh)) <;> (first | omega | (refine fits_i64 ?_; omega) | (split <;> omega) | (with_reducible assumption) | exact no_us (by with_reducible assumption) | exact us_c6 (by with_reducible assumption) | exact us_n20 (by with_reducible assumption) | exact rcvR_no (by with_reducible assumption) | exact rcvR_no2 (by omega) | exact rcvR_yes (by with_reducible assumption) (by omega) | exact rcvR_yes' (by with_reducible assumption) (by omega))))
set_option maxRecDepth 100000 in
set_option maxHeartbeats 4000000 in
theorem p_iRcvR : Proved 39 cRcvR := by
  refine proved_of [(58, cUs), (59, cRedoF), (61, cRecd)] ⟨p_canRedo, p_redo, p_undone, trivial⟩ [.tmp 6] Try.func39 rfl rfl rfl rfl (by kernel_rfl) ?_
  intro ds K hrel
  simp only [cRcvR] at hrel
  split at hrel
  case h_2 => exact hrel.elim
  rename_i ks c js es f
  obtain ⟨rfl, rfl, ⟨h1, h2⟩, ⟨hf1, hf2⟩, hrel⟩ := hrel
  have hf3 : (-9223372036854775808 : Int) ≤ f := hf1
  refine ⟨rfl, Nat.le_of_ble_eq_true rfl, fun _ _ => none, ?_⟩
  repeat' (first | with_reducible refine And.intro ?_ ?_ | (with_reducible intro h; first | (exact absurd h (by decide)) | (guard_hyp h : true = true; clear h) | (guard_hyp h : false = false; clear h) | skip) | with_reducible exact True.intro | ((with_reducible refine (id ?_ : @Eq Bool (nodupN _) true)); kernel_rfl) | ((with_reducible refine (id ?_ : @Eq Bool (apartN _ _) true)); kernel_rfl) | ((with_reducible refine (id ?_ : @Eq Bool (formL _ _) true)); kernel_rfl) | ((with_reducible refine (id ?_ : @Eq _ _ _)); exact rfl) | ((conv => whnf); first | done | with_reducible refine And.intro ?_ ?_ | (with_reducible intro h; first | (exact absurd h (by decide)) | (guard_hyp h : true = true; clear h) | (guard_hyp h : false = false; clear h) | skip) | with_reducible exact True.intro | ((with_reducible refine (id ?_ : @Eq _ _ _)); exact rfl) | refine Exists.intro _ (Exists.intro _ (And.intro hrel ?_)) | exact Or.inl rfl | exact Or.inr (And.intro rfl rfl) | (apply Exists.intro; refine And.intro ?_ ?_)) | exact Nat.le_of_ble_eq_true rfl)
  all_goals (try ((try (change _ = _)) <;> (try dsimp only at *) <;> (try simp only [decide_eq_true_eq, decide_eq_false_iff_not, Bool.not_eq_true', Bool.not_eq_false', Bool.and_eq_true, Bool.and_eq_false_iff, beq_iff_eq, bne_iff_ne, beq_eq_false_iff_ne, bne_eq_false_iff_eq, ne_eq, Decidable.not_not, bne_self_eq_false, Bool.false_eq_true, Bool.true_eq_false, Bool.not_true, Bool.not_false, not_true_eq_false, not_false_eq_true, Int.toNat_natCast, Nat.zero_add, Nat.reduceAdd, Nat.reduceMul, Nat.reduceDiv, Nat.mul_one, lenK_one, big, fill_len, marking_len, marks_len, nrms_len, List.length_set, List.length_append, List.length_map, List.length_replicate, List.length_cons, List.length_nil, Int.natCast_add, Int.natCast_one, Int.natCast_zero, Int.zero_add, rd_len, eq_self, ↓reduceIte] at *) <;> (repeat (with_reducible rename _ ∧ _ => hh; obtain ⟨_, _⟩ := hh)) <;> (first | omega | (refine fits_i64 ?_; omega) | (split <;> omega) | (with_reducible assumption) | exact no_us (by with_reducible assumption) | exact us_c6 (by with_reducible assumption) | exact us_n20 (by with_reducible assumption) | exact rcvR_no (by with_reducible assumption) | exact rcvR_no2 (by omega) | exact rcvR_yes (by with_reducible assumption) (by omega) | exact rcvR_yes' (by with_reducible assumption) (by omega))))

theorem nrms_rdS {c : List Row} {n : Row} {k : Int} (h : nrms KCell c = c) : nrms KCell (rdS c n k) = rdS c n k := by
  unfold rdS
  split
  · by_cases hl : (rc n 2).int.toNat < c.length
    · have e : nrm KCell (row c (rc n 2).int.toNat) = row c (rc n 2).int.toNat := by rw [← row_nrms hl, h]
      exact nrms_set' h (by rw [← e]; rfl)
    · rw [List.set_eq_of_length_le (by omega), h]
  · exact h
theorem nrms_rd {f : Int} {c : List Row} (es : List Row) (h : nrms KCell c = c) : ∀ i : Nat, nrms KCell (rd f c es i) = rd f c es i
  | 0 => by rw [rd_zero]; exact h
  | i + 1 => by
    rw [rd_succ]
    split
    · exact nrms_rdS (nrms_rd es h i)
    · exact nrms_rd es h i
theorem nrms_redone (c es : List Row) : nrms KCell (redone (nrms KCell c) es) = redone (nrms KCell c) es := by
  unfold redone; split
  · exact nrms_rd es (nrms_nrms _ _) _
  · rfl
theorem redone_len (c es : List Row) : (redone c es).length ≤ 6 := by
  unfold redone; split
  · rename_i h; rw [rd_len]; exact h.v.c6
  · simp
theorem nrms_nums (c : List Row) (i : Nat) : nrms KInt (nums c i) = nums c i := by
  unfold nums nrms
  rw [List.map_map]; rfl
theorem nrms_und0 {all s : List Row} (h : nrms KInt s = s) : ∀ es : List Row, nrms KInt (und0 all es s) = und0 all es s
  | [] => h
  | n :: es => by
    simp only [und0]; unfold undS
    split
    · exact nrms_setI (nrms_und0 h es)
    · exact nrms_und0 h es
theorem nrms_rcvF (c es : List Row) (f : Int) : nrms KInt (rcvF c es f) = rcvF c es f := by
  unfold rcvF und; exact nrms_und0 (nrms_nums _ _) _
theorem nrms_rcvS (c es : List Row) : nrms KInt (rcvS c es) = rcvS c es := by
  unfold rcvS; split
  · exact nrms_rcvF _ _ _
  · rfl
theorem nrms_rcvR (c es : List Row) (f : Int) : nrms KInt (rcvR c es f) = rcvR c es f := by
  unfold rcvR; split
  · exact nrms_rcvF _ _ _
  · rfl
theorem rcvS_len (c es : List Row) : (rcvS c es).length ≤ 6 := by
  unfold rcvS; split
  · rename_i h; rw [rcvF_len]; exact h.v.c6
  · simp
theorem rcvR_len (c es : List Row) (f : Int) : (rcvR c es f).length ≤ 6 := by
  unfold rcvR; split
  · rename_i h; rw [rcvF_len]; exact h.1.v.c6
  · simp
end Go.Proofs.Ytkjdhfkihampjaa.V
