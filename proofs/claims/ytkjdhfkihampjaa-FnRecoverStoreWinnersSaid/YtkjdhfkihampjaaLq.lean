/-
  The laws on disks, as functions.
-/
import Derived.Test.YtkjdhfkihampjaaLp
import Derived.Test.YtkjdhfkihampjaaCk
set_option linter.unusedSimpArgs false
set_option linter.unusedVariables false
namespace Go.Proofs.Ytkjdhfkihampjaa.V
open Go Go.RowKit
open Classical

/-- Nothing written. -/
theorem can_zero {s es : List Row} {z : Row} (h : VN s es) (hz : z = [.i 0]) : CanC s es (List.replicate s.length z) := by
  subst hz
  refine ⟨h, by simp, ⟨fun j hj => ?_⟩⟩
  have : row (List.replicate s.length [Sc.i 0]) j = [Sc.i 0] := by
    unfold row
    rw [List.getD_eq_getElem?_getD, List.getElem?_replicate, if_pos (by simp at hj; omega)]; rfl
  rw [this]
  show 0 ≤ (0 : Int) ∧ (0 : Int) ≤ _
  omega
theorem row_zero {s es : List Row} {z : Row} {i : Int} (h : VN s es) (hz : z = [.i 0]) (h0 : 0 ≤ i) (hi : i < s.length) : row (cellsAt s es (List.replicate s.length z)) i.toNat = [.i (rc (row s i.toNat) 0).int, .i 0] := by
  rw [cellsAt_is (can_zero h hz), row_cellsA _ _ _ (by omega)]
  subst hz
  have : row (List.replicate s.length [Sc.i 0]) i.toNat = [Sc.i 0] := by
    unfold row
    rw [List.getD_eq_getElem?_getD, List.getElem?_replicate, if_pos (by omega)]; rfl
  rw [this]
  show [Sc.i (cellN s es _ 0), Sc.i (cellL s es _ 0)] = _
  rw [← cN_zero, ← cL_zero, toNat_nat]
theorem zero_len {s es : List Row} {z : Row} (h : VN s es) (hz : z = [.i 0]) : (cellsAt s es (List.replicate s.length z)).length = s.length := by
  rw [cellsAt_is (can_zero h hz), cellsA_len]
theorem fz_bad {s es us : List Row} {z : Row} {i : Int} (h : CanC s es us) (h1 : i < s.length) (h2 : ((cellsAt s es (List.replicate s.length z)).length : Int) ≤ i) (hz : z = [.i 0]) : False := by
  rw [zero_len h.v hz] at h2; omega
theorem fz_lt {s es us : List Row} {z : Row} {i : Int} (h : CanC s es us) (h1 : i < s.length) (hz : z = [.i 0]) : i < (cellsAt s es (List.replicate s.length z)).length := by rw [zero_len h.v hz]; exact h1
theorem fz_ne {s es us : List Row} {z : Row} {i : Int} (h : CanC s es us) (h2 : eqRow [.int .i64, .int .i64] [Sc.i (rc (row (cellsAt s es (List.replicate s.length z)) i.toNat) 0).int, Sc.i (rc (row (cellsAt s es (List.replicate s.length z)) i.toNat) 1).int] [Sc.i (rc (row s i.toNat) 0).int, Sc.i 0] 0 = false) (h0 : 0 ≤ i) (h1 : i < s.length) (hz : z = [.i 0]) : False := by
  rw [row_zero h.v hz h0 h1] at h2
  simp [rc, eqRow] at h2
/-- Written to the end. -/
theorem fe_row {n j : Nat} {v : Int} (h : j < n) : row (List.replicate n [Sc.i v]) j = [Sc.i v] := by
  unfold row
  rw [List.getD_eq_getElem?_getD, List.getElem?_replicate, if_pos h]; rfl
theorem fe_zero (v : Int) : [] = List.replicate (Int.toNat 0) [Sc.i v] := rfl
theorem fe_step {i v : Int} (h0 : 0 ≤ i) : List.replicate i.toNat [Sc.i v] ++ [[Sc.i v]] = List.replicate (i + 1).toNat [Sc.i v] := by
  rw [show (i + 1).toNat = i.toNat + 1 by omega, List.replicate_succ']
theorem fe_end {s es us : List Row} {i : Int} (h : CanC s es us) (hi : ¬ i < s.length) (h2 : i ≤ s.length) : CanC s es (List.replicate i.toNat [Sc.i es.length]) ∧ cellsAt s es (List.replicate i.toNat [Sc.i es.length]) = allC s es :=
  cells_end h.v (by simp; omega) (fun t ht => by rw [fe_row (by omega)]; rfl)
theorem fc_1 {s es us : List Row} {i : Int} (h : CanC s es us) (hi : ¬ i < s.length) (h2 : i ≤ s.length) : nrms KCell (redone (cellsAt s es (List.replicate i.toNat [Sc.i es.length])) es) = nrms KCell (cellsAt s es (List.replicate i.toNat [Sc.i es.length])) := by
  rw [redone_at (fe_end h hi h2).1, (fe_end h hi h2).2]
theorem fc_2 {s es us : List Row} {i : Int} (h : CanC s es us) (hi : ¬ i < s.length) (h2 : i ≤ s.length) : nrms KCell (redone (cellsAt s es us) es) = nrms KCell (cellsAt s es (List.replicate i.toNat [Sc.i es.length])) := by
  rw [redone_at h, (fe_end h hi h2).2]
theorem fr_1 {s es us : List Row} {z : Row} (h : CanC s es us) (hz : z = [.i 0]) : nrms KInt (rcvS (cellsAt s es us) es) = nrms KInt (rcvS (cellsAt s es (List.replicate s.length z)) es) := by
  rw [rcvS_at h, rcvS_at (can_zero h.v hz)]
theorem ca_bigA {s es us : List Row} (h : s.length ≤ 7) : ((cellsAt s es us).length : Int) < 9223372036854775808 := by have := cellsAt_len s es us; omega
theorem rd_bigA (c es : List Row) : ((redone c es).length : Int) < 9223372036854775808 := by have := redone_len c es; omega
theorem rs_bigA (c es : List Row) : ((rcvS c es).length : Int) < 9223372036854775808 := by have := rcvS_len c es; omega
theorem rr_bigA (c es : List Row) (f : Int) : ((rcvR c es f).length : Int) < 9223372036854775808 := by have := rcvR_len c es f; omega
theorem true_of {p : Prop} [Decidable p] (h : p) : decide p = true := by simpa using h
theorem ck_act {s es us a b d : List Row} (h : CanC s es us) (hc : ChkZ (cellsAt s es us) es a b d) : nrms KInt d = nrms KInt (losersOf s es) := by
  rw [(hc.u (us_at h)).2, losers_yes h.v]
theorem ck_big {s es us a b d : List Row} (h : CanC s es us) (hc : ChkZ (cellsAt s es us) es a b d) : (d.length : Int) < 9223372036854775808 := by
  rw [(hc.u (us_at h)).2]; have := opn_len es 8; omega
theorem again_us {c es : List Row} (h : ¬ ((rcvS c es).length : Int) = 0) : Usable c es := by
  apply Classical.byContradiction
  intro hn
  rw [rcvS_no hn] at h; exact h rfl
theorem again_1 {c es : List Row} (h : ¬ ((rcvS c es).length : Int) = 0) : nrms KInt (rcvS (redone c es) es) = nrms KInt (rcvS c es) := by
  have hu := again_us h
  rw [← rcvS_yes (us_redone hu), ← rcvS_yes hu, redone_is hu, rd_twice hu]
theorem from_1 (c es : List Row) : nrms KInt (rcvR c es 1) = nrms KInt (rcvS c es) := by
  unfold rcvR rcvS
  by_cases h : Usable c es
  · rw [if_pos ⟨h, by omega, by omega⟩, if_pos h]
  · rw [if_neg (fun q => h q.1), if_neg h]
theorem from_len {c es : List Row} {f : Int} (h : ¬ ((rcvR c es f).length : Int) = 0) : ((rcvR c es f).length : Int) = c.length := by
  unfold rcvR at h ⊢
  split
  · rw [rcvF_len]
  · rename_i hn; rw [if_neg hn] at h; exact absurd rfl h
set_option maxRecDepth 100000 in
set_option maxHeartbeats 16000000 in
theorem p_fnCellsAt : Proved 6 (cLaw [.c (.s KU8)]) := by
  refine proved_of [(32, cDCA), (28, cCellsAt), (27, cCellsAt), (33, cEq KCell), (34, cRedoC)] ⟨p_drawCellsAt, p_iCellsAt, p_sCellsAt, p_equalCellS, p_iRedoC, trivial⟩ [.tmp 2] Try.func6 rfl rfl rfl rfl (by kernel_rfl) ?_
  rintro ds K ⟨hds, hrel⟩
  obtain ⟨xs, rfl, h1, h2⟩ := law_code hds
  unfold maxLen at h1
  refine ⟨rfl, Nat.le_of_ble_eq_true rfl, fun k σ => match lookT σ.tm 3 with
    | .view _ s => match lookT σ.tm 4 with
      | .view _ es => match lookT σ.tm 5 with
        | .view _ us => match k with
          | 10 => some { α := Lv 10 Int, R := fun ⟨i⟩ => (0 ≤ i ∧ i ≤ s.length ∧ s.length ≤ 7 ∧ es.length ≤ 21 ∧ us.length ≤ 101) ∧ CanC s es us, μ := fun ⟨i⟩ => (s.length - i).toNat, st := fun ⟨i⟩ => upH σ [(9, .int .i64 i), (8, .own 4)] 4 (.rows 3 KInt (List.replicate i.toNat [.i es.length])) }
          | _ => none
        | _ => none
      | _ => none
    | _ => none, ?_⟩
  repeat' (first | with_reducible refine And.intro ?_ ?_ | (with_reducible intro h; first | (exact absurd h (by decide)) | (guard_hyp h : true = true; clear h) | (guard_hyp h : false = false; clear h) | (have hq := (h : Lv 10 _); clear hq; obtain ⟨_⟩ := h) | skip) | with_reducible exact True.intro | ((with_reducible refine (id ?_ : @Eq Bool (nodupN _) true)); kernel_rfl) | ((with_reducible refine (id ?_ : @Eq Bool (apartN _ _) true)); kernel_rfl) | ((with_reducible refine (id ?_ : @Eq Bool (formL _ _) true)); kernel_rfl) | ((with_reducible refine (id ?_ : @Eq _ _ _)); exact rfl) | ((conv => whnf); first | done | with_reducible refine And.intro ?_ ?_ | (with_reducible intro h; first | (exact absurd h (by decide)) | (guard_hyp h : true = true; clear h) | (guard_hyp h : false = false; clear h) | (have hq := (h : Lv 10 _); clear hq; obtain ⟨_⟩ := h) | skip) | with_reducible exact True.intro | ((with_reducible refine (id ?_ : @Eq _ _ _)); exact rfl) | refine Exists.intro (⟨?_⟩ : Lv 10 _) ?_ | refine Exists.intro _ (Exists.intro _ (And.intro hrel ?_)) | exact Or.inl rfl | exact Or.inr (And.intro rfl rfl) | (apply Exists.intro; refine And.intro ?_ ?_)) | exact Nat.le_of_ble_eq_true rfl)
  all_goals (try ((try (change _ = _)) <;> (try dsimp only at *) <;> (try simp only [decide_eq_true_eq, decide_eq_false_iff_not, Bool.not_eq_true', Bool.not_eq_false', Bool.and_eq_true, Bool.and_eq_false_iff, beq_iff_eq, bne_iff_ne, beq_eq_false_iff_ne, bne_eq_false_iff_eq, ne_eq, Decidable.not_not, bne_self_eq_false, Bool.false_eq_true, Bool.true_eq_false, Bool.not_true, Bool.not_false, not_true_eq_false, not_false_eq_true, Int.toNat_natCast, Nat.zero_add, Nat.reduceAdd, Nat.reduceMul, Nat.reduceDiv, Nat.mul_one, lenK_one, big, fill_len, marking_len, marks_len, nrms_len, List.length_set, List.length_append, List.length_map, List.length_replicate, List.length_cons, List.length_nil, Int.natCast_add, Int.natCast_one, Int.natCast_zero, decide_true] at *) <;> (repeat (with_reducible rename _ ∧ _ => hh; obtain ⟨_, _⟩ := hh)) <;> (first | omega | (refine fits_i64 ?_; omega) | (split <;> omega) | exact h2 _ (by with_reducible assumption) | (with_reducible assumption) | (with_reducible exact ca_bigA (by omega)) | (with_reducible exact rd_bigA _ _) | (with_reducible exact rs_bigA _ _) | (with_reducible exact rr_bigA _ _ _) | (with_reducible exact lo_big _ _) | (with_reducible exact canC_of (by with_reducible assumption)) | (with_reducible exact fe_zero _) | (with_reducible exact fe_step (by omega)) | (with_reducible exact (fe_step (by omega)).symm) | (exfalso; exact fz_bad (by with_reducible assumption) (by with_reducible assumption) (by with_reducible assumption) (by rfl)) | (exact fz_lt (by with_reducible assumption) (by with_reducible assumption) (by rfl)) | (exfalso; exact fz_ne (by with_reducible assumption) (by with_reducible assumption) (by omega) (by omega) (by rfl)) | (with_reducible exact (fc_1 (by with_reducible assumption) (by omega) (by omega))) | (exact true_eq (fc_1 (by with_reducible assumption) (by omega) (by omega))) | (exact true_of (fc_1 (by with_reducible assumption) (by omega) (by omega))) | (exfalso; exact (by with_reducible assumption : ¬ _) (fc_1 (by with_reducible assumption) (by omega) (by omega))) | (with_reducible exact (fc_2 (by with_reducible assumption) (by omega) (by omega))) | (exact true_eq (fc_2 (by with_reducible assumption) (by omega) (by omega))) | (exact true_of (fc_2 (by with_reducible assumption) (by omega) (by omega))) | (exfalso; exact (by with_reducible assumption : ¬ _) (fc_2 (by with_reducible assumption) (by omega) (by omega))))))
set_option maxRecDepth 100000 in
set_option maxHeartbeats 16000000 in
theorem p_fnRecoverStore : Proved 9 (cLaw [.c (.s KU8)]) := by
  refine proved_of [(32, cDCA), (28, cCellsAt), (27, cCellsAt), (33, cEq KCell), (36, cRcvS), (24, cEq KInt)] ⟨p_drawCellsAt, p_iCellsAt, p_sCellsAt, p_equalCellS, p_iRcvS, p_equalIntS, trivial⟩ [.tmp 2] Try.func9 rfl rfl rfl rfl (by kernel_rfl) ?_
  rintro ds K ⟨hds, hrel⟩
  obtain ⟨xs, rfl, h1, h2⟩ := law_code hds
  unfold maxLen at h1
  refine ⟨rfl, Nat.le_of_ble_eq_true rfl, fun _ _ => none, ?_⟩
  repeat' (first | with_reducible refine And.intro ?_ ?_ | (with_reducible intro h; first | (exact absurd h (by decide)) | (guard_hyp h : true = true; clear h) | (guard_hyp h : false = false; clear h) | skip) | with_reducible exact True.intro | ((with_reducible refine (id ?_ : @Eq Bool (nodupN _) true)); kernel_rfl) | ((with_reducible refine (id ?_ : @Eq Bool (apartN _ _) true)); kernel_rfl) | ((with_reducible refine (id ?_ : @Eq Bool (formL _ _) true)); kernel_rfl) | ((with_reducible refine (id ?_ : @Eq _ _ _)); exact rfl) | ((conv => whnf); first | done | with_reducible refine And.intro ?_ ?_ | (with_reducible intro h; first | (exact absurd h (by decide)) | (guard_hyp h : true = true; clear h) | (guard_hyp h : false = false; clear h) | skip) | with_reducible exact True.intro | ((with_reducible refine (id ?_ : @Eq _ _ _)); exact rfl) | refine Exists.intro _ (Exists.intro _ (And.intro hrel ?_)) | exact Or.inl rfl | exact Or.inr (And.intro rfl rfl) | (apply Exists.intro; refine And.intro ?_ ?_)) | exact Nat.le_of_ble_eq_true rfl)
  all_goals (try ((try (change _ = _)) <;> (try dsimp only at *) <;> (try simp only [decide_eq_true_eq, decide_eq_false_iff_not, Bool.not_eq_true', Bool.not_eq_false', Bool.and_eq_true, Bool.and_eq_false_iff, beq_iff_eq, bne_iff_ne, beq_eq_false_iff_ne, bne_eq_false_iff_eq, ne_eq, Decidable.not_not, bne_self_eq_false, Bool.false_eq_true, Bool.true_eq_false, Bool.not_true, Bool.not_false, not_true_eq_false, not_false_eq_true, Int.toNat_natCast, Nat.zero_add, Nat.reduceAdd, Nat.reduceMul, Nat.reduceDiv, Nat.mul_one, lenK_one, big, fill_len, marking_len, marks_len, nrms_len, List.length_set, List.length_append, List.length_map, List.length_replicate, List.length_cons, List.length_nil, Int.natCast_add, Int.natCast_one, Int.natCast_zero, decide_true] at *) <;> (repeat (with_reducible rename _ ∧ _ => hh; obtain ⟨_, _⟩ := hh)) <;> (first | omega | (refine fits_i64 ?_; omega) | (split <;> omega) | exact h2 _ (by with_reducible assumption) | (with_reducible assumption) | (with_reducible exact ca_bigA (by omega)) | (with_reducible exact rd_bigA _ _) | (with_reducible exact rs_bigA _ _) | (with_reducible exact rr_bigA _ _ _) | (with_reducible exact lo_big _ _) | (with_reducible exact canC_of (by with_reducible assumption)) | (with_reducible exact (fr_1 (canC_of (by with_reducible assumption)) rfl)) | (exact true_eq (fr_1 (canC_of (by with_reducible assumption)) rfl)) | (exact true_of (fr_1 (canC_of (by with_reducible assumption)) rfl)) | (exfalso; exact (by with_reducible assumption : ¬ _) (fr_1 (canC_of (by with_reducible assumption)) rfl)))))
set_option maxRecDepth 100000 in
set_option maxHeartbeats 16000000 in
theorem p_fnCheckOfActive : Proved 10 (cLaw [.c (.s KU8)]) := by
  refine proved_of [(32, cDCA), (28, cCellsAt), (27, cCellsAt), (33, cEq KCell), (41, cICk), (17, cLos), (24, cEq KInt)] ⟨p_drawCellsAt, p_iCellsAt, p_sCellsAt, p_equalCellS, p_iCheckOf, p_iLos, p_equalIntS, trivial⟩ [.tmp 2] Try.func10 rfl rfl rfl rfl (by kernel_rfl) ?_
  rintro ds K ⟨hds, hrel⟩
  obtain ⟨xs, rfl, h1, h2⟩ := law_code hds
  unfold maxLen at h1
  refine ⟨rfl, Nat.le_of_ble_eq_true rfl, fun _ _ => none, ?_⟩
  repeat' (first | with_reducible refine And.intro ?_ ?_ | (with_reducible intro h; first | (exact absurd h (by decide)) | (guard_hyp h : true = true; clear h) | (guard_hyp h : false = false; clear h) | skip) | with_reducible exact True.intro | ((with_reducible refine (id ?_ : @Eq Bool (nodupN _) true)); kernel_rfl) | ((with_reducible refine (id ?_ : @Eq Bool (apartN _ _) true)); kernel_rfl) | ((with_reducible refine (id ?_ : @Eq Bool (formL _ _) true)); kernel_rfl) | ((with_reducible refine (id ?_ : @Eq _ _ _)); exact rfl) | ((conv => whnf); first | done | with_reducible refine And.intro ?_ ?_ | (with_reducible intro h; first | (exact absurd h (by decide)) | (guard_hyp h : true = true; clear h) | (guard_hyp h : false = false; clear h) | skip) | with_reducible exact True.intro | ((with_reducible refine (id ?_ : @Eq _ _ _)); exact rfl) | refine Exists.intro _ (Exists.intro _ (And.intro hrel ?_)) | exact Or.inl rfl | exact Or.inr (And.intro rfl rfl) | (apply Exists.intro; refine And.intro ?_ ?_)) | exact Nat.le_of_ble_eq_true rfl)
  all_goals (try ((try (change _ = _)) <;> (try dsimp only at *) <;> (try simp only [decide_eq_true_eq, decide_eq_false_iff_not, Bool.not_eq_true', Bool.not_eq_false', Bool.and_eq_true, Bool.and_eq_false_iff, beq_iff_eq, bne_iff_ne, beq_eq_false_iff_ne, bne_eq_false_iff_eq, ne_eq, Decidable.not_not, bne_self_eq_false, Bool.false_eq_true, Bool.true_eq_false, Bool.not_true, Bool.not_false, not_true_eq_false, not_false_eq_true, Int.toNat_natCast, Nat.zero_add, Nat.reduceAdd, Nat.reduceMul, Nat.reduceDiv, Nat.mul_one, lenK_one, big, fill_len, marking_len, marks_len, nrms_len, List.length_set, List.length_append, List.length_map, List.length_replicate, List.length_cons, List.length_nil, Int.natCast_add, Int.natCast_one, Int.natCast_zero, decide_true] at *) <;> (repeat (with_reducible rename _ ∧ _ => hh; obtain ⟨_, _⟩ := hh)) <;> (first | omega | (refine fits_i64 ?_; omega) | (split <;> omega) | exact h2 _ (by with_reducible assumption) | (with_reducible assumption) | (with_reducible exact ca_bigA (by omega)) | (with_reducible exact rd_bigA _ _) | (with_reducible exact rs_bigA _ _) | (with_reducible exact rr_bigA _ _ _) | (with_reducible exact lo_big _ _) | (with_reducible exact canC_of (by with_reducible assumption)) | (with_reducible exact ck_big (canC_of (by with_reducible assumption)) (by with_reducible assumption)) | (with_reducible exact (ck_act (canC_of (by with_reducible assumption)) (by with_reducible assumption))) | (exact true_eq (ck_act (canC_of (by with_reducible assumption)) (by with_reducible assumption))) | (exact true_of (ck_act (canC_of (by with_reducible assumption)) (by with_reducible assumption))) | (exfalso; exact (by with_reducible assumption : ¬ _) (ck_act (canC_of (by with_reducible assumption)) (by with_reducible assumption))))))
set_option maxRecDepth 100000 in
set_option maxHeartbeats 16000000 in
theorem p_fnRecoverStoreAgain : Proved 7 (cLaw [.c (.s KU8)]) := by
  refine proved_of [(35, cDRC), (36, cRcvS), (37, cRcvS), (24, cEq KInt), (34, cRedoC)] ⟨p_drawRecoverStore', p_iRcvS, p_sRcvS, p_equalIntS, p_iRedoC, trivial⟩ [.tmp 2] Try.func7 rfl rfl rfl rfl (by kernel_rfl) ?_
  rintro ds K ⟨hds, hrel⟩
  obtain ⟨xs, rfl, h1, h2⟩ := law_code hds
  unfold maxLen at h1
  refine ⟨rfl, Nat.le_of_ble_eq_true rfl, fun _ _ => none, ?_⟩
  repeat' (first | with_reducible refine And.intro ?_ ?_ | (with_reducible intro h; first | (exact absurd h (by decide)) | (guard_hyp h : true = true; clear h) | (guard_hyp h : false = false; clear h) | skip) | with_reducible exact True.intro | ((with_reducible refine (id ?_ : @Eq Bool (nodupN _) true)); kernel_rfl) | ((with_reducible refine (id ?_ : @Eq Bool (apartN _ _) true)); kernel_rfl) | ((with_reducible refine (id ?_ : @Eq Bool (formL _ _) true)); kernel_rfl) | ((with_reducible refine (id ?_ : @Eq _ _ _)); exact rfl) | ((conv => whnf); first | done | with_reducible refine And.intro ?_ ?_ | (with_reducible intro h; first | (exact absurd h (by decide)) | (guard_hyp h : true = true; clear h) | (guard_hyp h : false = false; clear h) | skip) | with_reducible exact True.intro | ((with_reducible refine (id ?_ : @Eq _ _ _)); exact rfl) | refine Exists.intro _ (Exists.intro _ (And.intro hrel ?_)) | exact Or.inl rfl | exact Or.inr (And.intro rfl rfl) | (apply Exists.intro; refine And.intro ?_ ?_)) | exact Nat.le_of_ble_eq_true rfl)
  all_goals (try ((try (change _ = _)) <;> (try dsimp only at *) <;> (try simp only [decide_eq_true_eq, decide_eq_false_iff_not, Bool.not_eq_true', Bool.not_eq_false', Bool.and_eq_true, Bool.and_eq_false_iff, beq_iff_eq, bne_iff_ne, beq_eq_false_iff_ne, bne_eq_false_iff_eq, ne_eq, Decidable.not_not, bne_self_eq_false, Bool.false_eq_true, Bool.true_eq_false, Bool.not_true, Bool.not_false, not_true_eq_false, not_false_eq_true, Int.toNat_natCast, Nat.zero_add, Nat.reduceAdd, Nat.reduceMul, Nat.reduceDiv, Nat.mul_one, lenK_one, big, fill_len, marking_len, marks_len, nrms_len, List.length_set, List.length_append, List.length_map, List.length_replicate, List.length_cons, List.length_nil, Int.natCast_add, Int.natCast_one, Int.natCast_zero, decide_true] at *) <;> (repeat (with_reducible rename _ ∧ _ => hh; obtain ⟨_, _⟩ := hh)) <;> (first | omega | (refine fits_i64 ?_; omega) | (split <;> omega) | exact h2 _ (by with_reducible assumption) | (with_reducible assumption) | (with_reducible exact ca_bigA (by omega)) | (with_reducible exact rd_bigA _ _) | (with_reducible exact rs_bigA _ _) | (with_reducible exact rr_bigA _ _ _) | (with_reducible exact lo_big _ _) | (with_reducible exact canC_of (by with_reducible assumption)) | (with_reducible exact (again_1 (by with_reducible assumption))) | (exact true_eq (again_1 (by with_reducible assumption))) | (exact true_of (again_1 (by with_reducible assumption))) | (exfalso; exact (by with_reducible assumption : ¬ _) (again_1 (by with_reducible assumption))))))
set_option maxRecDepth 100000 in
set_option maxHeartbeats 16000000 in
theorem p_fnRecoverFrom : Proved 8 (cLaw [.c (.s KU8)]) := by
  refine proved_of [(38, cDRF), (39, cRcvR), (40, cRcvR), (24, cEq KInt), (36, cRcvS)] ⟨p_drawRecoverFrom, p_iRcvR, p_sRcvR, p_equalIntS, p_iRcvS, trivial⟩ [.tmp 2] Try.func8 rfl rfl rfl rfl (by kernel_rfl) ?_
  rintro ds K ⟨hds, hrel⟩
  obtain ⟨xs, rfl, h1, h2⟩ := law_code hds
  unfold maxLen at h1
  refine ⟨rfl, Nat.le_of_ble_eq_true rfl, fun _ _ => none, ?_⟩
  repeat' (first | with_reducible refine And.intro ?_ ?_ | (with_reducible intro h; first | (exact absurd h (by decide)) | (guard_hyp h : true = true; clear h) | (guard_hyp h : false = false; clear h) | skip) | with_reducible exact True.intro | ((with_reducible refine (id ?_ : @Eq Bool (nodupN _) true)); kernel_rfl) | ((with_reducible refine (id ?_ : @Eq Bool (apartN _ _) true)); kernel_rfl) | ((with_reducible refine (id ?_ : @Eq Bool (formL _ _) true)); kernel_rfl) | ((with_reducible refine (id ?_ : @Eq _ _ _)); exact rfl) | ((conv => whnf); first | done | with_reducible refine And.intro ?_ ?_ | (with_reducible intro h; first | (exact absurd h (by decide)) | (guard_hyp h : true = true; clear h) | (guard_hyp h : false = false; clear h) | skip) | with_reducible exact True.intro | ((with_reducible refine (id ?_ : @Eq _ _ _)); exact rfl) | refine Exists.intro _ (Exists.intro _ (And.intro hrel ?_)) | exact Or.inl rfl | exact Or.inr (And.intro rfl rfl) | (apply Exists.intro; refine And.intro ?_ ?_)) | exact Nat.le_of_ble_eq_true rfl)
  all_goals (try ((try (change _ = _)) <;> (try dsimp only at *) <;> (try simp only [decide_eq_true_eq, decide_eq_false_iff_not, Bool.not_eq_true', Bool.not_eq_false', Bool.and_eq_true, Bool.and_eq_false_iff, beq_iff_eq, bne_iff_ne, beq_eq_false_iff_ne, bne_eq_false_iff_eq, ne_eq, Decidable.not_not, bne_self_eq_false, Bool.false_eq_true, Bool.true_eq_false, Bool.not_true, Bool.not_false, not_true_eq_false, not_false_eq_true, Int.toNat_natCast, Nat.zero_add, Nat.reduceAdd, Nat.reduceMul, Nat.reduceDiv, Nat.mul_one, lenK_one, big, fill_len, marking_len, marks_len, nrms_len, List.length_set, List.length_append, List.length_map, List.length_replicate, List.length_cons, List.length_nil, Int.natCast_add, Int.natCast_one, Int.natCast_zero, decide_true] at *) <;> (repeat (with_reducible rename _ ∧ _ => hh; obtain ⟨_, _⟩ := hh)) <;> (first | omega | (refine fits_i64 ?_; omega) | (split <;> omega) | exact h2 _ (by with_reducible assumption) | (with_reducible assumption) | (with_reducible exact ca_bigA (by omega)) | (with_reducible exact rd_bigA _ _) | (with_reducible exact rs_bigA _ _) | (with_reducible exact rr_bigA _ _ _) | (with_reducible exact lo_big _ _) | (with_reducible exact canC_of (by with_reducible assumption)) | (with_reducible exact (from_1 _ _)) | (exact true_eq (from_1 _ _)) | (exact true_of (from_1 _ _)) | (exfalso; exact (by with_reducible assumption : ¬ _) (from_1 _ _)) | (with_reducible exact from_len (by with_reducible assumption)) | (have q := from_len (by with_reducible assumption); simp only [q]; simp; done))))
end Go.Proofs.Ytkjdhfkihampjaa.V
