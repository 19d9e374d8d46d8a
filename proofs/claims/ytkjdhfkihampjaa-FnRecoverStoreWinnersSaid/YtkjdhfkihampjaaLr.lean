/-
  The laws on who has ended, as functions.
-/
import Derived.Test.YtkjdhfkihampjaaLq
set_option linter.unusedSimpArgs false
set_option linter.unusedVariables false
namespace Go.Proofs.Ytkjdhfkihampjaa.V
open Go Go.RowKit
open Classical

theorem win_zero' (s es : List Row) : s = win s es (Int.toNat 0) := (win_zero s es).symm
theorem win_stepI {s es : List Row} {i : Int} (h0 : 0 ≤ i) : win s es (i + 1).toNat = winS es (win s es i.toNat) (row es i.toNat) := by rw [show (i + 1).toNat = i.toNat + 1 by omega, win_succ]
theorem mem_losersI {s es : List Row} {i : Int} (h : VN s es) (h0 : 0 ≤ i) (hi : i < es.length) (hE : (rc (row es i.toNat) 0).bool = false) : memI (losersOf s es) (rc (row es i.toNat) 1).int ↔ NoEnd es (rc (row es i.toNat) 1).int es.length := by
  rw [← losers_yes h]; exact mem_losers h (by omega) hE
theorem win_yes {s es us : List Row} {i : Int} (h : CanC s es us) (h0 : 0 ≤ i) (hi : i < es.length) (hE : (rc (row es i.toNat) 0).bool = false) (hm : ¬ memI (losersOf s es) (rc (row es i.toNat) 1).int) : (win s es i.toNat).set (rc (row es i.toNat) 2).int.toNat (pasteR (row (win s es i.toNat) (rc (row es i.toNat) 2).int.toNat) 0 [Sc.i (rc (row es i.toNat) 4).int]) = win s es (i + 1).toNat := by
  rw [win_stepI h0]; unfold winS
  rw [if_pos ⟨hE, fun q => hm ((mem_losersI h.v h0 hi hE).2 q)⟩]; rfl
theorem win_noE {s es : List Row} {i : Int} (h0 : 0 ≤ i) (hE : (rc (row es i.toNat) 0).bool = true) : win s es i.toNat = win s es (i + 1).toNat := by
  rw [win_stepI h0]; unfold winS
  rw [if_neg (fun q => by rw [hE] at q; cases q.1)]
theorem win_noM {s es us : List Row} {i : Int} (h : CanC s es us) (h0 : 0 ≤ i) (hi : i < es.length) (hE : (rc (row es i.toNat) 0).bool = false) (hm : memI (losersOf s es) (rc (row es i.toNat) 1).int) : win s es i.toNat = win s es (i + 1).toNat := by
  rw [win_stepI h0]; unfold winS
  rw [if_neg (fun q => q.2 ((mem_losersI h.v h0 hi hE).1 hm))]
theorem win_t {s es us : List Row} {i : Int} (h : CanC s es us) (h0 : 0 ≤ i) (hi : i < es.length) : 0 ≤ (rc (row es i.toNat) 2).int ∧ (rc (row es i.toNat) 2).int < (win s es i.toNat).length := by
  rw [win_len]; exact vn_thing h.v (by omega)
theorem win_tl {s es us : List Row} {i : Int} (h : CanC s es us) (h0 : 0 ≤ i) (hi : i < es.length) : (rc (row es i.toNat) 2).int < s.length := (vn_thing h.v (by omega)).2
theorem win_fin {s es us : List Row} {i : Int} (h : CanC s es us) (hi : ¬ i < es.length) (h2 : i ≤ es.length) : nrms KInt (rcvS (cellsAt s es us) es) = nrms KInt (win s es i.toNat) := by
  rw [show i.toNat = es.length by omega]; exact rcv_win h
theorem win_big {s es : List Row} (h : s.length ≤ 7) (n : Nat) : ((win s es n).length : Int) < 9223372036854775808 := by rw [win_len]; omega
/-- The orders of regions that draw. -/
def trWin : Nat → Option (Bool × Tr)
  | 13 => some (false, .take 0 (.take 1 (.take 2 (.take 3 (.take 4 (.take 6 (.take 7 (.take 8 (.take 9 (.all (.cons 5 (.all (.cons 10 (.take 11 (.all (.cons 12 .done .nil))) .nil)) (.cons 10 (.all (.cons 5 (.take 11 (.all (.cons 12 .done .nil))) .nil)) .nil))))))))))))
  | _ => none
set_option maxRecDepth 100000 in
set_option maxHeartbeats 16000000 in
theorem p_fnRecoverStoreWinners : Proved 12 (cLaw [.c (.s KU8)]) := by
  refine proved_tr trWin [(32, cDCA), (28, cCellsAt), (27, cCellsAt), (33, cEq KCell), (17, cLos), (26, cIsIn), (36, cRcvS), (24, cEq KInt)] ⟨p_drawCellsAt, p_iCellsAt, p_sCellsAt, p_equalCellS, p_iLos, p_lIsIn, p_iRcvS, p_equalIntS, trivial⟩ [.tmp 2] Try.func12 rfl rfl rfl rfl (by kernel_rfl) ?_
  rintro ds K ⟨hds, hrel⟩
  obtain ⟨xs, rfl, h1, h2⟩ := law_code hds
  unfold maxLen at h1
  refine ⟨rfl, Nat.le_of_ble_eq_true rfl, fun k σ => match lookT σ.tm 3 with
    | .view _ s => match lookT σ.tm 4 with
      | .view _ es => match lookT σ.tm 5 with
        | .view _ us => match k with
          | 10 => some { α := Lv 10 Int, R := fun ⟨i⟩ => (0 ≤ i ∧ i ≤ es.length ∧ s.length ≤ 7 ∧ es.length ≤ 21 ∧ us.length ≤ 101) ∧ CanC s es us, μ := fun ⟨i⟩ => (es.length - i).toNat, st := fun ⟨i⟩ => upH σ [(9, .int .i64 i), (8, .own 3)] 3 (.rows 3 KInt (win s es i.toNat)) }
          | _ => none
        | _ => none
      | _ => none
    | _ => none, ?_⟩
  repeat' (first | with_reducible refine And.intro ?_ ?_ | (with_reducible intro h; first | (exact absurd h (by decide)) | (guard_hyp h : true = true; clear h) | (guard_hyp h : false = false; clear h) | (have hq := (h : Lv 10 _); clear hq; obtain ⟨_⟩ := h) | skip) | with_reducible exact True.intro | ((with_reducible refine (id ?_ : @Eq Bool (nodupN _) true)); kernel_rfl) | ((with_reducible refine (id ?_ : @Eq Bool (apartN _ _) true)); kernel_rfl) | ((with_reducible refine (id ?_ : @Eq Bool (formL _ _) true)); kernel_rfl) | ((with_reducible refine (id ?_ : @Eq _ _ _)); exact rfl) | ((conv => whnf); first | done | with_reducible refine And.intro ?_ ?_ | (with_reducible intro h; first | (exact absurd h (by decide)) | (guard_hyp h : true = true; clear h) | (guard_hyp h : false = false; clear h) | (have hq := (h : Lv 10 _); clear hq; obtain ⟨_⟩ := h) | skip) | with_reducible exact True.intro | ((with_reducible refine (id ?_ : @Eq _ _ _)); exact rfl) | refine Exists.intro (⟨?_⟩ : Lv 10 _) ?_ | refine Exists.intro _ (Exists.intro _ (And.intro hrel ?_)) | exact Or.inl rfl | exact Or.inr (And.intro rfl rfl) | (apply Exists.intro; refine And.intro ?_ ?_)) | exact Nat.le_of_ble_eq_true rfl)
  all_goals (try ((try (change _ = _)) <;> (try dsimp only at *) <;> (try simp only [decide_eq_true_eq, decide_eq_false_iff_not, Bool.not_eq_true', Bool.not_eq_false', Bool.and_eq_true, Bool.and_eq_false_iff, beq_iff_eq, bne_iff_ne, beq_eq_false_iff_ne, bne_eq_false_iff_eq, ne_eq, Decidable.not_not, bne_self_eq_false, Bool.false_eq_true, Bool.true_eq_false, Bool.not_true, Bool.not_false, not_true_eq_false, not_false_eq_true, Int.toNat_natCast, Nat.zero_add, Nat.reduceAdd, Nat.reduceMul, Nat.reduceDiv, Nat.mul_one, lenK_one, big, fill_len, marking_len, marks_len, nrms_len, List.length_set, List.length_append, List.length_map, List.length_replicate, List.length_cons, List.length_nil, Int.natCast_add, Int.natCast_one, Int.natCast_zero, decide_true, List.nil_append, win_len] at *) <;> (repeat (with_reducible rename _ ∧ _ => hh; obtain ⟨_, _⟩ := hh)) <;> (first | omega | (refine fits_i64 ?_; omega) | (split <;> omega) | exact h2 _ (by with_reducible assumption) | (with_reducible assumption) | (with_reducible exact ca_bigA (by omega)) | (with_reducible exact rd_bigA _ _) | (with_reducible exact rs_bigA _ _) | (with_reducible exact rr_bigA _ _ _) | (with_reducible exact lo_big _ _) | (with_reducible exact canC_of (by with_reducible assumption)) | (with_reducible exact win_zero' _ _) | (exact win_yes (by with_reducible assumption) (by omega) (by omega) (by with_reducible assumption) (by with_reducible assumption)) | (exact (win_yes (by with_reducible assumption) (by omega) (by omega) (by with_reducible assumption) (by with_reducible assumption)).symm) | (with_reducible exact win_noE (by omega) (by with_reducible assumption)) | (with_reducible exact win_noM (by with_reducible assumption) (by omega) (by omega) (by with_reducible assumption) (by with_reducible assumption)) | (exact (win_t (by with_reducible assumption) (by omega) (by omega)).1) | (exact (win_t (by with_reducible assumption) (by omega) (by omega)).2) | (exact win_tl (by with_reducible assumption) (by omega) (by omega)) | (with_reducible exact (win_fin (by with_reducible assumption) (by omega) (by omega))) | (exact true_eq (win_fin (by with_reducible assumption) (by omega) (by omega))) | (exact true_of (win_fin (by with_reducible assumption) (by omega) (by omega))) | (exfalso; exact (by with_reducible assumption : ¬ _) (win_fin (by with_reducible assumption) (by omega) (by omega))))))
end Go.Proofs.Ytkjdhfkihampjaa.V
