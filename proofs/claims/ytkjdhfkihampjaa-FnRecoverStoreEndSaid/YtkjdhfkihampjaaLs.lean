/-
  The law that an End makes the difference, as a function.
-/
import Derived.Test.YtkjdhfkihampjaaLr
set_option linter.unusedSimpArgs false
set_option linter.unusedVariables false
namespace Go.Proofs.Ytkjdhfkihampjaa.V
open Go Go.RowKit
open Classical

/-- What is left behind an End for everybody. -/
theorem re_x {s es us : List Row} {i : Int} (h : CanC s es us) (hi : ¬ i < (losersOf s es).length) : (((mend es (losersOf s es) i.toNat).length : Int) ≤ 20 ∧ rcvS (cellsAt s es us) (mend es (losersOf s es) i.toNat) = nums (redone (cellsAt s es us) es) (redone (cellsAt s es us) es).length) ∨ (20 < ((mend es (losersOf s es) i.toNat).length : Int) ∧ rcvS (cellsAt s es us) (mend es (losersOf s es) i.toNat) = []) := by
  rw [mend_all hi, ← losers_yes h.v]
  by_cases hl : (es ++ endsOf (opn es 8)).length ≤ 20
  · exact .inl ⟨by omega, rcv_more h hl⟩
  · exact .inr ⟨by omega, rcv_long hl⟩
/-- The whole journal and its recovery, told once. -/
structure ReX (s es us x : List Row) (n : Int) : Prop where
  c : CanC s es us
  l : (x.length : Int) ≤ (redone (cellsAt s es us) es).length
  v : ∀ j : Nat, j < x.length → (rc (row x j) 0).int = (rc (row (redone (cellsAt s es us) es) j) 0).int
  f : n ≤ 20 → (x.length : Int) = (cellsAt s es us).length
theorem re_is {s es us : List Row} {i : Int} (h : CanC s es us) (hi : ¬ i < (losersOf s es).length) : ReX s es us (rcvS (cellsAt s es us) (mend es (losersOf s es) i.toNat)) ((mend es (losersOf s es) i.toNat).length : Int) := by
  rcases re_x h hi with ⟨h1, h2⟩ | ⟨h1, h2⟩
  · rw [h2]
    refine ⟨h, by rw [nums_lenA]; exact Int.le_refl _, fun j hj => ?_, fun _ => by rw [nums_lenA, redone_lenU (us_at h)]⟩
    rw [nums_lenA] at hj
    exact numT_nums hj
  · rw [h2]
    exact ⟨h, by simp, fun j hj => by simp at hj, fun q => by omega⟩
theorem re_bad {s es us x : List Row} {n j : Int} (h : ReX s es us x n) (h1 : j < x.length) (h2 : ((redone (cellsAt s es us) es).length : Int) ≤ j) : False := by have := h.l; omega
theorem re_lt {s es us x : List Row} {n j : Int} (h : ReX s es us x n) (h1 : j < x.length) : j < (redone (cellsAt s es us) es).length := by have := h.l; omega
theorem re_ne {s es us x : List Row} {n j : Int} (h : ReX s es us x n) (h2 : ¬ (rc (row x j.toNat) 0).int = (rc (row (redone (cellsAt s es us) es) j.toNat) 0).int) (h0 : 0 ≤ j) (h1 : j < x.length) : False := h2 (h.v j.toNat (by omega))
theorem re_fin {s es us x : List Row} {n : Int} (h : ReX s es us x n) (h1 : ¬ 20 < n) : (x.length : Int) = (cellsAt s es us).length := h.f (by omega)
theorem me_big {es l : List Row} {i : Nat} (h : es.length ≤ 21) (hl : l.length ≤ 8) : ((mend es l i).length : Int) < 9223372036854775808 := by have := mend_len es l i; omega
theorem rs_le (c es : List Row) : ((rcvS c es).length : Int) ≤ 6 := by have := rcvS_len c es; omega
set_option maxRecDepth 100000 in
set_option maxHeartbeats 16000000 in
theorem p_fnRecoverStoreEnd : Proved 11 (cLaw [.c (.s KU8)]) := by
  refine proved_of [(32, cDCA), (28, cCellsAt), (27, cCellsAt), (33, cEq KCell), (17, cLos), (36, cRcvS), (34, cRedoC)] ⟨p_drawCellsAt, p_iCellsAt, p_sCellsAt, p_equalCellS, p_iLos, p_iRcvS, p_iRedoC, trivial⟩ [.tmp 2] Try.func11 rfl rfl rfl rfl (by kernel_rfl) ?_
  rintro ds K ⟨hds, hrel⟩
  obtain ⟨xs, rfl, h1, h2⟩ := law_code hds
  unfold maxLen at h1
  refine ⟨rfl, Nat.le_of_ble_eq_true rfl, fun k σ => match lookT σ.tm 3 with
    | .view _ s => match lookT σ.tm 4 with
      | .view _ es => match lookT σ.tm 5 with
        | .view _ us => match k with
          | 10 => some { α := Lv 10 Int, R := fun ⟨i⟩ => ((losersOf s es).length ≤ 8 ∧ 0 ≤ i ∧ i ≤ (losersOf s es).length ∧ s.length ≤ 7 ∧ es.length ≤ 21 ∧ us.length ≤ 101) ∧ CanC s es us, μ := fun ⟨i⟩ => ((losersOf s es).length - i).toNat, st := fun ⟨i⟩ => upH σ [(9, .int .i64 i), (8, .own 3)] 3 (.rows 39 KNote (mend es (losersOf s es) i.toNat)) }
          | 16 => match lookT σ.tm 11 with
            | .own k => match lookH σ.hp k with
              | some (.rows _ _ x) => match lookH σ.hp 3 with
                | some (.rows _ _ m) => some { α := Lv 16 Int, R := fun ⟨j⟩ => (0 ≤ j ∧ j ≤ x.length ∧ (x.length : Int) ≤ 6 ∧ s.length ≤ 7 ∧ es.length ≤ 21) ∧ ReX s es us x m.length, μ := fun ⟨j⟩ => (x.length - j).toNat, st := fun ⟨j⟩ => up σ [(12, .int .i64 j)] }
                | _ => none
              | _ => none
            | _ => none
          | _ => none
        | _ => none
      | _ => none
    | _ => none, ?_⟩
  repeat' (first | with_reducible refine And.intro ?_ ?_ | (with_reducible intro h; first | (exact absurd h (by decide)) | (guard_hyp h : true = true; clear h) | (guard_hyp h : false = false; clear h) | (have hq := (h : Lv 10 _); clear hq; obtain ⟨_⟩ := h) | (have hq := (h : Lv 16 _); clear hq; obtain ⟨_⟩ := h) | skip) | with_reducible exact True.intro | ((with_reducible refine (id ?_ : @Eq Bool (nodupN _) true)); kernel_rfl) | ((with_reducible refine (id ?_ : @Eq Bool (apartN _ _) true)); kernel_rfl) | ((with_reducible refine (id ?_ : @Eq Bool (formL _ _) true)); kernel_rfl) | ((with_reducible refine (id ?_ : @Eq _ _ _)); exact rfl) | ((conv => whnf); first | done | with_reducible refine And.intro ?_ ?_ | (with_reducible intro h; first | (exact absurd h (by decide)) | (guard_hyp h : true = true; clear h) | (guard_hyp h : false = false; clear h) | (have hq := (h : Lv 10 _); clear hq; obtain ⟨_⟩ := h) | (have hq := (h : Lv 16 _); clear hq; obtain ⟨_⟩ := h) | skip) | with_reducible exact True.intro | ((with_reducible refine (id ?_ : @Eq _ _ _)); exact rfl) | refine Exists.intro (⟨?_⟩ : Lv 10 _) ?_ | refine Exists.intro (⟨?_⟩ : Lv 16 _) ?_ | refine Exists.intro _ (Exists.intro _ (And.intro hrel ?_)) | exact Or.inl rfl | exact Or.inr (And.intro rfl rfl) | (apply Exists.intro; refine And.intro ?_ ?_)) | exact Nat.le_of_ble_eq_true rfl)
  all_goals (try ((try (change _ = _)) <;> (try dsimp only at *) <;> (try simp only [decide_eq_true_eq, decide_eq_false_iff_not, Bool.not_eq_true', Bool.not_eq_false', Bool.and_eq_true, Bool.and_eq_false_iff, beq_iff_eq, bne_iff_ne, beq_eq_false_iff_ne, bne_eq_false_iff_eq, ne_eq, Decidable.not_not, bne_self_eq_false, Bool.false_eq_true, Bool.true_eq_false, Bool.not_true, Bool.not_false, not_true_eq_false, not_false_eq_true, Int.toNat_natCast, Nat.zero_add, Nat.reduceAdd, Nat.reduceMul, Nat.reduceDiv, Nat.mul_one, lenK_one, big, fill_len, marking_len, marks_len, nrms_len, List.length_set, List.length_append, List.length_map, List.length_replicate, List.length_cons, List.length_nil, Int.natCast_add, Int.natCast_one, Int.natCast_zero, decide_true, List.nil_append] at *) <;> (repeat (with_reducible rename _ ∧ _ => hh; obtain ⟨_, _⟩ := hh)) <;> (first | omega | (refine fits_i64 ?_; omega) | (split <;> omega) | exact h2 _ (by with_reducible assumption) | (with_reducible assumption) | (with_reducible exact ca_bigA (by omega)) | (with_reducible exact rd_bigA _ _) | (with_reducible exact rs_bigA _ _) | (with_reducible exact rr_bigA _ _ _) | (with_reducible exact lo_big _ _) | (with_reducible exact canC_of (by with_reducible assumption)) | (with_reducible exact losers_len _ _) | (with_reducible exact mend_zero _ _) | (with_reducible exact mend_zero0 _ _) | (with_reducible exact mend_step (by omega) (by omega)) | (with_reducible exact (mend_step (by omega) (by omega)).symm) | (with_reducible exact me_big (by omega) (losers_len _ _)) | exact lo_fit (s := []) (by omega) (losers_len _ _) | (with_reducible exact rs_le _ _) | (with_reducible exact re_is (by with_reducible assumption) (by with_reducible assumption)) | (exfalso; with_reducible exact re_bad (by with_reducible assumption) (by with_reducible assumption) (by with_reducible assumption)) | (with_reducible exact re_lt (by with_reducible assumption) (by with_reducible assumption)) | (exfalso; with_reducible exact re_ne (by with_reducible assumption) (by with_reducible assumption) (by omega) (by omega)) | (with_reducible exact re_fin (by with_reducible assumption) (by omega)) | (have q := re_fin (by with_reducible assumption) (by omega); simp only [q]; simp; done))))
end Go.Proofs.Ytkjdhfkihampjaa.V
