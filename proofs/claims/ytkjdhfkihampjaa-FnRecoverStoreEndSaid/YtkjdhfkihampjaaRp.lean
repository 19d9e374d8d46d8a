/-
  Recovery, the plain laws: what the disk has does not matter; only what has ended counts.
-/
import Derived.Test.YtkjdhfkihampjaaDq
import Derived.Test.YtkjdhfkihampjaaOo
set_option linter.unusedSimpArgs false
set_option linter.unusedVariables false
namespace Go.Proofs.Ytkjdhfkihampjaa.V
open Go Go.RowKit
open Classical

/-- The number of thing t in a store. -/
def numT (s : List Row) (t : Nat) : Int := (rc (row s t) 0).int
theorem paste_c0 (r : Row) (v : Int) : rc (pasteR r 0 [.i v]) 0 = .i v := by cases r <;> rfl
theorem numT_setI {s : List Row} {t v : Int} {u : Nat} (hu : u < s.length) : numT (setI s t v) u = if t.toNat = u then v else numT s u := by
  unfold numT setI
  rw [row_set]
  by_cases h : t.toNat = u
  · rw [if_pos ⟨h, hu⟩, if_pos h, paste_c0]; rfl
  · rw [if_neg (fun q => h q.1), if_neg h]
theorem nrm_int (r : Row) : nrm KInt r = [.i (rc r 0).int] := rfl
theorem store_ext {a b : List Row} (hl : a.length = b.length) (h : ∀ t, t < a.length → numT a t = numT b t) : nrms KInt a = nrms KInt b := by
  refine rows_ext (by rw [nrms_len, nrms_len, hl]) (fun i hi => ?_)
  rw [nrms_len] at hi
  rw [row_nrms hi, row_nrms (by omega), nrm_int, nrm_int]
  have := h i hi
  unfold numT at this
  rw [this]
theorem vn_note {s es : List Row} (h : VN s es) {j : Nat} (hj : j < es.length) : NoteV s es j := h.a.h j (by omega)
theorem toNat_nat (j : Nat) : ((j : Int)).toNat = j := by omega
/-- What is known of an edit of a journal. -/
theorem vn_edit {s es : List Row} (h : VN s es) {j : Nat} (hj : j < es.length) (hE : (rc (row es j) 0).bool = false) :
    VE (now s es j) (rc (row es j) 1).int (rc (row es j) 2).int (rc (row es j) 3).int (rc (row es j) 4).int ∧ FreeP es (rc (row es j) 2).int (rc (row es j) 1).int j j := by
  have := (vn_note h hj).ed
  rw [toNat_nat] at this
  exact this hE
theorem vn_thing {s es : List Row} (h : VN s es) {j : Nat} (hj : j < es.length) : 0 ≤ (rc (row es j) 2).int ∧ (rc (row es j) 2).int < s.length := by
  cases hE : (rc (row es j) 0).bool with
  | true =>
    have := (vn_note h hj).en
    rw [toNat_nat] at this
    have h1 := h.st.lo
    rw [(this hE).1]; omega
  | false =>
    have := (vn_edit h hj hE).1
    have h1 := this.t0
    have h2 := this.tl
    rw [now_len] at h2
    exact ⟨h1, h2⟩
theorem now_range {s es : List Row} (h : VN s es) : ∀ i : Nat, i ≤ es.length → ∀ t, t < s.length → 0 ≤ numT (now s es i) t ∧ numT (now s es i) t ≤ 999999
  | 0, _, t, ht => by
    rw [show now s es 0 = s from (now_zero0 s es).symm]
    exact h.st.a.h t (by omega)
  | i + 1, hi, t, ht => by
    have ih := now_range h i (by omega) t ht
    rw [now_succ]
    split
    · exact ih
    · rename_i hE
      rw [Bool.not_eq_true] at hE
      rw [numT_setI (by rw [now_len]; exact ht)]
      split
      · have := (vn_edit h (by omega : i < es.length) hE).1
        exact ⟨this.n0, this.n1⟩
      · exact ih
/-- A thing's number after some notes. -/
theorem cellN_now {s es : List Row} (h : VN s es) : ∀ i : Nat, i ≤ es.length → ∀ t, t < s.length → cellN s es t i = numT (now s es i) t
  | 0, _, t, ht => by
    rw [show now s es 0 = s from (now_zero0 s es).symm]
    have := cN_zero s es (t : Int)
    rw [toNat_nat] at this
    exact this.symm
  | i + 1, hi, t, ht => by
    have ih := cellN_now h i (by omega) t ht
    rw [now_succ]
    cases hE : (rc (row es i) 0).bool with
    | true =>
      rw [if_pos rfl]
      have := cN_noE (s := s) (es := es) (t := t) (i := i) (by omega) (by rw [toNat_nat]; exact hE)
      rw [show ((i + 1 : Nat) : Int) = (i : Int) + 1 by omega, ← this]; exact ih
    | false =>
      rw [if_neg (by simp), numT_setI (by rw [now_len]; exact ht)]
      have htn := vn_thing h (by omega : i < es.length)
      rw [show ((i + 1 : Nat) : Int) = (i : Int) + 1 by omega]
      by_cases e : (rc (row es i) 2).int.toNat = t
      · rw [if_pos e]
        have := cN_yes (s := s) (es := es) (t := t) (i := i) (by omega) (by rw [toNat_nat]; exact hE) (by rw [toNat_nat]; omega)
        rw [toNat_nat] at this
        exact this.symm
      · rw [if_neg e]
        have := cN_noT (s := s) (es := es) (t := t) (i := i) (by omega) (by rw [toNat_nat]; omega)
        rw [← this]; exact ih
theorem cellL_range (s es : List Row) (t : Int) : ∀ i : Nat, 0 ≤ cellL s es t i ∧ cellL s es t i ≤ i
  | 0 => by have := cL_zero s es t; rw [show ((0 : Nat) : Int) = 0 from rfl, ← this]; omega
  | i + 1 => by
    have ih := cellL_range s es t i
    rw [show ((i + 1 : Nat) : Int) = (i : Int) + 1 by omega]
    cases hE : (rc (row es i) 0).bool with
    | true => rw [← cL_noE (s := s) (t := t) (i := i) (by omega) (by rw [toNat_nat]; exact hE)]; omega
    | false =>
      by_cases e : (rc (row es i) 2).int = t
      · rw [← cL_yes (s := s) (t := t) (i := i) (by omega) (by rw [toNat_nat]; exact hE) (by rw [toNat_nat]; exact e)]; omega
      · rw [← cL_noT (s := s) (t := t) (i := i) (by omega) (by rw [toNat_nat]; exact e)]; omega
/-- An edit of the thing among the first notes shows in the cell's number. -/
theorem cellL_ge {s es : List Row} {t : Int} {j : Nat} (hE : (rc (row es j) 0).bool = false) (ht : (rc (row es j) 2).int = t) : ∀ k : Nat, (j : Int) + 1 ≤ cellL s es t ((j + 1 + k : Nat) : Int)
  | 0 => by
    rw [show ((j + 1 + 0 : Nat) : Int) = (j : Int) + 1 by omega, ← cL_yes (s := s) (t := t) (i := j) (by omega) (by rw [toNat_nat]; exact hE) (by rw [toNat_nat]; exact ht)]; omega
  | k + 1 => by
    have ih := cellL_ge (s := s) hE ht k
    rw [show ((j + 1 + (k + 1) : Nat) : Int) = ((j + 1 + k : Nat) : Int) + 1 by omega]
    generalize j + 1 + k = i at ih
    cases hE2 : (rc (row es i) 0).bool with
    | true => rw [← cL_noE (s := s) (t := t) (i := i) (by omega) (by rw [toNat_nat]; exact hE2)]; exact ih
    | false =>
      by_cases e : (rc (row es i) 2).int = t
      · rw [← cL_yes (s := s) (t := t) (i := i) (by omega) (by rw [toNat_nat]; exact hE2) (by rw [toNat_nat]; exact e)]
        have := cellL_range s es t i
        omega
      · rw [← cL_noT (s := s) (t := t) (i := i) (by omega) (by rw [toNat_nat]; exact e)]; exact ih
theorem row_cellsA (s es us : List Row) {t : Nat} : ∀ {n : Nat}, t < n → row (cellsA s es us n) t = [.i (cellN s es t (rc (row us t) 0).int), .i (cellL s es t (rc (row us t) 0).int)]
  | 0, h => by omega
  | n + 1, h => by
    rw [cells_succ, row_append, cellsA_len]
    by_cases e : t < n
    · rw [if_pos e]; exact row_cellsA s es us e
    · rw [if_neg e, show t = n by omega, Nat.sub_self]; rfl
/-- The cell of a thing after some notes. -/
def cellR (s es : List Row) (t : Nat) (i : Nat) : Row := [.i (cellN s es t i), .i (cellL s es t i)]
theorem cellR_noE {s es : List Row} {t i : Nat} (hE : (rc (row es i) 0).bool = true) : cellR s es t (i + 1) = cellR s es t i := by
  unfold cellR
  rw [show ((i + 1 : Nat) : Int) = (i : Int) + 1 by omega, ← cN_noE (s := s) (t := t) (i := i) (by omega) (by rw [toNat_nat]; exact hE), ← cL_noE (s := s) (t := t) (i := i) (by omega) (by rw [toNat_nat]; exact hE)]
theorem cellR_noT {s es : List Row} {t i : Nat} (e : ¬ (rc (row es i) 2).int = t) : cellR s es t (i + 1) = cellR s es t i := by
  unfold cellR
  rw [show ((i + 1 : Nat) : Int) = (i : Int) + 1 by omega, ← cN_noT (s := s) (t := t) (i := i) (by omega) (by rw [toNat_nat]; exact e), ← cL_noT (s := s) (t := t) (i := i) (by omega) (by rw [toNat_nat]; exact e)]
theorem cellR_yes {s es : List Row} {t i : Nat} (hE : (rc (row es i) 0).bool = false) (e : (rc (row es i) 2).int = t) : cellR s es t (i + 1) = [.i (rc (row es i) 4).int, .i ((i : Int) + 1)] := by
  unfold cellR
  rw [show ((i + 1 : Nat) : Int) = (i : Int) + 1 by omega, ← cN_yes (s := s) (t := t) (i := i) (by omega) (by rw [toNat_nat]; exact hE) (by rw [toNat_nat]; exact e), ← cL_yes (s := s) (t := t) (i := i) (by omega) (by rw [toNat_nat]; exact hE) (by rw [toNat_nat]; exact e), toNat_nat]
/-- Cells that are as far as numbers tell, each at least so far. -/
theorem paste_two (a b v k : Int) : pasteR [.i a, .i b] 0 [Sc.i v, Sc.i k] = [.i v, .i k] := rfl
theorem rd_cells {s es us : List Row} (h : CanC s es us) : ∀ i : Nat, i ≤ es.length → ∀ t : Nat, t < s.length → row (rd 1 (cellsA s es us s.length) es i) t = cellR s es t (max i (rc (row us t) 0).int.toNat)
  | 0, _, t, ht => by
    have hu := h.a.h t (by have := h.l; omega)
    rw [rd_zero, row_cellsA s es us ht, Nat.zero_max]
    unfold cellR
    rw [show (((rc (row us t) 0).int.toNat : Nat) : Int) = (rc (row us t) 0).int by omega]
  | i + 1, hi, t, ht => by
    have ih := fun t ht => rd_cells h i (by omega) t ht
    have hlen : (rd 1 (cellsA s es us s.length) es i).length = s.length := by rw [rd_len, cellsA_len]
    rw [rd_succ, if_pos (by omega)]
    have htn := vn_thing h.v (by omega : i < es.length)
    have hw := ih t ht
    generalize hu : (rc (row us t) 0).int.toNat = u at hw ⊢
    cases hE : (rc (row es i) 0).bool with
    | true =>
      unfold rdS
      rw [if_neg (fun q => by rw [hE] at q; cases q.1), hw]
      by_cases e : u ≤ i
      · rw [Nat.max_eq_left e, Nat.max_eq_left (by omega), cellR_noE hE]
      · rw [Nat.max_eq_right (by omega), Nat.max_eq_right (by omega)]
    | false =>
      by_cases e : (rc (row es i) 2).int.toNat = t
      · have e' : (rc (row es i) 2).int = t := by omega
        unfold rdS
        rw [e, hw]
        by_cases eu : u ≤ i
        · rw [Nat.max_eq_left eu, Nat.max_eq_left (by omega), cellR_yes hE e']
          have hl : (rc (cellR s es t i) 1).int < (i : Int) + 1 := by
            have := (cellL_range s es t i).2
            show cellL s es t i < _
            omega
          rw [if_pos ⟨hE, hl⟩, row_set_self (by rw [hlen]; exact ht)]
          rfl
        · rw [Nat.max_eq_right (by omega), Nat.max_eq_right (by omega)]
          have hl : ¬ (rc (cellR s es t u) 1).int < (i : Int) + 1 := by
            have := cellL_ge (s := s) hE e' (u - (i + 1))
            rw [show i + 1 + (u - (i + 1)) = u by omega] at this
            show ¬ cellL s es t u < _
            omega
          rw [if_neg (fun q => hl q.2), hw, Nat.max_eq_right (by omega)]
      · have e' : ¬ (rc (row es i) 2).int = t := by omega
        have hkeep : row (rdS (rd 1 (cellsA s es us s.length) es i) (row es i) (i + 1)) t = row (rd 1 (cellsA s es us s.length) es i) t := by
          unfold rdS
          split
          · rw [row_set, if_neg (fun q => e q.1)]
          · rfl
        rw [hkeep, hw]
        by_cases eu : u ≤ i
        · rw [Nat.max_eq_left eu, Nat.max_eq_left (by omega), cellR_noT e']
        · rw [Nat.max_eq_right (by omega), Nat.max_eq_right (by omega)]
/-- All that a disk has when it was written last. -/
def allC (s es : List Row) : List Row := (List.range s.length).map (fun t => cellR s es t es.length)
theorem allC_len (s es : List Row) : (allC s es).length = s.length := by simp [allC]
theorem row_allC (s es : List Row) {t : Nat} (ht : t < s.length) : row (allC s es) t = cellR s es t es.length := by
  unfold row allC
  rw [List.getD_eq_getElem?_getD, List.getElem?_map, List.getElem?_range ht]; rfl
theorem rd_all_cells {s es us : List Row} (h : CanC s es us) : rd 1 (cellsA s es us s.length) es es.length = allC s es := by
  refine rows_ext (by rw [rd_len, cellsA_len, allC_len]) (fun t ht => ?_)
  rw [rd_len, cellsA_len] at ht
  rw [rd_cells h es.length (Nat.le_refl _) t ht, row_allC s es ht, Nat.max_eq_left]
  have := (h.a.h t (by have := h.l; omega)).2
  omega
theorem us_cells {s es us : List Row} (h : CanC s es us) : Usable (cellsA s es us s.length) es := by
  have h20 := h.v.ln
  refine ⟨⟨by rw [cellsA_len]; exact h.v.st.lo, by rw [cellsA_len]; exact h.v.st.hi, ⟨fun j hj => ?_⟩⟩, h20, ⟨fun j hj => ?_⟩⟩
  · rw [cellsA_len] at hj
    have hj' : j < s.length := by omega
    have hu := h.a.h j (by have := h.l; omega)
    rw [row_cellsA s es us hj']
    have h1 := now_range h.v (rc (row us j) 0).int.toNat (by omega) j hj'
    rw [← cellN_now h.v _ (by omega) j hj'] at h1
    have h2 := cellL_range s es j (rc (row us j) 0).int.toNat
    rw [show (((rc (row us j) 0).int.toNat : Nat) : Int) = (rc (row us j) 0).int by omega] at h1 h2
    exact ⟨h1.1, h1.2, h2.1, by show cellL _ _ _ _ ≤ _; omega⟩
  · have hj' : j < es.length := by omega
    have hn := vn_note h.v hj'
    have ht := vn_thing h.v hj'
    rw [cellsA_len]
    have h1 := hn.o0
    have h2 := hn.o7
    rw [toNat_nat] at h1 h2
    cases hE : (rc (row es j) 0).bool with
    | true =>
      have hz := hn.en
      rw [toNat_nat] at hz
      obtain ⟨_, z2, z3⟩ := hz hE
      exact ⟨h1, h2, ht.1, ht.2, by omega, by omega, by omega, by omega⟩
    | false =>
      have he := (vn_edit h.v hj' hE).1
      have hr := now_range h.v j (by omega) (rc (row es j) 2).int.toNat (by omega)
      have := he.e
      unfold numT at hr
      rw [this] at hr
      exact ⟨h1, h2, ht.1, ht.2, hr.1, hr.2, he.n0, he.n1⟩
theorem cellsAt_is {s es us : List Row} (h : CanC s es us) : cellsAt s es us = cellsA s es us s.length := by unfold cellsAt; rw [if_pos h]
theorem canC_of {s es us : List Row} (h : ¬ ((cellsAt s es us).length : Int) = 0) : CanC s es us := by
  apply Classical.byContradiction
  intro hn
  apply h
  unfold cellsAt; rw [if_neg hn]; rfl
theorem us_at {s es us : List Row} (h : CanC s es us) : Usable (cellsAt s es us) es := by rw [cellsAt_is h]; exact us_cells h
theorem rd_at {s es us : List Row} (h : CanC s es us) : rd 1 (cellsAt s es us) es es.length = allC s es := by rw [cellsAt_is h]; exact rd_all_cells h
theorem redone_at {s es us : List Row} (h : CanC s es us) : redone (cellsAt s es us) es = allC s es := by rw [redone_is (us_at h), rd_at h]
theorem rcvS_at {s es us : List Row} (h : CanC s es us) : rcvS (cellsAt s es us) es = und es (nums (allC s es) (allC s es).length) 0 := by rw [← rcvS_yes (us_at h), rd_at h]
/-- The disk written to the end. -/
theorem cells_end {s es us : List Row} (h : VN s es) (hl : us.length = s.length) (hu : ∀ t, t < s.length → (rc (row us t) 0).int = es.length) : CanC s es us ∧ cellsAt s es us = allC s es := by
  have hc : CanC s es us := ⟨h, hl, ⟨fun j hj => by rw [hu j (by omega)]; omega⟩⟩
  refine ⟨hc, ?_⟩
  rw [cellsAt_is hc]
  refine rows_ext (by rw [cellsA_len, allC_len]) (fun t ht => ?_)
  rw [cellsA_len] at ht
  rw [row_cellsA s es us ht, row_allC s es ht, hu t ht]; rfl
end Go.Proofs.Ytkjdhfkihampjaa.V
