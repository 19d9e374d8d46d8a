/-
  Repeating is repeatable, and can be interrupted: the plain laws and the laws as functions.
-/
import Derived.Test.YtkjdhfkihampjaaDp
import Derived.Test.YtkjdhfkihampjaaCd
set_option linter.unusedSimpArgs false
set_option linter.unusedVariables false
namespace Go.Proofs.Ytkjdhfkihampjaa.V
open Go Go.RowKit
open Classical

/-- The number of the last note of a cell. -/
def lsn (c : List Row) (t : Nat) : Int := (rc (row c t) 1).int
theorem rdS_lsn (c : List Row) (n : Row) (k : Int) (t : Nat) : lsn (rdS c n k) t = if (rc n 0).bool = false ∧ lsn c (rc n 2).int.toNat < k ∧ (rc n 2).int.toNat = t ∧ t < c.length then k else lsn c t := by
  unfold rdS lsn
  by_cases h : (rc n 0).bool = false ∧ (rc (row c (rc n 2).int.toNat) 1).int < k
  · rw [if_pos h, row_set]
    by_cases h2 : (rc n 2).int.toNat = t ∧ t < c.length
    · rw [if_pos h2, if_pos ⟨h.1, h.2, h2.1, h2.2⟩]
      cases row c (rc n 2).int.toNat with
      | nil => rfl
      | cons a l => cases l <;> rfl
    · rw [if_neg h2, if_neg (fun q => h2 ⟨q.2.2.1, q.2.2.2⟩)]
  · rw [if_neg h, if_neg (fun q => h ⟨q.1, q.2.1⟩)]
theorem rdS_mono (c : List Row) (n : Row) (k : Int) (t : Nat) : lsn c t ≤ lsn (rdS c n k) t := by
  rw [rdS_lsn]
  split
  · rename_i h; obtain ⟨_, h2, h3, _⟩ := h; rw [h3] at h2; omega
  · exact Int.le_refl _
theorem rd_mono (f : Int) (c es : List Row) (t : Nat) : ∀ (i k : Nat), lsn (rd f c es i) t ≤ lsn (rd f c es (i + k)) t
  | i, 0 => Int.le_refl _
  | i, k + 1 => by
    refine Int.le_trans (rd_mono f c es t i k) ?_
    rw [show i + (k + 1) = (i + k) + 1 by omega, rd_succ]
    split
    · exact rdS_mono _ _ _ _
    · exact Int.le_refl _
theorem rd_mono' {f : Int} {c es : List Row} {t i j : Nat} (h : i ≤ j) : lsn (rd f c es i) t ≤ lsn (rd f c es j) t := by
  have := rd_mono f c es t i (j - i)
  rwa [show i + (j - i) = j by omega] at this
/-- A note that was repeated has left its number or a greater one. -/
theorem rd_done {c es : List Row} {i : Nat} (hE : (rc (row es i) 0).bool = false) (ht : (rc (row es i) 2).int.toNat < c.length) : (i : Int) + 1 ≤ lsn (rd 1 c es (i + 1)) (rc (row es i) 2).int.toNat := by
  rw [rd_succ, if_pos (by omega), rdS_lsn]
  by_cases h : lsn (rd 1 c es i) (rc (row es i) 2).int.toNat < (i : Int) + 1
  · rw [if_pos ⟨hE, h, rfl, by rw [rd_len]; exact ht⟩]; exact Int.le_refl _
  · rw [if_neg (fun q => h q.2.1)]; omega
theorem rdS_same {c : List Row} {n : Row} {k : Int} (h : (rc n 0).bool = false → k ≤ lsn c (rc n 2).int.toNat) : rdS c n k = c := by
  unfold rdS
  rw [if_neg (fun q => by have := h q.1; unfold lsn at this; omega)]
theorem rd_again {c es : List Row} {h : Nat} (hh : h ≤ es.length) (ht : ∀ i : Nat, i < es.length → (rc (row es i) 2).int.toNat < c.length) : ∀ i : Nat, i ≤ es.length → rd 1 (rd 1 c es h) es i = if i ≤ h then rd 1 c es h else rd 1 c es i
  | 0, _ => by rw [rd_zero, if_pos (by omega)]
  | i + 1, hi => by
    have ih := rd_again hh ht i (by omega)
    rw [rd_succ, if_pos (by omega), ih]
    by_cases h1 : i + 1 ≤ h
    · rw [if_pos (by omega), if_pos h1]
      refine rdS_same (fun hE => ?_)
      exact Int.le_trans (rd_done hE (ht i (by omega))) (rd_mono' h1)
    · rw [if_neg h1]
      by_cases h2 : i ≤ h
      · rw [if_pos h2, show h = i by omega, rd_succ 1 c es i, if_pos (by omega)]
      · rw [if_neg h2, rd_succ 1 c es i, if_pos (by omega)]
theorem us_tn {c es : List Row} (h : Usable c es) : ∀ i : Nat, i < es.length → (rc (row es i) 2).int.toNat < c.length := fun i hi => by
  have := h.no.h i (by omega)
  have h1 := this.t0
  have h2 := this.tm
  omega
theorem rd_twice {c es : List Row} (h : Usable c es) : rd 1 (rd 1 c es es.length) es es.length = rd 1 c es es.length := by
  rw [rd_again (Nat.le_refl _) (us_tn h) _ (Nat.le_refl _), if_pos (Nat.le_refl _)]
theorem rd_parts {c es : List Row} {k : Nat} (h : Usable c es) (hk : k ≤ es.length) : rd 1 (rd 1 c es k) es es.length = rd 1 c es es.length := by
  rw [rd_again hk (us_tn h) _ (Nat.le_refl _)]
  split
  · rw [show k = es.length by omega]
  · rfl
theorem cell_rdS {c : List Row} {n : Row} {k : Int} (h : ∀ j, j < c.length → CellOk (row c j)) (hw : 0 ≤ (rc n 4).int ∧ (rc n 4).int ≤ 999999) (hk : 0 ≤ k ∧ k ≤ 20) : ∀ j, j < c.length → CellOk (row (rdS c n k) j) := by
  intro j hj
  unfold rdS
  split
  · rw [row_set]
    split
    · have e0 : rc (pasteR (row c (rc n 2).int.toNat) 0 [Sc.i (rc n 4).int, Sc.i k]) 0 = Sc.i (rc n 4).int := by
        cases row c (rc n 2).int.toNat with
        | nil => rfl
        | cons a l => cases l <;> rfl
      have e1 : rc (pasteR (row c (rc n 2).int.toNat) 0 [Sc.i (rc n 4).int, Sc.i k]) 1 = Sc.i k := by
        cases row c (rc n 2).int.toNat with
        | nil => rfl
        | cons a l => cases l <;> rfl
      exact cell_yes (by rw [e0, e1]; exact ⟨hw.1, hw.2, hk.1, hk.2⟩)
    · exact h j hj
  · exact h j hj
theorem cell_rd {c es : List Row} (h : Usable c es) (f : Int) : ∀ i : Nat, i ≤ es.length → ∀ j, j < c.length → CellOk (row (rd f c es i) j)
  | 0, _ => by rw [rd_zero]; exact fun j hj => h.v.ce.h j (by omega)
  | i + 1, hi => by
    rw [rd_succ]
    have ih := cell_rd h f i (by omega)
    have hn := h.no.h i (by omega)
    have h20 := h.n
    split
    · intro j hj
      exact cell_rdS (fun j hj => ih j (by rw [rd_len] at hj; exact hj)) ⟨hn.w0, hn.w1⟩ (by omega) j (by rw [rd_len]; exact hj)
    · exact ih
theorem us_rd {c es : List Row} (h : Usable c es) (f : Int) {i : Nat} (hi : i ≤ es.length) : Usable (rd f c es i) es := by
  refine ⟨⟨by rw [rd_len]; exact h.v.c1, by rw [rd_len]; exact h.v.c6, ⟨fun j hj => cell_rd h f i hi j (by rw [rd_len] at hj; omega)⟩⟩, h.n, ?_⟩
  rw [rd_len]; exact h.no
theorem redone_is {c es : List Row} (h : Usable c es) : redone c es = rd 1 c es es.length := (redone_yes h).symm
theorem us_of_len {c es : List Row} (h : ¬ ((redone c es).length : Int) = 0) : Usable c es := by
  apply Classical.byContradiction
  intro hn
  rw [redone_no hn] at h; exact h rfl
theorem us_redone {c es : List Row} (h : Usable c es) : Usable (redone c es) es := by rw [redone_is h]; exact us_rd h 1 (Nat.le_refl _)
theorem redone_twice {c es : List Row} (h : Usable c es) : redone (redone c es) es = redone c es := by
  rw [redone_is (us_redone h), redone_is h]; exact rd_twice h
theorem redone_lenU {c es : List Row} (h : Usable c es) : (redone c es).length = c.length := by rw [redone_is h, rd_len]
theorem row_take' {xs : List Row} {n j : Nat} (h : j < n) : row (xs.take n) j = row xs j := row_take h
theorem rd_take {f : Int} {c es : List Row} {n : Nat} : ∀ i : Nat, i ≤ n → rd f c (es.take n) i = rd f c es i
  | 0, _ => by rw [rd_zero, rd_zero]
  | i + 1, h => by rw [rd_succ, rd_succ, rd_take i (by omega), row_take (by omega)]
theorem us_take {c es : List Row} (h : Usable c es) (n : Nat) : Usable c (es.take n) := by
  have hl : (es.take n).length = min n es.length := List.length_take
  refine ⟨h.v, by have := h.n; omega, ⟨fun j hj => ?_⟩⟩
  rw [row_take (by omega)]
  exact h.no.h j (by omega)
theorem redone_parts {c es : List Row} (h : Usable c es) {n : Nat} (hn : n ≤ es.length) : redone (redone c (es.take n)) es = redone c es := by
  have hl : (es.take n).length = n := by rw [List.length_take]; omega
  rw [redone_is (us_take h n), hl, rd_take n (Nat.le_refl _), redone_is (us_rd h 1 hn), redone_is h]
  exact rd_parts h hn
/-! For the laws. -/
theorem lw_short {c es : List Row} {i : Int} (h : Usable c es) (h1 : i < c.length) (h2 : ((redone c es).length : Int) ≤ i) : False := by rw [redone_lenU h] at h2; omega
theorem lw_lt {c es : List Row} {i : Int} (h : Usable c es) (h1 : i < c.length) : i < (redone c es).length := by rw [redone_lenU h]; exact h1
theorem lw_fall {c es : List Row} {i : Int} (h : Usable c es) (h2 : (rc (row (redone c es) i.toNat) 1).int < (rc (row c i.toNat) 1).int) : False := by
  rw [redone_is h] at h2
  have := rd_mono' (f := 1) (c := c) (es := es) (t := i.toNat) (Nat.zero_le es.length)
  rw [rd_zero] at this
  unfold lsn at this
  omega
theorem lw_same {c es : List Row} (h : Usable c es) : true = decide (nrms KCell (redone (redone c es) es) = nrms KCell (redone c es)) := true_eq (by rw [redone_twice h])
theorem lw_parts {c es : List Row} (h : Usable c es) {n : Nat} (hn : n ≤ es.length) : true = decide (nrms KCell (redone (redone c (es.take n)) es) = nrms KCell (redone c es)) := true_eq (by rw [redone_parts h hn])
theorem lw_same' {c es : List Row} (h : Usable c es) : nrms KCell (redone (redone c es) es) = nrms KCell (redone c es) := by rw [redone_twice h]
theorem lw_parts' {c es : List Row} (h : Usable c es) {n : Nat} (hn : n ≤ es.length) : nrms KCell (redone (redone c (es.take n)) es) = nrms KCell (redone c es) := by rw [redone_parts h hn]
theorem lw_big (c es : List Row) : ((redone c es).length : Int) < 9223372036854775808 := by have := redone_len c es; omega
theorem lw_half {n : Nat} : 0 ≤ (n : Int).tdiv 2 ∧ (n : Int).tdiv 2 ≤ n := quo_pos (by omega) (by omega)
theorem lw_fit {n : Nat} (h : n ≤ 21) : Fits .i64 ((n : Int).tdiv 2) := by have := lw_half (n := n); exact fits_i64 (by omega)
theorem lw_cut {es : List Row} {n : Nat} (h : es.length ≤ 21) : ((es.take n).length : Int) < 9223372036854775808 := by rw [List.length_take]; omega
theorem lw_nat {es : List Row} : ((es.length : Int).tdiv 2).toNat ≤ es.length := by have := lw_half (n := es.length); omega
theorem us_from {c es : List Row} (h : ¬ ((redone c es).length : Int) = 0) : Usable c es := us_of_len h
end Go.Proofs.Ytkjdhfkihampjaa.V
