/-
  Journals and cells that are drawn.
-/
import Derived.Test.YtkjdhfkihampjaaDn
set_option linter.unusedSimpArgs false
set_option linter.unusedVariables false
namespace Go.Proofs.Ytkjdhfkihampjaa.V
open Go Go.RowKit
open Classical

def cSpoil : Ct := ⟨[], fun ds K => match ds with
  | [.bx [.view ks bs, .int .i64 p], .view js s, .int .i64 _] => ks = KU8 ∧ js = KInt ∧ Bytes bs ∧ (0 ≤ p ∧ p ≤ 1000) ∧ s.length ≤ 900 ∧ ∀ (ys : List Row) (q : Int), ys.length ≤ s.length + 1 → (0 ≤ q ∧ q ≤ p + 3) → K (.view KInt ys) [.bx [.view KU8 bs, .int .i64 q]]
  | _ => False⟩
set_option maxRecDepth 100000 in
set_option maxHeartbeats 8000000 in
theorem p_spoil : Proved 57 cSpoil := by
  refine proved_of [(75, cPick), (65, cOne), (68, cCopy 3 KInt)] ⟨p_pick, p_one, p_copyInts, trivial⟩ [.tmp 6] Try.func57 rfl rfl rfl rfl (by kernel_rfl) ?_
  intro ds K hrel
  simp only [cSpoil] at hrel
  split at hrel
  case h_2 => exact hrel.elim
  rename_i ks bs p js s z
  obtain ⟨rfl, rfl, hb, ⟨h1, h2⟩, h3, hrel⟩ := hrel
  refine ⟨rfl, Nat.le_of_ble_eq_true rfl, fun _ _ => none, ?_⟩
  repeat' (first | with_reducible refine And.intro ?_ ?_ | (with_reducible intro h; first | (exact absurd h (by decide)) | (guard_hyp h : true = true; clear h) | (guard_hyp h : false = false; clear h) | skip) | with_reducible exact True.intro | ((with_reducible refine (id ?_ : @Eq Bool (nodupN _) true)); kernel_rfl) | ((with_reducible refine (id ?_ : @Eq Bool (apartN _ _) true)); kernel_rfl) | ((with_reducible refine (id ?_ : @Eq Bool (formL _ _) true)); kernel_rfl) | ((with_reducible refine (id ?_ : @Eq _ _ _)); exact rfl) | ((conv => whnf); first | done | with_reducible refine And.intro ?_ ?_ | (with_reducible intro h; first | (exact absurd h (by decide)) | (guard_hyp h : true = true; clear h) | (guard_hyp h : false = false; clear h) | skip) | with_reducible exact True.intro | ((with_reducible refine (id ?_ : @Eq _ _ _)); exact rfl) | (refine Exists.intro _ (Exists.intro _ (And.intro (hrel ?_ ?_ ?_ ?_) ?_))) | refine Exists.intro _ (Exists.intro _ (And.intro hrel ?_)) | exact Or.inl rfl | exact Or.inr (And.intro rfl rfl) | (apply Exists.intro; refine And.intro ?_ ?_)) | exact Nat.le_of_ble_eq_true rfl)
  all_goals (try ((repeat (with_reducible rename PickR _ _ => hq; have hq1 := hq.lo; have hq2 := hq.hi; have hq3 := hq.zero; clear hq)) <;> (try (change _ = _)) <;> (try dsimp only at *) <;> (try simp only [decide_eq_true_eq, decide_eq_false_iff_not, Bool.not_eq_true', Bool.not_eq_false', Bool.and_eq_true, Bool.and_eq_false_iff, beq_iff_eq, bne_iff_ne, beq_eq_false_iff_ne, bne_eq_false_iff_eq, ne_eq, Decidable.not_not, bne_self_eq_false, Bool.false_eq_true, Bool.true_eq_false, Bool.not_true, Bool.not_false, not_true_eq_false, not_false_eq_true, Int.toNat_natCast, Nat.zero_add, Nat.reduceAdd, Nat.reduceMul, Nat.reduceDiv, Nat.mul_one, lenK_one, big, fill_len, marking_len, marks_len, nrms_len, List.length_set, List.length_append, List.length_map, List.length_replicate, List.length_cons, List.length_nil, Int.natCast_add, Int.natCast_one, Int.natCast_zero, memI_i, memI_nil, or_false, false_or, List.length_drop, List.length_take] at *) <;> (repeat (with_reducible rename _ ∧ _ => hh; obtain ⟨_, _⟩ := hh)) <;> (first | omega | (refine fits_i64 ?_; omega) | (split <;> omega) | rfl | assumption | (rw [List.length_drop, List.length_take]; omega))))
def cANotes : Ct := ⟨[], fun ds K => match ds with
  | [.bx [.view ks bs, .int .i64 p]] => ks = KU8 ∧ Bytes bs ∧ (0 ≤ p ∧ p ≤ 800) ∧ ∀ (s es : List Row) (q : Int), s.length ≤ 7 → es.length ≤ 21 → (nrms KNote es = es) → (0 ≤ q ∧ q ≤ p + 110) → K (.tup [.view KInt s, .fr 39 KNote es]) [.bx [.view KU8 bs, .int .i64 q]]
  | _ => False⟩
theorem nrms_setc {xs : List Row} {i : Nat} {v : Int} (h : nrms KNote xs = xs) : nrms KNote (xs.set i (pasteR (row xs i) 1 [.i v])) = xs.set i (pasteR (row xs i) 1 [.i v]) := by
  by_cases hl : i < xs.length
  · have e : nrm KNote (row xs i) = row xs i := by rw [← row_nrms hl, h]
    refine nrms_set' h ?_
    rw [← e]; rfl
  · rw [List.set_eq_of_length_le (by omega), h]
set_option maxRecDepth 100000 in
set_option maxHeartbeats 16000000 in
theorem p_anyNotes : Proved 47 cANotes := by
  refine proved_of [(75, cPick), (65, cOne), (57, cSpoil), (74, cRNotes)] ⟨p_pick, p_one, p_spoil, p_randomNotes, trivial⟩ [.tmp 2, .tmp 3] Try.func47 rfl rfl rfl rfl (by kernel_rfl) ?_
  intro ds K hrel
  simp only [cANotes] at hrel
  split at hrel
  case h_2 => exact hrel.elim
  rename_i ks bs p
  obtain ⟨rfl, hb, ⟨h1, h2⟩, hrel⟩ := hrel
  refine ⟨rfl, Nat.le_of_ble_eq_true rfl, fun _ _ => none, ?_⟩
  repeat' (first | with_reducible refine And.intro ?_ ?_ | (with_reducible intro h; first | (exact absurd h (by decide)) | (guard_hyp h : true = true; clear h) | (guard_hyp h : false = false; clear h) | skip) | with_reducible exact True.intro | ((with_reducible refine (id ?_ : @Eq Bool (nodupN _) true)); kernel_rfl) | ((with_reducible refine (id ?_ : @Eq Bool (apartN _ _) true)); kernel_rfl) | ((with_reducible refine (id ?_ : @Eq Bool (formL _ _) true)); kernel_rfl) | ((with_reducible refine (id ?_ : @Eq _ _ _)); exact rfl) | ((conv => whnf); first | done | with_reducible refine And.intro ?_ ?_ | (with_reducible intro h; first | (exact absurd h (by decide)) | (guard_hyp h : true = true; clear h) | (guard_hyp h : false = false; clear h) | skip) | with_reducible exact True.intro | ((with_reducible refine (id ?_ : @Eq _ _ _)); exact rfl) | (refine Exists.intro _ (Exists.intro _ (And.intro (hrel ?_ ?_ ?_ ?_ ?_ ?_ ?_) ?_))) | refine Exists.intro _ (Exists.intro _ (And.intro hrel ?_)) | exact Or.inl rfl | exact Or.inr (And.intro rfl rfl) | (apply Exists.intro; refine And.intro ?_ ?_)) | exact Nat.le_of_ble_eq_true rfl)
  all_goals (try ((repeat (with_reducible rename PickR _ _ => hq; have hq1 := hq.lo; have hq2 := hq.hi; have hq3 := hq.zero; clear hq)) <;> (try (change _ = _)) <;> (try dsimp only at *) <;> (try simp only [decide_eq_true_eq, decide_eq_false_iff_not, Bool.not_eq_true', Bool.not_eq_false', Bool.and_eq_true, Bool.and_eq_false_iff, beq_iff_eq, bne_iff_ne, beq_eq_false_iff_ne, bne_eq_false_iff_eq, ne_eq, Decidable.not_not, bne_self_eq_false, Bool.false_eq_true, Bool.true_eq_false, Bool.not_true, Bool.not_false, not_true_eq_false, not_false_eq_true, Int.toNat_natCast, Nat.zero_add, Nat.reduceAdd, Nat.reduceMul, Nat.reduceDiv, Nat.mul_one, lenK_one, big, fill_len, marking_len, marks_len, nrms_len, List.length_set, List.length_append, List.length_map, List.length_replicate, List.length_cons, List.length_nil, Int.natCast_add, Int.natCast_one, Int.natCast_zero, memI_i, memI_nil, or_false, false_or] at *) <;> (repeat (with_reducible rename _ ∧ _ => hh; obtain ⟨_, _⟩ := hh)) <;> (first | omega | (refine fits_i64 ?_; omega) | (split <;> omega) | (with_reducible assumption) | exact nrms_app1 (by with_reducible assumption) rfl | exact nrms_setc (by with_reducible assumption) | rfl)))

/-- What the disk has for a thing after n notes. -/
def cell0 (s es : List Row) (t : Int) : Nat → Row
  | 0 => [.i (rc (row s t.toNat) 0).int, .i 0]
  | i + 1 => if (rc (row es i) 0).bool = false ∧ (rc (row es i) 2).int = t then [.i (rc (row es i) 4).int, .i ((i : Int) + 1)] else cell0 s es t i
@[irreducible] def cellA (s es : List Row) (t : Int) (i : Nat) : Row := cell0 s es t i
theorem cellA_zero (s es : List Row) (t : Int) : cellA s es t 0 = [.i (rc (row s t.toNat) 0).int, .i 0] := by simp [cellA, cell0]
theorem cellA_succ (s es : List Row) (t : Int) (i : Nat) : cellA s es t (i + 1) = if (rc (row es i) 0).bool = false ∧ (rc (row es i) 2).int = t then [.i (rc (row es i) 4).int, .i ((i : Int) + 1)] else cellA s es t i := by simp only [cellA, cell0]
theorem cellA_two (s es : List Row) (t : Int) (i : Nat) : cellA s es t i = [.i (rc (cellA s es t i) 0).int, .i (rc (cellA s es t i) 1).int] := by
  induction i with
  | zero => rw [cellA_zero]; rfl
  | succ i ih =>
    rw [cellA_succ]
    split
    · rfl
    · exact ih
def cellN (s es : List Row) (t : Int) (i : Int) : Int := (rc (cellA s es t i.toNat) 0).int
def cellL (s es : List Row) (t : Int) (i : Int) : Int := (rc (cellA s es t i.toNat) 1).int
theorem cN_zero (s es : List Row) (t : Int) : (rc (row s t.toNat) 0).int = cellN s es t 0 := by unfold cellN; rw [show (0 : Int).toNat = 0 from rfl, cellA_zero]; rfl
theorem cL_zero (s es : List Row) (t : Int) : 0 = cellL s es t 0 := by unfold cellL; rw [show (0 : Int).toNat = 0 from rfl, cellA_zero]; rfl
theorem cA_step (s es : List Row) (t : Int) {i : Int} (h0 : 0 ≤ i) : cellA s es t (i + 1).toNat = if (rc (row es i.toNat) 0).bool = false ∧ (rc (row es i.toNat) 2).int = t then [.i (rc (row es i.toNat) 4).int, .i (i + 1)] else cellA s es t i.toNat := by
  rw [show (i + 1).toNat = i.toNat + 1 by omega, cellA_succ, show ((i.toNat : Nat) : Int) = i by omega]
theorem cN_yes {s es : List Row} {t i : Int} (h0 : 0 ≤ i) (h1 : (rc (row es i.toNat) 0).bool = false) (h2 : (rc (row es i.toNat) 2).int = t) : (rc (row es i.toNat) 4).int = cellN s es t (i + 1) := by unfold cellN; rw [cA_step s es t h0, if_pos ⟨h1, h2⟩]; rfl
theorem cL_yes {s es : List Row} {t i : Int} (h0 : 0 ≤ i) (h1 : (rc (row es i.toNat) 0).bool = false) (h2 : (rc (row es i.toNat) 2).int = t) : i + 1 = cellL s es t (i + 1) := by unfold cellL; rw [cA_step s es t h0, if_pos ⟨h1, h2⟩]; rfl
theorem cN_noE {s es : List Row} {t i : Int} (h0 : 0 ≤ i) (h1 : (rc (row es i.toNat) 0).bool = true) : cellN s es t i = cellN s es t (i + 1) := by unfold cellN; rw [cA_step s es t h0, if_neg (fun q => by rw [h1] at q; cases q.1)]
theorem cL_noE {s es : List Row} {t i : Int} (h0 : 0 ≤ i) (h1 : (rc (row es i.toNat) 0).bool = true) : cellL s es t i = cellL s es t (i + 1) := by unfold cellL; rw [cA_step s es t h0, if_neg (fun q => by rw [h1] at q; cases q.1)]
theorem cN_noT {s es : List Row} {t i : Int} (h0 : 0 ≤ i) (h1 : ¬ (rc (row es i.toNat) 2).int = t) : cellN s es t i = cellN s es t (i + 1) := by unfold cellN; rw [cA_step s es t h0, if_neg (fun q => h1 q.2)]
theorem cL_noT {s es : List Row} {t i : Int} (h0 : 0 ≤ i) (h1 : ¬ (rc (row es i.toNat) 2).int = t) : cellL s es t i = cellL s es t (i + 1) := by unfold cellL; rw [cA_step s es t h0, if_neg (fun q => h1 q.2)]
def cCellAt : Ct := ⟨[], fun ds K => match ds with
  | [.view ks s, .view js es, .int .i64 t, .int .i64 n] => ks = KInt ∧ js = KNote ∧ (es.length : Int) < big ∧ (0 ≤ t ∧ t < s.length ∧ 0 ≤ n ∧ n ≤ es.length) ∧ K (.agg [.int .i64 (cellN s es t n), .int .i64 (cellL s es t n)]) []
  | _ => False⟩
set_option maxRecDepth 100000 in
set_option maxHeartbeats 4000000 in
theorem p_cellAt : Proved 54 cCellAt := by
  refine proved_of [] trivial [.cell 8 50] Try.func54 rfl rfl rfl rfl (by kernel_rfl) ?_
  intro ds K hrel
  simp only [cCellAt] at hrel
  split at hrel
  case h_2 => exact hrel.elim
  rename_i ks s js es t n
  obtain ⟨rfl, rfl, h1, ⟨h2, h3, h4, h5⟩, hrel⟩ := hrel
  have hN : ∀ i : Int, ¬ i < n ∧ i ≤ n → cellN s es t i = cellN s es t n := fun i hi => by rw [show i = n by omega]
  have hL : ∀ i : Int, ¬ i < n ∧ i ≤ n → cellL s es t i = cellL s es t n := fun i hi => by rw [show i = n by omega]
  refine ⟨rfl, Nat.le_of_ble_eq_true rfl, fun k σ => match k with
    | 3 => some { α := Lv 3 Int, R := fun ⟨i⟩ => 0 ≤ i ∧ i ≤ n, μ := fun ⟨i⟩ => (n - i).toNat, st := fun ⟨i⟩ => upH σ [(10, .int .i64 i)] 1 (.box [.int .i64 (cellN s es t i), .int .i64 (cellL s es t i)]) }
    | _ => none, ?_⟩
  repeat' (first | with_reducible refine And.intro ?_ ?_ | (with_reducible intro h; first | (exact absurd h (by decide)) | (guard_hyp h : true = true; clear h) | (guard_hyp h : false = false; clear h) | (have hq := (h : Lv 3 _); clear hq; obtain ⟨_⟩ := h) | skip) | with_reducible exact True.intro | ((with_reducible refine (id ?_ : @Eq Bool (nodupN _) true)); kernel_rfl) | ((with_reducible refine (id ?_ : @Eq Bool (apartN _ _) true)); kernel_rfl) | ((with_reducible refine (id ?_ : @Eq Bool (formL _ _) true)); kernel_rfl) | ((with_reducible refine (id ?_ : @Eq _ _ _)); exact rfl) | ((conv => whnf); first | done | with_reducible refine And.intro ?_ ?_ | (with_reducible intro h; first | (exact absurd h (by decide)) | (guard_hyp h : true = true; clear h) | (guard_hyp h : false = false; clear h) | (have hq := (h : Lv 3 _); clear hq; obtain ⟨_⟩ := h) | skip) | with_reducible exact True.intro | ((with_reducible refine (id ?_ : @Eq _ _ _)); exact rfl) | refine Exists.intro (⟨?_⟩ : Lv 3 _) ?_ | refine Exists.intro _ (Exists.intro _ (And.intro hrel ?_)) | exact Or.inl rfl | exact Or.inr (And.intro rfl rfl) | (apply Exists.intro; refine And.intro ?_ ?_)) | exact Nat.le_of_ble_eq_true rfl)
  all_goals (try ((try (change _ = _)) <;> (try dsimp only at *) <;> (try simp only [decide_eq_true_eq, decide_eq_false_iff_not, Bool.not_eq_true', Bool.not_eq_false', Bool.and_eq_true, Bool.and_eq_false_iff, beq_iff_eq, bne_iff_ne, beq_eq_false_iff_ne, bne_eq_false_iff_eq, ne_eq, Decidable.not_not, bne_self_eq_false, Bool.false_eq_true, Bool.true_eq_false, Bool.not_true, Bool.not_false, not_true_eq_false, not_false_eq_true, Int.toNat_natCast, Nat.zero_add, Nat.reduceAdd, Nat.reduceMul, Nat.reduceDiv, Nat.mul_one, lenK_one, big, fill_len, marking_len, marks_len, nrms_len, List.length_set, List.length_append, List.length_map, List.length_replicate, List.length_cons, List.length_nil, Int.natCast_add, Int.natCast_one, Int.natCast_zero] at *) <;> (repeat (with_reducible rename _ ∧ _ => hh; obtain ⟨_, _⟩ := hh)) <;> (first | omega | (refine fits_i64 ?_; omega) | (split <;> omega) | exact cN_zero _ _ _ | exact cL_zero _ _ _ | exact cN_yes (by omega) (by with_reducible assumption) (by with_reducible assumption) | exact cL_yes (by omega) (by with_reducible assumption) (by with_reducible assumption) | exact cN_noE (by omega) (by with_reducible assumption) | exact cL_noE (by omega) (by with_reducible assumption) | exact cN_noT (by omega) (by with_reducible assumption) | exact cL_noT (by omega) (by with_reducible assumption) | exact hN _ (by omega) | exact hL _ (by omega))))
end Go.Proofs.Ytkjdhfkihampjaa.V
