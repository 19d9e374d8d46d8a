/-
  Cells that are drawn.
-/
import Derived.Test.YtkjdhfkihampjaaDo
set_option linter.unusedSimpArgs false
set_option linter.unusedVariables false
namespace Go.Proofs.Ytkjdhfkihampjaa.V
open Go Go.RowKit
open Classical

theorem law_code {ds : List AV} (h : PkAVs [.c (.s KU8)] ds) : ∃ xs, ds = [.view KU8 xs] ∧ xs.length ≤ maxLen ∧ ∀ i, i < xs.length → RowOk KU8 (row xs i) := by
  obtain ⟨a, l, rfl, ⟨xs, rfl, h1, h2⟩, h3⟩ := h
  simp only [PkAVs] at h3
  subst h3
  exact ⟨xs, rfl, h1, h2⟩
/-- What the disk has for the first i things. -/
def cellsB (s es us : List Row) : Nat → List Row
  | 0 => []
  | i + 1 => cellsB s es us i ++ [[.i (cellN s es (i : Int) (rc (row us i) 0).int), .i (cellL s es (i : Int) (rc (row us i) 0).int)]]
@[irreducible] def cellsA (s es us : List Row) (i : Nat) : List Row := cellsB s es us i
theorem cells_zeroA (s es us : List Row) : cellsA s es us 0 = [] := by simp [cellsA, cellsB]
theorem cells_zero' (s es us : List Row) : [] = cellsA s es us (Int.toNat 0) := (cells_zeroA s es us).symm
theorem cells_succ (s es us : List Row) (i : Nat) : cellsA s es us (i + 1) = cellsA s es us i ++ [[.i (cellN s es (i : Int) (rc (row us i) 0).int), .i (cellL s es (i : Int) (rc (row us i) 0).int)]] := by simp only [cellsA, cellsB]
theorem cells_stepI {s es us : List Row} {i : Int} (h0 : 0 ≤ i) : cellsA s es us i.toNat ++ [[Sc.i (cellN s es i (rc (row us i.toNat) 0).int), Sc.i (cellL s es i (rc (row us i.toNat) 0).int)]] = cellsA s es us (i + 1).toNat := by
  rw [show (i + 1).toNat = i.toNat + 1 by omega, cells_succ, show ((i.toNat : Nat) : Int) = i by omega]
theorem cellsA_len (s es us : List Row) : ∀ i : Nat, (cellsA s es us i).length = i
  | 0 => by rw [cells_zeroA]; rfl
  | i + 1 => by rw [cells_succ, List.length_append, cellsA_len s es us i]; rfl
theorem cellsA_nrm (s es us : List Row) : ∀ i : Nat, nrms KCell (cellsA s es us i) = cellsA s es us i
  | 0 => by rw [cells_zeroA]; rfl
  | i + 1 => by rw [cells_succ, nrms_append, cellsA_nrm s es us i]; rfl
/-- A disk that was written as far as a list tells. -/
structure CanC (s es us : List Row) : Prop where
  v : VN s es
  l : us.length = s.length
  a : AllIn us 0 es.length us.length
noncomputable def cellsAt (s es us : List Row) : List Row := if CanC s es us then cellsA s es us s.length else []
theorem ca_no1 {s es us : List Row} (h : ¬ VN s es) : cellsAt s es us = [] := by unfold cellsAt; rw [if_neg (fun q => h q.v)]
theorem ca_no2 {s es us : List Row} (h : ¬ (us.length : Int) = s.length) : cellsAt s es us = [] := by unfold cellsAt; rw [if_neg (fun q => h (by have := q.l; omega))]
theorem ca_no3 {s es us : List Row} (h : ¬ AllIn us 0 es.length us.length) : cellsAt s es us = [] := by unfold cellsAt; rw [if_neg (fun q => h q.a)]
theorem ca_yes {s es us : List Row} {i : Int} (h1 : VN s es) (h3 : AllIn us 0 es.length us.length) (h2 : (us.length : Int) = s.length) (hi : ¬ i < s.length) (hi2 : i ≤ s.length) : cellsA s es us i.toNat = cellsAt s es us := by
  unfold cellsAt; rw [if_pos ⟨h1, by omega, h3⟩, show i.toNat = s.length by omega]
theorem cellsAt_len (s es us : List Row) : (cellsAt s es us).length ≤ s.length := by
  unfold cellsAt; split
  · rw [cellsA_len]; exact Nat.le_refl _
  · simp
theorem cellsAt_nrm (s es us : List Row) : nrms KCell (cellsAt s es us) = cellsAt s es us := by
  unfold cellsAt; split
  · exact cellsA_nrm _ _ _ _
  · rfl
theorem ai_at {us : List Row} {m i : Int} (h : AllIn us 0 m us.length) (h0 : 0 ≤ i) (hi : i < us.length) : 0 ≤ (rc (row us i.toNat) 0).int ∧ (rc (row us i.toNat) 0).int ≤ m := h.h i.toNat (by omega)
noncomputable def cCellsAt : Ct := ⟨[], fun ds K => match ds with
  | [.view ks s, .view js es, .view ls us] => ks = KInt ∧ js = KNote ∧ ls = KInt ∧ (s.length ≤ 1048576 ∧ (es.length : Int) < big ∧ (us.length : Int) < big) ∧ K (.fr 50 KCell (cellsAt s es us)) []
  | _ => False⟩
set_option maxRecDepth 100000 in
set_option maxHeartbeats 8000000 in
theorem p_sCellsAt : Proved 27 cCellsAt := by
  refine proved_of [(42, cVN), (53, cAllIn), (54, cCellAt)] ⟨p_svN, p_allIn, p_cellAt, trivial⟩ [.tmp 6] Try.func27 rfl rfl rfl rfl (by kernel_rfl) ?_
  intro ds K hrel
  simp only [cCellsAt] at hrel
  split at hrel
  case h_2 => exact hrel.elim
  rename_i ks s js es ls us
  obtain ⟨rfl, rfl, rfl, ⟨h1, h2, h3⟩, hrel⟩ := hrel
  refine ⟨rfl, Nat.le_of_ble_eq_true rfl, fun k σ => match k with
    | 5 => some { α := Lv 5 Int, R := fun ⟨i⟩ => (0 ≤ i ∧ i ≤ s.length ∧ (us.length : Int) ≤ s.length ∧ (s.length : Int) ≤ us.length) ∧ VN s es ∧ AllIn us 0 es.length us.length, μ := fun ⟨i⟩ => (s.length - i).toNat, st := fun ⟨i⟩ => upH σ [(8, .int .i64 i), (7, .own 0)] 0 (.rows 50 KCell (cellsA s es us i.toNat)) }
    | _ => none, ?_⟩
  repeat' (first | with_reducible refine And.intro ?_ ?_ | (with_reducible intro h; first | (exact absurd h (by decide)) | (guard_hyp h : true = true; clear h) | (guard_hyp h : false = false; clear h) | (have hq := (h : Lv 5 _); clear hq; obtain ⟨_⟩ := h) | skip) | with_reducible exact True.intro | ((with_reducible refine (id ?_ : @Eq Bool (nodupN _) true)); kernel_rfl) | ((with_reducible refine (id ?_ : @Eq Bool (apartN _ _) true)); kernel_rfl) | ((with_reducible refine (id ?_ : @Eq Bool (formL _ _) true)); kernel_rfl) | ((with_reducible refine (id ?_ : @Eq _ _ _)); exact rfl) | ((conv => whnf); first | done | with_reducible refine And.intro ?_ ?_ | (with_reducible intro h; first | (exact absurd h (by decide)) | (guard_hyp h : true = true; clear h) | (guard_hyp h : false = false; clear h) | (have hq := (h : Lv 5 _); clear hq; obtain ⟨_⟩ := h) | skip) | with_reducible exact True.intro | ((with_reducible refine (id ?_ : @Eq _ _ _)); exact rfl) | refine Exists.intro (⟨?_⟩ : Lv 5 _) ?_ | refine Exists.intro _ (Exists.intro _ (And.intro hrel ?_)) | exact Or.inl rfl | exact Or.inr (And.intro rfl rfl) | (apply Exists.intro; refine And.intro ?_ ?_)) | exact Nat.le_of_ble_eq_true rfl)
  all_goals (try ((try (change _ = _)) <;> (try dsimp only at *) <;> (try simp only [decide_eq_true_eq, decide_eq_false_iff_not, Bool.not_eq_true', Bool.not_eq_false', Bool.and_eq_true, Bool.and_eq_false_iff, beq_iff_eq, bne_iff_ne, beq_eq_false_iff_ne, bne_eq_false_iff_eq, ne_eq, Decidable.not_not, bne_self_eq_false, Bool.false_eq_true, Bool.true_eq_false, Bool.not_true, Bool.not_false, not_true_eq_false, not_false_eq_true, Int.toNat_natCast, Nat.zero_add, Nat.reduceAdd, Nat.reduceMul, Nat.reduceDiv, Nat.mul_one, lenK_one, big, fill_len, marking_len, marks_len, nrms_len, List.length_set, List.length_append, List.length_map, List.length_replicate, List.length_cons, List.length_nil, Int.natCast_add, Int.natCast_one, Int.natCast_zero, cellsA_len] at *) <;> (repeat (with_reducible rename _ ∧ _ => hh; obtain ⟨_, _⟩ := hh)) <;> (first | omega | (refine fits_i64 ?_; omega) | (split <;> omega) | (with_reducible assumption) | (with_reducible exact cells_zero' _ _ _) | (with_reducible exact (cells_zero' _ _ _).symm) | exact cells_stepI (by omega) | exact (cells_stepI (by omega)).symm | exact ca_no1 (by with_reducible assumption) | exact ca_no2 (by omega) | exact ca_no3 (by with_reducible assumption) | exact ca_yes (by with_reducible assumption) (by with_reducible assumption) (by omega) (by omega) (by omega) | exact (ai_at (by with_reducible assumption) (by omega) (by omega)).1 | exact (ai_at (by with_reducible assumption) (by omega) (by omega)).2)))
def cUntil : Ct := ⟨[], fun ds K => match ds with
  | [.bx [.view ks bs, .int .i64 p], .view js s, .view ls es] => ks = KU8 ∧ js = KInt ∧ ls = KNote ∧ Bytes bs ∧ (0 ≤ p ∧ p ≤ 1000) ∧ (s.length ≤ 100 ∧ es.length ≤ 1000) ∧ ∀ (us : List Row) (q : Int), (us.length ≤ 100) → (0 ≤ q ∧ q ≤ p + s.length) → K (.fr 3 KInt us) [.bx [.view KU8 bs, .int .i64 q]]
  | _ => False⟩
set_option maxRecDepth 100000 in
set_option maxHeartbeats 8000000 in
theorem p_someUntil : Proved 56 cUntil := by
  refine proved_of [(75, cPick)] ⟨p_pick, trivial⟩ [.tmp 6] Try.func56 rfl rfl rfl rfl (by kernel_rfl) ?_
  intro ds K hrel
  simp only [cUntil] at hrel
  split at hrel
  case h_2 => exact hrel.elim
  rename_i ks bs p js s ls es
  obtain ⟨rfl, rfl, rfl, hb, ⟨h1, h2⟩, ⟨h3, h4⟩, hrel⟩ := hrel
  refine ⟨rfl, Nat.le_of_ble_eq_true rfl, fun k σ => match k with
    | 3 => some { α := Lv 3 (List Row × Int × Int), R := fun ⟨(us, q, i)⟩ => (0 ≤ i ∧ i ≤ s.length ∧ 0 ≤ q ∧ q ≤ p + i ∧ us.length ≤ i), μ := fun ⟨(_, _, i)⟩ => (s.length - i).toNat, st := fun ⟨(us, q, i)⟩ => upW σ [(8, .int .i64 i), (7, .own 1)] (setH (setH σ.hp 0 (some (.box [.view KU8 bs, .int .i64 q]))) 1 (some (.rows 3 KInt us))) }
    | _ => none, ?_⟩
  repeat' (first | with_reducible refine And.intro ?_ ?_ | (with_reducible intro h; first | (exact absurd h (by decide)) | (guard_hyp h : true = true; clear h) | (guard_hyp h : false = false; clear h) | (have hq := (h : Lv 3 _); clear hq; obtain ⟨_, _, _⟩ := h) | skip) | with_reducible exact True.intro | ((with_reducible refine (id ?_ : @Eq Bool (nodupN _) true)); kernel_rfl) | ((with_reducible refine (id ?_ : @Eq Bool (apartN _ _) true)); kernel_rfl) | ((with_reducible refine (id ?_ : @Eq Bool (formL _ _) true)); kernel_rfl) | ((with_reducible refine (id ?_ : @Eq _ _ _)); exact rfl) | ((conv => whnf); first | done | with_reducible refine And.intro ?_ ?_ | (with_reducible intro h; first | (exact absurd h (by decide)) | (guard_hyp h : true = true; clear h) | (guard_hyp h : false = false; clear h) | (have hq := (h : Lv 3 _); clear hq; obtain ⟨_, _, _⟩ := h) | skip) | with_reducible exact True.intro | ((with_reducible refine (id ?_ : @Eq _ _ _)); exact rfl) | (refine Exists.intro _ (Exists.intro _ (And.intro (hrel ?_ ?_ ?_ ?_) ?_))) | refine Exists.intro (⟨(?_, ?_, ?_)⟩ : Lv 3 _) ?_ | refine Exists.intro _ (Exists.intro _ (And.intro hrel ?_)) | exact Or.inl rfl | exact Or.inr (And.intro rfl rfl) | (apply Exists.intro; refine And.intro ?_ ?_)) | exact Nat.le_of_ble_eq_true rfl)
  all_goals (try ((repeat (with_reducible rename PickR _ _ => hq; have hq1 := hq.lo; have hq2 := hq.hi; have hq3 := hq.zero; clear hq)) <;> (try (change _ = _)) <;> (try dsimp only at *) <;> (try simp only [decide_eq_true_eq, decide_eq_false_iff_not, Bool.not_eq_true', Bool.not_eq_false', Bool.and_eq_true, Bool.and_eq_false_iff, beq_iff_eq, bne_iff_ne, beq_eq_false_iff_ne, bne_eq_false_iff_eq, ne_eq, Decidable.not_not, bne_self_eq_false, Bool.false_eq_true, Bool.true_eq_false, Bool.not_true, Bool.not_false, not_true_eq_false, not_false_eq_true, Int.toNat_natCast, Nat.zero_add, Nat.reduceAdd, Nat.reduceMul, Nat.reduceDiv, Nat.mul_one, lenK_one, big, fill_len, marking_len, marks_len, nrms_len, List.length_set, List.length_append, List.length_map, List.length_replicate, List.length_cons, List.length_nil, Int.natCast_add, Int.natCast_one, Int.natCast_zero, memI_i, memI_nil, or_false, false_or] at *) <;> (repeat (with_reducible rename _ ∧ _ => hh; obtain ⟨_, _⟩ := hh)) <;> (first | omega | (refine fits_i64 ?_; omega) | (split <;> omega) | (with_reducible assumption) | rfl)))
theorem ca_le {s es us : List Row} (h : s.length ≤ 7) : (cellsAt s es us).length ≤ 7 := Nat.le_trans (cellsAt_len s es us) h
theorem nrms_set0 {xs : List Row} {i : Nat} {a b : Int} (h : nrms KCell xs = xs) : nrms KCell (xs.set i (pasteR (row xs i) 0 [.i a, .i b])) = xs.set i (pasteR (row xs i) 0 [.i a, .i b]) := by
  by_cases hl : i < xs.length
  · have e : nrm KCell (row xs i) = row xs i := by rw [← row_nrms hl, h]
    refine nrms_set' h ?_
    rw [← e]; rfl
  · rw [List.set_eq_of_length_le (by omega), h]
theorem nrms_set0' {s es us : List Row} {i : Nat} {a b : Int} : nrms KCell ((cellsAt s es us).set i (pasteR (row (cellsAt s es us) i) 0 [.i a, .i b])) = (cellsAt s es us).set i (pasteR (row (cellsAt s es us) i) 0 [.i a, .i b]) := nrms_set0 (cellsAt_nrm _ _ _)
def cACells : Ct := ⟨[], fun ds K => match ds with
  | [.bx [.view ks bs, .int .i64 p]] => ks = KU8 ∧ Bytes bs ∧ (0 ≤ p ∧ p ≤ 700) ∧ ∀ (c es : List Row) (q : Int), (1 ≤ c.length ∧ c.length ≤ 7) → (nrms KCell c = c) → es.length ≤ 21 → (nrms KNote es = es) → (0 ≤ q ∧ q ≤ p + 130) → K (.tup [.fr 50 KCell c, .view KNote es]) [.bx [.view KU8 bs, .int .i64 q]]
  | _ => False⟩
set_option maxRecDepth 100000 in
set_option maxHeartbeats 16000000 in
theorem p_anyCells : Proved 60 cACells := by
  refine proved_of [(75, cPick), (65, cOne), (47, cANotes), (56, cUntil), (27, cCellsAt)] ⟨p_pick, p_one, p_anyNotes, p_someUntil, p_sCellsAt, trivial⟩ [.tmp 2, .tmp 3] Try.func60 rfl rfl rfl rfl (by kernel_rfl) ?_
  intro ds K hrel
  simp only [cACells] at hrel
  split at hrel
  case h_2 => exact hrel.elim
  rename_i ks bs p
  obtain ⟨rfl, hb, ⟨h1, h2⟩, hrel⟩ := hrel
  refine ⟨rfl, Nat.le_of_ble_eq_true rfl, fun _ _ => none, ?_⟩
  repeat' (first | with_reducible refine And.intro ?_ ?_ | (with_reducible intro h; first | (exact absurd h (by decide)) | (guard_hyp h : true = true; clear h) | (guard_hyp h : false = false; clear h) | skip) | with_reducible exact True.intro | ((with_reducible refine (id ?_ : @Eq Bool (nodupN _) true)); kernel_rfl) | ((with_reducible refine (id ?_ : @Eq Bool (apartN _ _) true)); kernel_rfl) | ((with_reducible refine (id ?_ : @Eq Bool (formL _ _) true)); kernel_rfl) | ((with_reducible refine (id ?_ : @Eq _ _ _)); exact rfl) | ((conv => whnf); first | done | with_reducible refine And.intro ?_ ?_ | (with_reducible intro h; first | (exact absurd h (by decide)) | (guard_hyp h : true = true; clear h) | (guard_hyp h : false = false; clear h) | skip) | with_reducible exact True.intro | ((with_reducible refine (id ?_ : @Eq _ _ _)); exact rfl) | (refine Exists.intro _ (Exists.intro _ (And.intro (hrel ?_ ?_ ?_ ?_ ?_ ?_ ?_ ?_) ?_))) | refine Exists.intro _ (Exists.intro _ (And.intro hrel ?_)) | exact Or.inl rfl | exact Or.inr (And.intro rfl rfl) | (apply Exists.intro; refine And.intro ?_ ?_)) | exact Nat.le_of_ble_eq_true rfl)
  all_goals (try ((repeat (with_reducible rename PickR _ _ => hq; have hq1 := hq.lo; have hq2 := hq.hi; have hq3 := hq.zero; clear hq)) <;> (try (change _ = _)) <;> (try dsimp only at *) <;> (try simp only [decide_eq_true_eq, decide_eq_false_iff_not, Bool.not_eq_true', Bool.not_eq_false', Bool.and_eq_true, Bool.and_eq_false_iff, beq_iff_eq, bne_iff_ne, beq_eq_false_iff_ne, bne_eq_false_iff_eq, ne_eq, Decidable.not_not, bne_self_eq_false, Bool.false_eq_true, Bool.true_eq_false, Bool.not_true, Bool.not_false, not_true_eq_false, not_false_eq_true, Int.toNat_natCast, Nat.zero_add, Nat.reduceAdd, Nat.reduceMul, Nat.reduceDiv, Nat.mul_one, lenK_one, big, fill_len, marking_len, marks_len, nrms_len, List.length_set, List.length_append, List.length_map, List.length_replicate, List.length_cons, List.length_nil, Int.natCast_add, Int.natCast_one, Int.natCast_zero, memI_i, memI_nil, or_false, false_or] at *) <;> (repeat (with_reducible rename _ ∧ _ => hh; obtain ⟨_, _⟩ := hh)) <;> (first | omega | (refine fits_i64 ?_; omega) | (split <;> omega) | (with_reducible assumption) | (with_reducible exact ca_le (by assumption)) | exact cellsAt_nrm _ _ _ | exact nrms_set0' | rfl | (have q := ca_le (es := _) (us := _) (by assumption); omega))))
def cDRC : Ct := ⟨[], fun ds K => match ds with
  | [.view ks xs] => ks = KU8 ∧ (xs.length : Int) < big ∧ (∀ i, i < xs.length → RowOk KU8 (row xs i)) ∧ ∀ (c es : List Row), (1 ≤ c.length ∧ c.length ≤ 7) → (nrms KCell c = c) → es.length ≤ 21 → (nrms KNote es = es) → K (.tup [.fr 50 KCell c, .view KNote es]) []
  | _ => False⟩
end Go.Proofs.Ytkjdhfkihampjaa.V
