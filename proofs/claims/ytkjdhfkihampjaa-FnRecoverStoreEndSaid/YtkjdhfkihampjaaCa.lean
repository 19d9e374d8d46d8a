/-
  Cells and notes: which ones can be repeated.
-/
import Derived.Test.YtkjdhfkihampjaaNo
set_option linter.unusedSimpArgs false
set_option linter.unusedVariables false
namespace Go.Proofs.Ytkjdhfkihampjaa.V
open Go Go.RowKit
open Classical

/-- A cell that is possible. -/
structure CellOk (r : Row) : Prop where
  n0 : 0 ≤ (rc r 0).int
  n1 : (rc r 0).int ≤ 999999
  l0 : 0 ≤ (rc r 1).int
  l1 : (rc r 1).int ≤ 20
structure CellsN (c : List Row) (n : Int) : Prop where
  h : ∀ j : Nat, (j : Int) < n → CellOk (row c j)
theorem cells_zero (c : List Row) : CellsN c 0 := ⟨fun j h => by omega⟩
theorem cells_step {c : List Row} {i : Int} (h : CellsN c i) (h1 : CellOk (row c i.toNat)) : CellsN c (i + 1) := ⟨fun j hj => by
  by_cases e : (j : Int) = i
  · subst e; exact h1
  · exact h.h j (by omega)⟩
theorem cell_no {r : Row} (h : ¬ (0 ≤ (rc r 0).int ∧ (rc r 0).int ≤ 999999 ∧ 0 ≤ (rc r 1).int ∧ (rc r 1).int ≤ 20)) : ¬ CellOk r := fun q => h ⟨q.n0, q.n1, q.l0, q.l1⟩
theorem cell_yes {r : Row} (h : 0 ≤ (rc r 0).int ∧ (rc r 0).int ≤ 999999 ∧ 0 ≤ (rc r 1).int ∧ (rc r 1).int ≤ 20) : CellOk r := ⟨h.1, h.2.1, h.2.2.1, h.2.2.2⟩
/-- A note that is possible for m cells. -/
structure NoteOk (m : Int) (r : Row) : Prop where
  o0 : 0 ≤ (rc r 1).int
  o7 : (rc r 1).int ≤ 7
  t0 : 0 ≤ (rc r 2).int
  tm : (rc r 2).int < m
  d0 : 0 ≤ (rc r 3).int
  d1 : (rc r 3).int ≤ 999999
  w0 : 0 ≤ (rc r 4).int
  w1 : (rc r 4).int ≤ 999999
structure NotesN (m : Int) (es : List Row) (n : Int) : Prop where
  h : ∀ j : Nat, (j : Int) < n → NoteOk m (row es j)
theorem notes_zero (m : Int) (es : List Row) : NotesN m es 0 := ⟨fun j h => by omega⟩
theorem notes_step {m : Int} {es : List Row} {i : Int} (h : NotesN m es i) (h1 : NoteOk m (row es i.toNat)) : NotesN m es (i + 1) := ⟨fun j hj => by
  by_cases e : (j : Int) = i
  · subst e; exact h1
  · exact h.h j (by omega)⟩
def noteC (m : Int) (r : Row) : Prop := 0 ≤ (rc r 1).int ∧ (rc r 1).int ≤ 7 ∧ 0 ≤ (rc r 2).int ∧ (rc r 2).int < m ∧ 0 ≤ (rc r 3).int ∧ (rc r 3).int ≤ 999999 ∧ 0 ≤ (rc r 4).int ∧ (rc r 4).int ≤ 999999
theorem note_no {m : Int} {r : Row} (h : ¬ (0 ≤ (rc r 1).int ∧ (rc r 1).int ≤ 7 ∧ 0 ≤ (rc r 2).int ∧ (rc r 2).int < m ∧ 0 ≤ (rc r 3).int ∧ (rc r 3).int ≤ 999999 ∧ 0 ≤ (rc r 4).int ∧ (rc r 4).int ≤ 999999)) : ¬ NoteOk m r := fun q => h ⟨q.o0, q.o7, q.t0, q.tm, q.d0, q.d1, q.w0, q.w1⟩
theorem note_yes {m : Int} {r : Row} (h : 0 ≤ (rc r 1).int ∧ (rc r 1).int ≤ 7 ∧ 0 ≤ (rc r 2).int ∧ (rc r 2).int < m ∧ 0 ≤ (rc r 3).int ∧ (rc r 3).int ≤ 999999 ∧ 0 ≤ (rc r 4).int ∧ (rc r 4).int ≤ 999999) : NoteOk m r :=
  ⟨h.1, h.2.1, h.2.2.1, h.2.2.2.1, h.2.2.2.2.1, h.2.2.2.2.2.1, h.2.2.2.2.2.2.1, h.2.2.2.2.2.2.2⟩
structure VCells (c : List Row) : Prop where
  c1 : 1 ≤ c.length
  c6 : c.length ≤ 6
  ce : CellsN c c.length
theorem vc_bad {c : List Row} {i : Int} (_ : CellsN c i) (h0 : 0 ≤ i) (hi : i < c.length) (h : ¬ CellOk (row c i.toNat)) : ¬ VCells c := fun v => h (v.ce.h i.toNat (by omega))
theorem vc_all {c : List Row} {i : Int} (h : CellsN c i) (hi : ¬ i < c.length) : CellsN c c.length := ⟨fun j hj => h.h j (by omega)⟩
theorem vc_pick {c : List Row} {i : Int} (h : CellsN c i) (hi : ¬ i < c.length) : (decide (1 ≤ (c.length : Int)) && decide ((c.length : Int) ≤ 6)) = decide (VCells c) := by
  by_cases hl : 1 ≤ (c.length : Int) ∧ (c.length : Int) ≤ 6
  · rw [← true_eq (p := VCells c) ⟨by omega, by omega, vc_all h hi⟩]; simp [hl]
  · rw [← false_eq (p := VCells c) (fun v => hl ⟨by have := v.c1; omega, by have := v.c6; omega⟩)]; simp only [Bool.and_eq_false_iff, decide_eq_false_iff_not]; omega
noncomputable def cVCells : Ct := ⟨[], fun ds K => match ds with
  | [.view ks c] => ks = KCell ∧ (c.length : Int) < big ∧ K (.bool (decide (VCells c))) []
  | _ => False⟩
set_option maxRecDepth 100000 in
set_option maxHeartbeats 4000000 in
theorem p_validCells : Proved 77 cVCells := by
  refine proved_of [(66, cInRange)] ⟨p_inRange, trivial⟩ [.tmp 2] Try.func77 rfl rfl rfl rfl (by kernel_rfl) ?_
  intro ds K hrel
  simp only [cVCells] at hrel
  split at hrel
  case h_2 => exact hrel.elim
  rename_i ks c
  obtain ⟨rfl, h1, hrel⟩ := hrel
  refine ⟨rfl, Nat.le_of_ble_eq_true rfl, fun k σ => match k with
    | 2 => some { α := Lv 2 Int, R := fun ⟨i⟩ => (0 ≤ i ∧ i ≤ c.length) ∧ CellsN c i, μ := fun ⟨i⟩ => (c.length - i).toNat, st := fun ⟨i⟩ => up σ [(3, .int .i64 i)] }
    | _ => none, ?_⟩
  repeat' (first | with_reducible refine And.intro ?_ ?_ | (with_reducible intro h; first | (exact absurd h (by decide)) | (guard_hyp h : true = true; clear h) | (guard_hyp h : false = false; clear h) | (have hq := (h : Lv 2 _); clear hq; obtain ⟨_⟩ := h) | skip) | with_reducible exact True.intro | ((with_reducible refine (id ?_ : @Eq Bool (nodupN _) true)); kernel_rfl) | ((with_reducible refine (id ?_ : @Eq Bool (apartN _ _) true)); kernel_rfl) | ((with_reducible refine (id ?_ : @Eq Bool (formL _ _) true)); kernel_rfl) | ((with_reducible refine (id ?_ : @Eq _ _ _)); exact rfl) | ((conv => whnf); first | done | with_reducible refine And.intro ?_ ?_ | (with_reducible intro h; first | (exact absurd h (by decide)) | (guard_hyp h : true = true; clear h) | (guard_hyp h : false = false; clear h) | (have hq := (h : Lv 2 _); clear hq; obtain ⟨_⟩ := h) | skip) | with_reducible exact True.intro | ((with_reducible refine (id ?_ : @Eq _ _ _)); exact rfl) | refine Exists.intro (⟨?_⟩ : Lv 2 _) ?_ | refine Exists.intro _ (Exists.intro _ (And.intro hrel ?_)) | exact Or.inl rfl | exact Or.inr (And.intro rfl rfl) | (apply Exists.intro; refine And.intro ?_ ?_)) | exact Nat.le_of_ble_eq_true rfl)
  all_goals (try ((try (change _ = _)) <;> (try dsimp only at *) <;> (try simp only [decide_eq_true_eq, decide_eq_false_iff_not, Bool.not_eq_true', Bool.not_eq_false', Bool.and_eq_true, Bool.and_eq_false_iff, beq_iff_eq, bne_iff_ne, beq_eq_false_iff_ne, bne_eq_false_iff_eq, ne_eq, Decidable.not_not, bne_self_eq_false, Bool.false_eq_true, Bool.true_eq_false, Bool.not_true, Bool.not_false, not_true_eq_false, not_false_eq_true, Int.toNat_natCast, Nat.zero_add, Nat.reduceAdd, Nat.reduceMul, Nat.reduceDiv, Nat.mul_one, lenK_one, big, fill_len, marking_len, marks_len, nrms_len, List.length_set, List.length_append, List.length_map, List.length_replicate, List.length_cons, List.length_nil, Int.natCast_add, Int.natCast_one, Int.natCast_zero] at *) <;> (repeat (with_reducible rename _ ∧ _ => hh; obtain ⟨_, _⟩ := hh)) <;> (first | omega | (refine fits_i64 ?_; omega) | (split <;> omega) | exact cells_zero _ | exact cells_step (by with_reducible assumption) (cell_yes (by omega)) | exact false_eq (vc_bad (by with_reducible assumption) (by omega) (by omega) (cell_no (by omega))) | exact vc_pick (by with_reducible assumption) (by omega))))

/-- Notes that can be repeated on cells. -/
structure Usable (c es : List Row) : Prop where
  v : VCells c
  n : es.length ≤ 20
  no : NotesN c.length es es.length
theorem us_bad {c es : List Row} {i : Int} (_ : NotesN c.length es i) (h0 : 0 ≤ i) (hi : i < es.length) (h : ¬ NoteOk c.length (row es i.toNat)) : ¬ Usable c es := fun v => h (v.no.h i.toNat (by omega))
theorem us_all {m : Int} {es : List Row} {i : Int} (h : NotesN m es i) (hi : ¬ i < es.length) : NotesN m es es.length := ⟨fun j hj => h.h j (by omega)⟩
theorem us_pick {c es : List Row} {i : Int} (h : NotesN c.length es i) (hv : VCells c) (hi : ¬ i < es.length) : decide ((es.length : Int) ≤ 20) = decide (Usable c es) := by
  rw [decide_eq_decide]; exact ⟨fun q => ⟨hv, by omega, us_all h hi⟩, fun v => by have := v.n; omega⟩
theorem us_len {c es : List Row} (h : ¬ (1 ≤ (c.length : Int) ∧ (c.length : Int) ≤ 6 ∧ (es.length : Int) ≤ 20)) : ¬ Usable c es := fun v => h ⟨by have := v.v.c1; omega, by have := v.v.c6; omega, by have := v.n; omega⟩
theorem us_cell {c es : List Row} {i : Int} (hc : CellsN c i) (h0 : 0 ≤ i) (hi : i < c.length) (h : ¬ CellOk (row c i.toNat)) : ¬ Usable c es := fun v => vc_bad hc h0 hi h v.v
theorem us_yes {c es : List Row} {i : Int} (h : NotesN c.length es i) (hc : CellsN c c.length) (hi : ¬ i < es.length) (hl : 1 ≤ (c.length : Int) ∧ (c.length : Int) ≤ 6 ∧ (es.length : Int) ≤ 20) : true = decide (Usable c es) :=
  true_eq ⟨⟨by omega, by omega, hc⟩, by omega, us_all h hi⟩
noncomputable def cUs : Ct := ⟨[], fun ds K => match ds with
  | [.view ks c, .view js es] => ks = KCell ∧ js = KNote ∧ ((c.length : Int) < big ∧ (es.length : Int) < big) ∧ K (.bool (decide (Usable c es))) []
  | _ => False⟩
set_option maxRecDepth 100000 in
set_option maxHeartbeats 4000000 in
theorem p_usable : Proved 62 cUs := by
  refine proved_of [(66, cInRange), (77, cVCells)] ⟨p_inRange, p_validCells, trivial⟩ [.tmp 4] Try.func62 rfl rfl rfl rfl (by kernel_rfl) ?_
  intro ds K hrel
  simp only [cUs] at hrel
  split at hrel
  case h_2 => exact hrel.elim
  rename_i ks c js es
  obtain ⟨rfl, rfl, ⟨h1, h2⟩, hrel⟩ := hrel
  refine ⟨rfl, Nat.le_of_ble_eq_true rfl, fun k σ => match k with
    | 2 => some { α := Lv 2 Int, R := fun ⟨i⟩ => (0 ≤ i ∧ i ≤ es.length) ∧ NotesN c.length es i, μ := fun ⟨i⟩ => (es.length - i).toNat, st := fun ⟨i⟩ => up σ [(5, .int .i64 i)] }
    | _ => none, ?_⟩
  repeat' (first | with_reducible refine And.intro ?_ ?_ | (with_reducible intro h; first | (exact absurd h (by decide)) | (guard_hyp h : true = true; clear h) | (guard_hyp h : false = false; clear h) | (have hq := (h : Lv 2 _); clear hq; obtain ⟨_⟩ := h) | skip) | with_reducible exact True.intro | ((with_reducible refine (id ?_ : @Eq Bool (nodupN _) true)); kernel_rfl) | ((with_reducible refine (id ?_ : @Eq Bool (apartN _ _) true)); kernel_rfl) | ((with_reducible refine (id ?_ : @Eq Bool (formL _ _) true)); kernel_rfl) | ((with_reducible refine (id ?_ : @Eq _ _ _)); exact rfl) | ((conv => whnf); first | done | with_reducible refine And.intro ?_ ?_ | (with_reducible intro h; first | (exact absurd h (by decide)) | (guard_hyp h : true = true; clear h) | (guard_hyp h : false = false; clear h) | (have hq := (h : Lv 2 _); clear hq; obtain ⟨_⟩ := h) | skip) | with_reducible exact True.intro | ((with_reducible refine (id ?_ : @Eq _ _ _)); exact rfl) | refine Exists.intro (⟨?_⟩ : Lv 2 _) ?_ | refine Exists.intro _ (Exists.intro _ (And.intro hrel ?_)) | exact Or.inl rfl | exact Or.inr (And.intro rfl rfl) | (apply Exists.intro; refine And.intro ?_ ?_)) | exact Nat.le_of_ble_eq_true rfl)
  all_goals (try ((try (change _ = _)) <;> (try dsimp only at *) <;> (try simp only [decide_eq_true_eq, decide_eq_false_iff_not, Bool.not_eq_true', Bool.not_eq_false', Bool.and_eq_true, Bool.and_eq_false_iff, beq_iff_eq, bne_iff_ne, beq_eq_false_iff_ne, bne_eq_false_iff_eq, ne_eq, Decidable.not_not, bne_self_eq_false, Bool.false_eq_true, Bool.true_eq_false, Bool.not_true, Bool.not_false, not_true_eq_false, not_false_eq_true, Int.toNat_natCast, Nat.zero_add, Nat.reduceAdd, Nat.reduceMul, Nat.reduceDiv, Nat.mul_one, lenK_one, big, fill_len, marking_len, marks_len, nrms_len, List.length_set, List.length_append, List.length_map, List.length_replicate, List.length_cons, List.length_nil, Int.natCast_add, Int.natCast_one, Int.natCast_zero] at *) <;> (repeat (with_reducible rename _ ∧ _ => hh; obtain ⟨_, _⟩ := hh)) <;> (first | omega | (refine fits_i64 ?_; omega) | (split <;> omega) | exact notes_zero _ _ | exact notes_step (by with_reducible assumption) (note_yes (by omega)) | exact false_eq (us_bad (by with_reducible assumption) (by omega) (by omega) (note_no (by omega))) | exact us_pick (by with_reducible assumption) (by with_reducible assumption) (by omega) | exact false_eq (fun q => absurd q.v (by with_reducible assumption)))))
set_option maxRecDepth 100000 in
set_option maxHeartbeats 4000000 in
theorem p_canRedo : Proved 58 cUs := by
  refine proved_of [] trivial [.tmp 4] Try.func58 rfl rfl rfl rfl (by kernel_rfl) ?_
  intro ds K hrel
  simp only [cUs] at hrel
  split at hrel
  case h_2 => exact hrel.elim
  rename_i ks c js es
  obtain ⟨rfl, rfl, ⟨h1, h2⟩, hrel⟩ := hrel
  refine ⟨rfl, Nat.le_of_ble_eq_true rfl, fun k σ => match k with
    | 4 => some { α := Lv 4 Int, R := fun ⟨i⟩ => (0 ≤ i ∧ i ≤ c.length ∧ 1 ≤ (c.length : Int) ∧ (c.length : Int) ≤ 6 ∧ (es.length : Int) ≤ 20) ∧ CellsN c i, μ := fun ⟨i⟩ => (c.length - i).toNat, st := fun ⟨i⟩ => up σ [(24, .int .i64 i)] }
    | 10 => some { α := Lv 10 Int, R := fun ⟨i⟩ => (0 ≤ i ∧ i ≤ es.length ∧ 1 ≤ (c.length : Int) ∧ (c.length : Int) ≤ 6 ∧ (es.length : Int) ≤ 20) ∧ CellsN c c.length ∧ NotesN c.length es i, μ := fun ⟨i⟩ => (es.length - i).toNat, st := fun ⟨i⟩ => up σ [(49, .int .i64 i)] }
    | _ => none, ?_⟩
  repeat' (first | with_reducible refine And.intro ?_ ?_ | (with_reducible intro h; first | (exact absurd h (by decide)) | (guard_hyp h : true = true; clear h) | (guard_hyp h : false = false; clear h) | (have hq := (h : Lv 4 _); clear hq; obtain ⟨_⟩ := h) | (have hq := (h : Lv 10 _); clear hq; obtain ⟨_⟩ := h) | skip) | with_reducible exact True.intro | ((with_reducible refine (id ?_ : @Eq Bool (nodupN _) true)); kernel_rfl) | ((with_reducible refine (id ?_ : @Eq Bool (apartN _ _) true)); kernel_rfl) | ((with_reducible refine (id ?_ : @Eq Bool (formL _ _) true)); kernel_rfl) | ((with_reducible refine (id ?_ : @Eq _ _ _)); exact rfl) | ((conv => whnf); first | done | with_reducible refine And.intro ?_ ?_ | (with_reducible intro h; first | (exact absurd h (by decide)) | (guard_hyp h : true = true; clear h) | (guard_hyp h : false = false; clear h) | (have hq := (h : Lv 4 _); clear hq; obtain ⟨_⟩ := h) | (have hq := (h : Lv 10 _); clear hq; obtain ⟨_⟩ := h) | skip) | with_reducible exact True.intro | ((with_reducible refine (id ?_ : @Eq _ _ _)); exact rfl) | refine Exists.intro (⟨?_⟩ : Lv 4 _) ?_ | refine Exists.intro (⟨?_⟩ : Lv 10 _) ?_ | refine Exists.intro _ (Exists.intro _ (And.intro hrel ?_)) | exact Or.inl rfl | exact Or.inr (And.intro rfl rfl) | (apply Exists.intro; refine And.intro ?_ ?_)) | exact Nat.le_of_ble_eq_true rfl)
  all_goals (try ((try (change _ = _)) <;> (try dsimp only at *) <;> (try simp only [decide_eq_true_eq, decide_eq_false_iff_not, Bool.not_eq_true', Bool.not_eq_false', Bool.and_eq_true, Bool.and_eq_false_iff, beq_iff_eq, bne_iff_ne, beq_eq_false_iff_ne, bne_eq_false_iff_eq, ne_eq, Decidable.not_not, bne_self_eq_false, Bool.false_eq_true, Bool.true_eq_false, Bool.not_true, Bool.not_false, not_true_eq_false, not_false_eq_true, Int.toNat_natCast, Nat.zero_add, Nat.reduceAdd, Nat.reduceMul, Nat.reduceDiv, Nat.mul_one, lenK_one, big, fill_len, marking_len, marks_len, nrms_len, List.length_set, List.length_append, List.length_map, List.length_replicate, List.length_cons, List.length_nil, Int.natCast_add, Int.natCast_one, Int.natCast_zero] at *) <;> (repeat (with_reducible rename _ ∧ _ => hh; obtain ⟨_, _⟩ := hh)) <;> (first | omega | (refine fits_i64 ?_; omega) | (split <;> omega) | exact cells_zero _ | exact cells_step (by with_reducible assumption) (cell_yes (by omega)) | exact false_eq (us_cell (by with_reducible assumption) (by omega) (by omega) (cell_no (by omega))) | exact false_eq (us_len (by omega)) | exact vc_all (by with_reducible assumption) (by omega) | (with_reducible assumption) | exact notes_zero _ _ | exact notes_step (by with_reducible assumption) (note_yes (by omega)) | exact false_eq (us_bad (by with_reducible assumption) (by omega) (by omega) (note_no (by omega))) | exact us_yes (by with_reducible assumption) (by with_reducible assumption) (by omega) (by omega))))
end Go.Proofs.Ytkjdhfkihampjaa.V
