/-
  The edits that undo those of a transaction: program and reference; the law that they answer alike, as a function.
-/
import Derived.Test.YtggahgackpiddaaUh
set_option linter.unusedSimpArgs false
set_option linter.unusedVariables false
namespace Go.Proofs.Ytggahgackpiddaa.V
open Go Go.RowKit
open Classical

/-- The edits of a transaction from a point on can be undone. -/
structure CanUndo (s es : List Row) (who f : Int) : Prop where
  r : CanRun s es
  w0 : 0 ≤ who
  w1 : who ≤ 7
  f0 : 0 ≤ f
  f1 : f ≤ es.length
  al : Alone who (es.drop f.toNat)
  ln : es.length + (undoE who (es.drop f.toNat)).length ≤ 20
noncomputable def undone (s es : List Row) (who f : Int) : List Row := if CanUndo s es who f then undoE who (es.drop f.toNat) else []
theorem und_no {s es : List Row} {who f : Int} (h : ¬ CanUndo s es who f) : undone s es who f = [] := by unfold undone; rw [if_neg h]
theorem und_yes {s es : List Row} {who f : Int} (h : CanUndo s es who f) : undoE who (es.drop f.toNat) = undone s es who f := by unfold undone; rw [if_pos h]
theorem cu_rng {s es : List Row} {who f : Int} (h : ¬ (0 ≤ who ∧ who ≤ 7 ∧ 0 ≤ f ∧ f ≤ es.length)) : ¬ CanUndo s es who f := fun q => h ⟨q.w0, q.w1, q.f0, q.f1⟩
theorem cu_len {s es : List Row} {who f : Int} (h : 20 < (es.length : Int) + (undoE who (es.drop f.toNat)).length) : ¬ CanUndo s es who f := fun q => by have := q.ln; omega
theorem cu_yes {s es : List Row} {who f : Int} (h1 : CanRun s es) (h2 : Alone who (es.drop f.toNat)) (h : 0 ≤ who ∧ who ≤ 7 ∧ 0 ≤ f ∧ f ≤ es.length ∧ ¬ 20 < (es.length : Int) + (undoE who (es.drop f.toNat)).length) : CanUndo s es who f :=
  ⟨h1, h.1, h.2.1, h.2.2.1, h.2.2.2.1, h2, by omega⟩
theorem undo_small (who : Int) (es : List Row) (n : Nat) : (undoE who (es.drop n)).length ≤ es.length := undo_len who es n
noncomputable def cUndo : Ct := ⟨[], fun ds K => match ds with
  | [.view ks s, .view js es, .int .i64 who, .int .i64 f] => ks = KInt ∧ js = KEdit ∧ (s.length ≤ 1048576 ∧ es.length ≤ 1048576) ∧ K (.tup [.fr 29 KEdit (undone s es who f), .bool (decide (CanUndo s es who f))]) []
  | _ => False⟩
set_option maxRecDepth 100000 in
set_option maxHeartbeats 4000000 in
theorem p_sUndo : Proved 30 cUndo := by
  refine proved_of [(46, cVEs), (47, cInRange), (48, cAlone), (49, cRev)] ⟨p_sVEs, p_inRange, p_alone, p_rev, trivial⟩ [.tmp 8, .tmp 9] Try.func30 rfl rfl rfl rfl (by kernel_rfl) ?_
  intro ds K hrel
  simp only [cUndo] at hrel
  split at hrel
  case h_2 => exact hrel.elim
  rename_i ks s js es who f
  obtain ⟨rfl, rfl, ⟨h1, h2⟩, hrel⟩ := hrel
  have hul := undo_small who es f.toNat
  refine ⟨rfl, Nat.le_of_ble_eq_true rfl, fun _ _ => none, ?_⟩
  repeat' (first | refine And.intro ?_ ?_ | (intro h; first | (exact absurd h (by decide)) | (guard_hyp h : true = true; clear h) | (guard_hyp h : false = false; clear h) | skip) | refine Exists.intro _ (Exists.intro _ (And.intro hrel ?_)) | exact rfl | exact True.intro | exact Or.inl rfl | exact Or.inr (And.intro rfl rfl) | exact Nat.le_of_ble_eq_true rfl | (apply Exists.intro; refine And.intro ?_ ?_))
  all_goals (try ((try (change _ = _)) <;> (try dsimp only at *) <;> (try simp only [decide_eq_true_eq, decide_eq_false_iff_not, Bool.not_eq_true', Bool.not_eq_false', Bool.and_eq_true, Bool.and_eq_false_iff, beq_iff_eq, bne_iff_ne, beq_eq_false_iff_ne, bne_eq_false_iff_eq, ne_eq, Decidable.not_not, bne_self_eq_false, Bool.false_eq_true, Bool.true_eq_false, Bool.not_true, Bool.not_false, not_true_eq_false, not_false_eq_true, Int.toNat_natCast, Nat.zero_add, Nat.reduceAdd, Nat.reduceMul, Nat.reduceDiv, Nat.mul_one, lenK_one, big, fill_len, marking_len, marks_len, nrms_len, List.length_set, List.length_append, List.length_map, List.length_replicate, List.length_cons, List.length_nil, Int.natCast_add, Int.natCast_one, Int.natCast_zero] at *) <;> (repeat (with_reducible rename _ ∧ _ => hh; obtain ⟨_, _⟩ := hh)) <;> (first | omega | (refine fits_i64 ?_; omega) | (split <;> omega) | exact und_no (fun h => absurd h.r (by with_reducible assumption)) | exact und_no (fun h => absurd h.al (by with_reducible assumption)) | exact und_no (cu_rng (by omega)) | exact und_no (cu_len (by omega)) | exact und_yes (cu_yes (by with_reducible assumption) (by with_reducible assumption) (by omega)) | exact false_eq (fun h => absurd h.r (by with_reducible assumption)) | exact false_eq (fun h => absurd h.al (by with_reducible assumption)) | exact false_eq (cu_rng (by omega)) | exact false_eq (cu_len (by omega)) | exact true_eq (cu_yes (by with_reducible assumption) (by with_reducible assumption) (by omega)))))

/-- Which things others have edited among the edits of a list. -/
structure OthA (who : Int) (l : List Row) (ar : List Row) : Prop where
  len : ar.length = 6
  h : ∀ t : Nat, t < 6 → ((rc (row ar t) 0).bool = true ↔ ∃ x ∈ l, ¬ (rc x 0).int = who ∧ (rc x 1).int = (t : Int))
theorem othA_nil (who : Int) : OthA who [] (List.replicate 6 [Sc.b false]) := ⟨rfl, fun t ht => by
  have e : row (List.replicate 6 [Sc.b false]) t = [Sc.b false] := by
    unfold row
    rw [List.getD_eq_getElem?_getD, List.getElem?_replicate, if_pos ht]; rfl
  rw [e]
  simp [rc]⟩
theorem othA_zero {who : Int} (es : List Row) : OthA who (es.drop ((es.length : Int) - 1 + 1).toNat) (List.replicate 6 [Sc.b false]) := by
  rw [List.drop_of_length_le (by omega)]; exact othA_nil who
theorem othA_set {who : Int} {es ar : List Row} {i : Int} (h : OthA who (es.drop (i + 1).toNat) ar) (h0 : 0 ≤ i) (hi : i < es.length) (hw : ¬ (rc (row es i.toNat) 0).int = who) (ht : 0 ≤ (rc (row es i.toNat) 1).int) :
    OthA who (es.drop (i - 1 + 1).toNat) (ar.set (rc (row es i.toNat) 1).int.toNat (pasteR (row ar (rc (row es i.toNat) 1).int.toNat) 0 [Sc.b true])) := by
  rw [show i - 1 + 1 = i by omega, drop_row (by omega), show i.toNat + 1 = (i + 1).toNat by omega]
  refine ⟨by simp [h.len], fun t h6 => ?_⟩
  rw [row_set]
  by_cases e : (rc (row es i.toNat) 1).int.toNat = t
  · rw [if_pos ⟨e, by rw [h.len]; exact h6⟩]
    have e1 : (rc (pasteR (row ar (rc (row es i.toNat) 1).int.toNat) 0 [Sc.b true]) 0).bool = true := by cases row ar (rc (row es i.toNat) 1).int.toNat <;> rfl
    rw [e1]
    exact ⟨fun _ => ⟨_, List.mem_cons_self .., hw, by omega⟩, fun _ => rfl⟩
  · rw [if_neg (fun q => e q.1), h.h t h6]
    constructor
    · rintro ⟨x, hx, h1, h2⟩; exact ⟨x, List.mem_cons_of_mem _ hx, h1, h2⟩
    · rintro ⟨x, hx, h1, h2⟩
      rcases List.mem_cons.1 hx with rfl | hx
      · omega
      · exact ⟨x, hx, h1, h2⟩
theorem othA_skip {who : Int} {es ar : List Row} {i : Int} (h : OthA who (es.drop (i + 1).toNat) ar) (h0 : 0 ≤ i) (hi : i < es.length) (hw : (rc (row es i.toNat) 0).int = who) :
    OthA who (es.drop (i - 1 + 1).toNat) ar := by
  rw [show i - 1 + 1 = i by omega, drop_row (by omega), show i.toNat + 1 = (i + 1).toNat by omega]
  refine ⟨h.len, fun t h6 => ?_⟩
  rw [h.h t h6]
  constructor
  · rintro ⟨x, hx, h1, h2⟩; exact ⟨x, List.mem_cons_of_mem _ hx, h1, h2⟩
  · rintro ⟨x, hx, h1, h2⟩
    rcases List.mem_cons.1 hx with rfl | hx
    · exact absurd hw h1
    · exact ⟨x, hx, h1, h2⟩
theorem al_zero (who : Int) (es : List Row) : Alone who (es.drop ((es.length : Int) - 1 + 1).toNat) := by
  rw [List.drop_of_length_le (by omega)]; exact List.Pairwise.nil
theorem al_other {who : Int} {es : List Row} {i : Int} (h : Alone who (es.drop (i + 1).toNat)) (h0 : 0 ≤ i) (hi : i < es.length) (hw : ¬ (rc (row es i.toNat) 0).int = who) : Alone who (es.drop (i - 1 + 1).toNat) := by
  rw [show i - 1 + 1 = i by omega, drop_row (by omega), show i.toNat + 1 = (i + 1).toNat by omega]
  exact List.Pairwise.cons (fun x _ h1 => absurd h1 hw) h
theorem al_own {who : Int} {es ar : List Row} {i : Int} (h : Alone who (es.drop (i + 1).toNat)) (ha : OthA who (es.drop (i + 1).toNat) ar) (h0 : 0 ≤ i) (hi : i < es.length) (ht : 0 ≤ (rc (row es i.toNat) 1).int ∧ (rc (row es i.toNat) 1).int < 6)
    (hb : (rc (row ar (rc (row es i.toNat) 1).int.toNat) 0).bool = false) : Alone who (es.drop (i - 1 + 1).toNat) := by
  rw [show i - 1 + 1 = i by omega, drop_row (by omega), show i.toNat + 1 = (i + 1).toNat by omega]
  refine List.Pairwise.cons (fun x hx _ h2 => ?_) h
  apply Classical.byContradiction
  intro hn
  have := (ha.h (rc (row es i.toNat) 1).int.toNat (by omega)).2 ⟨x, hx, hn, by omega⟩
  rw [hb] at this; cases this
theorem al_bad {who f : Int} {es ar : List Row} {i : Int} (ha : OthA who (es.drop (i + 1).toNat) ar) (h0 : 0 ≤ f) (hf : f ≤ i) (hi : i < es.length) (hw : (rc (row es i.toNat) 0).int = who) (ht : 0 ≤ (rc (row es i.toNat) 1).int ∧ (rc (row es i.toNat) 1).int < 6)
    (hb : (rc (row ar (rc (row es i.toNat) 1).int.toNat) 0).bool = true) : ¬ Alone who (es.drop f.toNat) := by
  intro h
  obtain ⟨x, hx, h1, h2⟩ := (ha.h (rc (row es i.toNat) 1).int.toNat (by omega)).1 hb
  have h3 : Alone who (es.drop i.toNat) := by
    have e : es.drop i.toNat = (es.drop f.toNat).drop (i.toNat - f.toNat) := by rw [List.drop_drop]; congr 1; omega
    rw [e]; exact List.Pairwise.sublist (List.drop_sublist _ _) h
  rw [drop_row (by omega), show i.toNat + 1 = (i + 1).toNat by omega] at h3
  exact h1 ((List.pairwise_cons.1 h3).1 x hx hw (by omega))
theorem al_all {who f i : Int} {es : List Row} (h : Alone who (es.drop (i + 1).toNat)) (hf : ¬ f ≤ i) (h2 : f - 1 ≤ i) : Alone who (es.drop f.toNat) := by
  rw [show i + 1 = f by omega] at h; exact h
theorem run_thing {s es : List Row} (h : CanRun s es) : ∀ i : Nat, i < es.length → 0 ≤ (rc (row es i) 1).int ∧ (rc (row es i) 1).int < 6 := by
  intro i hi
  have hv := h.vs
  rw [← List.take_append_drop (i + 1) es, VEs_app] at hv
  have h2 := ((VEs_take hi).1 hv.1).2
  have h3 := h2.tl
  have h4 := h2.t0
  have h5 := h.st.hi
  rw [runE_len] at h3
  omega
theorem run_thing' {s es : List Row} {i : Int} (h : CanRun s es) (h0 : 0 ≤ i) (hi : i < es.length) : 0 ≤ (rc (row es i.toNat) 1).int ∧ (rc (row es i.toNat) 1).int < 6 := run_thing h i.toNat (by omega)
theorem und_can {s es : List Row} {who f i : Int} (h1 : CanRun s es) (h2 : Alone who (es.drop (i + 1).toNat)) (hf : ¬ f ≤ i) (hf2 : f - 1 ≤ i) (h : 0 ≤ who ∧ who ≤ 7 ∧ 0 ≤ f ∧ f ≤ es.length ∧ ¬ 20 < (es.length : Int) + (undoE who (es.drop (i + 1).toNat)).length) : CanUndo s es who f := by
  rw [undo_all hf hf2] at h
  exact cu_yes h1 (al_all h2 hf hf2) h
theorem und_end {s es : List Row} {who f i : Int} (h1 : CanRun s es) (h2 : Alone who (es.drop (i + 1).toNat)) (hf : ¬ f ≤ i) (hf2 : f - 1 ≤ i) (h : 0 ≤ who ∧ who ≤ 7 ∧ 0 ≤ f ∧ f ≤ es.length ∧ ¬ 20 < (es.length : Int) + (undoE who (es.drop (i + 1).toNat)).length) : undoE who (es.drop (i + 1).toNat) = undone s es who f := by
  rw [undo_all hf hf2] at h ⊢
  exact und_yes (cu_yes h1 (al_all h2 hf hf2) h)
theorem und_long {s es : List Row} {who f i : Int} (_ : Alone who (es.drop (i + 1).toNat)) (hf : ¬ f ≤ i) (hf2 : f - 1 ≤ i) (h : 20 < (es.length : Int) + (undoE who (es.drop (i + 1).toNat)).length) : ¬ CanUndo s es who f := by
  rw [undo_all hf hf2] at h
  exact cu_len h
theorem fits_und {who : Int} {es : List Row} {n : Nat} (h : es.length ≤ 1048576) : Fits .i64 ((es.length : Int) + (undoE who (es.drop n)).length) := by
  have := undo_len who es n
  exact fits_i64 (by omega)
set_option maxRecDepth 100000 in
set_option maxHeartbeats 8000000 in
theorem p_iUndo : Proved 29 cUndo := by
  refine proved_of [(31, cRunE)] ⟨p_iRunE, trivial⟩ [.tmp 8, .tmp 9] Try.func29 rfl rfl rfl rfl (by kernel_rfl) ?_
  intro ds K hrel
  simp only [cUndo] at hrel
  split at hrel
  case h_2 => exact hrel.elim
  rename_i ks s js es who f
  obtain ⟨rfl, rfl, ⟨h1, h2⟩, hrel⟩ := hrel
  refine ⟨rfl, Nat.le_of_ble_eq_true rfl, fun k σ => match k with
    | 9 => some { α := Lv 9 (Int × List Row), R := fun ⟨(i, ar)⟩ => (f - 1 ≤ i ∧ i ≤ es.length - 1 ∧ 0 ≤ f ∧ f ≤ es.length ∧ 0 ≤ who ∧ who ≤ 7 ∧ 6 ≤ (ar.length : Int) ∧ (ar.length : Int) ≤ 6) ∧ CanRun s es ∧ Alone who (es.drop (i + 1).toNat) ∧ OthA who (es.drop (i + 1).toNat) ar, μ := fun ⟨(i, _)⟩ => (i + 1).toNat,
                  st := fun ⟨(i, ar)⟩ => upW σ [(14, .int .i64 i), (12, .own 2)] (putE (setH σ.hp 1 (some (.arr [.bool] ar))) 2 (.rows 29 KEdit (undoE who (es.drop (i + 1).toNat)))) }
    | _ => none, ?_⟩
  repeat' (first | refine And.intro ?_ ?_ | (intro h; first | (exact absurd h (by decide)) | (guard_hyp h : true = true; clear h) | (guard_hyp h : false = false; clear h) | (have hq := (h : Lv 9 _); clear hq; obtain ⟨_, _⟩ := h) | skip) | refine Exists.intro (⟨(?_, ?_)⟩ : Lv 9 _) ?_ | refine Exists.intro _ (Exists.intro _ (And.intro hrel ?_)) | exact rfl | exact True.intro | exact Or.inl rfl | exact Or.inr (And.intro rfl rfl) | exact Nat.le_of_ble_eq_true rfl | (apply Exists.intro; refine And.intro ?_ ?_))
  all_goals (try ((try (change _ = _)) <;> (try dsimp only at *) <;> (try simp only [decide_eq_true_eq, decide_eq_false_iff_not, Bool.not_eq_true', Bool.not_eq_false', Bool.and_eq_true, Bool.and_eq_false_iff, beq_iff_eq, bne_iff_ne, beq_eq_false_iff_ne, bne_eq_false_iff_eq, ne_eq, Decidable.not_not, bne_self_eq_false, Bool.false_eq_true, Bool.true_eq_false, Bool.not_true, Bool.not_false, not_true_eq_false, not_false_eq_true, Int.toNat_natCast, Nat.zero_add, Nat.reduceAdd, Nat.reduceMul, Nat.reduceDiv, Nat.mul_one, lenK_one, big, fill_len, marking_len, marks_len, nrms_len, List.length_set, List.length_append, List.length_map, List.length_replicate, List.length_cons, List.length_nil, Int.natCast_add, Int.natCast_one, Int.natCast_zero] at *) <;> (repeat (with_reducible rename _ ∧ _ => hh; obtain ⟨_, _⟩ := hh)) <;> (first | omega | (refine fits_i64 ?_; omega) | (split <;> omega) | exact (undo_zero _ _).symm | exact undo_zero _ _ | (with_reducible assumption) | exact und_no (fun h => absurd h.r (by with_reducible assumption)) | exact und_no (cu_rng (by omega)) | exact und_no (und_long (by with_reducible assumption) (by omega) (by omega) (by omega)) | exact false_eq (fun h => absurd h.r (by with_reducible assumption)) | exact false_eq (cu_rng (by omega)) | exact false_eq (und_long (by with_reducible assumption) (by omega) (by omega) (by omega)) | exact al_zero _ _ | exact othA_zero _ | exact undo_yes2 (by omega) (by omega) (by with_reducible assumption) | exact (undo_yes2 (by omega) (by omega) (by with_reducible assumption)).symm | exact undo_no1 (by omega) (by omega) (by with_reducible assumption) | exact (undo_no1 (by omega) (by omega) (by with_reducible assumption)).symm | exact al_other (by with_reducible assumption) (by omega) (by omega) (by with_reducible assumption) | exact al_own (by with_reducible assumption) (by with_reducible assumption) (by omega) (by omega) (run_thing' (by with_reducible assumption) (by omega) (by omega)) (by with_reducible assumption) | exact othA_set (by with_reducible assumption) (by omega) (by omega) (by with_reducible assumption) (run_thing' (by with_reducible assumption) (by omega) (by omega)).1 | exact othA_skip (by with_reducible assumption) (by omega) (by omega) (by with_reducible assumption) | exact (run_thing' (by with_reducible assumption) (by omega) (by omega)).1 | exact (run_thing' (by with_reducible assumption) (by omega) (by omega)).2 | exact und_no (fun h => absurd h.al (al_bad (by with_reducible assumption) (by omega) (by omega) (by omega) (by with_reducible assumption) (run_thing' (by with_reducible assumption) (by omega) (by omega)) (by with_reducible assumption))) | exact false_eq (fun h => absurd h.al (al_bad (by with_reducible assumption) (by omega) (by omega) (by omega) (by with_reducible assumption) (run_thing' (by with_reducible assumption) (by omega) (by omega)) (by with_reducible assumption))) | (refine Nat.le_trans (Nat.mul_le_mul_right 32 (Nat.add_le_add_right (undo_len _ _ _) _)) ?_; omega) | exact und_end (by with_reducible assumption) (by with_reducible assumption) (by omega) (by omega) (by omega) | exact true_eq (und_can (by with_reducible assumption) (by with_reducible assumption) (by omega) (by omega) (by omega)) | exact fits_und (by omega))))
end Go.Proofs.Ytggahgackpiddaa.V
