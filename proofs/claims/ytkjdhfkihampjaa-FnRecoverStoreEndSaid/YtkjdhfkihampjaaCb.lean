/-
  Notes repeated on cells.
-/
import Derived.Test.YtkjdhfkihampjaaCa
set_option linter.unusedSimpArgs false
set_option linter.unusedVariables false
namespace Go.Proofs.Ytkjdhfkihampjaa.V
open Go Go.RowKit
open Classical

def rdS (c : List Row) (n : Row) (k : Int) : List Row :=
  if (rc n 0).bool = false ∧ (rc (row c (rc n 2).int.toNat) 1).int < k then c.set (rc n 2).int.toNat (pasteR (row c (rc n 2).int.toNat) 0 [.i (rc n 4).int, .i k]) else c
theorem rdS_len (c : List Row) (n : Row) (k : Int) : (rdS c n k).length = c.length := by unfold rdS; split <;> simp
def rd0 (f : Int) (c es : List Row) : Nat → List Row
  | 0 => c
  | i + 1 => if f ≤ (i : Int) + 1 then rdS (rd0 f c es i) (row es i) (i + 1) else rd0 f c es i
/-- The first i notes, from the number f on, repeated on cells. -/
@[irreducible] def rd (f : Int) (c es : List Row) (i : Nat) : List Row := rd0 f c es i
theorem rd_zero (f : Int) (c es : List Row) : rd f c es 0 = c := by simp [rd, rd0]
theorem rd_zero' (f : Int) (c es : List Row) : c = rd f c es (Int.toNat 0) := (rd_zero f c es).symm
theorem rd_succ (f : Int) (c es : List Row) (i : Nat) : rd f c es (i + 1) = if f ≤ (i : Int) + 1 then rdS (rd f c es i) (row es i) (i + 1) else rd f c es i := by
  simp only [rd, rd0]
theorem rd_len (f : Int) (c es : List Row) : ∀ i : Nat, (rd f c es i).length = c.length
  | 0 => by rw [rd_zero]
  | i + 1 => by
    rw [rd_succ]
    split
    · rw [rdS_len, rd_len f c es i]
    · exact rd_len f c es i
theorem rd_skip {f : Int} {c es : List Row} : ∀ {i : Nat}, (i : Int) < f → rd f c es i = c
  | 0, _ => rd_zero f c es
  | i + 1, h => by rw [rd_succ, if_neg (by omega)]; exact rd_skip (by omega)
theorem rd_start {f : Int} (c es : List Row) (h : 0 ≤ f) : c = rd (f + 1) c es f.toNat := (rd_skip (by omega)).symm
theorem rd_step (f : Int) (c es : List Row) {i : Int} (h0 : 0 ≤ i) : rd f c es (i + 1).toNat = if f ≤ i + 1 then rdS (rd f c es i.toNat) (row es i.toNat) (i + 1) else rd f c es i.toNat := by
  rw [show (i + 1).toNat = i.toNat + 1 by omega, rd_succ, show ((i.toNat : Nat) : Int) = i by omega]
theorem rd_yes {f : Int} {c es : List Row} {i : Int} (h0 : 0 ≤ i) (hf : f ≤ i + 1) (hE : (rc (row es i.toNat) 0).bool = false) (hl : (rc (row (rd f c es i.toNat) (rc (row es i.toNat) 2).int.toNat) 1).int < i + 1) :
    (rd f c es i.toNat).set (rc (row es i.toNat) 2).int.toNat (pasteR (row (rd f c es i.toNat) (rc (row es i.toNat) 2).int.toNat) 0 [Sc.i (rc (row es i.toNat) 4).int, Sc.i (i + 1)]) = rd f c es (i + 1).toNat := by
  rw [rd_step f c es h0, if_pos hf]
  unfold rdS
  rw [if_pos ⟨hE, hl⟩]
theorem rd_no {f : Int} {c es : List Row} {i : Int} (h0 : 0 ≤ i) (h : ¬ (rc (row (rd f c es i.toNat) (rc (row es i.toNat) 2).int.toNat) 1).int < i + 1) : rd f c es i.toNat = rd f c es (i + 1).toNat := by
  rw [rd_step f c es h0]
  split
  · unfold rdS; rw [if_neg (fun q => h q.2)]
  · rfl
theorem rd_noE {f : Int} {c es : List Row} {i : Int} (h0 : 0 ≤ i) (h : (rc (row es i.toNat) 0).bool = true) : rd f c es i.toNat = rd f c es (i + 1).toNat := by
  rw [rd_step f c es h0]
  split
  · unfold rdS; rw [if_neg (fun q => by rw [h] at q; cases q.1)]
  · rfl
theorem rd_noF {f : Int} {c es : List Row} {i : Int} (h0 : 0 ≤ i) (h : ¬ f ≤ i + 1) : rd f c es i.toNat = rd f c es (i + 1).toNat := by
  rw [rd_step f c es h0, if_neg h]
theorem rd_all {f : Int} {c es : List Row} {i : Int} (h : ¬ i < es.length) (h2 : i ≤ es.length) : rd f c es i.toNat = rd f c es es.length := by rw [show i.toNat = es.length by omega]
theorem us_thing {c es : List Row} {i : Int} (h : Usable c es) (h0 : 0 ≤ i) (hi : i < es.length) : 0 ≤ (rc (row es i.toNat) 2).int ∧ (rc (row es i.toNat) 2).int < c.length := by
  have := h.no.h i.toNat (by omega)
  exact ⟨this.t0, this.tm⟩
theorem us_6 {c es : List Row} (h : Usable c es) : (c.length : Int) ≤ 6 ∧ (es.length : Int) ≤ 20 := ⟨by have := h.v.c6; omega, by have := h.n; omega⟩
def cRep : Ct := ⟨[], fun ds K => match ds with
  | [.view ks c, .view js es, .int .i64 f] => ks = KCell ∧ js = KNote ∧ Usable c es ∧ (0 ≤ f ∧ f ≤ es.length) ∧ K (.fr 50 KCell (rd (f + 1) c es es.length)) []
  | _ => False⟩
def cRedoF : Ct := ⟨[], fun ds K => match ds with
  | [.view ks c, .view js es, .int .i64 f] => ks = KCell ∧ js = KNote ∧ Usable c es ∧ K (.fr 50 KCell (rd f c es es.length)) []
  | _ => False⟩
set_option maxRecDepth 100000 in
set_option maxHeartbeats 4000000 in
theorem p_repeated : Proved 64 cRep := by
  refine proved_of [] trivial [.tmp 6] Try.func64 rfl rfl rfl rfl (by kernel_rfl) ?_
  intro ds K hrel
  simp only [cRep] at hrel
  split at hrel
  case h_2 => exact hrel.elim
  rename_i ks c js es f
  obtain ⟨rfl, rfl, hu, ⟨h1, h2⟩, hrel⟩ := hrel
  have h6 := us_6 hu
  refine ⟨rfl, Nat.le_of_ble_eq_true rfl, fun k σ => match k with
    | 3 => some { α := Lv 3 Int, R := fun ⟨i⟩ => (f ≤ i ∧ i ≤ es.length) ∧ Usable c es, μ := fun ⟨i⟩ => (es.length - i).toNat, st := fun ⟨i⟩ => upH σ [(8, .int .i64 i), (7, .own 0)] 0 (.rows 50 KCell (rd (f + 1) c es i.toNat)) }
    | _ => none, ?_⟩
  repeat' (first | with_reducible refine And.intro ?_ ?_ | (with_reducible intro h; first | (exact absurd h (by decide)) | (guard_hyp h : true = true; clear h) | (guard_hyp h : false = false; clear h) | (have hq := (h : Lv 3 _); clear hq; obtain ⟨_⟩ := h) | skip) | with_reducible exact True.intro | ((with_reducible refine (id ?_ : @Eq Bool (nodupN _) true)); kernel_rfl) | ((with_reducible refine (id ?_ : @Eq Bool (apartN _ _) true)); kernel_rfl) | ((with_reducible refine (id ?_ : @Eq Bool (formL _ _) true)); kernel_rfl) | ((with_reducible refine (id ?_ : @Eq _ _ _)); exact rfl) | ((conv => whnf); first | done | with_reducible refine And.intro ?_ ?_ | (with_reducible intro h; first | (exact absurd h (by decide)) | (guard_hyp h : true = true; clear h) | (guard_hyp h : false = false; clear h) | (have hq := (h : Lv 3 _); clear hq; obtain ⟨_⟩ := h) | skip) | with_reducible exact True.intro | ((with_reducible refine (id ?_ : @Eq _ _ _)); exact rfl) | refine Exists.intro (⟨?_⟩ : Lv 3 _) ?_ | refine Exists.intro _ (Exists.intro _ (And.intro hrel ?_)) | exact Or.inl rfl | exact Or.inr (And.intro rfl rfl) | (apply Exists.intro; refine And.intro ?_ ?_)) | exact Nat.le_of_ble_eq_true rfl)
  all_goals (try ((try (change _ = _)) <;> (try dsimp only at *) <;> (try simp only [decide_eq_true_eq, decide_eq_false_iff_not, Bool.not_eq_true', Bool.not_eq_false', Bool.and_eq_true, Bool.and_eq_false_iff, beq_iff_eq, bne_iff_ne, beq_eq_false_iff_ne, bne_eq_false_iff_eq, ne_eq, Decidable.not_not, bne_self_eq_false, Bool.false_eq_true, Bool.true_eq_false, Bool.not_true, Bool.not_false, not_true_eq_false, not_false_eq_true, Int.toNat_natCast, Nat.zero_add, Nat.reduceAdd, Nat.reduceMul, Nat.reduceDiv, Nat.mul_one, lenK_one, big, fill_len, marking_len, marks_len, nrms_len, List.length_set, List.length_append, List.length_map, List.length_replicate, List.length_cons, List.length_nil, Int.natCast_add, Int.natCast_one, Int.natCast_zero, rd_len, List.nil_append] at *) <;> (repeat (with_reducible rename _ ∧ _ => hh; obtain ⟨_, _⟩ := hh)) <;> (first | omega | (refine fits_i64 ?_; omega) | (split <;> omega) | exact rd_start _ _ (by omega) | exact rd_yes (by omega) (by omega) (by with_reducible assumption) (by omega) | exact (rd_yes (by omega) (by omega) (by with_reducible assumption) (by omega)).symm | exact rd_no (by omega) (by omega) | exact rd_noE (by omega) (by with_reducible assumption) | exact rd_noF (by omega) (by omega) | (with_reducible exact rd_all (by omega) (by omega)) | (with_reducible assumption) | exact (us_thing (by with_reducible assumption) (by omega) (by omega)).1 | exact (us_thing (by with_reducible assumption) (by omega) (by omega)).2)))
set_option maxRecDepth 100000 in
set_option maxHeartbeats 4000000 in
theorem p_cloneCell : Proved 76 (cCopy 50 KCell) := by
  refine proved_of [] trivial [.tmp 2] Try.func76 rfl rfl rfl rfl (by kernel_rfl) ?_
  intro ds K hrel
  simp only [cCopy] at hrel
  split at hrel
  case h_2 => exact hrel.elim
  obtain ⟨rfl, h1, hrel⟩ := hrel
  refine ⟨rfl, Nat.le_of_ble_eq_true rfl, fun _ _ => none, ?_⟩
  repeat' (first | with_reducible refine And.intro ?_ ?_ | (with_reducible intro h; first | (exact absurd h (by decide)) | (guard_hyp h : true = true; clear h) | (guard_hyp h : false = false; clear h) | skip) | with_reducible exact True.intro | ((with_reducible refine (id ?_ : @Eq Bool (nodupN _) true)); kernel_rfl) | ((with_reducible refine (id ?_ : @Eq Bool (apartN _ _) true)); kernel_rfl) | ((with_reducible refine (id ?_ : @Eq Bool (formL _ _) true)); kernel_rfl) | ((with_reducible refine (id ?_ : @Eq _ _ _)); exact rfl) | ((conv => whnf); first | done | with_reducible refine And.intro ?_ ?_ | (with_reducible intro h; first | (exact absurd h (by decide)) | (guard_hyp h : true = true; clear h) | (guard_hyp h : false = false; clear h) | skip) | with_reducible exact True.intro | ((with_reducible refine (id ?_ : @Eq _ _ _)); exact rfl) | refine Exists.intro _ (Exists.intro _ (And.intro hrel ?_)) | exact Or.inl rfl | exact Or.inr (And.intro rfl rfl) | (apply Exists.intro; refine And.intro ?_ ?_)) | exact Nat.le_of_ble_eq_true rfl)
  all_goals (try ((try (change _ = _)) <;> (try dsimp only at *) <;> (try simp only [decide_eq_true_eq, decide_eq_false_iff_not, Bool.not_eq_true', Bool.not_eq_false', Bool.and_eq_true, Bool.and_eq_false_iff, beq_iff_eq, bne_iff_ne, beq_eq_false_iff_ne, bne_eq_false_iff_eq, ne_eq, Decidable.not_not, bne_self_eq_false, Bool.false_eq_true, Bool.true_eq_false, Bool.not_true, Bool.not_false, not_true_eq_false, not_false_eq_true, Int.toNat_natCast, Nat.zero_add, Nat.reduceAdd, Nat.reduceMul, Nat.reduceDiv, Nat.mul_one, lenK_one, big, fill_len, marking_len, marks_len, nrms_len, List.length_set, List.length_append, List.length_map, List.length_replicate, List.length_cons, List.length_nil, Int.natCast_add, Int.natCast_one, Int.natCast_zero] at *) <;> (repeat (with_reducible rename _ ∧ _ => hh; obtain ⟨_, _⟩ := hh)) <;> (first | omega | (refine fits_i64 ?_; omega) | (split <;> omega) | (rename true = true → _ => hh; exact hh rfl) | (rename _ = true => hh; simp_all))))
set_option maxRecDepth 100000 in
set_option maxHeartbeats 4000000 in
theorem p_redo : Proved 59 cRedoF := by
  refine proved_of [(76, cCopy 50 KCell)] ⟨p_cloneCell, trivial⟩ [.tmp 6] Try.func59 rfl rfl rfl rfl (by kernel_rfl) ?_
  intro ds K hrel
  simp only [cRedoF] at hrel
  split at hrel
  case h_2 => exact hrel.elim
  rename_i ks c js es f
  obtain ⟨rfl, rfl, hu, hrel⟩ := hrel
  have h6 := us_6 hu
  refine ⟨rfl, Nat.le_of_ble_eq_true rfl, fun k σ => match k with
    | 3 => some { α := Lv 3 Int, R := fun ⟨i⟩ => (0 ≤ i ∧ i ≤ es.length) ∧ Usable c es, μ := fun ⟨i⟩ => (es.length - i).toNat, st := fun ⟨i⟩ => upH σ [(15, .int .i64 i)] 0 (.rows 50 KCell (rd f c es i.toNat)) }
    | _ => none, ?_⟩
  repeat' (first | with_reducible refine And.intro ?_ ?_ | (with_reducible intro h; first | (exact absurd h (by decide)) | (guard_hyp h : true = true; clear h) | (guard_hyp h : false = false; clear h) | (have hq := (h : Lv 3 _); clear hq; obtain ⟨_⟩ := h) | skip) | with_reducible exact True.intro | ((with_reducible refine (id ?_ : @Eq Bool (nodupN _) true)); kernel_rfl) | ((with_reducible refine (id ?_ : @Eq Bool (apartN _ _) true)); kernel_rfl) | ((with_reducible refine (id ?_ : @Eq Bool (formL _ _) true)); kernel_rfl) | ((with_reducible refine (id ?_ : @Eq _ _ _)); exact rfl) | ((conv => whnf); first | done | with_reducible refine And.intro ?_ ?_ | (with_reducible intro h; first | (exact absurd h (by decide)) | (guard_hyp h : true = true; clear h) | (guard_hyp h : false = false; clear h) | (have hq := (h : Lv 3 _); clear hq; obtain ⟨_⟩ := h) | skip) | with_reducible exact True.intro | ((with_reducible refine (id ?_ : @Eq _ _ _)); exact rfl) | refine Exists.intro (⟨?_⟩ : Lv 3 _) ?_ | refine Exists.intro _ (Exists.intro _ (And.intro hrel ?_)) | exact Or.inl rfl | exact Or.inr (And.intro rfl rfl) | (apply Exists.intro; refine And.intro ?_ ?_)) | exact Nat.le_of_ble_eq_true rfl)
  all_goals (try ((try (change _ = _)) <;> (try dsimp only at *) <;> (try simp only [decide_eq_true_eq, decide_eq_false_iff_not, Bool.not_eq_true', Bool.not_eq_false', Bool.and_eq_true, Bool.and_eq_false_iff, beq_iff_eq, bne_iff_ne, beq_eq_false_iff_ne, bne_eq_false_iff_eq, ne_eq, Decidable.not_not, bne_self_eq_false, Bool.false_eq_true, Bool.true_eq_false, Bool.not_true, Bool.not_false, not_true_eq_false, not_false_eq_true, Int.toNat_natCast, Nat.zero_add, Nat.reduceAdd, Nat.reduceMul, Nat.reduceDiv, Nat.mul_one, lenK_one, big, fill_len, marking_len, marks_len, nrms_len, List.length_set, List.length_append, List.length_map, List.length_replicate, List.length_cons, List.length_nil, Int.natCast_add, Int.natCast_one, Int.natCast_zero, rd_len] at *) <;> (repeat (with_reducible rename _ ∧ _ => hh; obtain ⟨_, _⟩ := hh)) <;> (first | omega | (refine fits_i64 ?_; omega) | (split <;> omega) | (with_reducible exact (rd_zero' _ _ _)) | exact (rd_zero' _ _ _) | exact rd_yes (by omega) (by omega) (by with_reducible assumption) (by omega) | exact (rd_yes (by omega) (by omega) (by with_reducible assumption) (by omega)).symm | exact rd_no (by omega) (by omega) | exact rd_noE (by omega) (by with_reducible assumption) | exact rd_noF (by omega) (by omega) | (with_reducible exact rd_all (by omega) (by omega)) | (with_reducible assumption) | exact (us_thing (by with_reducible assumption) (by omega) (by omega)).1 | exact (us_thing (by with_reducible assumption) (by omega) (by omega)).2)))
noncomputable def redone (c es : List Row) : List Row := if Usable c es then rd 1 c es es.length else []
theorem redone_no {c es : List Row} (h : ¬ Usable c es) : redone c es = [] := by unfold redone; rw [if_neg h]
theorem redone_yes {c es : List Row} (h : Usable c es) : rd 1 c es es.length = redone c es := by unfold redone; rw [if_pos h]
noncomputable def cRedoC : Ct := ⟨[], fun ds K => match ds with
  | [.view ks c, .view js es] => ks = KCell ∧ js = KNote ∧ ((c.length : Int) < big ∧ (es.length : Int) < big) ∧ K (.fr 50 KCell (redone c es)) []
  | _ => False⟩
set_option maxRecDepth 100000 in
set_option maxHeartbeats 4000000 in
theorem p_iRedoC : Proved 34 cRedoC := by
  refine proved_of [(58, cUs), (59, cRedoF)] ⟨p_canRedo, p_redo, trivial⟩ [.tmp 4] Try.func34 rfl rfl rfl rfl (by kernel_rfl) ?_
  intro ds K hrel
  simp only [cRedoC] at hrel
  split at hrel
  case h_2 => exact hrel.elim
  obtain ⟨rfl, rfl, ⟨h1, h2⟩, hrel⟩ := hrel
  refine ⟨rfl, Nat.le_of_ble_eq_true rfl, fun _ _ => none, ?_⟩
  repeat' (first | with_reducible refine And.intro ?_ ?_ | (with_reducible intro h; first | (exact absurd h (by decide)) | (guard_hyp h : true = true; clear h) | (guard_hyp h : false = false; clear h) | skip) | with_reducible exact True.intro | ((with_reducible refine (id ?_ : @Eq Bool (nodupN _) true)); kernel_rfl) | ((with_reducible refine (id ?_ : @Eq Bool (apartN _ _) true)); kernel_rfl) | ((with_reducible refine (id ?_ : @Eq Bool (formL _ _) true)); kernel_rfl) | ((with_reducible refine (id ?_ : @Eq _ _ _)); exact rfl) | ((conv => whnf); first | done | with_reducible refine And.intro ?_ ?_ | (with_reducible intro h; first | (exact absurd h (by decide)) | (guard_hyp h : true = true; clear h) | (guard_hyp h : false = false; clear h) | skip) | with_reducible exact True.intro | ((with_reducible refine (id ?_ : @Eq _ _ _)); exact rfl) | refine Exists.intro _ (Exists.intro _ (And.intro hrel ?_)) | exact Or.inl rfl | exact Or.inr (And.intro rfl rfl) | (apply Exists.intro; refine And.intro ?_ ?_)) | exact Nat.le_of_ble_eq_true rfl)
  all_goals (try ((try (change _ = _)) <;> (try dsimp only at *) <;> (try simp only [decide_eq_true_eq, decide_eq_false_iff_not, Bool.not_eq_true', Bool.not_eq_false', Bool.and_eq_true, Bool.and_eq_false_iff, beq_iff_eq, bne_iff_ne, beq_eq_false_iff_ne, bne_eq_false_iff_eq, ne_eq, Decidable.not_not, bne_self_eq_false, Bool.false_eq_true, Bool.true_eq_false, Bool.not_true, Bool.not_false, not_true_eq_false, not_false_eq_true, Int.toNat_natCast, Nat.zero_add, Nat.reduceAdd, Nat.reduceMul, Nat.reduceDiv, Nat.mul_one, lenK_one, big, fill_len, marking_len, marks_len, nrms_len, List.length_set, List.length_append, List.length_map, List.length_replicate, List.length_cons, List.length_nil, Int.natCast_add, Int.natCast_one, Int.natCast_zero, Int.zero_add] at *) <;> (repeat (with_reducible rename _ ∧ _ => hh; obtain ⟨_, _⟩ := hh)) <;> (first | omega | (refine fits_i64 ?_; omega) | (split <;> omega) | (with_reducible assumption) | exact redone_no (by with_reducible assumption) | exact redone_yes (by with_reducible assumption))))
end Go.Proofs.Ytkjdhfkihampjaa.V
