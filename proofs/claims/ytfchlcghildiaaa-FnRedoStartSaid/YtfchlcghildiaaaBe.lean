/-
  The laws on buffers: plain and as functions.
-/
import Derived.Test.YtfchlcghildiaaaBd
set_option linter.unusedSimpArgs false
set_option linter.unusedVariables false
namespace Go.Proofs.Ytfchlcghildiaaa.V
open Go Go.RowKit
open Classical

theorem law_code {ds : List AV} (h : PkAVs [.c (.s KU8)] ds) : ∃ xs, ds = [.view KU8 xs] ∧ xs.length ≤ maxLen ∧ ∀ i, i < xs.length → RowOk KU8 (row xs i) := by
  obtain ⟨a, l, rfl, ⟨xs, rfl, h1, h2⟩, h3⟩ := h
  simp only [PkAVs] at h3
  subst h3
  exact ⟨xs, rfl, h1, h2⟩
def cDVB : Ct := ⟨[], fun ds K => match ds with
  | [.view ks xs] => ks = KU8 ∧ (xs.length : Int) < big ∧ (∀ i, i < xs.length → RowOk KU8 (row xs i)) ∧ ∀ (ys : List Row) (f : Int), ys.length ≤ 5 → K (.agg [.fr 42 KFrame ys, .int .i64 f]) []
  | _ => False⟩
def cDCW : Ct := ⟨[], fun ds K => match ds with
  | [.view ks xs] => ks = KU8 ∧ (xs.length : Int) < big ∧ (∀ i, i < xs.length → RowOk KU8 (row xs i)) ∧ ∀ (ys : List Row) (f p : Int), ys.length ≤ 5 → K (.tup [.agg [.fr 42 KFrame ys, .int .i64 f], .int .i64 p]) []
  | _ => False⟩
set_option maxRecDepth 100000 in
set_option maxHeartbeats 4000000 in
theorem p_drawVB : Proved 22 cDVB := by
  refine proved_of [(44, cNewReader), (43, cAnyB)] ⟨p_newReader, p_anyBuffer, trivial⟩ [.cell 2 29] Try.func22 rfl rfl rfl rfl (by kernel_rfl) ?_
  intro ds K hrel
  simp only [cDVB] at hrel
  split at hrel
  case h_2 => exact hrel.elim
  rename_i ks xs
  obtain ⟨rfl, h1, h2, hrel⟩ := hrel
  refine ⟨rfl, Nat.le_of_ble_eq_true rfl, fun _ _ => none, ?_⟩
  repeat' (first | with_reducible refine And.intro ?_ ?_ | (with_reducible intro h; first | (exact absurd h (by decide)) | (guard_hyp h : true = true; clear h) | (guard_hyp h : false = false; clear h) | skip) | with_reducible exact True.intro | ((with_reducible refine (id ?_ : @Eq Bool (nodupN _) true)); kernel_rfl) | ((with_reducible refine (id ?_ : @Eq Bool (apartN _ _) true)); kernel_rfl) | ((with_reducible refine (id ?_ : @Eq Bool (formL _ _) true)); kernel_rfl) | ((with_reducible refine (id ?_ : @Eq _ _ _)); exact rfl) | ((conv => whnf); first | done | with_reducible refine And.intro ?_ ?_ | (with_reducible intro h; first | (exact absurd h (by decide)) | (guard_hyp h : true = true; clear h) | (guard_hyp h : false = false; clear h) | skip) | with_reducible exact True.intro | ((with_reducible refine (id ?_ : @Eq _ _ _)); exact rfl) | (refine Exists.intro _ (Exists.intro _ (And.intro (hrel ?_ ?_ ?_) ?_))) | refine Exists.intro _ (Exists.intro _ (And.intro hrel ?_)) | exact Or.inl rfl | exact Or.inr (And.intro rfl rfl) | (apply Exists.intro; refine And.intro ?_ ?_)) | exact Nat.le_of_ble_eq_true rfl)
  all_goals (try ((repeat (with_reducible rename PickR _ _ => hq; have hq1 := hq.lo; have hq2 := hq.hi; have hq3 := hq.zero; clear hq)) <;> (try (change _ = _)) <;> (try dsimp only at *) <;> (try simp only [decide_eq_true_eq, decide_eq_false_iff_not, Bool.not_eq_true', Bool.not_eq_false', Bool.and_eq_true, Bool.and_eq_false_iff, beq_iff_eq, bne_iff_ne, beq_eq_false_iff_ne, bne_eq_false_iff_eq, ne_eq, Decidable.not_not, bne_self_eq_false, Bool.false_eq_true, Bool.true_eq_false, Bool.not_true, Bool.not_false, not_true_eq_false, not_false_eq_true, Int.toNat_natCast, Nat.zero_add, Nat.reduceAdd, Nat.reduceMul, Nat.reduceDiv, Nat.mul_one, lenK_one, big, fill_len, marking_len, marks_len, nrms_len, List.length_set, List.length_append, List.length_map, List.length_replicate, List.length_cons, List.length_nil, Int.natCast_add, Int.natCast_one, Int.natCast_zero, memI_i, memI_nil, or_false, false_or] at *) <;> (repeat (with_reducible rename _ ∧ _ => hh; obtain ⟨_, _⟩ := hh)) <;> (first | omega | (refine fits_i64 ?_; omega) | (split <;> omega) | (with_reducible assumption) | exact h2 _ (by with_reducible assumption) | rfl)))
set_option maxRecDepth 100000 in
set_option maxHeartbeats 4000000 in
theorem p_drawRS : Proved 24 cDVB := by
  refine proved_of [(44, cNewReader), (43, cAnyB)] ⟨p_newReader, p_anyBuffer, trivial⟩ [.cell 2 29] Try.func24 rfl rfl rfl rfl (by kernel_rfl) ?_
  intro ds K hrel
  simp only [cDVB] at hrel
  split at hrel
  case h_2 => exact hrel.elim
  rename_i ks xs
  obtain ⟨rfl, h1, h2, hrel⟩ := hrel
  refine ⟨rfl, Nat.le_of_ble_eq_true rfl, fun _ _ => none, ?_⟩
  repeat' (first | with_reducible refine And.intro ?_ ?_ | (with_reducible intro h; first | (exact absurd h (by decide)) | (guard_hyp h : true = true; clear h) | (guard_hyp h : false = false; clear h) | skip) | with_reducible exact True.intro | ((with_reducible refine (id ?_ : @Eq Bool (nodupN _) true)); kernel_rfl) | ((with_reducible refine (id ?_ : @Eq Bool (apartN _ _) true)); kernel_rfl) | ((with_reducible refine (id ?_ : @Eq Bool (formL _ _) true)); kernel_rfl) | ((with_reducible refine (id ?_ : @Eq _ _ _)); exact rfl) | ((conv => whnf); first | done | with_reducible refine And.intro ?_ ?_ | (with_reducible intro h; first | (exact absurd h (by decide)) | (guard_hyp h : true = true; clear h) | (guard_hyp h : false = false; clear h) | skip) | with_reducible exact True.intro | ((with_reducible refine (id ?_ : @Eq _ _ _)); exact rfl) | (refine Exists.intro _ (Exists.intro _ (And.intro (hrel ?_ ?_ ?_) ?_))) | refine Exists.intro _ (Exists.intro _ (And.intro hrel ?_)) | exact Or.inl rfl | exact Or.inr (And.intro rfl rfl) | (apply Exists.intro; refine And.intro ?_ ?_)) | exact Nat.le_of_ble_eq_true rfl)
  all_goals (try ((repeat (with_reducible rename PickR _ _ => hq; have hq1 := hq.lo; have hq2 := hq.hi; have hq3 := hq.zero; clear hq)) <;> (try (change _ = _)) <;> (try dsimp only at *) <;> (try simp only [decide_eq_true_eq, decide_eq_false_iff_not, Bool.not_eq_true', Bool.not_eq_false', Bool.and_eq_true, Bool.and_eq_false_iff, beq_iff_eq, bne_iff_ne, beq_eq_false_iff_ne, bne_eq_false_iff_eq, ne_eq, Decidable.not_not, bne_self_eq_false, Bool.false_eq_true, Bool.true_eq_false, Bool.not_true, Bool.not_false, not_true_eq_false, not_false_eq_true, Int.toNat_natCast, Nat.zero_add, Nat.reduceAdd, Nat.reduceMul, Nat.reduceDiv, Nat.mul_one, lenK_one, big, fill_len, marking_len, marks_len, nrms_len, List.length_set, List.length_append, List.length_map, List.length_replicate, List.length_cons, List.length_nil, Int.natCast_add, Int.natCast_one, Int.natCast_zero, memI_i, memI_nil, or_false, false_or] at *) <;> (repeat (with_reducible rename _ ∧ _ => hh; obtain ⟨_, _⟩ := hh)) <;> (first | omega | (refine fits_i64 ?_; omega) | (split <;> omega) | (with_reducible assumption) | exact h2 _ (by with_reducible assumption) | rfl)))
/-- The orders of regions that draw. -/
def trDCW : Nat → Option (Bool × Tr)
  | 3 => some (false, .take 1 (.all (.cons 0 (.all (.cons 2 (.all (.cons 3 (.all (.cons 4 (.take 5 .done) .nil)) .nil)) .nil)) (.cons 2 (.all (.cons 0 (.all (.cons 3 (.all (.cons 4 (.take 5 .done) .nil)) .nil)) (.cons 3 (.all (.cons 0 (.all (.cons 4 (.take 5 .done) .nil)) .nil)) .nil))) .nil))))
  | _ => none
set_option maxRecDepth 100000 in
set_option maxHeartbeats 8000000 in
theorem p_drawCW : Proved 23 cDCW := by
  refine proved_tr trDCW [(44, cNewReader), (43, cAnyB), (45, cOne)] ⟨p_newReader, p_anyBuffer, p_one, trivial⟩ [.cell 2 29, .tmp 3] Try.func23 rfl rfl rfl rfl (by kernel_rfl) ?_
  intro ds K hrel
  simp only [cDCW] at hrel
  split at hrel
  case h_2 => exact hrel.elim
  rename_i ks xs
  obtain ⟨rfl, h1, h2, hrel⟩ := hrel
  refine ⟨rfl, Nat.le_of_ble_eq_true rfl, fun _ _ => none, ?_⟩
  repeat' (first | with_reducible refine And.intro ?_ ?_ | (with_reducible intro h; first | (exact absurd h (by decide)) | (guard_hyp h : true = true; clear h) | (guard_hyp h : false = false; clear h) | skip) | with_reducible exact True.intro | ((with_reducible refine (id ?_ : @Eq Bool (nodupN _) true)); kernel_rfl) | ((with_reducible refine (id ?_ : @Eq Bool (apartN _ _) true)); kernel_rfl) | ((with_reducible refine (id ?_ : @Eq Bool (formL _ _) true)); kernel_rfl) | ((with_reducible refine (id ?_ : @Eq _ _ _)); exact rfl) | ((conv => whnf); first | done | with_reducible refine And.intro ?_ ?_ | (with_reducible intro h; first | (exact absurd h (by decide)) | (guard_hyp h : true = true; clear h) | (guard_hyp h : false = false; clear h) | skip) | with_reducible exact True.intro | ((with_reducible refine (id ?_ : @Eq _ _ _)); exact rfl) | (refine Exists.intro _ (Exists.intro _ (And.intro (hrel ?_ ?_ ?_ ?_) ?_))) | refine Exists.intro _ (Exists.intro _ (And.intro hrel ?_)) | exact Or.inl rfl | exact Or.inr (And.intro rfl rfl) | (apply Exists.intro; refine And.intro ?_ ?_)) | exact Nat.le_of_ble_eq_true rfl)
  all_goals (try ((repeat (with_reducible rename PickR _ _ => hq; have hq1 := hq.lo; have hq2 := hq.hi; have hq3 := hq.zero; clear hq)) <;> (try (change _ = _)) <;> (try dsimp only at *) <;> (try simp only [decide_eq_true_eq, decide_eq_false_iff_not, Bool.not_eq_true', Bool.not_eq_false', Bool.and_eq_true, Bool.and_eq_false_iff, beq_iff_eq, bne_iff_ne, beq_eq_false_iff_ne, bne_eq_false_iff_eq, ne_eq, Decidable.not_not, bne_self_eq_false, Bool.false_eq_true, Bool.true_eq_false, Bool.not_true, Bool.not_false, not_true_eq_false, not_false_eq_true, Int.toNat_natCast, Nat.zero_add, Nat.reduceAdd, Nat.reduceMul, Nat.reduceDiv, Nat.mul_one, lenK_one, big, fill_len, marking_len, marks_len, nrms_len, List.length_set, List.length_append, List.length_map, List.length_replicate, List.length_cons, List.length_nil, Int.natCast_add, Int.natCast_one, Int.natCast_zero, memI_i, memI_nil, or_false, false_or] at *) <;> (repeat (with_reducible rename _ ∧ _ => hh; obtain ⟨_, _⟩ := hh)) <;> (first | omega | (refine fits_i64 ?_; omega) | (split <;> omega) | (with_reducible assumption) | exact h2 _ (by with_reducible assumption) | rfl)))
theorem row_tk {xs : List Row} {n j : Nat} (h : j < n) : row (xs.take n) j = row xs j := by
  unfold row
  rw [List.getD_eq_getElem?_getD, List.getD_eq_getElem?_getD, List.getElem?_take, if_pos h]
theorem vb_take {xs : List Row} {f : Int} (h : VB xs f) (n : Nat) : VB (xs.take n) f := by
  have hl : (xs.take n).length = min n xs.length := List.length_take
  refine ⟨by have := h.l; omega, h.f0, h.f1, ⟨fun j hj => ?_, fun j hj => ⟨fun k hk => ?_⟩⟩⟩
  · rw [row_tk (by omega)]; exact h.a.ok j (by omega)
  · rw [row_tk (by omega), row_tk (by omega)]; exact (h.a.un j (by omega)).h k hk
theorem vt_take {xs : List Row} {f : Int} (h : VB xs f) (n : Nat) : true = decide (VB (xs.take n) f) := true_eq (vb_take h n)
theorem tk_big {xs : List Row} {n : Nat} (h : xs.length ≤ 5) : ((xs.take n).length : Int) < 9223372036854775808 := by rw [List.length_take]; omega
/-- Up to frame i there is one of the page that can be written. -/
def CwP (xs : List Row) (f p i : Int) : Prop := ∃ j : Nat, (j : Int) < i ∧ (rc (row xs j) 0).int = p ∧ (rc (row xs j) 1).bool = true ∧ (rc (row xs j) 3).int ≤ f
theorem cp_zero (xs : List Row) (f p : Int) : false = decide (CwP xs f p 0) := false_eq (fun ⟨j, h, _⟩ => by omega)
theorem cp_yes {xs : List Row} {f p i : Int} (h0 : 0 ≤ i) (h1 : (rc (row xs i.toNat) 0).int = p) (h2 : (rc (row xs i.toNat) 1).bool = true) (h3 : (rc (row xs i.toNat) 3).int ≤ f) : true = decide (CwP xs f p (i + 1)) := true_eq ⟨i.toNat, by omega, h1, h2, h3⟩
theorem cp_no {xs : List Row} {f p i : Int} (h0 : 0 ≤ i) (h : ¬ ((rc (row xs i.toNat) 0).int = p ∧ (rc (row xs i.toNat) 1).bool = true ∧ (rc (row xs i.toNat) 3).int ≤ f)) : decide (CwP xs f p i) = decide (CwP xs f p (i + 1)) := by
  rw [decide_eq_decide]
  constructor
  · rintro ⟨j, h1, h2⟩; exact ⟨j, by omega, h2⟩
  · rintro ⟨j, h1, h2⟩
    by_cases e : (j : Int) = i
    · subst e; exact absurd h2 h
    · exact ⟨j, by omega, h2⟩
theorem cp_no1 {xs : List Row} {f p i : Int} (h0 : 0 ≤ i) (h : ¬ (rc (row xs i.toNat) 0).int = p) : decide (CwP xs f p i) = decide (CwP xs f p (i + 1)) := cp_no h0 (fun q => h q.1)
theorem cp_no2 {xs : List Row} {f p i : Int} (h0 : 0 ≤ i) (h : (rc (row xs i.toNat) 1).bool = false) : decide (CwP xs f p i) = decide (CwP xs f p (i + 1)) := cp_no h0 (fun q => by rw [h] at q; cases q.2.1)
theorem cp_no3 {xs : List Row} {f p i : Int} (h0 : 0 ≤ i) (h : ¬ (rc (row xs i.toNat) 3).int ≤ f) : decide (CwP xs f p i) = decide (CwP xs f p (i + 1)) := cp_no h0 (fun q => h q.2.2)
theorem cw_some {xs : List Row} {f p i : Int} (h : CwP xs f p i) (hi : i ≤ xs.length) : decide (CW xs f p) = decide (VB xs f) := by
  rw [decide_eq_decide]
  constructor
  · exact fun q => q.v
  · intro v
    obtain ⟨j, h1, h2, h3, h4⟩ := h
    have hf : (j : Int) = findC 0 xs p := find_at (by omega) (by omega) h2 (by have := v.a.un j (by omega); rw [← h2]; exact this)
    refine ⟨v, by omega, ?_, ?_⟩
    · rw [← hf]; exact h3
    · rw [← hf]; exact h4
theorem cw_none {xs : List Row} {f p i : Int} (h : ¬ CwP xs f p i) (hi : ¬ i < xs.length) : ¬ CW xs f p := by
  intro q
  have := find_hi 0 xs p
  have hs := find_spec 0 xs p
  exact h ⟨(findC 0 xs p).toNat, by have := q.a; omega, hs.at' q.a, q.d, q.l⟩
/-- The orders of regions that draw. -/
def trFVB : Nat → Option (Bool × Tr)
  | 7 => some (true, .take 0 (.take 1 (.take 2 (.take 3 (.take 4 (.take 5 (.take 7 (.take 8 (.all (.cons 6 (.take 9 (.all (.cons 10 (.take 11 .done) .nil))) .nil))))))))))
  | _ => none
set_option maxRecDepth 100000 in
set_option maxHeartbeats 16000000 in
theorem p_fnValidBuffer : Proved 6 (cLaw [.c (.s KU8)]) := by
  refine proved_tr trFVB [(22, cDVB), (16, cVB), (14, cVB)] ⟨p_drawVB, p_iVB, p_sVB, trivial⟩ [.tmp 2] Try.func6 rfl rfl rfl rfl (by kernel_rfl) ?_
  rintro ds K ⟨hds, hrel⟩
  obtain ⟨xs, rfl, h1, h2⟩ := law_code hds
  unfold maxLen at h1
  refine ⟨rfl, Nat.le_of_ble_eq_true rfl, fun _ _ => none, ?_⟩
  repeat' (first | with_reducible refine And.intro ?_ ?_ | (with_reducible intro h; first | (exact absurd h (by decide)) | (guard_hyp h : true = true; clear h) | (guard_hyp h : false = false; clear h) | skip) | with_reducible exact True.intro | ((with_reducible refine (id ?_ : @Eq Bool (nodupN _) true)); kernel_rfl) | ((with_reducible refine (id ?_ : @Eq Bool (apartN _ _) true)); kernel_rfl) | ((with_reducible refine (id ?_ : @Eq Bool (formL _ _) true)); kernel_rfl) | ((with_reducible refine (id ?_ : @Eq _ _ _)); exact rfl) | ((conv => whnf); first | done | with_reducible refine And.intro ?_ ?_ | (with_reducible intro h; first | (exact absurd h (by decide)) | (guard_hyp h : true = true; clear h) | (guard_hyp h : false = false; clear h) | skip) | with_reducible exact True.intro | ((with_reducible refine (id ?_ : @Eq _ _ _)); exact rfl) | refine Exists.intro _ (Exists.intro _ (And.intro hrel ?_)) | exact Or.inl rfl | exact Or.inr (And.intro rfl rfl) | (apply Exists.intro; refine And.intro ?_ ?_)) | exact Nat.le_of_ble_eq_true rfl)
  all_goals (try ((try (change _ = _)) <;> (try dsimp only at *) <;> (try simp only [decide_eq_true_eq, decide_eq_false_iff_not, Bool.not_eq_true', Bool.not_eq_false', Bool.and_eq_true, Bool.and_eq_false_iff, beq_iff_eq, bne_iff_ne, beq_eq_false_iff_ne, bne_eq_false_iff_eq, ne_eq, Decidable.not_not, bne_self_eq_false, Bool.false_eq_true, Bool.true_eq_false, Bool.not_true, Bool.not_false, not_true_eq_false, not_false_eq_true, Int.toNat_natCast, Nat.zero_add, Nat.reduceAdd, Nat.reduceMul, Nat.reduceDiv, Nat.mul_one, lenK_one, big, fill_len, marking_len, marks_len, nrms_len, List.length_set, List.length_append, List.length_map, List.length_replicate, List.length_cons, List.length_nil, Int.natCast_add, Int.natCast_one, Int.natCast_zero, decide_true, List.drop_zero, Int.toNat_zero] at *) <;> (repeat (with_reducible rename _ ∧ _ => hh; obtain ⟨_, _⟩ := hh)) <;> (first | omega | (refine fits_i64 ?_; omega) | (split <;> omega) | exact h2 _ (by with_reducible assumption) | (with_reducible assumption) | (with_reducible exact tk_big (by omega)) | (with_reducible exact vt_take (by with_reducible assumption) _) | (with_reducible exact (vt_take (by with_reducible assumption) _).symm) | (with_reducible exact vb_take (by with_reducible assumption) _))))
set_option maxRecDepth 100000 in
set_option maxHeartbeats 16000000 in
theorem p_fnCanWrite : Proved 7 (cLaw [.c (.s KU8)]) := by
  refine proved_of [(23, cDCW), (19, cCW), (18, cCW), (16, cVB)] ⟨p_drawCW, p_iCW, p_sCW, p_iVB, trivial⟩ [.tmp 2] Try.func7 rfl rfl rfl rfl (by kernel_rfl) ?_
  rintro ds K ⟨hds, hrel⟩
  obtain ⟨xs, rfl, h1, h2⟩ := law_code hds
  unfold maxLen at h1
  refine ⟨rfl, Nat.le_of_ble_eq_true rfl, fun k σ => match lookH σ.hp 0 with
    | some (.rows _ _ ys) => match lookH σ.hp 1 with
      | some (.box [_, .int _ f]) => match lookT σ.tm 4 with
        | .int _ p => match k with
          | 9 => some { α := Lv 9 Int, R := fun ⟨i⟩ => (0 ≤ i ∧ i ≤ ys.length ∧ ys.length ≤ 5), μ := fun ⟨i⟩ => (ys.length - i).toNat, st := fun ⟨i⟩ => up σ [(7, .int .i64 i), (6, .bool (decide (CwP ys f p i)))] }
          | _ => none
        | _ => none
      | _ => none
    | _ => none, ?_⟩
  repeat' (first | with_reducible refine And.intro ?_ ?_ | (with_reducible intro h; first | (exact absurd h (by decide)) | (guard_hyp h : true = true; clear h) | (guard_hyp h : false = false; clear h) | (have hq := (h : Lv 9 _); clear hq; obtain ⟨_⟩ := h) | skip) | with_reducible exact True.intro | ((with_reducible refine (id ?_ : @Eq Bool (nodupN _) true)); kernel_rfl) | ((with_reducible refine (id ?_ : @Eq Bool (apartN _ _) true)); kernel_rfl) | ((with_reducible refine (id ?_ : @Eq Bool (formL _ _) true)); kernel_rfl) | ((with_reducible refine (id ?_ : @Eq _ _ _)); exact rfl) | ((conv => whnf); first | done | with_reducible refine And.intro ?_ ?_ | (with_reducible intro h; first | (exact absurd h (by decide)) | (guard_hyp h : true = true; clear h) | (guard_hyp h : false = false; clear h) | (have hq := (h : Lv 9 _); clear hq; obtain ⟨_⟩ := h) | skip) | with_reducible exact True.intro | ((with_reducible refine (id ?_ : @Eq _ _ _)); exact rfl) | refine Exists.intro (⟨?_⟩ : Lv 9 _) ?_ | refine Exists.intro _ (Exists.intro _ (And.intro hrel ?_)) | exact Or.inl rfl | exact Or.inr (And.intro rfl rfl) | (apply Exists.intro; refine And.intro ?_ ?_)) | exact Nat.le_of_ble_eq_true rfl)
  all_goals (try ((try (change _ = _)) <;> (try dsimp only at *) <;> (try simp only [decide_eq_true_eq, decide_eq_false_iff_not, Bool.not_eq_true', Bool.not_eq_false', Bool.and_eq_true, Bool.and_eq_false_iff, beq_iff_eq, bne_iff_ne, beq_eq_false_iff_ne, bne_eq_false_iff_eq, ne_eq, Decidable.not_not, bne_self_eq_false, Bool.false_eq_true, Bool.true_eq_false, Bool.not_true, Bool.not_false, not_true_eq_false, not_false_eq_true, Int.toNat_natCast, Nat.zero_add, Nat.reduceAdd, Nat.reduceMul, Nat.reduceDiv, Nat.mul_one, lenK_one, big, fill_len, marking_len, marks_len, nrms_len, List.length_set, List.length_append, List.length_map, List.length_replicate, List.length_cons, List.length_nil, Int.natCast_add, Int.natCast_one, Int.natCast_zero, decide_true, AV.bool.injEq] at *) <;> (repeat (with_reducible rename _ ∧ _ => hh; obtain ⟨_, _⟩ := hh)) <;> (first | omega | (refine fits_i64 ?_; omega) | (split <;> omega) | exact h2 _ (by with_reducible assumption) | (with_reducible assumption) | exact cp_zero _ _ _ | exact (cp_zero _ _ _).symm | exact cp_yes (by omega) (by with_reducible assumption) (by with_reducible assumption) (by with_reducible assumption) | exact cp_no1 (by omega) (by with_reducible assumption) | exact cp_no2 (by omega) (by with_reducible assumption) | exact cp_no3 (by omega) (by omega) | exact cw_some (by with_reducible assumption) (by omega) | exact cw_none (by with_reducible assumption) (by omega))))

theorem rst_props {xs : List Row} (h : FrsOk xs xs.length) : ∀ i : Nat, i ≤ xs.length → (rst (xs.take i) = 0 → ∀ j, j < i → (rc (row xs j) 1).bool = false) ∧ (¬ rst (xs.take i) = 0 → ∃ j, j < i ∧ (rc (row xs j) 1).bool = true ∧ (rc (row xs j) 2).int = rst (xs.take i)) ∧ (∀ j, j < i → (rc (row xs j) 1).bool = true → rst (xs.take i) ≤ (rc (row xs j) 2).int)
  | 0, _ => by
    have e : rst (xs.take 0) = 0 := rst_zero xs
    exact ⟨fun _ j hj => by omega, fun q => absurd e q, fun j hj => by omega⟩
  | i + 1, hi => by
    obtain ⟨p1, p2, p3⟩ := rst_props h i (by omega)
    have hd := (h.ok i (by omega)).d
    rw [take_succ_row (by omega), rst_snoc]
    by_cases hc : (rc (row xs i) 1).bool = true ∧ (rst (xs.take i) = 0 ∨ (rc (row xs i) 2).int < rst (xs.take i))
    · rw [if_pos hc]
      have h0 : 0 < (rc (row xs i) 2).int := by rw [hc.1] at hd; simpa using hd.symm
      refine ⟨fun q => by omega, fun _ => ⟨i, by omega, hc.1, rfl⟩, fun j hj hjd => ?_⟩
      rcases Nat.lt_succ_iff_lt_or_eq.1 hj with hj | rfl
      · rcases hc.2 with q | q
        · have := p1 q j hj; rw [this] at hjd; cases hjd
        · have := p3 j hj hjd; omega
      · exact Int.le_refl _
    · rw [if_neg hc]
      refine ⟨fun q j hj => ?_, fun q => ?_, fun j hj hjd => ?_⟩
      · rcases Nat.lt_succ_iff_lt_or_eq.1 hj with hj | rfl
        · exact p1 q j hj
        · cases hb : (rc (row xs j) 1).bool with
          | false => rfl
          | true => exact absurd ⟨hb, .inl q⟩ hc
      · obtain ⟨j, h1, h2⟩ := p2 q
        exact ⟨j, by omega, h2⟩
      · rcases Nat.lt_succ_iff_lt_or_eq.1 hj with hj | rfl
        · exact p3 j hj hjd
        · apply Classical.byContradiction
          intro q
          exact hc ⟨hjd, .inr (by omega)⟩
theorem rs_is {xs : List Row} {f : Int} (h : ¬ RS xs f < 0) : VB xs f ∧ RS xs f = rst (xs.take xs.length) := by
  unfold RS at h ⊢
  split
  · rename_i hv; exact ⟨hv, by rw [List.take_length]⟩
  · rename_i hv; rw [if_neg hv] at h; omega
theorem rs_lt {xs : List Row} {f i : Int} (h : ¬ RS xs f < 0) (hd : (rc (row xs i.toNat) 1).bool = true) (hl : (rc (row xs i.toNat) 2).int < RS xs f) (h0 : 0 ≤ i) (hi : i < xs.length) : False := by
  obtain ⟨hv, e⟩ := rs_is h
  have := (rst_props hv.a _ (Nat.le_refl _)).2.2 i.toNat (by omega) hd
  rw [← e] at this; omega
theorem rs_zero {xs : List Row} {f i : Int} (h : ¬ RS xs f < 0) (hd : (rc (row xs i.toNat) 1).bool = true) (hl : RS xs f = 0) (h0 : 0 ≤ i) (hi : i < xs.length) : False := by
  obtain ⟨hv, e⟩ := rs_is h
  have := (rst_props hv.a _ (Nat.le_refl _)).1 (by rw [← e]; exact hl) i.toNat (by omega)
  rw [hd] at this; cases this
/-- The start is 0, or First of one of the first i dirty frames. -/
def RsP (xs : List Row) (n i : Int) : Prop := n = 0 ∨ ∃ j : Nat, (j : Int) < i ∧ (rc (row xs j) 1).bool = true ∧ (rc (row xs j) 2).int = n
theorem rp_zero (xs : List Row) (n : Int) : (n == 0) = decide (RsP xs n 0) := by
  by_cases hn : n = 0
  · rw [← true_eq (p := RsP xs n 0) (.inl hn)]; simpa using hn
  · rw [← false_eq (p := RsP xs n 0) (fun q => q.elim hn (fun ⟨j, h, _⟩ => by omega))]; simpa using hn
theorem rp_yes {xs : List Row} {n i : Int} (h : RsP xs n i) : true = decide (RsP xs n (i + 1)) := true_eq (h.elim .inl (fun ⟨j, h1, h2⟩ => .inr ⟨j, by omega, h2⟩))
theorem rp_back {xs : List Row} {n i : Int} (h : RsP xs n (i + 1)) (h1 : ¬ ((rc (row xs i.toNat) 1).bool = true ∧ (rc (row xs i.toNat) 2).int = n)) : RsP xs n i := by
  rcases h with h | ⟨j, h2, h3⟩
  · exact .inl h
  · by_cases e : (j : Int) = i
    · subst e; exact absurd h3 h1
    · exact .inr ⟨j, by omega, h3⟩
theorem rp_no {xs : List Row} {n i : Int} (h : ¬ RsP xs n i) (hd : (rc (row xs i.toNat) 1).bool = false) : false = decide (RsP xs n (i + 1)) := false_eq (fun q => h (rp_back q (fun w => by rw [hd] at w; cases w.1)))
theorem rp_pick {xs : List Row} {n i : Int} (h : ¬ RsP xs n i) (hd : (rc (row xs i.toNat) 1).bool = true) (h0 : 0 ≤ i) : ((rc (row xs i.toNat) 2).int == n) = decide (RsP xs n (i + 1)) := by
  by_cases hn : (rc (row xs i.toNat) 2).int = n
  · rw [← true_eq (p := RsP xs n (i + 1)) (.inr ⟨i.toNat, by omega, hd, hn⟩)]; simpa using hn
  · rw [← false_eq (p := RsP xs n (i + 1)) (fun q => h (rp_back q (fun w => hn w.2)))]; simpa using hn
theorem rp_end {xs : List Row} {f i : Int} (h : ¬ RS xs f < 0) (hi : ¬ i < xs.length) : RsP xs (RS xs f) i := by
  obtain ⟨hv, e⟩ := rs_is h
  by_cases hz : RS xs f = 0
  · exact .inl hz
  · obtain ⟨j, h1, h2, h3⟩ := (rst_props hv.a _ (Nat.le_refl _)).2.1 (by rw [← e]; exact hz)
    exact .inr ⟨j, by omega, h2, by rw [e]; exact h3⟩
theorem rp_endt {xs : List Row} {f i : Int} (h : ¬ RS xs f < 0) (hi : ¬ i < xs.length) : true = decide (RsP xs (RS xs f) i) := true_eq (rp_end h hi)
set_option maxRecDepth 100000 in
set_option maxHeartbeats 16000000 in
theorem p_fnRedoStart : Proved 8 (cLaw [.c (.s KU8)]) := by
  refine proved_of [(24, cDVB), (21, cRS), (20, cRS)] ⟨p_drawRS, p_iRS, p_sRS, trivial⟩ [.tmp 2] Try.func8 rfl rfl rfl rfl (by kernel_rfl) ?_
  rintro ds K ⟨hds, hrel⟩
  obtain ⟨xs, rfl, h1, h2⟩ := law_code hds
  unfold maxLen at h1
  refine ⟨rfl, Nat.le_of_ble_eq_true rfl, fun k σ => match lookH σ.hp 0 with
    | some (.rows _ _ ys) => match lookT σ.tm 4 with
      | .int _ n => match k with
        | 9 => some { α := Lv 9 Int, R := fun ⟨i⟩ => (0 ≤ i ∧ i ≤ ys.length ∧ ys.length ≤ 5), μ := fun ⟨i⟩ => (ys.length - i).toNat, st := fun ⟨i⟩ => up σ [(6, .int .i64 i), (5, .bool (decide (RsP ys n i)))] }
        | _ => none
      | _ => none
    | _ => none, ?_⟩
  repeat' (first | with_reducible refine And.intro ?_ ?_ | (with_reducible intro h; first | (exact absurd h (by decide)) | (guard_hyp h : true = true; clear h) | (guard_hyp h : false = false; clear h) | (have hq := (h : Lv 9 _); clear hq; obtain ⟨_⟩ := h) | skip) | with_reducible exact True.intro | ((with_reducible refine (id ?_ : @Eq Bool (nodupN _) true)); kernel_rfl) | ((with_reducible refine (id ?_ : @Eq Bool (apartN _ _) true)); kernel_rfl) | ((with_reducible refine (id ?_ : @Eq Bool (formL _ _) true)); kernel_rfl) | ((with_reducible refine (id ?_ : @Eq _ _ _)); exact rfl) | ((conv => whnf); first | done | with_reducible refine And.intro ?_ ?_ | (with_reducible intro h; first | (exact absurd h (by decide)) | (guard_hyp h : true = true; clear h) | (guard_hyp h : false = false; clear h) | (have hq := (h : Lv 9 _); clear hq; obtain ⟨_⟩ := h) | skip) | with_reducible exact True.intro | ((with_reducible refine (id ?_ : @Eq _ _ _)); exact rfl) | refine Exists.intro (⟨?_⟩ : Lv 9 _) ?_ | refine Exists.intro _ (Exists.intro _ (And.intro hrel ?_)) | exact Or.inl rfl | exact Or.inr (And.intro rfl rfl) | (apply Exists.intro; refine And.intro ?_ ?_)) | exact Nat.le_of_ble_eq_true rfl)
  all_goals (try ((try (change _ = _)) <;> (try dsimp only at *) <;> (try simp only [decide_eq_true_eq, decide_eq_false_iff_not, Bool.not_eq_true', Bool.not_eq_false', Bool.and_eq_true, Bool.and_eq_false_iff, beq_iff_eq, bne_iff_ne, beq_eq_false_iff_ne, bne_eq_false_iff_eq, ne_eq, Decidable.not_not, bne_self_eq_false, Bool.false_eq_true, Bool.true_eq_false, Bool.not_true, Bool.not_false, not_true_eq_false, not_false_eq_true, Int.toNat_natCast, Nat.zero_add, Nat.reduceAdd, Nat.reduceMul, Nat.reduceDiv, Nat.mul_one, lenK_one, big, fill_len, marking_len, marks_len, nrms_len, List.length_set, List.length_append, List.length_map, List.length_replicate, List.length_cons, List.length_nil, Int.natCast_add, Int.natCast_one, Int.natCast_zero, decide_true] at *) <;> (repeat (with_reducible rename _ ∧ _ => hh; obtain ⟨_, _⟩ := hh)) <;> (first | omega | (refine fits_i64 ?_; omega) | (split <;> omega) | exact h2 _ (by with_reducible assumption) | (with_reducible assumption) | (with_reducible exact rp_zero _ _) | (with_reducible exact (rp_zero _ _).symm) | (with_reducible exact rp_yes (by with_reducible assumption)) | (with_reducible exact rp_no (by with_reducible assumption) (by with_reducible assumption)) | (with_reducible exact rp_pick (by with_reducible assumption) (by with_reducible assumption) (by omega)) | (exfalso; exact rs_lt (by omega) (by with_reducible assumption) (by with_reducible assumption) (by omega) (by omega)) | (exfalso; exact rs_lt (by with_reducible assumption) (by with_reducible assumption) (by with_reducible assumption) (by omega) (by omega)) | (exfalso; exact rs_zero (by with_reducible assumption) (by with_reducible assumption) (by with_reducible assumption) (by omega) (by omega)) | (exfalso; exact rs_zero (by omega) (by with_reducible assumption) (by with_reducible assumption) (by omega) (by omega)) | (with_reducible exact rp_endt (by omega) (by omega)) | (with_reducible exact (rp_endt (by omega) (by omega)).symm) | (with_reducible exact rp_end (by omega) (by omega)))))
end Go.Proofs.Ytfchlcghildiaaa.V
