/-
  Journals: which ones are possible.
-/
import Derived.Test.YtkjdhfkihampjaaCc
set_option linter.unusedSimpArgs false
set_option linter.unusedVariables false
namespace Go.Proofs.Ytkjdhfkihampjaa.V
open Go Go.RowKit
open Classical

/-- A store after the first i notes. -/
def now0 (s es : List Row) : Nat → List Row
  | 0 => s
  | i + 1 => if (rc (row es i) 0).bool = true then now0 s es i else setI (now0 s es i) (rc (row es i) 2).int (rc (row es i) 4).int
@[irreducible] def now (s es : List Row) (i : Nat) : List Row := now0 s es i
theorem now_zero (s es : List Row) : s = now s es (Int.toNat 0) := by simp [now, now0]
theorem now_zero0 (s es : List Row) : s = now s es 0 := now_zero s es
theorem now_succ (s es : List Row) (i : Nat) : now s es (i + 1) = if (rc (row es i) 0).bool = true then now s es i else setI (now s es i) (rc (row es i) 2).int (rc (row es i) 4).int := by
  simp only [now, now0]
theorem now_len (s es : List Row) : ∀ i : Nat, (now s es i).length = s.length
  | 0 => by rw [show now s es 0 = s from (now_zero s es).symm]
  | i + 1 => by
    rw [now_succ]
    split
    · exact now_len s es i
    · rw [setI_len]; exact now_len s es i
theorem now_end {s es : List Row} {i : Int} (h0 : 0 ≤ i) (h : (rc (row es i.toNat) 0).bool = true) : now s es i.toNat = now s es (i + 1).toNat := by
  rw [show (i + 1).toNat = i.toNat + 1 by omega, now_succ, if_pos h]
theorem now_edit {s es : List Row} {i : Int} (h0 : 0 ≤ i) (h : (rc (row es i.toNat) 0).bool = false) : setI (now s es i.toNat) (rc (row es i.toNat) 2).int (rc (row es i.toNat) 4).int = now s es (i + 1).toNat := by
  rw [show (i + 1).toNat = i.toNat + 1 by omega, now_succ, if_neg (by rw [h]; simp)]
/-- None of the first j notes stands against an edit of a thing behind the first i. -/
structure FreeP (es : List Row) (t who i j : Int) : Prop where
  h : ∀ k : Nat, (k : Int) < j → ¬ ((rc (row es k) 0).bool = false ∧ (rc (row es k) 2).int = t ∧ (rc (row es k) 1).int ≠ who ∧ NoEnd es (rc (row es k) 1).int i)
theorem freeP_zero (es : List Row) (t who i : Int) : FreeP es t who i 0 := ⟨fun k h => by omega⟩
theorem freeP_step {es : List Row} {t who i j : Int} (h : FreeP es t who i j) (h1 : ¬ ((rc (row es j.toNat) 0).bool = false ∧ (rc (row es j.toNat) 2).int = t ∧ (rc (row es j.toNat) 1).int ≠ who ∧ NoEnd es (rc (row es j.toNat) 1).int i)) : FreeP es t who i (j + 1) := ⟨fun k hk => by
  by_cases e : (k : Int) = j
  · subst e; exact h1
  · exact h.h k (by omega)⟩
theorem row_take {xs : List Row} {n j : Nat} (h : j < n) : row (xs.take n) j = row xs j := by
  unfold row
  rw [List.getD_eq_getElem?_getD, List.getD_eq_getElem?_getD, List.getElem?_take, if_pos h]
theorem noEnd_take {es : List Row} {who i : Int} (h0 : 0 ≤ i) (hi : i ≤ es.length) : NoEnd (es.take i.toNat) who (es.take i.toNat).length ↔ NoEnd es who i := by
  have hl : (es.take i.toNat).length = i.toNat := by simp; omega
  rw [hl]
  constructor
  · intro h; exact ⟨fun j hj => by have := h.h j (by omega); rwa [row_take (by omega)] at this⟩
  · intro h; exact ⟨fun j hj => by rw [row_take (by omega)]; exact h.h j (by omega)⟩
theorem free_take {es : List Row} {t who i : Int} (h0 : 0 ≤ i) (hi : i ≤ es.length) : Free (es.take i.toNat) t who (es.take i.toNat).length ↔ FreeP es t who i i := by
  have hl : (es.take i.toNat).length = i.toNat := by simp; omega
  constructor
  · intro h; exact ⟨fun j hj => by
      have := h.h j (by omega)
      rwa [row_take (by omega), noEnd_take h0 hi] at this⟩
  · intro h; exact ⟨fun j hj => by
      rw [row_take (by omega), noEnd_take h0 hi]; exact h.h j (by omega)⟩
/-- Note i of a journal is possible. -/
structure NoteV (s es : List Row) (i : Int) : Prop where
  o0 : 0 ≤ (rc (row es i.toNat) 1).int
  o7 : (rc (row es i.toNat) 1).int ≤ 7
  ne : NoEnd es (rc (row es i.toNat) 1).int i
  en : (rc (row es i.toNat) 0).bool = true → (rc (row es i.toNat) 2).int = 0 ∧ (rc (row es i.toNat) 3).int = 0 ∧ (rc (row es i.toNat) 4).int = 0
  ed : (rc (row es i.toNat) 0).bool = false → VE (now s es i.toNat) (rc (row es i.toNat) 1).int (rc (row es i.toNat) 2).int (rc (row es i.toNat) 3).int (rc (row es i.toNat) 4).int ∧ FreeP es (rc (row es i.toNat) 2).int (rc (row es i.toNat) 1).int i i
structure VNn (s es : List Row) (n : Int) : Prop where
  h : ∀ j : Nat, (j : Int) < n → NoteV s es j
theorem vnn_zero (s es : List Row) : VNn s es 0 := ⟨fun j h => by omega⟩
theorem vnn_step {s es : List Row} {i : Int} (h : VNn s es i) (h1 : NoteV s es i) : VNn s es (i + 1) := ⟨fun j hj => by
  by_cases e : (j : Int) = i
  · rw [e]; exact h1
  · exact h.h j (by omega)⟩
/-- A journal that is possible for a store. -/
structure VN (s es : List Row) : Prop where
  st : VS s
  ln : es.length ≤ 20
  a : VNn s es es.length
theorem vn_bad {s es : List Row} {i : Int} (_ : VNn s es i) (h0 : 0 ≤ i) (hi : i < es.length) (h : ¬ NoteV s es i) : false = decide (VN s es) := false_eq (fun v => by
  have := v.a.h i.toNat (by omega)
  rw [Int.toNat_of_nonneg h0] at this
  exact h this)
theorem vn_yes {s es : List Row} {i : Int} (h : VNn s es i) (hs : VS s) (hi : ¬ i < es.length) (hl : ¬ 20 < (es.length : Int)) : true = decide (VN s es) := true_eq ⟨hs, by omega, ⟨fun j hj => h.h j (by omega)⟩⟩
theorem vn_long {s es : List Row} (hl : 20 < (es.length : Int)) : false = decide (VN s es) := false_eq (fun v => by have := v.ln; omega)
theorem vn_st {s es : List Row} (h : ¬ VS s) : false = decide (VN s es) := false_eq (fun v => h v.st)
theorem vnn_end {s es : List Row} {i : Int} (h : VNn s es i) (hn : NoEnd es (rc (row es i.toNat) 1).int i) (hE : (rc (row es i.toNat) 0).bool = true) (ho : 0 ≤ (rc (row es i.toNat) 1).int ∧ (rc (row es i.toNat) 1).int ≤ 7) (hz : (rc (row es i.toNat) 2).int = 0 ∧ (rc (row es i.toNat) 3).int = 0 ∧ (rc (row es i.toNat) 4).int = 0) : VNn s es (i + 1) :=
  vnn_step h ⟨ho.1, ho.2, hn, fun _ => hz, fun q => (by rw [hE] at q; cases q)⟩
theorem vnn_edit {s es : List Row} {i : Int} (h : VNn s es i) (hn : NoEnd es (rc (row es i.toNat) 1).int i) (hE : (rc (row es i.toNat) 0).bool = false) (hv : VE (now s es i.toNat) (rc (row es i.toNat) 1).int (rc (row es i.toNat) 2).int (rc (row es i.toNat) 3).int (rc (row es i.toNat) 4).int) (hf : FreeP es (rc (row es i.toNat) 2).int (rc (row es i.toNat) 1).int i i) (ho : 0 ≤ (rc (row es i.toNat) 1).int ∧ (rc (row es i.toNat) 1).int ≤ 7) : VNn s es (i + 1) :=
  vnn_step h ⟨ho.1, ho.2, hn, fun q => (by rw [hE] at q; cases q), fun _ => ⟨hv, hf⟩⟩
theorem nv_own {s es : List Row} {i : Int} (h : ¬ (0 ≤ (rc (row es i.toNat) 1).int ∧ (rc (row es i.toNat) 1).int ≤ 7)) : ¬ NoteV s es i := fun q => h ⟨q.o0, q.o7⟩
theorem nv_ended {s es : List Row} {i : Int} (h : ¬ NoEnd es (rc (row es i.toNat) 1).int i) : ¬ NoteV s es i := fun q => h q.ne
theorem nv_zero {s es : List Row} {i : Int} (hE : (rc (row es i.toNat) 0).bool = true) (h : ¬ ((rc (row es i.toNat) 2).int = 0 ∧ (rc (row es i.toNat) 3).int = 0 ∧ (rc (row es i.toNat) 4).int = 0)) : ¬ NoteV s es i := fun q => h (q.en hE)
theorem nv_ve {s es : List Row} {i : Int} (hE : (rc (row es i.toNat) 0).bool = false) (h : ¬ VE (now s es i.toNat) (rc (row es i.toNat) 1).int (rc (row es i.toNat) 2).int (rc (row es i.toNat) 3).int (rc (row es i.toNat) 4).int) : ¬ NoteV s es i := fun q => h (q.ed hE).1
theorem nv_free {s es : List Row} {i : Int} (hE : (rc (row es i.toNat) 0).bool = false) (h : ¬ FreeP es (rc (row es i.toNat) 2).int (rc (row es i.toNat) 1).int i i) : ¬ NoteV s es i := fun q => h (q.ed hE).2
noncomputable def cVN : Ct := ⟨[], fun ds K => match ds with
  | [.view ks s, .view js es] => ks = KInt ∧ js = KNote ∧ (s.length ≤ 1048576 ∧ (es.length : Int) < big) ∧ K (.bool (decide (VN s es))) []
  | _ => False⟩
/-- The orders of regions that draw. -/
def trVN : Nat → Option (Bool × Tr)
  | 8 => some (true, .take 0 (.take 1 (.all (.cons 2 (.take 3 (.take 4 (.take 5 (.take 6 (.take 8 (.take 9 (.all (.cons 7 (.all (.cons 10 (.take 11 .done) .nil)) .nil)))))))) .nil))))
  | 13 => some (true, .take 0 (.take 1 (.take 2 (.take 3 (.take 4 (.take 5 (.take 6 (.take 7 (.take 8 (.take 9 (.all (.cons 10 (.take 11 (.take 12 (.take 13 (.take 14 (.take 16 (.take 17 (.take 18 (.take 19 (.all (.cons 15 (.all (.cons 20 (.take 21 (.take 22 .done)) .nil)) .nil)))))))))) .nil))))))))))))
  | _ => none
theorem ne_of {es : List Row} {who i : Int} (h : NoEnd (es.take i.toNat) who (es.take i.toNat).length) (h0 : 0 ≤ i) (hi : i < es.length) : NoEnd es who i := (noEnd_take h0 (by omega)).1 h
theorem fr_of {es : List Row} {t who i : Int} (h : Free (es.take i.toNat) t who (es.take i.toNat).length) (h0 : 0 ≤ i) (hi : i < es.length) : FreeP es t who i i := (free_take h0 (by omega)).1 h
theorem ne_not {es : List Row} {who i : Int} (h : ¬ NoEnd (es.take i.toNat) who (es.take i.toNat).length) (h0 : 0 ≤ i) (hi : i < es.length) : ¬ NoEnd es who i := fun q => h ((noEnd_take h0 (by omega)).2 q)
theorem fr_not {es : List Row} {t who i : Int} (h : ¬ Free (es.take i.toNat) t who (es.take i.toNat).length) (h0 : 0 ≤ i) (hi : i < es.length) : ¬ FreeP es t who i i := fun q => h ((free_take h0 (by omega)).2 q)
theorem cut_le (es : List Row) (n : Nat) (h : (es.length : Int) < 9223372036854775808) : ((es.take n).length : Int) < 9223372036854775808 := by rw [List.length_take]; omega
set_option maxRecDepth 100000 in
set_option maxHeartbeats 8000000 in
theorem p_svN : Proved 42 cVN := by
  refine proved_tr trVN [(67, cVS), (68, cCopy 3 KInt), (66, cInRange), (43, cEnded), (69, cVE), (70, cFree)] ⟨p_sVS, p_copyInts, p_inRange, p_ended, p_sVE, p_free, trivial⟩ [.tmp 4] Try.func42 rfl rfl rfl rfl (by kernel_rfl) ?_
  intro ds K hrel
  simp only [cVN] at hrel
  split at hrel
  case h_2 => exact hrel.elim
  rename_i ks s js es
  obtain ⟨rfl, rfl, ⟨h1, h2⟩, hrel⟩ := hrel
  refine ⟨rfl, Nat.le_of_ble_eq_true rfl, fun k σ => match k with
    | 5 => some { α := Lv 5 Int, R := fun ⟨i⟩ => (0 ≤ i ∧ i ≤ es.length ∧ ¬ 20 < (es.length : Int)) ∧ VS s ∧ VNn s es i, μ := fun ⟨i⟩ => (es.length - i).toNat, st := fun ⟨i⟩ => upH σ [(6, .int .i64 i)] 0 (.rows 3 KInt (now s es i.toNat)) }
    | _ => none, ?_⟩
  repeat' (first | with_reducible refine And.intro ?_ ?_ | (with_reducible intro h; first | (exact absurd h (by decide)) | (guard_hyp h : true = true; clear h) | (guard_hyp h : false = false; clear h) | (have hq := (h : Lv 5 _); clear hq; obtain ⟨_⟩ := h) | skip) | with_reducible exact True.intro | ((with_reducible refine (id ?_ : @Eq Bool (nodupN _) true)); kernel_rfl) | ((with_reducible refine (id ?_ : @Eq Bool (apartN _ _) true)); kernel_rfl) | ((with_reducible refine (id ?_ : @Eq Bool (formL _ _) true)); kernel_rfl) | ((with_reducible refine (id ?_ : @Eq _ _ _)); exact rfl) | ((conv => whnf); first | done | with_reducible refine And.intro ?_ ?_ | (with_reducible intro h; first | (exact absurd h (by decide)) | (guard_hyp h : true = true; clear h) | (guard_hyp h : false = false; clear h) | (have hq := (h : Lv 5 _); clear hq; obtain ⟨_⟩ := h) | skip) | with_reducible exact True.intro | ((with_reducible refine (id ?_ : @Eq _ _ _)); exact rfl) | refine Exists.intro (⟨?_⟩ : Lv 5 _) ?_ | refine Exists.intro _ (Exists.intro _ (And.intro hrel ?_)) | exact Or.inl rfl | exact Or.inr (And.intro rfl rfl) | (apply Exists.intro; refine And.intro ?_ ?_)) | exact Nat.le_of_ble_eq_true rfl)
  all_goals (try ((try (change _ = _)) <;> (try dsimp only at *) <;> (try simp only [decide_eq_true_eq, decide_eq_false_iff_not, Bool.not_eq_true', Bool.not_eq_false', Bool.and_eq_true, Bool.and_eq_false_iff, beq_iff_eq, bne_iff_ne, beq_eq_false_iff_ne, bne_eq_false_iff_eq, ne_eq, Decidable.not_not, bne_self_eq_false, Bool.false_eq_true, Bool.true_eq_false, Bool.not_true, Bool.not_false, not_true_eq_false, not_false_eq_true, Int.toNat_natCast, Nat.zero_add, Nat.reduceAdd, Nat.reduceMul, Nat.reduceDiv, Nat.mul_one, lenK_one, big, fill_len, marking_len, marks_len, nrms_len, List.length_set, List.length_append, List.length_map, List.length_replicate, List.length_cons, List.length_nil, Int.natCast_add, Int.natCast_one, Int.natCast_zero, List.drop_zero, Int.toNat_zero, now_len] at *) <;> (repeat (with_reducible rename _ ∧ _ => hh; obtain ⟨_, _⟩ := hh)) <;> (first | omega | (refine fits_i64 ?_; omega) | (split <;> omega) | (with_reducible assumption) | (with_reducible exact now_zero _ _) | (with_reducible exact now_zero0 _ _) | exact now_end (by omega) (by with_reducible assumption) | exact now_edit (by omega) (by with_reducible assumption) | exact vnn_zero _ _ | exact vn_long (by omega) | exact vn_st (by with_reducible assumption) | exact vn_yes (by with_reducible assumption) (by with_reducible assumption) (by omega) (by omega) | exact vnn_end (by with_reducible assumption) (ne_of (by with_reducible assumption) (by omega) (by omega)) (by with_reducible assumption) (by omega) (by omega) | exact vnn_edit (by with_reducible assumption) (ne_of (by with_reducible assumption) (by omega) (by omega)) (by with_reducible assumption) (by with_reducible assumption) (fr_of (by with_reducible assumption) (by omega) (by omega)) (by omega) | exact vn_bad (by with_reducible assumption) (by omega) (by omega) (nv_own (by omega)) | exact vn_bad (by with_reducible assumption) (by omega) (by omega) (nv_ended (ne_not (by with_reducible assumption) (by omega) (by omega))) | exact vn_bad (by with_reducible assumption) (by omega) (by omega) (nv_zero (by with_reducible assumption) (by omega)) | exact vn_bad (by with_reducible assumption) (by omega) (by omega) (nv_ve (by with_reducible assumption) (by with_reducible assumption)) | exact vn_bad (by with_reducible assumption) (by omega) (by omega) (nv_free (by with_reducible assumption) (fr_not (by with_reducible assumption) (by omega) (by omega))) | (with_reducible exact VE.t0 (by with_reducible assumption)) | (have q := VE.tl (by with_reducible assumption); rw [now_len] at q; omega) | (with_reducible exact cut_le _ _ (by omega)))))
end Go.Proofs.Ytkjdhfkihampjaa.V
