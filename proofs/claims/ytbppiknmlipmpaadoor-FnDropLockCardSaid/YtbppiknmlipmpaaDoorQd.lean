/-
  Requests that are drawn.
-/
import Derived.Test.YtbppiknmlipmpaaDoorQb
set_option linter.unusedSimpArgs false
set_option linter.unusedVariables false
namespace Go.Proofs.YtbppiknmlipmpaaDoor.V
open Go Go.RowKit
open Classical

theorem law_code {ds : List AV} (h : PkAVs [.c (.s KU8)] ds) : ∃ xs, ds = [.view KU8 xs] ∧ xs.length ≤ maxLen ∧ ∀ i, i < xs.length → RowOk KU8 (row xs i) := by
  obtain ⟨a, l, rfl, ⟨xs, rfl, h1, h2⟩, h3⟩ := h
  simp only [PkAVs] at h3
  subst h3
  exact ⟨xs, rfl, h1, h2⟩
theorem nrms_sn {ks : List Kd} {xs : List Row} {r : Row} (h : nrms ks xs = xs) (h2 : nrm ks r = r) : nrms ks (xs ++ [r]) = xs ++ [r] := by
  rw [nrms_append, h]; simp [nrms, h2]
theorem tm8 {a : Int} (h : 0 ≤ a) : 0 ≤ (a + 3).tmod 8 ∧ (a + 3).tmod 8 ≤ 7 := ⟨Int.tmod_nonneg _ (by omega), by have := Int.tmod_lt_of_pos (a + 3) (show (0 : Int) < 8 by omega); omega⟩
theorem nrms_setR {xs : List Row} {i : Nat} {a b : Int} (h : nrms KRequest xs = xs) : nrms KRequest (xs.set i (pasteR (row xs i) 0 [.i a, .i b])) = xs.set i (pasteR (row xs i) 0 [.i a, .i b]) := by
  by_cases hl : i < xs.length
  · have e : nrm KRequest (row xs i) = row xs i := by rw [← row_nrms hl, h]
    refine nrms_set' h ?_
    rw [← e]; rfl
  · rw [List.set_eq_of_length_le (by omega), h]
def cAnyR : Ct := ⟨[], fun ds K => match ds with
  | [.bx [.view ks bs, .int .i64 p]] => ks = KU8 ∧ Bytes bs ∧ (0 ≤ p ∧ p ≤ 1000) ∧ ∀ (rs : List Row) (q : Int), rs.length ≤ 8 → nrms KRequest rs = rs → (0 ≤ q ∧ q ≤ p + 70) → K (.fr 31 KRequest rs) [.bx [.view KU8 bs, .int .i64 q]]
  | _ => False⟩
/-- The orders of regions that draw. -/
def trAnyR : Nat → Option (Bool × Tr)
  | 9 => some (false, .take 0 (.take 1 (.take 2 (.take 3 (.take 5 (.take 6 (.take 7 (.take 8 (.take 12 (.all (.cons 4 (.all (.cons 9 (.all (.cons 10 (.all (.cons 11 (.all (.cons 13 (.all (.cons 14 (.take 15 (.take 16 (.all (.cons 17 .done .nil)))) .nil)) .nil)) (.cons 13 (.all (.cons 11 (.all (.cons 14 (.take 15 (.take 16 (.all (.cons 17 .done .nil)))) .nil)) .nil)) .nil))) (.cons 13 (.all (.cons 10 (.all (.cons 11 (.all (.cons 14 (.take 15 (.take 16 (.all (.cons 17 .done .nil)))) .nil)) .nil)) .nil)) .nil))) (.cons 13 (.all (.cons 9 (.all (.cons 10 (.all (.cons 11 (.all (.cons 14 (.take 15 (.take 16 (.all (.cons 17 .done .nil)))) .nil)) .nil)) .nil)) .nil)) .nil))) (.cons 9 (.all (.cons 4 (.all (.cons 10 (.all (.cons 11 (.all (.cons 13 (.all (.cons 14 (.take 15 (.take 16 (.all (.cons 17 .done .nil)))) .nil)) .nil)) (.cons 13 (.all (.cons 11 (.all (.cons 14 (.take 15 (.take 16 (.all (.cons 17 .done .nil)))) .nil)) .nil)) .nil))) (.cons 13 (.all (.cons 10 (.all (.cons 11 (.all (.cons 14 (.take 15 (.take 16 (.all (.cons 17 .done .nil)))) .nil)) .nil)) .nil)) .nil))) (.cons 10 (.all (.cons 4 (.all (.cons 11 (.all (.cons 13 (.all (.cons 14 (.take 15 (.take 16 (.all (.cons 17 .done .nil)))) .nil)) .nil)) (.cons 13 (.all (.cons 11 (.all (.cons 14 (.take 15 (.take 16 (.all (.cons 17 .done .nil)))) .nil)) .nil)) .nil))) (.cons 13 (.all (.cons 4 (.all (.cons 11 (.all (.cons 14 (.take 15 (.take 16 (.all (.cons 17 .done .nil)))) .nil)) .nil)) .nil)) .nil))) (.cons 13 (.all (.cons 4 (.all (.cons 10 (.all (.cons 11 (.all (.cons 14 (.take 15 (.take 16 (.all (.cons 17 .done .nil)))) .nil)) .nil)) .nil)) (.cons 10 (.all (.cons 4 (.all (.cons 11 (.all (.cons 14 (.take 15 (.take 16 (.all (.cons 17 .done .nil)))) .nil)) .nil)) .nil)) .nil))) .nil)))) (.cons 13 (.all (.cons 4 (.all (.cons 9 (.all (.cons 10 (.all (.cons 11 (.all (.cons 14 (.take 15 (.take 16 (.all (.cons 17 .done .nil)))) .nil)) .nil)) .nil)) .nil)) (.cons 9 (.all (.cons 4 (.all (.cons 10 (.all (.cons 11 (.all (.cons 14 (.take 15 (.take 16 (.all (.cons 17 .done .nil)))) .nil)) .nil)) .nil)) (.cons 10 (.all (.cons 4 (.all (.cons 11 (.all (.cons 14 (.take 15 (.take 16 (.all (.cons 17 .done .nil)))) .nil)) .nil)) .nil)) .nil))) .nil))) .nil)))))))))))))
  | _ => none
set_option maxRecDepth 100000 in
set_option maxHeartbeats 16000000 in
theorem p_anyRequests : Proved 24 cAnyR := by
  refine proved_tr trAnyR [(25, cPick), (38, cOne)] ⟨p_pick, p_one, trivial⟩ [.tmp 2] Tryd.func24 rfl rfl rfl rfl (by kernel_rfl) ?_
  intro ds K hrel
  simp only [cAnyR] at hrel
  split at hrel
  case h_2 => exact hrel.elim
  rename_i ks bs p
  obtain ⟨rfl, hb, ⟨h1, h2⟩, hrel⟩ := hrel
  refine ⟨rfl, Nat.le_of_ble_eq_true rfl, fun k σ => match k with
    | 4 => some { α := Lv 4 (List Row × Int × Int × Int), R := fun ⟨(rs, q, n, o)⟩ => (0 ≤ q ∧ q + n ≤ p + 50 ∧ 0 ≤ n ∧ rs.length + n ≤ 8 ∧ 0 ≤ o ∧ o ≤ 7) ∧ nrms KRequest rs = rs, μ := fun ⟨(_, _, n, _)⟩ => n.toNat, st := fun ⟨(rs, q, n, o)⟩ => upW σ [(5, .int .i64 n), (4, .int .i64 o), (3, .own 1)] (setH (setH σ.hp 0 (some (.box [.view KU8 bs, .int .i64 q]))) 1 (some (.rows 31 KRequest rs))) }
    | _ => none, ?_⟩
  repeat' (first | with_reducible refine And.intro ?_ ?_ | (with_reducible intro h; first | (exact absurd h (by decide)) | (guard_hyp h : true = true; clear h) | (guard_hyp h : false = false; clear h) | (have hq := (h : Lv 4 _); clear hq; obtain ⟨_, _, _, _⟩ := h) | skip) | with_reducible exact True.intro | ((with_reducible refine (id ?_ : @Eq Bool (nodupN _) true)); kernel_rfl) | ((with_reducible refine (id ?_ : @Eq Bool (apartN _ _) true)); kernel_rfl) | ((with_reducible refine (id ?_ : @Eq Bool (formL _ _) true)); kernel_rfl) | ((with_reducible refine (id ?_ : @Eq _ _ _)); exact rfl) | ((conv => whnf); first | done | with_reducible refine And.intro ?_ ?_ | (with_reducible intro h; first | (exact absurd h (by decide)) | (guard_hyp h : true = true; clear h) | (guard_hyp h : false = false; clear h) | (have hq := (h : Lv 4 _); clear hq; obtain ⟨_, _, _, _⟩ := h) | skip) | with_reducible exact True.intro | ((with_reducible refine (id ?_ : @Eq _ _ _)); exact rfl) | (refine Exists.intro _ (Exists.intro _ (And.intro (hrel ?_ ?_ ?_ ?_ ?_) ?_))) | refine Exists.intro (⟨(?_, ?_, ?_, ?_)⟩ : Lv 4 _) ?_ | refine Exists.intro _ (Exists.intro _ (And.intro hrel ?_)) | exact Or.inl rfl | exact Or.inr (And.intro rfl rfl) | (apply Exists.intro; refine And.intro ?_ ?_)) | exact Nat.le_of_ble_eq_true rfl)
  all_goals (try ((repeat (with_reducible rename PickR _ _ => hq; have hq1 := hq.lo; have hq2 := hq.hi; have hq3 := hq.zero; clear hq)) <;> (try (change _ = _)) <;> (try dsimp only at *) <;> (try simp only [decide_eq_true_eq, decide_eq_false_iff_not, Bool.not_eq_true', Bool.not_eq_false', Bool.and_eq_true, Bool.and_eq_false_iff, beq_iff_eq, bne_iff_ne, beq_eq_false_iff_ne, bne_eq_false_iff_eq, ne_eq, Decidable.not_not, bne_self_eq_false, Bool.false_eq_true, Bool.true_eq_false, Bool.not_true, Bool.not_false, not_true_eq_false, not_false_eq_true, Int.toNat_natCast, Nat.zero_add, Nat.reduceAdd, Nat.reduceMul, Nat.reduceDiv, Nat.mul_one, lenK_one, big, fill_len, marking_len, marks_len, nrms_len, List.length_set, List.length_append, List.length_map, List.length_replicate, List.length_cons, List.length_nil, Int.natCast_add, Int.natCast_one, Int.natCast_zero, memI_i, memI_nil, or_false, false_or] at *) <;> (repeat (with_reducible rename _ ∧ _ => hh; obtain ⟨_, _⟩ := hh)) <;> (first | omega | (refine fits_i64 ?_; omega) | (split <;> omega) | rfl | (with_reducible assumption) | exact nrms_sn (by with_reducible assumption) rfl | exact nrms_setR (by with_reducible assumption) | (exact (tm8 (by omega)).1) | (exact (tm8 (by omega)).2) | (constructor <;> omega))))
def cDR1 : Ct := ⟨[], fun ds K => match ds with
  | [.view ks xs] => ks = KU8 ∧ (xs.length : Int) < big ∧ (∀ i, i < xs.length → RowOk KU8 (row xs i)) ∧ ∀ rs : List Row, rs.length ≤ 8 → nrms KRequest rs = rs → K (.view KRequest rs) []
  | _ => False⟩
def cDR2 : Ct := ⟨[], fun ds K => match ds with
  | [.view ks xs] => ks = KU8 ∧ (xs.length : Int) < big ∧ (∀ i, i < xs.length → RowOk KU8 (row xs i)) ∧ ∀ (rs : List Row) (who : Int), rs.length ≤ 8 → nrms KRequest rs = rs → K (.tup [.view KRequest rs, .int .i64 who]) []
  | _ => False⟩
set_option maxRecDepth 100000 in
set_option maxHeartbeats 4000000 in
theorem p_drawQueueWaits : Proved 11 cDR1 := by
  refine proved_of [(23, cNewReader), (24, cAnyR)] ⟨p_newReader, p_anyRequests, trivial⟩ [.tmp 2] Tryd.func11 rfl rfl rfl rfl (by kernel_rfl) ?_
  intro ds K hrel
  simp only [cDR1] at hrel
  split at hrel
  case h_2 => exact hrel.elim
  rename_i ks xs
  obtain ⟨rfl, h1, h2, hrel⟩ := hrel
  refine ⟨rfl, Nat.le_of_ble_eq_true rfl, fun _ _ => none, ?_⟩
  repeat' (first | with_reducible refine And.intro ?_ ?_ | (with_reducible intro h; first | (exact absurd h (by decide)) | (guard_hyp h : true = true; clear h) | (guard_hyp h : false = false; clear h) | skip) | with_reducible exact True.intro | ((with_reducible refine (id ?_ : @Eq Bool (nodupN _) true)); kernel_rfl) | ((with_reducible refine (id ?_ : @Eq Bool (apartN _ _) true)); kernel_rfl) | ((with_reducible refine (id ?_ : @Eq Bool (formL _ _) true)); kernel_rfl) | ((with_reducible refine (id ?_ : @Eq _ _ _)); exact rfl) | ((conv => whnf); first | done | with_reducible refine And.intro ?_ ?_ | (with_reducible intro h; first | (exact absurd h (by decide)) | (guard_hyp h : true = true; clear h) | (guard_hyp h : false = false; clear h) | skip) | with_reducible exact True.intro | ((with_reducible refine (id ?_ : @Eq _ _ _)); exact rfl) | (refine Exists.intro _ (Exists.intro _ (And.intro (hrel ?_ ?_ ?_) ?_))) | refine Exists.intro _ (Exists.intro _ (And.intro hrel ?_)) | exact Or.inl rfl | exact Or.inr (And.intro rfl rfl) | (apply Exists.intro; refine And.intro ?_ ?_)) | exact Nat.le_of_ble_eq_true rfl)
  all_goals (try ((repeat (with_reducible rename PickR _ _ => hq; have hq1 := hq.lo; have hq2 := hq.hi; have hq3 := hq.zero; clear hq)) <;> (try (change _ = _)) <;> (try dsimp only at *) <;> (try simp only [decide_eq_true_eq, decide_eq_false_iff_not, Bool.not_eq_true', Bool.not_eq_false', Bool.and_eq_true, Bool.and_eq_false_iff, beq_iff_eq, bne_iff_ne, beq_eq_false_iff_ne, bne_eq_false_iff_eq, ne_eq, Decidable.not_not, bne_self_eq_false, Bool.false_eq_true, Bool.true_eq_false, Bool.not_true, Bool.not_false, not_true_eq_false, not_false_eq_true, Int.toNat_natCast, Nat.zero_add, Nat.reduceAdd, Nat.reduceMul, Nat.reduceDiv, Nat.mul_one, lenK_one, big, fill_len, marking_len, marks_len, nrms_len, List.length_set, List.length_append, List.length_map, List.length_replicate, List.length_cons, List.length_nil, Int.natCast_add, Int.natCast_one, Int.natCast_zero, memI_i, memI_nil, or_false, false_or] at *) <;> (repeat (with_reducible rename _ ∧ _ => hh; obtain ⟨_, _⟩ := hh)) <;> (first | omega | (refine fits_i64 ?_; omega) | (split <;> omega) | (with_reducible assumption) | exact h2 _ (by with_reducible assumption) | rfl)))
/-- The orders of regions that draw. -/
def trDDL : Nat → Option (Bool × Tr)
  | 4 => some (false, .take 0 (.take 1 (.take 2 (.take 3 (.take 4 (.all (.cons 5 (.take 6 (.take 7 (.take 9 (.all (.cons 8 (.take 10 .done) .nil))))) .nil)))))))
  | _ => none
set_option maxRecDepth 100000 in
set_option maxHeartbeats 8000000 in
theorem p_drawDropLock : Proved 6 cDR2 := by
  refine proved_tr trDDL [(23, cNewReader), (24, cAnyR), (25, cPick)] ⟨p_newReader, p_anyRequests, p_pick, trivial⟩ [.tmp 2, .tmp 3] Tryd.func6 rfl rfl rfl rfl (by kernel_rfl) ?_
  intro ds K hrel
  simp only [cDR2] at hrel
  split at hrel
  case h_2 => exact hrel.elim
  rename_i ks xs
  obtain ⟨rfl, h1, h2, hrel⟩ := hrel
  refine ⟨rfl, Nat.le_of_ble_eq_true rfl, fun _ _ => none, ?_⟩
  repeat' (first | with_reducible refine And.intro ?_ ?_ | (with_reducible intro h; first | (exact absurd h (by decide)) | (guard_hyp h : true = true; clear h) | (guard_hyp h : false = false; clear h) | skip) | with_reducible exact True.intro | ((with_reducible refine (id ?_ : @Eq Bool (nodupN _) true)); kernel_rfl) | ((with_reducible refine (id ?_ : @Eq Bool (apartN _ _) true)); kernel_rfl) | ((with_reducible refine (id ?_ : @Eq Bool (formL _ _) true)); kernel_rfl) | ((with_reducible refine (id ?_ : @Eq _ _ _)); exact rfl) | ((conv => whnf); first | done | with_reducible refine And.intro ?_ ?_ | (with_reducible intro h; first | (exact absurd h (by decide)) | (guard_hyp h : true = true; clear h) | (guard_hyp h : false = false; clear h) | skip) | with_reducible exact True.intro | ((with_reducible refine (id ?_ : @Eq _ _ _)); exact rfl) | (refine Exists.intro _ (Exists.intro _ (And.intro (hrel ?_ ?_ ?_ ?_) ?_))) | (refine Exists.intro _ (Exists.intro _ (And.intro (hrel ?_ ?_ ?_) ?_))) | refine Exists.intro _ (Exists.intro _ (And.intro hrel ?_)) | exact Or.inl rfl | exact Or.inr (And.intro rfl rfl) | (apply Exists.intro; refine And.intro ?_ ?_)) | exact Nat.le_of_ble_eq_true rfl)
  all_goals (try ((repeat (with_reducible rename PickR _ _ => hq; have hq1 := hq.lo; have hq2 := hq.hi; have hq3 := hq.zero; clear hq)) <;> (try (change _ = _)) <;> (try dsimp only at *) <;> (try simp only [decide_eq_true_eq, decide_eq_false_iff_not, Bool.not_eq_true', Bool.not_eq_false', Bool.and_eq_true, Bool.and_eq_false_iff, beq_iff_eq, bne_iff_ne, beq_eq_false_iff_ne, bne_eq_false_iff_eq, ne_eq, Decidable.not_not, bne_self_eq_false, Bool.false_eq_true, Bool.true_eq_false, Bool.not_true, Bool.not_false, not_true_eq_false, not_false_eq_true, Int.toNat_natCast, Nat.zero_add, Nat.reduceAdd, Nat.reduceMul, Nat.reduceDiv, Nat.mul_one, lenK_one, big, fill_len, marking_len, marks_len, nrms_len, List.length_set, List.length_append, List.length_map, List.length_replicate, List.length_cons, List.length_nil, Int.natCast_add, Int.natCast_one, Int.natCast_zero, memI_i, memI_nil, or_false, false_or] at *) <;> (repeat (with_reducible rename _ ∧ _ => hh; obtain ⟨_, _⟩ := hh)) <;> (first | omega | (refine fits_i64 ?_; omega) | (split <;> omega) | (with_reducible assumption) | exact h2 _ (by with_reducible assumption) | rfl)))
end Go.Proofs.YtbppiknmlipmpaaDoor.V
