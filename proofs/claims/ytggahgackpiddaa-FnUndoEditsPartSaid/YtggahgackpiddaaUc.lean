/-
  Stores and edits that are drawn: what they are bounded by; the law on the edits of others, as a function.
-/
import Derived.Test.YtggahgackpiddaaUb
set_option linter.unusedSimpArgs false
set_option linter.unusedVariables false
namespace Go.Proofs.Ytggahgackpiddaa.V
open Go Go.RowKit
open Classical

/-- All numbers of a column are small. -/
structure Sm (c : Nat) (xs : List Row) : Prop where
  h : ∀ r ∈ xs, 0 ≤ (rc r c).int ∧ (rc r c).int ≤ 999999
theorem sm_nil (c : Nat) : Sm c [] := ⟨fun r h => by simp at h⟩
theorem sm_snoc {c : Nat} {xs : List Row} {r : Row} (h : Sm c xs) (h1 : 0 ≤ (rc r c).int ∧ (rc r c).int ≤ 999999) : Sm c (xs ++ [r]) := ⟨fun q hq => by
  rcases List.mem_append.1 hq with hq | hq
  · exact h.h q hq
  · rw [List.mem_singleton.1 hq]; exact h1⟩
theorem sm_set {c : Nat} {xs : List Row} {i : Nat} {r : Row} (h : Sm c xs) (h1 : 0 ≤ (rc r c).int ∧ (rc r c).int ≤ 999999) : Sm c (xs.set i r) := ⟨fun q hq => by
  rcases List.mem_or_eq_of_mem_set hq with hq | hq
  · exact h.h q hq
  · rw [hq]; exact h1⟩
theorem sm_row {c : Nat} {xs : List Row} (h : Sm c xs) (i : Nat) : 0 ≤ (rc (row xs i) c).int ∧ (rc (row xs i) c).int ≤ 999999 := by
  by_cases hl : i < xs.length
  · have e := row_some hl
    exact h.h _ (List.mem_of_getElem? e)
  · have e : row xs i = [] := by
      unfold row
      rw [List.getD_eq_getElem?_getD, List.getElem?_eq_none (by omega)]
      rfl
    rw [e]; simp [rc]
theorem nrms_app1 {ks : List Kd} {xs : List Row} {r : Row} (h : nrms ks xs = xs) (h2 : nrm ks r = r) : nrms ks (xs ++ [r]) = xs ++ [r] := by
  rw [nrms_append, h]; simp [nrms, h2]

def cRStore : Ct := ⟨[], fun ds K => match ds with
  | [.bx [.view ks bs, .int .i64 p]] => ks = KU8 ∧ Bytes bs ∧ (0 ≤ p ∧ p ≤ 1000) ∧ ∀ (xs : List Row) (q : Int), (1 ≤ xs.length ∧ xs.length ≤ 6) → (nrms KInt xs = xs) → Sm 0 xs → (0 ≤ q ∧ q ≤ p + 10) → K (.fr 3 KInt xs) [.bx [.view KU8 bs, .int .i64 q]]
  | _ => False⟩
set_option maxRecDepth 100000 in
set_option maxHeartbeats 8000000 in
theorem p_randomStore : Proved 42 cRStore := by
  refine proved_of [(34, cPick), (44, cOne)] ⟨p_pick, p_one, trivial⟩ [.tmp 2] Try.func42 rfl rfl rfl rfl (by kernel_rfl) ?_
  intro ds K hrel
  simp only [cRStore] at hrel
  split at hrel
  case h_2 => exact hrel.elim
  rename_i ks bs p
  obtain ⟨rfl, hb, ⟨h1, h2⟩, hrel⟩ := hrel
  refine ⟨rfl, Nat.le_of_ble_eq_true rfl, fun k σ => match k with
    | 3 => some { α := Lv 3 (List Row × Int × Int), R := fun ⟨(xs, q, n)⟩ => (0 ≤ q ∧ q + n ≤ p + 10 ∧ 0 ≤ n ∧ xs.length + n ≤ 6 ∧ 1 ≤ xs.length + n) ∧ nrms KInt xs = xs ∧ Sm 0 xs,
                  μ := fun ⟨(_, _, n)⟩ => n.toNat,
                  st := fun ⟨(xs, q, n)⟩ => upW σ [(3, .own 1), (4, .int .i64 n)] (setH (setH σ.hp 0 (some (.box [.view KU8 bs, .int .i64 q]))) 1 (some (.rows 3 KInt xs))) }
    | _ => none, ?_⟩
  repeat' (first | refine And.intro ?_ ?_ | (intro h; first | (exact absurd h (by decide)) | (guard_hyp h : true = true; clear h) | (guard_hyp h : false = false; clear h) | (have hq := (h : Lv 3 _); clear hq; obtain ⟨_, _, _⟩ := h) | skip) | (refine Exists.intro _ (Exists.intro _ (And.intro (hrel ?_ ?_ ?_ ?_ ?_ ?_) ?_))) | refine Exists.intro (⟨(?_, ?_, ?_)⟩ : Lv 3 _) ?_ | refine Exists.intro _ (Exists.intro _ (And.intro hrel ?_)) | exact rfl | exact True.intro | exact Or.inl rfl | exact Or.inr (And.intro rfl rfl) | exact Nat.le_of_ble_eq_true rfl | (apply Exists.intro; refine And.intro ?_ ?_))
  all_goals (try ((repeat (with_reducible rename PickR _ _ => hq; have hq1 := hq.lo; have hq2 := hq.hi; have hq3 := hq.zero; clear hq)) <;> (try (change _ = _)) <;> (try dsimp only at *) <;> (try simp only [decide_eq_true_eq, decide_eq_false_iff_not, Bool.not_eq_true', Bool.not_eq_false', Bool.and_eq_true, Bool.and_eq_false_iff, beq_iff_eq, bne_iff_ne, beq_eq_false_iff_ne, bne_eq_false_iff_eq, ne_eq, Decidable.not_not, bne_self_eq_false, Bool.false_eq_true, Bool.true_eq_false, Bool.not_true, Bool.not_false, not_true_eq_false, not_false_eq_true, Int.toNat_natCast, Nat.zero_add, Nat.reduceAdd, Nat.reduceMul, Nat.reduceDiv, Nat.mul_one, lenK_one, big, fill_len, marking_len, marks_len, nrms_len, List.length_set, List.length_append, List.length_map, List.length_replicate, List.length_cons, List.length_nil, Int.natCast_add, Int.natCast_one, Int.natCast_zero, memI_i, memI_nil, or_false, false_or] at *) <;> (repeat (with_reducible rename _ ∧ _ => hh; obtain ⟨_, _⟩ := hh)) <;> (first | omega | (refine fits_i64 ?_; omega) | (split <;> omega) | exact nrms_app1 (by assumption) rfl | rfl | assumption | exact sm_nil _ | (refine sm_snoc (by assumption) ⟨?_, ?_⟩ <;> (simp only [rc, List.getD_cons_zero, Sc.int]; omega)))))

/-- The orders of a region that draws. -/
def trRE : Nat → Option (Bool × Tr)
  | 2 => some (false, .take 0 (.take 2 (.take 3 (.take 4 (.take 5 (.take 7 (.all (.cons 1 (.all (.cons 6 (.all (.cons 8 (.take 9 (.all (.cons 10 .done .nil))) .nil)) (.cons 8 (.all (.cons 6 (.take 9 (.all (.cons 10 .done .nil))) .nil)) .nil))) (.cons 6 (.all (.cons 1 (.all (.cons 8 (.take 9 (.all (.cons 10 .done .nil))) .nil)) .nil)) .nil)))))))))
  | _ => none
def cREdit : Ct := ⟨[], fun ds K => match ds with
  | [.bx [.view ks bs, .int .i64 p], .view js s] => ks = KU8 ∧ js = KInt ∧ Bytes bs ∧ (0 ≤ p ∧ p ≤ 1000) ∧ (1 ≤ s.length ∧ s.length ≤ 1000) ∧ ∀ o t nw : Int, (0 ≤ o ∧ o < 3) → (0 ≤ t ∧ t < s.length) → (0 ≤ nw ∧ nw < 90) → K (.agg [.int .i64 o, .int .i64 t, .int .i64 (rc (row s t.toNat) 0).int, .int .i64 nw]) [.bx [.view KU8 bs, .int .i64 (p + 3)]]
  | _ => False⟩
set_option maxRecDepth 100000 in
set_option maxHeartbeats 8000000 in
theorem p_randomEdit : Proved 43 cREdit := by
  refine proved_tr trRE [(34, cPick)] ⟨p_pick, trivial⟩ [.cell 4 29] Try.func43 rfl rfl rfl rfl (by kernel_rfl) ?_
  intro ds K hrel
  simp only [cREdit] at hrel
  split at hrel
  case h_2 => exact hrel.elim
  rename_i ks bs p js s
  obtain ⟨rfl, rfl, hb, ⟨h1, h2⟩, ⟨h3, h4⟩, hrel⟩ := hrel
  refine ⟨rfl, Nat.le_of_ble_eq_true rfl, fun _ _ => none, ?_⟩
  repeat' (first | refine And.intro ?_ ?_ | (intro h; first | (exact absurd h (by decide)) | (guard_hyp h : true = true; clear h) | (guard_hyp h : false = false; clear h) | skip) | (refine Exists.intro _ (Exists.intro _ (And.intro (hrel ?_ ?_ ?_ ?_ ?_ ?_) ?_))) | refine Exists.intro _ (Exists.intro _ (And.intro hrel ?_)) | exact rfl | exact True.intro | exact Or.inl rfl | exact Or.inr (And.intro rfl rfl) | exact Nat.le_of_ble_eq_true rfl | (apply Exists.intro; refine And.intro ?_ ?_))
  all_goals (try ((repeat (with_reducible rename PickR _ _ => hq; have hq1 := hq.lo; have hq2 := hq.hi; have hq3 := hq.zero; clear hq)) <;> (try (change _ = _)) <;> (try dsimp only at *) <;> (try simp only [decide_eq_true_eq, decide_eq_false_iff_not, Bool.not_eq_true', Bool.not_eq_false', Bool.and_eq_true, Bool.and_eq_false_iff, beq_iff_eq, bne_iff_ne, beq_eq_false_iff_ne, bne_eq_false_iff_eq, ne_eq, Decidable.not_not, bne_self_eq_false, Bool.false_eq_true, Bool.true_eq_false, Bool.not_true, Bool.not_false, not_true_eq_false, not_false_eq_true, Int.toNat_natCast, Nat.zero_add, Nat.reduceAdd, Nat.reduceMul, Nat.reduceDiv, Nat.mul_one, lenK_one, big, fill_len, marking_len, marks_len, nrms_len, List.length_set, List.length_append, List.length_map, List.length_replicate, List.length_cons, List.length_nil, Int.natCast_add, Int.natCast_one, Int.natCast_zero, memI_i, memI_nil, or_false, false_or] at *) <;> (repeat (with_reducible rename _ ∧ _ => hh; obtain ⟨_, _⟩ := hh)) <;> (first | omega | (refine fits_i64 ?_; omega) | (split <;> omega) | rfl | assumption)))

theorem fits_sm {xs : List Row} {i : Nat} {d : Int} (h : Sm 2 xs) (h1 : 0 ≤ d ∧ d ≤ 2) : Fits .i64 ((rc (row xs i) (0 + 2)).int + d) := by
  show Fits .i64 ((rc (row xs i) 2).int + d)
  have := sm_row h i
  exact fits_i64 (by omega)
theorem sm_setI {s : List Row} {t v : Int} (h : Sm 0 s) (h1 : 0 ≤ v ∧ v ≤ 999999) : Sm 0 (setI s t v) := sm_set h (by
  have e : rc (pasteR (row s t.toNat) 0 [Sc.i v]) 0 = Sc.i v := by cases row s t.toNat <;> rfl
  rw [e]; exact h1)
theorem sm_edit {s xs : List Row} {o t nw : Int} {i : Nat} (h : Sm 2 xs) (h1 : Sm 0 s) : Sm 2 (xs ++ [[Sc.i o, Sc.i t, Sc.i (rc (row s i) 0).int, Sc.i nw]]) := sm_snoc h (sm_row (c := 0) h1 i)
theorem nrms_setc {xs : List Row} {i c : Nat} {v : Int} (h : nrms KEdit xs = xs) (hc : c < 4) : nrms KEdit (xs.set i (pasteR (row xs i) c [.i v])) = xs.set i (pasteR (row xs i) c [.i v]) := by
  by_cases hl : i < xs.length
  · have e : nrm KEdit (row xs i) = row xs i := by rw [← row_nrms hl, h]
    refine nrms_set' h ?_
    rw [← e]
    match c, hc with
    | 0, _ => rfl
    | 1, _ => rfl
    | 2, _ => rfl
    | 3, _ => rfl
  · rw [List.set_eq_of_length_le (by omega), h]
/-- Edits of a store. -/
def cAnyE (m : Nat) : Ct := ⟨[], fun ds K => match ds with
  | [.bx [.view ks bs, .int .i64 p]] => ks = KU8 ∧ Bytes bs ∧ (0 ≤ p ∧ p ≤ 500) ∧ ∀ (s xs : List Row) (q : Int), (1 ≤ s.length ∧ s.length ≤ 6) → (nrms KInt s = s) → Sm 0 s → xs.length ≤ 21 → (nrms KEdit xs = xs) → (0 ≤ q ∧ q ≤ p + m) → K (.tup [.view KInt s, .fr 29 KEdit xs]) [.bx [.view KU8 bs, .int .i64 q]]
  | _ => False⟩
/-- The orders of a region that draws. -/
def trAE : Nat → Option (Bool × Tr)
  | 12 => some (false, .take 0 (.take 1 (.take 2 (.take 3 (.take 4 (.take 5 (.take 7 (.all (.cons 6 (.all (.cons 8 (.take 9 (.take 10 (.take 11 (.all (.cons 12 .done .nil))))) .nil)) (.cons 8 (.all (.cons 6 (.take 9 (.take 10 (.take 11 (.all (.cons 12 .done .nil))))) .nil)) .nil))))))))))
  | _ => none
set_option maxRecDepth 100000 in
set_option maxHeartbeats 16000000 in
theorem p_anyEdits : Proved 33 (cAnyE 200) := by
  refine proved_tr trAE [(34, cPick), (44, cOne), (42, cRStore), (43, cREdit), (38, cRedo)] ⟨p_pick, p_one, p_randomStore, p_randomEdit, p_sRedo, trivial⟩ [.tmp 2, .tmp 3] Try.func33 rfl rfl rfl rfl (by kernel_rfl) ?_
  intro ds K hrel
  simp only [cAnyE] at hrel
  split at hrel
  case h_2 => exact hrel.elim
  rename_i ks bs p
  obtain ⟨rfl, hb, ⟨h1, h2⟩, hrel⟩ := hrel
  refine ⟨rfl, Nat.le_of_ble_eq_true rfl, fun k σ => match k with
    | 5 => match lookH σ.hp 1 with
      | some (.rows _ _ s) => some { α := Lv 5 (List Row × List Row × Int × Int), R := fun ⟨(xs, ys, q, n)⟩ => (0 ≤ q ∧ q + 4 * n ≤ p + 150 ∧ 0 ≤ n ∧ xs.length + n ≤ 21 ∧ (s.length : Int) ≤ ys.length ∧ (ys.length : Int) ≤ s.length ∧ 1 ≤ s.length ∧ s.length ≤ 6) ∧ nrms KEdit xs = xs ∧ Sm 2 xs ∧ Sm 0 ys ∧ nrms KInt ys = ys ∧ Sm 0 s ∧ nrms KInt s = s,
                                              μ := fun ⟨(_, _, _, n)⟩ => n.toNat,
                                              st := fun ⟨(xs, ys, q, n)⟩ => ⟨[(4, .view KInt s), (5, .own 2), (6, .view KInt ys), (7, .int .i64 n)] ++ ddT [4] σ.tm, setH (setH (setH σ.hp 0 (some (.box [.view KU8 bs, .int .i64 q]))) 2 (some (.rows 29 KEdit xs))) 1 none⟩ }
      | _ => none
    | _ => none, ?_⟩
  repeat' (first | refine And.intro ?_ ?_ | (intro h; first | (exact absurd h (by decide)) | (guard_hyp h : true = true; clear h) | (guard_hyp h : false = false; clear h) | (have hq := (h : Lv 5 _); clear hq; obtain ⟨_, _, _, _⟩ := h) | skip) | (refine Exists.intro _ (Exists.intro _ (And.intro (hrel ?_ ?_ ?_ ?_ ?_ ?_ ?_ ?_ ?_) ?_))) | refine Exists.intro (⟨(?_, ?_, ?_, ?_)⟩ : Lv 5 _) ?_ | refine Exists.intro _ (Exists.intro _ (And.intro hrel ?_)) | exact rfl | exact True.intro | exact Or.inl rfl | exact Or.inr (And.intro rfl rfl) | exact Nat.le_of_ble_eq_true rfl | (apply Exists.intro; refine And.intro ?_ ?_))
  all_goals (try ((repeat (with_reducible rename PickR _ _ => hq; have hq1 := hq.lo; have hq2 := hq.hi; have hq3 := hq.zero; clear hq)) <;> (try (change _ = _)) <;> (try dsimp only at *) <;> (try simp only [decide_eq_true_eq, decide_eq_false_iff_not, Bool.not_eq_true', Bool.not_eq_false', Bool.and_eq_true, Bool.and_eq_false_iff, beq_iff_eq, bne_iff_ne, beq_eq_false_iff_ne, bne_eq_false_iff_eq, ne_eq, Decidable.not_not, bne_self_eq_false, Bool.false_eq_true, Bool.true_eq_false, Bool.not_true, Bool.not_false, not_true_eq_false, not_false_eq_true, Int.toNat_natCast, Nat.zero_add, Nat.reduceAdd, Nat.reduceMul, Nat.reduceDiv, Nat.mul_one, lenK_one, big, fill_len, marking_len, marks_len, nrms_len, List.length_set, List.length_append, List.length_map, List.length_replicate, List.length_cons, List.length_nil, Int.natCast_add, Int.natCast_one, Int.natCast_zero, memI_i, memI_nil, or_false, false_or, setI_len] at *) <;> (repeat (with_reducible rename _ ∧ _ => hh; obtain ⟨_, _⟩ := hh)) <;> (first | omega | (refine fits_i64 ?_; omega) | (split <;> omega) | exact nrms_app1 (by assumption) rfl | rfl | assumption | exact sm_nil _ | exact fits_sm (by assumption) (by omega) | exact sm_edit (by assumption) (by assumption) | exact sm_setI (by assumption) (by omega) | exact nrms_setI (by assumption) | exact nrms_setc (nrms_setc (by assumption) (by decide)) (by decide) | exact Int.le_refl _)))
  all_goals (try ((repeat (with_reducible rename PickR _ _ => hq; have hq1 := hq.lo; have hq2 := hq.hi; have hq3 := hq.zero; clear hq)) <;> (try (change _ = _)) <;> (try dsimp only at *) <;> (try simp only [decide_eq_true_eq, decide_eq_false_iff_not, Bool.not_eq_true', Bool.not_eq_false', Bool.and_eq_true, Bool.and_eq_false_iff, beq_iff_eq, bne_iff_ne, beq_eq_false_iff_ne, bne_eq_false_iff_eq, ne_eq, Decidable.not_not, bne_self_eq_false, Bool.false_eq_true, Bool.true_eq_false, Bool.not_true, Bool.not_false, not_true_eq_false, not_false_eq_true, Int.toNat_natCast, Nat.zero_add, Nat.reduceAdd, Nat.reduceMul, Nat.reduceDiv, Nat.mul_one, lenK_one, big, fill_len, marking_len, marks_len, nrms_len, List.length_set, List.length_append, List.length_map, List.length_replicate, List.length_cons, List.length_nil, Int.natCast_add, Int.natCast_one, Int.natCast_zero, memI_i, memI_nil, or_false, false_or] at *) <;> (repeat (with_reducible rename _ ∧ _ => hh; obtain ⟨_, _⟩ := hh)) <;> (first | omega | (refine fits_i64 ?_; omega) | (split <;> omega))))
end Go.Proofs.Ytggahgackpiddaa.V
