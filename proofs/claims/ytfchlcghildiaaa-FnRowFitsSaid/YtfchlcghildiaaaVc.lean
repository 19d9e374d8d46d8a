/-
  Values, formats and rows that are drawn.
-/
import Derived.Test.YtfchlcghildiaaaVb
set_option linter.unusedSimpArgs false
set_option linter.unusedVariables false
namespace Go.Proofs.Ytfchlcghildiaaa.V
open Go Go.RowKit
open Classical

/-- All strings of a column have at most sixty bytes. -/
structure SB (c : Nat) (xs : List Row) : Prop where
  h : ∀ r ∈ xs, (rc r c).str.length ≤ 60
theorem sb_nil (c : Nat) : SB c [] := ⟨fun r h => by simp at h⟩
theorem sb_snoc {c : Nat} {xs : List Row} {r : Row} (h : SB c xs) (h1 : (rc r c).str.length ≤ 60) : SB c (xs ++ [r]) := ⟨fun q hq => by
  rcases List.mem_append.1 hq with hq | hq
  · exact h.h q hq
  · rw [List.mem_singleton.1 hq]; exact h1⟩
theorem sb_set {c : Nat} {xs : List Row} {i : Nat} {r : Row} (h : SB c xs) (h1 : (rc r c).str.length ≤ 60) : SB c (xs.set i r) := ⟨fun q hq => by
  rcases List.mem_or_eq_of_mem_set hq with hq | hq
  · exact h.h q hq
  · rw [hq]; exact h1⟩
theorem sb_row {c : Nat} {xs : List Row} (h : SB c xs) (i : Nat) : (rc (row xs i) c).str.length ≤ 60 := by
  by_cases hl : i < xs.length
  · exact h.h _ (List.mem_of_getElem? (row_some hl))
  · have e : row xs i = [] := by
      unfold row
      rw [List.getD_eq_getElem?_getD, List.getElem?_eq_none (by omega)]
      rfl
    rw [e]; simp [rc, Sc.str]
theorem sb_sl {c : Nat} {xs : List Row} (h : SB c xs) : SL c xs := ⟨fun i => Nat.le_trans (sb_row h i) (by decide)⟩
theorem rc_paste : ∀ (ss : Row) (r : Row) (c d : Nat), d < c ∨ c + ss.length ≤ d → rc (pasteR r c ss) d = rc r d
  | [], r, c, d, _ => rfl
  | s :: ss, r, c, d, h => by
    simp only [pasteR]
    rw [rc_paste ss (setR r c s) (c + 1) d (by simp only [List.length_cons] at h; omega), rc_setR, if_neg (by simp only [List.length_cons] at h; omega)]
/-- A cell of another column written. -/
theorem sb_seto {c : Nat} {xs : List Row} {i k : Nat} {ss : Row} (h : SB c xs) (h1 : c < k ∨ k + ss.length ≤ c) : SB c (xs.set i (pasteR (row xs i) k ss)) :=
  sb_set h (by rw [rc_paste ss _ _ _ h1]; exact sb_row h i)
theorem rc_paste_in : ∀ (ss : Row) (r : Row) (c d : Nat), c ≤ d → d < c + ss.length → rc (pasteR r c ss) d = ss.getD (d - c) (.i 0)
  | [], r, c, d, h1, h2 => by simp at h2; omega
  | s :: ss, r, c, d, h1, h2 => by
    simp only [pasteR]
    by_cases e : d = c
    · subst e
      rw [rc_paste ss _ _ _ (by omega), rc_setR, if_pos rfl, Nat.sub_self]; rfl
    · rw [rc_paste_in ss _ (c + 1) d (by omega) (by simp only [List.length_cons] at h2; omega), show d - c = (d - (c + 1)) + 1 by omega]
      rfl
/-- A cell of this column written among others. -/
theorem sb_seti {c : Nat} {xs : List Row} {i k : Nat} {ss : Row} (h : SB c xs) (h1 : k ≤ c ∧ c < k + ss.length) (h2 : (ss.getD (c - k) (.i 0)).str.length ≤ 60) : SB c (xs.set i (pasteR (row xs i) k ss)) :=
  sb_set h (by rw [rc_paste_in ss _ _ _ h1.1 h1.2]; exact h2)
theorem strs_lit {c : Nat} {xs : List Row} (h : xs.all (fun r => Nat.ble (rc r c).str.length 60) = true) : SB c xs := ⟨fun r hr => Nat.le_of_ble_eq_true (List.all_eq_true.1 h r hr)⟩
def cOf : Ct := ⟨[], fun ds K => match ds with
  | [.bx [.view ks bs, .int .i64 p], .view js xs] => ks = KU8 ∧ js = [.str] ∧ Bytes bs ∧ (0 ≤ p ∧ p < 1000000) ∧ (1 ≤ xs.length ∧ xs.length ≤ 1000) ∧ SB 0 xs ∧ ∀ t : List UInt8, t.length ≤ 60 → K (.str t) [.bx [.view KU8 bs, .int .i64 (p + 1)]]
  | _ => False⟩
set_option maxRecDepth 100000 in
set_option maxHeartbeats 4000000 in
theorem p_of : Proved 77 cOf := by
  refine proved_of [(63, cPick)] ⟨p_pick, trivial⟩ [.tmp 4] Try.func77 rfl rfl rfl rfl (by kernel_rfl) ?_
  intro ds K hrel
  simp only [cOf] at hrel
  split at hrel
  case h_2 => exact hrel.elim
  obtain ⟨rfl, rfl, hb, ⟨h1, h2⟩, ⟨h3, h4⟩, hs, hrel⟩ := hrel
  refine ⟨rfl, Nat.le_of_ble_eq_true rfl, fun _ _ => none, ?_⟩
  repeat' (first | refine And.intro ?_ ?_ | (intro h; first | (exact absurd h (by decide)) | (guard_hyp h : true = true; clear h) | (guard_hyp h : false = false; clear h) | skip) | (refine Exists.intro _ (Exists.intro _ (And.intro (hrel ?_ ?_) ?_))) | refine Exists.intro _ (Exists.intro _ (And.intro hrel ?_)) | exact rfl | exact True.intro | exact Or.inl rfl | exact Or.inr (And.intro rfl rfl) | exact Nat.le_of_ble_eq_true rfl | (apply Exists.intro; refine And.intro ?_ ?_))
  all_goals (try (rename PickR _ _ => hq; have q1 := hq.lo; have q2 := hq.hi; have q3 := hq.zero))
  all_goals (try ((try (change _ = _)) <;> (try dsimp only at *) <;> (try simp only [decide_eq_true_eq, decide_eq_false_iff_not, Bool.not_eq_true', Bool.not_eq_false', Bool.and_eq_true, Bool.and_eq_false_iff, beq_iff_eq, bne_iff_ne, beq_eq_false_iff_ne, bne_eq_false_iff_eq, ne_eq, Decidable.not_not, bne_self_eq_false, Bool.false_eq_true, Bool.true_eq_false, Bool.not_true, Bool.not_false, not_true_eq_false, not_false_eq_true, Int.toNat_natCast, Nat.zero_add, Nat.reduceAdd, Nat.reduceMul, Nat.reduceDiv, Nat.mul_one, lenK_one, big, fill_len, marking_len, marks_len, nrms_len, List.length_set, List.length_append, List.length_map, List.length_replicate, List.length_cons, List.length_nil, Int.natCast_add, Int.natCast_one, Int.natCast_zero] at *) <;> (repeat (with_reducible rename _ ∧ _ => hh; obtain ⟨_, _⟩ := hh)) <;> (first | omega | (refine fits_i64 ?_; omega) | (split <;> omega) | exact sb_row hs _)))
def cRV : Ct := ⟨[], fun ds K => match ds with
  | [.bx [.view ks bs, .int .i64 p], .int .i64 kd] => ks = KU8 ∧ Bytes bs ∧ (0 ≤ p ∧ p ≤ 1000) ∧ ∀ (k n : Int) (t : List UInt8) (q : Int), t.length ≤ 60 → (0 ≤ q ∧ q ≤ p + 4) → K (.agg [.int .i64 k, .int .i64 n, .str t]) [.bx [.view KU8 bs, .int .i64 q]]
  | _ => False⟩
set_option maxRecDepth 100000 in
set_option maxHeartbeats 8000000 in
theorem p_randomValue : Proved 76 cRV := by
  refine proved_of [(63, cPick), (45, cOne), (77, cOf)] ⟨p_pick, p_one, p_of, trivial⟩ [.cell 4 53] Try.func76 rfl rfl rfl rfl (by kernel_rfl) ?_
  intro ds K hrel
  simp only [cRV] at hrel
  split at hrel
  case h_2 => exact hrel.elim
  rename_i ks bs p kd
  obtain ⟨rfl, hb, ⟨h1, h2⟩, hrel⟩ := hrel
  refine ⟨rfl, Nat.le_of_ble_eq_true rfl, fun _ _ => none, ?_⟩
  repeat' (first | refine And.intro ?_ ?_ | (intro h; first | (exact absurd h (by decide)) | (guard_hyp h : true = true; clear h) | (guard_hyp h : false = false; clear h) | skip) | (refine Exists.intro _ (Exists.intro _ (And.intro (hrel ?_ ?_ ?_ ?_ ?_ ?_) ?_))) | refine Exists.intro _ (Exists.intro _ (And.intro hrel ?_)) | exact rfl | exact True.intro | exact Or.inl rfl | exact Or.inr (And.intro rfl rfl) | exact Nat.le_of_ble_eq_true rfl | (apply Exists.intro; refine And.intro ?_ ?_))
  all_goals (try ((repeat (with_reducible rename PickR _ _ => hq; have hq1 := hq.lo; have hq2 := hq.hi; have hq3 := hq.zero; clear hq)) <;> (try (change _ = _)) <;> (try dsimp only at *) <;> (try simp only [decide_eq_true_eq, decide_eq_false_iff_not, Bool.not_eq_true', Bool.not_eq_false', Bool.and_eq_true, Bool.and_eq_false_iff, beq_iff_eq, bne_iff_ne, beq_eq_false_iff_ne, bne_eq_false_iff_eq, ne_eq, Decidable.not_not, bne_self_eq_false, Bool.false_eq_true, Bool.true_eq_false, Bool.not_true, Bool.not_false, not_true_eq_false, not_false_eq_true, Int.toNat_natCast, Nat.zero_add, Nat.reduceAdd, Nat.reduceMul, Nat.reduceDiv, Nat.mul_one, lenK_one, big, fill_len, marking_len, marks_len, nrms_len, List.length_set, List.length_append, List.length_map, List.length_replicate, List.length_cons, List.length_nil, Int.natCast_add, Int.natCast_one, Int.natCast_zero, memI_i, memI_nil, or_false, false_or] at *) <;> (repeat (with_reducible rename _ ∧ _ => hh; obtain ⟨_, _⟩ := hh)) <;> (first | omega | (refine fits_i64 ?_; omega) | (split <;> omega) | (with_reducible assumption) | exact strs_lit rfl | rfl)))
def cAV : Ct := ⟨[], fun ds K => match ds with
  | [.bx [.view ks bs, .int .i64 p]] => ks = KU8 ∧ Bytes bs ∧ (0 ≤ p ∧ p ≤ 900) ∧ ∀ (k n : Int) (t : List UInt8) (q : Int), t.length ≤ 60 → (0 ≤ q ∧ q ≤ p + 6) → K (.agg [.int .i64 k, .int .i64 n, .str t]) [.bx [.view KU8 bs, .int .i64 q]]
  | _ => False⟩
set_option maxRecDepth 100000 in
set_option maxHeartbeats 8000000 in
theorem p_anyValue : Proved 68 cAV := by
  refine proved_of [(63, cPick), (45, cOne), (77, cOf), (76, cRV)] ⟨p_pick, p_one, p_of, p_randomValue, trivial⟩ [.cell 2 53] Try.func68 rfl rfl rfl rfl (by kernel_rfl) ?_
  intro ds K hrel
  simp only [cAV] at hrel
  split at hrel
  case h_2 => exact hrel.elim
  rename_i ks bs p
  obtain ⟨rfl, hb, ⟨h1, h2⟩, hrel⟩ := hrel
  refine ⟨rfl, Nat.le_of_ble_eq_true rfl, fun _ _ => none, ?_⟩
  repeat' (first | refine And.intro ?_ ?_ | (intro h; first | (exact absurd h (by decide)) | (guard_hyp h : true = true; clear h) | (guard_hyp h : false = false; clear h) | skip) | (refine Exists.intro _ (Exists.intro _ (And.intro (hrel ?_ ?_ ?_ ?_ ?_ ?_) ?_))) | refine Exists.intro _ (Exists.intro _ (And.intro hrel ?_)) | exact rfl | exact True.intro | exact Or.inl rfl | exact Or.inr (And.intro rfl rfl) | exact Nat.le_of_ble_eq_true rfl | (apply Exists.intro; refine And.intro ?_ ?_))
  all_goals (try ((repeat (with_reducible rename PickR _ _ => hq; have hq1 := hq.lo; have hq2 := hq.hi; have hq3 := hq.zero; clear hq)) <;> (try (change _ = _)) <;> (try dsimp only at *) <;> (try simp only [decide_eq_true_eq, decide_eq_false_iff_not, Bool.not_eq_true', Bool.not_eq_false', Bool.and_eq_true, Bool.and_eq_false_iff, beq_iff_eq, bne_iff_ne, beq_eq_false_iff_ne, bne_eq_false_iff_eq, ne_eq, Decidable.not_not, bne_self_eq_false, Bool.false_eq_true, Bool.true_eq_false, Bool.not_true, Bool.not_false, not_true_eq_false, not_false_eq_true, Int.toNat_natCast, Nat.zero_add, Nat.reduceAdd, Nat.reduceMul, Nat.reduceDiv, Nat.mul_one, lenK_one, big, fill_len, marking_len, marks_len, nrms_len, List.length_set, List.length_append, List.length_map, List.length_replicate, List.length_cons, List.length_nil, Int.natCast_add, Int.natCast_one, Int.natCast_zero, memI_i, memI_nil, or_false, false_or] at *) <;> (repeat (with_reducible rename _ ∧ _ => hh; obtain ⟨_, _⟩ := hh)) <;> (first | omega | (refine fits_i64 ?_; omega) | (split <;> omega) | (with_reducible assumption) | exact strs_lit rfl | rfl)))
def cRC : Ct := ⟨[], fun ds K => match ds with
  | [.bx [.view ks bs, .int .i64 p]] => ks = KU8 ∧ Bytes bs ∧ (0 ≤ p ∧ p ≤ 900) ∧ ∀ (c k n : Int) (t : List UInt8) (q : Int), t.length ≤ 60 → (0 ≤ q ∧ q ≤ p + 5) → K (.agg [.int .i64 c, .int .i64 k, .int .i64 n, .str t]) [.bx [.view KU8 bs, .int .i64 q]]
  | _ => False⟩
set_option maxRecDepth 100000 in
set_option maxHeartbeats 8000000 in
theorem p_randomColumn : Proved 69 cRC := by
  refine proved_of [(63, cPick), (76, cRV)] ⟨p_pick, p_randomValue, trivial⟩ [.cell 2 55] Try.func69 rfl rfl rfl rfl (by kernel_rfl) ?_
  intro ds K hrel
  simp only [cRC] at hrel
  split at hrel
  case h_2 => exact hrel.elim
  rename_i ks bs p
  obtain ⟨rfl, hb, ⟨h1, h2⟩, hrel⟩ := hrel
  refine ⟨rfl, Nat.le_of_ble_eq_true rfl, fun _ _ => none, ?_⟩
  repeat' (first | refine And.intro ?_ ?_ | (intro h; first | (exact absurd h (by decide)) | (guard_hyp h : true = true; clear h) | (guard_hyp h : false = false; clear h) | skip) | (refine Exists.intro _ (Exists.intro _ (And.intro (hrel ?_ ?_ ?_ ?_ ?_ ?_ ?_) ?_))) | refine Exists.intro _ (Exists.intro _ (And.intro hrel ?_)) | exact rfl | exact True.intro | exact Or.inl rfl | exact Or.inr (And.intro rfl rfl) | exact Nat.le_of_ble_eq_true rfl | (apply Exists.intro; refine And.intro ?_ ?_))
  all_goals (try ((repeat (with_reducible rename PickR _ _ => hq; have hq1 := hq.lo; have hq2 := hq.hi; have hq3 := hq.zero; clear hq)) <;> (try (change _ = _)) <;> (try dsimp only at *) <;> (try simp only [decide_eq_true_eq, decide_eq_false_iff_not, Bool.not_eq_true', Bool.not_eq_false', Bool.and_eq_true, Bool.and_eq_false_iff, beq_iff_eq, bne_iff_ne, beq_eq_false_iff_ne, bne_eq_false_iff_eq, ne_eq, Decidable.not_not, bne_self_eq_false, Bool.false_eq_true, Bool.true_eq_false, Bool.not_true, Bool.not_false, not_true_eq_false, not_false_eq_true, Int.toNat_natCast, Nat.zero_add, Nat.reduceAdd, Nat.reduceMul, Nat.reduceDiv, Nat.mul_one, lenK_one, big, fill_len, marking_len, marks_len, nrms_len, List.length_set, List.length_append, List.length_map, List.length_replicate, List.length_cons, List.length_nil, Int.natCast_add, Int.natCast_one, Int.natCast_zero, memI_i, memI_nil, or_false, false_or] at *) <;> (repeat (with_reducible rename _ ∧ _ => hh; obtain ⟨_, _⟩ := hh)) <;> (first | omega | (refine fits_i64 ?_; omega) | (split <;> omega) | (with_reducible assumption) | rfl)))
def cRFmt : Ct := ⟨[], fun ds K => match ds with
  | [.bx [.view ks bs, .int .i64 p]] => ks = KU8 ∧ Bytes bs ∧ (0 ≤ p ∧ p ≤ 800) ∧ ∀ (xs : List Row) (q : Int), (1 ≤ xs.length ∧ xs.length ≤ 5) → SB 3 xs → (0 ≤ q ∧ q ≤ p + 30) → K (.fr 55 KColumn xs) [.bx [.view KU8 bs, .int .i64 q]]
  | _ => False⟩
set_option maxRecDepth 100000 in
set_option maxHeartbeats 8000000 in
theorem p_randomFormat : Proved 67 cRFmt := by
  refine proved_of [(45, cOne), (69, cRC)] ⟨p_one, p_randomColumn, trivial⟩ [.tmp 2] Try.func67 rfl rfl rfl rfl (by kernel_rfl) ?_
  intro ds K hrel
  simp only [cRFmt] at hrel
  split at hrel
  case h_2 => exact hrel.elim
  rename_i ks bs p
  obtain ⟨rfl, hb, ⟨h1, h2⟩, hrel⟩ := hrel
  refine ⟨rfl, Nat.le_of_ble_eq_true rfl, fun k σ => match k with
    | 3 => some { α := Lv 3 (List Row × Int × Int), R := fun ⟨(xs, q, n)⟩ => (0 ≤ q ∧ q + 5 * n ≤ p + 30 ∧ 0 ≤ n ∧ xs.length + n ≤ 5 ∧ 1 ≤ xs.length + n) ∧ SB 3 xs, μ := fun ⟨(_, _, n)⟩ => n.toNat, st := fun ⟨(xs, q, n)⟩ => upW σ [(4, .int .i64 n), (3, .own 1)] (setH (setH σ.hp 0 (some (.box [.view KU8 bs, .int .i64 q]))) 1 (some (.rows 55 KColumn xs))) }
    | _ => none, ?_⟩
  repeat' (first | refine And.intro ?_ ?_ | (intro h; first | (exact absurd h (by decide)) | (guard_hyp h : true = true; clear h) | (guard_hyp h : false = false; clear h) | (have hq := (h : Lv 3 _); clear hq; obtain ⟨_, _, _⟩ := h) | skip) | (refine Exists.intro _ (Exists.intro _ (And.intro (hrel ?_ ?_ ?_ ?_ ?_) ?_))) | refine Exists.intro (⟨(?_, ?_, ?_)⟩ : Lv 3 _) ?_ | refine Exists.intro _ (Exists.intro _ (And.intro hrel ?_)) | exact rfl | exact True.intro | exact Or.inl rfl | exact Or.inr (And.intro rfl rfl) | exact Nat.le_of_ble_eq_true rfl | (apply Exists.intro; refine And.intro ?_ ?_))
  all_goals (try ((repeat (with_reducible rename PickR _ _ => hq; have hq1 := hq.lo; have hq2 := hq.hi; have hq3 := hq.zero; clear hq)) <;> (try (change _ = _)) <;> (try dsimp only at *) <;> (try simp only [decide_eq_true_eq, decide_eq_false_iff_not, Bool.not_eq_true', Bool.not_eq_false', Bool.and_eq_true, Bool.and_eq_false_iff, beq_iff_eq, bne_iff_ne, beq_eq_false_iff_ne, bne_eq_false_iff_eq, ne_eq, Decidable.not_not, bne_self_eq_false, Bool.false_eq_true, Bool.true_eq_false, Bool.not_true, Bool.not_false, not_true_eq_false, not_false_eq_true, Int.toNat_natCast, Nat.zero_add, Nat.reduceAdd, Nat.reduceMul, Nat.reduceDiv, Nat.mul_one, lenK_one, big, fill_len, marking_len, marks_len, nrms_len, List.length_set, List.length_append, List.length_map, List.length_replicate, List.length_cons, List.length_nil, Int.natCast_add, Int.natCast_one, Int.natCast_zero, memI_i, memI_nil, or_false, false_or] at *) <;> (repeat (with_reducible rename _ ∧ _ => hh; obtain ⟨_, _⟩ := hh)) <;> (first | omega | (refine fits_i64 ?_; omega) | (split <;> omega) | (with_reducible assumption) | exact sb_nil _ | (refine sb_snoc (by with_reducible assumption) ?_; simp only [rc, List.getD_cons_succ, List.getD_cons_zero, Sc.str]; with_reducible assumption) | ((with_reducible refine sb_seto (by with_reducible assumption) ?_); simp; done) | ((with_reducible refine sb_seti (by with_reducible assumption) ?_ ?_); (focus (simp; done)); simp only [List.getD_cons_succ, List.getD_cons_zero, Sc.str, Nat.sub_zero, Nat.reduceSub]; with_reducible assumption) | rfl)))
def cAFmt : Ct := ⟨[], fun ds K => match ds with
  | [.bx [.view ks bs, .int .i64 p]] => ks = KU8 ∧ Bytes bs ∧ (0 ≤ p ∧ p ≤ 800) ∧ ∀ (xs : List Row) (q : Int), (xs.length ≤ 6) → SB 3 xs → (0 ≤ q ∧ q ≤ p + 80) → K (.fr 55 KColumn xs) [.bx [.view KU8 bs, .int .i64 q]]
  | _ => False⟩
set_option maxRecDepth 100000 in
set_option maxHeartbeats 8000000 in
theorem p_anyFormat : Proved 51 cAFmt := by
  refine proved_of [(63, cPick), (45, cOne), (67, cRFmt), (68, cAV), (69, cRC)] ⟨p_pick, p_one, p_randomFormat, p_anyValue, p_randomColumn, trivial⟩ [.tmp 2] Try.func51 rfl rfl rfl rfl (by kernel_rfl) ?_
  intro ds K hrel
  simp only [cAFmt] at hrel
  split at hrel
  case h_2 => exact hrel.elim
  rename_i ks bs p
  obtain ⟨rfl, hb, ⟨h1, h2⟩, hrel⟩ := hrel
  refine ⟨rfl, Nat.le_of_ble_eq_true rfl, fun k σ => match k with
    | 10 => some { α := Lv 10 (List Row × Int), R := fun ⟨(xs, q)⟩ => (0 ≤ q ∧ q + 5 * (6 - xs.length) ≤ p + 70 ∧ xs.length ≤ 6) ∧ SB 3 xs, μ := fun ⟨(xs, _)⟩ => 6 - xs.length, st := fun ⟨(xs, q)⟩ => upW σ [(3, .own 1)] (setH (setH σ.hp 0 (some (.box [.view KU8 bs, .int .i64 q]))) 1 (some (.rows 55 KColumn xs))) }
    | _ => none, ?_⟩
  repeat' (first | refine And.intro ?_ ?_ | (intro h; first | (exact absurd h (by decide)) | (guard_hyp h : true = true; clear h) | (guard_hyp h : false = false; clear h) | (have hq := (h : Lv 10 _); clear hq; obtain ⟨_, _⟩ := h) | skip) | (refine Exists.intro _ (Exists.intro _ (And.intro (hrel ?_ ?_ ?_ ?_ ?_) ?_))) | refine Exists.intro (⟨(?_, ?_)⟩ : Lv 10 _) ?_ | refine Exists.intro _ (Exists.intro _ (And.intro hrel ?_)) | exact rfl | exact True.intro | exact Or.inl rfl | exact Or.inr (And.intro rfl rfl) | exact Nat.le_of_ble_eq_true rfl | (apply Exists.intro; refine And.intro ?_ ?_))
  all_goals (try ((repeat (with_reducible rename PickR _ _ => hq; have hq1 := hq.lo; have hq2 := hq.hi; have hq3 := hq.zero; clear hq)) <;> (try (change _ = _)) <;> (try dsimp only at *) <;> (try simp only [decide_eq_true_eq, decide_eq_false_iff_not, Bool.not_eq_true', Bool.not_eq_false', Bool.and_eq_true, Bool.and_eq_false_iff, beq_iff_eq, bne_iff_ne, beq_eq_false_iff_ne, bne_eq_false_iff_eq, ne_eq, Decidable.not_not, bne_self_eq_false, Bool.false_eq_true, Bool.true_eq_false, Bool.not_true, Bool.not_false, not_true_eq_false, not_false_eq_true, Int.toNat_natCast, Nat.zero_add, Nat.reduceAdd, Nat.reduceMul, Nat.reduceDiv, Nat.mul_one, lenK_one, big, fill_len, marking_len, marks_len, nrms_len, List.length_set, List.length_append, List.length_map, List.length_replicate, List.length_cons, List.length_nil, Int.natCast_add, Int.natCast_one, Int.natCast_zero, memI_i, memI_nil, or_false, false_or] at *) <;> (repeat (with_reducible rename _ ∧ _ => hh; obtain ⟨_, _⟩ := hh)) <;> (first | omega | (refine fits_i64 ?_; omega) | (split <;> omega) | (with_reducible assumption) | exact sb_nil _ | (refine sb_snoc (by with_reducible assumption) ?_; simp only [rc, List.getD_cons_succ, List.getD_cons_zero, Sc.str]; with_reducible assumption) | ((with_reducible refine sb_seto (by with_reducible assumption) ?_); simp; done) | ((with_reducible refine sb_seti (by with_reducible assumption) ?_ ?_); (focus (simp; done)); simp only [List.getD_cons_succ, List.getD_cons_zero, Sc.str, Nat.sub_zero, Nat.reduceSub]; with_reducible assumption) | rfl)))
def cARow : Ct := ⟨[], fun ds K => match ds with
  | [.bx [.view ks bs, .int .i64 p]] => ks = KU8 ∧ Bytes bs ∧ (0 ≤ p ∧ p ≤ 800) ∧ ∀ (xs : List Row) (q : Int), (xs.length ≤ 6) → SB 2 xs → (0 ≤ q ∧ q ≤ p + 50) → K (.fr 53 KValue xs) [.bx [.view KU8 bs, .int .i64 q]]
  | _ => False⟩
set_option maxRecDepth 100000 in
set_option maxHeartbeats 8000000 in
theorem p_anyRow : Proved 71 cARow := by
  refine proved_of [(63, cPick), (45, cOne), (76, cRV), (68, cAV)] ⟨p_pick, p_one, p_randomValue, p_anyValue, trivial⟩ [.tmp 2] Try.func71 rfl rfl rfl rfl (by kernel_rfl) ?_
  intro ds K hrel
  simp only [cARow] at hrel
  split at hrel
  case h_2 => exact hrel.elim
  rename_i ks bs p
  obtain ⟨rfl, hb, ⟨h1, h2⟩, hrel⟩ := hrel
  refine ⟨rfl, Nat.le_of_ble_eq_true rfl, fun k σ => match k with
    | 3 => some { α := Lv 3 (List Row × Int × Int), R := fun ⟨(xs, q, n)⟩ => (0 ≤ q ∧ q + 4 * n ≤ p + 30 ∧ 0 ≤ n ∧ xs.length + n ≤ 6) ∧ SB 2 xs, μ := fun ⟨(_, _, n)⟩ => n.toNat, st := fun ⟨(xs, q, n)⟩ => upW σ [(4, .int .i64 n), (3, .own 1)] (setH (setH σ.hp 0 (some (.box [.view KU8 bs, .int .i64 q]))) 1 (some (.rows 53 KValue xs))) }
    | _ => none, ?_⟩
  repeat' (first | refine And.intro ?_ ?_ | (intro h; first | (exact absurd h (by decide)) | (guard_hyp h : true = true; clear h) | (guard_hyp h : false = false; clear h) | (have hq := (h : Lv 3 _); clear hq; obtain ⟨_, _, _⟩ := h) | skip) | (refine Exists.intro _ (Exists.intro _ (And.intro (hrel ?_ ?_ ?_ ?_ ?_) ?_))) | refine Exists.intro (⟨(?_, ?_, ?_)⟩ : Lv 3 _) ?_ | refine Exists.intro _ (Exists.intro _ (And.intro hrel ?_)) | exact rfl | exact True.intro | exact Or.inl rfl | exact Or.inr (And.intro rfl rfl) | exact Nat.le_of_ble_eq_true rfl | (apply Exists.intro; refine And.intro ?_ ?_))
  all_goals (try ((repeat (with_reducible rename PickR _ _ => hq; have hq1 := hq.lo; have hq2 := hq.hi; have hq3 := hq.zero; clear hq)) <;> (try (change _ = _)) <;> (try dsimp only at *) <;> (try simp only [decide_eq_true_eq, decide_eq_false_iff_not, Bool.not_eq_true', Bool.not_eq_false', Bool.and_eq_true, Bool.and_eq_false_iff, beq_iff_eq, bne_iff_ne, beq_eq_false_iff_ne, bne_eq_false_iff_eq, ne_eq, Decidable.not_not, bne_self_eq_false, Bool.false_eq_true, Bool.true_eq_false, Bool.not_true, Bool.not_false, not_true_eq_false, not_false_eq_true, Int.toNat_natCast, Nat.zero_add, Nat.reduceAdd, Nat.reduceMul, Nat.reduceDiv, Nat.mul_one, lenK_one, big, fill_len, marking_len, marks_len, nrms_len, List.length_set, List.length_append, List.length_map, List.length_replicate, List.length_cons, List.length_nil, Int.natCast_add, Int.natCast_one, Int.natCast_zero, memI_i, memI_nil, or_false, false_or] at *) <;> (repeat (with_reducible rename _ ∧ _ => hh; obtain ⟨_, _⟩ := hh)) <;> (first | omega | (refine fits_i64 ?_; omega) | (split <;> omega) | (with_reducible assumption) | exact sb_nil _ | (refine sb_snoc (by with_reducible assumption) ?_; simp only [rc, List.getD_cons_succ, List.getD_cons_zero, Sc.str]; with_reducible assumption) | ((with_reducible refine sb_seto (by with_reducible assumption) ?_); simp; done) | ((with_reducible refine sb_seti (by with_reducible assumption) ?_ ?_); (focus (simp; done)); simp only [List.getD_cons_succ, List.getD_cons_zero, Sc.str, Nat.sub_zero, Nat.reduceSub]; with_reducible assumption) | rfl)))
def cRRow : Ct := ⟨[], fun ds K => match ds with
  | [.bx [.view ks bs, .int .i64 p], .view js f] => ks = KU8 ∧ js = KColumn ∧ f.length ≤ 6 ∧ Bytes bs ∧ (0 ≤ p ∧ p ≤ 800) ∧ ∀ (xs : List Row) (q : Int), (xs.length ≤ 6) → SB 2 xs → (0 ≤ q ∧ q ≤ p + 30) → K (.fr 53 KValue xs) [.bx [.view KU8 bs, .int .i64 q]]
  | _ => False⟩
set_option maxRecDepth 100000 in
set_option maxHeartbeats 8000000 in
theorem p_randomRow : Proved 72 cRRow := by
  refine proved_of [(76, cRV)] ⟨p_randomValue, trivial⟩ [.tmp 4] Try.func72 rfl rfl rfl rfl (by kernel_rfl) ?_
  intro ds K hrel
  simp only [cRRow] at hrel
  split at hrel
  case h_2 => exact hrel.elim
  rename_i ks bs p js f
  obtain ⟨rfl, rfl, hf, hb, ⟨h1, h2⟩, hrel⟩ := hrel
  refine ⟨rfl, Nat.le_of_ble_eq_true rfl, fun k σ => match k with
    | 3 => some { α := Lv 3 (List Row × Int × Int), R := fun ⟨(xs, q, i)⟩ => (0 ≤ i ∧ i ≤ f.length ∧ 0 ≤ q ∧ q ≤ p + 4 * i ∧ xs.length ≤ i) ∧ SB 2 xs, μ := fun ⟨(_, _, i)⟩ => (f.length - i).toNat, st := fun ⟨(xs, q, i)⟩ => upW σ [(6, .int .i64 i), (5, .own 1)] (setH (setH σ.hp 0 (some (.box [.view KU8 bs, .int .i64 q]))) 1 (some (.rows 53 KValue xs))) }
    | _ => none, ?_⟩
  repeat' (first | refine And.intro ?_ ?_ | (intro h; first | (exact absurd h (by decide)) | (guard_hyp h : true = true; clear h) | (guard_hyp h : false = false; clear h) | (have hq := (h : Lv 3 _); clear hq; obtain ⟨_, _, _⟩ := h) | skip) | (refine Exists.intro _ (Exists.intro _ (And.intro (hrel ?_ ?_ ?_ ?_ ?_) ?_))) | refine Exists.intro (⟨(?_, ?_, ?_)⟩ : Lv 3 _) ?_ | refine Exists.intro _ (Exists.intro _ (And.intro hrel ?_)) | exact rfl | exact True.intro | exact Or.inl rfl | exact Or.inr (And.intro rfl rfl) | exact Nat.le_of_ble_eq_true rfl | (apply Exists.intro; refine And.intro ?_ ?_))
  all_goals (try ((repeat (with_reducible rename PickR _ _ => hq; have hq1 := hq.lo; have hq2 := hq.hi; have hq3 := hq.zero; clear hq)) <;> (try (change _ = _)) <;> (try dsimp only at *) <;> (try simp only [decide_eq_true_eq, decide_eq_false_iff_not, Bool.not_eq_true', Bool.not_eq_false', Bool.and_eq_true, Bool.and_eq_false_iff, beq_iff_eq, bne_iff_ne, beq_eq_false_iff_ne, bne_eq_false_iff_eq, ne_eq, Decidable.not_not, bne_self_eq_false, Bool.false_eq_true, Bool.true_eq_false, Bool.not_true, Bool.not_false, not_true_eq_false, not_false_eq_true, Int.toNat_natCast, Nat.zero_add, Nat.reduceAdd, Nat.reduceMul, Nat.reduceDiv, Nat.mul_one, lenK_one, big, fill_len, marking_len, marks_len, nrms_len, List.length_set, List.length_append, List.length_map, List.length_replicate, List.length_cons, List.length_nil, Int.natCast_add, Int.natCast_one, Int.natCast_zero, memI_i, memI_nil, or_false, false_or] at *) <;> (repeat (with_reducible rename _ ∧ _ => hh; obtain ⟨_, _⟩ := hh)) <;> (first | omega | (refine fits_i64 ?_; omega) | (split <;> omega) | (with_reducible assumption) | exact sb_nil _ | (refine sb_snoc (by with_reducible assumption) ?_; simp only [rc, List.getD_cons_succ, List.getD_cons_zero, Sc.str]; with_reducible assumption) | ((with_reducible refine sb_seto (by with_reducible assumption) ?_); simp; done) | ((with_reducible refine sb_seti (by with_reducible assumption) ?_ ?_); (focus (simp; done)); simp only [List.getD_cons_succ, List.getD_cons_zero, Sc.str, Nat.sub_zero, Nat.reduceSub]; with_reducible assumption) | rfl)))
def cSRow : Ct := ⟨[], fun ds K => match ds with
  | [.bx [.view ks bs, .int .i64 p], .view js f] => ks = KU8 ∧ js = KColumn ∧ f.length ≤ 6 ∧ Bytes bs ∧ (0 ≤ p ∧ p ≤ 700) ∧ ∀ (xs : List Row) (q : Int), (xs.length ≤ 6) → SB 2 xs → (0 ≤ q ∧ q ≤ p + 60) → K (.fr 53 KValue xs) [.bx [.view KU8 bs, .int .i64 q]]
  | _ => False⟩
set_option maxRecDepth 100000 in
set_option maxHeartbeats 8000000 in
theorem p_someRow : Proved 53 cSRow := by
  refine proved_of [(63, cPick), (71, cARow), (72, cRRow)] ⟨p_pick, p_anyRow, p_randomRow, trivial⟩ [.tmp 4] Try.func53 rfl rfl rfl rfl (by kernel_rfl) ?_
  intro ds K hrel
  simp only [cSRow] at hrel
  split at hrel
  case h_2 => exact hrel.elim
  rename_i ks bs p js f
  obtain ⟨rfl, rfl, hf, hb, ⟨h1, h2⟩, hrel⟩ := hrel
  refine ⟨rfl, Nat.le_of_ble_eq_true rfl, fun _ _ => none, ?_⟩
  repeat' (first | refine And.intro ?_ ?_ | (intro h; first | (exact absurd h (by decide)) | (guard_hyp h : true = true; clear h) | (guard_hyp h : false = false; clear h) | skip) | (refine Exists.intro _ (Exists.intro _ (And.intro (hrel ?_ ?_ ?_ ?_ ?_) ?_))) | refine Exists.intro _ (Exists.intro _ (And.intro hrel ?_)) | exact rfl | exact True.intro | exact Or.inl rfl | exact Or.inr (And.intro rfl rfl) | exact Nat.le_of_ble_eq_true rfl | (apply Exists.intro; refine And.intro ?_ ?_))
  all_goals (try ((repeat (with_reducible rename PickR _ _ => hq; have hq1 := hq.lo; have hq2 := hq.hi; have hq3 := hq.zero; clear hq)) <;> (try (change _ = _)) <;> (try dsimp only at *) <;> (try simp only [decide_eq_true_eq, decide_eq_false_iff_not, Bool.not_eq_true', Bool.not_eq_false', Bool.and_eq_true, Bool.and_eq_false_iff, beq_iff_eq, bne_iff_ne, beq_eq_false_iff_ne, bne_eq_false_iff_eq, ne_eq, Decidable.not_not, bne_self_eq_false, Bool.false_eq_true, Bool.true_eq_false, Bool.not_true, Bool.not_false, not_true_eq_false, not_false_eq_true, Int.toNat_natCast, Nat.zero_add, Nat.reduceAdd, Nat.reduceMul, Nat.reduceDiv, Nat.mul_one, lenK_one, big, fill_len, marking_len, marks_len, nrms_len, List.length_set, List.length_append, List.length_map, List.length_replicate, List.length_cons, List.length_nil, Int.natCast_add, Int.natCast_one, Int.natCast_zero, memI_i, memI_nil, or_false, false_or] at *) <;> (repeat (with_reducible rename _ ∧ _ => hh; obtain ⟨_, _⟩ := hh)) <;> (first | omega | (refine fits_i64 ?_; omega) | (split <;> omega) | (with_reducible assumption) | exact sb_nil _ | (refine sb_snoc (by with_reducible assumption) ?_; simp only [rc, List.getD_cons_succ, List.getD_cons_zero, Sc.str]; with_reducible assumption) | ((with_reducible refine sb_seto (by with_reducible assumption) ?_); simp; done) | ((with_reducible refine sb_seti (by with_reducible assumption) ?_ ?_); (focus (simp; done)); simp only [List.getD_cons_succ, List.getD_cons_zero, Sc.str, Nat.sub_zero, Nat.reduceSub]; with_reducible assumption) | rfl)))
def cDVF : Ct := ⟨[], fun ds K => match ds with
  | [.view ks xs] => ks = KU8 ∧ (xs.length : Int) < big ∧ (∀ i, i < xs.length → RowOk KU8 (row xs i)) ∧ ∀ ys : List Row, ys.length ≤ 6 → SB 3 ys → K (.fr 55 KColumn ys) []
  | _ => False⟩
def cDRF : Ct := ⟨[], fun ds K => match ds with
  | [.view ks xs] => ks = KU8 ∧ (xs.length : Int) < big ∧ (∀ i, i < xs.length → RowOk KU8 (row xs i)) ∧ ∀ f ys : List Row, f.length ≤ 6 → SB 3 f → ys.length ≤ 6 → SB 2 ys → K (.tup [.view KColumn f, .fr 53 KValue ys]) []
  | _ => False⟩
set_option maxRecDepth 100000 in
set_option maxHeartbeats 4000000 in
theorem p_drawValidFormat : Proved 30 cDVF := by
  refine proved_of [(44, cNewReader), (51, cAFmt)] ⟨p_newReader, p_anyFormat, trivial⟩ [.tmp 2] Try.func30 rfl rfl rfl rfl (by kernel_rfl) ?_
  intro ds K hrel
  simp only [cDVF] at hrel
  split at hrel
  case h_2 => exact hrel.elim
  rename_i ks xs
  obtain ⟨rfl, h1, h2, hrel⟩ := hrel
  refine ⟨rfl, Nat.le_of_ble_eq_true rfl, fun _ _ => none, ?_⟩
  repeat' (first | refine And.intro ?_ ?_ | (intro h; first | (exact absurd h (by decide)) | (guard_hyp h : true = true; clear h) | (guard_hyp h : false = false; clear h) | skip) | (refine Exists.intro _ (Exists.intro _ (And.intro (hrel ?_ ?_ ?_) ?_))) | refine Exists.intro _ (Exists.intro _ (And.intro hrel ?_)) | exact rfl | exact True.intro | exact Or.inl rfl | exact Or.inr (And.intro rfl rfl) | exact Nat.le_of_ble_eq_true rfl | (apply Exists.intro; refine And.intro ?_ ?_))
  all_goals (try ((repeat (with_reducible rename PickR _ _ => hq; have hq1 := hq.lo; have hq2 := hq.hi; have hq3 := hq.zero; clear hq)) <;> (try (change _ = _)) <;> (try dsimp only at *) <;> (try simp only [decide_eq_true_eq, decide_eq_false_iff_not, Bool.not_eq_true', Bool.not_eq_false', Bool.and_eq_true, Bool.and_eq_false_iff, beq_iff_eq, bne_iff_ne, beq_eq_false_iff_ne, bne_eq_false_iff_eq, ne_eq, Decidable.not_not, bne_self_eq_false, Bool.false_eq_true, Bool.true_eq_false, Bool.not_true, Bool.not_false, not_true_eq_false, not_false_eq_true, Int.toNat_natCast, Nat.zero_add, Nat.reduceAdd, Nat.reduceMul, Nat.reduceDiv, Nat.mul_one, lenK_one, big, fill_len, marking_len, marks_len, nrms_len, List.length_set, List.length_append, List.length_map, List.length_replicate, List.length_cons, List.length_nil, Int.natCast_add, Int.natCast_one, Int.natCast_zero, memI_i, memI_nil, or_false, false_or] at *) <;> (repeat (with_reducible rename _ ∧ _ => hh; obtain ⟨_, _⟩ := hh)) <;> (first | omega | (refine fits_i64 ?_; omega) | (split <;> omega) | (with_reducible assumption) | exact h2 _ (by with_reducible assumption) | rfl)))
set_option maxRecDepth 100000 in
set_option maxHeartbeats 4000000 in
theorem p_drawRowFits : Proved 32 cDRF := by
  refine proved_of [(44, cNewReader), (51, cAFmt), (53, cSRow)] ⟨p_newReader, p_anyFormat, p_someRow, trivial⟩ [.tmp 2, .tmp 3] Try.func32 rfl rfl rfl rfl (by kernel_rfl) ?_
  intro ds K hrel
  simp only [cDRF] at hrel
  split at hrel
  case h_2 => exact hrel.elim
  rename_i ks xs
  obtain ⟨rfl, h1, h2, hrel⟩ := hrel
  refine ⟨rfl, Nat.le_of_ble_eq_true rfl, fun _ _ => none, ?_⟩
  repeat' (first | refine And.intro ?_ ?_ | (intro h; first | (exact absurd h (by decide)) | (guard_hyp h : true = true; clear h) | (guard_hyp h : false = false; clear h) | skip) | (refine Exists.intro _ (Exists.intro _ (And.intro (hrel ?_ ?_ ?_ ?_ ?_ ?_) ?_))) | refine Exists.intro _ (Exists.intro _ (And.intro hrel ?_)) | exact rfl | exact True.intro | exact Or.inl rfl | exact Or.inr (And.intro rfl rfl) | exact Nat.le_of_ble_eq_true rfl | (apply Exists.intro; refine And.intro ?_ ?_))
  all_goals (try ((repeat (with_reducible rename PickR _ _ => hq; have hq1 := hq.lo; have hq2 := hq.hi; have hq3 := hq.zero; clear hq)) <;> (try (change _ = _)) <;> (try dsimp only at *) <;> (try simp only [decide_eq_true_eq, decide_eq_false_iff_not, Bool.not_eq_true', Bool.not_eq_false', Bool.and_eq_true, Bool.and_eq_false_iff, beq_iff_eq, bne_iff_ne, beq_eq_false_iff_ne, bne_eq_false_iff_eq, ne_eq, Decidable.not_not, bne_self_eq_false, Bool.false_eq_true, Bool.true_eq_false, Bool.not_true, Bool.not_false, not_true_eq_false, not_false_eq_true, Int.toNat_natCast, Nat.zero_add, Nat.reduceAdd, Nat.reduceMul, Nat.reduceDiv, Nat.mul_one, lenK_one, big, fill_len, marking_len, marks_len, nrms_len, List.length_set, List.length_append, List.length_map, List.length_replicate, List.length_cons, List.length_nil, Int.natCast_add, Int.natCast_one, Int.natCast_zero, memI_i, memI_nil, or_false, false_or] at *) <;> (repeat (with_reducible rename _ ∧ _ => hh; obtain ⟨_, _⟩ := hh)) <;> (first | omega | (refine fits_i64 ?_; omega) | (split <;> omega) | (with_reducible assumption) | exact h2 _ (by with_reducible assumption) | rfl)))
end Go.Proofs.Ytfchlcghildiaaa.V
