/-
  Stores and journals that are drawn.
-/
import Derived.Test.YtkjdhfkihampjaaVn
set_option linter.unusedSimpArgs false
set_option linter.unusedVariables false
namespace Go.Proofs.Ytkjdhfkihampjaa.V
open Go Go.RowKit
open Classical

/-- All numbers of a column are small. -/
structure Sm (c : Nat) (xs : List Row) : Prop where
  h : ∀ r ∈ xs, 0 ≤ (rc r c).int ∧ (rc r c).int ≤ 999999
theorem sm_nil (c : Nat) : Sm c [] := ⟨fun r h => by simp at h⟩
theorem sm_snoc {c : Nat} {xs : List Row} {r : Row} (h : Sm c xs) (h1 : 0 ≤ (rc r c).int ∧ (rc r c).int ≤ 999999) : Sm c (xs ++ [r]) := ⟨fun q hq => by
  rcases List.mem_append.1 hq with hq | hq
  · exact h.h q hq
  · rw [List.mem_singleton.1 hq]; exact h1⟩
theorem nrms_app1 {ks : List Kd} {xs : List Row} {r : Row} (h : nrms ks xs = xs) (h2 : nrm ks r = r) : nrms ks (xs ++ [r]) = xs ++ [r] := by
  rw [nrms_append, h]; simp [nrms, h2]
def cRStore : Ct := ⟨[], fun ds K => match ds with
  | [.bx [.view ks bs, .int .i64 p]] => ks = KU8 ∧ Bytes bs ∧ (0 ≤ p ∧ p ≤ 1000) ∧ ∀ (xs : List Row) (q : Int), (1 ≤ xs.length ∧ xs.length ≤ 6) → (nrms KInt xs = xs) → Sm 0 xs → (0 ≤ q ∧ q ≤ p + 10) → K (.fr 3 KInt xs) [.bx [.view KU8 bs, .int .i64 q]]
  | _ => False⟩
set_option maxRecDepth 100000 in
set_option maxHeartbeats 8000000 in
theorem p_randomStore : Proved 79 cRStore := by
  refine proved_of [(75, cPick), (65, cOne)] ⟨p_pick, p_one, trivial⟩ [.tmp 2] Try.func79 rfl rfl rfl rfl (by kernel_rfl) ?_
  intro ds K hrel
  simp only [cRStore] at hrel
  split at hrel
  case h_2 => exact hrel.elim
  rename_i ks bs p
  obtain ⟨rfl, hb, ⟨h1, h2⟩, hrel⟩ := hrel
  refine ⟨rfl, Nat.le_of_ble_eq_true rfl, fun k σ => match k with
    | 3 => some { α := Lv 3 (List Row × Int × Int), R := fun ⟨(xs, q, n)⟩ => (0 ≤ q ∧ q + n ≤ p + 10 ∧ 0 ≤ n ∧ xs.length + n ≤ 6 ∧ 1 ≤ xs.length + n) ∧ nrms KInt xs = xs ∧ Sm 0 xs, μ := fun ⟨(_, _, n)⟩ => n.toNat, st := fun ⟨(xs, q, n)⟩ => upW σ [(4, .int .i64 n), (3, .own 1)] (setH (setH σ.hp 0 (some (.box [.view KU8 bs, .int .i64 q]))) 1 (some (.rows 3 KInt xs))) }
    | _ => none, ?_⟩
  repeat' (first | with_reducible refine And.intro ?_ ?_ | (with_reducible intro h; first | (exact absurd h (by decide)) | (guard_hyp h : true = true; clear h) | (guard_hyp h : false = false; clear h) | (have hq := (h : Lv 3 _); clear hq; obtain ⟨_, _, _⟩ := h) | skip) | with_reducible exact True.intro | ((with_reducible refine (id ?_ : @Eq Bool (nodupN _) true)); kernel_rfl) | ((with_reducible refine (id ?_ : @Eq Bool (apartN _ _) true)); kernel_rfl) | ((with_reducible refine (id ?_ : @Eq Bool (formL _ _) true)); kernel_rfl) | ((with_reducible refine (id ?_ : @Eq _ _ _)); exact rfl) | ((conv => whnf); first | done | with_reducible refine And.intro ?_ ?_ | (with_reducible intro h; first | (exact absurd h (by decide)) | (guard_hyp h : true = true; clear h) | (guard_hyp h : false = false; clear h) | (have hq := (h : Lv 3 _); clear hq; obtain ⟨_, _, _⟩ := h) | skip) | with_reducible exact True.intro | ((with_reducible refine (id ?_ : @Eq _ _ _)); exact rfl) | (refine Exists.intro _ (Exists.intro _ (And.intro (hrel ?_ ?_ ?_ ?_ ?_ ?_) ?_))) | refine Exists.intro (⟨(?_, ?_, ?_)⟩ : Lv 3 _) ?_ | refine Exists.intro _ (Exists.intro _ (And.intro hrel ?_)) | exact Or.inl rfl | exact Or.inr (And.intro rfl rfl) | (apply Exists.intro; refine And.intro ?_ ?_)) | exact Nat.le_of_ble_eq_true rfl)
  all_goals (try ((repeat (with_reducible rename PickR _ _ => hq; have hq1 := hq.lo; have hq2 := hq.hi; have hq3 := hq.zero; clear hq)) <;> (try (change _ = _)) <;> (try dsimp only at *) <;> (try simp only [decide_eq_true_eq, decide_eq_false_iff_not, Bool.not_eq_true', Bool.not_eq_false', Bool.and_eq_true, Bool.and_eq_false_iff, beq_iff_eq, bne_iff_ne, beq_eq_false_iff_ne, bne_eq_false_iff_eq, ne_eq, Decidable.not_not, bne_self_eq_false, Bool.false_eq_true, Bool.true_eq_false, Bool.not_true, Bool.not_false, not_true_eq_false, not_false_eq_true, Int.toNat_natCast, Nat.zero_add, Nat.reduceAdd, Nat.reduceMul, Nat.reduceDiv, Nat.mul_one, lenK_one, big, fill_len, marking_len, marks_len, nrms_len, List.length_set, List.length_append, List.length_map, List.length_replicate, List.length_cons, List.length_nil, Int.natCast_add, Int.natCast_one, Int.natCast_zero, memI_i, memI_nil, or_false, false_or] at *) <;> (repeat (with_reducible rename _ ∧ _ => hh; obtain ⟨_, _⟩ := hh)) <;> (first | omega | (refine fits_i64 ?_; omega) | (split <;> omega) | exact nrms_app1 (by assumption) rfl | rfl | assumption | exact sm_nil _ | (refine sm_snoc (by assumption) ⟨?_, ?_⟩ <;> (simp only [rc, List.getD_cons_zero, Sc.int]; omega)))))
theorem vn_20 {s es : List Row} (h : VN s es) : es.length ≤ 20 := h.ln
theorem vn_pre {s es : List Row} (_ : VN s es) : True := trivial
def cRNotes : Ct := ⟨[], fun ds K => match ds with
  | [.bx [.view ks bs, .int .i64 p]] => ks = KU8 ∧ Bytes bs ∧ (0 ≤ p ∧ p ≤ 900) ∧ ∀ (s es : List Row) (q : Int), (1 ≤ s.length ∧ s.length ≤ 6) → (nrms KInt s = s) → es.length ≤ 20 → (nrms KNote es = es) → (0 ≤ q ∧ q ≤ p + 100) → K (.tup [.view KInt s, .fr 39 KNote es]) [.bx [.view KU8 bs, .int .i64 q]]
  | _ => False⟩
/-- The orders of regions that draw. -/
def trRN : Nat → Option (Bool × Tr)
  | 11 => some (false, .take 0 (.take 1 (.take 2 (.take 3 (.take 4 (.take 6 (.all (.cons 5 (.all (.cons 7 (.take 8 (.all (.cons 9 .done .nil))) .nil)) (.cons 7 (.all (.cons 5 (.take 8 (.all (.cons 9 .done .nil))) .nil)) .nil)))))))))
  | 12 => some (false, .take 1 (.all (.cons 0 (.all (.cons 2 (.all (.cons 3 (.all (.cons 4 (.all (.cons 5 (.take 6 .done) .nil)) .nil)) .nil)) (.cons 3 (.all (.cons 2 (.all (.cons 4 (.all (.cons 5 (.take 6 .done) .nil)) .nil)) (.cons 4 (.all (.cons 2 (.all (.cons 5 (.take 6 .done) .nil)) .nil)) .nil))) .nil))) (.cons 3 (.all (.cons 0 (.all (.cons 2 (.all (.cons 4 (.all (.cons 5 (.take 6 .done) .nil)) .nil)) (.cons 4 (.all (.cons 2 (.all (.cons 5 (.take 6 .done) .nil)) .nil)) .nil))) (.cons 4 (.all (.cons 0 (.all (.cons 2 (.all (.cons 5 (.take 6 .done) .nil)) .nil)) .nil)) .nil))) .nil))))
  | _ => none
theorem rn_idx {s : List Row} {q : Int} (h : PickR s.length q) (h1 : 1 ≤ s.length) : 0 ≤ q ∧ q < s.length := ⟨h.lo, h.hi (by omega)⟩
set_option maxRecDepth 100000 in
set_option maxHeartbeats 32000000 in
theorem p_randomNotes : Proved 74 cRNotes := by
  refine proved_tr trRN [(75, cPick), (65, cOne), (79, cRStore), (68, cCopy 3 KInt), (42, cVN)] ⟨p_pick, p_one, p_randomStore, p_copyInts, p_svN, trivial⟩ [.tmp 2, .tmp 3] Try.func74 rfl rfl rfl rfl (by kernel_rfl) ?_
  intro ds K hrel
  simp only [cRNotes] at hrel
  split at hrel
  case h_2 => exact hrel.elim
  rename_i ks bs p
  obtain ⟨rfl, hb, ⟨h1, h2⟩, hrel⟩ := hrel
  refine ⟨rfl, Nat.le_of_ble_eq_true rfl, fun k σ => match k with
    | 5 => match lookH σ.hp 1 with
      | some (.rows _ _ s) => some { α := Lv 5 (List Row × List Row × Int × Int), R := fun ⟨(es, ys, q, n)⟩ => (0 ≤ q ∧ q + 4 * n ≤ p + 95 ∧ 0 ≤ n ∧ n ≤ 20 ∧ es.length ≤ 20 ∧ (s.length : Int) ≤ ys.length ∧ (ys.length : Int) ≤ s.length ∧ 1 ≤ s.length ∧ s.length ≤ 6) ∧ nrms KNote es = es ∧ nrms KInt s = s, μ := fun ⟨(_, _, _, n)⟩ => n.toNat, st := fun ⟨(es, ys, q, n)⟩ => upW σ [(7, .int .i64 n), (5, .own 2)] (setH (setH (setH σ.hp 0 (some (.box [.view KU8 bs, .int .i64 q]))) 2 (some (.rows 39 KNote es))) 3 (some (.rows 3 KInt ys))), sw := true }
      | _ => none
    | _ => none, ?_⟩
  repeat' (first | with_reducible refine And.intro ?_ ?_ | (with_reducible intro h; first | (exact absurd h (by decide)) | (guard_hyp h : true = true; clear h) | (guard_hyp h : false = false; clear h) | (have hq := (h : Lv 5 _); clear hq; obtain ⟨_, _, _, _⟩ := h) | skip) | with_reducible exact True.intro | ((with_reducible refine (id ?_ : @Eq Bool (nodupN _) true)); kernel_rfl) | ((with_reducible refine (id ?_ : @Eq Bool (apartN _ _) true)); kernel_rfl) | ((with_reducible refine (id ?_ : @Eq Bool (formL _ _) true)); kernel_rfl) | ((with_reducible refine (id ?_ : @Eq _ _ _)); exact rfl) | ((conv => whnf); first | done | with_reducible refine And.intro ?_ ?_ | (with_reducible intro h; first | (exact absurd h (by decide)) | (guard_hyp h : true = true; clear h) | (guard_hyp h : false = false; clear h) | (have hq := (h : Lv 5 _); clear hq; obtain ⟨_, _, _, _⟩ := h) | skip) | with_reducible exact True.intro | ((with_reducible refine (id ?_ : @Eq _ _ _)); exact rfl) | (refine Exists.intro _ (Exists.intro _ (And.intro (hrel ?_ ?_ ?_ ?_ ?_ ?_ ?_ ?_) ?_))) | refine Exists.intro (⟨(?_, ?_, ?_, ?_)⟩ : Lv 5 _) ?_ | refine Exists.intro _ (Exists.intro _ (And.intro hrel ?_)) | exact Or.inl rfl | exact Or.inr (And.intro rfl rfl) | (apply Exists.intro; refine And.intro ?_ ?_)) | exact Nat.le_of_ble_eq_true rfl)
  all_goals (try ((repeat (with_reducible rename PickR _ _ => hq; have hq1 := hq.lo; have hq2 := hq.hi; have hq3 := hq.zero; clear hq)) <;> (try (change _ = _)) <;> (try dsimp only at *) <;> (try simp only [decide_eq_true_eq, decide_eq_false_iff_not, Bool.not_eq_true', Bool.not_eq_false', Bool.and_eq_true, Bool.and_eq_false_iff, beq_iff_eq, bne_iff_ne, beq_eq_false_iff_ne, bne_eq_false_iff_eq, ne_eq, Decidable.not_not, bne_self_eq_false, Bool.false_eq_true, Bool.true_eq_false, Bool.not_true, Bool.not_false, not_true_eq_false, not_false_eq_true, Int.toNat_natCast, Nat.zero_add, Nat.reduceAdd, Nat.reduceMul, Nat.reduceDiv, Nat.mul_one, lenK_one, big, fill_len, marking_len, marks_len, nrms_len, List.length_set, List.length_append, List.length_map, List.length_replicate, List.length_cons, List.length_nil, Int.natCast_add, Int.natCast_one, Int.natCast_zero, memI_i, memI_nil, or_false, false_or, List.nil_append] at *) <;> (repeat (with_reducible rename _ ∧ _ => hh; obtain ⟨_, _⟩ := hh)) <;> (first | omega | (refine fits_i64 ?_; omega) | (split <;> omega) | (with_reducible assumption) | exact vn_20 (by with_reducible assumption) | exact nrms_app1 (by with_reducible assumption) rfl | rfl | (have q := vn_20 (by with_reducible assumption); simp only [List.length_append, List.length_cons, List.length_nil] at q; omega))))
end Go.Proofs.Ytkjdhfkihampjaa.V
