/-
  Buffers that are drawn.
-/
import Derived.Test.YtfchlcghildiaaaBb
set_option linter.unusedSimpArgs false
set_option linter.unusedVariables false
namespace Go.Proofs.Ytfchlcghildiaaa.V
open Go Go.RowKit
open Classical

/-- The orders of regions that draw. -/
def trCpB : Nat → Option (Bool × Tr)
  | 1 => some (false, .take 1 (.take 4 (.all (.cons 0 (.all (.cons 2 (.all (.cons 3 (.all (.cons 5 (.take 6 (.all (.cons 7 .done .nil))) .nil)) (.cons 5 (.all (.cons 3 (.take 6 (.all (.cons 7 .done .nil))) .nil)) .nil))) (.cons 5 (.all (.cons 2 (.all (.cons 3 (.take 6 (.all (.cons 7 .done .nil))) .nil)) .nil)) .nil))) (.cons 2 (.all (.cons 0 (.all (.cons 3 (.all (.cons 5 (.take 6 (.all (.cons 7 .done .nil))) .nil)) (.cons 5 (.all (.cons 3 (.take 6 (.all (.cons 7 .done .nil))) .nil)) .nil))) (.cons 5 (.all (.cons 0 (.all (.cons 3 (.take 6 (.all (.cons 7 .done .nil))) .nil)) .nil)) .nil))) (.cons 5 (.all (.cons 0 (.all (.cons 2 (.all (.cons 3 (.take 6 (.all (.cons 7 .done .nil))) .nil)) .nil)) (.cons 2 (.all (.cons 0 (.all (.cons 3 (.take 6 (.all (.cons 7 .done .nil))) .nil)) .nil)) .nil))) .nil))))))
  | _ => none
def cCpB : Ct := ⟨[], fun ds K => match ds with
  | [.agg [.view ks xs, .int .i64 f]] => ks = KFrame ∧ xs.length ≤ 1048576 ∧ K (.agg [.fr 42 KFrame xs, .int .i64 f]) []
  | _ => False⟩
set_option maxRecDepth 100000 in
set_option maxHeartbeats 8000000 in
theorem p_copyBuffer : Proved 74 cCpB := by
  refine proved_tr trCpB [] trivial [.cell 2 29] Try.func74 rfl rfl rfl rfl (by kernel_rfl) ?_
  intro ds K hrel
  simp only [cCpB] at hrel
  split at hrel
  case h_2 => exact hrel.elim
  obtain ⟨rfl, h1, hrel⟩ := hrel
  refine ⟨rfl, Nat.le_of_ble_eq_true rfl, fun _ _ => none, ?_⟩
  repeat' (first | with_reducible refine And.intro ?_ ?_ | (with_reducible intro h; first | (exact absurd h (by decide)) | (guard_hyp h : true = true; clear h) | (guard_hyp h : false = false; clear h) | skip) | with_reducible exact True.intro | ((with_reducible refine (id ?_ : @Eq Bool (nodupN _) true)); kernel_rfl) | ((with_reducible refine (id ?_ : @Eq Bool (apartN _ _) true)); kernel_rfl) | ((with_reducible refine (id ?_ : @Eq Bool (formL _ _) true)); kernel_rfl) | ((with_reducible refine (id ?_ : @Eq _ _ _)); exact rfl) | ((conv => whnf); first | done | with_reducible refine And.intro ?_ ?_ | (with_reducible intro h; first | (exact absurd h (by decide)) | (guard_hyp h : true = true; clear h) | (guard_hyp h : false = false; clear h) | skip) | with_reducible exact True.intro | ((with_reducible refine (id ?_ : @Eq _ _ _)); exact rfl) | refine Exists.intro _ (Exists.intro _ (And.intro hrel ?_)) | exact Or.inl rfl | exact Or.inr (And.intro rfl rfl) | (apply Exists.intro; refine And.intro ?_ ?_)) | exact Nat.le_of_ble_eq_true rfl)
  all_goals (try ((try (change _ = _)) <;> (try dsimp only at *) <;> (try simp only [decide_eq_true_eq, decide_eq_false_iff_not, Bool.not_eq_true', Bool.not_eq_false', Bool.and_eq_true, Bool.and_eq_false_iff, beq_iff_eq, bne_iff_ne, beq_eq_false_iff_ne, bne_eq_false_iff_eq, ne_eq, Decidable.not_not, bne_self_eq_false, Bool.false_eq_true, Bool.true_eq_false, Bool.not_true, Bool.not_false, not_true_eq_false, not_false_eq_true, Int.toNat_natCast, Nat.zero_add, Nat.reduceAdd, Nat.reduceMul, Nat.reduceDiv, Nat.mul_one, lenK_one, big, fill_len, marking_len, marks_len, nrms_len, List.length_set, List.length_append, List.length_map, List.length_replicate, List.length_cons, List.length_nil, Int.natCast_add, Int.natCast_one, Int.natCast_zero] at *) <;> (repeat (with_reducible rename _ ∧ _ => hh; obtain ⟨_, _⟩ := hh)) <;> (first | omega | (refine fits_i64 ?_; omega) | (split <;> omega))))
def cTouch : Ct := ⟨[], fun ds K => match ds with
  | [.agg [.view ks xs, .int .i64 f], .int .i64 p, .int .i64 n] => ks = KFrame ∧ xs.length ≤ 1000 ∧ ∀ (ys : List Row) (g : Int) (b : Bool), ys.length ≤ 4 → K (.tup [.agg [.fr 42 KFrame ys, .int .i64 g], .bool b]) []
  | _ => False⟩
theorem vb_four {xs : List Row} {f : Int} (h : VB xs f) : (xs.length : Int) ≤ 4 := by have := h.l; omega
set_option maxRecDepth 100000 in
set_option maxHeartbeats 8000000 in
theorem p_touch : Proved 64 cTouch := by
  refine proved_of [(38, cVB), (58, cInRange), (74, cCpB), (42, cFind)] ⟨p_svB, p_inRange, p_copyBuffer, p_frameOf, trivial⟩ [.cell 6 29, .tmp 7] Try.func64 rfl rfl rfl rfl (by kernel_rfl) ?_
  intro ds K hrel
  simp only [cTouch] at hrel
  split at hrel
  case h_2 => exact hrel.elim
  rename_i ks xs f p n
  obtain ⟨rfl, h1, hrel⟩ := hrel
  have hi := find_hi 0 xs p
  refine ⟨rfl, Nat.le_of_ble_eq_true rfl, fun _ _ => none, ?_⟩
  repeat' (first | with_reducible refine And.intro ?_ ?_ | (with_reducible intro h; first | (exact absurd h (by decide)) | (guard_hyp h : true = true; clear h) | (guard_hyp h : false = false; clear h) | skip) | with_reducible exact True.intro | ((with_reducible refine (id ?_ : @Eq Bool (nodupN _) true)); kernel_rfl) | ((with_reducible refine (id ?_ : @Eq Bool (apartN _ _) true)); kernel_rfl) | ((with_reducible refine (id ?_ : @Eq Bool (formL _ _) true)); kernel_rfl) | ((with_reducible refine (id ?_ : @Eq _ _ _)); exact rfl) | ((conv => whnf); first | done | with_reducible refine And.intro ?_ ?_ | (with_reducible intro h; first | (exact absurd h (by decide)) | (guard_hyp h : true = true; clear h) | (guard_hyp h : false = false; clear h) | skip) | with_reducible exact True.intro | ((with_reducible refine (id ?_ : @Eq _ _ _)); exact rfl) | (refine Exists.intro _ (Exists.intro _ (And.intro (hrel ?_ ?_ ?_ ?_) ?_))) | refine Exists.intro _ (Exists.intro _ (And.intro hrel ?_)) | exact Or.inl rfl | exact Or.inr (And.intro rfl rfl) | (apply Exists.intro; refine And.intro ?_ ?_)) | exact Nat.le_of_ble_eq_true rfl)
  all_goals (try ((try (change _ = _)) <;> (try dsimp only at *) <;> (try simp only [decide_eq_true_eq, decide_eq_false_iff_not, Bool.not_eq_true', Bool.not_eq_false', Bool.and_eq_true, Bool.and_eq_false_iff, beq_iff_eq, bne_iff_ne, beq_eq_false_iff_ne, bne_eq_false_iff_eq, ne_eq, Decidable.not_not, bne_self_eq_false, Bool.false_eq_true, Bool.true_eq_false, Bool.not_true, Bool.not_false, not_true_eq_false, not_false_eq_true, Int.toNat_natCast, Nat.zero_add, Nat.reduceAdd, Nat.reduceMul, Nat.reduceDiv, Nat.mul_one, lenK_one, big, fill_len, marking_len, marks_len, nrms_len, List.length_set, List.length_append, List.length_map, List.length_replicate, List.length_cons, List.length_nil, Int.natCast_add, Int.natCast_one, Int.natCast_zero] at *) <;> (repeat (with_reducible rename _ ∧ _ => hh; obtain ⟨_, _⟩ := hh)) <;> (first | omega | (refine fits_i64 ?_; omega) | (split <;> omega) | (have := vb_four (by with_reducible assumption); omega) | rfl)))
/-- The orders of regions that draw. -/
def trWP : Nat → Option (Bool × Tr)
  | 5 => some (false, .take 0 (.take 2 (.take 3 (.take 4 (.take 6 (.all (.cons 1 (.all (.cons 5 (.take 7 (.take 8 (.all (.cons 9 (.take 10 (.take 11 (.all (.cons 12 .done .nil)))) .nil)))) .nil)) (.cons 5 (.take 7 (.take 8 (.all (.cons 1 (.all (.cons 9 (.take 10 (.take 11 (.all (.cons 12 .done .nil)))) .nil)) (.cons 9 (.take 10 (.all (.cons 1 (.take 11 (.all (.cons 12 .done .nil))) .nil))) .nil))))) .nil))))))))
  | _ => none
def cWriteP : Ct := ⟨[], fun ds K => match ds with
  | [.agg [.view ks xs, .int .i64 f], .int .i64 p] => ks = KFrame ∧ xs.length ≤ 1000 ∧ ∀ (ys : List Row) (g : Int) (b : Bool), ys.length ≤ 4 → K (.tup [.agg [.fr 42 KFrame ys, .int .i64 g], .bool b]) []
  | _ => False⟩
theorem cw_four {xs : List Row} {f p : Int} (h : CW xs f p) : (xs.length : Int) ≤ 4 ∧ 0 ≤ findC 0 xs p := ⟨vb_four h.v, h.a⟩
set_option maxRecDepth 100000 in
set_option maxHeartbeats 8000000 in
theorem p_writeP : Proved 65 cWriteP := by
  refine proved_tr trWP [(18, cCW), (74, cCpB), (42, cFind)] ⟨p_sCW, p_copyBuffer, p_frameOf, trivial⟩ [.cell 4 29, .tmp 5] Try.func65 rfl rfl rfl rfl (by kernel_rfl) ?_
  intro ds K hrel
  simp only [cWriteP] at hrel
  split at hrel
  case h_2 => exact hrel.elim
  rename_i ks xs f p
  obtain ⟨rfl, h1, hrel⟩ := hrel
  have hi := find_hi 0 xs p
  refine ⟨rfl, Nat.le_of_ble_eq_true rfl, fun _ _ => none, ?_⟩
  repeat' (first | with_reducible refine And.intro ?_ ?_ | (with_reducible intro h; first | (exact absurd h (by decide)) | (guard_hyp h : true = true; clear h) | (guard_hyp h : false = false; clear h) | skip) | with_reducible exact True.intro | ((with_reducible refine (id ?_ : @Eq Bool (nodupN _) true)); kernel_rfl) | ((with_reducible refine (id ?_ : @Eq Bool (apartN _ _) true)); kernel_rfl) | ((with_reducible refine (id ?_ : @Eq Bool (formL _ _) true)); kernel_rfl) | ((with_reducible refine (id ?_ : @Eq _ _ _)); exact rfl) | ((conv => whnf); first | done | with_reducible refine And.intro ?_ ?_ | (with_reducible intro h; first | (exact absurd h (by decide)) | (guard_hyp h : true = true; clear h) | (guard_hyp h : false = false; clear h) | skip) | with_reducible exact True.intro | ((with_reducible refine (id ?_ : @Eq _ _ _)); exact rfl) | (refine Exists.intro _ (Exists.intro _ (And.intro (hrel ?_ ?_ ?_ ?_) ?_))) | refine Exists.intro _ (Exists.intro _ (And.intro hrel ?_)) | exact Or.inl rfl | exact Or.inr (And.intro rfl rfl) | (apply Exists.intro; refine And.intro ?_ ?_)) | exact Nat.le_of_ble_eq_true rfl)
  all_goals (try ((try (change _ = _)) <;> (try dsimp only at *) <;> (try simp only [decide_eq_true_eq, decide_eq_false_iff_not, Bool.not_eq_true', Bool.not_eq_false', Bool.and_eq_true, Bool.and_eq_false_iff, beq_iff_eq, bne_iff_ne, beq_eq_false_iff_ne, bne_eq_false_iff_eq, ne_eq, Decidable.not_not, bne_self_eq_false, Bool.false_eq_true, Bool.true_eq_false, Bool.not_true, Bool.not_false, not_true_eq_false, not_false_eq_true, Int.toNat_natCast, Nat.zero_add, Nat.reduceAdd, Nat.reduceMul, Nat.reduceDiv, Nat.mul_one, lenK_one, big, fill_len, marking_len, marks_len, nrms_len, List.length_set, List.length_append, List.length_map, List.length_replicate, List.length_cons, List.length_nil, Int.natCast_add, Int.natCast_one, Int.natCast_zero] at *) <;> (repeat (with_reducible rename _ ∧ _ => hh; obtain ⟨_, _⟩ := hh)) <;> (first | omega | (refine fits_i64 ?_; omega) | (split <;> omega) | (have := cw_four (by with_reducible assumption); omega) | rfl)))
end Go.Proofs.Ytfchlcghildiaaa.V
