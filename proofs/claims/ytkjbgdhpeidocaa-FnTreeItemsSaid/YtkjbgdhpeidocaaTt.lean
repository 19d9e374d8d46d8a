/-
  Trees drawn at random.
-/
import Derived.Test.YtkjbgdhpeidocaaTs
set_option linter.unusedSimpArgs false
set_option linter.unusedVariables false
namespace Go.Proofs.Ytkjbgdhpeidocaa.V
open Go Go.RowKit
open Classical

def cRTree : Ct := ⟨[], fun ds K => match ds with
  | [.bx [.view ks bs, .int .i64 p]] => ks = KU8 ∧ Bytes bs ∧ (0 ≤ p ∧ p ≤ 1000) ∧ ∀ (zss : List (List Row)) (q : Int), (zss.length ≤ 100 ∧ tot zss ≤ 1000) → (0 ≤ q ∧ q ≤ p + 1000) → K (.agg [.frn 29 49 KItem zss]) [.bx [.view KU8 bs, .int .i64 q]]
  | _ => False⟩
/-- The orders of regions that draw. -/
def trRT : Nat → Option (Bool × Tr)
  | 5 => some (false, .take 1 (.all (.cons 0 (.all (.cons 2 (.all (.cons 3 (.take 4 (.take 5 (.take 6 (.all (.cons 7 (.all (.cons 8 (.take 9 .done) .nil)) .nil))))) (.cons 7 (.all (.cons 3 (.take 4 (.take 5 (.take 6 (.all (.cons 8 (.take 9 .done) .nil))))) .nil)) .nil))) (.cons 7 (.all (.cons 2 (.all (.cons 3 (.take 4 (.take 5 (.take 6 (.all (.cons 8 (.take 9 .done) .nil))))) .nil)) .nil)) .nil))) (.cons 2 (.all (.cons 0 (.all (.cons 3 (.take 4 (.take 5 (.take 6 (.all (.cons 7 (.all (.cons 8 (.take 9 .done) .nil)) .nil))))) (.cons 7 (.all (.cons 3 (.take 4 (.take 5 (.take 6 (.all (.cons 8 (.take 9 .done) .nil))))) .nil)) .nil))) (.cons 7 (.all (.cons 0 (.all (.cons 3 (.take 4 (.take 5 (.take 6 (.all (.cons 8 (.take 9 .done) .nil))))) .nil)) .nil)) .nil))) (.cons 7 (.all (.cons 0 (.all (.cons 2 (.all (.cons 3 (.take 4 (.take 5 (.take 6 (.all (.cons 8 (.take 9 .done) .nil))))) .nil)) .nil)) (.cons 2 (.all (.cons 0 (.all (.cons 3 (.take 4 (.take 5 (.take 6 (.all (.cons 8 (.take 9 .done) .nil))))) .nil)) .nil)) .nil))) .nil)))))
  | 13 => some (false, .take 1 (.take 2 (.take 3 (.take 4 (.all (.cons 0 (.all (.cons 5 (.take 6 (.all (.cons 7 (.all (.cons 8 (.take 9 (.take 10 (.take 11 (.all (.cons 12 .done .nil))))) .nil)) .nil))) .nil)) (.cons 5 (.take 6 (.all (.cons 0 (.all (.cons 7 (.all (.cons 8 (.take 9 (.take 10 (.take 11 (.all (.cons 12 .done .nil))))) .nil)) .nil)) (.cons 7 (.all (.cons 0 (.all (.cons 8 (.take 9 (.take 10 (.take 11 (.all (.cons 12 .done .nil))))) .nil)) .nil)) .nil)))) .nil)))))))
  | _ => none
set_option maxRecDepth 100000 in
set_option maxHeartbeats 16000000 in
theorem p_randomTree : Proved 49 cRTree := by
  refine proved_tr trRT [(53, cOne), (50, cPick), (55, cRItem), (54, cIns), (40, cFlat), (56, cDel)] ⟨p_one, p_pick, p_randomItem, p_insert, p_flat, p_delete, trivial⟩ [.cell 2 26] Try.func49 rfl rfl rfl rfl (by kernel_rfl) ?_
  intro ds K hrel
  simp only [cRTree] at hrel
  split at hrel
  case h_2 => exact hrel.elim
  rename_i ks bs p
  obtain ⟨rfl, hb, ⟨h1, h2⟩, hrel⟩ := hrel
  refine ⟨rfl, Nat.le_of_ble_eq_true rfl, fun k σ => match k with
    | 3 => some { α := Lv 3 (List (List Row) × Int × Int), R := fun ⟨(zss, q, n)⟩ => (0 ≤ n ∧ n ≤ 30 ∧ 0 ≤ q ∧ q ≤ p + 1 + 2 * (30 - n)) ∧ (zss.length : Int) ≤ 2 * (30 - n) ∧ (tot zss : Int) ≤ 20 * (30 - n), μ := fun ⟨(_, _, n)⟩ => n.toNat, sw := true,
                  st := fun ⟨(zss, q, n)⟩ => ⟨[(4, .int .i64 n), (0, .box 0 0), (2, .box 1 0), (3, .box 2 0)], [some (.box [.view KU8 bs, .int .i64 q]), some (.box [.nil []]), some (.box [.own 4]), none, some (.nest 29 49 KItem zss)]⟩ }
    | 9 => some { α := Lv 9 (List (List Row) × Int × Int), R := fun ⟨(zss, q, n)⟩ => (0 ≤ n ∧ n ≤ 5 ∧ 0 ≤ q ∧ q ≤ p + 100 + 2 * (5 - n)) ∧ (zss.length : Int) ≤ 60 + 2 * (5 - n) ∧ (tot zss : Int) ≤ 600 + 20 * (5 - n), μ := fun ⟨(_, _, n)⟩ => n.toNat, sw := true,
                  st := fun ⟨(zss, q, n)⟩ => ⟨[(7, .int .i64 n), (0, .box 0 0), (2, .box 1 0), (3, .box 2 0)], [some (.box [.view KU8 bs, .int .i64 q]), some (.box [.nil []]), some (.box [.own 4]), none, some (.nest 29 49 KItem zss)]⟩ }
    | _ => none, ?_⟩
  repeat' (first | with_reducible refine And.intro ?_ ?_ | (with_reducible intro h; first | (exact absurd h (by decide)) | (guard_hyp h : true = true; clear h) | (guard_hyp h : false = false; clear h) | (have hq := (h : Lv 3 _); clear hq; obtain ⟨_, _, _⟩ := h) | (have hq := (h : Lv 9 _); clear hq; obtain ⟨_, _, _⟩ := h) | skip) | with_reducible exact True.intro | ((with_reducible refine (id ?_ : @Eq Bool (nodupN _) true)); kernel_rfl) | ((with_reducible refine (id ?_ : @Eq Bool (apartN _ _) true)); kernel_rfl) | ((with_reducible refine (id ?_ : @Eq Bool (formL _ _) true)); kernel_rfl) | ((with_reducible refine (id ?_ : @Eq _ _ _)); exact rfl) | ((conv => whnf); first | done | with_reducible refine And.intro ?_ ?_ | (with_reducible intro h; first | (exact absurd h (by decide)) | (guard_hyp h : true = true; clear h) | (guard_hyp h : false = false; clear h) | (have hq := (h : Lv 3 _); clear hq; obtain ⟨_, _, _⟩ := h) | (have hq := (h : Lv 9 _); clear hq; obtain ⟨_, _, _⟩ := h) | skip) | with_reducible exact True.intro | ((with_reducible refine (id ?_ : @Eq _ _ _)); exact rfl) | (refine Exists.intro _ (Exists.intro _ (And.intro (hrel ?_ ?_ ?_ ?_) ?_))) | refine Exists.intro (⟨(?_, ?_, ?_)⟩ : Lv 3 _) ?_ | refine Exists.intro (⟨(?_, ?_, ?_)⟩ : Lv 9 _) ?_ | refine Exists.intro _ (Exists.intro _ (And.intro hrel ?_)) | exact Or.inl rfl | exact Or.inr (And.intro rfl rfl) | (apply Exists.intro; refine And.intro ?_ ?_)) | exact Nat.le_of_ble_eq_true rfl)
  all_goals (try ((repeat (with_reducible rename PickR _ _ => hq; have hq1 := hq.lo; have hq2 := hq.hi; have hq3 := hq.zero; clear hq)) <;> (try (change _ = _)) <;> (try dsimp only at *) <;> (try simp only [decide_eq_true_eq, decide_eq_false_iff_not, Bool.not_eq_true', Bool.not_eq_false', Bool.and_eq_true, Bool.and_eq_false_iff, beq_iff_eq, bne_iff_ne, beq_eq_false_iff_ne, bne_eq_false_iff_eq, ne_eq, Decidable.not_not, bne_self_eq_false, Bool.false_eq_true, Bool.true_eq_false, Bool.not_true, Bool.not_false, not_true_eq_false, not_false_eq_true, Int.toNat_natCast, Nat.zero_add, Nat.reduceAdd, Nat.reduceMul, Nat.reduceDiv, Nat.mul_one, lenK_one, big, fill_len, marking_len, marks_len, nrms_len, List.length_set, List.length_append, List.length_map, List.length_replicate, List.length_cons, List.length_nil, Int.natCast_add, Int.natCast_one, Int.natCast_zero, memI_i, memI_nil, or_false, false_or, tot_nil] at *) <;> (repeat (with_reducible rename _ ∧ _ => hh; obtain ⟨_, _⟩ := hh)) <;> (first | omega | (refine fits_i64 ?_; omega) | (split <;> omega) | (with_reducible assumption) | (have hf := flatten_len (by with_reducible assumption : List (List Row)); omega))))
end Go.Proofs.Ytkjbgdhpeidocaa.V
