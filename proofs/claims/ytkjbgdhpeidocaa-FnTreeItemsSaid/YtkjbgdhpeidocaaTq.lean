/-
  An item is put into a tree.
-/
import Derived.Test.YtkjbgdhpeidocaaTw
set_option linter.unusedSimpArgs false
set_option linter.unusedVariables false
namespace Go.Proofs.Ytkjbgdhpeidocaa.V
open Go Go.RowKit
open Classical

theorem half_eq (n : Nat) : ((n : Int)).tdiv 2 = ((n / 2 : Nat) : Int) := rfl
def cIns : Ct := ⟨[], fun ds K => match ds with
  | [.agg [.vv js xss], .agg [.int .i64 a, .int .i64 b]] => js = KItem ∧ (xss.length ≤ 200 ∧ tot xss ≤ 3000) ∧ ∀ (zss : List (List Row)) (q : Bool), (zss.length ≤ xss.length + 2 ∧ tot zss ≤ tot xss + 20) → K (.tup [.agg [.frn 29 49 KItem zss], .bool q]) []
  | _ => False⟩
/-- The orders of regions that draw. -/
def trIns : Nat → Option (Bool × Tr)
  | 1 => some (true, .take 0 (.all (.cons 1 (.take 2 (.take 3 (.take 4 (.all (.cons 5 (.take 6 (.take 7 (.take 8 (.take 9 (.take 11 (.all (.cons 10 (.all (.cons 12 (.take 13 (.take 14 (.take 15 (.all (.cons 16 (.take 17 (.take 18 (.take 19 .done))) .nil))))) .nil)) .nil))))))) .nil))))) .nil)))
  | 6 => some (true, .take 0 (.take 1 (.take 2 (.take 3 (.take 4 (.take 5 (.all (.cons 6 (.take 7 .done) .nil))))))))
  | 10 => some (false, .take 1 (.take 3 (.take 4 (.take 5 (.take 8 (.take 9 (.take 10 (.all (.cons 0 (.all (.cons 2 (.all (.cons 6 (.all (.cons 7 (.all (.cons 11 (.all (.cons 12 (.all (.cons 13 (.all (.cons 14 (.take 15 .done) .nil)) .nil)) .nil)) .nil)) .nil)) (.cons 7 (.all (.cons 6 (.all (.cons 11 (.all (.cons 12 (.all (.cons 13 (.all (.cons 14 (.take 15 .done) .nil)) .nil)) .nil)) .nil)) .nil)) .nil))) (.cons 7 (.all (.cons 2 (.all (.cons 6 (.all (.cons 11 (.all (.cons 12 (.all (.cons 13 (.all (.cons 14 (.take 15 .done) .nil)) .nil)) .nil)) .nil)) .nil)) .nil)) .nil))) (.cons 2 (.all (.cons 0 (.all (.cons 6 (.all (.cons 7 (.all (.cons 11 (.all (.cons 12 (.all (.cons 13 (.all (.cons 14 (.take 15 .done) .nil)) .nil)) .nil)) .nil)) .nil)) (.cons 7 (.all (.cons 6 (.all (.cons 11 (.all (.cons 12 (.all (.cons 13 (.all (.cons 14 (.take 15 .done) .nil)) .nil)) .nil)) .nil)) .nil)) .nil))) (.cons 6 (.all (.cons 0 (.all (.cons 7 (.all (.cons 11 (.all (.cons 12 (.all (.cons 13 (.all (.cons 14 (.take 15 .done) .nil)) .nil)) .nil)) .nil)) .nil)) (.cons 7 (.all (.cons 0 (.all (.cons 11 (.all (.cons 12 (.all (.cons 13 (.all (.cons 14 (.take 15 .done) .nil)) .nil)) .nil)) .nil)) (.cons 11 (.all (.cons 0 (.all (.cons 12 (.all (.cons 13 (.all (.cons 14 (.take 15 .done) .nil)) .nil)) .nil)) (.cons 12 (.all (.cons 0 (.all (.cons 13 (.all (.cons 14 (.take 15 .done) .nil)) .nil)) .nil)) .nil))) .nil))) .nil))) (.cons 7 (.all (.cons 0 (.all (.cons 6 (.all (.cons 11 (.all (.cons 12 (.all (.cons 13 (.all (.cons 14 (.take 15 .done) .nil)) .nil)) .nil)) .nil)) .nil)) (.cons 6 (.all (.cons 0 (.all (.cons 11 (.all (.cons 12 (.all (.cons 13 (.all (.cons 14 (.take 15 .done) .nil)) .nil)) .nil)) .nil)) (.cons 11 (.all (.cons 0 (.all (.cons 12 (.all (.cons 13 (.all (.cons 14 (.take 15 .done) .nil)) .nil)) .nil)) (.cons 12 (.all (.cons 0 (.all (.cons 13 (.all (.cons 14 (.take 15 .done) .nil)) .nil)) .nil)) .nil))) .nil))) .nil))) .nil)))) (.cons 7 (.all (.cons 0 (.all (.cons 2 (.all (.cons 6 (.all (.cons 11 (.all (.cons 12 (.all (.cons 13 (.all (.cons 14 (.take 15 .done) .nil)) .nil)) .nil)) .nil)) .nil)) .nil)) (.cons 2 (.all (.cons 0 (.all (.cons 6 (.all (.cons 11 (.all (.cons 12 (.all (.cons 13 (.all (.cons 14 (.take 15 .done) .nil)) .nil)) .nil)) .nil)) .nil)) (.cons 6 (.all (.cons 0 (.all (.cons 11 (.all (.cons 12 (.all (.cons 13 (.all (.cons 14 (.take 15 .done) .nil)) .nil)) .nil)) .nil)) (.cons 11 (.all (.cons 0 (.all (.cons 12 (.all (.cons 13 (.all (.cons 14 (.take 15 .done) .nil)) .nil)) .nil)) (.cons 12 (.all (.cons 0 (.all (.cons 13 (.all (.cons 14 (.take 15 .done) .nil)) .nil)) .nil)) .nil))) .nil))) .nil))) .nil))) .nil)))))))))))
  | _ => none
set_option maxRecDepth 100000 in
set_option maxHeartbeats 16000000 in
theorem p_insert : Proved 54 cIns := by
  refine proved_spcC [9] (spc1 61 (.give 29 49 KItem wRel)) (spc1_ok with_ok) trIns [(37, cVTree), (44, cValidI), (40, cFlat), (58, cHolds), (59, cLeafOf), (60, cPut)] ⟨p_svTree, p_validItem, p_flat, p_holds, p_leafOf, p_put, trivial⟩ [.cell 4 26, .tmp 5] Try.func54 rfl rfl rfl rfl (by kernel_rfl) ?_
  intro ds K hrel
  simp only [cIns] at hrel
  split at hrel
  case h_2 => exact hrel.elim
  rename_i ks xss a b
  obtain ⟨rfl, ⟨h1, h2⟩, hrel⟩ := hrel
  have hf := flatten_len xss
  refine ⟨rfl, Nat.le_of_ble_eq_true rfl, fun k σ => match k with
    | 1009 => some { α := Lv 1009 (Int × List Row), R := fun ⟨(q, ys)⟩ => (0 ≤ q ∧ q < xss.length) ∧ 5 ≤ ys.length ∧ ys.length ≤ 9, μ := fun _ => 0, st := fun ⟨(q, ys)⟩ => ⟨[(2, .box 0 0), (4, .box 2 0), (6, .int .i64 q), (7, .view KItem ys)], [some (.box [.vv KItem xss]), none, some (.box [.nil []])]⟩ }
    | _ => none, ?_⟩
  repeat' (first | with_reducible refine And.intro ?_ ?_ | (with_reducible intro h; first | (exact absurd h (by decide)) | (guard_hyp h : true = true; clear h) | (guard_hyp h : false = false; clear h) | (have hq := (h : Lv 1009 _); clear hq; obtain ⟨_, _⟩ := h) | skip) | with_reducible exact True.intro | ((with_reducible refine (id ?_ : @Eq Bool (nodupN _) true)); kernel_rfl) | ((with_reducible refine (id ?_ : @Eq Bool (apartN _ _) true)); kernel_rfl) | ((with_reducible refine (id ?_ : @Eq Bool (formL _ _) true)); kernel_rfl) | ((with_reducible refine (id ?_ : @Eq _ _ _)); exact rfl) | ((conv => whnf); first | done | with_reducible refine And.intro ?_ ?_ | (with_reducible intro h; first | (exact absurd h (by decide)) | (guard_hyp h : true = true; clear h) | (guard_hyp h : false = false; clear h) | (have hq := (h : Lv 1009 _); clear hq; obtain ⟨_, _⟩ := h) | skip) | with_reducible exact True.intro | ((with_reducible refine (id ?_ : @Eq _ _ _)); exact rfl) | (refine Exists.intro _ (Exists.intro _ (And.intro (hrel ?_ ?_ ?_) ?_))) | refine Exists.intro (⟨(?_, ?_)⟩ : Lv 1009 _) ?_ | refine Exists.intro _ (Exists.intro _ (And.intro hrel ?_)) | exact Or.inl rfl | exact Or.inr (And.intro rfl rfl) | (apply Exists.intro; refine And.intro ?_ ?_)) | exact Nat.le_of_ble_eq_true rfl)
  all_goals (try ((try (change _ = _)) <;> (try dsimp only at *) <;> (try simp only [decide_eq_true_eq, decide_eq_false_iff_not, Bool.not_eq_true', Bool.not_eq_false', Bool.and_eq_true, Bool.and_eq_false_iff, beq_iff_eq, bne_iff_ne, beq_eq_false_iff_ne, bne_eq_false_iff_eq, ne_eq, Decidable.not_not, bne_self_eq_false, Bool.false_eq_true, Bool.true_eq_false, Bool.not_true, Bool.not_false, not_true_eq_false, not_false_eq_true, Int.toNat_natCast, Nat.zero_add, Nat.reduceAdd, Nat.reduceMul, Nat.reduceDiv, Nat.mul_one, lenK_one, big, fill_len, marking_len, marks_len, nrms_len, List.length_set, List.length_append, List.length_map, List.length_replicate, List.length_cons, List.length_nil, Int.natCast_add, Int.natCast_one, Int.natCast_zero, half_eq, tot_one, tot_two, tot_nil, List.nil_append, List.length_drop, List.length_take] at *) <;> (repeat (with_reducible rename _ ∧ _ => hh; obtain ⟨_, _⟩ := hh)) <;> (first | omega | (refine fits_i64 ?_; omega) | (split <;> omega) | (with_reducible assumption) | (have hq := vt_leaf (by with_reducible assumption : VTree xss) (i := (by with_reducible assumption : Int).toNat) (by omega); omega))))
end Go.Proofs.Ytkjbgdhpeidocaa.V
