/-
  The law of valid trees.
-/
import Derived.Test.YtkjbgdhpeidocaaTc
import Derived.Test.YtkjbgdhpeidocaaBr
set_option linter.unusedSimpArgs false
set_option linter.unusedVariables false
namespace Go.Proofs.Ytkjbgdhpeidocaa.V
open Go Go.RowKit
open Classical

theorem tot_nrms (ks : List Kd) (xss : List (List Row)) : tot (xss.map (nrms ks)) = tot xss := tot_map _ (fun xs => nrms_len ks xs) xss
theorem nrmsS_nrmsS (ks : List Kd) (xss : List (List Row)) : (xss.map (nrms ks)).map (nrms ks) = xss.map (nrms ks) := by
  rw [List.map_map]; congr 1; funext xs; exact nrms_nrms ks xs
/-- The orders of regions that draw. -/
def trXVT : Nat → Option (Bool × Tr)
  | 10 => some (true, .take 0 (.take 1 (.all (.cons 2 (.all (.cons 3 (.take 4 .done) .nil)) .nil))))
  | _ => none
set_option maxRecDepth 100000 in
set_option maxHeartbeats 8000000 in
theorem p_fnExactValidTree : Proved 4 (cLaw [.st [.ss KItem]]) := by
  refine proved_tr trXVT [(17, cSzTree KItem), (19, cToTree 29 49 KItem), (12, cEqTree KItem), (18, cVTree), (20, cVTree)] ⟨p_szTree, p_toTree, p_eqTree, p_sValidTree, p_iValidTree, trivial⟩ [.tmp 2] Try.func4 rfl rfl rfl rfl (by kernel_rfl) ?_
  rintro ds K ⟨⟨a, l, rfl, ⟨al, rfl, ⟨c, l2, rfl, ⟨xss, rfl, h1, h2⟩, rfl⟩⟩, rfl⟩, hrel⟩
  unfold maxLen at h1 h2
  have hs : Sml xss := ⟨fun i => by have := h2 i; omega⟩
  refine ⟨rfl, Nat.le_of_ble_eq_true rfl, fun _ _ => none, ?_⟩
  repeat' (first | with_reducible refine And.intro ?_ ?_ | (with_reducible intro h; first | (exact absurd h (by decide)) | (guard_hyp h : true = true; clear h) | (guard_hyp h : false = false; clear h) | skip) | with_reducible exact True.intro | ((with_reducible refine (id ?_ : @Eq Bool (nodupN _) true)); kernel_rfl) | ((with_reducible refine (id ?_ : @Eq Bool (apartN _ _) true)); kernel_rfl) | ((with_reducible refine (id ?_ : @Eq Bool (formL _ _) true)); kernel_rfl) | ((with_reducible refine (id ?_ : @Eq _ _ _)); exact rfl) | ((conv => whnf); first | done | with_reducible refine And.intro ?_ ?_ | (with_reducible intro h; first | (exact absurd h (by decide)) | (guard_hyp h : true = true; clear h) | (guard_hyp h : false = false; clear h) | skip) | with_reducible exact True.intro | ((with_reducible refine (id ?_ : @Eq _ _ _)); exact rfl) | refine Exists.intro _ (Exists.intro _ (And.intro hrel ?_)) | exact Or.inl rfl | exact Or.inr (And.intro rfl rfl) | (apply Exists.intro; refine And.intro ?_ ?_)) | exact Nat.le_of_ble_eq_true rfl)
  all_goals (try ((try (change _ = _)) <;> (try dsimp only at *) <;> (try simp only [decide_eq_true_eq, decide_eq_false_iff_not, Bool.not_eq_true', Bool.not_eq_false', Bool.and_eq_true, Bool.and_eq_false_iff, beq_iff_eq, bne_iff_ne, beq_eq_false_iff_ne, bne_eq_false_iff_eq, ne_eq, Decidable.not_not, bne_self_eq_false, Bool.false_eq_true, Bool.true_eq_false, Bool.not_true, Bool.not_false, not_true_eq_false, not_false_eq_true, Int.toNat_natCast, Nat.zero_add, Nat.reduceAdd, Nat.reduceMul, Nat.reduceDiv, Nat.mul_one, lenK_one, big, fill_len, marking_len, marks_len, nrms_len, List.length_set, List.length_append, List.length_map, List.length_replicate, List.length_cons, List.length_nil, Int.natCast_add, Int.natCast_one, Int.natCast_zero, tot_nrms, nrmsS_nrmsS, decide_true] at *) <;> (repeat (with_reducible rename _ ∧ _ => hh; obtain ⟨_, _⟩ := hh)) <;> (first | omega | (refine fits_i64 ?_; omega) | (split <;> omega) | (with_reducible assumption))))
end Go.Proofs.Ytkjbgdhpeidocaa.V
