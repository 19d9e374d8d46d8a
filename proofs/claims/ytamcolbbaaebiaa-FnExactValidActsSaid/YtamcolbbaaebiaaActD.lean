/-
  Acts: the law that ValidActs answers as the reference does, as a function.
-/
import Derived.Test.YtamcolbbaaebiaaActC
namespace Go.Proofs.Ytamcolbbaaebiaa.V
open Go Go.RowKit
open Classical

def cLaw3 : Ct := ⟨[], fun ds K => match ds with
  | [.view ks xs] => ks = K3 ∧ (xs.length : Int) < big ∧ K (.bool true) []
  | _ => False⟩
theorem nrm3_nrm3 (xs : List Row) : (xs.map nrm3).map nrm3 = xs.map nrm3 := by
  rw [List.map_map]; rfl

set_option maxRecDepth 100000 in
set_option maxHeartbeats 4000000 in
theorem p_exactValidActs : Proved 3 cLaw3 := by
  refine proved_of [(9, cSzActS), (11, cToActS), (10, cValid), (12, cValid), (13, cEqActS)]
    ⟨p_szActS, p_toActS, p_spValidActs, p_iValidActs, p_eqActS, trivial⟩ [.tmp 2] Try.func3 rfl rfl rfl rfl (by kernel_rfl) ?_
  intro ds K hrel
  simp only [cLaw3] at hrel
  split at hrel
  case h_2 => exact hrel.elim
  rename_i ks xs
  obtain ⟨rfl, h1, hrel⟩ := hrel
  refine ⟨rfl, Nat.le_of_ble_eq_true rfl, fun _ _ => none, ?_⟩
  repeat' (first | refine And.intro ?_ ?_ | (intro h; first | (exact absurd h (by decide)) | (guard_hyp h : true = true; clear h) | (guard_hyp h : false = false; clear h) | skip) | refine Exists.intro _ (Exists.intro _ (And.intro hrel ?_)) | exact rfl | exact True.intro | exact Or.inl rfl | exact Or.inr (And.intro rfl rfl) | exact Nat.le_of_ble_eq_true rfl | (apply Exists.intro; refine And.intro ?_ ?_))
  all_goals (try change _ = _)
  all_goals (try simp only [List.length_map, nrm3_nrm3, decide_true, Bool.not_true, bne_self_eq_false, Bool.false_eq_true] at *)
  all_goals (try ((try (change _ = _)); (try dsimp only at *); (try simp only [decide_eq_true_eq, decide_eq_false_iff_not, Bool.not_eq_true', Bool.not_eq_false', Bool.and_eq_true, Bool.and_eq_false_iff, beq_iff_eq, bne_iff_ne, beq_eq_false_iff_ne, bne_eq_false_iff_eq, ne_eq, Decidable.not_not, Int.toNat_natCast, Nat.zero_add, Nat.reduceAdd, Nat.reduceMul, Nat.reduceDiv, Nat.mul_one, lenK_one, big, fill_len] at *); (repeat (rename _ ∧ _ => hh; obtain ⟨_, _⟩ := hh)); first | omega | (refine fits_i64 ?_; omega) | (split <;> omega)))
end Go.Proofs.Ytamcolbbaaebiaa.V
