/-
  Numbers: ranges, lists of numbers, copies.
-/
import Derived.Test.YtbppiknmlipmpaaDoorRd
import Derived.Test.YtbppiknmlipmpaaDoorTyLock
set_option linter.unusedSimpArgs false
set_option linter.unusedVariables false
namespace Go.Proofs.YtbppiknmlipmpaaDoor.V
open Go Go.RowKit
open Classical

def cInRange : Ct := ⟨[], fun ds K => match ds with
  | [.int .i64 n, .int .i64 lo, .int .i64 hi] => K (.bool (decide (lo ≤ n) && decide (n ≤ hi))) []
  | _ => False⟩
set_option maxRecDepth 100000 in
set_option maxHeartbeats 4000000 in
theorem p_inRange : Proved 41 cInRange := by
  refine proved_of [] trivial [.tmp 6] Tryd.func41 rfl rfl rfl rfl (by kernel_rfl) ?_
  intro ds K hrel
  simp only [cInRange] at hrel
  split at hrel
  case h_2 => exact hrel.elim
  refine ⟨rfl, Nat.le_of_ble_eq_true rfl, fun _ _ => none, ?_⟩
  repeat' (first | with_reducible refine And.intro ?_ ?_ | (with_reducible intro h; first | (exact absurd h (by decide)) | (guard_hyp h : true = true; clear h) | (guard_hyp h : false = false; clear h) | skip) | with_reducible exact True.intro | ((with_reducible refine (id ?_ : @Eq Bool (nodupN _) true)); kernel_rfl) | ((with_reducible refine (id ?_ : @Eq Bool (apartN _ _) true)); kernel_rfl) | ((with_reducible refine (id ?_ : @Eq Bool (formL _ _) true)); kernel_rfl) | ((with_reducible refine (id ?_ : @Eq _ _ _)); exact rfl) | ((conv => whnf); first | done | with_reducible refine And.intro ?_ ?_ | (with_reducible intro h; first | (exact absurd h (by decide)) | (guard_hyp h : true = true; clear h) | (guard_hyp h : false = false; clear h) | skip) | with_reducible exact True.intro | ((with_reducible refine (id ?_ : @Eq _ _ _)); exact rfl) | refine Exists.intro _ (Exists.intro _ (And.intro hrel ?_)) | exact Or.inl rfl | exact Or.inr (And.intro rfl rfl) | (apply Exists.intro; refine And.intro ?_ ?_)) | exact Nat.le_of_ble_eq_true rfl)
  all_goals (conv => whnf)
  all_goals simp [*]

/-- All numbers of a list lie in a range. -/
structure AllIn (xs : List Row) (lo hi : Int) (n : Int) : Prop where
  h : ∀ j : Nat, (j : Int) < n → lo ≤ (rc (row xs j) 0).int ∧ (rc (row xs j) 0).int ≤ hi
theorem allIn_zero (xs : List Row) (lo hi : Int) : AllIn xs lo hi 0 := ⟨fun j h => by omega⟩
theorem allIn_step {xs : List Row} {lo hi i : Int} (h : AllIn xs lo hi i) (h0 : 0 ≤ i) (h1 : lo ≤ (rc (row xs i.toNat) 0).int ∧ (rc (row xs i.toNat) 0).int ≤ hi) : AllIn xs lo hi (i + 1) := ⟨fun j hj => by
  by_cases e : (j : Int) = i
  · subst e; exact h1
  · exact h.h j (by omega)⟩
theorem allIn_all {xs : List Row} {lo hi i : Int} (h : AllIn xs lo hi i) (h1 : ¬ i < xs.length) : AllIn xs lo hi xs.length := ⟨fun j hj => h.h j (by omega)⟩
theorem allIn_not {xs : List Row} {lo hi i : Int} (h0 : 0 ≤ i) (hi' : i < xs.length) (h1 : ¬ (lo ≤ (rc (row xs i.toNat) 0).int ∧ (rc (row xs i.toNat) 0).int ≤ hi)) : ¬ AllIn xs lo hi xs.length := fun h => h1 (h.h i.toNat (by omega))
/-- The rows of a list that answer to p, a round further. -/
theorem filt_yes {ks : List Kd} {p : Row → Bool} {xs : List Row} {i : Int} (h0 : 0 ≤ i) (hi : i < xs.length) (h : p (row xs i.toNat) = true) :
    nrms ks ((xs.take (i + 1).toNat).filter p) = nrms ks ((xs.take i.toNat).filter p) ++ [nrm ks (row xs i.toNat)] := by
  rw [show (i + 1).toNat = i.toNat + 1 by omega, take_succ_row (by omega), List.filter_append, nrms_append]
  simp [h, nrms]
theorem filt_no {ks : List Kd} {p : Row → Bool} {xs : List Row} {i : Int} (h0 : 0 ≤ i) (hi : i < xs.length) (h : p (row xs i.toNat) = false) :
    nrms ks ((xs.take (i + 1).toNat).filter p) = nrms ks ((xs.take i.toNat).filter p) := by
  rw [show (i + 1).toNat = i.toNat + 1 by omega, take_succ_row (by omega), List.filter_append, nrms_append]
  simp [h, nrms]
theorem filt_len (ks : List Kd) (p : Row → Bool) (xs : List Row) (i : Nat) : (nrms ks ((xs.take i).filter p)).length ≤ xs.length := by
  rw [nrms_len]; exact Nat.le_trans (List.length_filter_le _ _) (by simp; omega)
theorem filt_all {ks : List Kd} {p : Row → Bool} {xs : List Row} {i : Int} (h : ¬ i < xs.length) : nrms ks ((xs.take i.toNat).filter p) = nrms ks (xs.filter p) := by
  rw [List.take_of_length_le (by omega)]

noncomputable def cAllIn : Ct := ⟨[], fun ds K => match ds with
  | [.view ks xs, .int .i64 lo, .int .i64 hi] => ks = KInt ∧ (xs.length : Int) < big ∧ K (.bool (decide (AllIn xs lo hi xs.length))) []
  | _ => False⟩

def cCopy (e : Nat) (ks : List Kd) : Ct := ⟨[], fun ds K => match ds with
  | [.view js xs] => js = ks ∧ xs.length ≤ 1048576 ∧ K (.fr e ks xs) []
  | _ => False⟩


end Go.Proofs.YtbppiknmlipmpaaDoor.V
