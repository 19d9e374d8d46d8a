/-
  Acts: the small functions, their contracts and proofs.
-/
import Derived.Test.YtamcolbbaaebiaaVcZ
namespace Go.Proofs.Ytamcolbbaaebiaa.V
open Go Go.RowKit

/-- The variable of a loop. -/
structure Lv (k : Nat) (α : Type) where
  v : α

/-- A slice that is being filled: the first i rows are done. -/
def fill (f : Row → Row) (z : Row) (xs : List Row) (i : Nat) : List Row := (xs.take i).map f ++ List.replicate (xs.length - i) z
theorem fill_len {f : Row → Row} {z : Row} {xs : List Row} {i : Nat} : (fill f z xs i).length = xs.length := by
  simp [fill]; omega
theorem lenK_one (k : Kd) : lenK [k] = 1 := rfl
theorem fits_i64 {n : Int} (h : -9223372036854775808 ≤ n ∧ n ≤ 9223372036854775807) : Fits .i64 n := ⟨h.1, h.2⟩
theorem fill_zero (f : Row → Row) (z : Row) (xs : List Row) : fill f z xs 0 = List.replicate xs.length z := by simp [fill]
theorem fill_all (f : Row → Row) (z : Row) (xs : List Row) : fill f z xs xs.length = xs.map f := by simp [fill]
theorem fill_row (f : Row → Row) (z : Row) (xs : List Row) {i : Nat} (h : i < xs.length) : row (fill f z xs i) i = z := by
  unfold row fill
  rw [List.getD_eq_getElem?_getD, List.getElem?_append_right (by simp; omega)]
  simp only [List.length_map, List.length_take]
  rw [List.getElem?_replicate]
  rw [if_pos (by omega)]
  rfl
theorem fill_end {f : Row → Row} {z : Row} {xs : List Row} {i : Nat} (h : ¬ (i : Int) < xs.length) (h2 : i ≤ xs.length) : fill f z xs i = xs.map f := by
  rw [show i = xs.length by omega]; exact fill_all f z xs
theorem fill_set (f : Row → Row) (z : Row) (xs : List Row) {i : Nat} (h : i < xs.length) : (fill f z xs i).set i (f (row xs i)) = fill f z xs (i + 1) := by
  unfold fill
  have h1 : (List.map f (List.take i xs)).length = i := by simp; omega
  rw [List.set_append_right _ _ (by omega), h1, Nat.sub_self]
  rw [show xs.length - i = (xs.length - (i + 1)) + 1 by omega, List.replicate_succ, List.set_cons_zero]
  rw [List.take_add_one, List.map_append, List.append_assoc]
  congr 1
  have : xs[i]? = some (row xs i) := by unfold row; rw [List.getD_eq_getElem?_getD, List.getElem?_eq_getElem h]; rfl
  rw [this]; rfl

def K3 : List Kd := [.int .i64, .int .i64, .int .i64]
def nrm3 (r : Row) : Row := [.i (rc r 0).int, .i (rc r 1).int, .i (rc r 2).int]
theorem fill3_step {xs : List Row} {i : Nat} (h : (i : Int) < xs.length) : (fill nrm3 (zeroRow K3) xs i).set (i : Int).toNat (pasteR (row (fill nrm3 (zeroRow K3) xs i) (i : Int).toNat) 0
    [.i (rc (row xs (i : Int).toNat) 0).int, .i (rc (row xs (i : Int).toNat) (0 + 1)).int, .i (rc (row xs (i : Int).toNat) (0 + 1 + 1)).int]) = fill nrm3 (zeroRow K3) xs (i + 1) := by
  rw [Int.toNat_natCast, fill_row _ _ _ (by omega)]
  exact fill_set nrm3 _ xs (by omega)
def big : Int := 9223372036854775808

def cInRange : Ct := ⟨[], fun ds K => match ds with
  | [.int .i64 n, .int .i64 lo, .int .i64 hi] => K (.bool (decide (lo ≤ n) && decide (n ≤ hi))) []
  | _ => False⟩

set_option maxRecDepth 100000 in
set_option maxHeartbeats 1000000 in
theorem p_inRange : Proved 44 cInRange := by
  refine proved_of [] trivial [.tmp 6] Try.func44 rfl rfl rfl rfl (by kernel_rfl) ?_
  intro ds K hrel
  simp only [cInRange] at hrel
  split at hrel
  case h_2 => exact hrel.elim
  refine ⟨rfl, Nat.le_of_ble_eq_true rfl, fun _ _ => none, ?_⟩
  repeat' (first | refine And.intro ?_ ?_ | (intro h; first | (exact absurd h (by decide)) | (guard_hyp h : true = true; clear h) | (guard_hyp h : false = false; clear h) | skip) | refine Exists.intro _ (Exists.intro _ (And.intro hrel ?_)) | exact rfl | exact True.intro | exact Or.inl rfl | exact Or.inr (And.intro rfl rfl) | exact Nat.le_of_ble_eq_true rfl | (apply Exists.intro; refine And.intro ?_ ?_))
  all_goals (conv => whnf)
  all_goals simp [*]

def cSzActS : Ct := ⟨[], fun ds K => match ds with
  | [.view ks xs, .int .i64 n] => ks = K3 ∧ (xs.length : Int) < big ∧ 0 ≤ n ∧ n < big ∧ K (.int .i64 (if n < xs.length then -1 else n - xs.length)) []
  | _ => False⟩
set_option maxRecDepth 100000 in
set_option maxHeartbeats 1000000 in
theorem p_szActS : Proved 9 cSzActS := by
  refine proved_of [] trivial [.tmp 4] Try.func9 rfl rfl rfl rfl (by kernel_rfl) ?_
  intro ds K hrel
  simp only [cSzActS] at hrel
  split at hrel
  case h_2 => exact hrel.elim
  obtain ⟨rfl, h1, h2, h3, hrel⟩ := hrel
  refine ⟨rfl, Nat.le_of_ble_eq_true rfl, fun _ _ => none, ?_⟩
  repeat' (first | refine And.intro ?_ ?_ | (intro h; first | (exact absurd h (by decide)) | (guard_hyp h : true = true; clear h) | (guard_hyp h : false = false; clear h) | skip) | refine Exists.intro _ (Exists.intro _ (And.intro hrel ?_)) | exact rfl | exact True.intro | exact Or.inl rfl | exact Or.inr (And.intro rfl rfl) | exact Nat.le_of_ble_eq_true rfl | (apply Exists.intro; refine And.intro ?_ ?_))
  all_goals (try ((try (change _ = _)); (try dsimp only at *); (try simp only [decide_eq_true_eq, decide_eq_false_iff_not, Bool.not_eq_true', Bool.not_eq_false', Bool.and_eq_true, Bool.and_eq_false_iff, beq_iff_eq, bne_iff_ne, beq_eq_false_iff_ne, bne_eq_false_iff_eq, ne_eq, Decidable.not_not, Int.toNat_natCast, Nat.zero_add, Nat.reduceAdd, Nat.reduceMul, Nat.reduceDiv, Nat.mul_one, lenK_one, big, fill_len] at *); (repeat (rename _ ∧ _ => hh; obtain ⟨_, _⟩ := hh)); first | omega | (refine fits_i64 ?_; omega) | (split <;> omega)))

def cToAct : Ct := ⟨[], fun ds K => match ds with
  | [.agg [.int .i64 a, .int .i64 b, .int .i64 c]] => K (.agg [.int .i64 a, .int .i64 b, .int .i64 c]) []
  | _ => False⟩
set_option maxRecDepth 100000 in
set_option maxHeartbeats 1000000 in
theorem p_toAct : Proved 37 cToAct := by
  refine proved_of [] trivial [.cell 2 62] Try.func37 rfl rfl rfl rfl (by kernel_rfl) ?_
  intro ds K hrel
  simp only [cToAct] at hrel
  split at hrel
  case h_2 => exact hrel.elim
  refine ⟨rfl, Nat.le_of_ble_eq_true rfl, fun _ _ => none, ?_⟩
  repeat' (first | refine And.intro ?_ ?_ | (intro h; first | (exact absurd h (by decide)) | (guard_hyp h : true = true; clear h) | (guard_hyp h : false = false; clear h) | skip) | refine Exists.intro _ (Exists.intro _ (And.intro hrel ?_)) | exact rfl | exact True.intro | exact Or.inl rfl | exact Or.inr (And.intro rfl rfl) | exact Nat.le_of_ble_eq_true rfl | (apply Exists.intro; refine And.intro ?_ ?_))

def cToActS : Ct := ⟨[], fun ds K => match ds with
  | [.view ks xs] => ks = K3 ∧ xs.length ≤ 1048576 ∧ K (.fr 62 K3 (xs.map nrm3)) []
  | _ => False⟩
set_option maxRecDepth 100000 in
set_option maxHeartbeats 1000000 in
theorem p_toActS : Proved 11 cToActS := by
  refine proved_of [(37, cToAct)] ⟨p_toAct, trivial⟩ [.tmp 2] Try.func11 rfl rfl rfl rfl (by kernel_rfl) ?_
  intro ds K hrel
  simp only [cToActS] at hrel
  split at hrel
  case h_2 => exact hrel.elim
  rename_i ks xs
  obtain ⟨rfl, h1, hrel⟩ := hrel
  refine ⟨rfl, Nat.le_of_ble_eq_true rfl, fun k _ => match k with
    | 3 => some { α := Lv 3 Nat, R := fun i => i.v ≤ xs.length, μ := fun i => xs.length - i.v,
                  st := fun i => ⟨[(0, .view K3 xs), (3, .own 0), (4, .int .i64 i.v)], [some (.rows 62 K3 (fill nrm3 (zeroRow K3) xs i.v))]⟩ }
    | _ => none, ?_⟩
  repeat' (first | refine And.intro ?_ ?_ | (intro h; first | (exact absurd h (by decide)) | (guard_hyp h : true = true; clear h) | (guard_hyp h : false = false; clear h) | skip) | refine Exists.intro (⟨(by assumption : Lv 3 Nat).v + 1⟩ : Lv 3 Nat) ?_ | refine Exists.intro (⟨0⟩ : Lv 3 Nat) ?_ | refine Exists.intro _ (Exists.intro _ (And.intro hrel ?_)) | exact rfl | exact True.intro | exact Or.inl rfl | exact Or.inr (And.intro rfl rfl) | exact Nat.le_of_ble_eq_true rfl | (apply Exists.intro; refine And.intro ?_ ?_))
  all_goals (try ((try (change _ = _)); (try dsimp only at *); (try simp only [decide_eq_true_eq, decide_eq_false_iff_not, Bool.not_eq_true', Bool.not_eq_false', Bool.and_eq_true, Bool.and_eq_false_iff, beq_iff_eq, bne_iff_ne, beq_eq_false_iff_ne, bne_eq_false_iff_eq, ne_eq, Decidable.not_not, Int.toNat_natCast, Nat.zero_add, Nat.reduceAdd, Nat.reduceMul, Nat.reduceDiv, Nat.mul_one, lenK_one, big, fill_len] at *); (repeat (rename _ ∧ _ => hh; obtain ⟨_, _⟩ := hh)); first | omega | (refine fits_i64 ?_; omega) | (split <;> omega) | exact fill3_step (by omega) | exact fill_end (by omega) (by omega)))
end Go.Proofs.Ytamcolbbaaebiaa.V
