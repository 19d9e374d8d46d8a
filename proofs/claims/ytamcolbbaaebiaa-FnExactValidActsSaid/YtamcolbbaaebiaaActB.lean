/-
  Acts: what makes a history valid, in the program and in the reference.
-/
import Derived.Test.YtamcolbbaaebiaaActA
namespace Go.Proofs.Ytamcolbbaaebiaa.V
open Go Go.RowKit
open Classical

def okRow (r : Row) : Prop := 0 ≤ (rc r 0).int ∧ (rc r 0).int ≤ 7 ∧ 0 ≤ (rc r 1).int ∧ (rc r 1).int ≤ 2 ∧ 0 ≤ (rc r 2).int ∧ (rc r 2).int ≤ 5 ∧ ((rc r 1).int = 2 → (rc r 2).int = 0)
structure OkRow (r : Row) : Prop where
  h : okRow r
/-- Act i comes behind no commit of its transaction among the first n. -/
structure Free (xs : List Row) (i n : Nat) : Prop where
  h : ∀ j, j < n → ¬ ((rc (row xs j) 0).int = (rc (row xs i) 0).int ∧ (rc (row xs j) 1).int = 2)
structure Good (xs : List Row) (n : Nat) : Prop where
  h : ∀ j, j < n → OkRow (row xs j) ∧ Free xs j j
/-- A valid history. -/
def VA (xs : List Row) : Prop := Good xs xs.length ∧ xs.length ≤ 16

theorem va_row {xs : List Row} {i : Nat} (h : i < xs.length) (hr : ¬ okRow (row xs i)) : false = decide (VA xs) := by
  symm; rw [decide_eq_false_iff_not]; exact fun hv => hr (hv.1.h i h).1.h
theorem va_free {xs : List Row} {i j : Nat} (h : i < xs.length) (hj : j < i) (he : (rc (row xs j) 0).int = (rc (row xs i) 0).int) (he2 : (rc (row xs j) 1).int = 2) : false = decide (VA xs) := by
  symm; rw [decide_eq_false_iff_not]; exact fun hv => (hv.1.h i h).2.h j hj ⟨he, he2⟩
theorem va_long {xs : List Row} (h : 16 < (xs.length : Int)) : false = decide (VA xs) := by
  symm; rw [decide_eq_false_iff_not]; exact fun hv => by have := hv.2; omega
theorem va_all {xs : List Row} {n : Nat} (h : Good xs n) (hn : n ≤ xs.length) (hn2 : ¬ (n : Int) < xs.length) : decide ((xs.length : Int) ≤ 16) = decide (VA xs) := by
  have : n = xs.length := by omega
  subst this
  rw [decide_eq_decide]; exact ⟨fun hl => ⟨h, by omega⟩, fun hv => by have := hv.2; omega⟩
theorem va_true {xs : List Row} {n : Nat} (h : Good xs n) (hn : n ≤ xs.length) (hn2 : ¬ (n : Int) < xs.length) (hl : ¬ 16 < (xs.length : Int)) : true = decide (VA xs) := by
  rw [← va_all h hn hn2]; symm; rw [decide_eq_true_eq]; omega
theorem good_zero (xs : List Row) : Good xs 0 := ⟨fun j h => by omega⟩
theorem free_zero (xs : List Row) (i : Nat) : Free xs i 0 := ⟨fun j h => by omega⟩
theorem good_step {xs : List Row} {i n : Nat} (h : Good xs i) (h1 : OkRow (row xs i)) (h2 : Free xs i n) (hn : ¬ (n : Int) < i) : Good xs (i + 1) := ⟨by
  intro j hj
  rcases Nat.lt_succ_iff_lt_or_eq.1 hj with h3 | rfl
  · exact h.h j h3
  · exact ⟨h1, ⟨fun k hk => h2.h k (by omega)⟩⟩⟩
theorem free_step {xs : List Row} {i j : Nat} (h : Free xs i j) (h1 : (rc (row xs j) 0).int = (rc (row xs i) 0).int → ¬ (rc (row xs j) 1).int = 2) : Free xs i (j + 1) := ⟨by
  intro k hk
  rcases Nat.lt_succ_iff_lt_or_eq.1 hk with h3 | rfl
  · exact h.h k h3
  · exact fun hh => h1 hh.1 hh.2⟩

noncomputable def cValid : Ct := ⟨[], fun ds K => match ds with
  | [.view ks xs] => ks = K3 ∧ (xs.length : Int) < big ∧ K (.bool (decide (VA xs))) []
  | _ => False⟩

set_option maxRecDepth 100000 in
set_option maxHeartbeats 4000000 in
theorem p_sValidActs : Proved 36 cValid := by
  refine proved_of [(44, cInRange)] ⟨p_inRange, trivial⟩ [.tmp 2] Try.func36 rfl rfl rfl rfl (by kernel_rfl) ?_
  intro ds K hrel
  simp only [cValid] at hrel
  split at hrel
  case h_2 => exact hrel.elim
  rename_i ks xs
  obtain ⟨rfl, h1, hrel⟩ := hrel
  refine ⟨rfl, Nat.le_of_ble_eq_true rfl, fun k σ => match k with
    | 2 => some { α := Lv 2 Nat, R := fun i => i.v ≤ xs.length ∧ Good xs i.v, μ := fun i => xs.length - i.v,
                  st := fun i => ⟨[(0, .view K3 xs), (3, .int .i64 i.v)], []⟩ }
    | 8 => match lookT σ.tm 3 with
      | .int _ i => some { α := Lv 8 Nat, R := fun j => ((j.v : Int) ≤ i ∧ 0 ≤ i ∧ i < xs.length) ∧ (OkRow (row xs i.toNat) ∧ Good xs i.toNat) ∧ Free xs i.toNat j.v, μ := fun j => i.toNat - j.v,
                           st := fun j => ⟨[(0, .view K3 xs), (3, .int .i64 i), (4, .box 0 0), (5, .int .i64 j.v)], [some (.box [.int .i64 (rc (row xs i.toNat) 0).int, .int .i64 (rc (row xs i.toNat) 1).int, .int .i64 (rc (row xs i.toNat) 2).int])]⟩ }
      | _ => none
    | _ => none, ?_⟩
  repeat' (first | refine And.intro ?_ ?_ | (intro h; first | (exact absurd h (by decide)) | (guard_hyp h : true = true; clear h) | (guard_hyp h : false = false; clear h) | skip) | refine Exists.intro (⟨(by assumption : Lv 8 Nat).v + 1⟩ : Lv 8 Nat) ?_ | refine Exists.intro (⟨(by assumption : Lv 2 Nat).v + 1⟩ : Lv 2 Nat) ?_ | refine Exists.intro (⟨0⟩ : Lv 2 Nat) ?_ | refine Exists.intro (⟨0⟩ : Lv 8 Nat) ?_ | refine Exists.intro _ (Exists.intro _ (And.intro hrel ?_)) | exact rfl | exact True.intro | exact Or.inl rfl | exact Or.inr (And.intro rfl rfl) | exact Nat.le_of_ble_eq_true rfl | (apply Exists.intro; refine And.intro ?_ ?_))
  all_goals (try ((try (change _ = _)); (try dsimp only at *); (try simp only [decide_eq_true_eq, decide_eq_false_iff_not, Bool.not_eq_true', Bool.not_eq_false', Bool.and_eq_true, Bool.and_eq_false_iff, beq_iff_eq, bne_iff_ne, beq_eq_false_iff_ne, bne_eq_false_iff_eq, ne_eq, Decidable.not_not, Int.toNat_natCast, Nat.zero_add, Nat.reduceAdd, Nat.reduceMul, Nat.reduceDiv, Nat.mul_one, lenK_one, big, fill_len] at *); (repeat (rename _ ∧ _ => hh; obtain ⟨_, _⟩ := hh)); first | omega | (refine fits_i64 ?_; omega) | (split <;> omega) | exact va_row (i := Lv.v (by assumption : Lv 2 Nat)) (by omega) (by unfold okRow; omega) | exact va_free (i := Lv.v (by assumption : Lv 2 Nat)) (j := Lv.v (by assumption : Lv 8 Nat)) (by omega) (by omega) (by assumption) (by assumption) | exact good_zero _ | exact free_zero _ _ | exact ⟨by unfold okRow; omega⟩ | exact good_step (by assumption) (by assumption) (by assumption) (by assumption) | exact free_step (by assumption) (by omega) | assumption | exact va_all (by assumption) (by assumption) (by assumption)))
end Go.Proofs.Ytamcolbbaaebiaa.V
