/-
  Acts: conflicts and commits; strict and locked histories.
-/
import Derived.Test.YtmdlffhkhhionaaHa
set_option linter.unusedSimpArgs false
set_option linter.unusedVariables false
namespace Go.Proofs.Ytmdlffhkhhionaa.V
open Go Go.RowKit
open Classical

def confl (ao ak at' bo bk bt : Int) : Prop := ao ≠ bo ∧ at' = bt ∧ ak ≠ 2 ∧ bk ≠ 2 ∧ (ak = 1 ∨ bk = 1)
noncomputable def cConflict : Ct := ⟨[], fun ds K => match ds with
  | [.agg [.int .i64 a, .int .i64 b, .int .i64 c], .agg [.int .i64 d, .int .i64 e, .int .i64 f]] => K (.bool (decide (confl a b c d e f))) []
  | _ => False⟩
theorem confl_true {a b c d e f : Int} (h : confl a b c d e f) : true = decide (confl a b c d e f) := by symm; rwa [decide_eq_true_eq]
theorem confl_false {a b c d e f : Int} (h : ¬ confl a b c d e f) : false = decide (confl a b c d e f) := by symm; rwa [decide_eq_false_iff_not]
theorem confl_or {a b c d e f : Int} {k : Int} (h : confl a b c d e f ↔ k = 1) : (k == 1) = decide (confl a b c d e f) := by
  by_cases hk : k = 1
  · subst hk; exact confl_true (h.2 rfl)
  · rw [show (k == 1) = false by simpa using hk]; exact confl_false (fun hc => hk (h.1 hc))

set_option maxRecDepth 100000 in
set_option maxHeartbeats 4000000 in
theorem p_sConflict : Proved 39 cConflict := by
  refine proved_of [] trivial [.tmp 4] Try.func39 rfl rfl rfl rfl (by kernel_rfl) ?_
  intro ds K hrel
  simp only [cConflict] at hrel
  split at hrel
  case h_2 => exact hrel.elim
  refine ⟨rfl, Nat.le_of_ble_eq_true rfl, fun _ _ => none, ?_⟩
  repeat' (first | with_reducible refine And.intro ?_ ?_ | (with_reducible intro h; first | (exact absurd h (by decide)) | (guard_hyp h : true = true; clear h) | (guard_hyp h : false = false; clear h) | skip) | with_reducible exact True.intro | ((with_reducible refine (id ?_ : @Eq Bool (nodupN _) true)); kernel_rfl) | ((with_reducible refine (id ?_ : @Eq Bool (apartN _ _) true)); kernel_rfl) | ((with_reducible refine (id ?_ : @Eq Bool (formL _ _) true)); kernel_rfl) | ((with_reducible refine (id ?_ : @Eq _ _ _)); exact rfl) | ((conv => whnf); first | done | with_reducible refine And.intro ?_ ?_ | (with_reducible intro h; first | (exact absurd h (by decide)) | (guard_hyp h : true = true; clear h) | (guard_hyp h : false = false; clear h) | skip) | with_reducible exact True.intro | ((with_reducible refine (id ?_ : @Eq _ _ _)); exact rfl) | refine Exists.intro _ (Exists.intro _ (And.intro hrel ?_)) | exact Or.inl rfl | exact Or.inr (And.intro rfl rfl) | (apply Exists.intro; refine And.intro ?_ ?_)) | exact Nat.le_of_ble_eq_true rfl)
  all_goals (try ((try (change _ = _)) <;> (try dsimp only at *) <;> (try simp only [decide_eq_true_eq, decide_eq_false_iff_not, Bool.not_eq_true', Bool.not_eq_false', Bool.and_eq_true, Bool.and_eq_false_iff, beq_iff_eq, bne_iff_ne, beq_eq_false_iff_ne, bne_eq_false_iff_eq, ne_eq, Decidable.not_not, bne_self_eq_false, Bool.false_eq_true, Bool.true_eq_false, Bool.not_true, Bool.not_false, not_true_eq_false, not_false_eq_true, Int.toNat_natCast, Nat.zero_add, Nat.reduceAdd, Nat.reduceMul, Nat.reduceDiv, Nat.mul_one, lenK_one, big, fill_len, marking_len, marks_len, nrms_len, List.length_set, List.length_append, List.length_map, List.length_replicate, List.length_cons, List.length_nil, Int.natCast_add, Int.natCast_one, Int.natCast_zero] at *) <;> (repeat (with_reducible rename _ ∧ _ => hh; obtain ⟨_, _⟩ := hh)) <;> (first | omega | (refine fits_i64 ?_; omega) | (split <;> omega) | exact confl_true (by unfold confl; omega) | exact confl_false (by unfold confl; omega) | exact confl_or (by unfold confl; omega))))

set_option maxRecDepth 100000 in
set_option maxHeartbeats 4000000 in
theorem p_iConflict : Proved 41 cConflict := by
  refine proved_of [] trivial [.tmp 4] Try.func41 rfl rfl rfl rfl (by kernel_rfl) ?_
  intro ds K hrel
  simp only [cConflict] at hrel
  split at hrel
  case h_2 => exact hrel.elim
  refine ⟨rfl, Nat.le_of_ble_eq_true rfl, fun _ _ => none, ?_⟩
  repeat' (first | with_reducible refine And.intro ?_ ?_ | (with_reducible intro h; first | (exact absurd h (by decide)) | (guard_hyp h : true = true; clear h) | (guard_hyp h : false = false; clear h) | skip) | with_reducible exact True.intro | ((with_reducible refine (id ?_ : @Eq Bool (nodupN _) true)); kernel_rfl) | ((with_reducible refine (id ?_ : @Eq Bool (apartN _ _) true)); kernel_rfl) | ((with_reducible refine (id ?_ : @Eq Bool (formL _ _) true)); kernel_rfl) | ((with_reducible refine (id ?_ : @Eq _ _ _)); exact rfl) | ((conv => whnf); first | done | with_reducible refine And.intro ?_ ?_ | (with_reducible intro h; first | (exact absurd h (by decide)) | (guard_hyp h : true = true; clear h) | (guard_hyp h : false = false; clear h) | skip) | with_reducible exact True.intro | ((with_reducible refine (id ?_ : @Eq _ _ _)); exact rfl) | refine Exists.intro _ (Exists.intro _ (And.intro hrel ?_)) | exact Or.inl rfl | exact Or.inr (And.intro rfl rfl) | (apply Exists.intro; refine And.intro ?_ ?_)) | exact Nat.le_of_ble_eq_true rfl)
  all_goals (try ((try (change _ = _)) <;> (try dsimp only at *) <;> (try simp only [decide_eq_true_eq, decide_eq_false_iff_not, Bool.not_eq_true', Bool.not_eq_false', Bool.and_eq_true, Bool.and_eq_false_iff, beq_iff_eq, bne_iff_ne, beq_eq_false_iff_ne, bne_eq_false_iff_eq, ne_eq, Decidable.not_not, bne_self_eq_false, Bool.false_eq_true, Bool.true_eq_false, Bool.not_true, Bool.not_false, not_true_eq_false, not_false_eq_true, Int.toNat_natCast, Nat.zero_add, Nat.reduceAdd, Nat.reduceMul, Nat.reduceDiv, Nat.mul_one, lenK_one, big, fill_len, marking_len, marks_len, nrms_len, List.length_set, List.length_append, List.length_map, List.length_replicate, List.length_cons, List.length_nil, Int.natCast_add, Int.natCast_one, Int.natCast_zero] at *) <;> (repeat (with_reducible rename _ ∧ _ => hh; obtain ⟨_, _⟩ := hh)) <;> (first | omega | (refine fits_i64 ?_; omega) | (split <;> omega) | exact confl_true (by unfold confl; omega) | exact confl_false (by unfold confl; omega) | exact confl_or (by unfold confl; omega))))

/-- A commit of a transaction among the acts from one to another. -/
def Comm (xs : List Row) (who : Int) (lo hi : Nat) : Prop := ∃ j, lo ≤ j ∧ j < hi ∧ (rc (row xs j) 0).int = who ∧ (rc (row xs j) 1).int = 2
structure NoComm (xs : List Row) (who : Int) (n : Nat) : Prop where
  h : ∀ j, j < n → ¬ ((rc (row xs j) 0).int = who ∧ (rc (row xs j) 1).int = 2)
theorem nocomm_zero (xs : List Row) (who : Int) : NoComm xs who 0 := ⟨fun j h => by omega⟩
theorem nocomm_step {xs : List Row} {who : Int} {n : Nat} (h : NoComm xs who n) (h1 : (rc (row xs n) 0).int = who → ¬ (rc (row xs n) 1).int = 2) : NoComm xs who (n + 1) := ⟨by
  intro k hk
  rcases Nat.lt_succ_iff_lt_or_eq.1 hk with h3 | rfl
  · exact h.h k h3
  · exact fun hh => h1 hh.1 hh.2⟩
theorem comm_yes {xs : List Row} {who : Int} {n : Nat} (hn : n < xs.length) (h1 : (rc (row xs n) 0).int = who) (h2 : (rc (row xs n) 1).int = 2) : true = decide (Comm xs who 0 xs.length) := by
  symm; rw [decide_eq_true_eq]; exact ⟨n, Nat.zero_le _, hn, h1, h2⟩
theorem comm_no {xs : List Row} {who : Int} {n : Nat} (h : NoComm xs who n) (hn2 : ¬ (n : Int) < xs.length) : false = decide (Comm xs who 0 xs.length) := by
  symm; rw [decide_eq_false_iff_not]; exact fun ⟨j, _, h1, h2⟩ => h.h j (by omega) h2
noncomputable def cCommitted : Ct := ⟨[], fun ds K => match ds with
  | [.view ks xs, .int .i64 who] => ks = KAct ∧ (xs.length : Int) < big ∧ K (.bool (decide (Comm xs who 0 xs.length))) []
  | _ => False⟩
set_option maxRecDepth 100000 in
set_option maxHeartbeats 4000000 in
theorem p_committed : Proved 40 cCommitted := by
  refine proved_of [] trivial [.tmp 4] Try.func40 rfl rfl rfl rfl (by kernel_rfl) ?_
  intro ds K hrel
  simp only [cCommitted] at hrel
  split at hrel
  case h_2 => exact hrel.elim
  rename_i ks xs who
  obtain ⟨rfl, h1, hrel⟩ := hrel
  refine ⟨rfl, Nat.le_of_ble_eq_true rfl, fun k σ => match k with
    | 2 => some { α := Lv 2 Nat, R := fun i => i.v ≤ xs.length ∧ NoComm xs who i.v, μ := fun i => xs.length - i.v,
                  st := fun i => ⟨[(0, .view KAct xs), (1, .int .i64 who), (5, .int .i64 i.v)], []⟩ }
    | _ => none, ?_⟩
  repeat' (first | with_reducible refine And.intro ?_ ?_ | (with_reducible intro h; first | (exact absurd h (by decide)) | (guard_hyp h : true = true; clear h) | (guard_hyp h : false = false; clear h) | skip) | with_reducible exact True.intro | ((with_reducible refine (id ?_ : @Eq Bool (nodupN _) true)); kernel_rfl) | ((with_reducible refine (id ?_ : @Eq Bool (apartN _ _) true)); kernel_rfl) | ((with_reducible refine (id ?_ : @Eq Bool (formL _ _) true)); kernel_rfl) | ((with_reducible refine (id ?_ : @Eq _ _ _)); exact rfl) | ((conv => whnf); first | done | with_reducible refine And.intro ?_ ?_ | (with_reducible intro h; first | (exact absurd h (by decide)) | (guard_hyp h : true = true; clear h) | (guard_hyp h : false = false; clear h) | skip) | with_reducible exact True.intro | ((with_reducible refine (id ?_ : @Eq _ _ _)); exact rfl) | refine Exists.intro (⟨(by assumption : Lv 2 Nat).v + 1⟩ : Lv 2 Nat) ?_ | refine Exists.intro (⟨0⟩ : Lv 2 Nat) ?_ | refine Exists.intro _ (Exists.intro _ (And.intro hrel ?_)) | exact Or.inl rfl | exact Or.inr (And.intro rfl rfl) | (apply Exists.intro; refine And.intro ?_ ?_)) | exact Nat.le_of_ble_eq_true rfl)
  all_goals (try ((try (change _ = _)) <;> (try dsimp only at *) <;> (try simp only [decide_eq_true_eq, decide_eq_false_iff_not, Bool.not_eq_true', Bool.not_eq_false', Bool.and_eq_true, Bool.and_eq_false_iff, beq_iff_eq, bne_iff_ne, beq_eq_false_iff_ne, bne_eq_false_iff_eq, ne_eq, Decidable.not_not, bne_self_eq_false, Bool.false_eq_true, Bool.true_eq_false, Bool.not_true, Bool.not_false, not_true_eq_false, not_false_eq_true, Int.toNat_natCast, Nat.zero_add, Nat.reduceAdd, Nat.reduceMul, Nat.reduceDiv, Nat.mul_one, lenK_one, big, fill_len, marking_len, marks_len, nrms_len, List.length_set, List.length_append, List.length_map, List.length_replicate, List.length_cons, List.length_nil, Int.natCast_add, Int.natCast_one, Int.natCast_zero] at *) <;> (repeat (with_reducible rename _ ∧ _ => hh; obtain ⟨_, _⟩ := hh)) <;> (first | omega | (refine fits_i64 ?_; omega) | (split <;> omega) | exact nocomm_zero _ _ | exact nocomm_step (by assumption) (by omega) | exact comm_yes (n := Lv.v (by assumption : Lv 2 Nat)) (by omega) (by omega) (by omega) | exact comm_no (by assumption) (by assumption))))

theorem comm_part {xs : List Row} {who : Int} {l r : Nat} (h : l ≤ r) (hr : r ≤ xs.length) : Comm ((xs.take r).drop l) who 0 ((xs.take r).drop l).length ↔ Comm xs who l r := by
  have hl : ((xs.take r).drop l).length = r - l := by simp; omega
  rw [hl]
  constructor
  · rintro ⟨j, _, h1, h2, h3⟩
    rw [row_part (by omega) hr] at h2 h3
    exact ⟨l + j, by omega, by omega, h2, h3⟩
  · rintro ⟨j, h0, h1, h2, h3⟩
    refine ⟨j - l, by omega, by omega, ?_, ?_⟩
    · rw [row_part (by omega) hr, show l + (j - l) = j by omega]; exact h2
    · rw [row_part (by omega) hr, show l + (j - l) = j by omega]; exact h3
noncomputable def cBetween : Ct := ⟨[], fun ds K => match ds with
  | [.view ks xs, .int .i64 who, .int .i64 lo, .int .i64 hi] => ks = KAct ∧ (xs.length : Int) < big ∧ (0 ≤ lo ∧ lo ≤ hi ∧ hi ≤ xs.length) ∧ K (.bool (decide (Comm xs who lo.toNat hi.toNat))) []
  | _ => False⟩
theorem comm_yes2 {xs : List Row} {who : Int} {l r n : Nat} (h : l ≤ r) (hr : r ≤ xs.length) (hn : n < ((xs.take r).drop l).length) (h1 : (rc (row ((xs.take r).drop l) n) 0).int = who) (h2 : (rc (row ((xs.take r).drop l) n) 1).int = 2) : true = decide (Comm xs who l r) := by
  rw [comm_yes hn h1 h2, decide_eq_decide]; exact comm_part h hr
theorem comm_no2 {xs : List Row} {who : Int} {l r n : Nat} (h : l ≤ r) (hr : r ≤ xs.length) (h1 : NoComm ((xs.take r).drop l) who n) (hn2 : ¬ (n : Int) < ((xs.take r).drop l).length) : false = decide (Comm xs who l r) := by
  rw [comm_no h1 hn2, decide_eq_decide]; exact comm_part h hr
set_option maxRecDepth 100000 in
set_option maxHeartbeats 4000000 in
theorem p_between : Proved 42 cBetween := by
  refine proved_of [] trivial [.tmp 8] Try.func42 rfl rfl rfl rfl (by kernel_rfl) ?_
  intro ds K hrel
  simp only [cBetween] at hrel
  split at hrel
  case h_2 => exact hrel.elim
  rename_i ks xs who lo hi
  obtain ⟨rfl, h1, ⟨h2, h3, h4⟩, hrel⟩ := hrel
  have hlen : ((xs.take hi.toNat).drop lo.toNat).length = hi.toNat - lo.toNat := by simp; omega
  refine ⟨rfl, Nat.le_of_ble_eq_true rfl, fun k σ => match k with
    | 2 => some { α := Lv 2 Nat, R := fun i => i.v ≤ ((xs.take hi.toNat).drop lo.toNat).length ∧ NoComm ((xs.take hi.toNat).drop lo.toNat) who i.v, μ := fun i => ((xs.take hi.toNat).drop lo.toNat).length - i.v,
                  st := fun i => ⟨[(14, .view KAct ((xs.take hi.toNat).drop lo.toNat)), (15, .int .i64 ((xs.take hi.toNat).drop lo.toNat).length), (1, .int .i64 who), (16, .int .i64 i.v)], []⟩ }
    | _ => none, ?_⟩
  repeat' (first | with_reducible refine And.intro ?_ ?_ | (with_reducible intro h; first | (exact absurd h (by decide)) | (guard_hyp h : true = true; clear h) | (guard_hyp h : false = false; clear h) | skip) | with_reducible exact True.intro | ((with_reducible refine (id ?_ : @Eq Bool (nodupN _) true)); kernel_rfl) | ((with_reducible refine (id ?_ : @Eq Bool (apartN _ _) true)); kernel_rfl) | ((with_reducible refine (id ?_ : @Eq Bool (formL _ _) true)); kernel_rfl) | ((with_reducible refine (id ?_ : @Eq _ _ _)); exact rfl) | ((conv => whnf); first | done | with_reducible refine And.intro ?_ ?_ | (with_reducible intro h; first | (exact absurd h (by decide)) | (guard_hyp h : true = true; clear h) | (guard_hyp h : false = false; clear h) | skip) | with_reducible exact True.intro | ((with_reducible refine (id ?_ : @Eq _ _ _)); exact rfl) | refine Exists.intro (⟨(by assumption : Lv 2 Nat).v + 1⟩ : Lv 2 Nat) ?_ | refine Exists.intro (⟨0⟩ : Lv 2 Nat) ?_ | refine Exists.intro _ (Exists.intro _ (And.intro hrel ?_)) | exact Or.inl rfl | exact Or.inr (And.intro rfl rfl) | (apply Exists.intro; refine And.intro ?_ ?_)) | exact Nat.le_of_ble_eq_true rfl)
  all_goals (try ((try (change _ = _)) <;> (try dsimp only at *) <;> (try simp only [decide_eq_true_eq, decide_eq_false_iff_not, Bool.not_eq_true', Bool.not_eq_false', Bool.and_eq_true, Bool.and_eq_false_iff, beq_iff_eq, bne_iff_ne, beq_eq_false_iff_ne, bne_eq_false_iff_eq, ne_eq, Decidable.not_not, bne_self_eq_false, Bool.false_eq_true, Bool.true_eq_false, Bool.not_true, Bool.not_false, not_true_eq_false, not_false_eq_true, Int.toNat_natCast, Nat.zero_add, Nat.reduceAdd, Nat.reduceMul, Nat.reduceDiv, Nat.mul_one, lenK_one, big, fill_len, marking_len, marks_len, nrms_len, List.length_set, List.length_append, List.length_map, List.length_replicate, List.length_cons, List.length_nil, Int.natCast_add, Int.natCast_one, Int.natCast_zero] at *) <;> (repeat (with_reducible rename _ ∧ _ => hh; obtain ⟨_, _⟩ := hh)) <;> (first | omega | (refine fits_i64 ?_; omega) | (split <;> omega) | exact nocomm_zero _ _ | exact nocomm_step (by assumption) (by omega) | exact comm_yes2 (n := Lv.v (by assumption : Lv 2 Nat)) (by omega) (by omega) (by omega) (by omega) (by omega) | exact comm_no2 (by omega) (by omega) (by assumption) (by assumption))))

/-- Act k stands against act i, and its transaction has not ended before. -/
def bad (w : Bool) (xs : List Row) (k i : Nat) : Prop := (w = true → (rc (row xs k) 1).int = 1) ∧
  confl (rc (row xs k) 0).int (rc (row xs k) 1).int (rc (row xs k) 2).int (rc (row xs i) 0).int (rc (row xs i) 1).int (rc (row xs i) 2).int ∧ ¬ Comm xs (rc (row xs k) 0).int 0 i
structure StrK (w : Bool) (xs : List Row) (i n : Nat) : Prop where
  h : ∀ k, k < n → ¬ bad w xs k i
structure StrN (w : Bool) (xs : List Row) (n : Nat) : Prop where
  h : ∀ i, i < n → StrK w xs i i
/-- A valid history in which nobody uses what is not committed. -/
def Str (w : Bool) (xs : List Row) : Prop := VA xs ∧ StrN w xs xs.length
theorem strk_zero (w : Bool) (xs : List Row) (i : Nat) : StrK w xs i 0 := ⟨fun k h => by omega⟩
theorem strn_zero (w : Bool) (xs : List Row) : StrN w xs 0 := ⟨fun i h => by omega⟩
theorem strk_step {w : Bool} {xs : List Row} {i n : Nat} (h : StrK w xs i n) (h1 : ¬ bad w xs n i) : StrK w xs i (n + 1) := ⟨by
  intro k hk
  rcases Nat.lt_succ_iff_lt_or_eq.1 hk with h3 | rfl
  · exact h.h k h3
  · exact h1⟩
theorem strn_step {w : Bool} {xs : List Row} {i n : Nat} (h : StrN w xs i) (h1 : StrK w xs i n) (hn : ¬ (n : Int) < i) : StrN w xs (i + 1) := ⟨by
  intro k hk
  rcases Nat.lt_succ_iff_lt_or_eq.1 hk with h3 | rfl
  · exact h.h k h3
  · exact ⟨fun j hj => h1.h j (by omega)⟩⟩
theorem str_bad {w : Bool} {xs : List Row} {k i : Nat} (hi : i < xs.length) (hk : k < i) (h : bad w xs k i) : false = decide (Str w xs) := by
  symm; rw [decide_eq_false_iff_not]; exact fun hs => (hs.2.h i hi).h k hk h
theorem str_invalid {w : Bool} {xs : List Row} (h : ¬ VA xs) : false = decide (Str w xs) := by
  symm; rw [decide_eq_false_iff_not]; exact fun hs => h hs.1
theorem str_all {w : Bool} {xs : List Row} {n : Nat} (hv : VA xs) (h : StrN w xs n) (hn : n ≤ xs.length) (hn2 : ¬ (n : Int) < xs.length) : true = decide (Str w xs) := by
  have : n = xs.length := by omega
  subst this
  symm; rw [decide_eq_true_eq]; exact ⟨hv, h⟩
/-- In a valid history a transaction's commit comes behind all of its acts. -/
theorem comm_behind {xs : List Row} {k i : Nat} (hv : VA xs) (hk : k < i) (hi : i < xs.length) : Comm xs (rc (row xs k) 0).int 0 i ↔ Comm xs (rc (row xs k) 0).int k i := by
  constructor
  · rintro ⟨j, _, h1, h2, h3⟩
    refine ⟨j, ?_, h1, h2, h3⟩
    rcases Nat.lt_or_ge j k with h4 | h4
    · exact absurd ⟨h2, h3⟩ ((hv.1.h k (by omega)).2.h j h4)
    · exact h4
  · rintro ⟨j, _, h1, h2, h3⟩
    exact ⟨j, Nat.zero_le _, h1, h2, h3⟩
theorem cut_comm {xs : List Row} {who : Int} {i : Nat} (hi : i ≤ xs.length) : Comm ((xs.take i).drop (Int.toNat 0)) who 0 ((xs.take i).drop (Int.toNat 0)).length ↔ Comm xs who 0 i := comm_part (Nat.zero_le _) hi
theorem cut_len {xs : List Row} {l i : Nat} : ((xs.take i).drop l).length ≤ xs.length := by simp only [List.length_drop, List.length_take]; omega
noncomputable def cStr (w : Bool) : Ct := ⟨[], fun ds K => match ds with
  | [.view ks xs] => ks = KAct ∧ (xs.length : Int) < big ∧ K (.bool (decide (Str w xs))) []
  | _ => False⟩

end Go.Proofs.Ytmdlffhkhhionaa.V
