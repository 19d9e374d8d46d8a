/-
  Serial orders: what the reference's functions return.
-/
import Derived.Test.YtmdlffhkhhionaaSp
set_option linter.unusedSimpArgs false
set_option linter.unusedVariables false
namespace Go.Proofs.Ytmdlffhkhhionaa.V
open Go Go.RowKit
open Classical

def cCopy (e : Nat) (ks : List Kd) : Ct := ⟨[], fun ds K => match ds with
  | [.view js xs] => js = ks ∧ xs.length ≤ 1048576 ∧ K (.fr e ks xs) []
  | _ => False⟩
set_option maxRecDepth 100000 in
set_option maxHeartbeats 4000000 in
theorem p_copyInts : Proved 54 (cCopy 3 KInt) := by
  refine proved_of [] trivial [.tmp 2] Try.func54 rfl rfl rfl rfl (by kernel_rfl) ?_
  intro ds K hrel
  simp only [cCopy] at hrel
  split at hrel
  case h_2 => exact hrel.elim
  obtain ⟨rfl, h1, hrel⟩ := hrel
  refine ⟨rfl, Nat.le_of_ble_eq_true rfl, fun _ _ => none, ?_⟩
  repeat' (first | with_reducible refine And.intro ?_ ?_ | (with_reducible intro h; first | (exact absurd h (by decide)) | (guard_hyp h : true = true; clear h) | (guard_hyp h : false = false; clear h) | skip) | with_reducible exact True.intro | ((with_reducible refine (id ?_ : @Eq Bool (nodupN _) true)); kernel_rfl) | ((with_reducible refine (id ?_ : @Eq Bool (apartN _ _) true)); kernel_rfl) | ((with_reducible refine (id ?_ : @Eq Bool (formL _ _) true)); kernel_rfl) | ((with_reducible refine (id ?_ : @Eq _ _ _)); exact rfl) | ((conv => whnf); first | done | with_reducible refine And.intro ?_ ?_ | (with_reducible intro h; first | (exact absurd h (by decide)) | (guard_hyp h : true = true; clear h) | (guard_hyp h : false = false; clear h) | skip) | with_reducible exact True.intro | ((with_reducible refine (id ?_ : @Eq _ _ _)); exact rfl) | refine Exists.intro _ (Exists.intro _ (And.intro hrel ?_)) | exact Or.inl rfl | exact Or.inr (And.intro rfl rfl) | (apply Exists.intro; refine And.intro ?_ ?_)) | exact Nat.le_of_ble_eq_true rfl)
  all_goals (try ((try (change _ = _)) <;> (try dsimp only at *) <;> (try simp only [decide_eq_true_eq, decide_eq_false_iff_not, Bool.not_eq_true', Bool.not_eq_false', Bool.and_eq_true, Bool.and_eq_false_iff, beq_iff_eq, bne_iff_ne, beq_eq_false_iff_ne, bne_eq_false_iff_eq, ne_eq, Decidable.not_not, bne_self_eq_false, Bool.false_eq_true, Bool.true_eq_false, Bool.not_true, Bool.not_false, not_true_eq_false, not_false_eq_true, Int.toNat_natCast, Nat.zero_add, Nat.reduceAdd, Nat.reduceMul, Nat.reduceDiv, Nat.mul_one, lenK_one, big, fill_len, marking_len, marks_len, nrms_len, List.length_set, List.length_append, List.length_map, List.length_replicate, List.length_cons, List.length_nil, Int.natCast_add, Int.natCast_one, Int.natCast_zero] at *) <;> (repeat (with_reducible rename _ ∧ _ => hh; obtain ⟨_, _⟩ := hh)) <;> (first | omega | (refine fits_i64 ?_; omega) | (split <;> omega))))
/-- Sorting, round by round. -/
structure SrtO (xs ys : List Row) (i : Int) : Prop where
  l : ys.length = xs.length
  n : nrms KInt ys = ys
  d : Dst ys
  m : ∀ v, Mem ys v ↔ Mem xs v
  s : ∀ a b : Nat, a < b → (b : Int) < i → b < ys.length → numT ys a < numT ys b
theorem srto_zero {xs : List Row} (hn : nrms KInt xs = xs) (hd : Dst xs) : SrtO xs xs 1 := ⟨rfl, hn, hd, fun _ => Iff.rfl, fun a b h1 h2 => by omega⟩
theorem srt_start {xs ys : List Row} {i : Int} (h : SrtO xs ys i) (h0 : 0 ≤ i) : Srt xs ys i.toNat i.toNat := srt_begin h.l h.n h.d h.m (fun a b h1 h2 h3 => h.s a b h1 (by omega) h3)
theorem srt_end0 {xs ys : List Row} {i k : Int} (h : Srt xs ys i.toNat k.toNat) (hk : ¬ 0 < k) (h0 : 0 ≤ i) (hi : i < ys.length) : SrtO xs ys (i + 1) := ⟨h.l, h.n, h.d, h.m, fun a b h1 h2 h3 => srt_stop h (.inl (by omega)) (by omega) a b h1 (by omega) h3⟩
theorem srt_end1 {xs ys : List Row} {i k : Int} (h : Srt xs ys i.toNat k.toNat) (hn : ¬ (rc (row ys k.toNat) 0).int < (rc (row ys (k - 1).toNat) 0).int) (hk : 0 < k) (h0 : 0 ≤ i) (hi : i < ys.length) (hki : k ≤ i) : SrtO xs ys (i + 1) := ⟨h.l, h.n, h.d, h.m, fun a b h1 h2 h3 => srt_stop h (.inr (by unfold numT; rw [show k.toNat - 1 = (k - 1).toNat by omega]; exact hn)) (by omega) a b h1 (by omega) h3⟩
theorem srt_swapI {xs ys : List Row} {i k : Int} (h : Srt xs ys i.toNat k.toNat) (hlt : (rc (row ys k.toNat) 0).int < (rc (row ys (k - 1).toNat) 0).int) (hk : 0 < k) (h0 : 0 ≤ i) (hi : i < ys.length) : Srt xs (setI (setI ys k (rc (row ys (k - 1).toNat) 0).int) (k - 1) (rc (row ys k.toNat) 0).int) i.toNat (k - 1).toNat := by
  have e : k.toNat = (k - 1).toNat + 1 := by omega
  rw [e] at h
  have := srt_swap h (by omega) (by unfold numT; rw [← e]; exact hlt)
  unfold numT at this
  rw [← e, show ((k.toNat : Nat) : Int) = k by omega, show (((k - 1).toNat : Nat) : Int) = k - 1 by omega] at this
  exact this
theorem srt_len {xs ys : List Row} {i k : Nat} (h : Srt xs ys i k) : ys.length = xs.length := h.l
theorem sort_fin {xs ys : List Row} {i : Int} (h : SrtO xs ys i) (hi : ¬ i < ys.length) : SortOf xs ys := ⟨h.l, ⟨fun a b h1 h2 => h.s a b h1 (by omega) h2⟩, h.m, h.n⟩
def cSorted : Ct := ⟨[], fun ds K => match ds with
  | [.view ks xs] => ks = KInt ∧ xs.length ≤ 1048576 ∧ (nrms KInt xs = xs) ∧ Dst xs ∧ ∀ ys : List Row, SortOf xs ys → K (.fr 3 KInt ys) []
  | _ => False⟩
set_option maxRecDepth 100000 in
set_option maxHeartbeats 8000000 in
theorem p_sorted : Proved 52 cSorted := by
  refine proved_of [(54, cCopy 3 KInt)] ⟨p_copyInts, trivial⟩ [.tmp 2] Try.func52 rfl rfl rfl rfl (by kernel_rfl) ?_
  intro ds K hrel
  simp only [cSorted] at hrel
  split at hrel
  case h_2 => exact hrel.elim
  rename_i ks xs
  obtain ⟨rfl, h1, hn, hd, hrel⟩ := hrel
  refine ⟨rfl, Nat.le_of_ble_eq_true rfl, fun k σ => match k with
    | 3 => some { α := Lv 3 (List Row × Int), R := fun ⟨(ys, i)⟩ => (1 ≤ i ∧ i ≤ xs.length + 1 ∧ (ys.length : Int) ≤ xs.length ∧ (xs.length : Int) ≤ ys.length) ∧ SrtO xs ys i, μ := fun ⟨(_, i)⟩ => (xs.length + 1 - i).toNat, st := fun ⟨(ys, i)⟩ => upH σ [(4, .int .i64 i), (3, .own 0)] 0 (.rows 3 KInt ys) }
    | 6 => match lookT σ.tm 4 with
      | .int _ i => some { α := Lv 6 (List Row × Int), R := fun ⟨(ys, k)⟩ => (0 ≤ k ∧ k ≤ i ∧ i < ys.length ∧ (ys.length : Int) ≤ xs.length ∧ (xs.length : Int) ≤ ys.length) ∧ Srt xs ys i.toNat k.toNat, μ := fun ⟨(_, k)⟩ => k.toNat, st := fun ⟨(ys, k)⟩ => upH σ [(5, .int .i64 k), (3, .own 0)] 0 (.rows 3 KInt ys) }
      | _ => none
    | _ => none, ?_⟩
  repeat' (first | with_reducible refine And.intro ?_ ?_ | (with_reducible intro h; first | (exact absurd h (by decide)) | (guard_hyp h : true = true; clear h) | (guard_hyp h : false = false; clear h) | (have hq := (h : Lv 3 _); clear hq; obtain ⟨_, _⟩ := h) | (have hq := (h : Lv 6 _); clear hq; obtain ⟨_, _⟩ := h) | skip) | with_reducible exact True.intro | ((with_reducible refine (id ?_ : @Eq Bool (nodupN _) true)); kernel_rfl) | ((with_reducible refine (id ?_ : @Eq Bool (apartN _ _) true)); kernel_rfl) | ((with_reducible refine (id ?_ : @Eq Bool (formL _ _) true)); kernel_rfl) | ((with_reducible refine (id ?_ : @Eq _ _ _)); exact rfl) | ((conv => whnf); first | done | with_reducible refine And.intro ?_ ?_ | (with_reducible intro h; first | (exact absurd h (by decide)) | (guard_hyp h : true = true; clear h) | (guard_hyp h : false = false; clear h) | (have hq := (h : Lv 3 _); clear hq; obtain ⟨_, _⟩ := h) | (have hq := (h : Lv 6 _); clear hq; obtain ⟨_, _⟩ := h) | skip) | with_reducible exact True.intro | ((with_reducible refine (id ?_ : @Eq _ _ _)); exact rfl) | (refine Exists.intro _ (Exists.intro _ (And.intro (hrel ?_ ?_) ?_))) | refine Exists.intro (⟨(?_, ?_)⟩ : Lv 3 _) ?_ | refine Exists.intro (⟨(?_, ?_)⟩ : Lv 6 _) ?_ | refine Exists.intro _ (Exists.intro _ (And.intro hrel ?_)) | exact Or.inl rfl | exact Or.inr (And.intro rfl rfl) | (apply Exists.intro; refine And.intro ?_ ?_)) | exact Nat.le_of_ble_eq_true rfl)
  all_goals (try ((try (change _ = _)) <;> (try dsimp only at *) <;> (try simp only [decide_eq_true_eq, decide_eq_false_iff_not, Bool.not_eq_true', Bool.not_eq_false', Bool.and_eq_true, Bool.and_eq_false_iff, beq_iff_eq, bne_iff_ne, beq_eq_false_iff_ne, bne_eq_false_iff_eq, ne_eq, Decidable.not_not, bne_self_eq_false, Bool.false_eq_true, Bool.true_eq_false, Bool.not_true, Bool.not_false, not_true_eq_false, not_false_eq_true, Int.toNat_natCast, Nat.zero_add, Nat.reduceAdd, Nat.reduceMul, Nat.reduceDiv, Nat.mul_one, lenK_one, big, fill_len, marking_len, marks_len, nrms_len, List.length_set, List.length_append, List.length_map, List.length_replicate, List.length_cons, List.length_nil, Int.natCast_add, Int.natCast_one, Int.natCast_zero] at *) <;> (repeat (with_reducible rename _ ∧ _ => hh; obtain ⟨_, _⟩ := hh)) <;> (first | omega | (refine fits_i64 ?_; omega) | (split <;> omega) | exact srto_zero hn hd | exact srt_start (by with_reducible assumption) (by omega) | exact srt_end0 (by with_reducible assumption) (by omega) (by omega) (by omega) | exact srt_end1 (by with_reducible assumption) (by with_reducible assumption) (by omega) (by omega) (by omega) (by omega) | exact srt_swapI (by with_reducible assumption) (by with_reducible assumption) (by omega) (by omega) (by omega) | exact sort_fin (by with_reducible assumption) (by omega))))
def KWait : List Kd := [.int .i64, .int .i64]
theorem lenK_KWait : lenK KWait = 2 := rfl
/-- A pair stands in a list. -/
def HasP (ps : List Row) (n : Nat) (a b : Int) : Prop := ∃ j, j < n ∧ (rc (row ps j) 0).int = a ∧ (rc (row ps j) 1).int = b
structure NoP (ps : List Row) (n : Int) (a b : Int) : Prop where
  h : ∀ j : Nat, (j : Int) < n → ¬ ((rc (row ps j) 0).int = a ∧ (rc (row ps j) 1).int = b)
theorem noP_zero (ps : List Row) (a b : Int) : NoP ps 0 a b := ⟨fun j h => by omega⟩
theorem eq2 {a b c d : Int} : eqRow [.int .i64, .int .i64] [Sc.i a, Sc.i b] [Sc.i c, Sc.i d] 0 = true ↔ (a = c ∧ b = d) := by simp [eqRow, rc]
theorem noP_step {ps : List Row} {a b i : Int} (h : NoP ps i a b) (h1 : eqRow [.int .i64, .int .i64] [Sc.i (rc (row ps i.toNat) 0).int, Sc.i (rc (row ps i.toNat) 1).int] [Sc.i a, Sc.i b] 0 = false) : NoP ps (i + 1) a b := ⟨fun j hj => by
  by_cases e : (j : Int) = i
  · intro q
    rw [← e] at h1
    have := eq2.2 q
    rw [toNat_nat] at h1
    rw [this] at h1; cases h1
  · exact h.h j (by omega)⟩
theorem has_yes {ps : List Row} {a b i : Int} (h1 : eqRow [.int .i64, .int .i64] [Sc.i (rc (row ps i.toNat) 0).int, Sc.i (rc (row ps i.toNat) 1).int] [Sc.i a, Sc.i b] 0 = true) (h0 : 0 ≤ i) (hi : i < ps.length) : true = decide (HasP ps ps.length a b) := by
  obtain ⟨q1, q2⟩ := eq2.1 h1
  exact true_eq ⟨i.toNat, by omega, q1, q2⟩
theorem has_no {ps : List Row} {a b i : Int} (h : NoP ps i a b) (hi : ¬ i < ps.length) : false = decide (HasP ps ps.length a b) := false_eq (fun ⟨j, h1, h2⟩ => h.h j (by omega) h2)
noncomputable def cHas : Ct := ⟨[], fun ds K => match ds with
  | [.view ks ps, .agg [.int .i64 a, .int .i64 b]] => ks = KWait ∧ (ps.length : Int) < big ∧ K (.bool (decide (HasP ps ps.length a b))) []
  | _ => False⟩
set_option maxRecDepth 100000 in
set_option maxHeartbeats 4000000 in
theorem p_has : Proved 53 cHas := by
  refine proved_of [] trivial [.tmp 4] Try.func53 rfl rfl rfl rfl (by kernel_rfl) ?_
  intro ds K hrel
  simp only [cHas] at hrel
  split at hrel
  case h_2 => exact hrel.elim
  rename_i ks ps a b
  obtain ⟨rfl, h1, hrel⟩ := hrel
  refine ⟨rfl, Nat.le_of_ble_eq_true rfl, fun k σ => match k with
    | 2 => some { α := Lv 2 Int, R := fun ⟨i⟩ => (0 ≤ i ∧ i ≤ ps.length) ∧ NoP ps i a b, μ := fun ⟨i⟩ => (ps.length - i).toNat, st := fun ⟨i⟩ => up σ [(5, .int .i64 i)] }
    | _ => none, ?_⟩
  repeat' (first | with_reducible refine And.intro ?_ ?_ | (with_reducible intro h; first | (exact absurd h (by decide)) | (guard_hyp h : true = true; clear h) | (guard_hyp h : false = false; clear h) | (have hq := (h : Lv 2 _); clear hq; obtain ⟨_⟩ := h) | skip) | with_reducible exact True.intro | ((with_reducible refine (id ?_ : @Eq Bool (nodupN _) true)); kernel_rfl) | ((with_reducible refine (id ?_ : @Eq Bool (apartN _ _) true)); kernel_rfl) | ((with_reducible refine (id ?_ : @Eq Bool (formL _ _) true)); kernel_rfl) | ((with_reducible refine (id ?_ : @Eq _ _ _)); exact rfl) | ((conv => whnf); first | done | with_reducible refine And.intro ?_ ?_ | (with_reducible intro h; first | (exact absurd h (by decide)) | (guard_hyp h : true = true; clear h) | (guard_hyp h : false = false; clear h) | (have hq := (h : Lv 2 _); clear hq; obtain ⟨_⟩ := h) | skip) | with_reducible exact True.intro | ((with_reducible refine (id ?_ : @Eq _ _ _)); exact rfl) | refine Exists.intro (⟨?_⟩ : Lv 2 _) ?_ | refine Exists.intro _ (Exists.intro _ (And.intro hrel ?_)) | exact Or.inl rfl | exact Or.inr (And.intro rfl rfl) | (apply Exists.intro; refine And.intro ?_ ?_)) | exact Nat.le_of_ble_eq_true rfl)
  all_goals (try ((try (change _ = _)) <;> (try dsimp only at *) <;> (try simp only [decide_eq_true_eq, decide_eq_false_iff_not, Bool.not_eq_true', Bool.not_eq_false', Bool.and_eq_true, Bool.and_eq_false_iff, beq_iff_eq, bne_iff_ne, beq_eq_false_iff_ne, bne_eq_false_iff_eq, ne_eq, Decidable.not_not, bne_self_eq_false, Bool.false_eq_true, Bool.true_eq_false, Bool.not_true, Bool.not_false, not_true_eq_false, not_false_eq_true, Int.toNat_natCast, Nat.zero_add, Nat.reduceAdd, Nat.reduceMul, Nat.reduceDiv, Nat.mul_one, lenK_one, big, fill_len, marking_len, marks_len, nrms_len, List.length_set, List.length_append, List.length_map, List.length_replicate, List.length_cons, List.length_nil, Int.natCast_add, Int.natCast_one, Int.natCast_zero] at *) <;> (repeat (with_reducible rename _ ∧ _ => hh; obtain ⟨_, _⟩ := hh)) <;> (first | omega | (refine fits_i64 ?_; omega) | (split <;> omega) | exact noP_zero _ _ _ | exact noP_step (by with_reducible assumption) (by with_reducible assumption) | exact has_yes (by with_reducible assumption) (by omega) (by omega) | exact has_no (by with_reducible assumption) (by omega))))
/-- The pairs that the first i acts, and of the next one the first k, make. -/
def BefM (xs : List Row) (i k : Nat) (u t : Int) : Prop := BefN xs i u t ∨ ∃ j, j < k ∧ confl (rc (row xs j) 0).int (rc (row xs j) 1).int (rc (row xs j) 2).int (rc (row xs i) 0).int (rc (row xs i) 1).int (rc (row xs i) 2).int ∧ (rc (row xs j) 0).int = u ∧ (rc (row xs i) 0).int = t
theorem befM_zero {xs : List Row} {i : Nat} {u t : Int} : BefM xs i 0 u t ↔ BefN xs i u t := ⟨fun h => h.elim id (fun ⟨j, h, _⟩ => by omega), .inl⟩
theorem befM_all {xs : List Row} {i : Nat} {u t : Int} : BefM xs i i u t ↔ BefN xs (i + 1) u t := by
  constructor
  · rintro (⟨k, j, h1, h2, h3⟩ | ⟨j, h1, h2⟩)
    · exact ⟨k, j, h1, by omega, h3⟩
    · exact ⟨j, i, h1, by omega, h2⟩
  · rintro ⟨k, j, h1, h2, h3⟩
    by_cases e : j = i
    · rw [e] at h1 h3; exact .inr ⟨k, h1, h3⟩
    · exact .inl ⟨k, j, h1, by omega, h3⟩
theorem befM_yes {xs : List Row} {i k : Nat} {u t : Int} (hc : confl (rc (row xs k) 0).int (rc (row xs k) 1).int (rc (row xs k) 2).int (rc (row xs i) 0).int (rc (row xs i) 1).int (rc (row xs i) 2).int) : BefM xs i (k + 1) u t ↔ (BefM xs i k u t ∨ ((rc (row xs k) 0).int = u ∧ (rc (row xs i) 0).int = t)) := by
  constructor
  · rintro (h | ⟨j, h1, h2, h3⟩)
    · exact .inl (.inl h)
    · by_cases e : j = k
      · rw [e] at h3; exact .inr h3
      · exact .inl (.inr ⟨j, by omega, h2, h3⟩)
  · rintro ((h | ⟨j, h1, h2⟩) | h)
    · exact .inl h
    · exact .inr ⟨j, by omega, h2⟩
    · exact .inr ⟨k, by omega, hc, h⟩
theorem befM_no {xs : List Row} {i k : Nat} {u t : Int} (hc : ¬ confl (rc (row xs k) 0).int (rc (row xs k) 1).int (rc (row xs k) 2).int (rc (row xs i) 0).int (rc (row xs i) 1).int (rc (row xs i) 2).int) : BefM xs i (k + 1) u t ↔ BefM xs i k u t := by
  constructor
  · rintro (h | ⟨j, h1, h2, h3⟩)
    · exact .inl h
    · by_cases e : j = k
      · rw [e] at h2; exact absurd h2 hc
      · exact .inr ⟨j, by omega, h2, h3⟩
  · rintro (h | ⟨j, h1, h2⟩)
    · exact .inl h
    · exact .inr ⟨j, by omega, h2⟩
/-- A list of just the pairs of a relation. -/
structure PrsOf (ps : List Row) (C : Int → Int → Prop) : Prop where
  h : ∀ u t, HasP ps ps.length u t ↔ C u t
theorem hasP_snoc {ps : List Row} {a b u t : Int} : HasP (ps ++ [[Sc.i a, Sc.i b]]) (ps ++ [[Sc.i a, Sc.i b]]).length u t ↔ (HasP ps ps.length u t ∨ (a = u ∧ b = t)) := by
  constructor
  · rintro ⟨j, h1, h2, h3⟩
    rw [List.length_append] at h1
    simp only [List.length_cons, List.length_nil] at h1
    rw [row_append] at h2 h3
    by_cases e : j < ps.length
    · rw [if_pos e] at h2 h3; exact .inl ⟨j, e, h2, h3⟩
    · rw [if_neg e, show j - ps.length = 0 by omega] at h2 h3; exact .inr ⟨h2, h3⟩
  · rintro (⟨j, h1, h2, h3⟩ | ⟨h1, h2⟩)
    · exact ⟨j, by rw [List.length_append]; omega, by rw [row_append, if_pos h1]; exact h2, by rw [row_append, if_pos h1]; exact h3⟩
    · exact ⟨ps.length, by rw [List.length_append]; simp, by rw [row_append, if_neg (by omega), Nat.sub_self]; exact h1, by rw [row_append, if_neg (by omega), Nat.sub_self]; exact h2⟩
theorem prs_zero (xs : List Row) : PrsOf [] (BefN xs (Int.toNat 0)) := ⟨fun u t => ⟨fun ⟨j, h, _⟩ => by simp at h, fun ⟨k, i, h1, h2, _⟩ => by simp at h2⟩⟩
theorem prs_in {xs ps : List Row} {i : Int} (h : PrsOf ps (BefN xs i.toNat)) : PrsOf ps (BefM xs i.toNat (Int.toNat 0)) := ⟨fun u t => by rw [h.h]; exact befM_zero.symm⟩
theorem prs_out {xs ps : List Row} {i k : Int} (h : PrsOf ps (BefM xs i.toNat k.toNat)) (hk : ¬ k < i) (h2 : k ≤ i) (h0 : 0 ≤ i) : PrsOf ps (BefN xs (i + 1).toNat) := ⟨fun u t => by
  rw [h.h, show k.toNat = i.toNat by omega, befM_all, show (i + 1).toNat = i.toNat + 1 by omega]⟩
theorem prs_no {xs ps : List Row} {i k : Int} (h : PrsOf ps (BefM xs i.toNat k.toNat)) (hc : ¬ confl (rc (row xs k.toNat) 0).int (rc (row xs k.toNat) 1).int (rc (row xs k.toNat) 2).int (rc (row xs i.toNat) 0).int (rc (row xs i.toNat) 1).int (rc (row xs i.toNat) 2).int) (h0 : 0 ≤ k) : PrsOf ps (BefM xs i.toNat (k + 1).toNat) := ⟨fun u t => by
  rw [h.h, show (k + 1).toNat = k.toNat + 1 by omega, befM_no hc]⟩
theorem prs_had {xs ps : List Row} {i k : Int} (h : PrsOf ps (BefM xs i.toNat k.toNat)) (hc : confl (rc (row xs k.toNat) 0).int (rc (row xs k.toNat) 1).int (rc (row xs k.toNat) 2).int (rc (row xs i.toNat) 0).int (rc (row xs i.toNat) 1).int (rc (row xs i.toNat) 2).int) (hh : HasP ps ps.length (rc (row xs k.toNat) 0).int (rc (row xs i.toNat) 0).int) (h0 : 0 ≤ k) : PrsOf ps (BefM xs i.toNat (k + 1).toNat) := ⟨fun u t => by
  rw [h.h, show (k + 1).toNat = k.toNat + 1 by omega, befM_yes hc]
  exact ⟨.inl, fun q => q.elim id (fun ⟨q1, q2⟩ => by rw [← q1, ← q2]; exact (h.h _ _).1 hh)⟩⟩
theorem prs_add {xs ps : List Row} {i k : Int} (h : PrsOf ps (BefM xs i.toNat k.toNat)) (hc : confl (rc (row xs k.toNat) 0).int (rc (row xs k.toNat) 1).int (rc (row xs k.toNat) 2).int (rc (row xs i.toNat) 0).int (rc (row xs i.toNat) 1).int (rc (row xs i.toNat) 2).int) (h0 : 0 ≤ k) : PrsOf (ps ++ [[Sc.i (rc (row xs k.toNat) 0).int, Sc.i (rc (row xs i.toNat) 0).int]]) (BefM xs i.toNat (k + 1).toNat) := ⟨fun u t => by
  rw [hasP_snoc, h.h, show (k + 1).toNat = k.toNat + 1 by omega, befM_yes hc]⟩
theorem prs_fin {xs ps : List Row} {i : Int} (h : PrsOf ps (BefN xs i.toNat)) (hi : ¬ i < xs.length) (h2 : i ≤ xs.length) : PrsOf ps (Bef xs) := by
  rw [show i.toNat = xs.length by omega] at h; exact h
noncomputable def cBefore : Ct := ⟨[], fun ds K => match ds with
  | [.view ks xs] => ks = KAct ∧ xs.length ≤ 16 ∧ ∀ ps : List Row, PrsOf ps (Bef xs) → ps.length ≤ 256 → K (.fr 66 KWait ps) []
  | _ => False⟩
/-- The orders of regions that draw. -/
def trBefore : Nat → Option (Bool × Tr)
  | 8 => some (false, .take 0 (.take 1 (.take 2 (.take 3 (.take 5 (.take 6 (.take 7 (.take 8 (.all (.cons 4 (.all (.cons 9 (.take 10 (.all (.cons 11 (.all (.cons 12 .done .nil)) .nil))) (.cons 11 (.all (.cons 9 (.take 10 (.all (.cons 12 .done .nil))) .nil)) .nil))) (.cons 9 (.all (.cons 4 (.take 10 (.all (.cons 11 (.all (.cons 12 .done .nil)) .nil))) (.cons 11 (.all (.cons 4 (.take 10 (.all (.cons 12 .done .nil))) .nil)) .nil))) (.cons 11 (.all (.cons 4 (.all (.cons 9 (.take 10 (.all (.cons 12 .done .nil))) .nil)) (.cons 9 (.all (.cons 4 (.take 10 (.all (.cons 12 .done .nil))) .nil)) .nil))) .nil))))))))))))
  | _ => none
set_option maxRecDepth 100000 in
set_option maxHeartbeats 16000000 in
theorem p_before : Proved 46 cBefore := by
  refine proved_tr trBefore [(39, cConflict), (53, cHas)] ⟨p_sConflict, p_has, trivial⟩ [.tmp 2] Try.func46 rfl rfl rfl rfl (by kernel_rfl) ?_
  intro ds K hrel
  simp only [cBefore] at hrel
  split at hrel
  case h_2 => exact hrel.elim
  rename_i ks xs
  obtain ⟨rfl, h1, hrel⟩ := hrel
  refine ⟨rfl, Nat.le_of_ble_eq_true rfl, fun k σ => match k with
    | 3 => some { α := Lv 3 (List Row × Int), R := fun ⟨(ps, i)⟩ => (0 ≤ i ∧ i ≤ xs.length ∧ (ps.length : Int) ≤ 16 * i) ∧ PrsOf ps (BefN xs i.toNat), μ := fun ⟨(_, i)⟩ => (xs.length - i).toNat, st := fun ⟨(ps, i)⟩ => upH σ [(4, .int .i64 i), (3, .own 0)] 0 (.rows 66 KWait ps) }
    | 6 => match lookT σ.tm 4 with
      | .int _ i => some { α := Lv 6 (List Row × Int), R := fun ⟨(ps, k)⟩ => (0 ≤ k ∧ k ≤ i ∧ i < xs.length ∧ (ps.length : Int) ≤ 16 * i + k) ∧ PrsOf ps (BefM xs i.toNat k.toNat), μ := fun ⟨(_, k)⟩ => (i - k).toNat, st := fun ⟨(ps, k)⟩ => upH σ [(5, .int .i64 k), (3, .own 0)] 0 (.rows 66 KWait ps) }
      | _ => none
    | _ => none, ?_⟩
  repeat' (first | with_reducible refine And.intro ?_ ?_ | (with_reducible intro h; first | (exact absurd h (by decide)) | (guard_hyp h : true = true; clear h) | (guard_hyp h : false = false; clear h) | (have hq := (h : Lv 3 _); clear hq; obtain ⟨_, _⟩ := h) | (have hq := (h : Lv 6 _); clear hq; obtain ⟨_, _⟩ := h) | skip) | with_reducible exact True.intro | ((with_reducible refine (id ?_ : @Eq Bool (nodupN _) true)); kernel_rfl) | ((with_reducible refine (id ?_ : @Eq Bool (apartN _ _) true)); kernel_rfl) | ((with_reducible refine (id ?_ : @Eq Bool (formL _ _) true)); kernel_rfl) | ((with_reducible refine (id ?_ : @Eq _ _ _)); exact rfl) | ((conv => whnf); first | done | with_reducible refine And.intro ?_ ?_ | (with_reducible intro h; first | (exact absurd h (by decide)) | (guard_hyp h : true = true; clear h) | (guard_hyp h : false = false; clear h) | (have hq := (h : Lv 3 _); clear hq; obtain ⟨_, _⟩ := h) | (have hq := (h : Lv 6 _); clear hq; obtain ⟨_, _⟩ := h) | skip) | with_reducible exact True.intro | ((with_reducible refine (id ?_ : @Eq _ _ _)); exact rfl) | (refine Exists.intro _ (Exists.intro _ (And.intro (hrel ?_ ?_ ?_) ?_))) | refine Exists.intro (⟨(?_, ?_)⟩ : Lv 3 _) ?_ | refine Exists.intro (⟨(?_, ?_)⟩ : Lv 6 _) ?_ | refine Exists.intro _ (Exists.intro _ (And.intro hrel ?_)) | exact Or.inl rfl | exact Or.inr (And.intro rfl rfl) | (apply Exists.intro; refine And.intro ?_ ?_)) | exact Nat.le_of_ble_eq_true rfl)
  all_goals (try ((try (change _ = _)) <;> (try dsimp only at *) <;> (try simp only [decide_eq_true_eq, decide_eq_false_iff_not, Bool.not_eq_true', Bool.not_eq_false', Bool.and_eq_true, Bool.and_eq_false_iff, beq_iff_eq, bne_iff_ne, beq_eq_false_iff_ne, bne_eq_false_iff_eq, ne_eq, Decidable.not_not, bne_self_eq_false, Bool.false_eq_true, Bool.true_eq_false, Bool.not_true, Bool.not_false, not_true_eq_false, not_false_eq_true, Int.toNat_natCast, Nat.zero_add, Nat.reduceAdd, Nat.reduceMul, Nat.reduceDiv, Nat.mul_one, lenK_one, big, fill_len, marking_len, marks_len, nrms_len, List.length_set, List.length_append, List.length_map, List.length_replicate, List.length_cons, List.length_nil, Int.natCast_add, Int.natCast_one, Int.natCast_zero, Int.toNat_zero] at *) <;> (repeat (with_reducible rename _ ∧ _ => hh; obtain ⟨_, _⟩ := hh)) <;> (first | omega | (refine fits_i64 ?_; omega) | (split <;> omega) | exact prs_zero _ | exact prs_in (by with_reducible assumption) | exact prs_out (by with_reducible assumption) (by omega) (by omega) (by omega) | exact prs_no (by with_reducible assumption) (by with_reducible assumption) (by omega) | exact prs_had (by with_reducible assumption) (by with_reducible assumption) (by with_reducible assumption) (by omega) | exact prs_add (by with_reducible assumption) (by with_reducible assumption) (by omega) | exact prs_fin (by with_reducible assumption) (by omega) (by omega))))
/-- Owners, gathered. -/
structure OwL (xs out : List Row) (i : Int) : Prop where
  d : Dst out
  n : nrms KInt out = out
  m : ∀ v, Mem out v ↔ OwnN xs i.toNat v
theorem owl_zero (xs : List Row) : OwL xs [] 0 := ⟨dst_nil, rfl, fun v => ⟨fun h => absurd h mem_nil, fun ⟨i, h, _⟩ => by simp at h⟩⟩
theorem ownN_succ {xs : List Row} {i : Nat} {v : Int} : OwnN xs (i + 1) v ↔ (OwnN xs i v ∨ v = (rc (row xs i) 0).int) := by
  constructor
  · rintro ⟨j, h1, h2⟩
    by_cases e : j = i
    · rw [e] at h2; exact .inr h2.symm
    · exact .inl ⟨j, by omega, h2⟩
  · rintro (⟨j, h1, h2⟩ | h)
    · exact ⟨j, by omega, h2⟩
    · exact ⟨i, by omega, h.symm⟩
theorem owl_add {xs out : List Row} {i : Int} (h : OwL xs out i) (hn : ¬ memI out (rc (row xs i.toNat) 0).int) (h0 : 0 ≤ i) : OwL xs (out ++ [[Sc.i (rc (row xs i.toNat) 0).int]]) (i + 1) := ⟨dst_snoc h.d (fun q => hn (mem_memI.1 q)), by rw [nrms_append, h.n]; rfl, fun v => by
  rw [mem_append, mem_one, h.m, show (i + 1).toNat = i.toNat + 1 by omega, ownN_succ]
  exact ⟨fun q => q.imp id Eq.symm, fun q => q.imp id Eq.symm⟩⟩
theorem owl_had {xs out : List Row} {i : Int} (h : OwL xs out i) (hm : memI out (rc (row xs i.toNat) 0).int) (h0 : 0 ≤ i) : OwL xs out (i + 1) := ⟨h.d, h.n, fun v => by
  rw [h.m, show (i + 1).toNat = i.toNat + 1 by omega, ownN_succ]
  exact ⟨.inl, fun q => q.elim id (fun q => by rw [q]; exact (h.m _).1 (mem_memI.2 hm))⟩⟩
theorem owl_n {xs out : List Row} {i : Int} (h : OwL xs out i) : nrms KInt out = out := h.n
theorem owl_d {xs out : List Row} {i : Int} (h : OwL xs out i) : Dst out := h.d
theorem owl_sort {xs out ys : List Row} {i : Int} (h : OwL xs out i) (hs : SortOf out ys) (hv : VA xs) (hi : ¬ i < xs.length) (h2 : i ≤ xs.length) : ys = ascL (Own xs) 8 := by
  refine sort_asc hs (fun v => ?_)
  rw [h.m, show i.toNat = xs.length by omega]
  exact ⟨fun q => ⟨(own_range hv q).1, by have := (own_range hv q).2; omega, q⟩, fun q => q.2.2⟩
noncomputable def cOwners : Ct := ⟨[], fun ds K => match ds with
  | [.view ks xs] => ks = KAct ∧ VA xs ∧ K (.fr 3 KInt (ascL (Own xs) 8)) []
  | _ => False⟩
set_option maxRecDepth 100000 in
set_option maxHeartbeats 8000000 in
theorem p_owners : Proved 45 cOwners := by
  refine proved_of [(51, cIsIn), (52, cSorted)] ⟨p_sIsIn, p_sorted, trivial⟩ [.tmp 2] Try.func45 rfl rfl rfl rfl (by kernel_rfl) ?_
  intro ds K hrel
  simp only [cOwners] at hrel
  split at hrel
  case h_2 => exact hrel.elim
  rename_i ks xs
  obtain ⟨rfl, hv, hrel⟩ := hrel
  have hl := hv.l
  refine ⟨rfl, Nat.le_of_ble_eq_true rfl, fun k σ => match k with
    | 3 => some { α := Lv 3 (List Row × Int), R := fun ⟨(out, i)⟩ => (0 ≤ i ∧ i ≤ xs.length ∧ (out.length : Int) ≤ i) ∧ OwL xs out i, μ := fun ⟨(_, i)⟩ => (xs.length - i).toNat, st := fun ⟨(out, i)⟩ => upH σ [(4, .int .i64 i), (3, .own 0)] 0 (.rows 3 KInt out) }
    | _ => none, ?_⟩
  repeat' (first | with_reducible refine And.intro ?_ ?_ | (with_reducible intro h; first | (exact absurd h (by decide)) | (guard_hyp h : true = true; clear h) | (guard_hyp h : false = false; clear h) | (have hq := (h : Lv 3 _); clear hq; obtain ⟨_, _⟩ := h) | skip) | with_reducible exact True.intro | ((with_reducible refine (id ?_ : @Eq Bool (nodupN _) true)); kernel_rfl) | ((with_reducible refine (id ?_ : @Eq Bool (apartN _ _) true)); kernel_rfl) | ((with_reducible refine (id ?_ : @Eq Bool (formL _ _) true)); kernel_rfl) | ((with_reducible refine (id ?_ : @Eq _ _ _)); exact rfl) | ((conv => whnf); first | done | with_reducible refine And.intro ?_ ?_ | (with_reducible intro h; first | (exact absurd h (by decide)) | (guard_hyp h : true = true; clear h) | (guard_hyp h : false = false; clear h) | (have hq := (h : Lv 3 _); clear hq; obtain ⟨_, _⟩ := h) | skip) | with_reducible exact True.intro | ((with_reducible refine (id ?_ : @Eq _ _ _)); exact rfl) | refine Exists.intro (⟨(?_, ?_)⟩ : Lv 3 _) ?_ | refine Exists.intro _ (Exists.intro _ (And.intro hrel ?_)) | exact Or.inl rfl | exact Or.inr (And.intro rfl rfl) | (apply Exists.intro; refine And.intro ?_ ?_)) | exact Nat.le_of_ble_eq_true rfl)
  all_goals (try ((try (change _ = _)) <;> (try dsimp only at *) <;> (try simp only [decide_eq_true_eq, decide_eq_false_iff_not, Bool.not_eq_true', Bool.not_eq_false', Bool.and_eq_true, Bool.and_eq_false_iff, beq_iff_eq, bne_iff_ne, beq_eq_false_iff_ne, bne_eq_false_iff_eq, ne_eq, Decidable.not_not, bne_self_eq_false, Bool.false_eq_true, Bool.true_eq_false, Bool.not_true, Bool.not_false, not_true_eq_false, not_false_eq_true, Int.toNat_natCast, Nat.zero_add, Nat.reduceAdd, Nat.reduceMul, Nat.reduceDiv, Nat.mul_one, lenK_one, big, fill_len, marking_len, marks_len, nrms_len, List.length_set, List.length_append, List.length_map, List.length_replicate, List.length_cons, List.length_nil, Int.natCast_add, Int.natCast_one, Int.natCast_zero] at *) <;> (repeat (with_reducible rename _ ∧ _ => hh; obtain ⟨_, _⟩ := hh)) <;> (first | omega | (refine fits_i64 ?_; omega) | (split <;> omega) | exact owl_zero _ | exact owl_add (by with_reducible assumption) (by with_reducible assumption) (by omega) | exact owl_had (by with_reducible assumption) (by with_reducible assumption) (by omega) | exact owl_n (by with_reducible assumption) | exact owl_d (by with_reducible assumption) | exact owl_sort (by with_reducible assumption) (by with_reducible assumption) hv (by omega) (by omega))))
/-- Nobody of a list has to come before one. -/
structure IsF (ps left : List Row) (who : Int) (n : Int) : Prop where
  h : ∀ j : Nat, (j : Int) < n → ¬ HasP ps ps.length (numT left j) who
theorem isF_zero (ps left : List Row) (who : Int) : IsF ps left who 0 := ⟨fun j h => by omega⟩
theorem isF_step {ps left : List Row} {who i : Int} (h : IsF ps left who i) (hn : ¬ HasP ps ps.length (rc (row left i.toNat) 0).int who) : IsF ps left who (i + 1) := ⟨fun j hj => by
  by_cases e : (j : Int) = i
  · rw [← e, toNat_nat] at hn; exact hn
  · exact h.h j (by omega)⟩
theorem isF_all {ps left : List Row} {who i : Int} (h : IsF ps left who i) (hi : ¬ i < left.length) : true = decide (IsF ps left who left.length) := true_eq ⟨fun j hj => h.h j (by omega)⟩
theorem isF_bad {ps left : List Row} {who i : Int} (hh : HasP ps ps.length (rc (row left i.toNat) 0).int who) (h0 : 0 ≤ i) (hi : i < left.length) : false = decide (IsF ps left who left.length) := false_eq (fun q => q.h i.toNat (by omega) hh)
noncomputable def cIsF : Ct := ⟨[], fun ds K => match ds with
  | [.view ks ps, .view js left, .int .i64 who] => ks = KWait ∧ js = KInt ∧ ((ps.length : Int) < big ∧ (left.length : Int) < big) ∧ K (.bool (decide (IsF ps left who left.length))) []
  | _ => False⟩
set_option maxRecDepth 100000 in
set_option maxHeartbeats 4000000 in
theorem p_isFirst : Proved 47 cIsF := by
  refine proved_of [(53, cHas)] ⟨p_has, trivial⟩ [.tmp 6] Try.func47 rfl rfl rfl rfl (by kernel_rfl) ?_
  intro ds K hrel
  simp only [cIsF] at hrel
  split at hrel
  case h_2 => exact hrel.elim
  rename_i ks ps js left who
  obtain ⟨rfl, rfl, ⟨h1, h2⟩, hrel⟩ := hrel
  refine ⟨rfl, Nat.le_of_ble_eq_true rfl, fun k σ => match k with
    | 2 => some { α := Lv 2 Int, R := fun ⟨i⟩ => (0 ≤ i ∧ i ≤ left.length) ∧ IsF ps left who i, μ := fun ⟨i⟩ => (left.length - i).toNat, st := fun ⟨i⟩ => up σ [(7, .int .i64 i)] }
    | _ => none, ?_⟩
  repeat' (first | with_reducible refine And.intro ?_ ?_ | (with_reducible intro h; first | (exact absurd h (by decide)) | (guard_hyp h : true = true; clear h) | (guard_hyp h : false = false; clear h) | (have hq := (h : Lv 2 _); clear hq; obtain ⟨_⟩ := h) | skip) | with_reducible exact True.intro | ((with_reducible refine (id ?_ : @Eq Bool (nodupN _) true)); kernel_rfl) | ((with_reducible refine (id ?_ : @Eq Bool (apartN _ _) true)); kernel_rfl) | ((with_reducible refine (id ?_ : @Eq Bool (formL _ _) true)); kernel_rfl) | ((with_reducible refine (id ?_ : @Eq _ _ _)); exact rfl) | ((conv => whnf); first | done | with_reducible refine And.intro ?_ ?_ | (with_reducible intro h; first | (exact absurd h (by decide)) | (guard_hyp h : true = true; clear h) | (guard_hyp h : false = false; clear h) | (have hq := (h : Lv 2 _); clear hq; obtain ⟨_⟩ := h) | skip) | with_reducible exact True.intro | ((with_reducible refine (id ?_ : @Eq _ _ _)); exact rfl) | refine Exists.intro (⟨?_⟩ : Lv 2 _) ?_ | refine Exists.intro _ (Exists.intro _ (And.intro hrel ?_)) | exact Or.inl rfl | exact Or.inr (And.intro rfl rfl) | (apply Exists.intro; refine And.intro ?_ ?_)) | exact Nat.le_of_ble_eq_true rfl)
  all_goals (try ((try (change _ = _)) <;> (try dsimp only at *) <;> (try simp only [decide_eq_true_eq, decide_eq_false_iff_not, Bool.not_eq_true', Bool.not_eq_false', Bool.and_eq_true, Bool.and_eq_false_iff, beq_iff_eq, bne_iff_ne, beq_eq_false_iff_ne, bne_eq_false_iff_eq, ne_eq, Decidable.not_not, bne_self_eq_false, Bool.false_eq_true, Bool.true_eq_false, Bool.not_true, Bool.not_false, not_true_eq_false, not_false_eq_true, Int.toNat_natCast, Nat.zero_add, Nat.reduceAdd, Nat.reduceMul, Nat.reduceDiv, Nat.mul_one, lenK_one, big, fill_len, marking_len, marks_len, nrms_len, List.length_set, List.length_append, List.length_map, List.length_replicate, List.length_cons, List.length_nil, Int.natCast_add, Int.natCast_one, Int.natCast_zero] at *) <;> (repeat (with_reducible rename _ ∧ _ => hh; obtain ⟨_, _⟩ := hh)) <;> (first | omega | (refine fits_i64 ?_; omega) | (split <;> omega) | exact isF_zero _ _ _ | exact isF_step (by with_reducible assumption) (by with_reducible assumption) | exact isF_all (by with_reducible assumption) (by omega) | exact isF_bad (by with_reducible assumption) (by omega) (by omega))))
/-- Numbers without one of them. -/
def dropP (n : Int) (r : Row) : Bool := !((rc r 0).int == n)
def dropL (xs : List Row) (n : Int) : List Row := nrms KInt (xs.filter (dropP n))
theorem filt_yesA {ks : List Kd} {p : Row → Bool} {xs : List Row} {i : Int} (h0 : 0 ≤ i) (hi : i < xs.length) (h : p (row xs i.toNat) = true) :
    nrms ks ((xs.take (i + 1).toNat).filter p) = nrms ks ((xs.take i.toNat).filter p) ++ [nrm ks (row xs i.toNat)] := by
  rw [show (i + 1).toNat = i.toNat + 1 by omega, take_succ_row (by omega), List.filter_append, nrms_append]
  simp [h, nrms]
theorem filt_noA {ks : List Kd} {p : Row → Bool} {xs : List Row} {i : Int} (h0 : 0 ≤ i) (hi : i < xs.length) (h : p (row xs i.toNat) = false) :
    nrms ks ((xs.take (i + 1).toNat).filter p) = nrms ks ((xs.take i.toNat).filter p) := by
  rw [show (i + 1).toNat = i.toNat + 1 by omega, take_succ_row (by omega), List.filter_append, nrms_append]
  simp [h, nrms]
@[irreducible] def dropI (xs : List Row) (n : Int) (i : Nat) : List Row := nrms KInt ((xs.take i).filter (dropP n))
theorem drop_yes {xs : List Row} {n i : Int} (hn : ¬ (rc (row xs i.toNat) 0).int = n) (h0 : 0 ≤ i) (hi : i < xs.length) : dropI xs n i.toNat ++ [[Sc.i (rc (row xs i.toNat) 0).int]] = dropI xs n (i + 1).toNat := by unfold dropI; exact (filt_yesA h0 hi (by simp [dropP, hn])).symm
theorem drop_no {xs : List Row} {n i : Int} (hn : (rc (row xs i.toNat) 0).int = n) (h0 : 0 ≤ i) (hi : i < xs.length) : dropI xs n i.toNat = dropI xs n (i + 1).toNat := by unfold dropI; exact (filt_noA h0 hi (by simp [dropP, hn])).symm
theorem drop_zero (xs : List Row) (n : Int) : [] = dropI xs n (Int.toNat 0) := by simp [dropI, nrms]
theorem drop_all {xs : List Row} {n i : Int} (h : ¬ i < xs.length) : dropI xs n i.toNat = dropL xs n := by unfold dropI; rw [List.take_of_length_le (by omega)]; rfl
theorem drop_bnd (xs : List Row) (n : Int) (i : Nat) (h : xs.length ≤ 1048576) : ((dropI xs n i).length + 1) * 8 ≤ 140737488355328 := by
  unfold dropI; rw [nrms_len]; have := List.length_filter_le (dropP n) (xs.take i); rw [List.length_take] at this; omega
theorem dropL_mem {xs : List Row} {n v : Int} : Mem (dropL xs n) v ↔ (Mem xs v ∧ v ≠ n) := by
  constructor
  · rintro ⟨j, h1, h2⟩
    unfold dropL at h1 h2
    rw [nrms_len] at h1
    unfold numT at h2
    rw [row_nrms h1] at h2
    have hm : row (xs.filter (dropP n)) j ∈ xs.filter (dropP n) := List.mem_of_getElem? (row_some h1)
    obtain ⟨m1, m2⟩ := List.mem_filter.1 hm
    obtain ⟨k, hk, he⟩ := List.mem_iff_getElem.1 m1
    have hr := row_some hk
    rw [List.getElem?_eq_getElem hk] at hr
    have e : row xs k = row (xs.filter (dropP n)) j := by rw [← Option.some.inj hr, he]
    refine ⟨⟨k, hk, by unfold numT; rw [e]; exact h2⟩, ?_⟩
    have h2' : (rc (row (xs.filter (dropP n)) j) 0).int = v := h2
    simp only [dropP, h2', Bool.not_eq_true', beq_eq_false_iff_ne, ne_eq] at m2
    exact m2
  · rintro ⟨⟨k, hk, he⟩, hn⟩
    have hm : row xs k ∈ xs.filter (dropP n) := List.mem_filter.2 ⟨List.mem_of_getElem? (row_some hk), by
      unfold numT at he
      simp [dropP, he, hn]⟩
    obtain ⟨j, hj, hje⟩ := List.mem_iff_getElem.1 hm
    have hr := row_some hj
    rw [List.getElem?_eq_getElem hj] at hr
    have e : row (xs.filter (dropP n)) j = row xs k := by rw [← Option.some.inj hr, hje]
    refine ⟨j, by unfold dropL; rw [nrms_len]; exact hj, ?_⟩
    unfold numT dropL
    rw [row_nrms hj, e]; exact he
theorem pw_asc {xs : List Row} : xs.Pairwise (fun a b => (rc a 0).int < (rc b 0).int) ↔ Asc xs := by
  rw [List.pairwise_iff_getElem]
  have e : ∀ i (h : i < xs.length), xs[i] = row xs i := fun i h => by
    have := row_some h
    rw [List.getElem?_eq_getElem h] at this
    exact Option.some.inj this
  constructor
  · intro h
    exact ⟨fun i j hij hj => by have := h i j (by omega) hj hij; rw [e, e] at this; exact this⟩
  · intro h i j hi hj hij
    rw [e, e]; exact h.h i j hij hj
theorem dropL_asc {xs : List Row} {n : Int} (h : Asc xs) : Asc (dropL xs n) := by
  rw [← pw_asc]
  unfold dropL nrms
  rw [List.pairwise_map]
  exact (pw_asc.2 h).filter _
theorem dropL_nrm (xs : List Row) (n : Int) : nrms KInt (dropL xs n) = dropL xs n := nrms_nrms _ _
theorem dropL_len (xs : List Row) (n : Int) : (dropL xs n).length ≤ xs.length := by unfold dropL; rw [nrms_len]; exact List.length_filter_le _ _
def cDrop : Ct := ⟨[], fun ds K => match ds with
  | [.view ks xs, .int .i64 n] => ks = KInt ∧ xs.length ≤ 1048576 ∧ K (.fr 3 KInt (dropL xs n)) []
  | _ => False⟩
set_option maxRecDepth 100000 in
set_option maxHeartbeats 4000000 in
theorem p_drop : Proved 48 cDrop := by
  refine proved_of [] trivial [.tmp 4] Try.func48 rfl rfl rfl rfl (by kernel_rfl) ?_
  intro ds K hrel
  simp only [cDrop] at hrel
  split at hrel
  case h_2 => exact hrel.elim
  rename_i ks xs n
  obtain ⟨rfl, h1, hrel⟩ := hrel
  refine ⟨rfl, Nat.le_of_ble_eq_true rfl, fun k σ => match k with
    | 3 => some { α := Lv 3 Int, R := fun ⟨i⟩ => (0 ≤ i ∧ i ≤ xs.length) ∧ True, μ := fun ⟨i⟩ => (xs.length - i).toNat, st := fun ⟨i⟩ => upH σ [(6, .int .i64 i), (5, .own 0)] 0 (.rows 3 KInt (dropI xs n i.toNat)) }
    | _ => none, ?_⟩
  repeat' (first | with_reducible refine And.intro ?_ ?_ | (with_reducible intro h; first | (exact absurd h (by decide)) | (guard_hyp h : true = true; clear h) | (guard_hyp h : false = false; clear h) | (have hq := (h : Lv 3 _); clear hq; obtain ⟨_⟩ := h) | skip) | with_reducible exact True.intro | ((with_reducible refine (id ?_ : @Eq Bool (nodupN _) true)); kernel_rfl) | ((with_reducible refine (id ?_ : @Eq Bool (apartN _ _) true)); kernel_rfl) | ((with_reducible refine (id ?_ : @Eq Bool (formL _ _) true)); kernel_rfl) | ((with_reducible refine (id ?_ : @Eq _ _ _)); exact rfl) | ((conv => whnf); first | done | with_reducible refine And.intro ?_ ?_ | (with_reducible intro h; first | (exact absurd h (by decide)) | (guard_hyp h : true = true; clear h) | (guard_hyp h : false = false; clear h) | (have hq := (h : Lv 3 _); clear hq; obtain ⟨_⟩ := h) | skip) | with_reducible exact True.intro | ((with_reducible refine (id ?_ : @Eq _ _ _)); exact rfl) | refine Exists.intro (⟨?_⟩ : Lv 3 _) ?_ | refine Exists.intro _ (Exists.intro _ (And.intro hrel ?_)) | exact Or.inl rfl | exact Or.inr (And.intro rfl rfl) | (apply Exists.intro; refine And.intro ?_ ?_)) | exact Nat.le_of_ble_eq_true rfl)
  all_goals (try ((try (change _ = _)) <;> (try dsimp only at *) <;> (try simp only [decide_eq_true_eq, decide_eq_false_iff_not, Bool.not_eq_true', Bool.not_eq_false', Bool.and_eq_true, Bool.and_eq_false_iff, beq_iff_eq, bne_iff_ne, beq_eq_false_iff_ne, bne_eq_false_iff_eq, ne_eq, Decidable.not_not, bne_self_eq_false, Bool.false_eq_true, Bool.true_eq_false, Bool.not_true, Bool.not_false, not_true_eq_false, not_false_eq_true, Int.toNat_natCast, Nat.zero_add, Nat.reduceAdd, Nat.reduceMul, Nat.reduceDiv, Nat.mul_one, lenK_one, big, fill_len, marking_len, marks_len, nrms_len, List.length_set, List.length_append, List.length_map, List.length_replicate, List.length_cons, List.length_nil, Int.natCast_add, Int.natCast_one, Int.natCast_zero] at *) <;> (repeat (with_reducible rename _ ∧ _ => hh; obtain ⟨_, _⟩ := hh)) <;> (first | omega | (refine fits_i64 ?_; omega) | (split <;> omega) | (with_reducible exact drop_zero _ _) | (with_reducible exact drop_yes (by with_reducible assumption) (by omega) (by omega)) | (with_reducible exact (drop_yes (by with_reducible assumption) (by omega) (by omega)).symm) | (with_reducible exact drop_no (by with_reducible assumption) (by omega) (by omega)) | (with_reducible exact drop_all (by omega)) | (with_reducible exact drop_bnd _ _ _ (by omega)) | (with_reducible exact True.intro))))
end Go.Proofs.Ytmdlffhkhhionaa.V
