/-
  Waits: what the reference's functions return.
-/
import Derived.Test.YtbppiknmlipmpaaWr
set_option linter.unusedSimpArgs false
set_option linter.unusedVariables false
namespace Go.Proofs.Ytbppiknmlipmpaa.V
open Go Go.RowKit
open Classical

noncomputable def cIsIn : Ct := ⟨[], fun ds K => match ds with
  | [.view ks xs, .int .i64 n] => ks = KInt ∧ (xs.length : Int) < big ∧ K (.bool (decide (memI xs n))) []
  | _ => False⟩
structure NoI (xs : List Row) (n : Int) (i : Int) : Prop where
  h : ∀ j : Nat, (j : Int) < i → ¬ (rc (row xs j) 0).int = n
theorem noI_zero (xs : List Row) (n : Int) : NoI xs n 0 := ⟨fun j h => by omega⟩
theorem noI_step {xs : List Row} {n i : Int} (h : NoI xs n i) (h0 : 0 ≤ i) (h1 : ¬ (rc (row xs i.toNat) 0).int = n) : NoI xs n (i + 1) := ⟨fun j hj => by
  by_cases e : (j : Int) = i
  · subst e; exact h1
  · exact h.h j (by omega)⟩
theorem isIn_yes {xs : List Row} {n i : Int} (h0 : 0 ≤ i) (h1 : i < xs.length) (h2 : (rc (row xs i.toNat) 0).int = n) : true = decide (memI xs n) := true_eq (by rw [← h2]; exact memI_row xs i.toNat (by omega))
theorem isIn_no {xs : List Row} {n i : Int} (h : NoI xs n i) (h1 : ¬ i < xs.length) : false = decide (memI xs n) := false_eq (fun hm => by obtain ⟨j, h2, h3⟩ := mem_memI.2 hm; exact h.h j (by omega) h3)
set_option maxRecDepth 100000 in
set_option maxHeartbeats 4000000 in
theorem p_lIsIn : Proved 22 cIsIn := by
  refine proved_of [] trivial [.tmp 4] Try.func22 rfl rfl rfl rfl (by kernel_rfl) ?_
  intro ds K hrel
  simp only [cIsIn] at hrel
  split at hrel
  case h_2 => exact hrel.elim
  rename_i ks xs n
  obtain ⟨rfl, h1, hrel⟩ := hrel
  refine ⟨rfl, Nat.le_of_ble_eq_true rfl, fun k σ => match k with
    | 2 => some { α := Lv 2 Int, R := fun i => (0 ≤ i.v ∧ i.v ≤ xs.length) ∧ NoI xs n i.v, μ := fun i => (xs.length - i.v).toNat, st := fun i => up σ [(5, .int .i64 i.v)] }
    | _ => none, ?_⟩
  repeat' (first | with_reducible refine And.intro ?_ ?_ | (with_reducible intro h; first | (exact absurd h (by decide)) | (guard_hyp h : true = true; clear h) | (guard_hyp h : false = false; clear h) | (have hq := (h : Lv 2 _); clear hq; obtain ⟨_⟩ := h) | skip) | with_reducible exact True.intro | ((with_reducible refine (id ?_ : @Eq Bool (nodupN _) true)); kernel_rfl) | ((with_reducible refine (id ?_ : @Eq Bool (apartN _ _) true)); kernel_rfl) | ((with_reducible refine (id ?_ : @Eq Bool (formL _ _) true)); kernel_rfl) | ((with_reducible refine (id ?_ : @Eq _ _ _)); exact rfl) | ((conv => whnf); first | done | with_reducible refine And.intro ?_ ?_ | (with_reducible intro h; first | (exact absurd h (by decide)) | (guard_hyp h : true = true; clear h) | (guard_hyp h : false = false; clear h) | (have hq := (h : Lv 2 _); clear hq; obtain ⟨_⟩ := h) | skip) | with_reducible exact True.intro | ((with_reducible refine (id ?_ : @Eq _ _ _)); exact rfl) | refine Exists.intro (⟨?_⟩ : Lv 2 _) ?_ | refine Exists.intro _ (Exists.intro _ (And.intro hrel ?_)) | exact Or.inl rfl | exact Or.inr (And.intro rfl rfl) | (apply Exists.intro; refine And.intro ?_ ?_)) | exact Nat.le_of_ble_eq_true rfl)
  all_goals (try ((try (change _ = _)) <;> (try dsimp only at *) <;> (try simp only [decide_eq_true_eq, decide_eq_false_iff_not, Bool.not_eq_true', Bool.not_eq_false', Bool.and_eq_true, Bool.and_eq_false_iff, beq_iff_eq, bne_iff_ne, beq_eq_false_iff_ne, bne_eq_false_iff_eq, ne_eq, Decidable.not_not, bne_self_eq_false, Bool.false_eq_true, Bool.true_eq_false, Bool.not_true, Bool.not_false, not_true_eq_false, not_false_eq_true, Int.toNat_natCast, Nat.zero_add, Nat.reduceAdd, Nat.reduceMul, Nat.reduceDiv, Nat.mul_one, lenK_one, big, fill_len, marking_len, marks_len, nrms_len, List.length_set, List.length_append, List.length_map, List.length_replicate, List.length_cons, List.length_nil, Int.natCast_add, Int.natCast_one, Int.natCast_zero] at *) <;> (repeat (with_reducible rename _ ∧ _ => hh; obtain ⟨_, _⟩ := hh)) <;> (first | omega | (refine fits_i64 ?_; omega) | (split <;> omega) | exact noI_zero _ _ | exact noI_step (by assumption) (by omega) (by assumption) | exact isIn_yes (by omega) (by omega) (by assumption) | exact isIn_no (by assumption) (by omega))))
set_option maxRecDepth 100000 in
set_option maxHeartbeats 4000000 in
theorem p_sIsIn : Proved 50 cIsIn := by
  refine proved_of [] trivial [.tmp 4] Try.func50 rfl rfl rfl rfl (by kernel_rfl) ?_
  intro ds K hrel
  simp only [cIsIn] at hrel
  split at hrel
  case h_2 => exact hrel.elim
  rename_i ks xs n
  obtain ⟨rfl, h1, hrel⟩ := hrel
  refine ⟨rfl, Nat.le_of_ble_eq_true rfl, fun k σ => match k with
    | 2 => some { α := Lv 2 Int, R := fun i => (0 ≤ i.v ∧ i.v ≤ xs.length) ∧ NoI xs n i.v, μ := fun i => (xs.length - i.v).toNat, st := fun i => up σ [(5, .int .i64 i.v)] }
    | _ => none, ?_⟩
  repeat' (first | with_reducible refine And.intro ?_ ?_ | (with_reducible intro h; first | (exact absurd h (by decide)) | (guard_hyp h : true = true; clear h) | (guard_hyp h : false = false; clear h) | (have hq := (h : Lv 2 _); clear hq; obtain ⟨_⟩ := h) | skip) | with_reducible exact True.intro | ((with_reducible refine (id ?_ : @Eq Bool (nodupN _) true)); kernel_rfl) | ((with_reducible refine (id ?_ : @Eq Bool (apartN _ _) true)); kernel_rfl) | ((with_reducible refine (id ?_ : @Eq Bool (formL _ _) true)); kernel_rfl) | ((with_reducible refine (id ?_ : @Eq _ _ _)); exact rfl) | ((conv => whnf); first | done | with_reducible refine And.intro ?_ ?_ | (with_reducible intro h; first | (exact absurd h (by decide)) | (guard_hyp h : true = true; clear h) | (guard_hyp h : false = false; clear h) | (have hq := (h : Lv 2 _); clear hq; obtain ⟨_⟩ := h) | skip) | with_reducible exact True.intro | ((with_reducible refine (id ?_ : @Eq _ _ _)); exact rfl) | refine Exists.intro (⟨?_⟩ : Lv 2 _) ?_ | refine Exists.intro _ (Exists.intro _ (And.intro hrel ?_)) | exact Or.inl rfl | exact Or.inr (And.intro rfl rfl) | (apply Exists.intro; refine And.intro ?_ ?_)) | exact Nat.le_of_ble_eq_true rfl)
  all_goals (try ((try (change _ = _)) <;> (try dsimp only at *) <;> (try simp only [decide_eq_true_eq, decide_eq_false_iff_not, Bool.not_eq_true', Bool.not_eq_false', Bool.and_eq_true, Bool.and_eq_false_iff, beq_iff_eq, bne_iff_ne, beq_eq_false_iff_ne, bne_eq_false_iff_eq, ne_eq, Decidable.not_not, bne_self_eq_false, Bool.false_eq_true, Bool.true_eq_false, Bool.not_true, Bool.not_false, not_true_eq_false, not_false_eq_true, Int.toNat_natCast, Nat.zero_add, Nat.reduceAdd, Nat.reduceMul, Nat.reduceDiv, Nat.mul_one, lenK_one, big, fill_len, marking_len, marks_len, nrms_len, List.length_set, List.length_append, List.length_map, List.length_replicate, List.length_cons, List.length_nil, Int.natCast_add, Int.natCast_one, Int.natCast_zero] at *) <;> (repeat (with_reducible rename _ ∧ _ => hh; obtain ⟨_, _⟩ := hh)) <;> (first | omega | (refine fits_i64 ?_; omega) | (split <;> omega) | exact noI_zero _ _ | exact noI_step (by assumption) (by omega) (by assumption) | exact isIn_yes (by omega) (by omega) (by assumption) | exact isIn_no (by assumption) (by omega))))
theorem wv_bad' {ws : List Row} {i : Int} (_ : WaitsN ws i) (h0 : 0 ≤ i) (hi : i < ws.length) (h : ¬ WaitOk (row ws i.toNat)) : false = decide (WV ws) := false_eq (wv_bad h0 hi h)
noncomputable def cWV : Ct := ⟨[], fun ds K => match ds with
  | [.view ks ws] => ks = KWait ∧ (ws.length : Int) < big ∧ K (.bool (decide (WV ws))) []
  | _ => False⟩
set_option maxRecDepth 100000 in
set_option maxHeartbeats 4000000 in
theorem p_validWaits : Proved 47 cWV := by
  refine proved_of [(48, cInRange)] ⟨p_inRange, trivial⟩ [.tmp 2] Try.func47 rfl rfl rfl rfl (by kernel_rfl) ?_
  intro ds K hrel
  simp only [cWV] at hrel
  split at hrel
  case h_2 => exact hrel.elim
  rename_i ks ws
  obtain ⟨rfl, h1, hrel⟩ := hrel
  refine ⟨rfl, Nat.le_of_ble_eq_true rfl, fun k σ => match k with
    | 2 => some { α := Lv 2 Int, R := fun ⟨i⟩ => (0 ≤ i ∧ i ≤ ws.length) ∧ WaitsN ws i, μ := fun ⟨i⟩ => (ws.length - i).toNat, st := fun ⟨i⟩ => up σ [(3, .int .i64 i)] }
    | _ => none, ?_⟩
  repeat' (first | with_reducible refine And.intro ?_ ?_ | (with_reducible intro h; first | (exact absurd h (by decide)) | (guard_hyp h : true = true; clear h) | (guard_hyp h : false = false; clear h) | (have hq := (h : Lv 2 _); clear hq; obtain ⟨_⟩ := h) | skip) | with_reducible exact True.intro | ((with_reducible refine (id ?_ : @Eq Bool (nodupN _) true)); kernel_rfl) | ((with_reducible refine (id ?_ : @Eq Bool (apartN _ _) true)); kernel_rfl) | ((with_reducible refine (id ?_ : @Eq Bool (formL _ _) true)); kernel_rfl) | ((with_reducible refine (id ?_ : @Eq _ _ _)); exact rfl) | ((conv => whnf); first | done | with_reducible refine And.intro ?_ ?_ | (with_reducible intro h; first | (exact absurd h (by decide)) | (guard_hyp h : true = true; clear h) | (guard_hyp h : false = false; clear h) | (have hq := (h : Lv 2 _); clear hq; obtain ⟨_⟩ := h) | skip) | with_reducible exact True.intro | ((with_reducible refine (id ?_ : @Eq _ _ _)); exact rfl) | refine Exists.intro (⟨?_⟩ : Lv 2 _) ?_ | refine Exists.intro _ (Exists.intro _ (And.intro hrel ?_)) | exact Or.inl rfl | exact Or.inr (And.intro rfl rfl) | (apply Exists.intro; refine And.intro ?_ ?_)) | exact Nat.le_of_ble_eq_true rfl)
  all_goals (try ((try (change _ = _)) <;> (try dsimp only at *) <;> (try simp only [decide_eq_true_eq, decide_eq_false_iff_not, Bool.not_eq_true', Bool.not_eq_false', Bool.and_eq_true, Bool.and_eq_false_iff, beq_iff_eq, bne_iff_ne, beq_eq_false_iff_ne, bne_eq_false_iff_eq, ne_eq, Decidable.not_not, bne_self_eq_false, Bool.false_eq_true, Bool.true_eq_false, Bool.not_true, Bool.not_false, not_true_eq_false, not_false_eq_true, Int.toNat_natCast, Nat.zero_add, Nat.reduceAdd, Nat.reduceMul, Nat.reduceDiv, Nat.mul_one, lenK_one, big, fill_len, marking_len, marks_len, nrms_len, List.length_set, List.length_append, List.length_map, List.length_replicate, List.length_cons, List.length_nil, Int.natCast_add, Int.natCast_one, Int.natCast_zero] at *) <;> (repeat (with_reducible rename _ ∧ _ => hh; obtain ⟨_, _⟩ := hh)) <;> (first | omega | (refine fits_i64 ?_; omega) | (split <;> omega) | exact waits_zero _ | exact waits_step (by with_reducible assumption) (wait_yes (by omega)) | exact wv_bad' (by with_reducible assumption) (by omega) (by omega) (wait_no (by omega)) | exact wv_pick (by with_reducible assumption) (by omega))))
/-- Sorting, round by round. -/
structure SrtO (xs ys : List Row) (i : Int) : Prop where
  l : ys.length = xs.length
  n : nrms KInt ys = ys
  d : Dst ys
  m : ∀ v, Mem ys v ↔ Mem xs v
  s : ∀ a b : Nat, a < b → (b : Int) < i → b < ys.length → numT ys a < numT ys b
theorem srto_zero {xs : List Row} (hn : nrms KInt xs = xs) (hd : Dst xs) : SrtO xs xs 1 := ⟨rfl, hn, hd, fun _ => Iff.rfl, fun a b h1 h2 => by omega⟩
theorem srt_start {xs ys : List Row} {i : Int} (h : SrtO xs ys i) (h0 : 0 ≤ i) : Srt xs ys i.toNat i.toNat := srt_begin h.l h.n h.d h.m (fun a b h1 h2 h3 => h.s a b h1 (by omega) h3)
theorem srt_end0 {xs ys : List Row} {i k : Int} (h : Srt xs ys i.toNat k.toNat) (hk : ¬ 0 < k) (h0 : 0 ≤ i) (hi : i < ys.length) : SrtO xs ys (i + 1) := ⟨h.l, h.n, h.d, h.m, fun a b h1 h2 h3 => srt_stop h (.inl (by omega)) (by omega) a b h1 (by omega) h3⟩
theorem srt_end1 {xs ys : List Row} {i k : Int} (h : Srt xs ys i.toNat k.toNat) (hn : ¬ (rc (row ys k.toNat) 0).int < (rc (row ys (k - 1).toNat) 0).int) (hk : 0 < k) (h0 : 0 ≤ i) (hi : i < ys.length) (hki : k ≤ i) : SrtO xs ys (i + 1) := ⟨h.l, h.n, h.d, h.m, fun a b h1 h2 h3 => srt_stop h (.inr (by unfold numT; rw [show k.toNat - 1 = (k - 1).toNat by omega]; exact hn)) (by omega) a b h1 (by omega) h3⟩
theorem srt_swapI {xs ys : List Row} {i k : Int} (h : Srt xs ys i.toNat k.toNat) (hlt : (rc (row ys k.toNat) 0).int < (rc (row ys (k - 1).toNat) 0).int) (hk : 0 < k) (h0 : 0 ≤ i) (hi : i < ys.length) : Srt xs (setI (setI ys k (rc (row ys (k - 1).toNat) 0).int) (k - 1) (rc (row ys k.toNat) 0).int) i.toNat (k - 1).toNat := by
  have e : k.toNat = (k - 1).toNat + 1 := by omega
  rw [e] at h
  have := srt_swap h (by omega) (by unfold numT; rw [← e]; exact hlt)
  unfold numT at this
  rw [← e, show ((k.toNat : Nat) : Int) = k by omega, show (((k - 1).toNat : Nat) : Int) = k - 1 by omega] at this
  exact this
theorem srt_len {xs ys : List Row} {i k : Nat} (h : Srt xs ys i k) : ys.length = xs.length := h.l
theorem sort_fin {xs ys : List Row} {i : Int} (h : SrtO xs ys i) (hi : ¬ i < ys.length) : SortOf xs ys := ⟨h.l, ⟨fun a b h1 h2 => h.s a b h1 (by omega) h2⟩, h.m, h.n⟩
def cSorted : Ct := ⟨[], fun ds K => match ds with
  | [.view ks xs] => ks = KInt ∧ xs.length ≤ 1048576 ∧ (nrms KInt xs = xs) ∧ Dst xs ∧ ∀ ys : List Row, SortOf xs ys → K (.fr 3 KInt ys) []
  | _ => False⟩
set_option maxRecDepth 100000 in
set_option maxHeartbeats 8000000 in
theorem p_sorted : Proved 57 cSorted := by
  refine proved_of [(58, cCopy 3 KInt)] ⟨p_copyInts, trivial⟩ [.tmp 2] Try.func57 rfl rfl rfl rfl (by kernel_rfl) ?_
  intro ds K hrel
  simp only [cSorted] at hrel
  split at hrel
  case h_2 => exact hrel.elim
  rename_i ks xs
  obtain ⟨rfl, h1, hn, hd, hrel⟩ := hrel
  refine ⟨rfl, Nat.le_of_ble_eq_true rfl, fun k σ => match k with
    | 3 => some { α := Lv 3 (List Row × Int), R := fun ⟨(ys, i)⟩ => (1 ≤ i ∧ i ≤ xs.length + 1 ∧ (ys.length : Int) ≤ xs.length ∧ (xs.length : Int) ≤ ys.length) ∧ SrtO xs ys i, μ := fun ⟨(_, i)⟩ => (xs.length + 1 - i).toNat, st := fun ⟨(ys, i)⟩ => upH σ [(4, .int .i64 i), (3, .own 0)] 0 (.rows 3 KInt ys) }
    | 6 => match lookT σ.tm 4 with
      | .int _ i => some { α := Lv 6 (List Row × Int), R := fun ⟨(ys, k)⟩ => (0 ≤ k ∧ k ≤ i ∧ i < ys.length ∧ (ys.length : Int) ≤ xs.length ∧ (xs.length : Int) ≤ ys.length) ∧ Srt xs ys i.toNat k.toNat, μ := fun ⟨(_, k)⟩ => k.toNat, st := fun ⟨(ys, k)⟩ => upH σ [(5, .int .i64 k), (3, .own 0)] 0 (.rows 3 KInt ys) }
      | _ => none
    | _ => none, ?_⟩
  repeat' (first | with_reducible refine And.intro ?_ ?_ | (with_reducible intro h; first | (exact absurd h (by decide)) | (guard_hyp h : true = true; clear h) | (guard_hyp h : false = false; clear h) | (have hq := (h : Lv 3 _); clear hq; obtain ⟨_, _⟩ := h) | (have hq := (h : Lv 6 _); clear hq; obtain ⟨_, _⟩ := h) | skip) | with_reducible exact True.intro | ((with_reducible refine (id ?_ : @Eq Bool (nodupN _) true)); kernel_rfl) | ((with_reducible refine (id ?_ : @Eq Bool (apartN _ _) true)); kernel_rfl) | ((with_reducible refine (id ?_ : @Eq Bool (formL _ _) true)); kernel_rfl) | ((with_reducible refine (id ?_ : @Eq _ _ _)); exact rfl) | ((conv => whnf); first | done | with_reducible refine And.intro ?_ ?_ | (with_reducible intro h; first | (exact absurd h (by decide)) | (guard_hyp h : true = true; clear h) | (guard_hyp h : false = false; clear h) | (have hq := (h : Lv 3 _); clear hq; obtain ⟨_, _⟩ := h) | (have hq := (h : Lv 6 _); clear hq; obtain ⟨_, _⟩ := h) | skip) | with_reducible exact True.intro | ((with_reducible refine (id ?_ : @Eq _ _ _)); exact rfl) | (refine Exists.intro _ (Exists.intro _ (And.intro (hrel ?_ ?_) ?_))) | refine Exists.intro (⟨(?_, ?_)⟩ : Lv 3 _) ?_ | refine Exists.intro (⟨(?_, ?_)⟩ : Lv 6 _) ?_ | refine Exists.intro _ (Exists.intro _ (And.intro hrel ?_)) | exact Or.inl rfl | exact Or.inr (And.intro rfl rfl) | (apply Exists.intro; refine And.intro ?_ ?_)) | exact Nat.le_of_ble_eq_true rfl)
  all_goals (try ((try (change _ = _)) <;> (try dsimp only at *) <;> (try simp only [decide_eq_true_eq, decide_eq_false_iff_not, Bool.not_eq_true', Bool.not_eq_false', Bool.and_eq_true, Bool.and_eq_false_iff, beq_iff_eq, bne_iff_ne, beq_eq_false_iff_ne, bne_eq_false_iff_eq, ne_eq, Decidable.not_not, bne_self_eq_false, Bool.false_eq_true, Bool.true_eq_false, Bool.not_true, Bool.not_false, not_true_eq_false, not_false_eq_true, Int.toNat_natCast, Nat.zero_add, Nat.reduceAdd, Nat.reduceMul, Nat.reduceDiv, Nat.mul_one, lenK_one, big, fill_len, marking_len, marks_len, nrms_len, List.length_set, List.length_append, List.length_map, List.length_replicate, List.length_cons, List.length_nil, Int.natCast_add, Int.natCast_one, Int.natCast_zero] at *) <;> (repeat (with_reducible rename _ ∧ _ => hh; obtain ⟨_, _⟩ := hh)) <;> (first | omega | (refine fits_i64 ?_; omega) | (split <;> omega) | exact srto_zero hn hd | exact srt_start (by with_reducible assumption) (by omega) | exact srt_end0 (by with_reducible assumption) (by omega) (by omega) (by omega) | exact srt_end1 (by with_reducible assumption) (by with_reducible assumption) (by omega) (by omega) (by omega) (by omega) | exact srt_swapI (by with_reducible assumption) (by with_reducible assumption) (by omega) (by omega) (by omega) | exact sort_fin (by with_reducible assumption) (by omega))))
/-! Who is reached. -/
theorem rnd_add1 {ws out : List Row} {who r i : Int} (h : RndB ws who out r i) (hy : (rc (row ws i.toNat) 0).int = who) (hn : ¬ memI out (rc (row ws i.toNat) 1).int) (h0 : 0 ≤ i) (hi : i < ws.length) : RndB ws who (out ++ [[Sc.i (rc (row ws i.toNat) 1).int]]) r (i + 1) := rnd_add h (.inl hy) (fun q => hn (mem_memI.1 q)) h0 hi
theorem rnd_add2 {ws out : List Row} {who r i : Int} (h : RndB ws who out r i) (hy : memI out (rc (row ws i.toNat) 0).int) (hn : ¬ memI out (rc (row ws i.toNat) 1).int) (h0 : 0 ≤ i) (hi : i < ws.length) : RndB ws who (out ++ [[Sc.i (rc (row ws i.toNat) 1).int]]) r (i + 1) := rnd_add h (.inr (mem_memI.2 hy)) (fun q => hn (mem_memI.1 q)) h0 hi
theorem rnd_skip1 {ws out : List Row} {who r i : Int} (h : RndB ws who out r i) (hm : memI out (rc (row ws i.toNat) 1).int) (h0 : 0 ≤ i) : RndB ws who out r (i + 1) := rnd_skip h h0 (fun _ => mem_memI.2 hm)
theorem rnd_skip2 {ws out : List Row} {who r i : Int} (h : RndB ws who out r i) (h1 : ¬ (rc (row ws i.toNat) 0).int = who) (h2 : ¬ memI out (rc (row ws i.toNat) 0).int) (h0 : 0 ≤ i) : RndB ws who out r (i + 1) := rnd_skip h h0 (fun q => q.elim (fun q => absurd q h1) (fun q => absurd (mem_memI.1 q) h2))
theorem rnd_len {ws out : List Row} {who r i : Int} (h : RndB ws who out r i) (hv : WV ws) : out.length ≤ 8 := grw_le h.g hv
theorem rnd_lenA {ws out : List Row} {who r : Int} (h : RndA ws who out r) (hv : WV ws) : out.length ≤ 8 := grw_le h.g hv
theorem rnd_n {ws out : List Row} {who r : Int} (h : RndA ws who out r) : nrms KInt out = out := h.g.n
theorem rnd_d {ws out : List Row} {who r : Int} (h : RndA ws who out r) : Dst out := h.g.d
theorem rnd_sort {ws out ys : List Row} {who r : Int} (h : RndA ws who out r) (hs : SortOf out ys) (hv : WV ws) (hr : ¬ r ≤ 8) : ys = reachL ws who := sort_asc hs (rnd_fin h hr hv)
noncomputable def cReached : Ct := ⟨[], fun ds K => match ds with
  | [.view ks ws, .int .i64 who] => ks = KWait ∧ WV ws ∧ K (.fr 3 KInt (reachL ws who)) []
  | _ => False⟩
set_option maxRecDepth 100000 in
set_option maxHeartbeats 8000000 in
theorem p_reached : Proved 49 cReached := by
  refine proved_of [(50, cIsIn), (57, cSorted)] ⟨p_sIsIn, p_sorted, trivial⟩ [.tmp 4] Try.func49 rfl rfl rfl rfl (by kernel_rfl) ?_
  intro ds K hrel
  simp only [cReached] at hrel
  split at hrel
  case h_2 => exact hrel.elim
  rename_i ks ws who
  obtain ⟨rfl, hv, hrel⟩ := hrel
  have hn := hv.n
  refine ⟨rfl, Nat.le_of_ble_eq_true rfl, fun k σ => match k with
    | 3 => some { α := Lv 3 (List Row × Int), R := fun ⟨(out, r)⟩ => (0 ≤ r ∧ r ≤ 9 ∧ out.length ≤ 8) ∧ RndA ws who out r, μ := fun ⟨(_, r)⟩ => (9 - r).toNat, st := fun ⟨(out, r)⟩ => upH σ [(6, .int .i64 r), (5, .own 0)] 0 (.rows 3 KInt out) }
    | 6 => match lookT σ.tm 6 with
      | .int _ r => some { α := Lv 6 (List Row × Int), R := fun ⟨(out, i)⟩ => (0 ≤ i ∧ i ≤ ws.length ∧ out.length ≤ 8) ∧ RndB ws who out r i, μ := fun ⟨(_, i)⟩ => (ws.length - i).toNat, st := fun ⟨(out, i)⟩ => upH σ [(7, .int .i64 i), (5, .own 0)] 0 (.rows 3 KInt out) }
      | _ => none
    | _ => none, ?_⟩
  repeat' (first | with_reducible refine And.intro ?_ ?_ | (with_reducible intro h; first | (exact absurd h (by decide)) | (guard_hyp h : true = true; clear h) | (guard_hyp h : false = false; clear h) | (have hq := (h : Lv 3 _); clear hq; obtain ⟨_, _⟩ := h) | (have hq := (h : Lv 6 _); clear hq; obtain ⟨_, _⟩ := h) | skip) | with_reducible exact True.intro | ((with_reducible refine (id ?_ : @Eq Bool (nodupN _) true)); kernel_rfl) | ((with_reducible refine (id ?_ : @Eq Bool (apartN _ _) true)); kernel_rfl) | ((with_reducible refine (id ?_ : @Eq Bool (formL _ _) true)); kernel_rfl) | ((with_reducible refine (id ?_ : @Eq _ _ _)); exact rfl) | ((conv => whnf); first | done | with_reducible refine And.intro ?_ ?_ | (with_reducible intro h; first | (exact absurd h (by decide)) | (guard_hyp h : true = true; clear h) | (guard_hyp h : false = false; clear h) | (have hq := (h : Lv 3 _); clear hq; obtain ⟨_, _⟩ := h) | (have hq := (h : Lv 6 _); clear hq; obtain ⟨_, _⟩ := h) | skip) | with_reducible exact True.intro | ((with_reducible refine (id ?_ : @Eq _ _ _)); exact rfl) | refine Exists.intro (⟨(?_, ?_)⟩ : Lv 3 _) ?_ | refine Exists.intro (⟨(?_, ?_)⟩ : Lv 6 _) ?_ | refine Exists.intro _ (Exists.intro _ (And.intro hrel ?_)) | exact Or.inl rfl | exact Or.inr (And.intro rfl rfl) | (apply Exists.intro; refine And.intro ?_ ?_)) | exact Nat.le_of_ble_eq_true rfl)
  all_goals (try ((try (change _ = _)) <;> (try dsimp only at *) <;> (try simp only [decide_eq_true_eq, decide_eq_false_iff_not, Bool.not_eq_true', Bool.not_eq_false', Bool.and_eq_true, Bool.and_eq_false_iff, beq_iff_eq, bne_iff_ne, beq_eq_false_iff_ne, bne_eq_false_iff_eq, ne_eq, Decidable.not_not, bne_self_eq_false, Bool.false_eq_true, Bool.true_eq_false, Bool.not_true, Bool.not_false, not_true_eq_false, not_false_eq_true, Int.toNat_natCast, Nat.zero_add, Nat.reduceAdd, Nat.reduceMul, Nat.reduceDiv, Nat.mul_one, lenK_one, big, fill_len, marking_len, marks_len, nrms_len, List.length_set, List.length_append, List.length_map, List.length_replicate, List.length_cons, List.length_nil, Int.natCast_add, Int.natCast_one, Int.natCast_zero] at *) <;> (repeat (with_reducible rename _ ∧ _ => hh; obtain ⟨_, _⟩ := hh)) <;> (first | omega | (refine fits_i64 ?_; omega) | (split <;> omega) | (with_reducible assumption) | exact rnd_zero _ _ | exact rnd_in (by with_reducible assumption) | exact rnd_out (by with_reducible assumption) (by omega) (by omega) | exact rnd_add1 (by with_reducible assumption) (by with_reducible assumption) (by with_reducible assumption) (by omega) (by omega) | exact rnd_add2 (by with_reducible assumption) (by with_reducible assumption) (by with_reducible assumption) (by omega) (by omega) | exact rnd_skip1 (by with_reducible assumption) (by with_reducible assumption) (by omega) | exact rnd_skip2 (by with_reducible assumption) (by with_reducible assumption) (by with_reducible assumption) (by omega) | exact rnd_n (by with_reducible assumption) | exact rnd_d (by with_reducible assumption) | exact rnd_sort (by with_reducible assumption) (by with_reducible assumption) hv (by omega) | (have q := rnd_len (rnd_add1 (by with_reducible assumption) (by with_reducible assumption) (by with_reducible assumption) (by omega) (by omega)) hv; simp only [List.length_append, List.length_cons, List.length_nil] at q; omega) | (have q := rnd_len (rnd_add2 (by with_reducible assumption) (by with_reducible assumption) (by with_reducible assumption) (by omega) (by omega)) hv; simp only [List.length_append, List.length_cons, List.length_nil] at q; omega))))
noncomputable def cWF : Ct := ⟨[], fun ds K => match ds with
  | [.view ks ws, .int .i64 who] => ks = KWait ∧ ws.length ≤ 1048576 ∧ K (.fr 3 KInt (waitsF ws who)) []
  | _ => False⟩
noncomputable def cLF : Ct := ⟨[], fun ds K => match ds with
  | [.view ks ws] => ks = KWait ∧ ws.length ≤ 1048576 ∧ K (.fr 3 KInt (lockF ws)) []
  | _ => False⟩
theorem reach_len (ws : List Row) (who : Int) : (reachL ws who).length ≤ 8 := ascL_len _ 8
theorem reach_big (ws : List Row) (who : Int) : ((reachL ws who).length : Int) < 9223372036854775808 := by have := reach_len ws who; omega
theorem reach_mem {ws : List Row} {who v : Int} (h : WV ws) : memI (reachL ws who) v ↔ Rch ws who v := by
  rw [← mem_memI]
  unfold reachL
  rw [ascL_mem]
  exact ⟨fun q => q.2.2, fun q => ⟨(rch_range h q).2.1, by have := (rch_range h q).2; omega, q⟩⟩
theorem lk_yes {ws : List Row} {n : Int} (hm : memI (reachL ws n) n) (hv : WV ws) (h0 : 0 ≤ n) : ascL (fun v => Rch ws v v) n.toNat ++ [[Sc.i n]] = ascL (fun v => Rch ws v v) (n + 1).toNat := ascL_yes (P := fun v => Rch ws v v) ((reach_mem hv).1 hm) h0
theorem lk_no {ws : List Row} {n : Int} (hm : ¬ memI (reachL ws n) n) (hv : WV ws) (h0 : 0 ≤ n) : ascL (fun v => Rch ws v v) n.toNat = ascL (fun v => Rch ws v v) (n + 1).toNat := ascL_no (P := fun v => Rch ws v v) (fun q => hm ((reach_mem hv).2 q)) h0
theorem asc_bnd (P : Int → Prop) {n : Int} (h0 : 0 ≤ n) (h : n ≤ 7) : ((ascL P n.toNat).length + 1) * 8 ≤ 140737488355328 := by have := ascL_len P n.toNat; omega
set_option maxRecDepth 100000 in
set_option maxHeartbeats 4000000 in
theorem p_sWF : Proved 21 cWF := by
  refine proved_of [(47, cWV), (48, cInRange), (49, cReached)] ⟨p_validWaits, p_inRange, p_reached, trivial⟩ [.tmp 4] Try.func21 rfl rfl rfl rfl (by kernel_rfl) ?_
  intro ds K hrel
  simp only [cWF] at hrel
  split at hrel
  case h_2 => exact hrel.elim
  rename_i ks ws who
  obtain ⟨rfl, h1, hrel⟩ := hrel
  refine ⟨rfl, Nat.le_of_ble_eq_true rfl, fun _ _ => none, ?_⟩
  repeat' (first | with_reducible refine And.intro ?_ ?_ | (with_reducible intro h; first | (exact absurd h (by decide)) | (guard_hyp h : true = true; clear h) | (guard_hyp h : false = false; clear h) | skip) | with_reducible exact True.intro | ((with_reducible refine (id ?_ : @Eq Bool (nodupN _) true)); kernel_rfl) | ((with_reducible refine (id ?_ : @Eq Bool (apartN _ _) true)); kernel_rfl) | ((with_reducible refine (id ?_ : @Eq Bool (formL _ _) true)); kernel_rfl) | ((with_reducible refine (id ?_ : @Eq _ _ _)); exact rfl) | ((conv => whnf); first | done | with_reducible refine And.intro ?_ ?_ | (with_reducible intro h; first | (exact absurd h (by decide)) | (guard_hyp h : true = true; clear h) | (guard_hyp h : false = false; clear h) | skip) | with_reducible exact True.intro | ((with_reducible refine (id ?_ : @Eq _ _ _)); exact rfl) | refine Exists.intro _ (Exists.intro _ (And.intro hrel ?_)) | exact Or.inl rfl | exact Or.inr (And.intro rfl rfl) | (apply Exists.intro; refine And.intro ?_ ?_)) | exact Nat.le_of_ble_eq_true rfl)
  all_goals (try ((try (change _ = _)) <;> (try dsimp only at *) <;> (try simp only [decide_eq_true_eq, decide_eq_false_iff_not, Bool.not_eq_true', Bool.not_eq_false', Bool.and_eq_true, Bool.and_eq_false_iff, beq_iff_eq, bne_iff_ne, beq_eq_false_iff_ne, bne_eq_false_iff_eq, ne_eq, Decidable.not_not, bne_self_eq_false, Bool.false_eq_true, Bool.true_eq_false, Bool.not_true, Bool.not_false, not_true_eq_false, not_false_eq_true, Int.toNat_natCast, Nat.zero_add, Nat.reduceAdd, Nat.reduceMul, Nat.reduceDiv, Nat.mul_one, lenK_one, big, fill_len, marking_len, marks_len, nrms_len, List.length_set, List.length_append, List.length_map, List.length_replicate, List.length_cons, List.length_nil, Int.natCast_add, Int.natCast_one, Int.natCast_zero] at *) <;> (repeat (with_reducible rename _ ∧ _ => hh; obtain ⟨_, _⟩ := hh)) <;> (first | omega | (refine fits_i64 ?_; omega) | (split <;> omega) | (with_reducible assumption) | exact waits_noV (by with_reducible assumption) | exact waits_noW (by omega) | exact waits_is (by with_reducible assumption) (by omega))))
set_option maxRecDepth 100000 in
set_option maxHeartbeats 4000000 in
theorem p_sLF : Proved 25 cLF := by
  refine proved_of [(47, cWV), (50, cIsIn), (49, cReached)] ⟨p_validWaits, p_sIsIn, p_reached, trivial⟩ [.tmp 2] Try.func25 rfl rfl rfl rfl (by kernel_rfl) ?_
  intro ds K hrel
  simp only [cLF] at hrel
  split at hrel
  case h_2 => exact hrel.elim
  rename_i ks ws
  obtain ⟨rfl, h1, hrel⟩ := hrel
  refine ⟨rfl, Nat.le_of_ble_eq_true rfl, fun k σ => match k with
    | 5 => some { α := Lv 5 Int, R := fun ⟨n⟩ => (0 ≤ n ∧ n ≤ 8) ∧ WV ws, μ := fun ⟨n⟩ => (8 - n).toNat, st := fun ⟨n⟩ => upH σ [(4, .int .i64 n), (3, .own 0)] 0 (.rows 3 KInt (ascL (fun v => Rch ws v v) n.toNat)) }
    | _ => none, ?_⟩
  repeat' (first | with_reducible refine And.intro ?_ ?_ | (with_reducible intro h; first | (exact absurd h (by decide)) | (guard_hyp h : true = true; clear h) | (guard_hyp h : false = false; clear h) | (have hq := (h : Lv 5 _); clear hq; obtain ⟨_⟩ := h) | skip) | with_reducible exact True.intro | ((with_reducible refine (id ?_ : @Eq Bool (nodupN _) true)); kernel_rfl) | ((with_reducible refine (id ?_ : @Eq Bool (apartN _ _) true)); kernel_rfl) | ((with_reducible refine (id ?_ : @Eq Bool (formL _ _) true)); kernel_rfl) | ((with_reducible refine (id ?_ : @Eq _ _ _)); exact rfl) | ((conv => whnf); first | done | with_reducible refine And.intro ?_ ?_ | (with_reducible intro h; first | (exact absurd h (by decide)) | (guard_hyp h : true = true; clear h) | (guard_hyp h : false = false; clear h) | (have hq := (h : Lv 5 _); clear hq; obtain ⟨_⟩ := h) | skip) | with_reducible exact True.intro | ((with_reducible refine (id ?_ : @Eq _ _ _)); exact rfl) | refine Exists.intro (⟨?_⟩ : Lv 5 _) ?_ | refine Exists.intro _ (Exists.intro _ (And.intro hrel ?_)) | exact Or.inl rfl | exact Or.inr (And.intro rfl rfl) | (apply Exists.intro; refine And.intro ?_ ?_)) | exact Nat.le_of_ble_eq_true rfl)
  all_goals (try ((try (change _ = _)) <;> (try dsimp only at *) <;> (try simp only [decide_eq_true_eq, decide_eq_false_iff_not, Bool.not_eq_true', Bool.not_eq_false', Bool.and_eq_true, Bool.and_eq_false_iff, beq_iff_eq, bne_iff_ne, beq_eq_false_iff_ne, bne_eq_false_iff_eq, ne_eq, Decidable.not_not, bne_self_eq_false, Bool.false_eq_true, Bool.true_eq_false, Bool.not_true, Bool.not_false, not_true_eq_false, not_false_eq_true, Int.toNat_natCast, Nat.zero_add, Nat.reduceAdd, Nat.reduceMul, Nat.reduceDiv, Nat.mul_one, lenK_one, big, fill_len, marking_len, marks_len, nrms_len, List.length_set, List.length_append, List.length_map, List.length_replicate, List.length_cons, List.length_nil, Int.natCast_add, Int.natCast_one, Int.natCast_zero] at *) <;> (repeat (with_reducible rename _ ∧ _ => hh; obtain ⟨_, _⟩ := hh)) <;> (first | omega | (refine fits_i64 ?_; omega) | (split <;> omega) | (with_reducible assumption) | (with_reducible exact ascL_zero' _) | (with_reducible exact lk_yes (by with_reducible assumption) (by with_reducible assumption) (by omega)) | (with_reducible exact (lk_yes (by with_reducible assumption) (by with_reducible assumption) (by omega)).symm) | (with_reducible exact lk_no (by with_reducible assumption) (by with_reducible assumption) (by omega)) | (with_reducible exact lock_no (by with_reducible assumption)) | (with_reducible exact lock_isI' (by with_reducible assumption) (by omega) (by omega)) | (with_reducible exact asc_bnd _ (by omega) (by omega)) | (with_reducible exact reach_big _ _))))
/-! Victims. -/
@[irreducible] def woI (ws : List Row) (v : Int) (i : Nat) : List Row := nrms KWait ((ws.take i).filter (woP v))
theorem wo_yes {ws : List Row} {v i : Int} (h1 : ¬ (rc (row ws i.toNat) 0).int = v) (h2 : ¬ (rc (row ws i.toNat) 1).int = v) (h0 : 0 ≤ i) (hi : i < ws.length) : woI ws v i.toNat ++ [[Sc.i (rc (row ws i.toNat) 0).int, Sc.i (rc (row ws i.toNat) 1).int]] = woI ws v (i + 1).toNat := by
  unfold woI; exact (filt_yes h0 hi (woP_yes h1 h2)).symm
theorem wo_no1 {ws : List Row} {v i : Int} (h1 : (rc (row ws i.toNat) 0).int = v) (h0 : 0 ≤ i) (hi : i < ws.length) : woI ws v i.toNat = woI ws v (i + 1).toNat := by unfold woI; exact (filt_no h0 hi (woP_no1 h1)).symm
theorem wo_no2 {ws : List Row} {v i : Int} (h1 : (rc (row ws i.toNat) 1).int = v) (h0 : 0 ≤ i) (hi : i < ws.length) : woI ws v i.toNat = woI ws v (i + 1).toNat := by unfold woI; exact (filt_no h0 hi (woP_no2 h1)).symm
theorem wo_zero (ws : List Row) (v : Int) : [] = woI ws v (Int.toNat 0) := by simp [woI, nrms]
theorem wo_all {ws : List Row} {v i : Int} (h : ¬ i < ws.length) : woI ws v i.toNat = woF ws v := by unfold woI; exact filt_all h
theorem wo_bnd (ws : List Row) (v : Int) (i : Nat) (h : ws.length ≤ 1048576) : ((woI ws v i).length + 1) * 16 ≤ 140737488355328 := by unfold woI; have := filt_len KWait (woP v) ws i; omega
def cWo : Ct := ⟨[], fun ds K => match ds with
  | [.view ks ws, .int .i64 v] => ks = KWait ∧ ws.length ≤ 1048576 ∧ K (.fr 41 KWait (woF ws v)) []
  | _ => False⟩
set_option maxRecDepth 100000 in
set_option maxHeartbeats 4000000 in
theorem p_without : Proved 53 cWo := by
  refine proved_of [] trivial [.tmp 4] Try.func53 rfl rfl rfl rfl (by kernel_rfl) ?_
  intro ds K hrel
  simp only [cWo] at hrel
  split at hrel
  case h_2 => exact hrel.elim
  rename_i ks ws v
  obtain ⟨rfl, h1, hrel⟩ := hrel
  refine ⟨rfl, Nat.le_of_ble_eq_true rfl, fun k σ => match k with
    | 3 => some { α := Lv 3 Int, R := fun ⟨i⟩ => (0 ≤ i ∧ i ≤ ws.length) ∧ True, μ := fun ⟨i⟩ => (ws.length - i).toNat, st := fun ⟨i⟩ => upH σ [(6, .int .i64 i), (5, .own 0)] 0 (.rows 41 KWait (woI ws v i.toNat)) }
    | _ => none, ?_⟩
  repeat' (first | with_reducible refine And.intro ?_ ?_ | (with_reducible intro h; first | (exact absurd h (by decide)) | (guard_hyp h : true = true; clear h) | (guard_hyp h : false = false; clear h) | (have hq := (h : Lv 3 _); clear hq; obtain ⟨_⟩ := h) | skip) | with_reducible exact True.intro | ((with_reducible refine (id ?_ : @Eq Bool (nodupN _) true)); kernel_rfl) | ((with_reducible refine (id ?_ : @Eq Bool (apartN _ _) true)); kernel_rfl) | ((with_reducible refine (id ?_ : @Eq Bool (formL _ _) true)); kernel_rfl) | ((with_reducible refine (id ?_ : @Eq _ _ _)); exact rfl) | ((conv => whnf); first | done | with_reducible refine And.intro ?_ ?_ | (with_reducible intro h; first | (exact absurd h (by decide)) | (guard_hyp h : true = true; clear h) | (guard_hyp h : false = false; clear h) | (have hq := (h : Lv 3 _); clear hq; obtain ⟨_⟩ := h) | skip) | with_reducible exact True.intro | ((with_reducible refine (id ?_ : @Eq _ _ _)); exact rfl) | refine Exists.intro (⟨?_⟩ : Lv 3 _) ?_ | refine Exists.intro _ (Exists.intro _ (And.intro hrel ?_)) | exact Or.inl rfl | exact Or.inr (And.intro rfl rfl) | (apply Exists.intro; refine And.intro ?_ ?_)) | exact Nat.le_of_ble_eq_true rfl)
  all_goals (try ((try (change _ = _)) <;> (try dsimp only at *) <;> (try simp only [decide_eq_true_eq, decide_eq_false_iff_not, Bool.not_eq_true', Bool.not_eq_false', Bool.and_eq_true, Bool.and_eq_false_iff, beq_iff_eq, bne_iff_ne, beq_eq_false_iff_ne, bne_eq_false_iff_eq, ne_eq, Decidable.not_not, bne_self_eq_false, Bool.false_eq_true, Bool.true_eq_false, Bool.not_true, Bool.not_false, not_true_eq_false, not_false_eq_true, Int.toNat_natCast, Nat.zero_add, Nat.reduceAdd, Nat.reduceMul, Nat.reduceDiv, Nat.mul_one, lenK_one, big, fill_len, marking_len, marks_len, nrms_len, List.length_set, List.length_append, List.length_map, List.length_replicate, List.length_cons, List.length_nil, Int.natCast_add, Int.natCast_one, Int.natCast_zero] at *) <;> (repeat (with_reducible rename _ ∧ _ => hh; obtain ⟨_, _⟩ := hh)) <;> (first | omega | (refine fits_i64 ?_; omega) | (split <;> omega) | (with_reducible exact wo_zero _ _) | (with_reducible exact (wo_zero _ _).symm) | (with_reducible exact wo_yes (by with_reducible assumption) (by with_reducible assumption) (by omega) (by omega)) | (with_reducible exact (wo_yes (by with_reducible assumption) (by with_reducible assumption) (by omega) (by omega)).symm) | (with_reducible exact wo_no1 (by with_reducible assumption) (by omega) (by omega)) | (with_reducible exact wo_no2 (by with_reducible assumption) (by omega) (by omega)) | (with_reducible exact wo_all (by omega)) | (with_reducible exact wo_bnd _ _ _ (by omega)) | (with_reducible exact True.intro))))
theorem vs_step {ws ls acc : List Row} (h : VicR ws ls acc) (hl : ¬ ((lockF ls).length : Int) = 0) : VicR ws (woF ls (rc (row (lockF ls) (((lockF ls).length : Int) - 1).toNat) 0).int) (acc ++ [[Sc.i (rc (row (lockF ls) (((lockF ls).length : Int) - 1).toNat) 0).int]]) := by
  have := vicr_step h (len1 hl)
  unfold lastN numT at this
  rw [show (((lockF ls).length : Int) - 1).toNat = (lockF ls).length - 1 by omega]; exact this
theorem vs_lt {ls : List Row} (hl : ¬ ((lockF ls).length : Int) = 0) : (woF ls (rc (row (lockF ls) (((lockF ls).length : Int) - 1).toNat) 0).int).length < ls.length := by
  have := wo_len (last_mem (len1 hl))
  unfold lastN numT at this
  rw [show (((lockF ls).length : Int) - 1).toNat = (lockF ls).length - 1 by omega]; exact this
theorem vs_fin {ws ls acc : List Row} (h : VicR ws ls acc) (hl : ((lockF ls).length : Int) = 0) : acc = vic ws := vicr_fin h (len0 hl)
theorem vs_no {ws : List Row} (h : ¬ WV ws) : vic ws = [] := vic_nil (lock_no h)
theorem vs_len {ws ls acc : List Row} (h : VicR ws ls acc) : acc.length + ls.length ≤ ws.length := h.l
theorem lock_big (ws : List Row) : ((lockF ws).length : Int) < 9223372036854775808 := by have := lock_len ws; omega
noncomputable def cVic : Ct := ⟨[], fun ds K => match ds with
  | [.view ks ws] => ks = KWait ∧ ws.length ≤ 1048576 ∧ K (.fr 3 KInt (vic ws)) []
  | _ => False⟩
set_option maxRecDepth 100000 in
set_option maxHeartbeats 8000000 in
theorem p_sVic : Proved 35 cVic := by
  refine proved_of [(47, cWV), (25, cLF), (53, cWo)] ⟨p_validWaits, p_sLF, p_without, trivial⟩ [.tmp 2] Try.func35 rfl rfl rfl rfl (by kernel_rfl) ?_
  intro ds K hrel
  simp only [cVic] at hrel
  split at hrel
  case h_2 => exact hrel.elim
  rename_i ks ws
  obtain ⟨rfl, h1, hrel⟩ := hrel
  refine ⟨rfl, Nat.le_of_ble_eq_true rfl, fun k σ => match k with
    | 4 => some { α := Lv 4 (List Row × List Row), R := fun ⟨(ls, acc)⟩ => (acc.length + ls.length ≤ ws.length ∧ (lockF ls).length ≤ 8) ∧ VicR ws ls acc, μ := fun ⟨(ls, _)⟩ => ls.length, st := fun ⟨(ls, acc)⟩ => ⟨[(0, .view KWait ls), (3, .own 0)], [some (.rows 3 KInt acc)]⟩, sw := true }
    | _ => none, ?_⟩
  repeat' (first | with_reducible refine And.intro ?_ ?_ | (with_reducible intro h; first | (exact absurd h (by decide)) | (guard_hyp h : true = true; clear h) | (guard_hyp h : false = false; clear h) | (have hq := (h : Lv 4 _); clear hq; obtain ⟨_, _⟩ := h) | skip) | with_reducible exact True.intro | ((with_reducible refine (id ?_ : @Eq Bool (nodupN _) true)); kernel_rfl) | ((with_reducible refine (id ?_ : @Eq Bool (apartN _ _) true)); kernel_rfl) | ((with_reducible refine (id ?_ : @Eq Bool (formL _ _) true)); kernel_rfl) | ((with_reducible refine (id ?_ : @Eq _ _ _)); exact rfl) | ((conv => whnf); first | done | with_reducible refine And.intro ?_ ?_ | (with_reducible intro h; first | (exact absurd h (by decide)) | (guard_hyp h : true = true; clear h) | (guard_hyp h : false = false; clear h) | (have hq := (h : Lv 4 _); clear hq; obtain ⟨_, _⟩ := h) | skip) | with_reducible exact True.intro | ((with_reducible refine (id ?_ : @Eq _ _ _)); exact rfl) | refine Exists.intro (⟨(?_, ?_)⟩ : Lv 4 _) ?_ | refine Exists.intro _ (Exists.intro _ (And.intro hrel ?_)) | exact Or.inl rfl | exact Or.inr (And.intro rfl rfl) | (apply Exists.intro; refine And.intro ?_ ?_)) | exact Nat.le_of_ble_eq_true rfl)
  all_goals (try ((try (change _ = _)) <;> (try dsimp only at *) <;> (try simp only [decide_eq_true_eq, decide_eq_false_iff_not, Bool.not_eq_true', Bool.not_eq_false', Bool.and_eq_true, Bool.and_eq_false_iff, beq_iff_eq, bne_iff_ne, beq_eq_false_iff_ne, bne_eq_false_iff_eq, ne_eq, Decidable.not_not, bne_self_eq_false, Bool.false_eq_true, Bool.true_eq_false, Bool.not_true, Bool.not_false, not_true_eq_false, not_false_eq_true, Int.toNat_natCast, Nat.zero_add, Nat.reduceAdd, Nat.reduceMul, Nat.reduceDiv, Nat.mul_one, lenK_one, big, fill_len, marking_len, marks_len, nrms_len, List.length_set, List.length_append, List.length_map, List.length_replicate, List.length_cons, List.length_nil, Int.natCast_add, Int.natCast_one, Int.natCast_zero] at *) <;> (repeat (with_reducible rename _ ∧ _ => hh; obtain ⟨_, _⟩ := hh)) <;> (first | omega | (refine fits_i64 ?_; omega) | (split <;> omega) | (with_reducible exact Nat.le_of_eq (Nat.zero_add _)) | exact vicr_zero _ | (with_reducible exact lock_len _) | (with_reducible exact vs_step (by with_reducible assumption) (by with_reducible assumption)) | (exact vs_step (by with_reducible assumption) (by with_reducible assumption)) | (with_reducible exact vs_lt (by with_reducible assumption)) | (with_reducible exact vs_fin (by with_reducible assumption) (by with_reducible assumption)) | (with_reducible exact vs_no (by with_reducible assumption)) | (have q := vs_len (by with_reducible assumption); omega) | (have q := vs_len (vs_step (by with_reducible assumption) (by with_reducible assumption)); simp only [List.length_append, List.length_cons, List.length_nil] at q; omega))))
end Go.Proofs.Ytbppiknmlipmpaa.V
