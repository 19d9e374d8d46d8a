/-
  Checkpoints: sizes, copies, equality; where repeating starts; the law that the program answers as the reference does, as a function.
-/
import Derived.Test.YtlkjddbhcbnmkaaLsR
set_option linter.unusedSimpArgs false
set_option linter.unusedVariables false
namespace Go.Proofs.Ytlkjddbhcbnmkaa.V
open Go Go.RowKit
open Classical

def cSzCheck : Ct := ⟨[], fun ds K => match ds with
  | [.agg [.view k1 a, .view k2 b, .view k3 c], .int .i64 n] => k1 = KInt ∧ k2 = KInt ∧ k3 = KInt ∧ ((a.length : Int) < big ∧ (b.length : Int) < big ∧ (c.length : Int) < big ∧ 0 ≤ n ∧ n < big) ∧ ∀ q : Int, (0 ≤ q → (a.length : Int) ≤ n ∧ (b.length : Int) ≤ n ∧ (c.length : Int) ≤ n) → (q ≤ n) → K (.int .i64 q) []
  | _ => False⟩
set_option maxRecDepth 100000 in
set_option maxHeartbeats 4000000 in
theorem p_szCheck : Proved 13 cSzCheck := by
  refine proved_of [(47, cSz KInt)] ⟨p_szIntS, trivial⟩ [.tmp 4] Try.func13 rfl rfl rfl rfl (by kernel_rfl) ?_
  intro ds K hrel
  simp only [cSzCheck] at hrel
  split at hrel
  case h_2 => exact hrel.elim
  obtain ⟨rfl, rfl, rfl, ⟨h1, h2, h3, h4, h5⟩, hrel⟩ := hrel
  refine ⟨rfl, Nat.le_of_ble_eq_true rfl, fun _ _ => none, ?_⟩
  repeat' (first | with_reducible refine And.intro ?_ ?_ | (with_reducible intro h; first | (exact absurd h (by decide)) | (guard_hyp h : true = true; clear h) | (guard_hyp h : false = false; clear h) | skip) | with_reducible exact True.intro | ((with_reducible refine (id ?_ : @Eq Bool (nodupN _) true)); kernel_rfl) | ((with_reducible refine (id ?_ : @Eq Bool (apartN _ _) true)); kernel_rfl) | ((with_reducible refine (id ?_ : @Eq Bool (formL _ _) true)); kernel_rfl) | ((with_reducible refine (id ?_ : @Eq _ _ _)); exact rfl) | ((conv => whnf); first | done | with_reducible refine And.intro ?_ ?_ | (with_reducible intro h; first | (exact absurd h (by decide)) | (guard_hyp h : true = true; clear h) | (guard_hyp h : false = false; clear h) | skip) | with_reducible exact True.intro | ((with_reducible refine (id ?_ : @Eq _ _ _)); exact rfl) | (refine Exists.intro _ (Exists.intro _ (And.intro (hrel ?_ ?_ ?_) ?_))) | refine Exists.intro _ (Exists.intro _ (And.intro hrel ?_)) | exact Or.inl rfl | exact Or.inr (And.intro rfl rfl) | (apply Exists.intro; refine And.intro ?_ ?_)) | exact Nat.le_of_ble_eq_true rfl)
  all_goals (try ((try (change _ = _)) <;> (try dsimp only at *) <;> (try simp only [decide_eq_true_eq, decide_eq_false_iff_not, Bool.not_eq_true', Bool.not_eq_false', Bool.and_eq_true, Bool.and_eq_false_iff, beq_iff_eq, bne_iff_ne, beq_eq_false_iff_ne, bne_eq_false_iff_eq, ne_eq, Decidable.not_not, bne_self_eq_false, Bool.false_eq_true, Bool.true_eq_false, Bool.not_true, Bool.not_false, not_true_eq_false, not_false_eq_true, Int.toNat_natCast, Nat.zero_add, Nat.reduceAdd, Nat.reduceMul, Nat.reduceDiv, Nat.mul_one, lenK_one, big, fill_len, marking_len, marks_len, nrms_len, List.length_set, List.length_append, List.length_map, List.length_replicate, List.length_cons, List.length_nil, Int.natCast_add, Int.natCast_one, Int.natCast_zero] at *) <;> (repeat (with_reducible rename _ ∧ _ => hh; obtain ⟨_, _⟩ := hh)) <;> (first | omega | (refine fits_i64 ?_; omega) | (split <;> omega) | (intro hq; omega) | (split <;> omega) | (split <;> split <;> omega) | (split <;> split <;> split <;> omega))))

def cToCheck : Ct := ⟨[], fun ds K => match ds with
  | [.agg [.view k1 a, .view k2 b, .view k3 c]] => k1 = KInt ∧ k2 = KInt ∧ k3 = KInt ∧ (a.length ≤ 1048576 ∧ b.length ≤ 1048576 ∧ c.length ≤ 1048576) ∧ K (.agg [.fr 3 KInt (nrms KInt a), .fr 3 KInt (nrms KInt b), .fr 3 KInt (nrms KInt c)]) []
  | _ => False⟩
set_option maxRecDepth 100000 in
set_option maxHeartbeats 4000000 in
theorem p_toCheck : Proved 15 cToCheck := by
  refine proved_of [(20, cTo 3 KInt)] ⟨p_toIntS, trivial⟩ [.cell 2 27] Try.func15 rfl rfl rfl rfl (by kernel_rfl) ?_
  intro ds K hrel
  simp only [cToCheck] at hrel
  split at hrel
  case h_2 => exact hrel.elim
  obtain ⟨rfl, rfl, rfl, ⟨h1, h2, h3⟩, hrel⟩ := hrel
  refine ⟨rfl, Nat.le_of_ble_eq_true rfl, fun _ _ => none, ?_⟩
  repeat' (first | with_reducible refine And.intro ?_ ?_ | (with_reducible intro h; first | (exact absurd h (by decide)) | (guard_hyp h : true = true; clear h) | (guard_hyp h : false = false; clear h) | skip) | with_reducible exact True.intro | ((with_reducible refine (id ?_ : @Eq Bool (nodupN _) true)); kernel_rfl) | ((with_reducible refine (id ?_ : @Eq Bool (apartN _ _) true)); kernel_rfl) | ((with_reducible refine (id ?_ : @Eq Bool (formL _ _) true)); kernel_rfl) | ((with_reducible refine (id ?_ : @Eq _ _ _)); exact rfl) | ((conv => whnf); first | done | with_reducible refine And.intro ?_ ?_ | (with_reducible intro h; first | (exact absurd h (by decide)) | (guard_hyp h : true = true; clear h) | (guard_hyp h : false = false; clear h) | skip) | with_reducible exact True.intro | ((with_reducible refine (id ?_ : @Eq _ _ _)); exact rfl) | refine Exists.intro _ (Exists.intro _ (And.intro hrel ?_)) | exact Or.inl rfl | exact Or.inr (And.intro rfl rfl) | (apply Exists.intro; refine And.intro ?_ ?_)) | exact Nat.le_of_ble_eq_true rfl)
  all_goals (try ((try (change _ = _)) <;> (try dsimp only at *) <;> (try simp only [decide_eq_true_eq, decide_eq_false_iff_not, Bool.not_eq_true', Bool.not_eq_false', Bool.and_eq_true, Bool.and_eq_false_iff, beq_iff_eq, bne_iff_ne, beq_eq_false_iff_ne, bne_eq_false_iff_eq, ne_eq, Decidable.not_not, bne_self_eq_false, Bool.false_eq_true, Bool.true_eq_false, Bool.not_true, Bool.not_false, not_true_eq_false, not_false_eq_true, Int.toNat_natCast, Nat.zero_add, Nat.reduceAdd, Nat.reduceMul, Nat.reduceDiv, Nat.mul_one, lenK_one, big, fill_len, marking_len, marks_len, nrms_len, List.length_set, List.length_append, List.length_map, List.length_replicate, List.length_cons, List.length_nil, Int.natCast_add, Int.natCast_one, Int.natCast_zero] at *) <;> (repeat (with_reducible rename _ ∧ _ => hh; obtain ⟨_, _⟩ := hh)) <;> (first | omega | (refine fits_i64 ?_; omega) | (split <;> omega))))

noncomputable def cEqCheck : Ct := ⟨[], fun ds K => match ds with
  | [.agg [.view k1 a, .view k2 b, .view k3 c], .agg [.view l1 x, .view l2 y, .view l3 z]] => (k1 = KInt ∧ k2 = KInt ∧ k3 = KInt ∧ l1 = KInt ∧ l2 = KInt ∧ l3 = KInt) ∧ ((a.length : Int) < big ∧ (b.length : Int) < big ∧ (c.length : Int) < big) ∧ K (.bool (decide (nrms KInt a = nrms KInt x ∧ nrms KInt b = nrms KInt y ∧ nrms KInt c = nrms KInt z))) []
  | _ => False⟩
set_option maxRecDepth 100000 in
set_option maxHeartbeats 4000000 in
theorem p_eqCheck : Proved 17 cEqCheck := by
  refine proved_of [(23, cEq KInt)] ⟨p_eqIntS, trivial⟩ [.tmp 4] Try.func17 rfl rfl rfl rfl (by kernel_rfl) ?_
  intro ds K hrel
  simp only [cEqCheck] at hrel
  split at hrel
  case h_2 => exact hrel.elim
  obtain ⟨⟨rfl, rfl, rfl, rfl, rfl, rfl⟩, ⟨h1, h2, h3⟩, hrel⟩ := hrel
  refine ⟨rfl, Nat.le_of_ble_eq_true rfl, fun _ _ => none, ?_⟩
  repeat' (first | with_reducible refine And.intro ?_ ?_ | (with_reducible intro h; first | (exact absurd h (by decide)) | (guard_hyp h : true = true; clear h) | (guard_hyp h : false = false; clear h) | skip) | with_reducible exact True.intro | ((with_reducible refine (id ?_ : @Eq Bool (nodupN _) true)); kernel_rfl) | ((with_reducible refine (id ?_ : @Eq Bool (apartN _ _) true)); kernel_rfl) | ((with_reducible refine (id ?_ : @Eq Bool (formL _ _) true)); kernel_rfl) | ((with_reducible refine (id ?_ : @Eq _ _ _)); exact rfl) | ((conv => whnf); first | done | with_reducible refine And.intro ?_ ?_ | (with_reducible intro h; first | (exact absurd h (by decide)) | (guard_hyp h : true = true; clear h) | (guard_hyp h : false = false; clear h) | skip) | with_reducible exact True.intro | ((with_reducible refine (id ?_ : @Eq _ _ _)); exact rfl) | refine Exists.intro _ (Exists.intro _ (And.intro hrel ?_)) | exact Or.inl rfl | exact Or.inr (And.intro rfl rfl) | (apply Exists.intro; refine And.intro ?_ ?_)) | exact Nat.le_of_ble_eq_true rfl)
  all_goals (try ((try (change _ = _)) <;> (try dsimp only at *) <;> (try simp only [decide_eq_true_eq, decide_eq_false_iff_not, Bool.not_eq_true', Bool.not_eq_false', Bool.and_eq_true, Bool.and_eq_false_iff, beq_iff_eq, bne_iff_ne, beq_eq_false_iff_ne, bne_eq_false_iff_eq, ne_eq, Decidable.not_not, bne_self_eq_false, Bool.false_eq_true, Bool.true_eq_false, Bool.not_true, Bool.not_false, not_true_eq_false, not_false_eq_true, Int.toNat_natCast, Nat.zero_add, Nat.reduceAdd, Nat.reduceMul, Nat.reduceDiv, Nat.mul_one, lenK_one, big, fill_len, marking_len, marks_len, nrms_len, List.length_set, List.length_append, List.length_map, List.length_replicate, List.length_cons, List.length_nil, Int.natCast_add, Int.natCast_one, Int.natCast_zero] at *) <;> (repeat (with_reducible rename _ ∧ _ => hh; obtain ⟨_, _⟩ := hh)) <;> (first | omega | (refine fits_i64 ?_; omega) | (split <;> omega) | exact false_eq (fun h => absurd h.1 (by assumption)) | exact false_eq (fun h => absurd h.2.1 (by assumption)) | exact false_eq (fun h => absurd h.2.2 (by assumption)) | exact true_eq ⟨by assumption, by assumption, by assumption⟩)))

/-- The least number of a list and of a. -/
@[irreducible] def lst (a : Int) (xs : List Row) : Int := xs.foldl (fun m r => min m (rc r 0).int) a
theorem lst_snoc (a : Int) (xs : List Row) (r : Row) : lst a (xs ++ [r]) = min (lst a xs) (rc r 0).int := by simp [lst]
theorem lst_step {a : Int} {xs : List Row} {i : Int} (h0 : 0 ≤ i) (h : i < xs.length) : lst a (xs.take (i + 1).toNat) = min (lst a (xs.take i.toNat)) (rc (row xs i.toNat) 0).int := by
  rw [show (i + 1).toNat = i.toNat + 1 by omega, take_succ_row (by omega), lst_snoc]
theorem lst_one {xs : List Row} (h : 1 ≤ xs.length) : lst (rc (row xs 0) 0).int (xs.take (1 : Int).toNat) = (rc (row xs 0) 0).int := by
  rw [show (1 : Int).toNat = 0 + 1 from rfl, take_succ_row (by omega), lst_snoc]
  simp [lst]
theorem lst_all {a : Int} {xs : List Row} {i : Int} (h : ¬ i < xs.length) : lst a (xs.take i.toNat) = lst a xs := by rw [List.take_of_length_le (by omega)]
theorem lst_zero (a : Int) (xs : List Row) : lst a (xs.take (Int.toNat 0)) = a := by simp [lst]
theorem lst_cons (a : Int) (xs : List Row) : lst a ([Sc.i a] :: xs) = lst a xs := by simp [lst, rc, Sc.int]

def cMin : Ct := ⟨[], fun ds K => match ds with
  | [.view ks xs] => ks = KInt ∧ (1 ≤ (xs.length : Int) ∧ (xs.length : Int) < big) ∧ K (.int .i64 (lst (rc (row xs 0) 0).int xs)) []
  | _ => False⟩
set_option maxRecDepth 100000 in
set_option maxHeartbeats 4000000 in
theorem p_min : Proved 50 cMin := by
  refine proved_of [] trivial [.tmp 2] Try.func50 rfl rfl rfl rfl (by kernel_rfl) ?_
  intro ds K hrel
  simp only [cMin] at hrel
  split at hrel
  case h_2 => exact hrel.elim
  rename_i ks xs
  obtain ⟨rfl, ⟨h1, h2⟩, hrel⟩ := hrel
  refine ⟨rfl, Nat.le_of_ble_eq_true rfl, fun k σ => match k with
    | 5 => some { α := Lv 5 Int, R := fun ⟨i⟩ => 1 ≤ i ∧ i ≤ xs.length, μ := fun ⟨i⟩ => (xs.length - i).toNat, st := fun ⟨i⟩ => up σ [(4, .int .i64 i), (3, .int .i64 (lst (rc (row xs 0) 0).int (xs.take i.toNat)))] }
    | _ => none, ?_⟩
  repeat' (first | with_reducible refine And.intro ?_ ?_ | (with_reducible intro h; first | (exact absurd h (by decide)) | (guard_hyp h : true = true; clear h) | (guard_hyp h : false = false; clear h) | (have hq := (h : Lv 5 _); clear hq; obtain ⟨_⟩ := h) | skip) | with_reducible exact True.intro | ((with_reducible refine (id ?_ : @Eq Bool (nodupN _) true)); kernel_rfl) | ((with_reducible refine (id ?_ : @Eq Bool (apartN _ _) true)); kernel_rfl) | ((with_reducible refine (id ?_ : @Eq Bool (formL _ _) true)); kernel_rfl) | ((with_reducible refine (id ?_ : @Eq _ _ _)); exact rfl) | ((conv => whnf); first | done | with_reducible refine And.intro ?_ ?_ | (with_reducible intro h; first | (exact absurd h (by decide)) | (guard_hyp h : true = true; clear h) | (guard_hyp h : false = false; clear h) | (have hq := (h : Lv 5 _); clear hq; obtain ⟨_⟩ := h) | skip) | with_reducible exact True.intro | ((with_reducible refine (id ?_ : @Eq _ _ _)); exact rfl) | refine Exists.intro (⟨?_⟩ : Lv 5 _) ?_ | refine Exists.intro _ (Exists.intro _ (And.intro hrel ?_)) | exact Or.inl rfl | exact Or.inr (And.intro rfl rfl) | (apply Exists.intro; refine And.intro ?_ ?_)) | exact Nat.le_of_ble_eq_true rfl)
  all_goals (try ((try (change _ = _)) <;> (try dsimp only at *) <;> (try simp only [decide_eq_true_eq, decide_eq_false_iff_not, Bool.not_eq_true', Bool.not_eq_false', Bool.and_eq_true, Bool.and_eq_false_iff, beq_iff_eq, bne_iff_ne, beq_eq_false_iff_ne, bne_eq_false_iff_eq, ne_eq, Decidable.not_not, bne_self_eq_false, Bool.false_eq_true, Bool.true_eq_false, Bool.not_true, Bool.not_false, not_true_eq_false, not_false_eq_true, Int.toNat_natCast, Nat.zero_add, Nat.reduceAdd, Nat.reduceMul, Nat.reduceDiv, Nat.mul_one, lenK_one, big, fill_len, marking_len, marks_len, nrms_len, List.length_set, List.length_append, List.length_map, List.length_replicate, List.length_cons, List.length_nil, Int.natCast_add, Int.natCast_one, Int.natCast_zero] at *) <;> (repeat (with_reducible rename _ ∧ _ => hh; obtain ⟨_, _⟩ := hh)) <;> (first | omega | (refine fits_i64 ?_; omega) | (split <;> omega) | exact (lst_one (by omega)).symm | exact (lst_step (by omega) (by omega)).symm | exact lst_all (by omega) | rfl)))

/-- A checkpoint that tells where to start. -/
structure RFok (ds fs : List Row) (a : Int) : Prop where
  e : fs.length = ds.length
  l : fs.length ≤ 6
  a0 : 0 ≤ a
  a1 : a ≤ 20
  f : AllIn fs 1 20 fs.length
noncomputable def redoF (ds fs : List Row) (a : Int) : Int := if RFok ds fs a then lst a fs else -1
theorem redoF_no {ds fs : List Row} {a : Int} (h : ¬ RFok ds fs a) : -1 = redoF ds fs a := by unfold redoF; rw [if_neg h]
theorem redoF_no1 {ds fs : List Row} {a : Int} (h : ¬ ((fs.length : Int) = ds.length ∧ (fs.length : Int) ≤ 6 ∧ 0 ≤ a ∧ a ≤ 20)) : -1 = redoF ds fs a := redoF_no (fun q => h ⟨by have := q.e; omega, by have := q.l; omega, q.a0, q.a1⟩)
theorem redoF_no2 {ds fs : List Row} {a : Int} (h : ¬ AllIn fs 1 20 fs.length) : -1 = redoF ds fs a := redoF_no (fun q => h q.f)
theorem redoF_no3 {ds fs : List Row} {a i : Int} (h0 : 0 ≤ i) (h1 : i < fs.length) (h : ¬ (1 ≤ (rc (row fs i.toNat) 0).int ∧ (rc (row fs i.toNat) 0).int ≤ 20)) : -1 = redoF ds fs a := redoF_no2 (allIn_not h0 h1 h)
theorem redoF_no3a {ds fs : List Row} {a i : Int} (h0 : 0 ≤ i) (h1 : i < fs.length) (h : (rc (row fs i.toNat) 0).int < 1) : -1 = redoF ds fs a := redoF_no3 h0 h1 (by omega)
theorem redoF_no3b {ds fs : List Row} {a i : Int} (h0 : 0 ≤ i) (h1 : i < fs.length) (h : 20 < (rc (row fs i.toNat) 0).int) : -1 = redoF ds fs a := redoF_no3 h0 h1 (by omega)
theorem redoF_yes {ds fs : List Row} {a : Int} (h : (fs.length : Int) = ds.length ∧ (fs.length : Int) ≤ 6 ∧ 0 ≤ a ∧ a ≤ 20) (h2 : AllIn fs 1 20 fs.length) : lst a fs = redoF ds fs a := by
  unfold redoF; rw [if_pos ⟨by omega, by omega, h.2.2.1, h.2.2.2, h2⟩]
theorem redoF_yes1 {ds fs : List Row} {a i : Int} (h : (fs.length : Int) = ds.length ∧ (fs.length : Int) ≤ 6 ∧ 0 ≤ a ∧ a ≤ 20) (h2 : AllIn fs 1 20 i) (hi : ¬ i < fs.length) : lst (rc (row ([[Sc.i a]] ++ fs) 0) 0).int ([[Sc.i a]] ++ fs) = redoF ds fs a := by
  show lst a ([Sc.i a] :: fs) = _
  rw [lst_cons]; exact redoF_yes h (allIn_all h2 hi)
theorem redoF_yes2 {ds fs : List Row} {a i : Int} (h : (fs.length : Int) = ds.length ∧ (fs.length : Int) ≤ 6 ∧ 0 ≤ a ∧ a ≤ 20) (h2 : AllIn fs 1 20 fs.length) (hi : ¬ i < fs.length) : lst a (fs.take i.toNat) = redoF ds fs a := by
  rw [lst_all hi]; exact redoF_yes h h2
noncomputable def cRF : Ct := ⟨[], fun ds K => match ds with
  | [.agg [.view k1 d, .view k2 f, .view k3 c], .int .i64 a] => k1 = KInt ∧ k2 = KInt ∧ k3 = KInt ∧ ((d.length : Int) < big ∧ (f.length : Int) < big ∧ (c.length : Int) < big) ∧ K (.int .i64 (redoF d f a)) []
  | _ => False⟩
set_option maxRecDepth 100000 in
set_option maxHeartbeats 4000000 in
theorem p_sRF : Proved 14 cRF := by
  refine proved_of [(48, cInRange), (49, cAllIn)] ⟨p_inRange, p_allIn, trivial⟩ [.tmp 4] Try.func14 rfl rfl rfl rfl (by kernel_rfl) ?_
  intro ds K hrel
  simp only [cRF] at hrel
  split at hrel
  case h_2 => exact hrel.elim
  rename_i k1 d k2 f k3 c a
  obtain ⟨rfl, rfl, rfl, ⟨h1, h2, h3⟩, hrel⟩ := hrel
  refine ⟨rfl, Nat.le_of_ble_eq_true rfl, fun k σ => match k with
    | 5 => some { α := Lv 5 Int, R := fun ⟨i⟩ => (0 ≤ i ∧ i ≤ f.length ∧ (f.length : Int) = d.length ∧ (f.length : Int) ≤ 6 ∧ 0 ≤ a ∧ a ≤ 20) ∧ AllIn f 1 20 f.length, μ := fun ⟨i⟩ => (f.length - i).toNat, st := fun ⟨i⟩ => up σ [(6, .int .i64 i), (5, .int .i64 (lst a (f.take i.toNat)))] }
    | _ => none, ?_⟩
  repeat' (first | with_reducible refine And.intro ?_ ?_ | (with_reducible intro h; first | (exact absurd h (by decide)) | (guard_hyp h : true = true; clear h) | (guard_hyp h : false = false; clear h) | (have hq := (h : Lv 5 _); clear hq; obtain ⟨_⟩ := h) | skip) | with_reducible exact True.intro | ((with_reducible refine (id ?_ : @Eq Bool (nodupN _) true)); kernel_rfl) | ((with_reducible refine (id ?_ : @Eq Bool (apartN _ _) true)); kernel_rfl) | ((with_reducible refine (id ?_ : @Eq Bool (formL _ _) true)); kernel_rfl) | ((with_reducible refine (id ?_ : @Eq _ _ _)); exact rfl) | ((conv => whnf); first | done | with_reducible refine And.intro ?_ ?_ | (with_reducible intro h; first | (exact absurd h (by decide)) | (guard_hyp h : true = true; clear h) | (guard_hyp h : false = false; clear h) | (have hq := (h : Lv 5 _); clear hq; obtain ⟨_⟩ := h) | skip) | with_reducible exact True.intro | ((with_reducible refine (id ?_ : @Eq _ _ _)); exact rfl) | refine Exists.intro (⟨?_⟩ : Lv 5 _) ?_ | refine Exists.intro _ (Exists.intro _ (And.intro hrel ?_)) | exact Or.inl rfl | exact Or.inr (And.intro rfl rfl) | (apply Exists.intro; refine And.intro ?_ ?_)) | exact Nat.le_of_ble_eq_true rfl)
  all_goals (try ((try (change _ = _)) <;> (try dsimp only at *) <;> (try simp only [decide_eq_true_eq, decide_eq_false_iff_not, Bool.not_eq_true', Bool.not_eq_false', Bool.and_eq_true, Bool.and_eq_false_iff, beq_iff_eq, bne_iff_ne, beq_eq_false_iff_ne, bne_eq_false_iff_eq, ne_eq, Decidable.not_not, bne_self_eq_false, Bool.false_eq_true, Bool.true_eq_false, Bool.not_true, Bool.not_false, not_true_eq_false, not_false_eq_true, Int.toNat_natCast, Nat.zero_add, Nat.reduceAdd, Nat.reduceMul, Nat.reduceDiv, Nat.mul_one, lenK_one, big, fill_len, marking_len, marks_len, nrms_len, List.length_set, List.length_append, List.length_map, List.length_replicate, List.length_cons, List.length_nil, Int.natCast_add, Int.natCast_one, Int.natCast_zero] at *) <;> (repeat (with_reducible rename _ ∧ _ => hh; obtain ⟨_, _⟩ := hh)) <;> (first | omega | (refine fits_i64 ?_; omega) | (split <;> omega) | exact redoF_no1 (by omega) | exact redoF_no2 (by assumption) | exact (lst_zero _ _).symm | exact (lst_step (by omega) (by omega)).symm | (refine redoF_yes2 ?_ (by assumption) ?_ <;> omega) | assumption | rfl)))
set_option maxRecDepth 100000 in
set_option maxHeartbeats 4000000 in
theorem p_iRF : Proved 16 cRF := by
  refine proved_of [(50, cMin)] ⟨p_min, trivial⟩ [.tmp 4] Try.func16 rfl rfl rfl rfl (by kernel_rfl) ?_
  intro ds K hrel
  simp only [cRF] at hrel
  split at hrel
  case h_2 => exact hrel.elim
  rename_i k1 d k2 f k3 c a
  obtain ⟨rfl, rfl, rfl, ⟨h1, h2, h3⟩, hrel⟩ := hrel
  refine ⟨rfl, Nat.le_of_ble_eq_true rfl, fun k σ => match k with
    | 4 => some { α := Lv 4 Int, R := fun ⟨i⟩ => (0 ≤ i ∧ i ≤ f.length ∧ (f.length : Int) = d.length ∧ (f.length : Int) ≤ 6 ∧ 0 ≤ a ∧ a ≤ 20) ∧ AllIn f 1 20 i, μ := fun ⟨i⟩ => (f.length - i).toNat, st := fun ⟨i⟩ => up σ [(31, .int .i64 i)] }
    | _ => none, ?_⟩
  repeat' (first | with_reducible refine And.intro ?_ ?_ | (with_reducible intro h; first | (exact absurd h (by decide)) | (guard_hyp h : true = true; clear h) | (guard_hyp h : false = false; clear h) | (have hq := (h : Lv 4 _); clear hq; obtain ⟨_⟩ := h) | skip) | with_reducible exact True.intro | ((with_reducible refine (id ?_ : @Eq Bool (nodupN _) true)); kernel_rfl) | ((with_reducible refine (id ?_ : @Eq Bool (apartN _ _) true)); kernel_rfl) | ((with_reducible refine (id ?_ : @Eq Bool (formL _ _) true)); kernel_rfl) | ((with_reducible refine (id ?_ : @Eq _ _ _)); exact rfl) | ((conv => whnf); first | done | with_reducible refine And.intro ?_ ?_ | (with_reducible intro h; first | (exact absurd h (by decide)) | (guard_hyp h : true = true; clear h) | (guard_hyp h : false = false; clear h) | (have hq := (h : Lv 4 _); clear hq; obtain ⟨_⟩ := h) | skip) | with_reducible exact True.intro | ((with_reducible refine (id ?_ : @Eq _ _ _)); exact rfl) | refine Exists.intro (⟨?_⟩ : Lv 4 _) ?_ | refine Exists.intro _ (Exists.intro _ (And.intro hrel ?_)) | exact Or.inl rfl | exact Or.inr (And.intro rfl rfl) | (apply Exists.intro; refine And.intro ?_ ?_)) | exact Nat.le_of_ble_eq_true rfl)
  all_goals (try ((try (change _ = _)) <;> (try dsimp only at *) <;> (try simp only [decide_eq_true_eq, decide_eq_false_iff_not, Bool.not_eq_true', Bool.not_eq_false', Bool.and_eq_true, Bool.and_eq_false_iff, beq_iff_eq, bne_iff_ne, beq_eq_false_iff_ne, bne_eq_false_iff_eq, ne_eq, Decidable.not_not, bne_self_eq_false, Bool.false_eq_true, Bool.true_eq_false, Bool.not_true, Bool.not_false, not_true_eq_false, not_false_eq_true, Int.toNat_natCast, Nat.zero_add, Nat.reduceAdd, Nat.reduceMul, Nat.reduceDiv, Nat.mul_one, lenK_one, big, fill_len, marking_len, marks_len, nrms_len, List.length_set, List.length_append, List.length_map, List.length_replicate, List.length_cons, List.length_nil, Int.natCast_add, Int.natCast_one, Int.natCast_zero] at *) <;> (repeat (with_reducible rename _ ∧ _ => hh; obtain ⟨_, _⟩ := hh)) <;> (first | omega | (refine fits_i64 ?_; omega) | (split <;> omega) | exact redoF_no1 (by omega) | (with_reducible rename Sc.int _ < 1 => hx; exact redoF_no3a (by omega) (by omega) hx) | (with_reducible rename 20 < Sc.int _ => hx; exact redoF_no3b (by omega) (by omega) hx) | exact allIn_zero _ _ _ | exact allIn_step (by assumption) (by omega) (by omega) | (refine redoF_yes1 ?_ (by assumption) ?_ <;> omega) | assumption | rfl)))

/-- A checkpoint among the cells of a law. -/
def CCheck : PK := .st [.s KInt, .s KInt, .s KInt]
/-- The orders of a region that draws. -/
def trRF : Nat → Option (Bool × Tr)
  | 10 => some (true, .take 0 (.take 1 (.all (.cons 2 (.all (.cons 3 (.take 4 .done) .nil)) .nil))))
  | _ => none
set_option maxRecDepth 100000 in
set_option maxHeartbeats 8000000 in
theorem p_fnExactRedoFrom : Proved 3 (cLaw [CCheck, .c (.k (.int .i64))]) := by
  refine proved_tr trRF [(13, cSzCheck), (15, cToCheck), (14, cRF), (16, cRF), (17, cEqCheck)]
    ⟨p_szCheck, p_toCheck, p_sRF, p_iRF, p_eqCheck, trivial⟩ [.tmp 4] Try.func3 rfl rfl rfl rfl (by kernel_rfl) ?_
  rintro ds K ⟨⟨a, l, rfl, ⟨al, rfl, hal⟩, ⟨b, l', rfl, ⟨after, rfl, ha⟩, rfl⟩⟩, hrel⟩
  obtain ⟨_, _, rfl, ⟨x, rfl, hx, -⟩, _, _, rfl, ⟨y, rfl, hy, -⟩, _, _, rfl, ⟨z, rfl, hz, -⟩, rfl⟩ := hal
  unfold maxLen at hx hy hz
  refine ⟨rfl, Nat.le_of_ble_eq_true rfl, fun _ _ => none, ?_⟩
  repeat' (first | with_reducible refine And.intro ?_ ?_ | (with_reducible intro h; first | (exact absurd h (by decide)) | (guard_hyp h : true = true; clear h) | (guard_hyp h : false = false; clear h) | skip) | with_reducible exact True.intro | ((with_reducible refine (id ?_ : @Eq Bool (nodupN _) true)); kernel_rfl) | ((with_reducible refine (id ?_ : @Eq Bool (apartN _ _) true)); kernel_rfl) | ((with_reducible refine (id ?_ : @Eq Bool (formL _ _) true)); kernel_rfl) | ((with_reducible refine (id ?_ : @Eq _ _ _)); exact rfl) | ((conv => whnf); first | done | with_reducible refine And.intro ?_ ?_ | (with_reducible intro h; first | (exact absurd h (by decide)) | (guard_hyp h : true = true; clear h) | (guard_hyp h : false = false; clear h) | skip) | with_reducible exact True.intro | ((with_reducible refine (id ?_ : @Eq _ _ _)); exact rfl) | refine Exists.intro _ (Exists.intro _ (And.intro hrel ?_)) | exact Or.inl rfl | exact Or.inr (And.intro rfl rfl) | (apply Exists.intro; refine And.intro ?_ ?_)) | exact Nat.le_of_ble_eq_true rfl)
  all_goals (try ((try (change _ = _)) <;> (try dsimp only at *) <;> (try simp only [decide_eq_true_eq, decide_eq_false_iff_not, Bool.not_eq_true', Bool.not_eq_false', Bool.and_eq_true, Bool.and_eq_false_iff, beq_iff_eq, bne_iff_ne, beq_eq_false_iff_ne, bne_eq_false_iff_eq, ne_eq, Decidable.not_not, bne_self_eq_false, Bool.false_eq_true, Bool.true_eq_false, Bool.not_true, Bool.not_false, not_true_eq_false, not_false_eq_true, Int.toNat_natCast, Nat.zero_add, Nat.reduceAdd, Nat.reduceMul, Nat.reduceDiv, Nat.mul_one, lenK_one, big, fill_len, marking_len, marks_len, nrms_len, List.length_set, List.length_append, List.length_map, List.length_replicate, List.length_cons, List.length_nil, Int.natCast_add, Int.natCast_one, Int.natCast_zero, nrms_nrms, decide_true, and_self] at *) <;> (repeat (with_reducible rename _ ∧ _ => hh; obtain ⟨_, _⟩ := hh)) <;> (first | omega | (refine fits_i64 ?_; omega) | (split <;> omega))))
end Go.Proofs.Ytlkjddbhcbnmkaa.V
