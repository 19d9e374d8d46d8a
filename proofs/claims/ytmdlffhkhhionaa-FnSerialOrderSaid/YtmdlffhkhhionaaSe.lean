/-
  Serial orders: the law that orders keep conflicts, as a function.
-/
import Derived.Test.YtmdlffhkhhionaaSd
set_option linter.unusedSimpArgs false
set_option linter.unusedVariables false
namespace Go.Proofs.Ytmdlffhkhhionaa.V
open Go Go.RowKit
open Classical

set_option maxRecDepth 100000 in
set_option maxHeartbeats 4000000 in
theorem p_lIsIn : Proved 29 cIsIn := by
  refine proved_of [] trivial [.tmp 4] Try.func29 rfl rfl rfl rfl (by kernel_rfl) ?_
  intro ds K hrel
  simp only [cIsIn] at hrel
  split at hrel
  case h_2 => exact hrel.elim
  rename_i ks xs n
  obtain ⟨rfl, h1, hrel⟩ := hrel
  refine ⟨rfl, Nat.le_of_ble_eq_true rfl, fun k σ => match k with
    | 2 => some { α := Lv 2 Int, R := fun i => (0 ≤ i.v ∧ i.v ≤ xs.length) ∧ NoI xs n i.v, μ := fun i => (xs.length - i.v).toNat, st := fun i => up σ [(5, .int .i64 i.v)] }
    | _ => none, ?_⟩
  repeat' (first | with_reducible refine And.intro ?_ ?_ | (with_reducible intro h; first | (exact absurd h (by decide)) | (guard_hyp h : true = true; clear h) | (guard_hyp h : false = false; clear h) | (have hq := (h : Lv 2 _); clear hq; obtain ⟨_⟩ := h) | skip) | with_reducible exact True.intro | ((with_reducible refine (id ?_ : @Eq Bool (nodupN _) true)); kernel_rfl) | ((with_reducible refine (id ?_ : @Eq Bool (apartN _ _) true)); kernel_rfl) | ((with_reducible refine (id ?_ : @Eq Bool (formL _ _) true)); kernel_rfl) | ((with_reducible refine (id ?_ : @Eq _ _ _)); exact rfl) | ((conv => whnf); first | done | with_reducible refine And.intro ?_ ?_ | (with_reducible intro h; first | (exact absurd h (by decide)) | (guard_hyp h : true = true; clear h) | (guard_hyp h : false = false; clear h) | (have hq := (h : Lv 2 _); clear hq; obtain ⟨_⟩ := h) | skip) | with_reducible exact True.intro | ((with_reducible refine (id ?_ : @Eq _ _ _)); exact rfl) | refine Exists.intro (⟨?_⟩ : Lv 2 _) ?_ | refine Exists.intro _ (Exists.intro _ (And.intro hrel ?_)) | exact Or.inl rfl | exact Or.inr (And.intro rfl rfl) | (apply Exists.intro; refine And.intro ?_ ?_)) | exact Nat.le_of_ble_eq_true rfl)
  all_goals (try ((try (change _ = _)) <;> (try dsimp only at *) <;> (try simp only [decide_eq_true_eq, decide_eq_false_iff_not, Bool.not_eq_true', Bool.not_eq_false', Bool.and_eq_true, Bool.and_eq_false_iff, beq_iff_eq, bne_iff_ne, beq_eq_false_iff_ne, bne_eq_false_iff_eq, ne_eq, Decidable.not_not, bne_self_eq_false, Bool.false_eq_true, Bool.true_eq_false, Bool.not_true, Bool.not_false, not_true_eq_false, not_false_eq_true, Int.toNat_natCast, Nat.zero_add, Nat.reduceAdd, Nat.reduceMul, Nat.reduceDiv, Nat.mul_one, lenK_one, big, fill_len, marking_len, marks_len, nrms_len, List.length_set, List.length_append, List.length_map, List.length_replicate, List.length_cons, List.length_nil, Int.natCast_add, Int.natCast_one, Int.natCast_zero] at *) <;> (repeat (with_reducible rename _ ∧ _ => hh; obtain ⟨_, _⟩ := hh)) <;> (first | omega | (refine fits_i64 ?_; omega) | (split <;> omega) | exact noI_zero _ _ | exact noI_step (by assumption) (by omega) (by assumption) | exact isIn_yes (by omega) (by omega) (by assumption) | exact isIn_no (by assumption) (by omega))))
/-- The places of numbers in an order, while they are told. -/
def plI0 (ord : List Row) : Nat → List Row
  | 0 => List.replicate 8 [.i 0]
  | n + 1 => setI (plI0 ord n) (numT ord n) ((n : Int) + 1)
@[irreducible] def plI (ord : List Row) (n : Nat) : List Row := plI0 ord n
theorem plI_zero (ord : List Row) : plI ord 0 = List.replicate 8 [.i 0] := by simp [plI, plI0]
theorem plI_succ (ord : List Row) (n : Nat) : plI ord (n + 1) = setI (plI ord n) (numT ord n) ((n : Int) + 1) := by simp only [plI, plI0]
theorem plI_len (ord : List Row) : ∀ n : Nat, (plI ord n).length = 8
  | 0 => by rw [plI_zero]; rfl
  | n + 1 => by rw [plI_succ, setI_len]; exact plI_len ord n
theorem plI_begin {ord : List Row} {z : Row} (hz : z = [.i 0]) : List.replicate 8 z = plI ord (Int.toNat 0) := by rw [hz]; exact (plI_zero ord).symm
theorem plI_step {ord : List Row} {i : Int} (h0 : 0 ≤ i) : (plI ord i.toNat).set (rc (row ord i.toNat) 0).int.toNat (pasteR (row (plI ord i.toNat) (rc (row ord i.toNat) 0).int.toNat) 0 [Sc.i (i + 1)]) = plI ord (i + 1).toNat := by
  rw [show (i + 1).toNat = i.toNat + 1 by omega, plI_succ, show ((i.toNat : Nat) : Int) = i by omega]; rfl
theorem plI_at {ord : List Row} (hd : Dst ord) (hr : ∀ v, Mem ord v → 0 ≤ v ∧ v ≤ 7) : ∀ n : Nat, n ≤ ord.length → ∀ j : Nat, j < n → numT (plI ord n) (numT ord j).toNat = (j : Int) + 1
  | 0, _, j, hj => by omega
  | n + 1, hn, j, hj => by
    have hrj := hr _ ⟨j, by omega, rfl⟩
    have hrn := hr _ ⟨n, by omega, rfl⟩
    rw [plI_succ, numT_setI (by rw [plI_len]; omega)]
    by_cases e : j = n
    · rw [e, if_pos rfl]
    · have hne := hd.h j n (by omega) (by omega)
      rw [if_neg (by omega)]
      exact plI_at hd hr n (by omega) j (by omega)
/-- An order that was found, and its places. -/
structure SOk (xs : List Row) : Prop where
  h : (serL xs).2 = true
theorem so_rng {xs : List Row} (h : SOk xs) {v : Int} (hm : Mem (serL xs).1 v) : 0 ≤ v ∧ v ≤ 7 := own_range (serL_va h.h) (((serL_mem h.h).2 v).1 hm)
theorem so_lo {xs : List Row} {i : Int} (h : SOk xs) (hb : (rc (row (serL xs).1 i.toNat) 0).int < 0) (h0 : 0 ≤ i) (hi : i < (serL xs).1.length) : False := by
  have := so_rng h (v := numT (serL xs).1 i.toNat) ⟨i.toNat, by omega, rfl⟩
  unfold numT at this; omega
theorem so_hi {xs : List Row} {i : Int} (h : SOk xs) (hb : 7 < (rc (row (serL xs).1 i.toNat) 0).int) (h0 : 0 ≤ i) (hi : i < (serL xs).1.length) : False := by
  have := so_rng h (v := numT (serL xs).1 i.toNat) ⟨i.toNat, by omega, rfl⟩
  unfold numT at this; omega
theorem so_r0 {xs : List Row} {i : Int} (h : SOk xs) (h0 : 0 ≤ i) (hi : i < (serL xs).1.length) : 0 ≤ (rc (row (serL xs).1 i.toNat) 0).int ∧ (rc (row (serL xs).1 i.toNat) 0).int < 8 := by
  have := so_rng h (v := numT (serL xs).1 i.toNat) ⟨i.toNat, by omega, rfl⟩
  unfold numT at this; omega
theorem so_dup {xs : List Row} {i : Int} (h : SOk xs) (hm : memI ((serL xs).1.take i.toNat) (rc (row (serL xs).1 i.toNat) 0).int) (h0 : 0 ≤ i) (hi : i < (serL xs).1.length) : False := by
  obtain ⟨j, h1, h2⟩ := mem_memI.2 hm
  rw [List.length_take] at h1
  unfold numT at h2
  rw [row_takeA (by omega)] at h2
  exact (serL_mem h.h).1.h j i.toNat (by omega) (by omega) h2
theorem so_tk (xs : List Row) (n : Nat) : (((serL xs).1.take n).length : Int) < 9223372036854775808 := by rw [List.length_take]; have := serL_len xs; omega
/-- The places told in full. -/
structure PlA (xs pl : List Row) : Prop where
  h : SOk xs
  l : pl.length = 8
  v : ∀ o, Own xs o → numT pl o.toNat = (place (serL xs).1 o : Int) + 1
theorem pl_all {xs : List Row} {i : Int} (h : SOk xs) (hi : ¬ i < (serL xs).1.length) (h2 : i ≤ (serL xs).1.length) : PlA xs (plI (serL xs).1 i.toNat) := by
  refine ⟨h, plI_len _ _, fun o ho => ?_⟩
  obtain ⟨hd, hm⟩ := serL_mem h.h
  obtain ⟨p1, p2⟩ := place_is ((hm o).2 ho)
  have := plI_at hd (fun v hv => so_rng h hv) i.toNat (by omega) (place (serL xs).1 o) (by omega)
  rw [p2] at this; exact this
theorem so_o {xs : List Row} {i : Int} (h : SOk xs) (h0 : 0 ≤ i) (hi : i < xs.length) : 0 ≤ (rc (row xs i.toNat) 0).int ∧ (rc (row xs i.toNat) 0).int < 8 := by
  have := own_range (serL_va h.h) ⟨i.toNat, by omega, rfl⟩
  omega
theorem pl_o {xs pl : List Row} {i : Int} (h : PlA xs pl) (h0 : 0 ≤ i) (hi : i < xs.length) : 0 ≤ (rc (row xs i.toNat) 0).int ∧ (rc (row xs i.toNat) 0).int < 8 := so_o h.h h0 hi
theorem pl_ne {xs pl : List Row} {i : Int} (h : PlA xs pl) (hb : (rc (row pl (rc (row xs i.toNat) 0).int.toNat) 0).int = 0) (h0 : 0 ≤ i) (hi : i < xs.length) : False := by
  have := h.v _ (⟨i.toNat, by omega, rfl⟩ : Own xs (rc (row xs i.toNat) 0).int)
  unfold numT at this; omega
theorem pl_bad {xs pl : List Row} {i k : Int} (h : PlA xs pl) (hb : (rc (row pl (rc (row xs i.toNat) 0).int.toNat) 0).int ≤ (rc (row pl (rc (row xs k.toNat) 0).int.toNat) 0).int) (c1 : ¬ (rc (row xs k.toNat) 0).int = (rc (row xs i.toNat) 0).int) (c2 : (rc (row xs k.toNat) 2).int = (rc (row xs i.toNat) 2).int) (c3 : ¬ (rc (row xs k.toNat) 1).int = 2) (c4 : ¬ (rc (row xs i.toNat) 1).int = 2) (c5 : (rc (row xs k.toNat) 1).int = 1 ∨ (rc (row xs i.toNat) 1).int = 1) (h0 : 0 ≤ k) (hk : k < i) (hi : i < xs.length) : False := by
  have hb' : Bef xs (rc (row xs k.toNat) 0).int (rc (row xs i.toNat) 0).int := ⟨k.toNat, i.toNat, by omega, by omega, ⟨c1, c2, c3, c4, c5⟩, rfl, rfl⟩
  have hp := serL_place h.h.h hb'
  have ho := bef_own hb'
  have e1 := h.v _ ho.1
  have e2 := h.v _ ho.2
  unfold numT at e1 e2
  omega
theorem pl_bad1 {xs pl : List Row} {i k : Int} (h : PlA xs pl) (hb : (rc (row pl (rc (row xs i.toNat) 0).int.toNat) 0).int ≤ (rc (row pl (rc (row xs k.toNat) 0).int.toNat) 0).int) (c1 : ¬ (rc (row xs k.toNat) 0).int = (rc (row xs i.toNat) 0).int) (c2 : (rc (row xs k.toNat) 2).int = (rc (row xs i.toNat) 2).int) (c3 : ¬ (rc (row xs k.toNat) 1).int = 2) (c4 : ¬ (rc (row xs i.toNat) 1).int = 2) (c5 : (rc (row xs k.toNat) 1).int = 1) (h0 : 0 ≤ k) (hk : k < i) (hi : i < xs.length) : False := pl_bad h hb c1 c2 c3 c4 (.inl c5) h0 hk hi
theorem pl_bad2 {xs pl : List Row} {i k : Int} (h : PlA xs pl) (hb : (rc (row pl (rc (row xs i.toNat) 0).int.toNat) 0).int ≤ (rc (row pl (rc (row xs k.toNat) 0).int.toNat) 0).int) (c1 : ¬ (rc (row xs k.toNat) 0).int = (rc (row xs i.toNat) 0).int) (c2 : (rc (row xs k.toNat) 2).int = (rc (row xs i.toNat) 2).int) (c3 : ¬ (rc (row xs k.toNat) 1).int = 2) (c4 : ¬ (rc (row xs i.toNat) 1).int = 2) (c5 : (rc (row xs i.toNat) 1).int = 1) (h0 : 0 ≤ k) (hk : k < i) (hi : i < xs.length) : False := pl_bad h hb c1 c2 c3 c4 (.inr c5) h0 hk hi
theorem sok_of {xs : List Row} (h : (serL xs).2 = true) : SOk xs := ⟨h⟩
theorem pl_l {xs pl : List Row} (h : PlA xs pl) : pl.length = 8 := h.l
set_option maxRecDepth 100000 in
set_option maxHeartbeats 32000000 in
theorem p_fnSerialOrder : Proved 11 (cLaw [.c (.s KU8)]) := by
  refine proved_of [(26, cDrawActs), (25, cSer), (27, cSer), (28, cEq KInt), (29, cIsIn)] ⟨p_drawSerialOrder, p_iSer, p_sSer, p_equalIntS, p_lIsIn, trivial⟩ [.tmp 2] Try.func11 rfl rfl rfl rfl (by kernel_rfl) ?_
  rintro ds K ⟨hds, hrel⟩
  obtain ⟨xs, rfl, h1, h2⟩ := law_code hds
  unfold maxLen at h1
  refine ⟨rfl, Nat.le_of_ble_eq_true rfl, fun k σ => match lookH σ.hp 0 with
    | some (.rows _ _ ys) => match k with
      | 10 => some { α := Lv 10 Int, R := fun ⟨i⟩ => (0 ≤ i ∧ i ≤ (serL ys).1.length ∧ ys.length ≤ 16 ∧ (serL ys).1.length ≤ 8) ∧ SOk ys, μ := fun ⟨i⟩ => ((serL ys).1.length - i).toNat, st := fun ⟨i⟩ => ⟨[(9, .int .i64 i), (3, .own 0), (4, .view KInt (serL ys).1), (8, .own 3)], [some (.rows 33 KAct ys), none, none, some (.rows 3 KInt (plI (serL ys).1 i.toNat))]⟩ }
      | 16 => match lookH σ.hp 3 with
        | some (.rows _ _ pl) => some { α := Lv 16 Int, R := fun ⟨i⟩ => (0 ≤ i ∧ i ≤ ys.length ∧ ys.length ≤ 16 ∧ 8 ≤ (pl.length : Int) ∧ (pl.length : Int) ≤ 8) ∧ PlA ys pl, μ := fun ⟨i⟩ => (ys.length - i).toNat, st := fun ⟨i⟩ => ⟨[(10, .int .i64 i), (3, .own 0), (8, .own 3)], [some (.rows 33 KAct ys), none, none, some (.rows 3 KInt pl)]⟩ }
        | _ => none
      | 19 => match lookT σ.tm 10 with
        | .int _ i => some { α := Lv 19 Int, R := fun ⟨k⟩ => (0 ≤ k ∧ k ≤ i), μ := fun ⟨k⟩ => (i - k).toNat, st := fun ⟨k⟩ => up σ [(11, .int .i64 k)] }
        | _ => none
      | _ => none
    | _ => none, ?_⟩
  repeat' (first | with_reducible refine And.intro ?_ ?_ | (with_reducible intro h; first | (exact absurd h (by decide)) | (guard_hyp h : true = true; clear h) | (guard_hyp h : false = false; clear h) | (have hq := (h : Lv 10 _); clear hq; obtain ⟨_⟩ := h) | (have hq := (h : Lv 16 _); clear hq; obtain ⟨_⟩ := h) | (have hq := (h : Lv 19 _); clear hq; obtain ⟨_⟩ := h) | skip) | with_reducible exact True.intro | ((with_reducible refine (id ?_ : @Eq Bool (nodupN _) true)); kernel_rfl) | ((with_reducible refine (id ?_ : @Eq Bool (apartN _ _) true)); kernel_rfl) | ((with_reducible refine (id ?_ : @Eq Bool (formL _ _) true)); kernel_rfl) | ((with_reducible refine (id ?_ : @Eq _ _ _)); exact rfl) | ((conv => whnf); first | done | with_reducible refine And.intro ?_ ?_ | (with_reducible intro h; first | (exact absurd h (by decide)) | (guard_hyp h : true = true; clear h) | (guard_hyp h : false = false; clear h) | (have hq := (h : Lv 10 _); clear hq; obtain ⟨_⟩ := h) | (have hq := (h : Lv 16 _); clear hq; obtain ⟨_⟩ := h) | (have hq := (h : Lv 19 _); clear hq; obtain ⟨_⟩ := h) | skip) | with_reducible exact True.intro | ((with_reducible refine (id ?_ : @Eq _ _ _)); exact rfl) | refine Exists.intro (⟨?_⟩ : Lv 10 _) ?_ | refine Exists.intro (⟨?_⟩ : Lv 16 _) ?_ | refine Exists.intro (⟨?_⟩ : Lv 19 _) ?_ | refine Exists.intro _ (Exists.intro _ (And.intro hrel ?_)) | exact Or.inl rfl | exact Or.inr (And.intro rfl rfl) | (apply Exists.intro; refine And.intro ?_ ?_)) | exact Nat.le_of_ble_eq_true rfl)
  all_goals (try ((try (change _ = _)) <;> (try dsimp only at *) <;> (try simp only [decide_eq_true_eq, decide_eq_false_iff_not, Bool.not_eq_true', Bool.not_eq_false', Bool.and_eq_true, Bool.and_eq_false_iff, beq_iff_eq, bne_iff_ne, beq_eq_false_iff_ne, bne_eq_false_iff_eq, ne_eq, Decidable.not_not, bne_self_eq_false, Bool.false_eq_true, Bool.true_eq_false, Bool.not_true, Bool.not_false, not_true_eq_false, not_false_eq_true, Int.toNat_natCast, Nat.zero_add, Nat.reduceAdd, Nat.reduceMul, Nat.reduceDiv, Nat.mul_one, lenK_one, big, fill_len, marking_len, marks_len, nrms_len, List.length_set, List.length_append, List.length_map, List.length_replicate, List.length_cons, List.length_nil, Int.natCast_add, Int.natCast_one, Int.natCast_zero, decide_true, beq_self_eq_true, List.drop_zero, Int.toNat_zero, plI_len] at *) <;> (repeat (with_reducible rename _ ∧ _ => hh; obtain ⟨_, _⟩ := hh)) <;> (first | omega | (refine fits_i64 ?_; omega) | (split <;> omega) | exact h2 _ (by with_reducible assumption) | (with_reducible assumption) | (with_reducible exact se_big _) | (with_reducible exact serL_len _) | exact sok_of (by with_reducible assumption) | (with_reducible exact so_tk _ _) | (exact plI_begin rfl) | (with_reducible exact plI_step (by omega)) | (with_reducible exact (plI_step (by omega)).symm) | (exfalso; exact so_lo (by with_reducible assumption) (by with_reducible assumption) (by omega) (by omega)) | (exfalso; exact so_hi (by with_reducible assumption) (by with_reducible assumption) (by omega) (by omega)) | (exfalso; exact so_dup (by with_reducible assumption) (by with_reducible assumption) (by omega) (by omega)) | (exact (so_r0 (by with_reducible assumption) (by omega) (by omega)).1) | (exact (so_r0 (by with_reducible assumption) (by omega) (by omega)).2) | (exact pl_all (by with_reducible assumption) (by omega) (by omega)) | (exact (pl_o (by with_reducible assumption) (by omega) (by omega)).1) | (exact (pl_o (by with_reducible assumption) (by omega) (by omega)).2) | (have q := pl_l (by with_reducible assumption); have q2 := pl_o (by with_reducible assumption) (i := _) (by omega) (by omega); omega) | (exfalso; exact pl_ne (by with_reducible assumption) (by with_reducible assumption) (by omega) (by omega)) | (exfalso; exact pl_bad1 (by with_reducible assumption) (by with_reducible assumption) (by with_reducible assumption) (by with_reducible assumption) (by with_reducible assumption) (by with_reducible assumption) (by with_reducible assumption) (by omega) (by omega) (by omega)) | (exfalso; exact pl_bad2 (by with_reducible assumption) (by with_reducible assumption) (by with_reducible assumption) (by with_reducible assumption) (by with_reducible assumption) (by with_reducible assumption) (by with_reducible assumption) (by omega) (by omega) (by omega)))))
end Go.Proofs.Ytmdlffhkhhionaa.V
