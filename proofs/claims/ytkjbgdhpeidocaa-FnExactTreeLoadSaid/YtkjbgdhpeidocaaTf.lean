/-
  Trees made of lists; their law.
-/
import Derived.Test.YtkjbgdhpeidocaaTe
set_option linter.unusedSimpArgs false
set_option linter.unusedVariables false
namespace Go.Proofs.Ytkjbgdhpeidocaa.V
open Go Go.RowKit
open Classical

def cCopy (e : Nat) (ks : List Kd) : Ct := ⟨[], fun ds K => match ds with
  | [.view js xs] => js = ks ∧ xs.length ≤ 1048576 ∧ K (.fr e ks xs) []
  | _ => False⟩
/-- How many leaves a list of L items makes; where leaf i begins. -/
def manyI (L : Int) : Int := (L + 4 - 1).tdiv 4
def atI (L : Int) : Nat → Int
  | 0 => 0
  | i + 1 => atI L i + L.tdiv (manyI L) + (if (i : Int) < L.tmod (manyI L) then 1 else 0)
theorem many_b {L : Int} (h0 : 0 ≤ L) (h1 : L ≤ 30) : 0 ≤ manyI L ∧ manyI L ≤ 8 := by
  unfold manyI
  rw [Int.tdiv_eq_ediv_of_nonneg (by omega)]
  omega
theorem many_fits {n : Nat} (h : n ≤ 1048576) : Fits .i64 (((n : Int) + 4 - 1).tdiv 4) := by
  rw [Int.tdiv_eq_ediv_of_nonneg (by omega)]
  exact fits_i64 (by omega)
theorem at_eq (L : Int) (h : 0 ≤ L.tmod (manyI L)) : ∀ i : Nat, atI L i = i * L.tdiv (manyI L) + min (i : Int) (L.tmod (manyI L))
  | 0 => by simp [atI]; omega
  | i + 1 => by
    rw [atI, at_eq L h i, Int.natCast_add, Int.add_mul]
    split <;> simp <;> omega
theorem div_b {L n : Int} (h0 : 0 ≤ L) (hn : 0 < n) : 0 ≤ L.tdiv n ∧ 0 ≤ L.tmod n ∧ L.tmod n < n ∧ n * L.tdiv n + L.tmod n = L ∧ L.tdiv n ≤ L := by
  rw [Int.tdiv_eq_ediv_of_nonneg h0, Int.tmod_eq_emod_of_nonneg h0]
  refine ⟨Int.ediv_nonneg h0 (by omega), Int.emod_nonneg _ (by omega), Int.emod_lt_of_pos _ hn, Int.mul_ediv_add_emod L n, Int.ediv_le_self _ h0⟩
theorem at_b {L : Int} {i : Nat} (h0 : 0 ≤ L) (h : (i : Int) < manyI L) : 0 ≤ atI L i ∧ 0 ≤ L.tdiv (manyI L) ∧ L.tdiv (manyI L) ≤ L ∧ 0 ≤ L.tmod (manyI L) ∧ atI L (i + 1) ≤ L ∧ atI L i ≤ atI L (i + 1) := by
  obtain ⟨h1, h2, h3, h4, h5⟩ := div_b h0 (show 0 < manyI L by omega)
  have e0 := at_eq L h2 i
  have e1 := at_eq L h2 (i + 1)
  have hi : 0 ≤ (i : Int) * L.tdiv (manyI L) := Int.mul_nonneg (by omega) h1
  have hm : ((i + 1 : Nat) : Int) * L.tdiv (manyI L) ≤ manyI L * L.tdiv (manyI L) := Int.mul_le_mul_of_nonneg_right (by omega) h1
  have hs : atI L (i + 1) = atI L i + L.tdiv (manyI L) + (if (i : Int) < L.tmod (manyI L) then 1 else 0) := rfl
  refine ⟨by omega, h1, h5, h2, by omega, ?_⟩
  rw [hs]; split <;> omega
theorem at_yes {L : Int} {i : Nat} (h : (i : Int) < L.tmod (manyI L)) : atI L (i + 1) = atI L i + (L.tdiv (manyI L) + 1) := by
  rw [atI, if_pos h]; omega
theorem at_yes2 {L : Int} {i : Nat} (h : (i : Int) < L.tmod (manyI L)) : atI L (i + 1) = atI L i + L.tdiv (manyI L) + 1 := by
  rw [atI, if_pos h]
theorem at_no {L : Int} {i : Nat} (h : ¬ (i : Int) < L.tmod (manyI L)) : atI L (i + 1) = atI L i + L.tdiv (manyI L) := by
  rw [atI, if_neg h]; omega
def part (xs : List Row) (i : Nat) : List Row := (xs.take (atI xs.length (i + 1)).toNat).drop (atI xs.length i).toNat
def partsB (xs : List Row) : Nat → List (List Row)
  | 0 => []
  | i + 1 => partsB xs i ++ [part xs i]
@[irreducible] def partsN (xs : List Row) (i : Nat) : List (List Row) := partsB xs i
theorem parts_zero (xs : List Row) : partsN xs 0 = [] := by simp [partsN, partsB]
theorem parts_succ (xs : List Row) (i : Nat) : partsN xs (i + 1) = partsN xs i ++ [part xs i] := by simp only [partsN, partsB]
theorem parts_len (xs : List Row) : ∀ i : Nat, (partsN xs i).length = i
  | 0 => by rw [parts_zero]; rfl
  | i + 1 => by rw [parts_succ, List.length_append, parts_len xs i]; rfl
theorem parts_step {xs : List Row} {i : Nat} {h : Int} (hh : atI xs.length (i + 1) = h) : partsN xs i ++ [(xs.take h.toNat).drop (atI xs.length i).toNat] = partsN xs (i + 1) := by
  rw [parts_succ, part, hh]
theorem parts_tot {xs : List Row} : ∀ i : Nat, (i : Int) ≤ manyI xs.length → (tot (partsN xs i) : Int) = atI xs.length i
  | 0, _ => by rw [parts_zero]; rfl
  | i + 1, h => by
    have hb := at_b (L := xs.length) (i := i) (by omega) (by omega)
    have ih := parts_tot (xs := xs) i (by omega)
    rw [parts_succ, tot_append, Int.natCast_add, ih]
    have : ((tot [part xs i] : Nat) : Int) = atI xs.length (i + 1) - atI xs.length i := by
      simp only [tot, part, List.length_drop, List.length_take]
      omega
    omega
theorem nrms_take (ks : List Kd) (xs : List Row) (i : Nat) : nrms ks (xs.take i) = (nrms ks xs).take i := by simp [nrms]
theorem nrms_drop (ks : List Kd) (xs : List Row) (i : Nat) : nrms ks (xs.drop i) = (nrms ks xs).drop i := by simp [nrms]
theorem parts_nrm {ks : List Kd} {xs : List Row} (hx : nrms ks xs = xs) : ∀ i : Nat, (partsN xs i).map (nrms ks) = partsN xs i
  | 0 => by rw [parts_zero]; rfl
  | i + 1 => by rw [parts_succ, List.map_append, parts_nrm hx i]; simp [part, nrms_take, nrms_drop, hx]
noncomputable def loadS (xs : List Row) : List (List Row) := if Ord xs then partsN xs (manyI xs.length).toNat else []
theorem load_no {xs : List Row} (h : ¬ Ord xs) : loadS xs = [] := by unfold loadS; rw [if_neg h]
theorem load_yes {xs : List Row} {i : Nat} (h : Ord xs) (hi : ¬ (i : Int) < manyI xs.length) (hi2 : (i : Int) ≤ manyI xs.length) : partsN xs i = loadS xs := by
  unfold loadS; rw [if_pos h, show (manyI xs.length).toNat = i by omega]
theorem load_b (xs : List Row) : (loadS xs).length ≤ 8 ∧ tot (loadS xs) ≤ 30 := by
  unfold loadS
  split
  · rename_i h
    have hl := h.2
    have hm := many_b (L := xs.length) (by omega) (by omega)
    refine ⟨by rw [parts_len]; omega, ?_⟩
    have ht := parts_tot (xs := xs) (manyI xs.length).toNat (by omega)
    rcases Int.lt_or_le 0 (manyI xs.length) with q | q
    · obtain ⟨n, hn⟩ : ∃ n : Nat, (manyI xs.length).toNat = n + 1 := ⟨(manyI xs.length).toNat - 1, by omega⟩
      have hb := at_b (L := xs.length) (i := n) (by omega) (by omega)
      rw [hn] at ht ⊢
      omega
    · have h0 : (manyI xs.length).toNat = 0 := by omega
      rw [h0, parts_zero]; simp [tot]
  · simp [tot]
theorem load_nrm (xs : List Row) : (loadS (nrms KItem xs)).map (nrms KItem) = loadS (nrms KItem xs) := by
  unfold loadS
  split
  · exact parts_nrm (nrms_nrms _ _) _
  · rfl
theorem preM_load (xs : List Row) : PreM 1 (loadS (nrms KItem xs)) := ⟨load_nrm xs, by omega, by have := load_b (nrms KItem xs); omega, by have := load_b (nrms KItem xs); omega⟩
theorem ord_of {xs : List Row} (h : OrdN xs xs.length) (hl : ¬ 30 < (xs.length : Int)) : Ord xs := ⟨h, by omega⟩
theorem ord_no_n {xs : List Row} (h : ¬ OrdN xs xs.length) : ¬ Ord xs := fun q => h q.1
theorem ord_no_l {xs : List Row} (h : 30 < (xs.length : Int)) : ¬ Ord xs := fun q => by have := q.2; omega
noncomputable def cLoad : Ct := ⟨[], fun ds K => match ds with
  | [.view ks xs] => ks = KItem ∧ xs.length ≤ 1048576 ∧ K (.tup [.agg [.frn 29 49 KItem (loadS xs)], .bool (decide (Ord xs))]) []
  | _ => False⟩
set_option maxRecDepth 100000 in
set_option maxHeartbeats 4000000 in
theorem p_cloneItem : Proved 31 (cCopy 49 KItem) := by
  refine proved_of [] trivial [.tmp 2] Try.func31 rfl rfl rfl rfl (by kernel_rfl) ?_
  intro ds K hrel
  simp only [cCopy] at hrel
  split at hrel
  case h_2 => exact hrel.elim
  obtain ⟨rfl, h1, hrel⟩ := hrel
  refine ⟨rfl, Nat.le_of_ble_eq_true rfl, fun _ _ => none, ?_⟩
  repeat' (first | with_reducible refine And.intro ?_ ?_ | (with_reducible intro h; first | (exact absurd h (by decide)) | (guard_hyp h : true = true; clear h) | (guard_hyp h : false = false; clear h) | skip) | with_reducible exact True.intro | ((with_reducible refine (id ?_ : @Eq Bool (nodupN _) true)); kernel_rfl) | ((with_reducible refine (id ?_ : @Eq Bool (apartN _ _) true)); kernel_rfl) | ((with_reducible refine (id ?_ : @Eq Bool (formL _ _) true)); kernel_rfl) | ((with_reducible refine (id ?_ : @Eq _ _ _)); exact rfl) | ((conv => whnf); first | done | with_reducible refine And.intro ?_ ?_ | (with_reducible intro h; first | (exact absurd h (by decide)) | (guard_hyp h : true = true; clear h) | (guard_hyp h : false = false; clear h) | skip) | with_reducible exact True.intro | ((with_reducible refine (id ?_ : @Eq _ _ _)); exact rfl) | refine Exists.intro _ (Exists.intro _ (And.intro hrel ?_)) | exact Or.inl rfl | exact Or.inr (And.intro rfl rfl) | (apply Exists.intro; refine And.intro ?_ ?_)) | exact Nat.le_of_ble_eq_true rfl)
  all_goals (try ((try (change _ = _)) <;> (try dsimp only at *) <;> (try simp only [decide_eq_true_eq, decide_eq_false_iff_not, Bool.not_eq_true', Bool.not_eq_false', Bool.and_eq_true, Bool.and_eq_false_iff, beq_iff_eq, bne_iff_ne, beq_eq_false_iff_ne, bne_eq_false_iff_eq, ne_eq, Decidable.not_not, bne_self_eq_false, Bool.false_eq_true, Bool.true_eq_false, Bool.not_true, Bool.not_false, not_true_eq_false, not_false_eq_true, Int.toNat_natCast, Nat.zero_add, Nat.reduceAdd, Nat.reduceMul, Nat.reduceDiv, Nat.mul_one, lenK_one, big, fill_len, marking_len, marks_len, nrms_len, List.length_set, List.length_append, List.length_map, List.length_replicate, List.length_cons, List.length_nil, Int.natCast_add, Int.natCast_one, Int.natCast_zero] at *) <;> (repeat (with_reducible rename _ ∧ _ => hh; obtain ⟨_, _⟩ := hh)) <;> (first | omega | (refine fits_i64 ?_; omega) | (split <;> omega) | (rename true = true → _ => hh; exact hh rfl) | (rename _ = true => hh; simp_all))))
set_option maxRecDepth 100000 in
set_option maxHeartbeats 4000000 in
theorem p_sLoad : Proved 9 cLoad := by
  refine proved_of [(28, cOrd)] ⟨p_validItems, trivial⟩ [.cell 2 26, .tmp 3] Try.func9 rfl rfl rfl rfl (by kernel_rfl) ?_
  intro ds K hrel
  simp only [cLoad] at hrel
  split at hrel
  case h_2 => exact hrel.elim
  rename_i ks xs
  obtain ⟨rfl, h1, hrel⟩ := hrel
  refine ⟨rfl, Nat.le_of_ble_eq_true rfl, fun k σ => match k with
    | 7 => some { α := Lv 7 Nat, R := fun i => (i.v : Int) ≤ manyI xs.length ∧ (xs.length : Int) ≤ 30 ∧ Ord xs, μ := fun i => (manyI xs.length).toNat - i.v, st := fun i => upH σ [(7, .int .i64 i.v), (6, .int .i64 (atI xs.length i.v)), (5, .int .i64 (manyI xs.length)), (4, .own 1)] 1 (.nest 29 49 KItem (partsN xs i.v)) }
    | _ => none, ?_⟩
  repeat' (first | with_reducible refine And.intro ?_ ?_ | (with_reducible intro h; first | (exact absurd h (by decide)) | (guard_hyp h : true = true; clear h) | (guard_hyp h : false = false; clear h) | skip) | with_reducible exact True.intro | ((with_reducible refine (id ?_ : @Eq Bool (nodupN _) true)); kernel_rfl) | ((with_reducible refine (id ?_ : @Eq Bool (apartN _ _) true)); kernel_rfl) | ((with_reducible refine (id ?_ : @Eq Bool (formL _ _) true)); kernel_rfl) | ((with_reducible refine (id ?_ : @Eq _ _ _)); exact rfl) | ((conv => whnf); first | done | with_reducible refine And.intro ?_ ?_ | (with_reducible intro h; first | (exact absurd h (by decide)) | (guard_hyp h : true = true; clear h) | (guard_hyp h : false = false; clear h) | skip) | with_reducible exact True.intro | ((with_reducible refine (id ?_ : @Eq _ _ _)); exact rfl) | refine Exists.intro (⟨(by with_reducible assumption : Lv 7 Nat).v + 1⟩ : Lv 7 Nat) ?_ | refine Exists.intro (⟨0⟩ : Lv 7 Nat) ?_ | refine Exists.intro _ (Exists.intro _ (And.intro hrel ?_)) | exact Or.inl rfl | exact Or.inr (And.intro rfl rfl) | (apply Exists.intro; refine And.intro ?_ ?_)) | exact Nat.le_of_ble_eq_true rfl)
  all_goals (try ((try (change _ = _)) <;> (try dsimp only at *) <;> (try simp only [decide_eq_true_eq, decide_eq_false_iff_not, Bool.not_eq_true', Bool.not_eq_false', Bool.and_eq_true, Bool.and_eq_false_iff, beq_iff_eq, bne_iff_ne, beq_eq_false_iff_ne, bne_eq_false_iff_eq, ne_eq, Decidable.not_not, bne_self_eq_false, Bool.false_eq_true, Bool.true_eq_false, Bool.not_true, Bool.not_false, not_true_eq_false, not_false_eq_true, Int.toNat_natCast, Nat.zero_add, Nat.reduceAdd, Nat.reduceMul, Nat.reduceDiv, Nat.mul_one, lenK_one, big, fill_len, marking_len, marks_len, nrms_len, List.length_set, List.length_append, List.length_map, List.length_replicate, List.length_cons, List.length_nil, Int.natCast_add, Int.natCast_one, Int.natCast_zero, List.nil_append, parts_len] at *) <;> (repeat (with_reducible rename _ ∧ _ => hh; obtain ⟨_, _⟩ := hh)) <;> (first | omega | (refine fits_i64 ?_; omega) | (split <;> omega) | (with_reducible exact many_fits (by with_reducible assumption)) | (with_reducible assumption) | (with_reducible exact load_no (by with_reducible assumption)) | (with_reducible exact (load_no (by with_reducible assumption)).symm) | (with_reducible exact false_eq (by with_reducible assumption)) | (with_reducible exact true_eq (by with_reducible assumption)) | (with_reducible exact load_yes (by with_reducible assumption) (by omega) (by omega)) | (with_reducible exact (parts_zero _).symm) | (with_reducible exact parts_zero _) | rfl | (have hb := at_b (L := (xs.length : Int)) (i := (Lv.v (by with_reducible assumption : Lv 7 Nat))) (by omega) (by omega); simp only [List.length_drop, List.length_take, List.length_nil]; omega) | (have hm := many_b (L := (xs.length : Int)) (by omega) (by omega); omega) | (have hl := (by with_reducible assumption : Ord xs).2; have hm := many_b (L := (xs.length : Int)) (by omega) (by omega); omega) | (have hb := at_b (L := (xs.length : Int)) (i := (Lv.v (by with_reducible assumption : Lv 7 Nat))) (by omega) (by omega); (first | (have hs := at_yes2 (L := (xs.length : Int)) (i := (Lv.v (by with_reducible assumption : Lv 7 Nat))) (by omega); omega) | (have hs := at_no (L := (xs.length : Int)) (i := (Lv.v (by with_reducible assumption : Lv 7 Nat))) (by omega); omega))) | (have hb := at_b (L := (xs.length : Int)) (i := (Lv.v (by with_reducible assumption : Lv 7 Nat))) (by omega) (by omega); omega) | (refine fits_i64 ?_; have hb := at_b (L := (xs.length : Int)) (i := (Lv.v (by with_reducible assumption : Lv 7 Nat))) (by omega) (by omega); omega) | (refine fits_i64 ?_; have hb := at_b (L := (xs.length : Int)) (i := (Lv.v (by with_reducible assumption : Lv 7 Nat))) (by omega) (by omega); (first | (have hs := at_yes2 (L := (xs.length : Int)) (i := (Lv.v (by with_reducible assumption : Lv 7 Nat))) (by omega); omega) | (have hs := at_no (L := (xs.length : Int)) (i := (Lv.v (by with_reducible assumption : Lv 7 Nat))) (by omega); omega))) | exact parts_step (by first | (with_reducible exact at_yes (by with_reducible assumption)) | (with_reducible exact at_yes2 (by with_reducible assumption)) | (with_reducible exact at_no (by with_reducible assumption)) | (with_reducible exact at_no (by omega))) | exact (parts_step (by first | (with_reducible exact at_yes (by with_reducible assumption)) | (with_reducible exact at_yes2 (by with_reducible assumption)) | (with_reducible exact at_no (by with_reducible assumption)) | (with_reducible exact at_no (by omega)))).symm | exact (by first | (with_reducible exact at_yes (by with_reducible assumption)) | (with_reducible exact at_yes2 (by with_reducible assumption)) | (with_reducible exact at_no (by with_reducible assumption)) | (with_reducible exact at_no (by omega))) | exact Eq.symm (by first | (with_reducible exact at_yes (by with_reducible assumption)) | (with_reducible exact at_yes2 (by with_reducible assumption)) | (with_reducible exact at_no (by with_reducible assumption)) | (with_reducible exact at_no (by omega))) | (have hm := many_b (L := (xs.length : Int)) (by omega) (by omega); refine fits_i64 ?_; omega))))
/-- The orders of regions that draw. -/
def trLd : Nat → Option (Bool × Tr)
  | 12 => some (false, .take 0 (.take 2 (.take 3 (.take 4 (.all (.cons 1 (.all (.cons 5 (.all (.cons 6 (.all (.cons 7 (.all (.cons 8 (.take 9 (.all (.cons 10 .done .nil))) .nil)) .nil)) .nil)) .nil)) (.cons 5 (.all (.cons 1 (.all (.cons 6 (.all (.cons 7 (.all (.cons 8 (.take 9 (.all (.cons 10 .done .nil))) .nil)) .nil)) .nil)) (.cons 6 (.all (.cons 1 (.all (.cons 7 (.all (.cons 8 (.take 9 (.all (.cons 10 .done .nil))) .nil)) .nil)) (.cons 7 (.all (.cons 1 (.all (.cons 8 (.take 9 (.all (.cons 10 .done .nil))) .nil)) .nil)) .nil))) .nil))) .nil)))))))
  | _ => none
set_option maxRecDepth 100000 in
set_option maxHeartbeats 4000000 in
theorem p_iLoad : Proved 11 cLoad := by
  refine proved_tr trLd [(30, cOrdN), (31, cCopy 49 KItem)] ⟨p_inOrder, p_cloneItem, trivial⟩ [.cell 2 26, .tmp 3] Try.func11 rfl rfl rfl rfl (by kernel_rfl) ?_
  intro ds K hrel
  simp only [cLoad] at hrel
  split at hrel
  case h_2 => exact hrel.elim
  rename_i ks xs
  obtain ⟨rfl, h1, hrel⟩ := hrel
  refine ⟨rfl, Nat.le_of_ble_eq_true rfl, fun k σ => match k with
    | 7 => some { α := Lv 7 Nat, R := fun i => (i.v : Int) ≤ manyI xs.length ∧ (xs.length : Int) ≤ 30 ∧ Ord xs, μ := fun i => (manyI xs.length).toNat - i.v, st := fun i => upW σ [(24, .int .i64 i.v), (6, .int .i64 (atI xs.length i.v)), (5, .int .i64 (manyI xs.length)), (23, .int .i64 (manyI xs.length))] (pushH (setH σ.hp 1 (some (.box [.own 2]))) (.nest 29 49 KItem (partsN xs i.v))) }
    | _ => none, ?_⟩
  repeat' (first | with_reducible refine And.intro ?_ ?_ | (with_reducible intro h; first | (exact absurd h (by decide)) | (guard_hyp h : true = true; clear h) | (guard_hyp h : false = false; clear h) | skip) | with_reducible exact True.intro | ((with_reducible refine (id ?_ : @Eq Bool (nodupN _) true)); kernel_rfl) | ((with_reducible refine (id ?_ : @Eq Bool (apartN _ _) true)); kernel_rfl) | ((with_reducible refine (id ?_ : @Eq Bool (formL _ _) true)); kernel_rfl) | ((with_reducible refine (id ?_ : @Eq _ _ _)); exact rfl) | ((conv => whnf); first | done | with_reducible refine And.intro ?_ ?_ | (with_reducible intro h; first | (exact absurd h (by decide)) | (guard_hyp h : true = true; clear h) | (guard_hyp h : false = false; clear h) | skip) | with_reducible exact True.intro | ((with_reducible refine (id ?_ : @Eq _ _ _)); exact rfl) | refine Exists.intro (⟨(by with_reducible assumption : Lv 7 Nat).v + 1⟩ : Lv 7 Nat) ?_ | refine Exists.intro (⟨0⟩ : Lv 7 Nat) ?_ | refine Exists.intro _ (Exists.intro _ (And.intro hrel ?_)) | exact Or.inl rfl | exact Or.inr (And.intro rfl rfl) | (apply Exists.intro; refine And.intro ?_ ?_)) | exact Nat.le_of_ble_eq_true rfl)
  all_goals (try ((try (change _ = _)) <;> (try dsimp only at *) <;> (try simp only [decide_eq_true_eq, decide_eq_false_iff_not, Bool.not_eq_true', Bool.not_eq_false', Bool.and_eq_true, Bool.and_eq_false_iff, beq_iff_eq, bne_iff_ne, beq_eq_false_iff_ne, bne_eq_false_iff_eq, ne_eq, Decidable.not_not, bne_self_eq_false, Bool.false_eq_true, Bool.true_eq_false, Bool.not_true, Bool.not_false, not_true_eq_false, not_false_eq_true, Int.toNat_natCast, Nat.zero_add, Nat.reduceAdd, Nat.reduceMul, Nat.reduceDiv, Nat.mul_one, lenK_one, big, fill_len, marking_len, marks_len, nrms_len, List.length_set, List.length_append, List.length_map, List.length_replicate, List.length_cons, List.length_nil, Int.natCast_add, Int.natCast_one, Int.natCast_zero, List.nil_append, parts_len] at *) <;> (repeat (with_reducible rename _ ∧ _ => hh; obtain ⟨_, _⟩ := hh)) <;> (first | omega | (refine fits_i64 ?_; omega) | (split <;> omega) | (with_reducible exact ord_of (by with_reducible assumption) (by omega)) | (with_reducible exact load_no (ord_no_n (by with_reducible assumption))) | (with_reducible exact load_no (ord_no_l (by with_reducible assumption))) | (with_reducible exact false_eq (ord_no_n (by with_reducible assumption))) | (with_reducible exact false_eq (ord_no_l (by with_reducible assumption))) | (with_reducible exact many_fits (by with_reducible assumption)) | (with_reducible assumption) | (with_reducible exact load_no (by with_reducible assumption)) | (with_reducible exact (load_no (by with_reducible assumption)).symm) | (with_reducible exact false_eq (by with_reducible assumption)) | (with_reducible exact true_eq (by with_reducible assumption)) | (with_reducible exact load_yes (by with_reducible assumption) (by omega) (by omega)) | (with_reducible exact (parts_zero _).symm) | (with_reducible exact parts_zero _) | rfl | (have hb := at_b (L := (xs.length : Int)) (i := (Lv.v (by with_reducible assumption : Lv 7 Nat))) (by omega) (by omega); simp only [List.length_drop, List.length_take, List.length_nil]; omega) | (have hm := many_b (L := (xs.length : Int)) (by omega) (by omega); omega) | (have hl := (by with_reducible assumption : Ord xs).2; have hm := many_b (L := (xs.length : Int)) (by omega) (by omega); omega) | (have hb := at_b (L := (xs.length : Int)) (i := (Lv.v (by with_reducible assumption : Lv 7 Nat))) (by omega) (by omega); (first | (have hs := at_yes2 (L := (xs.length : Int)) (i := (Lv.v (by with_reducible assumption : Lv 7 Nat))) (by omega); omega) | (have hs := at_no (L := (xs.length : Int)) (i := (Lv.v (by with_reducible assumption : Lv 7 Nat))) (by omega); omega))) | (have hb := at_b (L := (xs.length : Int)) (i := (Lv.v (by with_reducible assumption : Lv 7 Nat))) (by omega) (by omega); omega) | (refine fits_i64 ?_; have hb := at_b (L := (xs.length : Int)) (i := (Lv.v (by with_reducible assumption : Lv 7 Nat))) (by omega) (by omega); omega) | (refine fits_i64 ?_; have hb := at_b (L := (xs.length : Int)) (i := (Lv.v (by with_reducible assumption : Lv 7 Nat))) (by omega) (by omega); (first | (have hs := at_yes2 (L := (xs.length : Int)) (i := (Lv.v (by with_reducible assumption : Lv 7 Nat))) (by omega); omega) | (have hs := at_no (L := (xs.length : Int)) (i := (Lv.v (by with_reducible assumption : Lv 7 Nat))) (by omega); omega))) | exact parts_step (by first | (with_reducible exact at_yes (by with_reducible assumption)) | (with_reducible exact at_yes2 (by with_reducible assumption)) | (with_reducible exact at_no (by with_reducible assumption)) | (with_reducible exact at_no (by omega))) | exact (parts_step (by first | (with_reducible exact at_yes (by with_reducible assumption)) | (with_reducible exact at_yes2 (by with_reducible assumption)) | (with_reducible exact at_no (by with_reducible assumption)) | (with_reducible exact at_no (by omega)))).symm | exact (by first | (with_reducible exact at_yes (by with_reducible assumption)) | (with_reducible exact at_yes2 (by with_reducible assumption)) | (with_reducible exact at_no (by with_reducible assumption)) | (with_reducible exact at_no (by omega))) | exact Eq.symm (by first | (with_reducible exact at_yes (by with_reducible assumption)) | (with_reducible exact at_yes2 (by with_reducible assumption)) | (with_reducible exact at_no (by with_reducible assumption)) | (with_reducible exact at_no (by omega))) | (have hm := many_b (L := (xs.length : Int)) (by omega) (by omega); refine fits_i64 ?_; omega))))
end Go.Proofs.Ytkjbgdhpeidocaa.V
