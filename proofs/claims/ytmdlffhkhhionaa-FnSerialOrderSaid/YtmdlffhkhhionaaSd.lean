/-
  Serial orders: the laws, as functions.
-/
import Derived.Test.YtmdlffhkhhionaaSc
set_option linter.unusedSimpArgs false
set_option linter.unusedVariables false
namespace Go.Proofs.Ytmdlffhkhhionaa.V
open Go Go.RowKit
open Classical

set_option maxRecDepth 100000 in
set_option maxHeartbeats 16000000 in
theorem p_fnExactSerialOrder : Proved 12 (cLaw [.c (.s KAct)]) := by
  refine proved_of [(13, cSz KAct), (15, cTo 33 KAct), (17, cEq KAct), (30, cEq KInt), (31, cMark 33 KAct), (32, cMark 3 KInt), (33, cHeld KInt), (27, cSer), (25, cSer)] ⟨p_szActS, p_toActS, p_eqActS, p_eqIntS, p_markActS, p_markIntS, p_heldIntS, p_sSer, p_iSer, trivial⟩ [.tmp 2] Try.func12 rfl rfl rfl rfl (by kernel_rfl) ?_
  rintro ds K ⟨⟨a, l, rfl, ⟨xs, rfl, h1, -⟩, rfl⟩, hrel⟩
  unfold maxLen at h1
  have hol := serL_len (nrms KAct xs)
  refine ⟨rfl, Nat.le_of_ble_eq_true rfl, fun _ _ => none, ?_⟩
  repeat' (first | with_reducible refine And.intro ?_ ?_ | (with_reducible intro h; first | (exact absurd h (by decide)) | (guard_hyp h : true = true; clear h) | (guard_hyp h : false = false; clear h) | skip) | with_reducible exact True.intro | ((with_reducible refine (id ?_ : @Eq Bool (nodupN _) true)); kernel_rfl) | ((with_reducible refine (id ?_ : @Eq Bool (apartN _ _) true)); kernel_rfl) | ((with_reducible refine (id ?_ : @Eq Bool (formL _ _) true)); kernel_rfl) | ((with_reducible refine (id ?_ : @Eq _ _ _)); exact rfl) | ((conv => whnf); first | done | with_reducible refine And.intro ?_ ?_ | (with_reducible intro h; first | (exact absurd h (by decide)) | (guard_hyp h : true = true; clear h) | (guard_hyp h : false = false; clear h) | skip) | with_reducible exact True.intro | ((with_reducible refine (id ?_ : @Eq _ _ _)); exact rfl) | refine Exists.intro _ (Exists.intro _ (And.intro hrel ?_)) | exact Or.inl rfl | exact Or.inr (And.intro rfl rfl) | (apply Exists.intro; refine And.intro ?_ ?_)) | exact Nat.le_of_ble_eq_true rfl)
  all_goals (try ((try (change _ = _)) <;> (try dsimp only at *) <;> (try simp only [decide_eq_true_eq, decide_eq_false_iff_not, Bool.not_eq_true', Bool.not_eq_false', Bool.and_eq_true, Bool.and_eq_false_iff, beq_iff_eq, bne_iff_ne, beq_eq_false_iff_ne, bne_eq_false_iff_eq, ne_eq, Decidable.not_not, bne_self_eq_false, Bool.false_eq_true, Bool.true_eq_false, Bool.not_true, Bool.not_false, not_true_eq_false, not_false_eq_true, Int.toNat_natCast, Nat.zero_add, Nat.reduceAdd, Nat.reduceMul, Nat.reduceDiv, Nat.mul_one, lenK_one, big, fill_len, marking_len, marks_len, nrms_len, List.length_set, List.length_append, List.length_map, List.length_replicate, List.length_cons, List.length_nil, Int.natCast_add, Int.natCast_one, Int.natCast_zero, nrms_nrms, decide_true, serL_nrm, lenK_KAct, lenK_KInt] at *) <;> (repeat (with_reducible rename _ ∧ _ => hh; obtain ⟨_, _⟩ := hh)) <;> (first | omega | (refine fits_i64 ?_; omega) | (split <;> omega) | (with_reducible assumption))))
set_option maxRecDepth 100000 in
set_option maxHeartbeats 4000000 in
theorem p_equalIntS : Proved 28 (cEq KInt) := by
  refine proved_of [] trivial [.tmp 4] Try.func28 rfl rfl rfl rfl (by kernel_rfl) ?_
  intro ds K hrel
  simp only [cEq] at hrel
  split at hrel
  case h_2 => exact hrel.elim
  rename_i ks xs js ys
  obtain ⟨rfl, rfl, h1, hrel⟩ := hrel
  refine ⟨rfl, Nat.le_of_ble_eq_true rfl, fun k σ => match k with
    | 4 => some { α := Lv 4 Nat, R := fun i => i.v ≤ xs.length ∧ (xs.length : Int) = ys.length ∧ Same KInt xs ys i.v, μ := fun i => xs.length - i.v,
                  st := fun i => up σ [(5, .int .i64 i.v)] }
    | _ => none, ?_⟩
  repeat' (first | with_reducible refine And.intro ?_ ?_ | (with_reducible intro h; first | (exact absurd h (by decide)) | (guard_hyp h : true = true; clear h) | (guard_hyp h : false = false; clear h) | skip) | with_reducible exact True.intro | ((with_reducible refine (id ?_ : @Eq Bool (nodupN _) true)); kernel_rfl) | ((with_reducible refine (id ?_ : @Eq Bool (apartN _ _) true)); kernel_rfl) | ((with_reducible refine (id ?_ : @Eq Bool (formL _ _) true)); kernel_rfl) | ((with_reducible refine (id ?_ : @Eq _ _ _)); exact rfl) | ((conv => whnf); first | done | with_reducible refine And.intro ?_ ?_ | (with_reducible intro h; first | (exact absurd h (by decide)) | (guard_hyp h : true = true; clear h) | (guard_hyp h : false = false; clear h) | skip) | with_reducible exact True.intro | ((with_reducible refine (id ?_ : @Eq _ _ _)); exact rfl) | refine Exists.intro (⟨(by assumption : Lv 4 Nat).v + 1⟩ : Lv 4 Nat) ?_ | refine Exists.intro (⟨0⟩ : Lv 4 Nat) ?_ | refine Exists.intro _ (Exists.intro _ (And.intro hrel ?_)) | exact Or.inl rfl | exact Or.inr (And.intro rfl rfl) | (apply Exists.intro; refine And.intro ?_ ?_)) | exact Nat.le_of_ble_eq_true rfl)
  all_goals (try ((try (change _ = _)) <;> (try dsimp only at *) <;> (try simp only [decide_eq_true_eq, decide_eq_false_iff_not, Bool.not_eq_true', Bool.not_eq_false', Bool.and_eq_true, Bool.and_eq_false_iff, beq_iff_eq, bne_iff_ne, beq_eq_false_iff_ne, bne_eq_false_iff_eq, ne_eq, Decidable.not_not, bne_self_eq_false, Bool.false_eq_true, Bool.true_eq_false, Bool.not_true, Bool.not_false, not_true_eq_false, not_false_eq_true, Int.toNat_natCast, Nat.zero_add, Nat.reduceAdd, Nat.reduceMul, Nat.reduceDiv, Nat.mul_one, lenK_one, big, fill_len, marking_len, marks_len, nrms_len, List.length_set, List.length_append, List.length_map, List.length_replicate, List.length_cons, List.length_nil, Int.natCast_add, Int.natCast_one, Int.natCast_zero] at *) <;> (repeat (with_reducible rename _ ∧ _ => hh; obtain ⟨_, _⟩ := hh)) <;> (first | omega | (refine fits_i64 ?_; omega) | (split <;> omega) | exact same_zero _ _ _ | exact same_step (by assumption) (by simp only [KInt, nrm, nrmK]; simp [*]) | exact same_len (by assumption) | exact same_not (n := Lv.v (by assumption : Lv 4 Nat)) (by omega) (by assumption) (by simp only [KInt, nrm, nrmK]; simp_all) | exact same_all (by assumption) (by assumption) (by assumption) (by assumption))))

theorem se_big (xs : List Row) : ((serL xs).1.length : Int) < 9223372036854775808 := by have := serL_len xs; omega
theorem se_cut (xs : List Row) (n : Nat) (h : xs.length ≤ 16) : (xs.take n).length ≤ 1048576 := by rw [List.length_take]; omega
set_option maxRecDepth 100000 in
set_option maxHeartbeats 16000000 in
theorem p_fnSerialOrderPrefix : Proved 9 (cLaw [.c (.s KU8)]) := by
  refine proved_of [(26, cDrawActs), (25, cSer), (27, cSer), (28, cEq KInt)] ⟨p_drawSerialOrder, p_iSer, p_sSer, p_equalIntS, trivial⟩ [.tmp 2] Try.func9 rfl rfl rfl rfl (by kernel_rfl) ?_
  rintro ds K ⟨hds, hrel⟩
  obtain ⟨xs, rfl, h1, h2⟩ := law_code hds
  unfold maxLen at h1
  refine ⟨rfl, Nat.le_of_ble_eq_true rfl, fun _ _ => none, ?_⟩
  repeat' (first | with_reducible refine And.intro ?_ ?_ | (with_reducible intro h; first | (exact absurd h (by decide)) | (guard_hyp h : true = true; clear h) | (guard_hyp h : false = false; clear h) | skip) | with_reducible exact True.intro | ((with_reducible refine (id ?_ : @Eq Bool (nodupN _) true)); kernel_rfl) | ((with_reducible refine (id ?_ : @Eq Bool (apartN _ _) true)); kernel_rfl) | ((with_reducible refine (id ?_ : @Eq Bool (formL _ _) true)); kernel_rfl) | ((with_reducible refine (id ?_ : @Eq _ _ _)); exact rfl) | ((conv => whnf); first | done | with_reducible refine And.intro ?_ ?_ | (with_reducible intro h; first | (exact absurd h (by decide)) | (guard_hyp h : true = true; clear h) | (guard_hyp h : false = false; clear h) | skip) | with_reducible exact True.intro | ((with_reducible refine (id ?_ : @Eq _ _ _)); exact rfl) | refine Exists.intro _ (Exists.intro _ (And.intro hrel ?_)) | exact Or.inl rfl | exact Or.inr (And.intro rfl rfl) | (apply Exists.intro; refine And.intro ?_ ?_)) | exact Nat.le_of_ble_eq_true rfl)
  all_goals (try ((try (change _ = _)) <;> (try dsimp only at *) <;> (try simp only [decide_eq_true_eq, decide_eq_false_iff_not, Bool.not_eq_true', Bool.not_eq_false', Bool.and_eq_true, Bool.and_eq_false_iff, beq_iff_eq, bne_iff_ne, beq_eq_false_iff_ne, bne_eq_false_iff_eq, ne_eq, Decidable.not_not, bne_self_eq_false, Bool.false_eq_true, Bool.true_eq_false, Bool.not_true, Bool.not_false, not_true_eq_false, not_false_eq_true, Int.toNat_natCast, Nat.zero_add, Nat.reduceAdd, Nat.reduceMul, Nat.reduceDiv, Nat.mul_one, lenK_one, big, fill_len, marking_len, marks_len, nrms_len, List.length_set, List.length_append, List.length_map, List.length_replicate, List.length_cons, List.length_nil, Int.natCast_add, Int.natCast_one, Int.natCast_zero, decide_true, beq_self_eq_true, List.drop_zero, Int.toNat_zero] at *) <;> (repeat (with_reducible rename _ ∧ _ => hh; obtain ⟨_, _⟩ := hh)) <;> (first | omega | (refine fits_i64 ?_; omega) | (split <;> omega) | exact h2 _ (by with_reducible assumption) | (with_reducible assumption) | (with_reducible exact se_big _) | (with_reducible exact serL_len _) | (with_reducible exact se_cut _ _ (by omega)) | (with_reducible exact serL_take (by with_reducible assumption) _))))
/-- A history, one transaction behind the other. -/
def byO (w : Int) (r : Row) : Bool := (rc r 0).int == w
def srlF (xs : List Row) : Nat → List Row
  | 0 => []
  | w + 1 => srlF xs w ++ xs.filter (byO w)
theorem srlF_mem {xs : List Row} : ∀ {w : Nat} {r : Row}, r ∈ srlF xs w → r ∈ xs ∧ (rc r 0).int < w
  | 0, r, h => by simp [srlF] at h
  | w + 1, r, h => by
    simp only [srlF, List.mem_append] at h
    rcases h with h | h
    · have := srlF_mem h; exact ⟨this.1, by omega⟩
    · obtain ⟨h1, h2⟩ := List.mem_filter.1 h
      simp only [byO, beq_iff_eq] at h2
      exact ⟨h1, by omega⟩
theorem srlF_len {xs : List Row} : ∀ w : Nat, (srlF xs w).length = (xs.filter (fun r => decide (0 ≤ (rc r 0).int ∧ (rc r 0).int < w))).length
  | 0 => by
    rw [List.filter_eq_nil_iff.2]
    · simp [srlF]
    · intro r _; simp
  | w + 1 => by
    simp only [srlF, List.length_append]
    rw [srlF_len w]
    induction xs with
    | nil => rfl
    | cons r rs ih =>
      simp only [List.filter_cons]
      by_cases e : (rc r 0).int = w
      · have a1 : decide (0 ≤ (rc r 0).int ∧ (rc r 0).int < (w : Int)) = false := by simp; omega
        have a2 : byO w r = true := by simp [byO, e]
        have a3 : decide (0 ≤ (rc r 0).int ∧ (rc r 0).int < ((w + 1 : Nat) : Int)) = true := by simp; omega
        rw [a1, a2, a3]; simp only [Bool.false_eq_true, if_false, if_true, List.length_cons]; omega
      · have a2 : byO w r = false := by simp [byO, e]
        by_cases q : 0 ≤ (rc r 0).int ∧ (rc r 0).int < (w : Int)
        · have a1 : decide (0 ≤ (rc r 0).int ∧ (rc r 0).int < (w : Int)) = true := by simpa using q
          have a3 : decide (0 ≤ (rc r 0).int ∧ (rc r 0).int < ((w + 1 : Nat) : Int)) = true := by simp; omega
          rw [a1, a2, a3]; simp only [Bool.false_eq_true, if_false, if_true, List.length_cons]; omega
        · have a1 : decide (0 ≤ (rc r 0).int ∧ (rc r 0).int < (w : Int)) = false := by simp; omega
          have a3 : decide (0 ≤ (rc r 0).int ∧ (rc r 0).int < ((w + 1 : Nat) : Int)) = false := by simp; omega
          rw [a1, a2, a3]; simp only [Bool.false_eq_true, if_false]; omega
theorem srlF_pw {xs : List Row} (h : xs.Pairwise aft) : ∀ w : Nat, (srlF xs w).Pairwise (fun a b => aft a b ∧ (rc a 0).int ≤ (rc b 0).int)
  | 0 => List.Pairwise.nil
  | w + 1 => by
    simp only [srlF]
    rw [List.pairwise_append]
    refine ⟨srlF_pw h w, ?_, fun a ha b hb => ?_⟩
    · refine List.Pairwise.imp_of_mem ?_ (h.filter (byO w))
      intro a b ha hb hab
      have e1 := (List.mem_filter.1 ha).2
      have e2 := (List.mem_filter.1 hb).2
      simp only [byO, beq_iff_eq] at e1 e2
      exact ⟨hab, by omega⟩
    · have q1 := (srlF_mem ha).2
      have e2 := (List.mem_filter.1 hb).2
      simp only [byO, beq_iff_eq] at e2
      exact ⟨fun q => by have := q.1; omega, by omega⟩
theorem srlF_va {xs : List Row} (h : VA xs) : VA (srlF xs 8) := by
  rw [va_iff] at h ⊢
  obtain ⟨h1, h2, h3⟩ := h
  refine ⟨fun r hr => h1 r (srlF_mem hr).1, (srlF_pw h2 8).imp (fun q => q.1), ?_⟩
  rw [srlF_len]
  exact Nat.le_trans (List.length_filter_le _ _) h3
theorem srlF_ser {xs : List Row} (h : VA xs) : (serL (srlF xs 8)).2 = true := by
  refine serL_rank (f := fun u => u.toNat) (srlF_va h) (fun u t hb => ?_)
  have hp := srlF_pw ((va_iff xs).1 h).2.1 8
  have hne := bef_ne hb
  obtain ⟨k, i, h1, h2, _, rfl, rfl⟩ := hb
  rw [List.pairwise_iff_getElem] at hp
  have e : ∀ j (hj : j < (srlF xs 8).length), (srlF xs 8)[j] = row (srlF xs 8) j := fun j hj => by
    have := row_some hj
    rw [List.getElem?_eq_getElem hj] at this
    exact Option.some.inj this
  have := (hp k i (by omega) h2 h1).2
  rw [e k (by omega), e i h2] at this
  have r1 := (own_range (srlF_va h) ⟨k, by omega, rfl⟩).1
  show (rc (row (srlF xs 8) k) 0).int.toNat < (rc (row (srlF xs 8) i) 0).int.toNat
  omega
@[irreducible] def srlI (xs : List Row) (w i : Nat) : List Row := srlF xs w ++ (xs.take i).filter (byO w)
theorem srlI_zero (xs : List Row) : [] = srlI xs (Int.toNat 0) (Int.toNat 0) := by simp [srlI, srlF]
theorem srlI_next {xs : List Row} {w i : Int} (h : ¬ i < xs.length) (h0 : 0 ≤ w) : srlI xs w.toNat i.toNat = srlI xs (w + 1).toNat (Int.toNat 0) := by
  unfold srlI
  rw [List.take_of_length_le (by omega), show (w + 1).toNat = w.toNat + 1 by omega]
  simp [srlF]
theorem srlI_yes {xs : List Row} {w i : Int} (hx : nrms KAct xs = xs) (ho : (rc (row xs i.toNat) 0).int = w) (h0 : 0 ≤ i) (hi : i < xs.length) (hw : 0 ≤ w) : srlI xs w.toNat i.toNat ++ [[Sc.i (rc (row xs i.toNat) 0).int, Sc.i (rc (row xs i.toNat) 1).int, Sc.i (rc (row xs i.toNat) 2).int]] = srlI xs w.toNat (i + 1).toNat := by
  unfold srlI
  rw [show (i + 1).toNat = i.toNat + 1 by omega, take_succ_row (by omega), List.filter_append, List.append_assoc]
  congr 2
  have e : byO w.toNat (row xs i.toNat) = true := by simp [byO, ho]; omega
  simp only [List.filter_cons, e, if_true, List.filter_nil]
  have := row_of_nrms hx (i := i.toNat) (by omega)
  rw [this]; rfl
theorem srlI_no {xs : List Row} {w i : Int} (ho : ¬ (rc (row xs i.toNat) 0).int = w) (h0 : 0 ≤ i) (hi : i < xs.length) (hw : 0 ≤ w) : srlI xs w.toNat i.toNat = srlI xs w.toNat (i + 1).toNat := by
  unfold srlI
  rw [show (i + 1).toNat = i.toNat + 1 by omega, take_succ_row (by omega), List.filter_append]
  have e : byO w.toNat (row xs i.toNat) = false := by simp [byO]; omega
  simp only [List.filter_cons, e, Bool.false_eq_true, if_false, List.filter_nil, List.append_nil]
theorem srlF_le (xs : List Row) (w : Nat) : (srlF xs w).length ≤ xs.length := by rw [srlF_len]; exact List.length_filter_le _ _
theorem srlI_len {xs : List Row} (w i : Nat) (h : xs.length ≤ 16) : (srlI xs w i).length ≤ 32 := by
  unfold srlI
  rw [List.length_append]
  have h1 := srlF_le xs w
  have h2 := List.length_filter_le (byO w) (xs.take i)
  rw [List.length_take] at h2
  omega
theorem srlI_ser {xs : List Row} {w : Int} (h : VA xs) (hw : ¬ w ≤ 7) (h8 : w ≤ 8) : (serL (srlI xs w.toNat (Int.toNat 0))).2 = true := by
  have : srlI xs w.toNat (Int.toNat 0) = srlF xs 8 := by
    unfold srlI; rw [show w.toNat = 8 by omega]; simp
  rw [this]; exact srlF_ser h
theorem srlI_ser0 {xs : List Row} {w : Int} (h : VA xs) (hw : ¬ w ≤ 7) (h8 : w ≤ 8) : (serL (srlI xs w.toNat 0)).2 = true := srlI_ser h hw h8
theorem srlI_zero0 (xs : List Row) : [] = srlI xs 0 0 := srlI_zero xs
theorem srlI_next0 {xs : List Row} {w i : Int} (h : ¬ i < xs.length) (h0 : 0 ≤ w) : srlI xs w.toNat i.toNat = srlI xs (w + 1).toNat 0 := srlI_next h h0
set_option maxRecDepth 100000 in
set_option maxHeartbeats 16000000 in
theorem p_fnSerialOrderSerial : Proved 10 (cLaw [.c (.s KU8)]) := by
  refine proved_of [(26, cDrawActs), (25, cSer), (27, cSer), (28, cEq KInt), (16, cValid)] ⟨p_drawSerialOrder, p_iSer, p_sSer, p_equalIntS, p_iValidActs, trivial⟩ [.tmp 2] Try.func10 rfl rfl rfl rfl (by kernel_rfl) ?_
  rintro ds K ⟨hds, hrel⟩
  obtain ⟨xs, rfl, h1, h2⟩ := law_code hds
  unfold maxLen at h1
  refine ⟨rfl, Nat.le_of_ble_eq_true rfl, fun k σ => match lookH σ.hp 0 with
    | some (.rows _ _ ys) => match k with
      | 10 => some { α := Lv 10 Int, R := fun ⟨w⟩ => (0 ≤ w ∧ w ≤ 8 ∧ ys.length ≤ 16) ∧ nrms KAct ys = ys ∧ VA ys, μ := fun ⟨w⟩ => (8 - w).toNat, st := fun ⟨w⟩ => upH σ [(9, .int .i64 w), (8, .own 3)] 3 (.rows 33 KAct (srlI ys w.toNat (Int.toNat 0))) }
      | 13 => match lookT σ.tm 9 with
        | .int _ w => some { α := Lv 13 Int, R := fun ⟨i⟩ => (0 ≤ i ∧ i ≤ ys.length), μ := fun ⟨i⟩ => (ys.length - i).toNat, st := fun ⟨i⟩ => upH σ [(10, .int .i64 i), (8, .own 3)] 3 (.rows 33 KAct (srlI ys w.toNat i.toNat)) }
        | _ => none
      | _ => none
    | _ => none, ?_⟩
  repeat' (first | with_reducible refine And.intro ?_ ?_ | (with_reducible intro h; first | (exact absurd h (by decide)) | (guard_hyp h : true = true; clear h) | (guard_hyp h : false = false; clear h) | (have hq := (h : Lv 10 _); clear hq; obtain ⟨_⟩ := h) | (have hq := (h : Lv 13 _); clear hq; obtain ⟨_⟩ := h) | skip) | with_reducible exact True.intro | ((with_reducible refine (id ?_ : @Eq Bool (nodupN _) true)); kernel_rfl) | ((with_reducible refine (id ?_ : @Eq Bool (apartN _ _) true)); kernel_rfl) | ((with_reducible refine (id ?_ : @Eq Bool (formL _ _) true)); kernel_rfl) | ((with_reducible refine (id ?_ : @Eq _ _ _)); exact rfl) | ((conv => whnf); first | done | with_reducible refine And.intro ?_ ?_ | (with_reducible intro h; first | (exact absurd h (by decide)) | (guard_hyp h : true = true; clear h) | (guard_hyp h : false = false; clear h) | (have hq := (h : Lv 10 _); clear hq; obtain ⟨_⟩ := h) | (have hq := (h : Lv 13 _); clear hq; obtain ⟨_⟩ := h) | skip) | with_reducible exact True.intro | ((with_reducible refine (id ?_ : @Eq _ _ _)); exact rfl) | refine Exists.intro (⟨?_⟩ : Lv 10 _) ?_ | refine Exists.intro (⟨?_⟩ : Lv 13 _) ?_ | refine Exists.intro _ (Exists.intro _ (And.intro hrel ?_)) | exact Or.inl rfl | exact Or.inr (And.intro rfl rfl) | (apply Exists.intro; refine And.intro ?_ ?_)) | exact Nat.le_of_ble_eq_true rfl)
  all_goals (try ((try (change _ = _)) <;> (try dsimp only at *) <;> (try simp only [decide_eq_true_eq, decide_eq_false_iff_not, Bool.not_eq_true', Bool.not_eq_false', Bool.and_eq_true, Bool.and_eq_false_iff, beq_iff_eq, bne_iff_ne, beq_eq_false_iff_ne, bne_eq_false_iff_eq, ne_eq, Decidable.not_not, bne_self_eq_false, Bool.false_eq_true, Bool.true_eq_false, Bool.not_true, Bool.not_false, not_true_eq_false, not_false_eq_true, Int.toNat_natCast, Nat.zero_add, Nat.reduceAdd, Nat.reduceMul, Nat.reduceDiv, Nat.mul_one, lenK_one, big, fill_len, marking_len, marks_len, nrms_len, List.length_set, List.length_append, List.length_map, List.length_replicate, List.length_cons, List.length_nil, Int.natCast_add, Int.natCast_one, Int.natCast_zero, decide_true, beq_self_eq_true, List.drop_zero, Int.toNat_zero] at *) <;> (repeat (with_reducible rename _ ∧ _ => hh; obtain ⟨_, _⟩ := hh)) <;> (first | omega | (refine fits_i64 ?_; omega) | (split <;> omega) | exact h2 _ (by with_reducible assumption) | (with_reducible assumption) | (with_reducible exact se_big _) | (with_reducible exact serL_len _) | (with_reducible exact srlI_zero0 _) | (with_reducible exact srlI_next0 (by omega) (by omega)) | (with_reducible exact srlI_yes (by with_reducible assumption) (by with_reducible assumption) (by omega) (by omega) (by omega)) | (with_reducible exact (srlI_yes (by with_reducible assumption) (by with_reducible assumption) (by omega) (by omega) (by omega)).symm) | (with_reducible exact srlI_no (by with_reducible assumption) (by omega) (by omega) (by omega)) | (with_reducible exact srlI_ser0 (by with_reducible assumption) (by omega) (by omega)) | (refine Nat.le_trans (Nat.mul_le_mul_right 24 (Nat.add_le_add_right (srlI_len _ _ (by omega)) _)) ?_; omega) | (refine Nat.le_trans (srlI_len _ _ (by omega)) ?_; omega) | (rfl))))
/-! Where locks are kept. -/
theorem lk_strict {xs : List Row} (h : Str false xs) : Str true xs := ⟨h.1, ⟨fun i hi => ⟨fun k hk hb => (h.2.h i hi).h k hk ⟨(fun q => by cases q), hb.2⟩⟩⟩⟩
theorem lk_dec {xs : List Row} (h : Str false xs) : decide (Str true xs) = true := by simpa using lk_strict h
def cDrawL : Ct := ⟨[], fun ds K => match ds with
  | [.view ks xs] => ks = KU8 ∧ (xs.length : Int) < big ∧ (∀ i, i < xs.length → RowOk KU8 (row xs i)) ∧ ∀ ys : List Row, ys.length ≤ 16 → K (.view KAct ys) []
  | _ => False⟩
/-- The orders of regions that draw. -/
def trDrawL : Nat → Option (Bool × Tr)
  | 9 => some (false, .take 1 (.take 3 (.take 4 (.take 5 (.all (.cons 0 (.all (.cons 2 (.all (.cons 6 (.all (.cons 7 (.all (.cons 8 (.all (.cons 9 .done .nil)) .nil)) .nil)) .nil)) (.cons 6 (.all (.cons 2 (.all (.cons 7 (.all (.cons 8 (.all (.cons 9 .done .nil)) .nil)) .nil)) (.cons 7 (.all (.cons 2 (.all (.cons 8 (.all (.cons 9 .done .nil)) .nil)) .nil)) .nil))) .nil))) (.cons 6 (.all (.cons 0 (.all (.cons 2 (.all (.cons 7 (.all (.cons 8 (.all (.cons 9 .done .nil)) .nil)) .nil)) (.cons 7 (.all (.cons 2 (.all (.cons 8 (.all (.cons 9 .done .nil)) .nil)) .nil)) .nil))) (.cons 7 (.all (.cons 0 (.all (.cons 2 (.all (.cons 8 (.all (.cons 9 .done .nil)) .nil)) .nil)) .nil)) .nil))) .nil)))))))
  | _ => none
set_option maxRecDepth 100000 in
set_option maxHeartbeats 16000000 in
theorem p_drawIsLocked : Proved 24 cDrawL := by
  refine proved_tr trDrawL [(38, cNewReader), (37, cAnyActs 200), (43, cPick), (19, cStr false)] ⟨p_newReader, p_anyActs, p_pick, p_sLocked, trivial⟩ [.tmp 2] Try.func24 rfl rfl rfl rfl (by kernel_rfl) ?_
  intro ds K hrel
  simp only [cDrawL] at hrel
  split at hrel
  case h_2 => exact hrel.elim
  rename_i ks xs
  obtain ⟨rfl, h1, h2, hrel⟩ := hrel
  refine ⟨rfl, Nat.le_of_ble_eq_true rfl, fun k σ => match lookT σ.tm 4 with
    | .own l => match lookH σ.hp l with
      | some (.rows _ _ ys) => match k with
        | 7 => some { α := Lv 7 (List Row × Int), R := fun ⟨(out, i)⟩ => (0 ≤ i ∧ i ≤ ys.length ∧ ys.length ≤ 16 ∧ (out.length : Int) ≤ i), μ := fun ⟨(_, i)⟩ => (ys.length - i).toNat, st := fun ⟨(out, i)⟩ => upH σ [(6, .int .i64 i), (5, .own 2)] 2 (.rows 33 KAct out) }
        | _ => none
      | _ => none
    | _ => none, ?_⟩
  repeat' (first | with_reducible refine And.intro ?_ ?_ | (with_reducible intro h; first | (exact absurd h (by decide)) | (guard_hyp h : true = true; clear h) | (guard_hyp h : false = false; clear h) | (have hq := (h : Lv 7 _); clear hq; obtain ⟨_, _⟩ := h) | skip) | with_reducible exact True.intro | ((with_reducible refine (id ?_ : @Eq Bool (nodupN _) true)); kernel_rfl) | ((with_reducible refine (id ?_ : @Eq Bool (apartN _ _) true)); kernel_rfl) | ((with_reducible refine (id ?_ : @Eq Bool (formL _ _) true)); kernel_rfl) | ((with_reducible refine (id ?_ : @Eq _ _ _)); exact rfl) | ((conv => whnf); first | done | with_reducible refine And.intro ?_ ?_ | (with_reducible intro h; first | (exact absurd h (by decide)) | (guard_hyp h : true = true; clear h) | (guard_hyp h : false = false; clear h) | (have hq := (h : Lv 7 _); clear hq; obtain ⟨_, _⟩ := h) | skip) | with_reducible exact True.intro | ((with_reducible refine (id ?_ : @Eq _ _ _)); exact rfl) | (refine Exists.intro _ (Exists.intro _ (And.intro (hrel ?_ ?_) ?_))) | refine Exists.intro (⟨(?_, ?_)⟩ : Lv 7 _) ?_ | refine Exists.intro _ (Exists.intro _ (And.intro hrel ?_)) | exact Or.inl rfl | exact Or.inr (And.intro rfl rfl) | (apply Exists.intro; refine And.intro ?_ ?_)) | exact Nat.le_of_ble_eq_true rfl)
  all_goals (try ((repeat (with_reducible rename PickR _ _ => hq; have hq1 := hq.lo; have hq2 := hq.hi; have hq3 := hq.zero; clear hq)) <;> (try (change _ = _)) <;> (try dsimp only at *) <;> (try simp only [decide_eq_true_eq, decide_eq_false_iff_not, Bool.not_eq_true', Bool.not_eq_false', Bool.and_eq_true, Bool.and_eq_false_iff, beq_iff_eq, bne_iff_ne, beq_eq_false_iff_ne, bne_eq_false_iff_eq, ne_eq, Decidable.not_not, bne_self_eq_false, Bool.false_eq_true, Bool.true_eq_false, Bool.not_true, Bool.not_false, not_true_eq_false, not_false_eq_true, Int.toNat_natCast, Nat.zero_add, Nat.reduceAdd, Nat.reduceMul, Nat.reduceDiv, Nat.mul_one, lenK_one, big, fill_len, marking_len, marks_len, nrms_len, List.length_set, List.length_append, List.length_map, List.length_replicate, List.length_cons, List.length_nil, Int.natCast_add, Int.natCast_one, Int.natCast_zero, memI_i, memI_nil, or_false, false_or] at *) <;> (repeat (with_reducible rename _ ∧ _ => hh; obtain ⟨_, _⟩ := hh)) <;> (first | omega | (refine fits_i64 ?_; omega) | (split <;> omega) | exact h2 _ (by with_reducible assumption) | (with_reducible assumption) | rfl)))
set_option maxRecDepth 100000 in
set_option maxHeartbeats 16000000 in
theorem p_fnIsLocked : Proved 8 (cLaw [.c (.s KU8)]) := by
  refine proved_of [(24, cDrawL), (20, cStr false), (19, cStr false), (25, cSer), (22, cStr true)] ⟨p_drawIsLocked, p_iLocked, p_sLocked, p_iSer, p_iStrict, trivial⟩ [.tmp 2] Try.func8 rfl rfl rfl rfl (by kernel_rfl) ?_
  rintro ds K ⟨hds, hrel⟩
  obtain ⟨xs, rfl, h1, h2⟩ := law_code hds
  unfold maxLen at h1
  refine ⟨rfl, Nat.le_of_ble_eq_true rfl, fun _ _ => none, ?_⟩
  repeat' (first | with_reducible refine And.intro ?_ ?_ | (with_reducible intro h; first | (exact absurd h (by decide)) | (guard_hyp h : true = true; clear h) | (guard_hyp h : false = false; clear h) | skip) | with_reducible exact True.intro | ((with_reducible refine (id ?_ : @Eq Bool (nodupN _) true)); kernel_rfl) | ((with_reducible refine (id ?_ : @Eq Bool (apartN _ _) true)); kernel_rfl) | ((with_reducible refine (id ?_ : @Eq Bool (formL _ _) true)); kernel_rfl) | ((with_reducible refine (id ?_ : @Eq _ _ _)); exact rfl) | ((conv => whnf); first | done | with_reducible refine And.intro ?_ ?_ | (with_reducible intro h; first | (exact absurd h (by decide)) | (guard_hyp h : true = true; clear h) | (guard_hyp h : false = false; clear h) | skip) | with_reducible exact True.intro | ((with_reducible refine (id ?_ : @Eq _ _ _)); exact rfl) | refine Exists.intro _ (Exists.intro _ (And.intro hrel ?_)) | exact Or.inl rfl | exact Or.inr (And.intro rfl rfl) | (apply Exists.intro; refine And.intro ?_ ?_)) | exact Nat.le_of_ble_eq_true rfl)
  all_goals (try ((try (change _ = _)) <;> (try dsimp only at *) <;> (try simp only [decide_eq_true_eq, decide_eq_false_iff_not, Bool.not_eq_true', Bool.not_eq_false', Bool.and_eq_true, Bool.and_eq_false_iff, beq_iff_eq, bne_iff_ne, beq_eq_false_iff_ne, bne_eq_false_iff_eq, ne_eq, Decidable.not_not, bne_self_eq_false, Bool.false_eq_true, Bool.true_eq_false, Bool.not_true, Bool.not_false, not_true_eq_false, not_false_eq_true, Int.toNat_natCast, Nat.zero_add, Nat.reduceAdd, Nat.reduceMul, Nat.reduceDiv, Nat.mul_one, lenK_one, big, fill_len, marking_len, marks_len, nrms_len, List.length_set, List.length_append, List.length_map, List.length_replicate, List.length_cons, List.length_nil, Int.natCast_add, Int.natCast_one, Int.natCast_zero, decide_true, beq_self_eq_true] at *) <;> (repeat (with_reducible rename _ ∧ _ => hh; obtain ⟨_, _⟩ := hh)) <;> (first | omega | (refine fits_i64 ?_; omega) | (split <;> omega) | exact h2 _ (by with_reducible assumption) | (with_reducible assumption) | (with_reducible exact se_big _) | (with_reducible exact serL_len _) | (with_reducible exact lock_order (by with_reducible assumption)) | (with_reducible exact lk_strict (by with_reducible assumption)) | (exact lk_dec (by with_reducible assumption)) | (exfalso; exact absurd (lock_order (by with_reducible assumption)) (by with_reducible assumption)) | (have q := lock_order (by with_reducible assumption); simp_all; done))))
end Go.Proofs.Ytmdlffhkhhionaa.V
