/-
  Queues of requests: what is granted and who waits for whom.
-/
import Derived.Test.YtbppiknmlipmpaaDoorWe
import Derived.Test.YtbppiknmlipmpaaDoorWi
set_option linter.unusedSimpArgs false
set_option linter.unusedVariables false
namespace Go.Proofs.YtbppiknmlipmpaaDoor.V
open Go Go.RowKit
open Classical

def tTab : List Row := [[.i 63], [.i 31], [.i 7], [.i 11], [.i 3], [.i 1]]
/-- Two modes go together. -/
@[irreducible] def togB (a b : Int) : Bool := if a = 0 ∨ b = 0 then true else if a = 5 ∨ b = 5 then false else if a = 4 ∨ b = 4 then decide (a = 1 ∨ b = 1) else if a = 1 ∨ b = 1 then true else decide (a = b)
theorem togB_def (a b : Int) : togB a b = if a = 0 ∨ b = 0 then true else if a = 5 ∨ b = 5 then false else if a = 4 ∨ b = 4 then decide (a = 1 ∨ b = 1) else if a = 1 ∨ b = 1 then true else decide (a = b) := by unfold togB; rfl
theorem togB_sym (a b : Int) : togB a b = togB b a := by
  rw [togB_def, togB_def]
  (repeat' split) <;> first | rfl | (exfalso; omega) | (rw [decide_eq_decide]; omega)
theorem tg_0 {a b : Int} (h : a = 0 ∨ b = 0) : true = togB a b := by rw [togB_def, if_pos h]
theorem tg_5 {a b : Int} (h : ¬ (a = 0 ∨ b = 0)) (h5 : a = 5 ∨ b = 5) : false = togB a b := by rw [togB_def, if_neg h, if_pos h5]
theorem tg_4 {a b : Int} (h : ¬ (a = 0 ∨ b = 0)) (h5 : ¬ (a = 5 ∨ b = 5)) (h4 : a = 4 ∨ b = 4) : decide (a = 1 ∨ b = 1) = togB a b := by rw [togB_def, if_neg h, if_neg h5, if_pos h4]
theorem tg_4a {a b : Int} (h : ¬ (a = 0 ∨ b = 0)) (h5 : ¬ (a = 5 ∨ b = 5)) (h4 : a = 4 ∨ b = 4) (h1 : a = 1) : true = togB a b := by rw [← tg_4 h h5 h4]; simp [h1]
theorem tg_4b {a b : Int} (h : ¬ (a = 0 ∨ b = 0)) (h5 : ¬ (a = 5 ∨ b = 5)) (h4 : a = 4 ∨ b = 4) (h1 : ¬ a = 1) : (b == 1) = togB a b := by rw [← tg_4 h h5 h4, Bool.eq_iff_iff]; simp [h1]
theorem tg_1 {a b : Int} (h : ¬ (a = 0 ∨ b = 0)) (h5 : ¬ (a = 5 ∨ b = 5)) (h4 : ¬ (a = 4 ∨ b = 4)) (h1 : a = 1 ∨ b = 1) : true = togB a b := by rw [togB_def, if_neg h, if_neg h5, if_neg h4, if_pos h1]
theorem tg_e {a b : Int} (h : ¬ (a = 0 ∨ b = 0)) (h5 : ¬ (a = 5 ∨ b = 5)) (h4 : ¬ (a = 4 ∨ b = 4)) (h1 : ¬ (a = 1 ∨ b = 1)) : (a == b) = togB a b := by rw [togB_def, if_neg h, if_neg h5, if_neg h4, if_neg h1, Bool.eq_iff_iff]; simp
theorem tab_tog0 : ∀ a : Nat, a < 6 → ∀ b : Nat, b < 6 → (bitop .and .u8 (shrop .u8 (rc (row tTab a) 0).int (b : Int)) 1 == 1) = (if (a : Int) = 0 ∨ (b : Int) = 0 then true else if (a : Int) = 5 ∨ (b : Int) = 5 then false else if (a : Int) = 4 ∨ (b : Int) = 4 then decide ((a : Int) = 1 ∨ (b : Int) = 1) else if (a : Int) = 1 ∨ (b : Int) = 1 then true else decide ((a : Int) = b)) := by decide +kernel
theorem tab_tog {a b : Int} (ha : 0 ≤ a ∧ a ≤ 5) (hb : 0 ≤ b ∧ b ≤ 5) : (bitop .and .u8 (shrop .u8 (rc (row [[.i 63], [.i 31], [.i 7], [.i 11], [.i 3], [.i 1]] a.toNat) 0).int b) 1 == 1) = togB a b := by
  have h := tab_tog0 a.toNat (by omega) b.toNat (by omega)
  rw [show ((a.toNat : Nat) : Int) = a by omega, show ((b.toNat : Nat) : Int) = b by omega] at h
  rw [togB_def, ← h]; rfl
theorem tab_togD {a b : Int} (ha : 0 ≤ a ∧ a ≤ 5) (hb : 0 ≤ b ∧ b ≤ 5) : decide (bitop .and .u8 (shrop .u8 (rc (row [[.i 63], [.i 31], [.i 7], [.i 11], [.i 3], [.i 1]] a.toNat) 0).int b) 1 = 1) = togB a b := by
  rw [← tab_tog ha hb]; rfl
def cVM : Ct := ⟨[], fun ds K => match ds with
  | [.int .i64 m] => K (.bool (decide (0 ≤ m ∧ m ≤ 5))) []
  | _ => False⟩
def cTog : Ct := ⟨[], fun ds K => match ds with
  | [.int .i64 a, .int .i64 b] => (0 ≤ a ∧ a ≤ 5) ∧ (0 ≤ b ∧ b ≤ 5) ∧ K (.bool (togB a b)) []
  | _ => False⟩
def cTogS : Ct := ⟨[], fun ds K => match ds with
  | [.int .i64 a, .int .i64 b] => K (.bool (togB a b)) []
  | _ => False⟩
set_option maxRecDepth 100000 in
set_option maxHeartbeats 4000000 in
theorem p_validMode : Proved 42 cVM := by
  refine proved_of [] trivial [.tmp 2] Tryd.func42 rfl rfl rfl rfl (by kernel_rfl) ?_
  intro ds K hrel
  simp only [cVM] at hrel
  split at hrel
  case h_2 => exact hrel.elim
  refine ⟨rfl, Nat.le_of_ble_eq_true rfl, fun _ _ => none, ?_⟩
  repeat' (first | with_reducible refine And.intro ?_ ?_ | (with_reducible intro h; first | (exact absurd h (by decide)) | (guard_hyp h : true = true; clear h) | (guard_hyp h : false = false; clear h) | skip) | with_reducible exact True.intro | ((with_reducible refine (id ?_ : @Eq Bool (nodupN _) true)); kernel_rfl) | ((with_reducible refine (id ?_ : @Eq Bool (apartN _ _) true)); kernel_rfl) | ((with_reducible refine (id ?_ : @Eq Bool (formL _ _) true)); kernel_rfl) | ((with_reducible refine (id ?_ : @Eq _ _ _)); exact rfl) | ((conv => whnf); first | done | with_reducible refine And.intro ?_ ?_ | (with_reducible intro h; first | (exact absurd h (by decide)) | (guard_hyp h : true = true; clear h) | (guard_hyp h : false = false; clear h) | skip) | with_reducible exact True.intro | ((with_reducible refine (id ?_ : @Eq _ _ _)); exact rfl) | refine Exists.intro _ (Exists.intro _ (And.intro hrel ?_)) | exact Or.inl rfl | exact Or.inr (And.intro rfl rfl) | (apply Exists.intro; refine And.intro ?_ ?_)) | exact Nat.le_of_ble_eq_true rfl)
  all_goals (try ((try (change _ = _)) <;> (try dsimp only at *) <;> (try simp only [decide_eq_true_eq, decide_eq_false_iff_not, Bool.not_eq_true', Bool.not_eq_false', Bool.and_eq_true, Bool.and_eq_false_iff, beq_iff_eq, bne_iff_ne, beq_eq_false_iff_ne, bne_eq_false_iff_eq, ne_eq, Decidable.not_not, bne_self_eq_false, Bool.false_eq_true, Bool.true_eq_false, Bool.not_true, Bool.not_false, not_true_eq_false, not_false_eq_true, Int.toNat_natCast, Nat.zero_add, Nat.reduceAdd, Nat.reduceMul, Nat.reduceDiv, Nat.mul_one, lenK_one, big, fill_len, marking_len, marks_len, nrms_len, List.length_set, List.length_append, List.length_map, List.length_replicate, List.length_cons, List.length_nil, Int.natCast_add, Int.natCast_one, Int.natCast_zero] at *) <;> (repeat (with_reducible rename _ ∧ _ => hh; obtain ⟨_, _⟩ := hh)) <;> (first | omega | (refine fits_i64 ?_; omega) | (split <;> omega) | (simp_all; done) | (simp_all; intros; omega))))
set_option maxRecDepth 100000 in
set_option maxHeartbeats 4000000 in
theorem p_tog : Proved 31 cTog := by
  refine proved_of [(42, cVM)] ⟨p_validMode, trivial⟩ [.tmp 4] Tryd.func31 rfl rfl rfl rfl (by kernel_rfl) ?_
  intro ds K hrel
  simp only [cTog] at hrel
  split at hrel
  case h_2 => exact hrel.elim
  obtain ⟨ha, hb, hrel⟩ := hrel
  refine ⟨rfl, Nat.le_of_ble_eq_true rfl, fun _ _ => none, ?_⟩
  repeat' (first | with_reducible refine And.intro ?_ ?_ | (with_reducible intro h; first | (exact absurd h (by decide)) | (guard_hyp h : true = true; clear h) | (guard_hyp h : false = false; clear h) | skip) | with_reducible exact True.intro | ((with_reducible refine (id ?_ : @Eq Bool (nodupN _) true)); kernel_rfl) | ((with_reducible refine (id ?_ : @Eq Bool (apartN _ _) true)); kernel_rfl) | ((with_reducible refine (id ?_ : @Eq Bool (formL _ _) true)); kernel_rfl) | ((with_reducible refine (id ?_ : @Eq _ _ _)); exact rfl) | ((conv => whnf); first | done | with_reducible refine And.intro ?_ ?_ | (with_reducible intro h; first | (exact absurd h (by decide)) | (guard_hyp h : true = true; clear h) | (guard_hyp h : false = false; clear h) | skip) | with_reducible exact True.intro | ((with_reducible refine (id ?_ : @Eq _ _ _)); exact rfl) | refine Exists.intro _ (Exists.intro _ (And.intro hrel ?_)) | exact Or.inl rfl | exact Or.inr (And.intro rfl rfl) | (apply Exists.intro; refine And.intro ?_ ?_)) | exact Nat.le_of_ble_eq_true rfl)
  all_goals (try ((try (change _ = _)) <;> (try dsimp only at *) <;> (try simp only [decide_eq_true_eq, decide_eq_false_iff_not, Bool.not_eq_true', Bool.not_eq_false', Bool.and_eq_true, Bool.and_eq_false_iff, beq_iff_eq, bne_iff_ne, beq_eq_false_iff_ne, bne_eq_false_iff_eq, ne_eq, Decidable.not_not, bne_self_eq_false, Bool.false_eq_true, Bool.true_eq_false, Bool.not_true, Bool.not_false, not_true_eq_false, not_false_eq_true, Int.toNat_natCast, Nat.zero_add, Nat.reduceAdd, Nat.reduceMul, Nat.reduceDiv, Nat.mul_one, lenK_one, big, fill_len, marking_len, marks_len, nrms_len, List.length_set, List.length_append, List.length_map, List.length_replicate, List.length_cons, List.length_nil, Int.natCast_add, Int.natCast_one, Int.natCast_zero] at *) <;> (repeat (with_reducible rename _ ∧ _ => hh; obtain ⟨_, _⟩ := hh)) <;> (first | omega | (refine fits_i64 ?_; omega) | (split <;> omega) | (exact tab_tog (by omega) (by omega)) | (exact tab_togD (by omega) (by omega)) | (exact (tab_tog (by omega) (by omega)).symm) | (exact (tab_togD (by omega) (by omega)).symm) | (simp_all; done))))
set_option maxRecDepth 100000 in
set_option maxHeartbeats 4000000 in
theorem p_togS : Proved 33 cTogS := by
  refine proved_of [] trivial [.tmp 4] Tryd.func33 rfl rfl rfl rfl (by kernel_rfl) ?_
  intro ds K hrel
  simp only [cTogS] at hrel
  split at hrel
  case h_2 => exact hrel.elim
  refine ⟨rfl, Nat.le_of_ble_eq_true rfl, fun _ _ => none, ?_⟩
  repeat' (first | with_reducible refine And.intro ?_ ?_ | (with_reducible intro h; first | (exact absurd h (by decide)) | (guard_hyp h : true = true; clear h) | (guard_hyp h : false = false; clear h) | skip) | with_reducible exact True.intro | ((with_reducible refine (id ?_ : @Eq Bool (nodupN _) true)); kernel_rfl) | ((with_reducible refine (id ?_ : @Eq Bool (apartN _ _) true)); kernel_rfl) | ((with_reducible refine (id ?_ : @Eq Bool (formL _ _) true)); kernel_rfl) | ((with_reducible refine (id ?_ : @Eq _ _ _)); exact rfl) | ((conv => whnf); first | done | with_reducible refine And.intro ?_ ?_ | (with_reducible intro h; first | (exact absurd h (by decide)) | (guard_hyp h : true = true; clear h) | (guard_hyp h : false = false; clear h) | skip) | with_reducible exact True.intro | ((with_reducible refine (id ?_ : @Eq _ _ _)); exact rfl) | refine Exists.intro _ (Exists.intro _ (And.intro hrel ?_)) | exact Or.inl rfl | exact Or.inr (And.intro rfl rfl) | (apply Exists.intro; refine And.intro ?_ ?_)) | exact Nat.le_of_ble_eq_true rfl)
  all_goals (try ((try (change _ = _)) <;> (try dsimp only at *) <;> (try simp only [decide_eq_true_eq, decide_eq_false_iff_not, Bool.not_eq_true', Bool.not_eq_false', Bool.and_eq_true, Bool.and_eq_false_iff, beq_iff_eq, bne_iff_ne, beq_eq_false_iff_ne, bne_eq_false_iff_eq, ne_eq, Decidable.not_not, bne_self_eq_false, Bool.false_eq_true, Bool.true_eq_false, Bool.not_true, Bool.not_false, not_true_eq_false, not_false_eq_true, Int.toNat_natCast, Nat.zero_add, Nat.reduceAdd, Nat.reduceMul, Nat.reduceDiv, Nat.mul_one, lenK_one, big, fill_len, marking_len, marks_len, nrms_len, List.length_set, List.length_append, List.length_map, List.length_replicate, List.length_cons, List.length_nil, Int.natCast_add, Int.natCast_one, Int.natCast_zero] at *) <;> (repeat (with_reducible rename _ ∧ _ => hh; obtain ⟨_, _⟩ := hh)) <;> (first | omega | (refine fits_i64 ?_; omega) | (split <;> omega) | exact tg_0 (by omega) | exact tg_5 (by omega) (by omega) | exact tg_4a (by omega) (by omega) (by omega) (by omega) | exact tg_4b (by omega) (by omega) (by omega) (by omega) | exact tg_1 (by omega) (by omega) (by omega) (by omega) | exact tg_e (by omega) (by omega) (by omega) (by omega))))
/-- The mode of request i. -/
def mo (rs : List Row) (i : Nat) : Int := (rc (row rs i) 1).int
/-- Request n goes with the first k. -/
structure TogN (rs : List Row) (n k : Int) : Prop where
  h : ∀ j : Nat, (j : Int) < k → togB (rc (row rs j) 1).int (rc (row rs n.toNat) 1).int = true
theorem togN_zero (rs : List Row) (n : Int) : TogN rs n 0 := ⟨fun j h => by omega⟩
theorem togN_step {rs : List Row} {n k : Int} (h : TogN rs n k) (h1 : togB (rc (row rs k.toNat) 1).int (rc (row rs n.toNat) 1).int = true) (h0 : 0 ≤ k) : TogN rs n (k + 1) := ⟨fun j h2 => by
  by_cases e : (j : Int) = k
  · rw [show j = k.toNat by omega]; exact h1
  · exact h.h j (by omega)⟩
/-- The first n go together. -/
structure GrN (rs : List Row) (n : Int) : Prop where
  h : ∀ j : Nat, (j : Int) < n → TogN rs j j
theorem grN_zero (rs : List Row) : GrN rs 0 := ⟨fun j h => by omega⟩
theorem grN_step {rs : List Row} {n k : Int} (h : GrN rs n) (h1 : TogN rs n k) (hk : ¬ k < n) (h0 : 0 ≤ n) : GrN rs (n + 1) := ⟨fun j h2 => by
  by_cases e : (j : Int) = n
  · exact ⟨fun i hi => by have := h1.h i (by omega); rw [e]; exact this⟩
  · exact h.h j (by omega)⟩
/-- So many are granted. -/
structure Grt (rs : List Row) (g : Int) : Prop where
  r : 0 ≤ g ∧ g ≤ rs.length
  n : GrN rs g
  s : g < rs.length → ¬ TogN rs g g
theorem grt_uni {rs : List Row} {g g' : Int} (h : Grt rs g) (h' : Grt rs g') : g = g' := by
  have r := h.r; have r' := h'.r
  by_cases e : g = g'
  · exact e
  rcases Int.lt_or_gt_of_ne e with q | q
  · have := h'.n.h g.toNat (by omega)
    rw [show ((g.toNat : Nat) : Int) = g by omega] at this
    exact absurd this (h.s (by omega))
  · have := h.n.h g'.toNat (by omega)
    rw [show ((g'.toNat : Nat) : Int) = g' by omega] at this
    exact absurd this (h'.s (by omega))
theorem grt_ex0 (rs : List Row) : ∀ n : Nat, n ≤ rs.length → (∃ g, Grt rs g) ∨ GrN rs n
  | 0, _ => .inr (grN_zero rs)
  | n + 1, hn => by
    rcases grt_ex0 rs n (by omega) with h | h
    · exact .inl h
    · by_cases ht : TogN rs (n : Int) (n : Int)
      · right
        have := grN_step h ht (by omega) (by omega)
        simpa using this
      · exact .inl ⟨(n : Int), by omega, h, fun _ => ht⟩
theorem grt_ex (rs : List Row) : ∃ g, Grt rs g := by
  rcases grt_ex0 rs rs.length (Nat.le_refl _) with h | h
  · exact h
  · exact ⟨rs.length, by omega, h, fun q => by omega⟩
@[irreducible] noncomputable def grtV (rs : List Row) : Int := Classical.choose (grt_ex rs)
theorem grtV_is (rs : List Row) : Grt rs (grtV rs) := by unfold grtV; exact Classical.choose_spec (grt_ex rs)
theorem grtV_r (rs : List Row) : 0 ≤ grtV rs ∧ grtV rs ≤ rs.length := (grtV_is rs).r
theorem grt_no {rs : List Row} {n k : Int} (h : GrN rs n) (h1 : togB (rc (row rs k.toNat) 1).int (rc (row rs n.toNat) 1).int = false) (h0 : 0 ≤ k) (hk : k < n) (hn : n < rs.length) : n = grtV rs := grt_uni ⟨by omega, h, fun _ q => by
  have := q.h k.toNat (by omega); rw [h1] at this; cases this⟩ (grtV_is rs)
theorem grt_all {rs : List Row} {n : Int} (h : GrN rs n) (hn : ¬ n < rs.length) (hl : n ≤ rs.length) : (rs.length : Int) = grtV rs := grt_uni ⟨by omega, by rw [show (rs.length : Int) = n by omega]; exact h, fun q => by omega⟩ (grtV_is rs)
noncomputable def cGrt : Ct := ⟨[], fun ds K => match ds with
  | [.view ks rs] => ks = KRequest ∧ (rs.length : Int) < big ∧ K (.int .i64 (grtV rs)) []
  | _ => False⟩
set_option maxRecDepth 100000 in
set_option maxHeartbeats 8000000 in
theorem p_sGrt : Proved 32 cGrt := by
  refine proved_of [(33, cTogS)] ⟨p_togS, trivial⟩ [.tmp 2] Tryd.func32 rfl rfl rfl rfl (by kernel_rfl) ?_
  intro ds K hrel
  simp only [cGrt] at hrel
  split at hrel
  case h_2 => exact hrel.elim
  rename_i ks rs
  obtain ⟨rfl, h1, hrel⟩ := hrel
  refine ⟨rfl, Nat.le_of_ble_eq_true rfl, fun k σ => match k with
    | 2 => some { α := Lv 2 Int, R := fun ⟨n⟩ => (0 ≤ n ∧ n ≤ rs.length) ∧ GrN rs n, μ := fun ⟨n⟩ => (rs.length - n).toNat, st := fun ⟨n⟩ => up σ [(3, .int .i64 n)] }
    | 5 => match lookT σ.tm 3 with
      | .int _ n => some { α := Lv 5 Int, R := fun ⟨k⟩ => (0 ≤ k ∧ k ≤ n ∧ n < rs.length) ∧ TogN rs n k, μ := fun ⟨k⟩ => (n - k).toNat, st := fun ⟨k⟩ => up σ [(4, .int .i64 k)] }
      | _ => none
    | _ => none, ?_⟩
  repeat' (first | with_reducible refine And.intro ?_ ?_ | (with_reducible intro h; first | (exact absurd h (by decide)) | (guard_hyp h : true = true; clear h) | (guard_hyp h : false = false; clear h) | (have hq := (h : Lv 2 _); clear hq; obtain ⟨_⟩ := h) | (have hq := (h : Lv 5 _); clear hq; obtain ⟨_⟩ := h) | skip) | with_reducible exact True.intro | ((with_reducible refine (id ?_ : @Eq Bool (nodupN _) true)); kernel_rfl) | ((with_reducible refine (id ?_ : @Eq Bool (apartN _ _) true)); kernel_rfl) | ((with_reducible refine (id ?_ : @Eq Bool (formL _ _) true)); kernel_rfl) | ((with_reducible refine (id ?_ : @Eq _ _ _)); exact rfl) | ((conv => whnf); first | done | with_reducible refine And.intro ?_ ?_ | (with_reducible intro h; first | (exact absurd h (by decide)) | (guard_hyp h : true = true; clear h) | (guard_hyp h : false = false; clear h) | (have hq := (h : Lv 2 _); clear hq; obtain ⟨_⟩ := h) | (have hq := (h : Lv 5 _); clear hq; obtain ⟨_⟩ := h) | skip) | with_reducible exact True.intro | ((with_reducible refine (id ?_ : @Eq _ _ _)); exact rfl) | refine Exists.intro (⟨?_⟩ : Lv 2 _) ?_ | refine Exists.intro (⟨?_⟩ : Lv 5 _) ?_ | refine Exists.intro _ (Exists.intro _ (And.intro hrel ?_)) | exact Or.inl rfl | exact Or.inr (And.intro rfl rfl) | (apply Exists.intro; refine And.intro ?_ ?_)) | exact Nat.le_of_ble_eq_true rfl)
  all_goals (try ((try (change _ = _)) <;> (try dsimp only at *) <;> (try simp only [decide_eq_true_eq, decide_eq_false_iff_not, Bool.not_eq_true', Bool.not_eq_false', Bool.and_eq_true, Bool.and_eq_false_iff, beq_iff_eq, bne_iff_ne, beq_eq_false_iff_ne, bne_eq_false_iff_eq, ne_eq, Decidable.not_not, bne_self_eq_false, Bool.false_eq_true, Bool.true_eq_false, Bool.not_true, Bool.not_false, not_true_eq_false, not_false_eq_true, Int.toNat_natCast, Nat.zero_add, Nat.reduceAdd, Nat.reduceMul, Nat.reduceDiv, Nat.mul_one, lenK_one, big, fill_len, marking_len, marks_len, nrms_len, List.length_set, List.length_append, List.length_map, List.length_replicate, List.length_cons, List.length_nil, Int.natCast_add, Int.natCast_one, Int.natCast_zero] at *) <;> (repeat (with_reducible rename _ ∧ _ => hh; obtain ⟨_, _⟩ := hh)) <;> (first | omega | (refine fits_i64 ?_; omega) | (split <;> omega) | (with_reducible assumption) | exact grN_zero _ | exact togN_zero _ _ | exact togN_step (by with_reducible assumption) (by with_reducible assumption) (by omega) | exact grN_step (by with_reducible assumption) (by with_reducible assumption) (by omega) (by omega) | exact grt_no (by with_reducible assumption) (by with_reducible assumption) (by omega) (by omega) (by omega) | exact grt_all (by with_reducible assumption) (by omega) (by omega))))
noncomputable def grL (rs : List Row) : Int := if ReqV rs then grtV rs else -1
theorem grL_yes {rs : List Row} (h : ReqV rs) : grL rs = grtV rs := by rw [grL, if_pos h]
theorem grL_no {rs : List Row} (h : ¬ ReqV rs) : grL rs = -1 := by rw [grL, if_neg h]
theorem grL_noS {rs : List Row} (h : ¬ ReqV rs) : -1 = grL rs := (grL_no h).symm
theorem grt_noL {rs : List Row} {n k : Int} (hv : ReqV rs) (h : GrN rs n) (h1 : togB (rc (row rs k.toNat) 1).int (rc (row rs n.toNat) 1).int = false) (h0 : 0 ≤ k) (hk : k < n) (hn : n < rs.length) : n = grL rs := by rw [grL_yes hv]; exact grt_no h h1 h0 hk hn
theorem grt_allL {rs : List Row} {n : Int} (hv : ReqV rs) (h : GrN rs n) (hn : ¬ n < rs.length) (hl : n ≤ rs.length) : (rs.length : Int) = grL rs := by rw [grL_yes hv]; exact grt_all h hn hl
theorem rv_mo {rs : List Row} {i : Int} (hv : ReqV rs) (h0 : 0 ≤ i) (hi : i < rs.length) : 0 ≤ (rc (row rs i.toNat) 1).int ∧ (rc (row rs i.toNat) 1).int ≤ 5 := by
  have := (hv.n.o i.toNat (by omega) (by omega)).2; omega
theorem row_takeI {rs : List Row} {n k : Int} (h0 : 0 ≤ k) (hk : k < n) : row (rs.take n.toNat) k.toNat = row rs k.toNat := by
  simp only [row, List.getD_eq_getElem?_getD]
  rw [List.getElem?_take_of_lt (by omega)]
noncomputable def cGrL : Ct := ⟨[], fun ds K => match ds with
  | [.view ks rs] => ks = KRequest ∧ (rs.length : Int) < big ∧ K (.int .i64 (grL rs)) []
  | _ => False⟩
set_option maxRecDepth 100000 in
set_option maxHeartbeats 8000000 in
theorem p_iGrt : Proved 10 cGrL := by
  refine proved_of [(26, cRV), (31, cTog)] ⟨p_validRequests, p_tog, trivial⟩ [.tmp 2] Tryd.func10 rfl rfl rfl rfl (by kernel_rfl) ?_
  intro ds K hrel
  simp only [cGrL] at hrel
  split at hrel
  case h_2 => exact hrel.elim
  rename_i ks rs
  obtain ⟨rfl, h1, hrel⟩ := hrel
  refine ⟨rfl, Nat.le_of_ble_eq_true rfl, fun k σ => match k with
    | 4 => some { α := Lv 4 Int, R := fun ⟨n⟩ => (0 ≤ n ∧ n ≤ rs.length) ∧ GrN rs n ∧ ReqV rs, μ := fun ⟨n⟩ => (rs.length - n).toNat, st := fun ⟨n⟩ => up σ [(12, .int .i64 n)] }
    | 7 => match lookT σ.tm 12 with
      | .int _ n => some { α := Lv 7 Int, R := fun ⟨k⟩ => (0 ≤ k ∧ k ≤ n ∧ n < rs.length) ∧ TogN rs n k, μ := fun ⟨k⟩ => (n - k).toNat, st := fun ⟨k⟩ => up σ [(21, .int .i64 k)] }
      | _ => none
    | _ => none, ?_⟩
  repeat' (first | with_reducible refine And.intro ?_ ?_ | (with_reducible intro h; first | (exact absurd h (by decide)) | (guard_hyp h : true = true; clear h) | (guard_hyp h : false = false; clear h) | (have hq := (h : Lv 4 _); clear hq; obtain ⟨_⟩ := h) | (have hq := (h : Lv 7 _); clear hq; obtain ⟨_⟩ := h) | skip) | with_reducible exact True.intro | ((with_reducible refine (id ?_ : @Eq Bool (nodupN _) true)); kernel_rfl) | ((with_reducible refine (id ?_ : @Eq Bool (apartN _ _) true)); kernel_rfl) | ((with_reducible refine (id ?_ : @Eq Bool (formL _ _) true)); kernel_rfl) | ((with_reducible refine (id ?_ : @Eq _ _ _)); exact rfl) | ((conv => whnf); first | done | with_reducible refine And.intro ?_ ?_ | (with_reducible intro h; first | (exact absurd h (by decide)) | (guard_hyp h : true = true; clear h) | (guard_hyp h : false = false; clear h) | (have hq := (h : Lv 4 _); clear hq; obtain ⟨_⟩ := h) | (have hq := (h : Lv 7 _); clear hq; obtain ⟨_⟩ := h) | skip) | with_reducible exact True.intro | ((with_reducible refine (id ?_ : @Eq _ _ _)); exact rfl) | refine Exists.intro (⟨?_⟩ : Lv 4 _) ?_ | refine Exists.intro (⟨?_⟩ : Lv 7 _) ?_ | refine Exists.intro _ (Exists.intro _ (And.intro hrel ?_)) | exact Or.inl rfl | exact Or.inr (And.intro rfl rfl) | (apply Exists.intro; refine And.intro ?_ ?_)) | exact Nat.le_of_ble_eq_true rfl)
  all_goals (try ((try (change _ = _)) <;> (try dsimp only at *) <;> (try simp only [decide_eq_true_eq, decide_eq_false_iff_not, Bool.not_eq_true', Bool.not_eq_false', Bool.and_eq_true, Bool.and_eq_false_iff, beq_iff_eq, bne_iff_ne, beq_eq_false_iff_ne, bne_eq_false_iff_eq, ne_eq, Decidable.not_not, bne_self_eq_false, Bool.false_eq_true, Bool.true_eq_false, Bool.not_true, Bool.not_false, not_true_eq_false, not_false_eq_true, Int.toNat_natCast, Nat.zero_add, Nat.reduceAdd, Nat.reduceMul, Nat.reduceDiv, Nat.mul_one, lenK_one, big, fill_len, marking_len, marks_len, nrms_len, List.length_set, List.length_append, List.length_map, List.length_replicate, List.length_cons, List.length_nil, Int.natCast_add, Int.natCast_one, Int.natCast_zero, Int.toNat_zero, List.drop_zero, List.length_take] at *) <;> (repeat (with_reducible rename _ ∧ _ => hh; obtain ⟨_, _⟩ := hh)) <;> (first | omega | (refine fits_i64 ?_; omega) | (split <;> omega) | (with_reducible assumption) | exact grN_zero _ | exact togN_zero _ _ | (rw [row_takeI (by omega) (by omega)] at *; exact togN_step (by with_reducible assumption) (by with_reducible assumption) (by omega)) | exact togN_step (by with_reducible assumption) (by with_reducible assumption) (by omega) | exact grN_step (by with_reducible assumption) (by with_reducible assumption) (by omega) (by omega) | (rw [row_takeI (by omega) (by omega)] at *; exact grt_noL (by with_reducible assumption) (by with_reducible assumption) (by with_reducible assumption) (by omega) (by omega) (by omega)) | exact grt_allL (by with_reducible assumption) (by with_reducible assumption) (by omega) (by omega) | exact grL_noS (by with_reducible assumption) | exact (rv_mo (by with_reducible assumption) (by omega) (by omega)).1 | exact (rv_mo (by with_reducible assumption) (by omega) (by omega)).2 | exact rv_mo (by with_reducible assumption) (by omega) (by omega) | (rw [row_takeI (by omega) (by omega)]; exact (rv_mo (by with_reducible assumption) (by omega) (by omega)).1) | (rw [row_takeI (by omega) (by omega)]; exact (rv_mo (by with_reducible assumption) (by omega) (by omega)).2) | (rw [row_takeI (by omega) (by omega)]; exact rv_mo (by with_reducible assumption) (by omega) (by omega)))))
end Go.Proofs.YtbppiknmlipmpaaDoor.V
