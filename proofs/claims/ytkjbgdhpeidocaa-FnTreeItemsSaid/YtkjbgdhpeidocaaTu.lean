/-
  All trees that are drawn; the law of their items.
-/
import Derived.Test.YtkjbgdhpeidocaaTt
set_option linter.unusedSimpArgs false
set_option linter.unusedVariables false
namespace Go.Proofs.Ytkjbgdhpeidocaa.V
open Go Go.RowKit
open Classical

theorem law_code {ds : List AV} (h : PkAVs [.c (.s KU8)] ds) : ∃ xs, ds = [.view KU8 xs] ∧ xs.length ≤ maxLen ∧ ∀ i, i < xs.length → RowOk KU8 (row xs i) := by
  obtain ⟨a, l, rfl, ⟨xs, rfl, h1, h2⟩, h3⟩ := h
  simp only [PkAVs] at h3
  subst h3
  exact ⟨xs, rfl, h1, h2⟩
def cAny : Ct := ⟨[], fun ds K => match ds with
  | [.bx [.view ks bs, .int .i64 p]] => ks = KU8 ∧ Bytes bs ∧ (0 ≤ p ∧ p ≤ 1000) ∧ ∀ (zss : List (List Row)) (q : Int), (zss.length ≤ 101 ∧ tot zss ≤ 1002) → (0 ≤ q ∧ q ≤ p + 1001) → K (.agg [.frn 29 49 KItem zss]) [.bx [.view KU8 bs, .int .i64 q]]
  | _ => False⟩
def cDTI : Ct := ⟨[], fun ds K => match ds with
  | [.view ks xs] => ks = KU8 ∧ (xs.length : Int) < big ∧ (∀ i, i < xs.length → RowOk KU8 (row xs i)) ∧ ∀ zss : List (List Row), (zss.length ≤ 101 ∧ tot zss ≤ 1002) → K (.agg [.frn 29 49 KItem zss]) []
  | _ => False⟩
theorem items_asc {xss : List (List Row)} {i : Int} (h1 : 1 ≤ i) (h2 : i < (itemsOf xss).length) : lessI (rc (row (itemsOf xss) (i - 1).toNat) 0).int (rc (row (itemsOf xss) (i - 1).toNat) 1).int (rc (row (itemsOf xss) i.toNat) 0).int (rc (row (itemsOf xss) i.toNat) 1).int := by
  by_cases hv : VTree xss
  · rw [← items_yes hv] at h2 ⊢
    exact (hv.ord.o.h i (by omega) h2).2 (by omega)
  · rw [items_no hv] at h2
    simp at h2
    omega
theorem tot_rows (xs : List Row) : tot [xs] = xs.length := by simp [tot]
set_option maxRecDepth 100000 in
set_option maxHeartbeats 16000000 in
theorem p_anyTree : Proved 42 cAny := by
  refine proved_of [(49, cRTree), (50, cPick)] ⟨p_randomTree, p_pick, trivial⟩ [.cell 2 26] Try.func42 rfl rfl rfl rfl (by kernel_rfl) ?_
  intro ds K hrel
  simp only [cAny] at hrel
  split at hrel
  case h_2 => exact hrel.elim
  rename_i ks bs p
  obtain ⟨rfl, hb, ⟨h1, h2⟩, hrel⟩ := hrel
  refine ⟨rfl, Nat.le_of_ble_eq_true rfl, fun _ _ => none, ?_⟩
  repeat' (first | with_reducible refine And.intro ?_ ?_ | (with_reducible intro h; first | (exact absurd h (by decide)) | (guard_hyp h : true = true; clear h) | (guard_hyp h : false = false; clear h) | skip) | with_reducible exact True.intro | ((with_reducible refine (id ?_ : @Eq Bool (nodupN _) true)); kernel_rfl) | ((with_reducible refine (id ?_ : @Eq Bool (apartN _ _) true)); kernel_rfl) | ((with_reducible refine (id ?_ : @Eq Bool (formL _ _) true)); kernel_rfl) | ((with_reducible refine (id ?_ : @Eq _ _ _)); exact rfl) | ((conv => whnf); first | done | with_reducible refine And.intro ?_ ?_ | (with_reducible intro h; first | (exact absurd h (by decide)) | (guard_hyp h : true = true; clear h) | (guard_hyp h : false = false; clear h) | skip) | with_reducible exact True.intro | ((with_reducible refine (id ?_ : @Eq _ _ _)); exact rfl) | (refine Exists.intro _ (Exists.intro _ (And.intro (hrel ?_ ?_ ?_ ?_) ?_))) | refine Exists.intro _ (Exists.intro _ (And.intro hrel ?_)) | exact Or.inl rfl | exact Or.inr (And.intro rfl rfl) | (apply Exists.intro; refine And.intro ?_ ?_)) | exact Nat.le_of_ble_eq_true rfl)
  all_goals (try ((repeat (with_reducible rename PickR _ _ => hq; have hq1 := hq.lo; have hq2 := hq.hi; have hq3 := hq.zero; clear hq)) <;> (try (change _ = _)) <;> (try dsimp only at *) <;> (try simp only [decide_eq_true_eq, decide_eq_false_iff_not, Bool.not_eq_true', Bool.not_eq_false', Bool.and_eq_true, Bool.and_eq_false_iff, beq_iff_eq, bne_iff_ne, beq_eq_false_iff_ne, bne_eq_false_iff_eq, ne_eq, Decidable.not_not, bne_self_eq_false, Bool.false_eq_true, Bool.true_eq_false, Bool.not_true, Bool.not_false, not_true_eq_false, not_false_eq_true, Int.toNat_natCast, Nat.zero_add, Nat.reduceAdd, Nat.reduceMul, Nat.reduceDiv, Nat.mul_one, lenK_one, big, fill_len, marking_len, marks_len, nrms_len, List.length_set, List.length_append, List.length_map, List.length_replicate, List.length_cons, List.length_nil, Int.natCast_add, Int.natCast_one, Int.natCast_zero, memI_i, memI_nil, or_false, false_or, tot_nil, tot_append, tot_rows] at *) <;> (repeat (with_reducible rename _ ∧ _ => hh; obtain ⟨_, _⟩ := hh)) <;> (first | omega | (refine fits_i64 ?_; omega) | (split <;> omega) | (with_reducible assumption))))
set_option maxRecDepth 100000 in
set_option maxHeartbeats 4000000 in
theorem p_drawTreeItems : Proved 26 cDTI := by
  refine proved_of [(43, cNewReader), (42, cAny)] ⟨p_newReader, p_anyTree, trivial⟩ [.cell 2 26] Try.func26 rfl rfl rfl rfl (by kernel_rfl) ?_
  intro ds K hrel
  simp only [cDTI] at hrel
  split at hrel
  case h_2 => exact hrel.elim
  rename_i ks xs
  obtain ⟨rfl, h1, h2, hrel⟩ := hrel
  refine ⟨rfl, Nat.le_of_ble_eq_true rfl, fun _ _ => none, ?_⟩
  repeat' (first | with_reducible refine And.intro ?_ ?_ | (with_reducible intro h; first | (exact absurd h (by decide)) | (guard_hyp h : true = true; clear h) | (guard_hyp h : false = false; clear h) | skip) | with_reducible exact True.intro | ((with_reducible refine (id ?_ : @Eq Bool (nodupN _) true)); kernel_rfl) | ((with_reducible refine (id ?_ : @Eq Bool (apartN _ _) true)); kernel_rfl) | ((with_reducible refine (id ?_ : @Eq Bool (formL _ _) true)); kernel_rfl) | ((with_reducible refine (id ?_ : @Eq _ _ _)); exact rfl) | ((conv => whnf); first | done | with_reducible refine And.intro ?_ ?_ | (with_reducible intro h; first | (exact absurd h (by decide)) | (guard_hyp h : true = true; clear h) | (guard_hyp h : false = false; clear h) | skip) | with_reducible exact True.intro | ((with_reducible refine (id ?_ : @Eq _ _ _)); exact rfl) | (refine Exists.intro _ (Exists.intro _ (And.intro (hrel ?_ ?_) ?_))) | refine Exists.intro _ (Exists.intro _ (And.intro hrel ?_)) | exact Or.inl rfl | exact Or.inr (And.intro rfl rfl) | (apply Exists.intro; refine And.intro ?_ ?_)) | exact Nat.le_of_ble_eq_true rfl)
  all_goals (try ((try (change _ = _)) <;> (try dsimp only at *) <;> (try simp only [decide_eq_true_eq, decide_eq_false_iff_not, Bool.not_eq_true', Bool.not_eq_false', Bool.and_eq_true, Bool.and_eq_false_iff, beq_iff_eq, bne_iff_ne, beq_eq_false_iff_ne, bne_eq_false_iff_eq, ne_eq, Decidable.not_not, bne_self_eq_false, Bool.false_eq_true, Bool.true_eq_false, Bool.not_true, Bool.not_false, not_true_eq_false, not_false_eq_true, Int.toNat_natCast, Nat.zero_add, Nat.reduceAdd, Nat.reduceMul, Nat.reduceDiv, Nat.mul_one, lenK_one, big, fill_len, marking_len, marks_len, nrms_len, List.length_set, List.length_append, List.length_map, List.length_replicate, List.length_cons, List.length_nil, Int.natCast_add, Int.natCast_one, Int.natCast_zero] at *) <;> (repeat (with_reducible rename _ ∧ _ => hh; obtain ⟨_, _⟩ := hh)) <;> (first | omega | (refine fits_i64 ?_; omega) | (split <;> omega) | (with_reducible assumption) | (with_reducible exact h2 _ (by with_reducible assumption)))))
set_option maxRecDepth 100000 in
set_option maxHeartbeats 16000000 in
theorem p_fnTreeItems : Proved 7 (cLaw [.c (.s KU8)]) := by
  refine proved_of [(26, cDTI), (22, cItems), (21, cItems), (27, cEq KItem)] ⟨p_drawTreeItems, p_iItems, p_sItems, p_equalItemS, trivial⟩ [.tmp 2] Try.func7 rfl rfl rfl rfl (by kernel_rfl) ?_
  rintro ds K ⟨hds, hrel⟩
  obtain ⟨xs, rfl, h1, h2⟩ := law_code hds
  unfold maxLen at h1
  refine ⟨rfl, Nat.le_of_ble_eq_true rfl, fun k σ => match k with
    | 8 => some { α := Lv 8 Int, R := fun ⟨i⟩ => 1 ≤ i, μ := fun ⟨i⟩ => (1000000 - i).toNat, st := fun ⟨i⟩ => up σ [(5, .int .i64 i)] }
    | _ => none, ?_⟩
  repeat' (first | with_reducible refine And.intro ?_ ?_ | (with_reducible intro h; first | (exact absurd h (by decide)) | (guard_hyp h : true = true; clear h) | (guard_hyp h : false = false; clear h) | (have hq := (h : Lv 8 _); clear hq; obtain ⟨_⟩ := h) | skip) | with_reducible exact True.intro | ((with_reducible refine (id ?_ : @Eq Bool (nodupN _) true)); kernel_rfl) | ((with_reducible refine (id ?_ : @Eq Bool (apartN _ _) true)); kernel_rfl) | ((with_reducible refine (id ?_ : @Eq Bool (formL _ _) true)); kernel_rfl) | ((with_reducible refine (id ?_ : @Eq _ _ _)); exact rfl) | ((conv => whnf); first | done | with_reducible refine And.intro ?_ ?_ | (with_reducible intro h; first | (exact absurd h (by decide)) | (guard_hyp h : true = true; clear h) | (guard_hyp h : false = false; clear h) | (have hq := (h : Lv 8 _); clear hq; obtain ⟨_⟩ := h) | skip) | with_reducible exact True.intro | ((with_reducible refine (id ?_ : @Eq _ _ _)); exact rfl) | refine Exists.intro (⟨?_⟩ : Lv 8 _) ?_ | refine Exists.intro _ (Exists.intro _ (And.intro hrel ?_)) | exact Or.inl rfl | exact Or.inr (And.intro rfl rfl) | (apply Exists.intro; refine And.intro ?_ ?_)) | exact Nat.le_of_ble_eq_true rfl)
  all_goals (try ((try (change _ = _)) <;> (try dsimp only at *) <;> (try simp only [decide_eq_true_eq, decide_eq_false_iff_not, Bool.not_eq_true', Bool.not_eq_false', Bool.and_eq_true, Bool.and_eq_false_iff, beq_iff_eq, bne_iff_ne, beq_eq_false_iff_ne, bne_eq_false_iff_eq, ne_eq, Decidable.not_not, bne_self_eq_false, Bool.false_eq_true, Bool.true_eq_false, Bool.not_true, Bool.not_false, not_true_eq_false, not_false_eq_true, Int.toNat_natCast, Nat.zero_add, Nat.reduceAdd, Nat.reduceMul, Nat.reduceDiv, Nat.mul_one, lenK_one, big, fill_len, marking_len, marks_len, nrms_len, List.length_set, List.length_append, List.length_map, List.length_replicate, List.length_cons, List.length_nil, Int.natCast_add, Int.natCast_one, Int.natCast_zero, decide_true] at *) <;> (repeat (with_reducible rename _ ∧ _ => hh; obtain ⟨_, _⟩ := hh)) <;> (first | omega | (refine fits_i64 ?_; omega) | (split <;> omega) | (with_reducible assumption) | (with_reducible exact h2 _ (by with_reducible assumption)) | (have hl := items_len (by with_reducible assumption : List (List Row)); omega) | (have hl := items_len (by with_reducible assumption : List (List Row)); refine fits_i64 ?_; omega) | (exfalso; have hq := items_asc (xss := (by with_reducible assumption : List (List Row))) (i := (by with_reducible assumption : Int)) (by omega) (by omega); unfold lessI at hq; omega))))
end Go.Proofs.Ytkjbgdhpeidocaa.V
