/-
  Acts that are drawn: what they are bounded by.
-/
import Derived.Test.YtmdlffhkhhionaaHd
import Derived.Test.YtmdlffhkhhionaaRd
set_option linter.unusedSimpArgs false
set_option linter.unusedVariables false
namespace Go.Proofs.Ytmdlffhkhhionaa.V
open Go Go.RowKit
open Classical

noncomputable def cIsIn : Ct := ⟨[], fun ds K => match ds with
  | [.view ks xs, .int .i64 n] => ks = KInt ∧ (xs.length : Int) < big ∧ K (.bool (decide (memI xs n))) []
  | _ => False⟩
structure NoI (xs : List Row) (n : Int) (i : Int) : Prop where
  h : ∀ j : Nat, (j : Int) < i → ¬ (rc (row xs j) 0).int = n
theorem noI_zero (xs : List Row) (n : Int) : NoI xs n 0 := ⟨fun j h => by omega⟩
theorem noI_step {xs : List Row} {n i : Int} (h : NoI xs n i) (h0 : 0 ≤ i) (h1 : ¬ (rc (row xs i.toNat) 0).int = n) : NoI xs n (i + 1) := ⟨fun j hj => by
  by_cases e : (j : Int) = i
  · subst e; exact h1
  · exact h.h j (by omega)⟩
theorem memI_iff : ∀ (xs : List Row) (n : Int), memI xs n ↔ ∃ i, i < xs.length ∧ (rc (row xs i) 0).int = n
  | [], n => by simp [memI]
  | r :: rs, n => by
    simp only [memI, memI_iff rs n]
    constructor
    · rintro (h | ⟨i, h1, h2⟩)
      · exact ⟨0, by simp, h⟩
      · exact ⟨i + 1, by simpa using h1, h2⟩
    · rintro ⟨i, h1, h2⟩
      cases i with
      | zero => exact .inl h2
      | succ i => exact .inr ⟨i, by simpa using h1, h2⟩
theorem isIn_yes {xs : List Row} {n i : Int} (h0 : 0 ≤ i) (h1 : i < xs.length) (h2 : (rc (row xs i.toNat) 0).int = n) : true = decide (memI xs n) :=
  true_eq ((memI_iff xs n).2 ⟨i.toNat, by omega, h2⟩)
theorem isIn_no {xs : List Row} {n i : Int} (h : NoI xs n i) (h1 : ¬ i < xs.length) : false = decide (memI xs n) :=
  false_eq (fun hm => by obtain ⟨j, h2, h3⟩ := (memI_iff xs n).1 hm; exact h.h j (by omega) h3)
set_option maxRecDepth 100000 in
set_option maxHeartbeats 4000000 in
theorem p_sIsIn : Proved 51 cIsIn := by
  refine proved_of [] trivial [.tmp 4] Try.func51 rfl rfl rfl rfl (by kernel_rfl) ?_
  intro ds K hrel
  simp only [cIsIn] at hrel
  split at hrel
  case h_2 => exact hrel.elim
  rename_i ks xs n
  obtain ⟨rfl, h1, hrel⟩ := hrel
  refine ⟨rfl, Nat.le_of_ble_eq_true rfl, fun k σ => match k with
    | 2 => some { α := Lv 2 Int, R := fun i => (0 ≤ i.v ∧ i.v ≤ xs.length) ∧ NoI xs n i.v, μ := fun i => (xs.length - i.v).toNat, st := fun i => up σ [(5, .int .i64 i.v)] }
    | _ => none, ?_⟩
  repeat' (first | with_reducible refine And.intro ?_ ?_ | (with_reducible intro h; first | (exact absurd h (by decide)) | (guard_hyp h : true = true; clear h) | (guard_hyp h : false = false; clear h) | (have hq := (h : Lv 2 _); clear hq; obtain ⟨_⟩ := h) | skip) | with_reducible exact True.intro | ((with_reducible refine (id ?_ : @Eq Bool (nodupN _) true)); kernel_rfl) | ((with_reducible refine (id ?_ : @Eq Bool (apartN _ _) true)); kernel_rfl) | ((with_reducible refine (id ?_ : @Eq Bool (formL _ _) true)); kernel_rfl) | ((with_reducible refine (id ?_ : @Eq _ _ _)); exact rfl) | ((conv => whnf); first | done | with_reducible refine And.intro ?_ ?_ | (with_reducible intro h; first | (exact absurd h (by decide)) | (guard_hyp h : true = true; clear h) | (guard_hyp h : false = false; clear h) | (have hq := (h : Lv 2 _); clear hq; obtain ⟨_⟩ := h) | skip) | with_reducible exact True.intro | ((with_reducible refine (id ?_ : @Eq _ _ _)); exact rfl) | refine Exists.intro (⟨?_⟩ : Lv 2 _) ?_ | refine Exists.intro _ (Exists.intro _ (And.intro hrel ?_)) | exact Or.inl rfl | exact Or.inr (And.intro rfl rfl) | (apply Exists.intro; refine And.intro ?_ ?_)) | exact Nat.le_of_ble_eq_true rfl)
  all_goals (try ((try (change _ = _)) <;> (try dsimp only at *) <;> (try simp only [decide_eq_true_eq, decide_eq_false_iff_not, Bool.not_eq_true', Bool.not_eq_false', Bool.and_eq_true, Bool.and_eq_false_iff, beq_iff_eq, bne_iff_ne, beq_eq_false_iff_ne, bne_eq_false_iff_eq, ne_eq, Decidable.not_not, bne_self_eq_false, Bool.false_eq_true, Bool.true_eq_false, Bool.not_true, Bool.not_false, not_true_eq_false, not_false_eq_true, Int.toNat_natCast, Nat.zero_add, Nat.reduceAdd, Nat.reduceMul, Nat.reduceDiv, Nat.mul_one, lenK_one, big, fill_len, marking_len, marks_len, nrms_len, List.length_set, List.length_append, List.length_map, List.length_replicate, List.length_cons, List.length_nil, Int.natCast_add, Int.natCast_one, Int.natCast_zero] at *) <;> (repeat (with_reducible rename _ ∧ _ => hh; obtain ⟨_, _⟩ := hh)) <;> (first | omega | (refine fits_i64 ?_; omega) | (split <;> omega) | exact noI_zero _ _ | exact noI_step (by assumption) (by omega) (by assumption) | exact isIn_yes (by omega) (by omega) (by assumption) | exact isIn_no (by assumption) (by omega))))

/-- Acts of any kind. -/
def cAnyActs (m : Nat) : Ct := ⟨[], fun ds K => match ds with
  | [.bx [.view ks bs, .int .i64 p]] => ks = KU8 ∧ Bytes bs ∧ (0 ≤ p ∧ p ≤ 1000) ∧ ∀ (xs : List Row) (q : Int), xs.length ≤ 16 → nrms KAct xs = xs → (0 ≤ q ∧ q ≤ p + m) → K (.fr 33 KAct xs) [.bx [.view KU8 bs, .int .i64 q]]
  | _ => False⟩
theorem nrms_snoc {ks : List Kd} {xs : List Row} {r : Row} (h : nrms ks xs = xs) (h2 : nrm ks r = r) : nrms ks (xs ++ [r]) = xs ++ [r] := by
  rw [nrms_append, h]; simp [nrms, h2]
theorem nrms_set {ks : List Kd} {xs : List Row} {i : Nat} {r : Row} (h : nrms ks xs = xs) (h2 : nrm ks r = r) : nrms ks (xs.set i r) = xs.set i r := by
  have e : nrms ks (xs.set i r) = (nrms ks xs).set i (nrm ks r) := by simp [nrms, List.map_set]
  rw [e, h, h2]
theorem paste3 {q : Row} {a b c : Int} (h : q = nrm KAct q) : pasteR q 0 [.i a, .i b, .i c] = [.i a, .i b, .i c] := by rw [h]; rfl
set_option maxRecDepth 100000 in
set_option maxHeartbeats 8000000 in
theorem p_anyActs : Proved 37 (cAnyActs 200) := by
  refine proved_of [(43, cPick), (50, cOne), (51, cIsIn)] ⟨p_pick, p_one, p_sIsIn, trivial⟩ [.tmp 2] Try.func37 rfl rfl rfl rfl (by kernel_rfl) ?_
  intro ds K hrel
  simp only [cAnyActs] at hrel
  split at hrel
  case h_2 => exact hrel.elim
  rename_i ks bs p
  obtain ⟨rfl, hb, ⟨h1, h2⟩, hrel⟩ := hrel
  refine ⟨rfl, Nat.le_of_ble_eq_true rfl, fun k σ => match k with
    | 5 => some { α := Lv 5 (List Row × List Row × Int × Int), R := fun ⟨(xs, es, q, n)⟩ => (0 ≤ q ∧ q + 4 * n ≤ p + 100 ∧ 0 ≤ n ∧ xs.length + n ≤ 16 ∧ es.length + n ≤ 16) ∧ nrms KAct xs = xs,
                  μ := fun ⟨(_, _, _, n)⟩ => n.toNat,
                  st := fun ⟨(xs, es, q, n)⟩ => upW σ [(3, .own 1), (4, .own 2), (6, .int .i64 n)] (setH (setH (setH σ.hp 0 (some (.box [.view KU8 bs, .int .i64 q]))) 1 (some (.rows 33 KAct xs))) 2 (some (.rows 3 KInt es))) }
    | _ => none, ?_⟩
  repeat' (first | with_reducible refine And.intro ?_ ?_ | (with_reducible intro h; first | (exact absurd h (by decide)) | (guard_hyp h : true = true; clear h) | (guard_hyp h : false = false; clear h) | (have hq := (h : Lv 5 _); clear hq; obtain ⟨_, _, _, _⟩ := h) | skip) | with_reducible exact True.intro | ((with_reducible refine (id ?_ : @Eq Bool (nodupN _) true)); kernel_rfl) | ((with_reducible refine (id ?_ : @Eq Bool (apartN _ _) true)); kernel_rfl) | ((with_reducible refine (id ?_ : @Eq Bool (formL _ _) true)); kernel_rfl) | ((with_reducible refine (id ?_ : @Eq _ _ _)); exact rfl) | ((conv => whnf); first | done | with_reducible refine And.intro ?_ ?_ | (with_reducible intro h; first | (exact absurd h (by decide)) | (guard_hyp h : true = true; clear h) | (guard_hyp h : false = false; clear h) | (have hq := (h : Lv 5 _); clear hq; obtain ⟨_, _, _, _⟩ := h) | skip) | with_reducible exact True.intro | ((with_reducible refine (id ?_ : @Eq _ _ _)); exact rfl) | (refine Exists.intro _ (Exists.intro _ (And.intro (hrel ?_ ?_ ?_ ?_ ?_) ?_))) | refine Exists.intro (⟨(?_, ?_, ?_, ?_)⟩ : Lv 5 _) ?_ | refine Exists.intro _ (Exists.intro _ (And.intro hrel ?_)) | exact Or.inl rfl | exact Or.inr (And.intro rfl rfl) | (apply Exists.intro; refine And.intro ?_ ?_)) | exact Nat.le_of_ble_eq_true rfl)
  all_goals (try ((repeat (with_reducible rename PickR _ _ => hq; have hq1 := hq.lo; have hq2 := hq.hi; have hq3 := hq.zero; clear hq)) <;> (try (change _ = _)) <;> (try dsimp only at *) <;> (try simp only [decide_eq_true_eq, decide_eq_false_iff_not, Bool.not_eq_true', Bool.not_eq_false', Bool.and_eq_true, Bool.and_eq_false_iff, beq_iff_eq, bne_iff_ne, beq_eq_false_iff_ne, bne_eq_false_iff_eq, ne_eq, Decidable.not_not, bne_self_eq_false, Bool.false_eq_true, Bool.true_eq_false, Bool.not_true, Bool.not_false, not_true_eq_false, not_false_eq_true, Int.toNat_natCast, Nat.zero_add, Nat.reduceAdd, Nat.reduceMul, Nat.reduceDiv, Nat.mul_one, lenK_one, big, fill_len, marking_len, marks_len, nrms_len, List.length_set, List.length_append, List.length_map, List.length_replicate, List.length_cons, List.length_nil, Int.natCast_add, Int.natCast_one, Int.natCast_zero, memI_i, memI_nil, or_false, false_or] at *) <;> (repeat (with_reducible rename _ ∧ _ => hh; obtain ⟨_, _⟩ := hh)) <;> (first | omega | (refine fits_i64 ?_; omega) | (split <;> omega) | exact nrms_snoc (by assumption) rfl | exact nrms_set (by assumption) (by rw [paste3 (row_of_nrms (by assumption) (by omega))]; rfl) | rfl | assumption)))
end Go.Proofs.Ytmdlffhkhhionaa.V
