/-
  Waits that are drawn; the laws on waits, as functions.
-/
import Derived.Test.YtbppiknmlipmpaaWi
set_option linter.unusedSimpArgs false
set_option linter.unusedVariables false
namespace Go.Proofs.Ytbppiknmlipmpaa.V
open Go Go.RowKit
open Classical

theorem law_code {ds : List AV} (h : PkAVs [.c (.s KU8)] ds) : ∃ xs, ds = [.view KU8 xs] ∧ xs.length ≤ maxLen ∧ ∀ i, i < xs.length → RowOk KU8 (row xs i) := by
  obtain ⟨a, l, rfl, ⟨xs, rfl, h1, h2⟩, h3⟩ := h
  simp only [PkAVs] at h3
  subst h3
  exact ⟨xs, rfl, h1, h2⟩
theorem nrms_sn {ks : List Kd} {xs : List Row} {r : Row} (h : nrms ks xs = xs) (h2 : nrm ks r = r) : nrms ks (xs ++ [r]) = xs ++ [r] := by
  rw [nrms_append, h]; simp [nrms, h2]
def cAnyW : Ct := ⟨[], fun ds K => match ds with
  | [.bx [.view ks bs, .int .i64 p]] => ks = KU8 ∧ Bytes bs ∧ (0 ≤ p ∧ p ≤ 1000) ∧ ∀ (ws : List Row) (q : Int), ws.length ≤ 29 → (0 ≤ q ∧ q ≤ p + 70) → K (.fr 41 KWait ws) [.bx [.view KU8 bs, .int .i64 q]]
  | _ => False⟩
set_option maxRecDepth 100000 in
set_option maxHeartbeats 16000000 in
theorem p_anyWaits : Proved 44 cAnyW := by
  refine proved_of [(45, cPick), (56, cOne)] ⟨p_pick, p_one, trivial⟩ [.tmp 2] Try.func44 rfl rfl rfl rfl (by kernel_rfl) ?_
  intro ds K hrel
  simp only [cAnyW] at hrel
  split at hrel
  case h_2 => exact hrel.elim
  rename_i ks bs p
  obtain ⟨rfl, hb, ⟨h1, h2⟩, hrel⟩ := hrel
  refine ⟨rfl, Nat.le_of_ble_eq_true rfl, fun k σ => match k with
    | 3 => some { α := Lv 3 (List Row × Int × Int), R := fun ⟨(ws, q, n)⟩ => (0 ≤ q ∧ q + 2 * n ≤ p + 60 ∧ 0 ≤ n ∧ ws.length + n ≤ 29), μ := fun ⟨(_, _, n)⟩ => n.toNat, st := fun ⟨(ws, q, n)⟩ => upW σ [(4, .int .i64 n), (3, .own 1)] (setH (setH σ.hp 0 (some (.box [.view KU8 bs, .int .i64 q]))) 1 (some (.rows 41 KWait ws))) }
    | _ => none, ?_⟩
  repeat' (first | with_reducible refine And.intro ?_ ?_ | (with_reducible intro h; first | (exact absurd h (by decide)) | (guard_hyp h : true = true; clear h) | (guard_hyp h : false = false; clear h) | (have hq := (h : Lv 3 _); clear hq; obtain ⟨_, _, _⟩ := h) | skip) | with_reducible exact True.intro | ((with_reducible refine (id ?_ : @Eq Bool (nodupN _) true)); kernel_rfl) | ((with_reducible refine (id ?_ : @Eq Bool (apartN _ _) true)); kernel_rfl) | ((with_reducible refine (id ?_ : @Eq Bool (formL _ _) true)); kernel_rfl) | ((with_reducible refine (id ?_ : @Eq _ _ _)); exact rfl) | ((conv => whnf); first | done | with_reducible refine And.intro ?_ ?_ | (with_reducible intro h; first | (exact absurd h (by decide)) | (guard_hyp h : true = true; clear h) | (guard_hyp h : false = false; clear h) | (have hq := (h : Lv 3 _); clear hq; obtain ⟨_, _, _⟩ := h) | skip) | with_reducible exact True.intro | ((with_reducible refine (id ?_ : @Eq _ _ _)); exact rfl) | (refine Exists.intro _ (Exists.intro _ (And.intro (hrel ?_ ?_ ?_ ?_) ?_))) | refine Exists.intro (⟨(?_, ?_, ?_)⟩ : Lv 3 _) ?_ | refine Exists.intro _ (Exists.intro _ (And.intro hrel ?_)) | exact Or.inl rfl | exact Or.inr (And.intro rfl rfl) | (apply Exists.intro; refine And.intro ?_ ?_)) | exact Nat.le_of_ble_eq_true rfl)
  all_goals (try ((repeat (with_reducible rename PickR _ _ => hq; have hq1 := hq.lo; have hq2 := hq.hi; have hq3 := hq.zero; clear hq)) <;> (try (change _ = _)) <;> (try dsimp only at *) <;> (try simp only [decide_eq_true_eq, decide_eq_false_iff_not, Bool.not_eq_true', Bool.not_eq_false', Bool.and_eq_true, Bool.and_eq_false_iff, beq_iff_eq, bne_iff_ne, beq_eq_false_iff_ne, bne_eq_false_iff_eq, ne_eq, Decidable.not_not, bne_self_eq_false, Bool.false_eq_true, Bool.true_eq_false, Bool.not_true, Bool.not_false, not_true_eq_false, not_false_eq_true, Int.toNat_natCast, Nat.zero_add, Nat.reduceAdd, Nat.reduceMul, Nat.reduceDiv, Nat.mul_one, lenK_one, big, fill_len, marking_len, marks_len, nrms_len, List.length_set, List.length_append, List.length_map, List.length_replicate, List.length_cons, List.length_nil, Int.natCast_add, Int.natCast_one, Int.natCast_zero, memI_i, memI_nil, or_false, false_or] at *) <;> (repeat (with_reducible rename _ ∧ _ => hh; obtain ⟨_, _⟩ := hh)) <;> (first | omega | (refine fits_i64 ?_; omega) | (split <;> omega) | rfl | (with_reducible assumption))))
def cDW1 : Ct := ⟨[], fun ds K => match ds with
  | [.view ks xs] => ks = KU8 ∧ (xs.length : Int) < big ∧ (∀ i, i < xs.length → RowOk KU8 (row xs i)) ∧ ∀ ws : List Row, ws.length ≤ 29 → K (.view KWait ws) []
  | _ => False⟩
def cDW2 : Ct := ⟨[], fun ds K => match ds with
  | [.view ks xs] => ks = KU8 ∧ (xs.length : Int) < big ∧ (∀ i, i < xs.length → RowOk KU8 (row xs i)) ∧ ∀ (ws : List Row) (who : Int), ws.length ≤ 29 → (-1 ≤ who ∧ who ≤ 8) → K (.tup [.view KWait ws, .int .i64 who]) []
  | _ => False⟩
set_option maxRecDepth 100000 in
set_option maxHeartbeats 4000000 in
theorem p_drawWaitsFor : Proved 18 cDW2 := by
  refine proved_of [(43, cNewReader), (44, cAnyW), (45, cPick)] ⟨p_newReader, p_anyWaits, p_pick, trivial⟩ [.tmp 2, .tmp 3] Try.func18 rfl rfl rfl rfl (by kernel_rfl) ?_
  intro ds K hrel
  simp only [cDW2] at hrel
  split at hrel
  case h_2 => exact hrel.elim
  rename_i ks xs
  obtain ⟨rfl, h1, h2, hrel⟩ := hrel
  refine ⟨rfl, Nat.le_of_ble_eq_true rfl, fun _ _ => none, ?_⟩
  repeat' (first | with_reducible refine And.intro ?_ ?_ | (with_reducible intro h; first | (exact absurd h (by decide)) | (guard_hyp h : true = true; clear h) | (guard_hyp h : false = false; clear h) | skip) | with_reducible exact True.intro | ((with_reducible refine (id ?_ : @Eq Bool (nodupN _) true)); kernel_rfl) | ((with_reducible refine (id ?_ : @Eq Bool (apartN _ _) true)); kernel_rfl) | ((with_reducible refine (id ?_ : @Eq Bool (formL _ _) true)); kernel_rfl) | ((with_reducible refine (id ?_ : @Eq _ _ _)); exact rfl) | ((conv => whnf); first | done | with_reducible refine And.intro ?_ ?_ | (with_reducible intro h; first | (exact absurd h (by decide)) | (guard_hyp h : true = true; clear h) | (guard_hyp h : false = false; clear h) | skip) | with_reducible exact True.intro | ((with_reducible refine (id ?_ : @Eq _ _ _)); exact rfl) | (refine Exists.intro _ (Exists.intro _ (And.intro (hrel ?_ ?_ ?_ ?_) ?_))) | refine Exists.intro _ (Exists.intro _ (And.intro hrel ?_)) | exact Or.inl rfl | exact Or.inr (And.intro rfl rfl) | (apply Exists.intro; refine And.intro ?_ ?_)) | exact Nat.le_of_ble_eq_true rfl)
  all_goals (try ((repeat (with_reducible rename PickR _ _ => hq; have hq1 := hq.lo; have hq2 := hq.hi; have hq3 := hq.zero; clear hq)) <;> (try (change _ = _)) <;> (try dsimp only at *) <;> (try simp only [decide_eq_true_eq, decide_eq_false_iff_not, Bool.not_eq_true', Bool.not_eq_false', Bool.and_eq_true, Bool.and_eq_false_iff, beq_iff_eq, bne_iff_ne, beq_eq_false_iff_ne, bne_eq_false_iff_eq, ne_eq, Decidable.not_not, bne_self_eq_false, Bool.false_eq_true, Bool.true_eq_false, Bool.not_true, Bool.not_false, not_true_eq_false, not_false_eq_true, Int.toNat_natCast, Nat.zero_add, Nat.reduceAdd, Nat.reduceMul, Nat.reduceDiv, Nat.mul_one, lenK_one, big, fill_len, marking_len, marks_len, nrms_len, List.length_set, List.length_append, List.length_map, List.length_replicate, List.length_cons, List.length_nil, Int.natCast_add, Int.natCast_one, Int.natCast_zero, memI_i, memI_nil, or_false, false_or] at *) <;> (repeat (with_reducible rename _ ∧ _ => hh; obtain ⟨_, _⟩ := hh)) <;> (first | omega | (refine fits_i64 ?_; omega) | (split <;> omega) | (with_reducible assumption) | exact h2 _ (by with_reducible assumption) | rfl)))
set_option maxRecDepth 100000 in
set_option maxHeartbeats 4000000 in
theorem p_drawLockedUp : Proved 23 cDW1 := by
  refine proved_of [(43, cNewReader), (44, cAnyW)] ⟨p_newReader, p_anyWaits, trivial⟩ [.tmp 2] Try.func23 rfl rfl rfl rfl (by kernel_rfl) ?_
  intro ds K hrel
  simp only [cDW1] at hrel
  split at hrel
  case h_2 => exact hrel.elim
  rename_i ks xs
  obtain ⟨rfl, h1, h2, hrel⟩ := hrel
  refine ⟨rfl, Nat.le_of_ble_eq_true rfl, fun _ _ => none, ?_⟩
  repeat' (first | with_reducible refine And.intro ?_ ?_ | (with_reducible intro h; first | (exact absurd h (by decide)) | (guard_hyp h : true = true; clear h) | (guard_hyp h : false = false; clear h) | skip) | with_reducible exact True.intro | ((with_reducible refine (id ?_ : @Eq Bool (nodupN _) true)); kernel_rfl) | ((with_reducible refine (id ?_ : @Eq Bool (apartN _ _) true)); kernel_rfl) | ((with_reducible refine (id ?_ : @Eq Bool (formL _ _) true)); kernel_rfl) | ((with_reducible refine (id ?_ : @Eq _ _ _)); exact rfl) | ((conv => whnf); first | done | with_reducible refine And.intro ?_ ?_ | (with_reducible intro h; first | (exact absurd h (by decide)) | (guard_hyp h : true = true; clear h) | (guard_hyp h : false = false; clear h) | skip) | with_reducible exact True.intro | ((with_reducible refine (id ?_ : @Eq _ _ _)); exact rfl) | (refine Exists.intro _ (Exists.intro _ (And.intro (hrel ?_ ?_) ?_))) | refine Exists.intro _ (Exists.intro _ (And.intro hrel ?_)) | exact Or.inl rfl | exact Or.inr (And.intro rfl rfl) | (apply Exists.intro; refine And.intro ?_ ?_)) | exact Nat.le_of_ble_eq_true rfl)
  all_goals (try ((repeat (with_reducible rename PickR _ _ => hq; have hq1 := hq.lo; have hq2 := hq.hi; have hq3 := hq.zero; clear hq)) <;> (try (change _ = _)) <;> (try dsimp only at *) <;> (try simp only [decide_eq_true_eq, decide_eq_false_iff_not, Bool.not_eq_true', Bool.not_eq_false', Bool.and_eq_true, Bool.and_eq_false_iff, beq_iff_eq, bne_iff_ne, beq_eq_false_iff_ne, bne_eq_false_iff_eq, ne_eq, Decidable.not_not, bne_self_eq_false, Bool.false_eq_true, Bool.true_eq_false, Bool.not_true, Bool.not_false, not_true_eq_false, not_false_eq_true, Int.toNat_natCast, Nat.zero_add, Nat.reduceAdd, Nat.reduceMul, Nat.reduceDiv, Nat.mul_one, lenK_one, big, fill_len, marking_len, marks_len, nrms_len, List.length_set, List.length_append, List.length_map, List.length_replicate, List.length_cons, List.length_nil, Int.natCast_add, Int.natCast_one, Int.natCast_zero, memI_i, memI_nil, or_false, false_or] at *) <;> (repeat (with_reducible rename _ ∧ _ => hh; obtain ⟨_, _⟩ := hh)) <;> (first | omega | (refine fits_i64 ?_; omega) | (split <;> omega) | (with_reducible assumption) | exact h2 _ (by with_reducible assumption) | rfl)))
set_option maxRecDepth 100000 in
set_option maxHeartbeats 4000000 in
theorem p_drawVictimsOf : Proved 33 cDW1 := by
  refine proved_of [(43, cNewReader), (44, cAnyW)] ⟨p_newReader, p_anyWaits, trivial⟩ [.tmp 2] Try.func33 rfl rfl rfl rfl (by kernel_rfl) ?_
  intro ds K hrel
  simp only [cDW1] at hrel
  split at hrel
  case h_2 => exact hrel.elim
  rename_i ks xs
  obtain ⟨rfl, h1, h2, hrel⟩ := hrel
  refine ⟨rfl, Nat.le_of_ble_eq_true rfl, fun _ _ => none, ?_⟩
  repeat' (first | with_reducible refine And.intro ?_ ?_ | (with_reducible intro h; first | (exact absurd h (by decide)) | (guard_hyp h : true = true; clear h) | (guard_hyp h : false = false; clear h) | skip) | with_reducible exact True.intro | ((with_reducible refine (id ?_ : @Eq Bool (nodupN _) true)); kernel_rfl) | ((with_reducible refine (id ?_ : @Eq Bool (apartN _ _) true)); kernel_rfl) | ((with_reducible refine (id ?_ : @Eq Bool (formL _ _) true)); kernel_rfl) | ((with_reducible refine (id ?_ : @Eq _ _ _)); exact rfl) | ((conv => whnf); first | done | with_reducible refine And.intro ?_ ?_ | (with_reducible intro h; first | (exact absurd h (by decide)) | (guard_hyp h : true = true; clear h) | (guard_hyp h : false = false; clear h) | skip) | with_reducible exact True.intro | ((with_reducible refine (id ?_ : @Eq _ _ _)); exact rfl) | (refine Exists.intro _ (Exists.intro _ (And.intro (hrel ?_ ?_) ?_))) | refine Exists.intro _ (Exists.intro _ (And.intro hrel ?_)) | exact Or.inl rfl | exact Or.inr (And.intro rfl rfl) | (apply Exists.intro; refine And.intro ?_ ?_)) | exact Nat.le_of_ble_eq_true rfl)
  all_goals (try ((repeat (with_reducible rename PickR _ _ => hq; have hq1 := hq.lo; have hq2 := hq.hi; have hq3 := hq.zero; clear hq)) <;> (try (change _ = _)) <;> (try dsimp only at *) <;> (try simp only [decide_eq_true_eq, decide_eq_false_iff_not, Bool.not_eq_true', Bool.not_eq_false', Bool.and_eq_true, Bool.and_eq_false_iff, beq_iff_eq, bne_iff_ne, beq_eq_false_iff_ne, bne_eq_false_iff_eq, ne_eq, Decidable.not_not, bne_self_eq_false, Bool.false_eq_true, Bool.true_eq_false, Bool.not_true, Bool.not_false, not_true_eq_false, not_false_eq_true, Int.toNat_natCast, Nat.zero_add, Nat.reduceAdd, Nat.reduceMul, Nat.reduceDiv, Nat.mul_one, lenK_one, big, fill_len, marking_len, marks_len, nrms_len, List.length_set, List.length_append, List.length_map, List.length_replicate, List.length_cons, List.length_nil, Int.natCast_add, Int.natCast_one, Int.natCast_zero, memI_i, memI_nil, or_false, false_or] at *) <;> (repeat (with_reducible rename _ ∧ _ => hh; obtain ⟨_, _⟩ := hh)) <;> (first | omega | (refine fits_i64 ?_; omega) | (split <;> omega) | (with_reducible assumption) | exact h2 _ (by with_reducible assumption) | rfl)))
theorem wf_memI {ws : List Row} {who v : Int} : memI (waitsF ws who) v ↔ (WV ws ∧ Rch ws who v) := by rw [← mem_memI]; exact waits_mem
theorem lf_memI {ws : List Row} {v : Int} : memI (lockF ws) v ↔ (WV ws ∧ Rch ws v v) := by rw [← mem_memI]; exact lock_mem
theorem wf_row {ws : List Row} {who i : Int} (h0 : 0 ≤ i) (hi : i < (waitsF ws who).length) : WV ws ∧ Rch ws who (rc (row (waitsF ws who) i.toNat) 0).int := waits_mem.1 ⟨i.toNat, by omega, rfl⟩
/-- Waits are passed on. -/
theorem wf_pass {ws : List Row} {who i k : Int} (hm : ¬ memI (waitsF ws who) (rc (row (waitsF ws (rc (row (waitsF ws who) i.toNat) 0).int) k.toNat) 0).int) (h0 : 0 ≤ i) (hi : i < (waitsF ws who).length) (k0 : 0 ≤ k) (hk : k < (waitsF ws (rc (row (waitsF ws who) i.toNat) 0).int).length) : False := by
  have h1 := wf_row h0 hi
  have h2 := wf_row k0 hk
  exact hm (wf_memI.2 ⟨h1.1, h1.2.trans h2.2⟩)
theorem wf_asc {ws : List Row} {who i : Int} (h : (rc (row (waitsF ws who) i.toNat) 0).int ≤ (rc (row (waitsF ws who) (i - 1).toNat) 0).int) (h0 : 0 < i) (hi : i < (waitsF ws who).length) : False := by
  have := (waits_asc ws who).h (i - 1).toNat i.toNat (by omega) (by omega)
  unfold numT at this
  omega
theorem wf_big (ws : List Row) (who : Int) : ((waitsF ws who).length : Int) < 9223372036854775808 := by have := waits_len ws who; omega
theorem lf_big (ws : List Row) : ((lockF ws).length : Int) < 9223372036854775808 := by have := lock_len ws; omega
theorem vic_big (ws : List Row) : ((vic ws).length : Int) < 9223372036854775808 := by have := vic_lenW (ws := ws); omega
set_option maxRecDepth 100000 in
set_option maxHeartbeats 16000000 in
theorem p_fnWaitsFor : Proved 4 (cLaw [.c (.s KU8)]) := by
  refine proved_of [(18, cDW2), (19, cWF), (21, cWF), (20, cEq KInt), (22, cIsIn)] ⟨p_drawWaitsFor, p_iWF, p_sWF, p_equalIntS, p_lIsIn, trivial⟩ [.tmp 2] Try.func4 rfl rfl rfl rfl (by kernel_rfl) ?_
  rintro ds K ⟨hds, hrel⟩
  obtain ⟨xs, rfl, h1, h2⟩ := law_code hds
  unfold maxLen at h1
  refine ⟨rfl, Nat.le_of_ble_eq_true rfl, fun k σ => match lookT σ.tm 3 with
    | .view _ ws => match lookT σ.tm 4 with
      | .int _ who => match k with
        | 8 => some { α := Lv 8 Int, R := fun ⟨i⟩ => (0 ≤ i ∧ i ≤ (waitsF ws who).length ∧ ws.length ≤ 29 ∧ (waitsF ws who).length ≤ 8), μ := fun ⟨i⟩ => ((waitsF ws who).length - i).toNat, st := fun ⟨i⟩ => up σ [(6, .int .i64 i)] }
        | 12 => match lookT σ.tm 6 with
          | .int _ i => some { α := Lv 12 Int, R := fun ⟨k⟩ => (0 ≤ k ∧ k ≤ (waitsF ws (rc (row (waitsF ws who) i.toNat) 0).int).length ∧ (waitsF ws (rc (row (waitsF ws who) i.toNat) 0).int).length ≤ 8), μ := fun ⟨k⟩ => ((waitsF ws (rc (row (waitsF ws who) i.toNat) 0).int).length - k).toNat, st := fun ⟨k⟩ => up σ [(8, .int .i64 k)] }
          | _ => none
        | _ => none
      | _ => none
    | _ => none, ?_⟩
  repeat' (first | with_reducible refine And.intro ?_ ?_ | (with_reducible intro h; first | (exact absurd h (by decide)) | (guard_hyp h : true = true; clear h) | (guard_hyp h : false = false; clear h) | (have hq := (h : Lv 8 _); clear hq; obtain ⟨_⟩ := h) | (have hq := (h : Lv 12 _); clear hq; obtain ⟨_⟩ := h) | skip) | with_reducible exact True.intro | ((with_reducible refine (id ?_ : @Eq Bool (nodupN _) true)); kernel_rfl) | ((with_reducible refine (id ?_ : @Eq Bool (apartN _ _) true)); kernel_rfl) | ((with_reducible refine (id ?_ : @Eq Bool (formL _ _) true)); kernel_rfl) | ((with_reducible refine (id ?_ : @Eq _ _ _)); exact rfl) | ((conv => whnf); first | done | with_reducible refine And.intro ?_ ?_ | (with_reducible intro h; first | (exact absurd h (by decide)) | (guard_hyp h : true = true; clear h) | (guard_hyp h : false = false; clear h) | (have hq := (h : Lv 8 _); clear hq; obtain ⟨_⟩ := h) | (have hq := (h : Lv 12 _); clear hq; obtain ⟨_⟩ := h) | skip) | with_reducible exact True.intro | ((with_reducible refine (id ?_ : @Eq _ _ _)); exact rfl) | refine Exists.intro (⟨?_⟩ : Lv 8 _) ?_ | refine Exists.intro (⟨?_⟩ : Lv 12 _) ?_ | refine Exists.intro _ (Exists.intro _ (And.intro hrel ?_)) | exact Or.inl rfl | exact Or.inr (And.intro rfl rfl) | (apply Exists.intro; refine And.intro ?_ ?_)) | exact Nat.le_of_ble_eq_true rfl)
  all_goals (try ((try (change _ = _)) <;> (try dsimp only at *) <;> (try simp only [decide_eq_true_eq, decide_eq_false_iff_not, Bool.not_eq_true', Bool.not_eq_false', Bool.and_eq_true, Bool.and_eq_false_iff, beq_iff_eq, bne_iff_ne, beq_eq_false_iff_ne, bne_eq_false_iff_eq, ne_eq, Decidable.not_not, bne_self_eq_false, Bool.false_eq_true, Bool.true_eq_false, Bool.not_true, Bool.not_false, not_true_eq_false, not_false_eq_true, Int.toNat_natCast, Nat.zero_add, Nat.reduceAdd, Nat.reduceMul, Nat.reduceDiv, Nat.mul_one, lenK_one, big, fill_len, marking_len, marks_len, nrms_len, List.length_set, List.length_append, List.length_map, List.length_replicate, List.length_cons, List.length_nil, Int.natCast_add, Int.natCast_one, Int.natCast_zero, decide_true] at *) <;> (repeat (with_reducible rename _ ∧ _ => hh; obtain ⟨_, _⟩ := hh)) <;> (first | omega | (refine fits_i64 ?_; omega) | (split <;> omega) | exact h2 _ (by with_reducible assumption) | (with_reducible assumption) | (with_reducible exact wf_big _ _) | (with_reducible exact lf_big _) | (with_reducible exact vic_big _) | (with_reducible exact waits_len _ _) | (with_reducible exact lock_len _) | (with_reducible exact vic_lenW) | (exfalso; exact wf_pass (by with_reducible assumption) (by omega) (by omega) (by omega) (by omega)) | (exfalso; exact wf_asc (by with_reducible assumption) (by omega) (by omega)))))
/-- Everybody waits for those they wait for. -/
structure SomW (ws : List Row) (who : Int) (i : Int) (b : Bool) : Prop where
  h : b = true ↔ ∃ j : Nat, (j : Int) < i ∧ (rc (row ws j) 0).int = who
noncomputable def somB (ws : List Row) (who : Int) (i : Nat) : Bool := decide (∃ j, j < i ∧ (rc (row ws j) 0).int = who)
theorem som_zero (ws : List Row) (who : Int) : false = somB ws who (Int.toNat 0) := false_eq (fun ⟨j, h, _⟩ => by simp at h)
theorem som_yes {ws : List Row} {who i : Int} (h : (rc (row ws i.toNat) 0).int = who) (h0 : 0 ≤ i) : true = somB ws who (i + 1).toNat := true_eq ⟨i.toNat, by omega, h⟩
theorem som_no {ws : List Row} {who i : Int} (h : ¬ (rc (row ws i.toNat) 0).int = who) (h0 : 0 ≤ i) : somB ws who i.toNat = somB ws who (i + 1).toNat := by
  unfold somB
  rw [decide_eq_decide]
  constructor
  · rintro ⟨j, h1, h2⟩; exact ⟨j, by omega, h2⟩
  · rintro ⟨j, h1, h2⟩
    refine ⟨j, ?_, h2⟩
    by_cases e : j = i.toNat
    · rw [e] at h2; exact absurd h2 h
    · omega
theorem wd_bad {ws : List Row} {who i : Int} (h : (rc (row ws i.toNat) 0).int = who) (hm : ¬ memI (waitsF ws who) (rc (row ws i.toNat) 1).int) (hl : 0 < ((waitsF ws who).length : Int)) (h0 : 0 ≤ i) (hi : i < ws.length) : False := by
  have := (waits_mem (ws := ws) (who := who) (v := numT (waitsF ws who) 0)).1 ⟨0, by omega, rfl⟩
  exact hm (wf_memI.2 ⟨this.1, .one ⟨i.toNat, by omega, h, rfl⟩⟩)
theorem wd_fin {ws : List Row} {who i : Int} (h : somB ws who i.toNat = false) (hi : ¬ i < ws.length) : ((waitsF ws who).length : Int) = 0 := by
  apply Classical.byContradiction
  intro q
  have := (waits_mem (ws := ws) (who := who) (v := numT (waitsF ws who) 0)).1 ⟨0, by omega, rfl⟩
  obtain ⟨w, ⟨j, hj, h1, _⟩, _⟩ := this.2.first
  exact (of_decide_eq_false h) ⟨j, by omega, h1⟩
theorem wd_fin' {ws : List Row} {who i : Int} (h : somB ws who i.toNat = false) (hn : ¬ ((waitsF ws who).length : Int) = 0) (hi : ¬ i < ws.length) : False := hn (wd_fin h hi)
set_option maxRecDepth 100000 in
set_option maxHeartbeats 16000000 in
theorem p_fnWaitsForDirect : Proved 5 (cLaw [.c (.s KU8)]) := by
  refine proved_of [(18, cDW2), (19, cWF), (21, cWF), (20, cEq KInt), (22, cIsIn)] ⟨p_drawWaitsFor, p_iWF, p_sWF, p_equalIntS, p_lIsIn, trivial⟩ [.tmp 2] Try.func5 rfl rfl rfl rfl (by kernel_rfl) ?_
  rintro ds K ⟨hds, hrel⟩
  obtain ⟨xs, rfl, h1, h2⟩ := law_code hds
  unfold maxLen at h1
  refine ⟨rfl, Nat.le_of_ble_eq_true rfl, fun k σ => match lookT σ.tm 3 with
    | .view _ ws => match lookT σ.tm 4 with
      | .int _ who => match k with
        | 9 => some { α := Lv 9 Int, R := fun ⟨i⟩ => (0 ≤ i ∧ i ≤ ws.length ∧ ws.length ≤ 29 ∧ (waitsF ws who).length ≤ 8), μ := fun ⟨i⟩ => (ws.length - i).toNat, st := fun ⟨i⟩ => up σ [(7, .int .i64 i), (6, .bool (somB ws who i.toNat))] }
        | _ => none
      | _ => none
    | _ => none, ?_⟩
  repeat' (first | with_reducible refine And.intro ?_ ?_ | (with_reducible intro h; first | (exact absurd h (by decide)) | (guard_hyp h : true = true; clear h) | (guard_hyp h : false = false; clear h) | (have hq := (h : Lv 9 _); clear hq; obtain ⟨_⟩ := h) | skip) | with_reducible exact True.intro | ((with_reducible refine (id ?_ : @Eq Bool (nodupN _) true)); kernel_rfl) | ((with_reducible refine (id ?_ : @Eq Bool (apartN _ _) true)); kernel_rfl) | ((with_reducible refine (id ?_ : @Eq Bool (formL _ _) true)); kernel_rfl) | ((with_reducible refine (id ?_ : @Eq _ _ _)); exact rfl) | ((conv => whnf); first | done | with_reducible refine And.intro ?_ ?_ | (with_reducible intro h; first | (exact absurd h (by decide)) | (guard_hyp h : true = true; clear h) | (guard_hyp h : false = false; clear h) | (have hq := (h : Lv 9 _); clear hq; obtain ⟨_⟩ := h) | skip) | with_reducible exact True.intro | ((with_reducible refine (id ?_ : @Eq _ _ _)); exact rfl) | refine Exists.intro (⟨?_⟩ : Lv 9 _) ?_ | refine Exists.intro _ (Exists.intro _ (And.intro hrel ?_)) | exact Or.inl rfl | exact Or.inr (And.intro rfl rfl) | (apply Exists.intro; refine And.intro ?_ ?_)) | exact Nat.le_of_ble_eq_true rfl)
  all_goals (try ((try (change _ = _)) <;> (try dsimp only at *) <;> (try simp only [decide_eq_true_eq, decide_eq_false_iff_not, Bool.not_eq_true', Bool.not_eq_false', Bool.and_eq_true, Bool.and_eq_false_iff, beq_iff_eq, bne_iff_ne, beq_eq_false_iff_ne, bne_eq_false_iff_eq, ne_eq, Decidable.not_not, bne_self_eq_false, Bool.false_eq_true, Bool.true_eq_false, Bool.not_true, Bool.not_false, not_true_eq_false, not_false_eq_true, Int.toNat_natCast, Nat.zero_add, Nat.reduceAdd, Nat.reduceMul, Nat.reduceDiv, Nat.mul_one, lenK_one, big, fill_len, marking_len, marks_len, nrms_len, List.length_set, List.length_append, List.length_map, List.length_replicate, List.length_cons, List.length_nil, Int.natCast_add, Int.natCast_one, Int.natCast_zero, decide_true] at *) <;> (repeat (with_reducible rename _ ∧ _ => hh; obtain ⟨_, _⟩ := hh)) <;> (first | omega | (refine fits_i64 ?_; omega) | (split <;> omega) | exact h2 _ (by with_reducible assumption) | (with_reducible assumption) | (with_reducible exact wf_big _ _) | (with_reducible exact lf_big _) | (with_reducible exact vic_big _) | (with_reducible exact waits_len _ _) | (with_reducible exact lock_len _) | (with_reducible exact vic_lenW) | (with_reducible exact som_zero _ _) | (with_reducible exact som_yes (by with_reducible assumption) (by omega)) | (with_reducible exact som_no (by with_reducible assumption) (by omega)) | (exfalso; exact wd_bad (by with_reducible assumption) (by with_reducible assumption) (by with_reducible assumption) (by omega) (by omega)) | (with_reducible exact wd_fin (by with_reducible assumption) (by omega)) | (have q := wd_fin (by with_reducible assumption) (by omega); simp only [q]; simp; done) | (exfalso; exact wd_fin' (by with_reducible assumption) (by with_reducible assumption) (by omega)))))
/-- Locked up means around a circle. -/
theorem lu_ne {ws : List Row} {n : Int} (h : memI (waitsF ws n) n) (h2 : ¬ memI (lockF ws) n) : False := h2 (lf_memI.2 (wf_memI.1 h))
theorem lu_en {ws : List Row} {n : Int} (h : ¬ memI (waitsF ws n) n) (h2 : memI (lockF ws) n) : False := h (wf_memI.2 (lf_memI.1 h2))
theorem lu_bne {ws : List Row} {n : Int} (h : (decide (memI (waitsF ws n) n) != decide (memI (lockF ws) n)) = true) : False := by
  have e : decide (memI (waitsF ws n) n) = decide (memI (lockF ws) n) := by rw [decide_eq_decide, wf_memI, lf_memI]
  rw [e] at h; simp at h
theorem lu_bne' {ws : List Row} {n : Int} (h : ¬ decide (memI (waitsF ws n) n) = decide (memI (lockF ws) n)) : False := h (by rw [decide_eq_decide, wf_memI, lf_memI])
noncomputable def luB (ws : List Row) (i k : Int) : Bool := decide (∃ j : Nat, (j : Int) < k ∧ (rc (row ws j) 0).int = (rc (row (lockF ws) i.toNat) 0).int ∧ memI (lockF ws) (rc (row ws j) 1).int)
theorem luB_zero (ws : List Row) (i : Int) : false = luB ws i 0 := false_eq (fun ⟨j, h, _⟩ => by omega)
theorem luB_old {ws : List Row} {i k : Int} (h : luB ws i k = true) : true = luB ws i (k + 1) := by
  obtain ⟨j, h1, h2⟩ := of_decide_eq_true h
  exact true_eq ⟨j, by omega, h2⟩
theorem luB_new {ws : List Row} {i k : Int} (h1 : (rc (row ws k.toNat) 0).int = (rc (row (lockF ws) i.toNat) 0).int) (h2 : memI (lockF ws) (rc (row ws k.toNat) 1).int) (h0 : 0 ≤ k) : true = luB ws i (k + 1) := true_eq ⟨k.toNat, by omega, h1, h2⟩
theorem luB_no {ws : List Row} {i k : Int} (h : luB ws i k = false) (hn : ¬ ((rc (row ws k.toNat) 0).int = (rc (row (lockF ws) i.toNat) 0).int ∧ memI (lockF ws) (rc (row ws k.toNat) 1).int)) (h0 : 0 ≤ k) : false = luB ws i (k + 1) := false_eq (fun ⟨j, h1, h2⟩ => by
  by_cases e : (j : Int) = k
  · rw [← e, toNat_nat] at hn; exact hn h2
  · exact of_decide_eq_false h ⟨j, by omega, h2⟩)
theorem luB_no1 {ws : List Row} {i k : Int} (h : luB ws i k = false) (hn : ¬ (rc (row ws k.toNat) 0).int = (rc (row (lockF ws) i.toNat) 0).int) (h0 : 0 ≤ k) : false = luB ws i (k + 1) := luB_no h (fun q => hn q.1) h0
theorem luB_no2 {ws : List Row} {i k : Int} (h : luB ws i k = false) (hn : ¬ memI (lockF ws) (rc (row ws k.toNat) 1).int) (h0 : 0 ≤ k) : false = luB ws i (k + 1) := luB_no h (fun q => hn q.2) h0
theorem luB_dec {ws : List Row} {i k : Int} (h : luB ws i k = false) (h1 : (rc (row ws k.toNat) 0).int = (rc (row (lockF ws) i.toNat) 0).int) (h0 : 0 ≤ k) : decide (memI (lockF ws) (rc (row ws k.toNat) 1).int) = luB ws i (k + 1) := by
  by_cases e : memI (lockF ws) (rc (row ws k.toNat) 1).int
  · rw [← luB_new h1 e h0]; simpa using e
  · rw [← luB_no2 h e h0]; simpa using e
theorem lu_bad {ws : List Row} {i k : Int} (h : luB ws i k = false) (hk : ¬ k < ws.length) (h0 : 0 ≤ i) (hi : i < (lockF ws).length) : False := by
  have hm := (lock_mem (ws := ws) (v := numT (lockF ws) i.toNat)).1 ⟨i.toNat, by omega, rfl⟩
  obtain ⟨w, ⟨j, hj, h1, h2⟩, h3⟩ := hm.2.first
  refine of_decide_eq_false h ⟨j, by omega, h1, ?_⟩
  rw [lf_memI, h2]
  refine ⟨hm.1, ?_⟩
  have he : Rch ws (numT (lockF ws) i.toNat) w := .one ⟨j, hj, h1, h2⟩
  rcases h3 with e | e
  · rw [← e] at he; exact he
  · exact e.trans he
set_option maxRecDepth 100000 in
set_option maxHeartbeats 16000000 in
theorem p_fnLockedUp : Proved 6 (cLaw [.c (.s KU8)]) := by
  refine proved_of [(23, cDW1), (24, cLF), (25, cLF), (19, cWF), (20, cEq KInt), (22, cIsIn)] ⟨p_drawLockedUp, p_iLF, p_sLF, p_iWF, p_equalIntS, p_lIsIn, trivial⟩ [.tmp 2] Try.func6 rfl rfl rfl rfl (by kernel_rfl) ?_
  rintro ds K ⟨hds, hrel⟩
  obtain ⟨xs, rfl, h1, h2⟩ := law_code hds
  unfold maxLen at h1
  refine ⟨rfl, Nat.le_of_ble_eq_true rfl, fun k σ => match lookT σ.tm 3 with
    | .view _ ws => match k with
      | 8 => some { α := Lv 8 Int, R := fun ⟨n⟩ => (0 ≤ n ∧ n ≤ 8 ∧ ws.length ≤ 29 ∧ (lockF ws).length ≤ 8), μ := fun ⟨n⟩ => (8 - n).toNat, st := fun ⟨n⟩ => up σ [(5, .int .i64 n)] }
      | 13 => some { α := Lv 13 Int, R := fun ⟨i⟩ => (0 ≤ i ∧ i ≤ (lockF ws).length ∧ ws.length ≤ 29 ∧ (lockF ws).length ≤ 8), μ := fun ⟨i⟩ => ((lockF ws).length - i).toNat, st := fun ⟨i⟩ => up σ [(6, .int .i64 i)] }
      | 17 => match lookT σ.tm 6 with
        | .int _ i => some { α := Lv 17 Int, R := fun ⟨k⟩ => (0 ≤ k ∧ k ≤ ws.length), μ := fun ⟨k⟩ => (ws.length - k).toNat, st := fun ⟨k⟩ => up σ [(8, .int .i64 k), (7, .bool (luB ws i k))] }
        | _ => none
      | _ => none
    | _ => none, ?_⟩
  repeat' (first | with_reducible refine And.intro ?_ ?_ | (with_reducible intro h; first | (exact absurd h (by decide)) | (guard_hyp h : true = true; clear h) | (guard_hyp h : false = false; clear h) | (have hq := (h : Lv 8 _); clear hq; obtain ⟨_⟩ := h) | (have hq := (h : Lv 13 _); clear hq; obtain ⟨_⟩ := h) | (have hq := (h : Lv 17 _); clear hq; obtain ⟨_⟩ := h) | skip) | with_reducible exact True.intro | ((with_reducible refine (id ?_ : @Eq Bool (nodupN _) true)); kernel_rfl) | ((with_reducible refine (id ?_ : @Eq Bool (apartN _ _) true)); kernel_rfl) | ((with_reducible refine (id ?_ : @Eq Bool (formL _ _) true)); kernel_rfl) | ((with_reducible refine (id ?_ : @Eq _ _ _)); exact rfl) | ((conv => whnf); first | done | with_reducible refine And.intro ?_ ?_ | (with_reducible intro h; first | (exact absurd h (by decide)) | (guard_hyp h : true = true; clear h) | (guard_hyp h : false = false; clear h) | (have hq := (h : Lv 8 _); clear hq; obtain ⟨_⟩ := h) | (have hq := (h : Lv 13 _); clear hq; obtain ⟨_⟩ := h) | (have hq := (h : Lv 17 _); clear hq; obtain ⟨_⟩ := h) | skip) | with_reducible exact True.intro | ((with_reducible refine (id ?_ : @Eq _ _ _)); exact rfl) | refine Exists.intro (⟨?_⟩ : Lv 8 _) ?_ | refine Exists.intro (⟨?_⟩ : Lv 13 _) ?_ | refine Exists.intro (⟨?_⟩ : Lv 17 _) ?_ | refine Exists.intro _ (Exists.intro _ (And.intro hrel ?_)) | exact Or.inl rfl | exact Or.inr (And.intro rfl rfl) | (apply Exists.intro; refine And.intro ?_ ?_)) | exact Nat.le_of_ble_eq_true rfl)
  all_goals (try ((try (change _ = _)) <;> (try dsimp only at *) <;> (try simp only [decide_eq_true_eq, decide_eq_false_iff_not, Bool.not_eq_true', Bool.not_eq_false', Bool.and_eq_true, Bool.and_eq_false_iff, beq_iff_eq, bne_iff_ne, beq_eq_false_iff_ne, bne_eq_false_iff_eq, ne_eq, Decidable.not_not, bne_self_eq_false, Bool.false_eq_true, Bool.true_eq_false, Bool.not_true, Bool.not_false, not_true_eq_false, not_false_eq_true, Int.toNat_natCast, Nat.zero_add, Nat.reduceAdd, Nat.reduceMul, Nat.reduceDiv, Nat.mul_one, lenK_one, big, fill_len, marking_len, marks_len, nrms_len, List.length_set, List.length_append, List.length_map, List.length_replicate, List.length_cons, List.length_nil, Int.natCast_add, Int.natCast_one, Int.natCast_zero, decide_true] at *) <;> (repeat (with_reducible rename _ ∧ _ => hh; obtain ⟨_, _⟩ := hh)) <;> (first | omega | (refine fits_i64 ?_; omega) | (split <;> omega) | exact h2 _ (by with_reducible assumption) | (with_reducible assumption) | (with_reducible exact wf_big _ _) | (with_reducible exact lf_big _) | (with_reducible exact vic_big _) | (with_reducible exact waits_len _ _) | (with_reducible exact lock_len _) | (with_reducible exact vic_lenW) | (exfalso; exact lu_ne (by with_reducible assumption) (by with_reducible assumption)) | (exfalso; exact lu_en (by with_reducible assumption) (by with_reducible assumption)) | (exfalso; exact lu_bne (by with_reducible assumption)) | (exfalso; exact lu_bne' (by with_reducible assumption)) | (with_reducible exact luB_zero _ _) | (with_reducible exact luB_old (by with_reducible assumption)) | (with_reducible exact luB_new (by with_reducible assumption) (by with_reducible assumption) (by omega)) | (with_reducible exact luB_no1 (by with_reducible assumption) (by with_reducible assumption) (by omega)) | (with_reducible exact luB_no2 (by with_reducible assumption) (by with_reducible assumption) (by omega)) | (with_reducible exact luB_dec (by with_reducible assumption) (by with_reducible assumption) (by omega)) | (exfalso; exact lu_bad (by with_reducible assumption) (by omega) (by omega) (by omega)))))
/-- Victims free the others. -/
@[irreducible] noncomputable def keepI (ws out : List Row) (i : Nat) : List Row := nrms KWait ((ws.take i).filter (fun r => decide (keepP out r)))
theorem keepI_zero (ws out : List Row) : [] = keepI ws out (Int.toNat 0) := by simp [keepI, nrms]
theorem keepI_zero0 (ws out : List Row) : [] = keepI ws out 0 := keepI_zero ws out
theorem keepI_yes {ws out : List Row} {i : Int} (h1 : ¬ memI out (rc (row ws i.toNat) 0).int) (h2 : ¬ memI out (rc (row ws i.toNat) 1).int) (h0 : 0 ≤ i) (hi : i < ws.length) : keepI ws out i.toNat ++ [[Sc.i (rc (row ws i.toNat) 0).int, Sc.i (rc (row ws i.toNat) 1).int]] = keepI ws out (i + 1).toNat := by
  unfold keepI
  refine (filt_yes h0 hi ?_).symm
  simp only [decide_eq_true_eq]
  exact ⟨fun q => h1 (mem_memI.1 q), fun q => h2 (mem_memI.1 q)⟩
theorem keepI_no1 {ws out : List Row} {i : Int} (h1 : memI out (rc (row ws i.toNat) 0).int) (h0 : 0 ≤ i) (hi : i < ws.length) : keepI ws out i.toNat = keepI ws out (i + 1).toNat := by
  unfold keepI
  exact (filt_no h0 hi (false_eq (fun q => q.1 (mem_memI.2 h1))).symm).symm
theorem keepI_no2 {ws out : List Row} {i : Int} (h1 : memI out (rc (row ws i.toNat) 1).int) (h0 : 0 ≤ i) (hi : i < ws.length) : keepI ws out i.toNat = keepI ws out (i + 1).toNat := by
  unfold keepI
  exact (filt_no h0 hi (false_eq (fun q => q.2 (mem_memI.2 h1))).symm).symm
theorem keepI_all {ws out : List Row} {i : Int} (h : ¬ i < ws.length) : keepI ws out i.toNat = keepF ws out := by unfold keepI; exact filt_all h
theorem keepI_len (ws out : List Row) (i : Nat) : (keepI ws out i).length ≤ ws.length := by unfold keepI; exact filt_len _ _ _ _
theorem vk_free {ws : List Row} {i : Int} (h : ¬ i < ws.length) : ((lockF (keepI ws (vic ws) i.toNat)).length : Int) = 0 := by rw [keepI_all h, vic_free]; rfl
theorem vk_free' {ws : List Row} {i : Int} (hn : ¬ ((lockF (keepI ws (vic ws) i.toNat)).length : Int) = 0) (h : ¬ i < ws.length) : False := hn (vk_free h)
theorem vk_none {ws : List Row} : (((vic ws).length : Int) == 0) = (((lockF ws).length : Int) == 0) := by
  by_cases e : lockF ws = []
  · rw [vic_none.2 e, e]
  · have h1 : ¬ vic ws = [] := fun q => e (vic_none.1 q)
    have a1 : (((vic ws).length : Int) == 0) = false := by rw [beq_eq_false_iff_ne]; exact fun q => h1 (len0 q)
    have a2 : (((lockF ws).length : Int) == 0) = false := by rw [beq_eq_false_iff_ne]; exact fun q => e (len0 q)
    rw [a1, a2]
theorem vk_beq {ws : List Row} : ((((vic ws).length : Int) == 0) == (((lockF ws).length : Int) == 0)) = true := by rw [vk_none]; simp
theorem vk_dup {ws : List Row} {i : Int} (hm : memI ((vic ws).take i.toNat) (rc (row (vic ws) i.toNat) 0).int) (h0 : 0 ≤ i) (hi : i < (vic ws).length) : False := by
  obtain ⟨j, h1, h2⟩ := mem_memI.2 hm
  rw [List.length_take] at h1
  have e : row ((vic ws).take i.toNat) j = row (vic ws) j := by
    unfold row
    rw [List.getD_eq_getElem?_getD, List.getD_eq_getElem?_getD, List.getElem?_take, if_pos (by omega)]
  unfold numT at h2
  rw [e] at h2
  exact (vicD ws).h j i.toNat (by omega) (by omega) h2
theorem tk_len (xs : List Row) (n : Nat) (h : xs.length ≤ 28) : ((xs.take n).length : Int) < 9223372036854775808 := by rw [List.length_take]; omega
set_option maxRecDepth 100000 in
set_option maxHeartbeats 16000000 in
theorem p_fnVictimsOf : Proved 9 (cLaw [.c (.s KU8)]) := by
  refine proved_of [(33, cDW1), (34, cVic), (35, cVic), (24, cLF), (20, cEq KInt), (22, cIsIn)] ⟨p_drawVictimsOf, p_iVic, p_sVic, p_iLF, p_equalIntS, p_lIsIn, trivial⟩ [.tmp 2] Try.func9 rfl rfl rfl rfl (by kernel_rfl) ?_
  rintro ds K ⟨hds, hrel⟩
  obtain ⟨xs, rfl, h1, h2⟩ := law_code hds
  unfold maxLen at h1
  refine ⟨rfl, Nat.le_of_ble_eq_true rfl, fun k σ => match lookT σ.tm 3 with
    | .view _ ws => match k with
      | 9 => some { α := Lv 9 Int, R := fun ⟨i⟩ => (0 ≤ i ∧ i ≤ ws.length ∧ ws.length ≤ 29), μ := fun ⟨i⟩ => (ws.length - i).toNat, st := fun ⟨i⟩ => upH σ [(6, .int .i64 i), (5, .own 2)] 2 (.rows 41 KWait (keepI ws (vic ws) i.toNat)) }
      | 14 => match lookH σ.hp 2 with
        | some (.rows _ _ left) => some { α := Lv 14 Int, R := fun ⟨i⟩ => (0 ≤ i ∧ i ≤ (vic ws).length ∧ ws.length ≤ 29 ∧ (vic ws).length ≤ 28 ∧ (left.length : Int) ≤ 29) ∧ True, μ := fun ⟨i⟩ => ((vic ws).length - i).toNat, st := fun ⟨i⟩ => ⟨[(7, .int .i64 i), (3, .view KWait ws), (4, .view KInt (vic ws)), (5, .own 2)], [none, none, some (.rows 41 KWait left)]⟩ }
        | _ => none
      | _ => none
    | _ => none, ?_⟩
  repeat' (first | with_reducible refine And.intro ?_ ?_ | (with_reducible intro h; first | (exact absurd h (by decide)) | (guard_hyp h : true = true; clear h) | (guard_hyp h : false = false; clear h) | (have hq := (h : Lv 9 _); clear hq; obtain ⟨_⟩ := h) | (have hq := (h : Lv 14 _); clear hq; obtain ⟨_⟩ := h) | skip) | with_reducible exact True.intro | ((with_reducible refine (id ?_ : @Eq Bool (nodupN _) true)); kernel_rfl) | ((with_reducible refine (id ?_ : @Eq Bool (apartN _ _) true)); kernel_rfl) | ((with_reducible refine (id ?_ : @Eq Bool (formL _ _) true)); kernel_rfl) | ((with_reducible refine (id ?_ : @Eq _ _ _)); exact rfl) | ((conv => whnf); first | done | with_reducible refine And.intro ?_ ?_ | (with_reducible intro h; first | (exact absurd h (by decide)) | (guard_hyp h : true = true; clear h) | (guard_hyp h : false = false; clear h) | (have hq := (h : Lv 9 _); clear hq; obtain ⟨_⟩ := h) | (have hq := (h : Lv 14 _); clear hq; obtain ⟨_⟩ := h) | skip) | with_reducible exact True.intro | ((with_reducible refine (id ?_ : @Eq _ _ _)); exact rfl) | refine Exists.intro (⟨?_⟩ : Lv 9 _) ?_ | refine Exists.intro (⟨?_⟩ : Lv 14 _) ?_ | refine Exists.intro _ (Exists.intro _ (And.intro hrel ?_)) | exact Or.inl rfl | exact Or.inr (And.intro rfl rfl) | (apply Exists.intro; refine And.intro ?_ ?_)) | exact Nat.le_of_ble_eq_true rfl)
  all_goals (try ((try (change _ = _)) <;> (try dsimp only at *) <;> (try simp only [decide_eq_true_eq, decide_eq_false_iff_not, Bool.not_eq_true', Bool.not_eq_false', Bool.and_eq_true, Bool.and_eq_false_iff, beq_iff_eq, bne_iff_ne, beq_eq_false_iff_ne, bne_eq_false_iff_eq, ne_eq, Decidable.not_not, bne_self_eq_false, Bool.false_eq_true, Bool.true_eq_false, Bool.not_true, Bool.not_false, not_true_eq_false, not_false_eq_true, Int.toNat_natCast, Nat.zero_add, Nat.reduceAdd, Nat.reduceMul, Nat.reduceDiv, Nat.mul_one, lenK_one, big, fill_len, marking_len, marks_len, nrms_len, List.length_set, List.length_append, List.length_map, List.length_replicate, List.length_cons, List.length_nil, Int.natCast_add, Int.natCast_one, Int.natCast_zero, decide_true, List.drop_zero, Int.toNat_zero] at *) <;> (repeat (with_reducible rename _ ∧ _ => hh; obtain ⟨_, _⟩ := hh)) <;> (first | omega | (refine fits_i64 ?_; omega) | (split <;> omega) | exact h2 _ (by with_reducible assumption) | (with_reducible assumption) | (with_reducible exact wf_big _ _) | (with_reducible exact lf_big _) | (with_reducible exact vic_big _) | (with_reducible exact waits_len _ _) | (with_reducible exact lock_len _) | (with_reducible exact vic_lenW) | (with_reducible exact keepI_zero _ _) | (with_reducible exact keepI_zero0 _ _) | (with_reducible exact keepI_yes (by with_reducible assumption) (by with_reducible assumption) (by omega) (by omega)) | (with_reducible exact (keepI_yes (by with_reducible assumption) (by with_reducible assumption) (by omega) (by omega)).symm) | (with_reducible exact keepI_no1 (by with_reducible assumption) (by omega) (by omega)) | (with_reducible exact keepI_no2 (by with_reducible assumption) (by omega) (by omega)) | (exfalso; exact vk_dup (by with_reducible assumption) (by omega) (by omega)) | (with_reducible exact tk_len _ _ (by omega)) | (with_reducible exact vk_free (by omega)) | (exfalso; exact vk_free' (by with_reducible assumption) (by omega)) | (with_reducible exact vk_beq) | (with_reducible exact vk_none) | (refine Nat.le_trans (Nat.mul_le_mul_right 16 (Nat.add_le_add_right (keepI_len _ _ _) _)) ?_; omega) | (refine Int.le_trans (Int.ofNat_le.2 (keepI_len _ _ _)) ?_; omega) | (refine Nat.le_trans (keepI_len _ _ _) ?_; omega) | (with_reducible exact True.intro))))
end Go.Proofs.Ytbppiknmlipmpaa.V
