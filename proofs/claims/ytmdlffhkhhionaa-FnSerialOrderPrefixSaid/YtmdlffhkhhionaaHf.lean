/-
  Acts: beginnings of histories; the laws on valid and on strict histories, as functions.
-/
import Derived.Test.YtmdlffhkhhionaaHe
set_option linter.unusedSimpArgs false
set_option linter.unusedVariables false
namespace Go.Proofs.Ytmdlffhkhhionaa.V
open Go Go.RowKit
open Classical

/-- A law on bytes. -/
theorem law_code {ds : List AV} (h : PkAVs [.c (.s KU8)] ds) : ∃ xs, ds = [.view KU8 xs] ∧ xs.length ≤ maxLen ∧ ∀ i, i < xs.length → RowOk KU8 (row xs i) := law_sl h

theorem mem_row {xs : List Row} {r : Row} : r ∈ xs ↔ ∃ i, i < xs.length ∧ row xs i = r := by
  rw [List.mem_iff_getElem?]
  constructor
  · rintro ⟨i, hi⟩
    have hl := (List.getElem?_eq_some_iff.1 hi).1
    exact ⟨i, hl, Option.some.inj ((row_some hl).symm.trans hi)⟩
  · rintro ⟨i, hl, rfl⟩
    exact ⟨i, row_some hl⟩
/-- Of two acts the first one is no commit of the second one's transaction. -/
def aft (a b : Row) : Prop := ¬ ((rc a 0).int = (rc b 0).int ∧ (rc a 1).int = 2)
theorem va_iff (xs : List Row) : VA xs ↔ (∀ r ∈ xs, OkRow r) ∧ xs.Pairwise aft ∧ xs.length ≤ 16 := by
  constructor
  · intro h
    refine ⟨fun r hr => ?_, ?_, h.l⟩
    · obtain ⟨i, hi, rfl⟩ := mem_row.1 hr
      exact (h.g.h i hi).1
    · rw [List.pairwise_iff_getElem]
      intro i j hi hj hij
      have := (h.g.h j hj).2.h i hij
      have e1 := row_some hi
      have e2 := row_some hj
      rw [List.getElem?_eq_getElem hi] at e1
      rw [List.getElem?_eq_getElem hj] at e2
      rw [Option.some.inj e1, Option.some.inj e2]
      exact this
  · rintro ⟨h1, h2, h3⟩
    refine ⟨⟨fun j hj => ⟨h1 _ (mem_row.2 ⟨j, hj, rfl⟩), ⟨fun i hi => ?_⟩⟩⟩, h3⟩
    rw [List.pairwise_iff_getElem] at h2
    have hl : i < xs.length := by omega
    have := h2 i j hl hj hi
    have e1 := row_some hl
    have e2 := row_some hj
    rw [List.getElem?_eq_getElem hl] at e1
    rw [List.getElem?_eq_getElem hj] at e2
    rw [Option.some.inj e1, Option.some.inj e2] at this
    exact this
theorem va_sub {xs ys : List Row} (h : VA xs) (hs : List.Sublist ys xs) : VA ys := by
  rw [va_iff] at h ⊢
  exact ⟨fun r hr => h.1 r (hs.subset hr), h.2.1.sublist hs, Nat.le_trans hs.length_le h.2.2⟩
theorem va_cut {xs : List Row} {n : Nat} (h : VA xs) : VA ((xs.take n).drop (Int.toNat 0)) := va_sub h (by simpa using List.take_sublist n xs)
theorem bad_cut {w : Bool} {xs : List Row} {n k i : Nat} (hk : k < i) (hi : i < n) (h : bad w ((xs.take n).drop (Int.toNat 0)) k i) : bad w xs k i := by
  obtain ⟨h1, h2, h3⟩ := h
  rw [cut_row (show k < n by omega)] at h1 h2 h3
  rw [cut_row hi] at h2
  refine ⟨h1, h2, fun ⟨j, a, b, c, d⟩ => h3 ⟨j, a, b, ?_, ?_⟩⟩
  · rw [cut_row (by omega)]; exact c
  · rw [cut_row (by omega)]; exact d
theorem str_cut {w : Bool} {xs : List Row} {n : Nat} (h : Str w xs) (hn : n ≤ xs.length) : Str w ((xs.take n).drop (Int.toNat 0)) := by
  refine ⟨va_cut h.1, ⟨fun i hi => ⟨fun k hk hb => ?_⟩⟩⟩
  rw [cut_len_eq hn] at hi
  exact (h.2.h i (by omega)).h k hk (bad_cut hk hi hb)
/-- The acts that are no writes. -/
def noW (xs : List Row) : List Row := xs.filter fun r => (rc r 1).int != 1
theorem str_noW {xs : List Row} (h : VA xs) : Str true (noW xs) := by
  refine ⟨va_sub h List.filter_sublist, ⟨fun i hi => ⟨fun k hk hb => ?_⟩⟩⟩
  have hm : row (noW xs) k ∈ noW xs := mem_row.2 ⟨k, by omega, rfl⟩
  have := (List.mem_filter.1 hm).2
  rw [hb.1 rfl] at this
  simp at this
theorem noW_step {xs : List Row} {i : Int} (hx : nrms KAct xs = xs) (h0 : 0 ≤ i) (hi : i < xs.length) :
    (¬ (rc (row xs i.toNat) 1).int = 1 → noW (xs.take (i + 1).toNat) = noW (xs.take i.toNat) ++ [[.i (rc (row xs i.toNat) 0).int, .i (rc (row xs i.toNat) 1).int, .i (rc (row xs i.toNat) 2).int]]) ∧
    ((rc (row xs i.toNat) 1).int = 1 → noW (xs.take (i + 1).toNat) = noW (xs.take i.toNat)) := by
  have e : (i + 1).toNat = i.toNat + 1 := by omega
  have hl : i.toNat < xs.length := by omega
  have hr : row xs i.toNat = [.i (rc (row xs i.toNat) 0).int, .i (rc (row xs i.toNat) 1).int, .i (rc (row xs i.toNat) 2).int] := by
    have := row_of_nrms hx hl
    exact this
  rw [e, take_succ_row hl]
  unfold noW
  rw [List.filter_append]
  constructor
  · intro h
    rw [← hr]
    simp [h]
  · intro h
    simp [h]
theorem noW_len (xs : List Row) (n : Nat) : (noW (xs.take n)).length ≤ xs.length := Nat.le_trans (List.length_filter_le _ _) (by simp; omega)
theorem noW_all {xs : List Row} {i : Int} (h : ¬ i < xs.length) (h2 : i ≤ xs.length) (h3 : 0 ≤ i) : noW (xs.take i.toNat) = noW xs := by
  rw [List.take_of_length_le (by omega)]

def cDrawActs : Ct := ⟨[], fun ds K => match ds with
  | [.view ks xs] => ks = KU8 ∧ (xs.length : Int) < big ∧ (∀ i, i < xs.length → RowOk KU8 (row xs i)) ∧ ∀ ys : List Row, ys.length ≤ 16 → nrms KAct ys = ys → K (.fr 33 KAct ys) []
  | _ => False⟩
set_option maxRecDepth 100000 in
set_option maxHeartbeats 4000000 in
theorem p_drawValidActs : Proved 18 cDrawActs := by
  refine proved_of [(38, cNewReader), (37, cAnyActs 200)] ⟨p_newReader, p_anyActs, trivial⟩ [.tmp 2] Try.func18 rfl rfl rfl rfl (by kernel_rfl) ?_
  intro ds K hrel
  simp only [cDrawActs] at hrel
  split at hrel
  case h_2 => exact hrel.elim
  rename_i ks xs
  obtain ⟨rfl, h1, h2, hrel⟩ := hrel
  refine ⟨rfl, Nat.le_of_ble_eq_true rfl, fun _ _ => none, ?_⟩
  repeat' (first | with_reducible refine And.intro ?_ ?_ | (with_reducible intro h; first | (exact absurd h (by decide)) | (guard_hyp h : true = true; clear h) | (guard_hyp h : false = false; clear h) | skip) | with_reducible exact True.intro | ((with_reducible refine (id ?_ : @Eq Bool (nodupN _) true)); kernel_rfl) | ((with_reducible refine (id ?_ : @Eq Bool (apartN _ _) true)); kernel_rfl) | ((with_reducible refine (id ?_ : @Eq Bool (formL _ _) true)); kernel_rfl) | ((with_reducible refine (id ?_ : @Eq _ _ _)); exact rfl) | ((conv => whnf); first | done | with_reducible refine And.intro ?_ ?_ | (with_reducible intro h; first | (exact absurd h (by decide)) | (guard_hyp h : true = true; clear h) | (guard_hyp h : false = false; clear h) | skip) | with_reducible exact True.intro | ((with_reducible refine (id ?_ : @Eq _ _ _)); exact rfl) | (refine Exists.intro _ (Exists.intro _ (And.intro (hrel ?_ ?_ ?_) ?_))) | refine Exists.intro _ (Exists.intro _ (And.intro hrel ?_)) | exact Or.inl rfl | exact Or.inr (And.intro rfl rfl) | (apply Exists.intro; refine And.intro ?_ ?_)) | exact Nat.le_of_ble_eq_true rfl)
  all_goals (try ((repeat (with_reducible rename PickR _ _ => hq; have hq1 := hq.lo; have hq2 := hq.hi; have hq3 := hq.zero; clear hq)) <;> (try (change _ = _)) <;> (try dsimp only at *) <;> (try simp only [decide_eq_true_eq, decide_eq_false_iff_not, Bool.not_eq_true', Bool.not_eq_false', Bool.and_eq_true, Bool.and_eq_false_iff, beq_iff_eq, bne_iff_ne, beq_eq_false_iff_ne, bne_eq_false_iff_eq, ne_eq, Decidable.not_not, bne_self_eq_false, Bool.false_eq_true, Bool.true_eq_false, Bool.not_true, Bool.not_false, not_true_eq_false, not_false_eq_true, Int.toNat_natCast, Nat.zero_add, Nat.reduceAdd, Nat.reduceMul, Nat.reduceDiv, Nat.mul_one, lenK_one, big, fill_len, marking_len, marks_len, nrms_len, List.length_set, List.length_append, List.length_map, List.length_replicate, List.length_cons, List.length_nil, Int.natCast_add, Int.natCast_one, Int.natCast_zero, memI_i, memI_nil, or_false, false_or] at *) <;> (repeat (with_reducible rename _ ∧ _ => hh; obtain ⟨_, _⟩ := hh)) <;> (first | omega | (refine fits_i64 ?_; omega) | (split <;> omega) | assumption | exact h2 _ (by assumption))))
set_option maxRecDepth 100000 in
set_option maxHeartbeats 4000000 in
theorem p_drawIsStrict : Proved 23 cDrawActs := by
  refine proved_of [(38, cNewReader), (37, cAnyActs 200)] ⟨p_newReader, p_anyActs, trivial⟩ [.tmp 2] Try.func23 rfl rfl rfl rfl (by kernel_rfl) ?_
  intro ds K hrel
  simp only [cDrawActs] at hrel
  split at hrel
  case h_2 => exact hrel.elim
  rename_i ks xs
  obtain ⟨rfl, h1, h2, hrel⟩ := hrel
  refine ⟨rfl, Nat.le_of_ble_eq_true rfl, fun _ _ => none, ?_⟩
  repeat' (first | with_reducible refine And.intro ?_ ?_ | (with_reducible intro h; first | (exact absurd h (by decide)) | (guard_hyp h : true = true; clear h) | (guard_hyp h : false = false; clear h) | skip) | with_reducible exact True.intro | ((with_reducible refine (id ?_ : @Eq Bool (nodupN _) true)); kernel_rfl) | ((with_reducible refine (id ?_ : @Eq Bool (apartN _ _) true)); kernel_rfl) | ((with_reducible refine (id ?_ : @Eq Bool (formL _ _) true)); kernel_rfl) | ((with_reducible refine (id ?_ : @Eq _ _ _)); exact rfl) | ((conv => whnf); first | done | with_reducible refine And.intro ?_ ?_ | (with_reducible intro h; first | (exact absurd h (by decide)) | (guard_hyp h : true = true; clear h) | (guard_hyp h : false = false; clear h) | skip) | with_reducible exact True.intro | ((with_reducible refine (id ?_ : @Eq _ _ _)); exact rfl) | (refine Exists.intro _ (Exists.intro _ (And.intro (hrel ?_ ?_ ?_) ?_))) | refine Exists.intro _ (Exists.intro _ (And.intro hrel ?_)) | exact Or.inl rfl | exact Or.inr (And.intro rfl rfl) | (apply Exists.intro; refine And.intro ?_ ?_)) | exact Nat.le_of_ble_eq_true rfl)
  all_goals (try ((repeat (with_reducible rename PickR _ _ => hq; have hq1 := hq.lo; have hq2 := hq.hi; have hq3 := hq.zero; clear hq)) <;> (try (change _ = _)) <;> (try dsimp only at *) <;> (try simp only [decide_eq_true_eq, decide_eq_false_iff_not, Bool.not_eq_true', Bool.not_eq_false', Bool.and_eq_true, Bool.and_eq_false_iff, beq_iff_eq, bne_iff_ne, beq_eq_false_iff_ne, bne_eq_false_iff_eq, ne_eq, Decidable.not_not, bne_self_eq_false, Bool.false_eq_true, Bool.true_eq_false, Bool.not_true, Bool.not_false, not_true_eq_false, not_false_eq_true, Int.toNat_natCast, Nat.zero_add, Nat.reduceAdd, Nat.reduceMul, Nat.reduceDiv, Nat.mul_one, lenK_one, big, fill_len, marking_len, marks_len, nrms_len, List.length_set, List.length_append, List.length_map, List.length_replicate, List.length_cons, List.length_nil, Int.natCast_add, Int.natCast_one, Int.natCast_zero, memI_i, memI_nil, or_false, false_or] at *) <;> (repeat (with_reducible rename _ ∧ _ => hh; obtain ⟨_, _⟩ := hh)) <;> (first | omega | (refine fits_i64 ?_; omega) | (split <;> omega) | assumption | exact h2 _ (by assumption))))
set_option maxRecDepth 100000 in
set_option maxHeartbeats 4000000 in
theorem p_drawSerialOrder : Proved 26 cDrawActs := by
  refine proved_of [(38, cNewReader), (37, cAnyActs 200)] ⟨p_newReader, p_anyActs, trivial⟩ [.tmp 2] Try.func26 rfl rfl rfl rfl (by kernel_rfl) ?_
  intro ds K hrel
  simp only [cDrawActs] at hrel
  split at hrel
  case h_2 => exact hrel.elim
  rename_i ks xs
  obtain ⟨rfl, h1, h2, hrel⟩ := hrel
  refine ⟨rfl, Nat.le_of_ble_eq_true rfl, fun _ _ => none, ?_⟩
  repeat' (first | with_reducible refine And.intro ?_ ?_ | (with_reducible intro h; first | (exact absurd h (by decide)) | (guard_hyp h : true = true; clear h) | (guard_hyp h : false = false; clear h) | skip) | with_reducible exact True.intro | ((with_reducible refine (id ?_ : @Eq Bool (nodupN _) true)); kernel_rfl) | ((with_reducible refine (id ?_ : @Eq Bool (apartN _ _) true)); kernel_rfl) | ((with_reducible refine (id ?_ : @Eq Bool (formL _ _) true)); kernel_rfl) | ((with_reducible refine (id ?_ : @Eq _ _ _)); exact rfl) | ((conv => whnf); first | done | with_reducible refine And.intro ?_ ?_ | (with_reducible intro h; first | (exact absurd h (by decide)) | (guard_hyp h : true = true; clear h) | (guard_hyp h : false = false; clear h) | skip) | with_reducible exact True.intro | ((with_reducible refine (id ?_ : @Eq _ _ _)); exact rfl) | (refine Exists.intro _ (Exists.intro _ (And.intro (hrel ?_ ?_ ?_) ?_))) | refine Exists.intro _ (Exists.intro _ (And.intro hrel ?_)) | exact Or.inl rfl | exact Or.inr (And.intro rfl rfl) | (apply Exists.intro; refine And.intro ?_ ?_)) | exact Nat.le_of_ble_eq_true rfl)
  all_goals (try ((repeat (with_reducible rename PickR _ _ => hq; have hq1 := hq.lo; have hq2 := hq.hi; have hq3 := hq.zero; clear hq)) <;> (try (change _ = _)) <;> (try dsimp only at *) <;> (try simp only [decide_eq_true_eq, decide_eq_false_iff_not, Bool.not_eq_true', Bool.not_eq_false', Bool.and_eq_true, Bool.and_eq_false_iff, beq_iff_eq, bne_iff_ne, beq_eq_false_iff_ne, bne_eq_false_iff_eq, ne_eq, Decidable.not_not, bne_self_eq_false, Bool.false_eq_true, Bool.true_eq_false, Bool.not_true, Bool.not_false, not_true_eq_false, not_false_eq_true, Int.toNat_natCast, Nat.zero_add, Nat.reduceAdd, Nat.reduceMul, Nat.reduceDiv, Nat.mul_one, lenK_one, big, fill_len, marking_len, marks_len, nrms_len, List.length_set, List.length_append, List.length_map, List.length_replicate, List.length_cons, List.length_nil, Int.natCast_add, Int.natCast_one, Int.natCast_zero, memI_i, memI_nil, or_false, false_or] at *) <;> (repeat (with_reducible rename _ ∧ _ => hh; obtain ⟨_, _⟩ := hh)) <;> (first | omega | (refine fits_i64 ?_; omega) | (split <;> omega) | assumption | exact h2 _ (by assumption))))

set_option maxRecDepth 100000 in
set_option maxHeartbeats 8000000 in
theorem p_fnValidActs : Proved 4 (cLaw [.c (.s KU8)]) := by
  refine proved_of [(18, cDrawActs), (16, cValid), (14, cValid)] ⟨p_drawValidActs, p_iValidActs, p_spValidActs, trivial⟩ [.tmp 2] Try.func4 rfl rfl rfl rfl (by kernel_rfl) ?_
  rintro ds K ⟨hds, hrel⟩
  obtain ⟨xs, rfl, h1, h2⟩ := law_code hds
  unfold maxLen at h1
  refine ⟨rfl, Nat.le_of_ble_eq_true rfl, fun _ _ => none, ?_⟩
  repeat' (first | with_reducible refine And.intro ?_ ?_ | (with_reducible intro h; first | (exact absurd h (by decide)) | (guard_hyp h : true = true; clear h) | (guard_hyp h : false = false; clear h) | skip) | with_reducible exact True.intro | ((with_reducible refine (id ?_ : @Eq Bool (nodupN _) true)); kernel_rfl) | ((with_reducible refine (id ?_ : @Eq Bool (apartN _ _) true)); kernel_rfl) | ((with_reducible refine (id ?_ : @Eq Bool (formL _ _) true)); kernel_rfl) | ((with_reducible refine (id ?_ : @Eq _ _ _)); exact rfl) | ((conv => whnf); first | done | with_reducible refine And.intro ?_ ?_ | (with_reducible intro h; first | (exact absurd h (by decide)) | (guard_hyp h : true = true; clear h) | (guard_hyp h : false = false; clear h) | skip) | with_reducible exact True.intro | ((with_reducible refine (id ?_ : @Eq _ _ _)); exact rfl) | refine Exists.intro _ (Exists.intro _ (And.intro hrel ?_)) | exact Or.inl rfl | exact Or.inr (And.intro rfl rfl) | (apply Exists.intro; refine And.intro ?_ ?_)) | exact Nat.le_of_ble_eq_true rfl)
  all_goals (try ((try (change _ = _)) <;> (try dsimp only at *) <;> (try simp only [decide_eq_true_eq, decide_eq_false_iff_not, Bool.not_eq_true', Bool.not_eq_false', Bool.and_eq_true, Bool.and_eq_false_iff, beq_iff_eq, bne_iff_ne, beq_eq_false_iff_ne, bne_eq_false_iff_eq, ne_eq, Decidable.not_not, bne_self_eq_false, Bool.false_eq_true, Bool.true_eq_false, Bool.not_true, Bool.not_false, not_true_eq_false, not_false_eq_true, Int.toNat_natCast, Nat.zero_add, Nat.reduceAdd, Nat.reduceMul, Nat.reduceDiv, Nat.mul_one, lenK_one, big, fill_len, marking_len, marks_len, nrms_len, List.length_set, List.length_append, List.length_map, List.length_replicate, List.length_cons, List.length_nil, Int.natCast_add, Int.natCast_one, Int.natCast_zero] at *) <;> (repeat (with_reducible rename _ ∧ _ => hh; obtain ⟨_, _⟩ := hh)) <;> (first | omega | (refine fits_i64 ?_; omega) | (split <;> omega) | exact h2 _ (by assumption) | exact Int.lt_of_le_of_lt (Int.ofNat_le.2 cut_len) (by omega) | exact va_cut (by assumption))))

set_option maxRecDepth 100000 in
set_option maxHeartbeats 8000000 in
theorem p_fnIsStrict : Proved 7 (cLaw [.c (.s KU8)]) := by
  refine proved_of [(23, cDrawActs), (22, cStr true), (21, cStr true), (16, cValid)] ⟨p_drawIsStrict, p_iStrict, p_sStrict, p_iValidActs, trivial⟩ [.tmp 2] Try.func7 rfl rfl rfl rfl (by kernel_rfl) ?_
  rintro ds K ⟨hds, hrel⟩
  obtain ⟨xs, rfl, h1, h2⟩ := law_code hds
  unfold maxLen at h1
  refine ⟨rfl, Nat.le_of_ble_eq_true rfl, fun k σ => match k with
    | 9 => match lookH σ.hp 0 with
      | some (.rows _ _ ys) => some { α := Lv 9 Int, R := fun ⟨i⟩ => (0 ≤ i ∧ i ≤ ys.length ∧ ys.length ≤ 16) ∧ nrms KAct ys = ys ∧ VA ys, μ := fun ⟨i⟩ => (ys.length - i).toNat, st := fun ⟨i⟩ => upH σ [(5, .own 1), (6, .int .i64 i)] 1 (.rows 33 KAct (noW (ys.take i.toNat))) }
      | _ => none
    | _ => none, ?_⟩
  repeat' (first | with_reducible refine And.intro ?_ ?_ | (with_reducible intro h; first | (exact absurd h (by decide)) | (guard_hyp h : true = true; clear h) | (guard_hyp h : false = false; clear h) | (have hq := (h : Lv 9 _); clear hq; obtain ⟨_⟩ := h) | skip) | with_reducible exact True.intro | ((with_reducible refine (id ?_ : @Eq Bool (nodupN _) true)); kernel_rfl) | ((with_reducible refine (id ?_ : @Eq Bool (apartN _ _) true)); kernel_rfl) | ((with_reducible refine (id ?_ : @Eq Bool (formL _ _) true)); kernel_rfl) | ((with_reducible refine (id ?_ : @Eq _ _ _)); exact rfl) | ((conv => whnf); first | done | with_reducible refine And.intro ?_ ?_ | (with_reducible intro h; first | (exact absurd h (by decide)) | (guard_hyp h : true = true; clear h) | (guard_hyp h : false = false; clear h) | (have hq := (h : Lv 9 _); clear hq; obtain ⟨_⟩ := h) | skip) | with_reducible exact True.intro | ((with_reducible refine (id ?_ : @Eq _ _ _)); exact rfl) | refine Exists.intro (⟨?_⟩ : Lv 9 _) ?_ | refine Exists.intro _ (Exists.intro _ (And.intro hrel ?_)) | exact Or.inl rfl | exact Or.inr (And.intro rfl rfl) | (apply Exists.intro; refine And.intro ?_ ?_)) | exact Nat.le_of_ble_eq_true rfl)
  all_goals (try ((try (change _ = _)) <;> (try dsimp only at *) <;> (try simp only [decide_eq_true_eq, decide_eq_false_iff_not, Bool.not_eq_true', Bool.not_eq_false', Bool.and_eq_true, Bool.and_eq_false_iff, beq_iff_eq, bne_iff_ne, beq_eq_false_iff_ne, bne_eq_false_iff_eq, ne_eq, Decidable.not_not, bne_self_eq_false, Bool.false_eq_true, Bool.true_eq_false, Bool.not_true, Bool.not_false, not_true_eq_false, not_false_eq_true, Int.toNat_natCast, Nat.zero_add, Nat.reduceAdd, Nat.reduceMul, Nat.reduceDiv, Nat.mul_one, lenK_one, big, fill_len, marking_len, marks_len, nrms_len, List.length_set, List.length_append, List.length_map, List.length_replicate, List.length_cons, List.length_nil, Int.natCast_add, Int.natCast_one, Int.natCast_zero] at *) <;> (repeat (with_reducible rename _ ∧ _ => hh; obtain ⟨_, _⟩ := hh)) <;> (first | omega | (refine fits_i64 ?_; omega) | (split <;> omega) | exact h2 _ (by assumption) | exact Int.lt_of_le_of_lt (Int.ofNat_le.2 cut_len) (by omega) | (have hl := noW_len (by assumption : List Row) (Int.toNat (by assumption : Int)); omega) | exact ((noW_step (by assumption) (by omega) (by omega)).1 (by assumption)).symm | exact ((noW_step (by assumption) (by omega) (by omega)).2 (by assumption)).symm | rfl | exact str_cut (by assumption) (by omega) | (rw [noW_all (by omega) (by omega) (by omega)]; exact str_noW (by assumption)) | (exfalso; refine absurd (str_cut ?_ ?_) (by assumption) <;> first | assumption | omega) | (exfalso; rw [noW_all (by omega) (by omega) (by omega)] at *; exact absurd (str_noW (by assumption)) (by assumption)))))
end Go.Proofs.Ytmdlffhkhhionaa.V
