/-
  The law that nothing before the start is missing, as a function.
-/
import Derived.Test.YtlkjddbhcbnmkaaCk
import Derived.Test.YtlkjddbhcbnmkaaDp
import Derived.Test.YtlkjddbhcbnmkaaRa
set_option linter.unusedSimpArgs false
set_option linter.unusedVariables false
namespace Go.Proofs.Ytlkjddbhcbnmkaa.V
open Go Go.RowKit
open Classical

theorem memI_iff : ∀ (xs : List Row) (n : Int), memI xs n ↔ ∃ i, i < xs.length ∧ (rc (row xs i) 0).int = n
  | [], n => by simp [memI]
  | r :: rs, n => by
    simp only [memI, memI_iff rs n]
    constructor
    · rintro (h | ⟨i, h1, h2⟩)
      · exact ⟨0, by simp, h⟩
      · exact ⟨i + 1, by simpa using h1, h2⟩
    · rintro ⟨i, h1, h2⟩
      cases i with
      | zero => exact .inl h2
      | succ i => exact .inr ⟨i, by simpa using h1, h2⟩
theorem lst_cons' (a : Int) (r : Row) (xs : List Row) : lst a (r :: xs) = lst (min a (rc r 0).int) xs := by simp [lst]
theorem lst_nil' (a : Int) : lst a [] = a := by simp [lst]
theorem lst_a : ∀ (xs : List Row) (a : Int), lst a xs ≤ a
  | [], a => by rw [lst_nil']; exact Int.le_refl _
  | r :: xs, a => by rw [lst_cons']; have := lst_a xs (min a (rc r 0).int); omega
theorem lst_le : ∀ (xs : List Row) (a : Int) (i : Nat), i < xs.length → lst a xs ≤ (rc (row xs i) 0).int
  | [], a, i, h => by simp at h
  | r :: xs, a, 0, _ => by rw [lst_cons']; have := lst_a xs (min a (rc r 0).int); show _ ≤ (rc r 0).int; omega
  | r :: xs, a, i + 1, h => by
    rw [lst_cons']
    have := lst_le xs (min a (rc r 0).int) i (by simpa using h)
    simpa [row] using this
theorem lst_mem : ∀ (xs : List Row) (a : Int), lst a xs = a ∨ memI xs (lst a xs)
  | [], a => .inl (lst_nil' a)
  | r :: xs, a => by
    rw [lst_cons']
    rcases lst_mem xs (min a (rc r 0).int) with h | h
    · by_cases hm : a ≤ (rc r 0).int
      · left; rw [h]; omega
      · right; left; rw [h]; omega
    · right; right; exact h
theorem rf_ok {ds fs : List Row} {a : Int} (h : ¬ redoF ds fs a < 0) : redoF ds fs a = lst a fs := by
  unfold redoF at h ⊢
  split
  · rfl
  · rename_i hn; rw [if_neg hn] at h; omega
theorem rl_bad {ds fs : List Row} {a i : Int} (h : (rc (row fs i.toNat) 0).int < redoF ds fs a) (h0 : ¬ redoF ds fs a < 0) (h1 : 0 ≤ i) (h2 : i < fs.length) : False := by
  rw [rf_ok h0] at h
  have := lst_le fs a i.toNat (by omega)
  omega
theorem rl_le {ds fs : List Row} {a : Int} (h : ¬ redoF ds fs a ≤ a) (h0 : ¬ redoF ds fs a < 0) : False := by
  rw [rf_ok h0] at h; exact h (lst_a fs a)
theorem rl_mem {ds fs : List Row} {a : Int} (h0 : ¬ redoF ds fs a < 0) (h : ¬ redoF ds fs a = a) : true = decide (memI fs (redoF ds fs a)) := by
  rw [rf_ok h0] at h ⊢
  exact true_eq ((lst_mem fs a).resolve_left h)
theorem rl_mem' {ds fs : List Row} {a : Int} (h0 : ¬ redoF ds fs a < 0) (h : ¬ redoF ds fs a = a) : memI fs (redoF ds fs a) := by
  rw [rf_ok h0] at h ⊢
  exact (lst_mem fs a).resolve_left h

theorem law_codeK {ds : List AV} (h : PkAVs [.c (.s KU8)] ds) : ∃ xs, ds = [.view KU8 xs] ∧ xs.length ≤ maxLen ∧ ∀ i, i < xs.length → RowOk KU8 (row xs i) := by
  obtain ⟨a, l, rfl, ⟨xs, rfl, h1, h2⟩, h3⟩ := h
  simp only [PkAVs] at h3
  subst h3
  exact ⟨xs, rfl, h1, h2⟩
theorem rd_upto {f : Int} {c es : List Row} (h : ∀ j : Nat, j < es.length → (rc (row es j) 0).bool = false → (j : Int) + 1 < f → ¬ (rc (row c (rc (row es j) 2).int.toNat) 1).int < (j : Int) + 1) : ∀ i : Nat, i ≤ es.length → (i : Int) < f → rd 1 c es i = c
  | 0, _, _ => rd_zero 1 c es
  | i + 1, hi, hf => by
    have ih := rd_upto h i (by omega) (by omega)
    rw [rd_succ, if_pos (by omega), ih]
    unfold rdS
    rw [if_neg (fun q => ?_)]
    by_cases e : (i : Int) + 1 < f
    · exact h i (by omega) q.1 e q.2
    · omega
theorem rd_same {f : Int} {c es : List Row} (hf : 1 ≤ f) (h : ∀ j : Nat, j < es.length → (rc (row es j) 0).bool = false → (j : Int) + 1 < f → ¬ (rc (row c (rc (row es j) 2).int.toNat) 1).int < (j : Int) + 1) : ∀ i : Nat, i ≤ es.length → rd f c es i = rd 1 c es i
  | 0, _ => by rw [rd_zero, rd_zero]
  | i + 1, hi => by
    by_cases e : ((i + 1 : Nat) : Int) < f
    · rw [rd_upto h (i + 1) hi e, rd_skip e]
    · rw [rd_succ, rd_succ, if_pos (by omega), if_pos (by omega), rd_same hf h i (by omega)]
theorem rf_all {c es a b d : List Row} (h : ChkZ c es a b d) (hu : Usable c es) (hl : ¬ (es.length : Int) = 20) : 1 ≤ redoF a b (es.length + 1) ∧ redoF a b (es.length + 1) ≤ 21 ∧ rcvR c es (redoF a b (es.length + 1)) = rcvS c es := by
  obtain ⟨hc, _⟩ := h.u hu
  have h20 := hu.n
  have hok : RFok a b (es.length + 1) := ⟨hc.l1.symm, by have := hc.l6; have := hu.v.c6; omega, by omega, by omega, hc.r⟩
  have e : redoF a b (es.length + 1) = lst (es.length + 1) b := by unfold redoF; rw [if_pos hok]
  have h1 : 1 ≤ lst (es.length + 1) b := by
    rcases lst_mem b (es.length + 1) with q | q
    · rw [q]; omega
    · obtain ⟨i, hi, hv⟩ := (memI_iff _ _).1 q
      have := (hc.r.h i (by omega)).1
      omega
  have h2 := lst_a b (es.length + 1)
  rw [e]
  refine ⟨h1, by omega, ?_⟩
  have hs := rd_same (c := c) (es := es) h1 (fun j hj hE hlt hq => by
    have ht := (hu.no.h j (by omega)).tm
    obtain ⟨i, hi, hv⟩ := hc.cv j hj hE ht hq
    have := lst_le b (es.length + 1) i hi
    omega) es.length (Nat.le_refl _)
  unfold rcvR rcvS
  rw [if_pos ⟨hu, h1, by omega⟩, if_pos hu]
  unfold rcvF
  rw [hs]
theorem rcv_us {c es : List Row} (h : ¬ ((rcvS c es).length : Int) = 0) : Usable c es := by
  apply Classical.byContradiction
  intro hn
  rw [rcvS_no hn] at h; exact h rfl
theorem rk_1 {c es a b d : List Row} (h : ChkZ c es a b d) (hx : ¬ ((rcvS c es).length : Int) = 0) (hl : ¬ (es.length : Int) = 20) (hb : ¬ 1 ≤ redoF a b (es.length + 1)) : False := hb (rf_all h (rcv_us hx) hl).1
theorem rk_2 {c es a b d : List Row} (h : ChkZ c es a b d) (hx : ¬ ((rcvS c es).length : Int) = 0) (hl : ¬ (es.length : Int) = 20) : true = decide (nrms KInt (rcvR c es (redoF a b (es.length + 1))) = nrms KInt (rcvS c es)) := true_eq (by rw [(rf_all h (rcv_us hx) hl).2.2])
theorem rk_2' {c es a b d : List Row} (h : ChkZ c es a b d) (hx : ¬ ((rcvS c es).length : Int) = 0) (hl : ¬ (es.length : Int) = 20) : nrms KInt (rcvR c es (redoF a b (es.length + 1))) = nrms KInt (rcvS c es) := by rw [(rf_all h (rcv_us hx) hl).2.2]
theorem rk_f {c es a b d : List Row} (h : ChkZ c es a b d) (hx : ¬ ((rcvS c es).length : Int) = 0) (hl : ¬ (es.length : Int) = 20) : Fits .i64 (redoF a b (es.length + 1)) := fits_i64 (by have := rf_all h (rcv_us hx) hl; omega)
theorem rk_big (c es : List Row) : ((rcvS c es).length : Int) < 9223372036854775808 := by have := rcvS_len c es; omega
theorem rk_big2 (c es : List Row) (f : Int) : ((rcvR c es f).length : Int) < 9223372036854775808 := by have := rcvR_len c es f; omega
theorem rk_len {c es a b d : List Row} (h : ChkZ c es a b d) (hx : ¬ ((rcvS c es).length : Int) = 0) : (a.length : Int) < 9223372036854775808 ∧ (b.length : Int) < 9223372036854775808 ∧ (d.length : Int) < 9223372036854775808 := by
  have hu := rcv_us hx
  obtain ⟨hc, hd⟩ := h.u hu
  have := ck_fit hc hu (Int.le_refl _)
  have := opn_len es 8
  rw [hd]
  omega
set_option maxRecDepth 100000 in
set_option maxHeartbeats 4000000 in
theorem p_drawRecoverStore : Proved 42 cDRC := by
  refine proved_of [(59, cNewReader), (66, cACells)] ⟨p_newReader, p_anyCells, trivial⟩ [.tmp 2, .tmp 3] Try.func42 rfl rfl rfl rfl (by kernel_rfl) ?_
  intro ds K hrel
  simp only [cDRC] at hrel
  split at hrel
  case h_2 => exact hrel.elim
  rename_i ks xs
  obtain ⟨rfl, h1, h2, hrel⟩ := hrel
  refine ⟨rfl, Nat.le_of_ble_eq_true rfl, fun _ _ => none, ?_⟩
  repeat' (first | with_reducible refine And.intro ?_ ?_ | (with_reducible intro h; first | (exact absurd h (by decide)) | (guard_hyp h : true = true; clear h) | (guard_hyp h : false = false; clear h) | skip) | with_reducible exact True.intro | ((with_reducible refine (id ?_ : @Eq Bool (nodupN _) true)); kernel_rfl) | ((with_reducible refine (id ?_ : @Eq Bool (apartN _ _) true)); kernel_rfl) | ((with_reducible refine (id ?_ : @Eq Bool (formL _ _) true)); kernel_rfl) | ((with_reducible refine (id ?_ : @Eq _ _ _)); exact rfl) | ((conv => whnf); first | done | with_reducible refine And.intro ?_ ?_ | (with_reducible intro h; first | (exact absurd h (by decide)) | (guard_hyp h : true = true; clear h) | (guard_hyp h : false = false; clear h) | skip) | with_reducible exact True.intro | ((with_reducible refine (id ?_ : @Eq _ _ _)); exact rfl) | (refine Exists.intro _ (Exists.intro _ (And.intro (hrel ?_ ?_ ?_ ?_ ?_ ?_) ?_))) | refine Exists.intro _ (Exists.intro _ (And.intro hrel ?_)) | exact Or.inl rfl | exact Or.inr (And.intro rfl rfl) | (apply Exists.intro; refine And.intro ?_ ?_)) | exact Nat.le_of_ble_eq_true rfl)
  all_goals (try ((repeat (with_reducible rename PickR _ _ => hq; have hq1 := hq.lo; have hq2 := hq.hi; have hq3 := hq.zero; clear hq)) <;> (try (change _ = _)) <;> (try dsimp only at *) <;> (try simp only [decide_eq_true_eq, decide_eq_false_iff_not, Bool.not_eq_true', Bool.not_eq_false', Bool.and_eq_true, Bool.and_eq_false_iff, beq_iff_eq, bne_iff_ne, beq_eq_false_iff_ne, bne_eq_false_iff_eq, ne_eq, Decidable.not_not, bne_self_eq_false, Bool.false_eq_true, Bool.true_eq_false, Bool.not_true, Bool.not_false, not_true_eq_false, not_false_eq_true, Int.toNat_natCast, Nat.zero_add, Nat.reduceAdd, Nat.reduceMul, Nat.reduceDiv, Nat.mul_one, lenK_one, big, fill_len, marking_len, marks_len, nrms_len, List.length_set, List.length_append, List.length_map, List.length_replicate, List.length_cons, List.length_nil, Int.natCast_add, Int.natCast_one, Int.natCast_zero, memI_i, memI_nil, or_false, false_or] at *) <;> (repeat (with_reducible rename _ ∧ _ => hh; obtain ⟨_, _⟩ := hh)) <;> (first | omega | (refine fits_i64 ?_; omega) | (split <;> omega) | (with_reducible assumption) | exact h2 _ (by with_reducible assumption) | rfl)))
set_option maxRecDepth 100000 in
set_option maxHeartbeats 16000000 in
theorem p_fnRedoFrom : Proved 11 (cLaw [.c (.s KU8)]) := by
  refine proved_of [(42, cDRC), (41, cRcvS), (40, cRcvS), (43, cEq KInt), (44, cICk), (16, cRF), (37, cRcvR)] ⟨p_drawRecoverStore, p_iRcvS, p_sRcvS, p_equalIntS, p_iCheckOf, p_iRF, p_iRcvR, trivial⟩ [.tmp 2] Try.func11 rfl rfl rfl rfl (by kernel_rfl) ?_
  rintro ds K ⟨hds, hrel⟩
  obtain ⟨xs, rfl, h1, h2⟩ := law_codeK hds
  unfold maxLen at h1
  refine ⟨rfl, Nat.le_of_ble_eq_true rfl, fun _ _ => none, ?_⟩
  repeat' (first | with_reducible refine And.intro ?_ ?_ | (with_reducible intro h; first | (exact absurd h (by decide)) | (guard_hyp h : true = true; clear h) | (guard_hyp h : false = false; clear h) | skip) | with_reducible exact True.intro | ((with_reducible refine (id ?_ : @Eq Bool (nodupN _) true)); kernel_rfl) | ((with_reducible refine (id ?_ : @Eq Bool (apartN _ _) true)); kernel_rfl) | ((with_reducible refine (id ?_ : @Eq Bool (formL _ _) true)); kernel_rfl) | ((with_reducible refine (id ?_ : @Eq _ _ _)); exact rfl) | ((conv => whnf); first | done | with_reducible refine And.intro ?_ ?_ | (with_reducible intro h; first | (exact absurd h (by decide)) | (guard_hyp h : true = true; clear h) | (guard_hyp h : false = false; clear h) | skip) | with_reducible exact True.intro | ((with_reducible refine (id ?_ : @Eq _ _ _)); exact rfl) | refine Exists.intro _ (Exists.intro _ (And.intro hrel ?_)) | exact Or.inl rfl | exact Or.inr (And.intro rfl rfl) | (apply Exists.intro; refine And.intro ?_ ?_)) | exact Nat.le_of_ble_eq_true rfl)
  all_goals (try ((try (change _ = _)) <;> (try dsimp only at *) <;> (try simp only [decide_eq_true_eq, decide_eq_false_iff_not, Bool.not_eq_true', Bool.not_eq_false', Bool.and_eq_true, Bool.and_eq_false_iff, beq_iff_eq, bne_iff_ne, beq_eq_false_iff_ne, bne_eq_false_iff_eq, ne_eq, Decidable.not_not, bne_self_eq_false, Bool.false_eq_true, Bool.true_eq_false, Bool.not_true, Bool.not_false, not_true_eq_false, not_false_eq_true, Int.toNat_natCast, Nat.zero_add, Nat.reduceAdd, Nat.reduceMul, Nat.reduceDiv, Nat.mul_one, lenK_one, big, fill_len, marking_len, marks_len, nrms_len, List.length_set, List.length_append, List.length_map, List.length_replicate, List.length_cons, List.length_nil, Int.natCast_add, Int.natCast_one, Int.natCast_zero, decide_true] at *) <;> (repeat (with_reducible rename _ ∧ _ => hh; obtain ⟨_, _⟩ := hh)) <;> (first | omega | (refine fits_i64 ?_; omega) | (split <;> omega) | exact h2 _ (by with_reducible assumption) | (with_reducible assumption) | (with_reducible exact rk_big _ _) | (with_reducible exact rk_big2 _ _ _) | (with_reducible exact (rk_len (by with_reducible assumption) (by with_reducible assumption)).1) | (with_reducible exact (rk_len (by with_reducible assumption) (by with_reducible assumption)).2.1) | (with_reducible exact (rk_len (by with_reducible assumption) (by with_reducible assumption)).2.2) | (with_reducible exact rk_f (by with_reducible assumption) (by with_reducible assumption) (by with_reducible assumption)) | (exfalso; exact rk_1 (by with_reducible assumption) (by with_reducible assumption) (by with_reducible assumption) (by with_reducible assumption)) | (with_reducible exact rk_2 (by with_reducible assumption) (by with_reducible assumption) (by with_reducible assumption)) | (with_reducible exact (rk_2 (by with_reducible assumption) (by with_reducible assumption) (by with_reducible assumption)).symm) | (with_reducible exact rk_2' (by with_reducible assumption) (by with_reducible assumption) (by with_reducible assumption)))))
end Go.Proofs.Ytlkjddbhcbnmkaa.V
