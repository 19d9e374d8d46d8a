/-
  Journals have beginnings: the plain law and the law as a function.
-/
import Derived.Test.YtlkjddbhcbnmkaaDp
import Derived.Test.YtlkjddbhcbnmkaaVo
set_option linter.unusedSimpArgs false
set_option linter.unusedVariables false
namespace Go.Proofs.Ytlkjddbhcbnmkaa.V
open Go Go.RowKit
open Classical

theorem ne_tk {es : List Row} {who : Int} {n : Nat} {i : Int} (hi : i ≤ n) : NoEnd (es.take n) who i ↔ NoEnd es who i := by
  constructor
  · intro h; exact ⟨fun j hj => by have := h.h j hj; rwa [row_take (by omega)] at this⟩
  · intro h; exact ⟨fun j hj => by rw [row_take (by omega)]; exact h.h j hj⟩
theorem now_tk {s es : List Row} {n : Nat} : ∀ i : Nat, i ≤ n → now s (es.take n) i = now s es i
  | 0, _ => by rw [← now_zero0, ← now_zero0]
  | i + 1, h => by rw [now_succ, now_succ, row_take (by omega), now_tk i (by omega)]
theorem fp_tk {es : List Row} {t who : Int} {n : Nat} {i : Int} (hi : i ≤ n) (h : FreeP es t who i i) : FreeP (es.take n) t who i i := ⟨fun k hk => by
  rw [row_take (by omega), ne_tk hi]; exact h.h k hk⟩
theorem nv_tk {s es : List Row} {n j : Nat} (hj : j < n) (h : NoteV s es j) : NoteV s (es.take n) j := by
  have e : row (es.take n) ((j : Int).toNat) = row es ((j : Int).toNat) := row_take (by omega)
  refine ⟨by rw [e]; exact h.o0, by rw [e]; exact h.o7, by rw [e]; exact (ne_tk (by omega)).2 h.ne, fun q => ?_, fun q => ?_⟩
  · rw [e] at q ⊢; exact h.en q
  · rw [e] at q ⊢
    rw [now_tk _ (by omega)]
    exact ⟨(h.ed q).1, fp_tk (by omega) (h.ed q).2⟩
/-- A possible journal's beginnings are possible. -/
theorem vn_take {s es : List Row} (h : VN s es) (n : Nat) : VN s (es.take n) := by
  have hl : (es.take n).length = min n es.length := List.length_take
  refine ⟨h.st, by have := h.ln; omega, ⟨fun j hj => nv_tk (by omega) (h.a.h j (by omega))⟩⟩
theorem vn_nil {s es : List Row} (h : VN s es) : VN s [] := by simpa using vn_take h 0
theorem vt_nil {s es : List Row} (h : VN s es) : true = decide (VN s []) := true_eq (vn_nil h)
theorem vt_take {s es : List Row} (h : VN s es) (n : Nat) : true = decide (VN s (es.take n)) := true_eq (vn_take h n)
theorem vb_nil {s es : List Row} (h : VN s es) (h2 : ¬ VN s []) : False := h2 (vn_nil h)
def cDVN : Ct := ⟨[], fun ds K => match ds with
  | [.view ks xs] => ks = KU8 ∧ (xs.length : Int) < big ∧ (∀ i, i < xs.length → RowOk KU8 (row xs i)) ∧ ∀ (s es : List Row), s.length ≤ 7 → es.length ≤ 21 → (nrms KNote es = es) → K (.tup [.view KInt s, .fr 69 KNote es]) []
  | _ => False⟩
theorem cut_bg {es : List Row} {n : Nat} (h : es.length ≤ 21) : ((es.take n).length : Int) < 9223372036854775808 := by rw [List.length_take]; omega
set_option maxRecDepth 100000 in
set_option maxHeartbeats 4000000 in
theorem p_drawValidNotes : Proved 25 cDVN := by
  refine proved_of [(59, cNewReader), (58, cANotes)] ⟨p_newReader, p_anyNotes, trivial⟩ [.tmp 2, .tmp 3] Try.func25 rfl rfl rfl rfl (by kernel_rfl) ?_
  intro ds K hrel
  simp only [cDVN] at hrel
  split at hrel
  case h_2 => exact hrel.elim
  rename_i ks xs
  obtain ⟨rfl, h1, h2, hrel⟩ := hrel
  refine ⟨rfl, Nat.le_of_ble_eq_true rfl, fun _ _ => none, ?_⟩
  repeat' (first | with_reducible refine And.intro ?_ ?_ | (with_reducible intro h; first | (exact absurd h (by decide)) | (guard_hyp h : true = true; clear h) | (guard_hyp h : false = false; clear h) | skip) | with_reducible exact True.intro | ((with_reducible refine (id ?_ : @Eq Bool (nodupN _) true)); kernel_rfl) | ((with_reducible refine (id ?_ : @Eq Bool (apartN _ _) true)); kernel_rfl) | ((with_reducible refine (id ?_ : @Eq Bool (formL _ _) true)); kernel_rfl) | ((with_reducible refine (id ?_ : @Eq _ _ _)); exact rfl) | ((conv => whnf); first | done | with_reducible refine And.intro ?_ ?_ | (with_reducible intro h; first | (exact absurd h (by decide)) | (guard_hyp h : true = true; clear h) | (guard_hyp h : false = false; clear h) | skip) | with_reducible exact True.intro | ((with_reducible refine (id ?_ : @Eq _ _ _)); exact rfl) | (refine Exists.intro _ (Exists.intro _ (And.intro (hrel ?_ ?_ ?_ ?_ ?_) ?_))) | refine Exists.intro _ (Exists.intro _ (And.intro hrel ?_)) | exact Or.inl rfl | exact Or.inr (And.intro rfl rfl) | (apply Exists.intro; refine And.intro ?_ ?_)) | exact Nat.le_of_ble_eq_true rfl)
  all_goals (try ((repeat (with_reducible rename PickR _ _ => hq; have hq1 := hq.lo; have hq2 := hq.hi; have hq3 := hq.zero; clear hq)) <;> (try (change _ = _)) <;> (try dsimp only at *) <;> (try simp only [decide_eq_true_eq, decide_eq_false_iff_not, Bool.not_eq_true', Bool.not_eq_false', Bool.and_eq_true, Bool.and_eq_false_iff, beq_iff_eq, bne_iff_ne, beq_eq_false_iff_ne, bne_eq_false_iff_eq, ne_eq, Decidable.not_not, bne_self_eq_false, Bool.false_eq_true, Bool.true_eq_false, Bool.not_true, Bool.not_false, not_true_eq_false, not_false_eq_true, Int.toNat_natCast, Nat.zero_add, Nat.reduceAdd, Nat.reduceMul, Nat.reduceDiv, Nat.mul_one, lenK_one, big, fill_len, marking_len, marks_len, nrms_len, List.length_set, List.length_append, List.length_map, List.length_replicate, List.length_cons, List.length_nil, Int.natCast_add, Int.natCast_one, Int.natCast_zero, memI_i, memI_nil, or_false, false_or] at *) <;> (repeat (with_reducible rename _ ∧ _ => hh; obtain ⟨_, _⟩ := hh)) <;> (first | omega | (refine fits_i64 ?_; omega) | (split <;> omega) | (with_reducible assumption) | exact h2 _ (by with_reducible assumption) | rfl)))
set_option maxRecDepth 100000 in
set_option maxHeartbeats 16000000 in
theorem p_fnValidNotes : Proved 5 (cLaw [.c (.s KU8)]) := by
  refine proved_of [(25, cDVN), (22, cVN), (19, cVN)] ⟨p_drawValidNotes, p_iVN, p_sVN, trivial⟩ [.tmp 2] Try.func5 rfl rfl rfl rfl (by kernel_rfl) ?_
  rintro ds K ⟨hds, hrel⟩
  obtain ⟨xs, rfl, h1, h2⟩ := law_code hds
  unfold maxLen at h1
  refine ⟨rfl, Nat.le_of_ble_eq_true rfl, fun _ _ => none, ?_⟩
  repeat' (first | with_reducible refine And.intro ?_ ?_ | (with_reducible intro h; first | (exact absurd h (by decide)) | (guard_hyp h : true = true; clear h) | (guard_hyp h : false = false; clear h) | skip) | with_reducible exact True.intro | ((with_reducible refine (id ?_ : @Eq Bool (nodupN _) true)); kernel_rfl) | ((with_reducible refine (id ?_ : @Eq Bool (apartN _ _) true)); kernel_rfl) | ((with_reducible refine (id ?_ : @Eq Bool (formL _ _) true)); kernel_rfl) | ((with_reducible refine (id ?_ : @Eq _ _ _)); exact rfl) | ((conv => whnf); first | done | with_reducible refine And.intro ?_ ?_ | (with_reducible intro h; first | (exact absurd h (by decide)) | (guard_hyp h : true = true; clear h) | (guard_hyp h : false = false; clear h) | skip) | with_reducible exact True.intro | ((with_reducible refine (id ?_ : @Eq _ _ _)); exact rfl) | refine Exists.intro _ (Exists.intro _ (And.intro hrel ?_)) | exact Or.inl rfl | exact Or.inr (And.intro rfl rfl) | (apply Exists.intro; refine And.intro ?_ ?_)) | exact Nat.le_of_ble_eq_true rfl)
  all_goals (try ((try (change _ = _)) <;> (try dsimp only at *) <;> (try simp only [decide_eq_true_eq, decide_eq_false_iff_not, Bool.not_eq_true', Bool.not_eq_false', Bool.and_eq_true, Bool.and_eq_false_iff, beq_iff_eq, bne_iff_ne, beq_eq_false_iff_ne, bne_eq_false_iff_eq, ne_eq, Decidable.not_not, bne_self_eq_false, Bool.false_eq_true, Bool.true_eq_false, Bool.not_true, Bool.not_false, not_true_eq_false, not_false_eq_true, Int.toNat_natCast, Nat.zero_add, Nat.reduceAdd, Nat.reduceMul, Nat.reduceDiv, Nat.mul_one, lenK_one, big, fill_len, marking_len, marks_len, nrms_len, List.length_set, List.length_append, List.length_map, List.length_replicate, List.length_cons, List.length_nil, Int.natCast_add, Int.natCast_one, Int.natCast_zero, decide_true, List.drop_zero, Int.toNat_zero] at *) <;> (repeat (with_reducible rename _ ∧ _ => hh; obtain ⟨_, _⟩ := hh)) <;> (first | omega | (refine fits_i64 ?_; omega) | (split <;> omega) | exact h2 _ (by with_reducible assumption) | (with_reducible assumption) | (with_reducible exact cut_bg (by omega)) | (with_reducible exact vt_nil (by with_reducible assumption)) | (with_reducible exact (vt_nil (by with_reducible assumption)).symm) | (with_reducible exact vt_take (by with_reducible assumption) _) | (with_reducible exact (vt_take (by with_reducible assumption) _).symm) | (with_reducible exact vn_take (by with_reducible assumption) _) | (exfalso; exact vb_nil (by with_reducible assumption) (by with_reducible assumption)))))
end Go.Proofs.Ytlkjddbhcbnmkaa.V
