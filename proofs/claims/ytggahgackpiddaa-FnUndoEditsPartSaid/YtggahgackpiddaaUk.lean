/-
  The laws on edits that are undone: drawn edits, what was before.
-/
import Derived.Test.YtggahgackpiddaaUj
set_option linter.unusedSimpArgs false
set_option linter.unusedVariables false
namespace Go.Proofs.Ytggahgackpiddaa.V
open Go Go.RowKit
open Classical

def cDrawUE : Ct := ⟨[], fun ds K => match ds with
  | [.view ks xs] => ks = KU8 ∧ (xs.length : Int) < big ∧ (∀ i, i < xs.length → RowOk KU8 (row xs i)) ∧ ∀ (s es : List Row) (who f : Int), (s.length ≤ 6) → (nrms KInt s = s) → es.length ≤ 21 → (nrms KEdit es = es) → K (.tup [.view KInt s, .fr 29 KEdit es, .int .i64 who, .int .i64 f]) []
  | _ => False⟩
set_option maxRecDepth 100000 in
set_option maxHeartbeats 8000000 in
theorem p_drawUndoEdits : Proved 28 cDrawUE := by
  refine proved_of [(32, cNewReader), (33, cAnyE 200), (34, cPick), (44, cOne)] ⟨p_newReader, p_anyEdits, p_pick, p_one, trivial⟩ [.tmp 2, .tmp 3, .tmp 4, .tmp 5] Try.func28 rfl rfl rfl rfl (by kernel_rfl) ?_
  intro ds K hrel
  simp only [cDrawUE] at hrel
  split at hrel
  case h_2 => exact hrel.elim
  rename_i ks xs
  obtain ⟨rfl, h1, h2, hrel⟩ := hrel
  refine ⟨rfl, Nat.le_of_ble_eq_true rfl, fun k σ => match k with
    | 5 => some { α := Lv 5 (Int × List Row), R := fun ⟨(i, es)⟩ => (0 ≤ i ∧ i ≤ es.length ∧ es.length ≤ 21) ∧ nrms KEdit es = es, μ := fun ⟨(i, es)⟩ => (es.length - i).toNat,
                  st := fun ⟨(i, es)⟩ => upH σ [(9, .int .i64 i)] 1 (.rows 29 KEdit es) }
    | _ => none, ?_⟩
  repeat' (first | refine And.intro ?_ ?_ | (intro h; first | (exact absurd h (by decide)) | (guard_hyp h : true = true; clear h) | (guard_hyp h : false = false; clear h) | (have hq := (h : Lv 5 _); clear hq; obtain ⟨_, _⟩ := h) | skip) | (refine Exists.intro _ (Exists.intro _ (And.intro (hrel ?_ ?_ ?_ ?_ ?_ ?_ ?_ ?_) ?_))) | refine Exists.intro (⟨(?_, ?_)⟩ : Lv 5 _) ?_ | refine Exists.intro _ (Exists.intro _ (And.intro hrel ?_)) | exact rfl | exact True.intro | exact Or.inl rfl | exact Or.inr (And.intro rfl rfl) | exact Nat.le_of_ble_eq_true rfl | (apply Exists.intro; refine And.intro ?_ ?_))
  all_goals (try ((repeat (with_reducible rename PickR _ _ => hq; have hq1 := hq.lo; have hq2 := hq.hi; have hq3 := hq.zero; clear hq)) <;> (try (change _ = _)) <;> (try dsimp only at *) <;> (try simp only [decide_eq_true_eq, decide_eq_false_iff_not, Bool.not_eq_true', Bool.not_eq_false', Bool.and_eq_true, Bool.and_eq_false_iff, beq_iff_eq, bne_iff_ne, beq_eq_false_iff_ne, bne_eq_false_iff_eq, ne_eq, Decidable.not_not, bne_self_eq_false, Bool.false_eq_true, Bool.true_eq_false, Bool.not_true, Bool.not_false, not_true_eq_false, not_false_eq_true, Int.toNat_natCast, Nat.zero_add, Nat.reduceAdd, Nat.reduceMul, Nat.reduceDiv, Nat.mul_one, lenK_one, big, fill_len, marking_len, marks_len, nrms_len, List.length_set, List.length_append, List.length_map, List.length_replicate, List.length_cons, List.length_nil, Int.natCast_add, Int.natCast_one, Int.natCast_zero, memI_i, memI_nil, or_false, false_or] at *) <;> (repeat (with_reducible rename _ ∧ _ => hh; obtain ⟨_, _⟩ := hh)) <;> (first | omega | (refine fits_i64 ?_; omega) | (split <;> omega) | exact h2 _ (by assumption) | (with_reducible assumption) | exact nrms_setc (by with_reducible assumption) (by decide) | rfl)))

theorem rng_of {s : List Row} (h : VS s) : Rng s := ⟨fun j hj => h.a.h j (by omega)⟩
theorem rng_run : ∀ {es s : List Row}, VEs s es → Rng s → Rng (runE s es)
  | [], s, _, h => by rw [runE_nil]; exact h
  | e :: es, s, hv, h => by rw [runE_cons]; exact rng_run hv.2 (rng_set h hv.1)
theorem undo_all_law {s es : List Row} {who f : Int} (h : CanUndo s es who f) :
    Sam (runE s (es ++ undone s es who f)) (runE (runE s (es.take f.toNat)) (oth who (es.drop f.toNat))) ∧ CanRun s (es ++ undone s es who f) := by
  have hv := h.r.vs
  have hs : es = es.take f.toNat ++ es.drop f.toNat := (List.take_append_drop _ _).symm
  rw [hs, VEs_app] at hv
  obtain ⟨u1, u2⟩ := undo_law hv.2 (rng_run hv.1 (rng_of h.r.st)) h.al
  have e : runE s es = runE (runE s (es.take f.toNat)) (es.drop f.toNat) := by rw [← runE_app, ← hs]
  rw [← und_yes h]
  rw [← e] at u1 u2
  refine ⟨?_, ⟨h.r.st, ?_, (VEs_app _ _ _).2 ⟨h.r.vs, u2⟩⟩⟩
  · rw [runE_app]; exact u1
  · rw [List.length_append]; have := h.ln; omega
theorem undo_one {s es : List Row} {who f : Int} (h : CanUndo s es who f) : CanRun s (es ++ undone s es who f) := (undo_all_law h).2
theorem ran_is {s es : List Row} (h : CanRun s es) : ranE s es = runE s es := by unfold ranE; rw [if_pos h]
theorem ranE_len (s es : List Row) : (ranE s es).length ≤ s.length := by unfold ranE; split; · rw [runE_len]; omega
                                                                         · simp
theorem undo_zero_law {s es : List Row} {who : Int} (h : CanUndo s es who 0) (hn : nrms KEdit es = es) (h2 : CanRun s (others es who)) : nrms KInt (ranE s (es ++ undone s es who 0)) = nrms KInt (ranE s (others es who)) := by
  rw [ran_is (undo_one h), ran_is h2]
  have h1 := (undo_all_law h).1
  have e1 : es.take (0 : Int).toNat = [] := by simp
  have e2 : es.drop (0 : Int).toNat = es := by simp
  rw [e1, e2, runE_nil] at h1
  have e3 : others es who = oth who es := by
    unfold others oth
    rw [if_neg (by have := h.r.ln; omega)]
    refine nrms_mem (fun r hr => ?_)
    have hm := (List.mem_filter.1 hr).1
    obtain ⟨j, hj, rfl⟩ := List.getElem_of_mem hm
    rw [getElem_row hj]
    exact (row_of_nrms hn hj).symm
  rw [e3]
  exact h1.nrms
/-- Up to the edit i somebody else has edited the thing t behind the point f. -/
def OthP (who : Int) (es : List Row) (f t i : Int) : Prop := ∃ j : Nat, f ≤ j ∧ (j : Int) < i ∧ (rc (row es j) 1).int = t ∧ ¬ (rc (row es j) 0).int = who
theorem othP_zero (who : Int) (es : List Row) (f t : Int) : ¬ OthP who es f t f := fun ⟨j, h1, h2, _⟩ => by omega
theorem othP_mono {who : Int} {es : List Row} {f t i : Int} (h : OthP who es f t i) : OthP who es f t (i + 1) := by
  obtain ⟨j, h1, h2, h3, h4⟩ := h
  exact ⟨j, h1, by omega, h3, h4⟩
theorem othP_back {who : Int} {es : List Row} {f t i : Int} (h : OthP who es f t (i + 1)) (h0 : ¬ ((rc (row es i.toNat) 1).int = t ∧ ¬ (rc (row es i.toNat) 0).int = who)) : OthP who es f t i := by
  obtain ⟨j, h1, h2, h3, h4⟩ := h
  by_cases e : (j : Int) = i
  · subst e; exact absurd ⟨h3, h4⟩ h0
  · exact ⟨j, h1, by omega, h3, h4⟩
theorem othP_no {who : Int} {es : List Row} {f t i : Int} (h : ¬ OthP who es f t i) (h0 : ¬ (rc (row es i.toNat) 1).int = t) : false = decide (OthP who es f t (i + 1)) := false_eq (fun q => h (othP_back q (fun w => h0 w.1)))
theorem othP_pick {who : Int} {es : List Row} {f t i : Int} (h : ¬ OthP who es f t i) (hf : 0 ≤ f ∧ f ≤ i) (h0 : (rc (row es i.toNat) 1).int = t) : ((rc (row es i.toNat) 0).int != who) = decide (OthP who es f t (i + 1)) := by
  by_cases hw : (rc (row es i.toNat) 0).int = who
  · rw [← false_eq (p := OthP who es f t (i + 1)) (fun q => h (othP_back q (fun w => w.2 hw)))]; simpa using hw
  · rw [← true_eq (p := OthP who es f t (i + 1)) ⟨i.toNat, by omega, by omega, h0, hw⟩]; simpa using hw
theorem part_law {s es : List Row} {who f t i : Int} (h : CanUndo s es who f) (h2 : CanRun s ((es.take f.toNat).drop (Int.toNat 0))) (ht : 0 ≤ t) (hi : ¬ i < es.length) (ho : ¬ OthP who es f t i) :
    (rc (row (ranE s (es ++ undone s es who f)) t.toNat) 0).int = (rc (row (ranE s ((es.take f.toNat).drop (Int.toNat 0))) t.toNat) 0).int := by
  rw [ran_is (undo_one h), ran_is h2]
  have h1 := (undo_all_law h).1.v t.toNat
  have hno : NoT t (oth who (es.drop f.toNat)) := by
    intro x hx he
    obtain ⟨hx1, hx2⟩ := List.mem_filter.1 hx
    obtain ⟨j, hj, rfl⟩ := List.getElem_of_mem hx1
    rw [getElem_row hj, row_drop] at he hx2
    rw [List.length_drop] at hj
    have hr := run_thing h.r (f.toNat + j) (by omega)
    have h0 := h.f0
    refine ho ⟨f.toNat + j, by omega, by omega, by omega, fun hw => ?_⟩
    rw [notBy_no hw] at hx2; cases hx2
  have h3 := (run_not (b := runE s (es.take f.toNat)) (v := 0) hno).2
  rw [h3] at h1
  rw [show (es.take f.toNat).drop (Int.toNat 0) = es.take f.toNat by simp]
  exact h1
theorem point_ok {s es : List Row} {who f : Int} (h : CanUndo s es who f) : CanRun s ((es.take f.toNat).drop (Int.toNat 0)) := by
  have hv := h.r.vs
  rw [← List.take_append_drop f.toNat es, VEs_app] at hv
  refine ⟨h.r.st, ?_, by simpa using hv.1⟩
  have := h.r.ln
  simp only [List.length_drop, List.length_take]
  omega
theorem ran_len {s es : List Row} (h : CanRun s es) : (ranE s es).length = s.length := by rw [ran_is h, runE_len]
end Go.Proofs.Ytggahgackpiddaa.V
