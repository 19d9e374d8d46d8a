/-
  Requests for locks: valid ones, whose is where, those without an owner's.
-/
import Derived.Test.YtbppiknmlipmpaaDoorLsL
import Derived.Test.YtbppiknmlipmpaaDoorWk
set_option linter.unusedSimpArgs false
set_option linter.unusedVariables false
namespace Go.Proofs.YtbppiknmlipmpaaDoor.V
open Go Go.RowKit
open Classical

def ReqOk (r : Row) : Prop := (0 ≤ (rc r 0).int ∧ (rc r 0).int ≤ 7) ∧ (1 ≤ (rc r 1).int ∧ (rc r 1).int ≤ 5)
theorem req_yes {r : Row} (h : (0 ≤ (rc r 0).int ∧ (rc r 0).int ≤ 7) ∧ (1 ≤ (rc r 1).int ∧ (rc r 1).int ≤ 5)) : ReqOk r := h
theorem req_no {r : Row} (h : ¬ ((0 ≤ (rc r 0).int ∧ (rc r 0).int ≤ 7) ∧ (1 ≤ (rc r 1).int ∧ (rc r 1).int ≤ 5))) : ¬ ReqOk r := h
/-- No request of the first n is of owner p. -/
structure NoO (rs : List Row) (p n : Int) : Prop where
  h : ∀ j : Nat, (j : Int) < n → j < rs.length → ¬ (rc (row rs j) 0).int = p
theorem noO_zero (rs : List Row) (p : Int) : NoO rs p 0 := ⟨fun j h _ => by omega⟩
theorem noO_step {rs : List Row} {p k : Int} (h : NoO rs p k) (h1 : ¬ (rc (row rs k.toNat) 0).int = p) (h0 : 0 ≤ k) : NoO rs p (k + 1) := ⟨fun j h2 h3 => by
  by_cases e : (j : Int) = k
  · rw [show j = k.toNat by omega]; exact h1
  · exact h.h j (by omega) h3⟩
/-- The first n requests are valid, of owners that differ. -/
structure ReqN (rs : List Row) (n : Int) : Prop where
  o : ∀ j : Nat, (j : Int) < n → j < rs.length → ReqOk (row rs j)
  u : ∀ j : Nat, (j : Int) < n → j < rs.length → NoO rs (rc (row rs j) 0).int j
theorem reqN_zero (rs : List Row) : ReqN rs 0 := ⟨fun j h _ => by omega, fun j h _ => by omega⟩
theorem reqN_step {rs : List Row} {i k : Int} (h : ReqN rs i) (hn : NoO rs (rc (row rs i.toNat) 0).int k) (ho : ReqOk (row rs i.toNat)) (hk : ¬ k < i) (h0 : 0 ≤ i) : ReqN rs (i + 1) := ⟨fun j h2 h3 => by
  by_cases e : (j : Int) = i
  · rw [show j = i.toNat by omega]; exact ho
  · exact h.o j (by omega) h3, fun j h2 h3 => by
  by_cases e : (j : Int) = i
  · rw [show j = i.toNat by omega]; exact ⟨fun b h4 h5 => hn.h b (by omega) h5⟩
  · exact h.u j (by omega) h3⟩
structure ReqV (rs : List Row) : Prop where
  n : ReqN rs rs.length
  l : rs.length ≤ 8
theorem rq_bad {rs : List Row} {i : Int} (h0 : 0 ≤ i) (hi : i < rs.length) (h : ¬ ReqOk (row rs i.toNat)) : ¬ ReqV rs := fun q => h (q.n.o i.toNat (by omega) (by omega))
theorem rq_badB {rs : List Row} {i : Int} (h0 : 0 ≤ i) (hi : i < rs.length) (h : ¬ ReqOk (row rs i.toNat)) : false = decide (ReqV rs) := false_eq (rq_bad h0 hi h)
theorem rq_dup {rs : List Row} {i k : Int} (h : (rc (row rs k.toNat) 0).int = (rc (row rs i.toNat) 0).int) (h0 : 0 ≤ k) (h1 : k < i) (hi : i < rs.length) : ¬ ReqV rs := fun q => (q.n.u i.toNat (by omega) (by omega)).h k.toNat (by omega) (by omega) h
theorem rq_dupB {rs : List Row} {i k : Int} (h : (rc (row rs k.toNat) 0).int = (rc (row rs i.toNat) 0).int) (h0 : 0 ≤ k) (h1 : k < i) (hi : i < rs.length) : false = decide (ReqV rs) := false_eq (rq_dup h h0 h1 hi)
theorem rq_pick {rs : List Row} {i : Int} (h : ReqN rs i) (hi : ¬ i < rs.length) : decide ((rs.length : Int) ≤ 8) = decide (ReqV rs) := by
  rw [decide_eq_decide]
  exact ⟨fun q => ⟨⟨fun j h2 h3 => h.o j (by omega) h3, fun j h2 h3 => h.u j (by omega) h3⟩, by omega⟩, fun q => by have := q.l; omega⟩
theorem rq_all {rs : List Row} {i : Int} (h : ReqN rs i) (hi : ¬ i < rs.length) (hl : rs.length ≤ 8) : true = decide (ReqV rs) := true_eq ⟨⟨fun j h2 h3 => h.o j (by omega) h3, fun j h2 h3 => h.u j (by omega) h3⟩, hl⟩
theorem rq_long {rs : List Row} (h : ¬ (rs.length : Int) ≤ 8) : false = decide (ReqV rs) := false_eq (fun q => by have := q.l; omega)
noncomputable def cRV : Ct := ⟨[], fun ds K => match ds with
  | [.view ks rs] => ks = KRequest ∧ (rs.length : Int) < big ∧ K (.bool (decide (ReqV rs))) []
  | _ => False⟩
set_option maxRecDepth 100000 in
set_option maxHeartbeats 8000000 in
theorem p_validQueue : Proved 30 cRV := by
  refine proved_of [(41, cInRange)] ⟨p_inRange, trivial⟩ [.tmp 2] Tryd.func30 rfl rfl rfl rfl (by kernel_rfl) ?_
  intro ds K hrel
  simp only [cRV] at hrel
  split at hrel
  case h_2 => exact hrel.elim
  rename_i ks rs
  obtain ⟨rfl, h1, hrel⟩ := hrel
  refine ⟨rfl, Nat.le_of_ble_eq_true rfl, fun k σ => match k with
    | 2 => some { α := Lv 2 Int, R := fun ⟨i⟩ => (0 ≤ i ∧ i ≤ rs.length) ∧ ReqN rs i, μ := fun ⟨i⟩ => (rs.length - i).toNat, st := fun ⟨i⟩ => up σ [(3, .int .i64 i)] }
    | 7 => match lookT σ.tm 3 with
      | .int _ i => some { α := Lv 7 Int, R := fun ⟨k⟩ => (0 ≤ k ∧ k ≤ i ∧ i < rs.length) ∧ NoO rs (rc (row rs i.toNat) 0).int k ∧ ReqOk (row rs i.toNat), μ := fun ⟨k⟩ => (i - k).toNat, st := fun ⟨k⟩ => up σ [(4, .int .i64 k)] }
      | _ => none
    | _ => none, ?_⟩
  repeat' (first | with_reducible refine And.intro ?_ ?_ | (with_reducible intro h; first | (exact absurd h (by decide)) | (guard_hyp h : true = true; clear h) | (guard_hyp h : false = false; clear h) | (have hq := (h : Lv 2 _); clear hq; obtain ⟨_⟩ := h) | (have hq := (h : Lv 7 _); clear hq; obtain ⟨_⟩ := h) | skip) | with_reducible exact True.intro | ((with_reducible refine (id ?_ : @Eq Bool (nodupN _) true)); kernel_rfl) | ((with_reducible refine (id ?_ : @Eq Bool (apartN _ _) true)); kernel_rfl) | ((with_reducible refine (id ?_ : @Eq Bool (formL _ _) true)); kernel_rfl) | ((with_reducible refine (id ?_ : @Eq _ _ _)); exact rfl) | ((conv => whnf); first | done | with_reducible refine And.intro ?_ ?_ | (with_reducible intro h; first | (exact absurd h (by decide)) | (guard_hyp h : true = true; clear h) | (guard_hyp h : false = false; clear h) | (have hq := (h : Lv 2 _); clear hq; obtain ⟨_⟩ := h) | (have hq := (h : Lv 7 _); clear hq; obtain ⟨_⟩ := h) | skip) | with_reducible exact True.intro | ((with_reducible refine (id ?_ : @Eq _ _ _)); exact rfl) | refine Exists.intro (⟨?_⟩ : Lv 2 _) ?_ | refine Exists.intro (⟨?_⟩ : Lv 7 _) ?_ | refine Exists.intro _ (Exists.intro _ (And.intro hrel ?_)) | exact Or.inl rfl | exact Or.inr (And.intro rfl rfl) | (apply Exists.intro; refine And.intro ?_ ?_)) | exact Nat.le_of_ble_eq_true rfl)
  all_goals (try ((try (change _ = _)) <;> (try dsimp only at *) <;> (try simp only [decide_eq_true_eq, decide_eq_false_iff_not, Bool.not_eq_true', Bool.not_eq_false', Bool.and_eq_true, Bool.and_eq_false_iff, beq_iff_eq, bne_iff_ne, beq_eq_false_iff_ne, bne_eq_false_iff_eq, ne_eq, Decidable.not_not, bne_self_eq_false, Bool.false_eq_true, Bool.true_eq_false, Bool.not_true, Bool.not_false, not_true_eq_false, not_false_eq_true, Int.toNat_natCast, Nat.zero_add, Nat.reduceAdd, Nat.reduceMul, Nat.reduceDiv, Nat.mul_one, lenK_one, big, fill_len, marking_len, marks_len, nrms_len, List.length_set, List.length_append, List.length_map, List.length_replicate, List.length_cons, List.length_nil, Int.natCast_add, Int.natCast_one, Int.natCast_zero] at *) <;> (repeat (with_reducible rename _ ∧ _ => hh; obtain ⟨_, _⟩ := hh)) <;> (first | omega | (refine fits_i64 ?_; omega) | (split <;> omega) | (with_reducible assumption) | exact reqN_zero _ | exact noO_zero _ _ | exact req_yes (by omega) | exact noO_step (by with_reducible assumption) (by with_reducible assumption) (by omega) | (exact noO_step (by with_reducible assumption) (by omega) (by omega)) | exact reqN_step (by with_reducible assumption) (by with_reducible assumption) (by with_reducible assumption) (by omega) (by omega) | exact rq_badB (by omega) (by omega) (req_no (by omega)) | exact rq_dupB (by with_reducible assumption) (by omega) (by omega) (by omega) | exact rq_pick (by with_reducible assumption) (by omega))))
/-- Where the request of owner p stands, or -1. -/
structure Fnd (rs : List Row) (p q : Int) : Prop where
  r : -1 ≤ q ∧ q < rs.length
  y : 0 ≤ q → (rc (row rs q.toNat) 0).int = p ∧ NoO rs p q
  n : q < 0 → NoO rs p rs.length
theorem fnd_yes {rs : List Row} {p i : Int} (h : NoO rs p i) (h1 : (rc (row rs i.toNat) 0).int = p) (h0 : 0 ≤ i) (hi : i < rs.length) : Fnd rs p i := ⟨by omega, fun _ => ⟨h1, h⟩, fun q => by omega⟩
theorem fnd_no {rs : List Row} {p i : Int} (h : NoO rs p i) (hi : ¬ i < rs.length) : Fnd rs p (-1) := ⟨by omega, fun q => by omega, fun _ => ⟨fun j h2 h3 => h.h j (by omega) h3⟩⟩
theorem rc_one (v : Int) : (rc (row [[Sc.i v]] 0) 0).int = v := rfl
def cFr1 : Ct := ⟨[], fun ds K => match ds with
  | [.agg [.int .i64 o, .int .i64 m], .vcel [.int .i64] [[.i p]] 0 0] => K (.bool (o == p)) []
  | _ => False⟩
set_option maxRecDepth 100000 in
set_option maxHeartbeats 4000000 in
theorem p_fr1 : Proved 40 cFr1 := by
  refine proved_of [] trivial [.tmp 3] Tryd.func40 rfl rfl rfl rfl (by kernel_rfl) ?_
  intro ds K hrel
  simp only [cFr1] at hrel
  split at hrel
  case h_2 => exact hrel.elim
  refine ⟨rfl, Nat.le_of_ble_eq_true rfl, fun _ _ => none, ?_⟩
  repeat' (first | with_reducible refine And.intro ?_ ?_ | (with_reducible intro h; first | (exact absurd h (by decide)) | (guard_hyp h : true = true; clear h) | (guard_hyp h : false = false; clear h) | skip) | with_reducible exact True.intro | ((with_reducible refine (id ?_ : @Eq Bool (nodupN _) true)); kernel_rfl) | ((with_reducible refine (id ?_ : @Eq Bool (apartN _ _) true)); kernel_rfl) | ((with_reducible refine (id ?_ : @Eq Bool (formL _ _) true)); kernel_rfl) | ((with_reducible refine (id ?_ : @Eq _ _ _)); exact rfl) | ((conv => whnf); first | done | with_reducible refine And.intro ?_ ?_ | (with_reducible intro h; first | (exact absurd h (by decide)) | (guard_hyp h : true = true; clear h) | (guard_hyp h : false = false; clear h) | skip) | with_reducible exact True.intro | ((with_reducible refine (id ?_ : @Eq _ _ _)); exact rfl) | refine Exists.intro _ (Exists.intro _ (And.intro hrel ?_)) | exact Or.inl rfl | exact Or.inr (And.intro rfl rfl) | (apply Exists.intro; refine And.intro ?_ ?_)) | exact Nat.le_of_ble_eq_true rfl)
  all_goals (try ((try (change _ = _)) <;> (try dsimp only at *) <;> (try simp only [decide_eq_true_eq, decide_eq_false_iff_not, Bool.not_eq_true', Bool.not_eq_false', Bool.and_eq_true, Bool.and_eq_false_iff, beq_iff_eq, bne_iff_ne, beq_eq_false_iff_ne, bne_eq_false_iff_eq, ne_eq, Decidable.not_not, bne_self_eq_false, Bool.false_eq_true, Bool.true_eq_false, Bool.not_true, Bool.not_false, not_true_eq_false, not_false_eq_true, Int.toNat_natCast, Nat.zero_add, Nat.reduceAdd, Nat.reduceMul, Nat.reduceDiv, Nat.mul_one, lenK_one, big, fill_len, marking_len, marks_len, nrms_len, List.length_set, List.length_append, List.length_map, List.length_replicate, List.length_cons, List.length_nil, Int.natCast_add, Int.natCast_one, Int.natCast_zero, rc_one] at *) <;> (repeat (with_reducible rename _ ∧ _ => hh; obtain ⟨_, _⟩ := hh)) <;> (first | omega | (refine fits_i64 ?_; omega) | (split <;> omega) | (simp_all [rc_one]; done) | simp_all)))
def cRIdx : Ct := ⟨[], fun ds K => match ds with
  | [.view ks rs, .fn f [.vcel [.int .i64] [[.i p]] 0 0]] => f = 40 ∧ ks = KRequest ∧ (rs.length : Int) < big ∧ ∀ q : Int, Fnd rs p q → K (.int .i64 q) []
  | _ => False⟩
set_option maxRecDepth 100000 in
set_option maxHeartbeats 4000000 in
theorem p_rIdx : Proved 39 cRIdx := by
  refine proved_of [(40, cFr1)] ⟨p_fr1, trivial⟩ [.tmp 4] Tryd.func39 rfl rfl rfl rfl (by kernel_rfl) ?_
  intro ds K hrel
  simp only [cRIdx] at hrel
  split at hrel
  case h_2 => exact hrel.elim
  rename_i ks rs f p
  obtain ⟨rfl, rfl, h1, hrel⟩ := hrel
  refine ⟨rfl, Nat.le_of_ble_eq_true rfl, fun k σ => match k with
    | 2 => some { α := Lv 2 Int, R := fun ⟨i⟩ => (0 ≤ i ∧ i ≤ rs.length) ∧ NoO rs p i, μ := fun ⟨i⟩ => (rs.length - i).toNat, st := fun ⟨i⟩ => up σ [(8, .int .i64 i)] }
    | _ => none, ?_⟩
  repeat' (first | with_reducible refine And.intro ?_ ?_ | (with_reducible intro h; first | (exact absurd h (by decide)) | (guard_hyp h : true = true; clear h) | (guard_hyp h : false = false; clear h) | (have hq := (h : Lv 2 _); clear hq; obtain ⟨_⟩ := h) | skip) | with_reducible exact True.intro | ((with_reducible refine (id ?_ : @Eq Bool (nodupN _) true)); kernel_rfl) | ((with_reducible refine (id ?_ : @Eq Bool (apartN _ _) true)); kernel_rfl) | ((with_reducible refine (id ?_ : @Eq Bool (formL _ _) true)); kernel_rfl) | ((with_reducible refine (id ?_ : @Eq _ _ _)); exact rfl) | ((conv => whnf); first | done | with_reducible refine And.intro ?_ ?_ | (with_reducible intro h; first | (exact absurd h (by decide)) | (guard_hyp h : true = true; clear h) | (guard_hyp h : false = false; clear h) | (have hq := (h : Lv 2 _); clear hq; obtain ⟨_⟩ := h) | skip) | with_reducible exact True.intro | ((with_reducible refine (id ?_ : @Eq _ _ _)); exact rfl) | (refine Exists.intro _ (Exists.intro _ (And.intro (hrel ?_ ?_) ?_))) | refine Exists.intro (⟨?_⟩ : Lv 2 _) ?_ | refine Exists.intro _ (Exists.intro _ (And.intro hrel ?_)) | exact Or.inl rfl | exact Or.inr (And.intro rfl rfl) | (apply Exists.intro; refine And.intro ?_ ?_)) | exact Nat.le_of_ble_eq_true rfl)
  all_goals (try ((try (change _ = _)) <;> (try dsimp only at *) <;> (try simp only [decide_eq_true_eq, decide_eq_false_iff_not, Bool.not_eq_true', Bool.not_eq_false', Bool.and_eq_true, Bool.and_eq_false_iff, beq_iff_eq, bne_iff_ne, beq_eq_false_iff_ne, bne_eq_false_iff_eq, ne_eq, Decidable.not_not, bne_self_eq_false, Bool.false_eq_true, Bool.true_eq_false, Bool.not_true, Bool.not_false, not_true_eq_false, not_false_eq_true, Int.toNat_natCast, Nat.zero_add, Nat.reduceAdd, Nat.reduceMul, Nat.reduceDiv, Nat.mul_one, lenK_one, big, fill_len, marking_len, marks_len, nrms_len, List.length_set, List.length_append, List.length_map, List.length_replicate, List.length_cons, List.length_nil, Int.natCast_add, Int.natCast_one, Int.natCast_zero] at *) <;> (repeat (with_reducible rename _ ∧ _ => hh; obtain ⟨_, _⟩ := hh)) <;> (first | omega | (refine fits_i64 ?_; omega) | (split <;> omega) | exact noO_zero _ _ | (refine noO_step (by with_reducible assumption) (fun q => ?_) (by omega); simp_all; done) | (with_reducible exact fnd_yes (by with_reducible assumption) (by with_reducible assumption) (by omega) (by omega)) | (refine fnd_yes (by with_reducible assumption) ?_ (by omega) (by omega); simp_all; done) | (with_reducible exact fnd_no (by with_reducible assumption) (by omega)))))
def cFndR : Ct := ⟨[], fun ds K => match ds with
  | [.view ks rs, .int .i64 p] => ks = KRequest ∧ (rs.length : Int) < big ∧ ∀ q : Int, Fnd rs p q → K (.int .i64 q) []
  | _ => False⟩
set_option maxRecDepth 100000 in
set_option maxHeartbeats 4000000 in
theorem p_findRequest : Proved 27 cFndR := by
  refine proved_of [(39, cRIdx)] ⟨p_rIdx, trivial⟩ [.tmp 4] Tryd.func27 rfl rfl rfl rfl (by kernel_rfl) ?_
  intro ds K hrel
  simp only [cFndR] at hrel
  split at hrel
  case h_2 => exact hrel.elim
  rename_i ks rs p
  obtain ⟨rfl, h1, hrel⟩ := hrel
  refine ⟨rfl, Nat.le_of_ble_eq_true rfl, fun _ _ => none, ?_⟩
  repeat' (first | with_reducible refine And.intro ?_ ?_ | (with_reducible intro h; first | (exact absurd h (by decide)) | (guard_hyp h : true = true; clear h) | (guard_hyp h : false = false; clear h) | skip) | with_reducible exact True.intro | ((with_reducible refine (id ?_ : @Eq Bool (nodupN _) true)); kernel_rfl) | ((with_reducible refine (id ?_ : @Eq Bool (apartN _ _) true)); kernel_rfl) | ((with_reducible refine (id ?_ : @Eq Bool (formL _ _) true)); kernel_rfl) | ((with_reducible refine (id ?_ : @Eq _ _ _)); exact rfl) | ((conv => whnf); first | done | with_reducible refine And.intro ?_ ?_ | (with_reducible intro h; first | (exact absurd h (by decide)) | (guard_hyp h : true = true; clear h) | (guard_hyp h : false = false; clear h) | skip) | with_reducible exact True.intro | ((with_reducible refine (id ?_ : @Eq _ _ _)); exact rfl) | (refine Exists.intro _ (Exists.intro _ (And.intro (hrel ?_ ?_) ?_))) | refine Exists.intro _ (Exists.intro _ (And.intro hrel ?_)) | exact Or.inl rfl | exact Or.inr (And.intro rfl rfl) | (apply Exists.intro; refine And.intro ?_ ?_)) | exact Nat.le_of_ble_eq_true rfl)
  all_goals (try ((try (change _ = _)) <;> (try dsimp only at *) <;> (try simp only [decide_eq_true_eq, decide_eq_false_iff_not, Bool.not_eq_true', Bool.not_eq_false', Bool.and_eq_true, Bool.and_eq_false_iff, beq_iff_eq, bne_iff_ne, beq_eq_false_iff_ne, bne_eq_false_iff_eq, ne_eq, Decidable.not_not, bne_self_eq_false, Bool.false_eq_true, Bool.true_eq_false, Bool.not_true, Bool.not_false, not_true_eq_false, not_false_eq_true, Int.toNat_natCast, Nat.zero_add, Nat.reduceAdd, Nat.reduceMul, Nat.reduceDiv, Nat.mul_one, lenK_one, big, fill_len, marking_len, marks_len, nrms_len, List.length_set, List.length_append, List.length_map, List.length_replicate, List.length_cons, List.length_nil, Int.natCast_add, Int.natCast_one, Int.natCast_zero] at *) <;> (repeat (with_reducible rename _ ∧ _ => hh; obtain ⟨_, _⟩ := hh)) <;> (first | omega | (refine fits_i64 ?_; omega) | (split <;> omega) | (with_reducible assumption))))
theorem fnd_dup {rs : List Row} {i q : Int} (hf : Fnd rs (rc (row rs i.toNat) 0).int q) (hq : ¬ q = i) (h0 : 0 ≤ i) (hi : i < rs.length) : false = decide (ReqV rs) := by
  by_cases hn : q < 0
  · exact absurd rfl ((hf.n hn).h i.toNat (by omega) (by omega))
  · obtain ⟨h1, h2⟩ := hf.y (by omega)
    have hr := hf.r
    by_cases hlt : q < i
    · exact rq_dupB h1 (by omega) hlt hi
    · exact absurd rfl (h2.h i.toNat (by omega) (by omega))
theorem fnd_step {rs : List Row} {i q : Int} (h : ReqN rs i) (hf : Fnd rs (rc (row rs i.toNat) 0).int q) (ho : ReqOk (row rs i.toNat)) (hq : q = i) (h0 : 0 ≤ i) : ReqN rs (i + 1) := by
  subst hq
  exact reqN_step h (hf.y h0).2 ho (by omega) h0
set_option maxRecDepth 100000 in
set_option maxHeartbeats 8000000 in
theorem p_validRequests : Proved 26 cRV := by
  refine proved_of [(27, cFndR)] ⟨p_findRequest, trivial⟩ [.tmp 2] Tryd.func26 rfl rfl rfl rfl (by kernel_rfl) ?_
  intro ds K hrel
  simp only [cRV] at hrel
  split at hrel
  case h_2 => exact hrel.elim
  rename_i ks rs
  obtain ⟨rfl, h1, hrel⟩ := hrel
  refine ⟨rfl, Nat.le_of_ble_eq_true rfl, fun k σ => match k with
    | 4 => some { α := Lv 4 Int, R := fun ⟨i⟩ => (0 ≤ i ∧ i ≤ rs.length ∧ rs.length ≤ 8) ∧ ReqN rs i, μ := fun ⟨i⟩ => (rs.length - i).toNat, st := fun ⟨i⟩ => up σ [(10, .int .i64 i)] }
    | _ => none, ?_⟩
  repeat' (first | with_reducible refine And.intro ?_ ?_ | (with_reducible intro h; first | (exact absurd h (by decide)) | (guard_hyp h : true = true; clear h) | (guard_hyp h : false = false; clear h) | (have hq := (h : Lv 4 _); clear hq; obtain ⟨_⟩ := h) | skip) | with_reducible exact True.intro | ((with_reducible refine (id ?_ : @Eq Bool (nodupN _) true)); kernel_rfl) | ((with_reducible refine (id ?_ : @Eq Bool (apartN _ _) true)); kernel_rfl) | ((with_reducible refine (id ?_ : @Eq Bool (formL _ _) true)); kernel_rfl) | ((with_reducible refine (id ?_ : @Eq _ _ _)); exact rfl) | ((conv => whnf); first | done | with_reducible refine And.intro ?_ ?_ | (with_reducible intro h; first | (exact absurd h (by decide)) | (guard_hyp h : true = true; clear h) | (guard_hyp h : false = false; clear h) | (have hq := (h : Lv 4 _); clear hq; obtain ⟨_⟩ := h) | skip) | with_reducible exact True.intro | ((with_reducible refine (id ?_ : @Eq _ _ _)); exact rfl) | refine Exists.intro (⟨?_⟩ : Lv 4 _) ?_ | refine Exists.intro _ (Exists.intro _ (And.intro hrel ?_)) | exact Or.inl rfl | exact Or.inr (And.intro rfl rfl) | (apply Exists.intro; refine And.intro ?_ ?_)) | exact Nat.le_of_ble_eq_true rfl)
  all_goals (try ((try (change _ = _)) <;> (try dsimp only at *) <;> (try simp only [decide_eq_true_eq, decide_eq_false_iff_not, Bool.not_eq_true', Bool.not_eq_false', Bool.and_eq_true, Bool.and_eq_false_iff, beq_iff_eq, bne_iff_ne, beq_eq_false_iff_ne, bne_eq_false_iff_eq, ne_eq, Decidable.not_not, bne_self_eq_false, Bool.false_eq_true, Bool.true_eq_false, Bool.not_true, Bool.not_false, not_true_eq_false, not_false_eq_true, Int.toNat_natCast, Nat.zero_add, Nat.reduceAdd, Nat.reduceMul, Nat.reduceDiv, Nat.mul_one, lenK_one, big, fill_len, marking_len, marks_len, nrms_len, List.length_set, List.length_append, List.length_map, List.length_replicate, List.length_cons, List.length_nil, Int.natCast_add, Int.natCast_one, Int.natCast_zero] at *) <;> (repeat (with_reducible rename _ ∧ _ => hh; obtain ⟨_, _⟩ := hh)) <;> (first | omega | (refine fits_i64 ?_; omega) | (split <;> omega) | (with_reducible assumption) | exact reqN_zero _ | exact fnd_step (by with_reducible assumption) (by with_reducible assumption) (req_yes (by omega)) (by omega) (by omega) | exact fnd_dup (by with_reducible assumption) (by omega) (by omega) (by omega) | exact rq_badB (by omega) (by omega) (req_no (by omega)) | exact rq_long (by omega) | exact rq_all (by with_reducible assumption) (by omega) (by omega))))
/-! Without an owner's. -/
def dP (p : Int) (r : Row) : Bool := !((rc r 0).int == p)
theorem dP_yes {p : Int} {r : Row} (h : ¬ (rc r 0).int = p) : dP p r = true := by simp [dP, h]
theorem dP_no {p : Int} {r : Row} (h : (rc r 0).int = p) : dP p r = false := by simp [dP, h]
@[irreducible] def drI (rs : List Row) (p : Int) (i : Nat) : List Row := nrms KRequest ((rs.take i).filter (dP p))
theorem drI_zero (rs : List Row) (p : Int) : [] = drI rs p (Int.toNat 0) := by simp [drI, nrms]
theorem drI_yes {rs : List Row} {p i : Int} (h1 : ¬ (rc (row rs i.toNat) 0).int = p) (h0 : 0 ≤ i) (hi : i < rs.length) : drI rs p i.toNat ++ [[Sc.i (rc (row rs i.toNat) 0).int, Sc.i (rc (row rs i.toNat) 1).int]] = drI rs p (i + 1).toNat := by
  unfold drI; exact (filt_yes h0 hi (dP_yes h1)).symm
theorem drI_no {rs : List Row} {p i : Int} (h1 : (rc (row rs i.toNat) 0).int = p) (h0 : 0 ≤ i) (hi : i < rs.length) : drI rs p i.toNat = drI rs p (i + 1).toNat := by unfold drI; exact (filt_no h0 hi (dP_no h1)).symm
theorem drI_bnd (rs : List Row) (p : Int) (i : Nat) (h : rs.length ≤ 1048576) : ((drI rs p i).length + 1) * 16 ≤ 140737488355328 := by unfold drI; have := filt_len KRequest (dP p) rs i; omega
theorem drI_len (rs : List Row) (p : Int) (i : Nat) (h : rs.length ≤ 1048576) : ((drI rs p i).length : Int) < 9223372036854775808 := by unfold drI; have := filt_len KRequest (dP p) rs i; omega
theorem drI_all {rs : List Row} {p i : Int} (h : ¬ i < rs.length) : drI rs p i.toNat = nrms KRequest (rs.filter (dP p)) := by unfold drI; exact filt_all h
noncomputable def dropR (rs : List Row) (p : Int) : List Row := if ReqV rs ∧ ¬ NoO rs p rs.length then nrms KRequest (rs.filter (dP p)) else []
noncomputable def dropB (rs : List Row) (p : Int) : Bool := decide (ReqV rs ∧ ¬ NoO rs p rs.length)
theorem drop_noR {rs : List Row} {p : Int} (h : ¬ ReqV rs) : dropR rs p = [] := by rw [dropR, if_neg (fun q => h q.1)]
theorem drop_noB {rs : List Row} {p : Int} (h : ¬ ReqV rs) : false = dropB rs p := false_eq (fun q => h q.1)
theorem drop_nilR {rs : List Row} {p q : Int} (hf : Fnd rs p q) (hq : q < 0) : dropR rs p = [] := by rw [dropR, if_neg (fun r => r.2 (hf.n hq))]
theorem drop_nilB {rs : List Row} {p q : Int} (hf : Fnd rs p q) (hq : q < 0) : false = dropB rs p := false_eq (fun r => r.2 (hf.n hq))
theorem noO_filter {rs : List Row} {p : Int} : NoO rs p rs.length ↔ rs.filter (dP p) = rs := by
  rw [List.filter_eq_self]
  constructor
  · intro h r hr
    obtain ⟨j, hj, rfl⟩ := List.getElem_of_mem hr
    have := h.h j (by omega) hj
    rw [show row rs j = rs[j] by simp [row, hj]] at this
    exact dP_yes this
  · intro h
    refine ⟨fun j _ hj e => ?_⟩
    have := h rs[j] (List.getElem_mem hj)
    rw [show row rs j = rs[j] by simp [row, hj]] at e
    rw [dP_no e] at this; cases this
theorem noO_len {rs : List Row} {p : Int} : NoO rs p rs.length ↔ (rs.filter (dP p)).length = rs.length := by
  rw [noO_filter]
  exact ⟨fun h => by rw [h], fun h => List.filter_sublist.eq_of_length h⟩
theorem drop_allR {rs : List Row} {p i : Int} (h : ((drI rs p i.toNat).length : Int) = rs.length) (hi : ¬ i < rs.length) : dropR rs p = [] := by
  rw [drI_all hi, nrms_len] at h
  rw [dropR, if_neg (fun q => q.2 (noO_len.2 (by omega)))]
theorem drop_allB {rs : List Row} {p i : Int} (h : ((drI rs p i.toNat).length : Int) = rs.length) (hi : ¬ i < rs.length) : false = dropB rs p := by
  rw [drI_all hi, nrms_len] at h
  exact false_eq (fun q => q.2 (noO_len.2 (by omega)))
theorem drop_isR {rs : List Row} {p i : Int} (hv : ReqV rs) (h : ¬ ((drI rs p i.toNat).length : Int) = rs.length) (hi : ¬ i < rs.length) : drI rs p i.toNat = dropR rs p := by
  rw [drI_all hi, nrms_len] at h
  rw [drI_all hi, dropR, if_pos ⟨hv, fun q => h (by rw [noO_len.1 q])⟩]
theorem drop_isB {rs : List Row} {p i : Int} (hv : ReqV rs) (h : ¬ ((drI rs p i.toNat).length : Int) = rs.length) (hi : ¬ i < rs.length) : true = dropB rs p := by
  rw [drI_all hi, nrms_len] at h
  exact true_eq ⟨hv, fun q => h (by rw [noO_len.1 q])⟩
theorem filt_one {rs : List Row} {p : Int} {q : Nat} (hq : q < rs.length) (h1 : (rc (row rs q) 0).int = p) (h2 : ∀ j, j < rs.length → j ≠ q → ¬ (rc (row rs j) 0).int = p) : rs.filter (dP p) = rs.take q ++ rs.drop (q + 1) := by
  have e : rs = rs.take q ++ rs[q] :: rs.drop (q + 1) := by simp
  have hr : ∀ j (hj : j < rs.length), row rs j = rs[j] := fun j hj => by simp [row, hj]
  conv => lhs; rw [e]
  rw [List.filter_append, List.filter_cons, dP_no (by rw [← hr q hq]; exact h1)]
  simp only [Bool.false_eq_true, if_false]
  congr 1
  · rw [List.filter_eq_self]
    intro r hm
    obtain ⟨j, hj, rfl⟩ := List.getElem_of_mem hm
    have hj' : j < q ∧ j < rs.length := by simp at hj; omega
    rw [List.getElem_take]
    refine dP_yes ?_
    rw [← hr j hj'.2]; exact h2 j hj'.2 (by omega)
  · rw [List.filter_eq_self]
    intro r hm
    obtain ⟨j, hj, rfl⟩ := List.getElem_of_mem hm
    have hj' : q + 1 + j < rs.length := by simp at hj; omega
    rw [List.getElem_drop]
    refine dP_yes ?_
    rw [← hr _ hj']; exact h2 _ hj' (by omega)
theorem nrms_filter {ks : List Kd} {rs : List Row} (h : nrms ks rs = rs) (f : Row → Bool) : nrms ks (rs.filter f) = rs.filter f := by
  have h1 : ∀ r ∈ rs, nrm ks r = r := by
    have := (List.map_inj_left (l := rs) (f := nrm ks) (g := id)).1 (by simpa [nrms] using h)
    simpa using this
  unfold nrms
  conv => rhs; rw [← List.map_id (rs.filter f)]
  exact List.map_inj_left.2 (fun r hr => h1 r (List.mem_filter.1 hr).1)
theorem drop_delR {rs : List Row} {p q : Int} (hv : ReqV rs) (hf : Fnd rs p q) (hn : nrms KRequest rs = rs) (hq : ¬ q < 0) : rs.take q.toNat ++ rs.drop (q + 1).toNat = dropR rs p := by
  obtain ⟨h1, h2⟩ := hf.y (by omega)
  have hr := hf.r
  rw [dropR, if_pos ⟨hv, fun r => r.h q.toNat (by omega) (by omega) h1⟩, nrms_filter hn, show (q + 1).toNat = q.toNat + 1 by omega]
  refine (filt_one (by omega) h1 (fun j hj hne => ?_)).symm
  rcases Nat.lt_or_gt_of_ne hne with hlt | hgt
  · exact h2.h j (by omega) hj
  · intro e
    exact (hv.n.u j (by omega) hj).h q.toNat (by omega) (by omega) (by rw [h1, e])
theorem drop_delB {rs : List Row} {p q : Int} (hv : ReqV rs) (hf : Fnd rs p q) (hq : ¬ q < 0) : true = dropB rs p := by
  obtain ⟨h1, h2⟩ := hf.y (by omega)
  have hr := hf.r
  exact true_eq ⟨hv, fun r => r.h q.toNat (by omega) (by omega) h1⟩
theorem fnd_fits {rs : List Row} {p q : Int} (hf : Fnd rs p q) (hl : rs.length ≤ 1048576) : Fits .i64 (q + 1) := by
  have := hf.r
  exact fits_i64 ⟨by omega, by omega⟩
theorem fnd_r {rs : List Row} {p q : Int} (hf : Fnd rs p q) : -1 ≤ q ∧ q < rs.length := hf.r
noncomputable def cDrop : Ct := ⟨[], fun ds K => match ds with
  | [.view ks rs, .int .i64 p] => ks = KRequest ∧ rs.length ≤ 1048576 ∧ nrms KRequest rs = rs ∧ K (.tup [.fr 31 KRequest (dropR rs p), .bool (dropB rs p)]) []
  | _ => False⟩
set_option maxRecDepth 100000 in
set_option maxHeartbeats 8000000 in
theorem p_sDrop : Proved 8 cDrop := by
  refine proved_of [(30, cRV)] ⟨p_validQueue, trivial⟩ [.tmp 4, .tmp 5] Tryd.func8 rfl rfl rfl rfl (by kernel_rfl) ?_
  intro ds K hrel
  simp only [cDrop] at hrel
  split at hrel
  case h_2 => exact hrel.elim
  rename_i ks rs p
  obtain ⟨rfl, h1, hn, hrel⟩ := hrel
  refine ⟨rfl, Nat.le_of_ble_eq_true rfl, fun k σ => match k with
    | 5 => some { α := Lv 5 Int, R := fun ⟨i⟩ => (0 ≤ i ∧ i ≤ rs.length) ∧ ReqV rs, μ := fun ⟨i⟩ => (rs.length - i).toNat, st := fun ⟨i⟩ => upH σ [(7, .int .i64 i), (6, .own 0)] 0 (.rows 31 KRequest (drI rs p i.toNat)) }
    | _ => none, ?_⟩
  repeat' (first | with_reducible refine And.intro ?_ ?_ | (with_reducible intro h; first | (exact absurd h (by decide)) | (guard_hyp h : true = true; clear h) | (guard_hyp h : false = false; clear h) | (have hq := (h : Lv 5 _); clear hq; obtain ⟨_⟩ := h) | skip) | with_reducible exact True.intro | ((with_reducible refine (id ?_ : @Eq Bool (nodupN _) true)); kernel_rfl) | ((with_reducible refine (id ?_ : @Eq Bool (apartN _ _) true)); kernel_rfl) | ((with_reducible refine (id ?_ : @Eq Bool (formL _ _) true)); kernel_rfl) | ((with_reducible refine (id ?_ : @Eq _ _ _)); exact rfl) | ((conv => whnf); first | done | with_reducible refine And.intro ?_ ?_ | (with_reducible intro h; first | (exact absurd h (by decide)) | (guard_hyp h : true = true; clear h) | (guard_hyp h : false = false; clear h) | (have hq := (h : Lv 5 _); clear hq; obtain ⟨_⟩ := h) | skip) | with_reducible exact True.intro | ((with_reducible refine (id ?_ : @Eq _ _ _)); exact rfl) | refine Exists.intro (⟨?_⟩ : Lv 5 _) ?_ | refine Exists.intro _ (Exists.intro _ (And.intro hrel ?_)) | exact Or.inl rfl | exact Or.inr (And.intro rfl rfl) | (apply Exists.intro; refine And.intro ?_ ?_)) | exact Nat.le_of_ble_eq_true rfl)
  all_goals (try ((try (change _ = _)) <;> (try dsimp only at *) <;> (try simp only [decide_eq_true_eq, decide_eq_false_iff_not, Bool.not_eq_true', Bool.not_eq_false', Bool.and_eq_true, Bool.and_eq_false_iff, beq_iff_eq, bne_iff_ne, beq_eq_false_iff_ne, bne_eq_false_iff_eq, ne_eq, Decidable.not_not, bne_self_eq_false, Bool.false_eq_true, Bool.true_eq_false, Bool.not_true, Bool.not_false, not_true_eq_false, not_false_eq_true, Int.toNat_natCast, Nat.zero_add, Nat.reduceAdd, Nat.reduceMul, Nat.reduceDiv, Nat.mul_one, lenK_one, big, fill_len, marking_len, marks_len, nrms_len, List.length_set, List.length_append, List.length_map, List.length_replicate, List.length_cons, List.length_nil, Int.natCast_add, Int.natCast_one, Int.natCast_zero] at *) <;> (repeat (with_reducible rename _ ∧ _ => hh; obtain ⟨_, _⟩ := hh)) <;> (first | omega | (refine fits_i64 ?_; omega) | (split <;> omega) | (with_reducible assumption) | (with_reducible exact drI_zero _ _) | (with_reducible exact (drI_zero _ _).symm) | (with_reducible exact drI_yes (by with_reducible assumption) (by omega) (by omega)) | (with_reducible exact (drI_yes (by with_reducible assumption) (by omega) (by omega)).symm) | (with_reducible exact drI_yes (by omega) (by omega) (by omega)) | (with_reducible exact (drI_yes (by omega) (by omega) (by omega)).symm) | (with_reducible exact drI_no (by omega) (by omega) (by omega)) | (with_reducible exact drI_bnd _ _ _ (by omega)) | (with_reducible exact drI_len _ _ _ (by omega)) | (with_reducible exact drop_noR (by with_reducible assumption)) | (with_reducible exact drop_noB (by with_reducible assumption)) | (with_reducible exact drop_allR (by omega) (by omega)) | (with_reducible exact drop_allB (by omega) (by omega)) | (with_reducible exact drop_isR (by with_reducible assumption) (by omega) (by omega)) | (with_reducible exact drop_isB (by with_reducible assumption) (by omega) (by omega)) | (with_reducible exact drop_allR (by with_reducible assumption) (by with_reducible assumption)) | (with_reducible exact drop_allB (by with_reducible assumption) (by with_reducible assumption)) | (with_reducible exact drop_isR (by with_reducible assumption) (by with_reducible assumption) (by with_reducible assumption)) | (with_reducible exact drop_isB (by with_reducible assumption) (by with_reducible assumption) (by with_reducible assumption)))))
set_option maxRecDepth 100000 in
set_option maxHeartbeats 4000000 in
theorem p_cloneReq : Proved 29 (cCopy 31 KRequest) := by
  refine proved_of [] trivial [.tmp 2] Tryd.func29 rfl rfl rfl rfl (by kernel_rfl) ?_
  intro ds K hrel
  simp only [cCopy] at hrel
  split at hrel
  case h_2 => exact hrel.elim
  obtain ⟨rfl, h1, hrel⟩ := hrel
  refine ⟨rfl, Nat.le_of_ble_eq_true rfl, fun _ _ => none, ?_⟩
  repeat' (first | with_reducible refine And.intro ?_ ?_ | (with_reducible intro h; first | (exact absurd h (by decide)) | (guard_hyp h : true = true; clear h) | (guard_hyp h : false = false; clear h) | skip) | with_reducible exact True.intro | ((with_reducible refine (id ?_ : @Eq Bool (nodupN _) true)); kernel_rfl) | ((with_reducible refine (id ?_ : @Eq Bool (apartN _ _) true)); kernel_rfl) | ((with_reducible refine (id ?_ : @Eq Bool (formL _ _) true)); kernel_rfl) | ((with_reducible refine (id ?_ : @Eq _ _ _)); exact rfl) | ((conv => whnf); first | done | with_reducible refine And.intro ?_ ?_ | (with_reducible intro h; first | (exact absurd h (by decide)) | (guard_hyp h : true = true; clear h) | (guard_hyp h : false = false; clear h) | skip) | with_reducible exact True.intro | ((with_reducible refine (id ?_ : @Eq _ _ _)); exact rfl) | refine Exists.intro _ (Exists.intro _ (And.intro hrel ?_)) | exact Or.inl rfl | exact Or.inr (And.intro rfl rfl) | (apply Exists.intro; refine And.intro ?_ ?_)) | exact Nat.le_of_ble_eq_true rfl)
  all_goals (try ((try (change _ = _)) <;> (try dsimp only at *) <;> (try simp only [decide_eq_true_eq, decide_eq_false_iff_not, Bool.not_eq_true', Bool.not_eq_false', Bool.and_eq_true, Bool.and_eq_false_iff, beq_iff_eq, bne_iff_ne, beq_eq_false_iff_ne, bne_eq_false_iff_eq, ne_eq, Decidable.not_not, bne_self_eq_false, Bool.false_eq_true, Bool.true_eq_false, Bool.not_true, Bool.not_false, not_true_eq_false, not_false_eq_true, Int.toNat_natCast, Nat.zero_add, Nat.reduceAdd, Nat.reduceMul, Nat.reduceDiv, Nat.mul_one, lenK_one, big, fill_len, marking_len, marks_len, nrms_len, List.length_set, List.length_append, List.length_map, List.length_replicate, List.length_cons, List.length_nil, Int.natCast_add, Int.natCast_one, Int.natCast_zero] at *) <;> (repeat (with_reducible rename _ ∧ _ => hh; obtain ⟨_, _⟩ := hh)) <;> (first | omega | (refine fits_i64 ?_; omega) | (split <;> omega) | (rename true = true → _ => hh; exact hh rfl) | (rename _ = true => hh; simp_all))))
set_option maxRecDepth 100000 in
set_option maxHeartbeats 8000000 in
theorem p_iDrop : Proved 7 cDrop := by
  refine proved_del 28 31 KRequest del_req noTr [(26, cRV), (27, cFndR), (29, cCopy 31 KRequest)] ⟨p_validRequests, p_findRequest, p_cloneReq, trivial⟩ [.tmp 4, .tmp 5] Tryd.func7 rfl rfl rfl rfl (by kernel_rfl) ?_
  intro ds K hrel
  simp only [cDrop] at hrel
  split at hrel
  case h_2 => exact hrel.elim
  rename_i ks rs p
  obtain ⟨rfl, h1, hn, hrel⟩ := hrel
  refine ⟨rfl, Nat.le_of_ble_eq_true rfl, fun _ _ => none, ?_⟩
  repeat' (first | with_reducible refine And.intro ?_ ?_ | (with_reducible intro h; first | (exact absurd h (by decide)) | (guard_hyp h : true = true; clear h) | (guard_hyp h : false = false; clear h) | skip) | with_reducible exact True.intro | ((with_reducible refine (id ?_ : @Eq Bool (nodupN _) true)); kernel_rfl) | ((with_reducible refine (id ?_ : @Eq Bool (apartN _ _) true)); kernel_rfl) | ((with_reducible refine (id ?_ : @Eq Bool (formL _ _) true)); kernel_rfl) | ((with_reducible refine (id ?_ : @Eq _ _ _)); exact rfl) | ((conv => whnf); first | done | with_reducible refine And.intro ?_ ?_ | (with_reducible intro h; first | (exact absurd h (by decide)) | (guard_hyp h : true = true; clear h) | (guard_hyp h : false = false; clear h) | skip) | with_reducible exact True.intro | ((with_reducible refine (id ?_ : @Eq _ _ _)); exact rfl) | refine Exists.intro _ (Exists.intro _ (And.intro hrel ?_)) | exact Or.inl rfl | exact Or.inr (And.intro rfl rfl) | (apply Exists.intro; refine And.intro ?_ ?_)) | exact Nat.le_of_ble_eq_true rfl)
  all_goals (try ((try (change _ = _)) <;> (try dsimp only at *) <;> (try simp only [decide_eq_true_eq, decide_eq_false_iff_not, Bool.not_eq_true', Bool.not_eq_false', Bool.and_eq_true, Bool.and_eq_false_iff, beq_iff_eq, bne_iff_ne, beq_eq_false_iff_ne, bne_eq_false_iff_eq, ne_eq, Decidable.not_not, bne_self_eq_false, Bool.false_eq_true, Bool.true_eq_false, Bool.not_true, Bool.not_false, not_true_eq_false, not_false_eq_true, Int.toNat_natCast, Nat.zero_add, Nat.reduceAdd, Nat.reduceMul, Nat.reduceDiv, Nat.mul_one, lenK_one, big, fill_len, marking_len, marks_len, nrms_len, List.length_set, List.length_append, List.length_map, List.length_replicate, List.length_cons, List.length_nil, Int.natCast_add, Int.natCast_one, Int.natCast_zero] at *) <;> (repeat (with_reducible rename _ ∧ _ => hh; obtain ⟨_, _⟩ := hh)) <;> (first | omega | (refine fits_i64 ?_; omega) | (split <;> omega) | (with_reducible assumption) | (with_reducible exact drop_noR (by with_reducible assumption)) | (with_reducible exact drop_noB (by with_reducible assumption)) | (with_reducible exact drop_nilR (by with_reducible assumption) (by omega)) | (with_reducible exact drop_nilB (by with_reducible assumption) (by omega)) | (with_reducible exact drop_delR (by with_reducible assumption) (by with_reducible assumption) (by with_reducible assumption) (by omega)) | (with_reducible exact drop_delB (by with_reducible assumption) (by with_reducible assumption) (by omega)) | (with_reducible exact fnd_fits (by with_reducible assumption) (by omega)) | (have hq := fnd_r (by with_reducible assumption); omega))))
theorem drop_nrm (rs : List Row) (p : Int) : nrms KRequest (dropR rs p) = dropR rs p := by
  unfold dropR
  split
  · exact nrms_nrms _ _
  · rfl
theorem drop_len (rs : List Row) (p : Int) : (dropR rs p).length ≤ 8 := by
  unfold dropR
  split
  · rename_i h
    rw [nrms_len]
    exact Nat.le_trans (List.length_filter_le _ _) h.1.l
  · exact Nat.zero_le _
end Go.Proofs.YtbppiknmlipmpaaDoor.V
