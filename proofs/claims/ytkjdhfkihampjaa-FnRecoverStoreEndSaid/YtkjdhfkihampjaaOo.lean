/-
  Owners under way: those with an edit and without an end.
-/
import Derived.Test.YtkjdhfkihampjaaCc
set_option linter.unusedSimpArgs false
set_option linter.unusedVariables false
namespace Go.Proofs.Ytkjdhfkihampjaa.V
open Go Go.RowKit
open Classical

/-- One of the first n notes is an edit of the owner. -/
def HasE (es : List Row) (who : Int) (n : Int) : Prop := ∃ j : Nat, (j : Int) < n ∧ (rc (row es j) 0).bool = false ∧ (rc (row es j) 1).int = who
theorem hasE_zero (es : List Row) (who : Int) : ¬ HasE es who 0 := fun ⟨j, h, _⟩ => by omega
theorem hasE_back {es : List Row} {who i : Int} (h : HasE es who (i + 1)) (h1 : ¬ ((rc (row es i.toNat) 0).bool = false ∧ (rc (row es i.toNat) 1).int = who)) : HasE es who i := by
  obtain ⟨j, h2, h3⟩ := h
  by_cases e : (j : Int) = i
  · subst e; exact absurd h3 h1
  · exact ⟨j, by omega, h3⟩
structure NoHas (es : List Row) (who n : Int) : Prop where
  h : ¬ HasE es who n
theorem noHas_zero (es : List Row) (who : Int) : NoHas es who 0 := ⟨hasE_zero es who⟩
theorem noHas_step {es : List Row} {who i : Int} (h : NoHas es who i) (h1 : ¬ ((rc (row es i.toNat) 0).bool = false ∧ (rc (row es i.toNat) 1).int = who)) : NoHas es who (i + 1) := ⟨fun q => h.h (hasE_back q h1)⟩
noncomputable def hasB (es : List Row) (who : Int) : Bool := decide (HasE es who es.length)
theorem rc_one (v : Int) : (rc (row [[Sc.i v]] 0) 0).int = v := rfl
def cOO1 : Ct := ⟨[], fun ds K => match ds with
  | [.agg [.bool e, .int .i64 o, .int .i64 t, .int .i64 d, .int .i64 w], .vcel [.int .i64] [[.i p]] 0 0] => K (.bool (!e && (o == p))) []
  | _ => False⟩
set_option maxRecDepth 100000 in
set_option maxHeartbeats 4000000 in
theorem p_oo1 : Proved 72 cOO1 := by
  refine proved_of [] trivial [.tmp 3] Try.func72 rfl rfl rfl rfl (by kernel_rfl) ?_
  intro ds K hrel
  simp only [cOO1] at hrel
  split at hrel
  case h_2 => exact hrel.elim
  refine ⟨rfl, Nat.le_of_ble_eq_true rfl, fun _ _ => none, ?_⟩
  repeat' (first | with_reducible refine And.intro ?_ ?_ | (with_reducible intro h; first | (exact absurd h (by decide)) | (guard_hyp h : true = true; clear h) | (guard_hyp h : false = false; clear h) | skip) | with_reducible exact True.intro | ((with_reducible refine (id ?_ : @Eq Bool (nodupN _) true)); kernel_rfl) | ((with_reducible refine (id ?_ : @Eq Bool (apartN _ _) true)); kernel_rfl) | ((with_reducible refine (id ?_ : @Eq Bool (formL _ _) true)); kernel_rfl) | ((with_reducible refine (id ?_ : @Eq _ _ _)); exact rfl) | ((conv => whnf); first | done | with_reducible refine And.intro ?_ ?_ | (with_reducible intro h; first | (exact absurd h (by decide)) | (guard_hyp h : true = true; clear h) | (guard_hyp h : false = false; clear h) | skip) | with_reducible exact True.intro | ((with_reducible refine (id ?_ : @Eq _ _ _)); exact rfl) | refine Exists.intro _ (Exists.intro _ (And.intro hrel ?_)) | exact Or.inl rfl | exact Or.inr (And.intro rfl rfl) | (apply Exists.intro; refine And.intro ?_ ?_)) | exact Nat.le_of_ble_eq_true rfl)
  all_goals (try ((try (change _ = _)) <;> (try dsimp only at *) <;> (try simp only [decide_eq_true_eq, decide_eq_false_iff_not, Bool.not_eq_true', Bool.not_eq_false', Bool.and_eq_true, Bool.and_eq_false_iff, beq_iff_eq, bne_iff_ne, beq_eq_false_iff_ne, bne_eq_false_iff_eq, ne_eq, Decidable.not_not, bne_self_eq_false, Bool.false_eq_true, Bool.true_eq_false, Bool.not_true, Bool.not_false, not_true_eq_false, not_false_eq_true, Int.toNat_natCast, Nat.zero_add, Nat.reduceAdd, Nat.reduceMul, Nat.reduceDiv, Nat.mul_one, lenK_one, big, fill_len, marking_len, marks_len, nrms_len, List.length_set, List.length_append, List.length_map, List.length_replicate, List.length_cons, List.length_nil, Int.natCast_add, Int.natCast_one, Int.natCast_zero, rc_one] at *) <;> (repeat (with_reducible rename _ ∧ _ => hh; obtain ⟨_, _⟩ := hh)) <;> (first | omega | (refine fits_i64 ?_; omega) | (split <;> omega) | (simp_all [rc_one]; done) | simp_all)))
/-- Where the first edit of an owner stands; only whether there is one counts. -/
def cOOIdx : Ct := ⟨[], fun ds K => match ds with
  | [.view ks es, .fn f [.vcel [.int .i64] [[.i p]] 0 0]] => f = 72 ∧ ks = KNote ∧ (es.length : Int) < big ∧ ∀ q : Int, (-1 ≤ q ∧ q < es.length) → (0 ≤ q ↔ HasE es p es.length) → K (.int .i64 q) []
  | _ => False⟩
theorem oo_yes {es : List Row} {p i : Int} (h0 : 0 ≤ i) (hi : i < es.length) (h1 : (rc (row es i.toNat) 0).bool = false) (h2 : (rc (row es i.toNat) 1).int = p) : 0 ≤ i ↔ HasE es p es.length := ⟨fun _ => ⟨i.toNat, by omega, h1, h2⟩, fun _ => h0⟩
theorem oo_no {es : List Row} {p i : Int} (h : NoHas es p i) (hi : ¬ i < es.length) : (0 : Int) ≤ -1 ↔ HasE es p es.length := ⟨fun q => by omega, fun ⟨j, h1, h2⟩ => absurd ⟨j, by omega, h2⟩ h.h⟩
set_option maxRecDepth 100000 in
set_option maxHeartbeats 4000000 in
theorem p_ooIdx : Proved 78 cOOIdx := by
  refine proved_of [(72, cOO1)] ⟨p_oo1, trivial⟩ [.tmp 4] Try.func78 rfl rfl rfl rfl (by kernel_rfl) ?_
  intro ds K hrel
  simp only [cOOIdx] at hrel
  split at hrel
  case h_2 => exact hrel.elim
  rename_i ks es f p
  obtain ⟨rfl, rfl, h1, hrel⟩ := hrel
  refine ⟨rfl, Nat.le_of_ble_eq_true rfl, fun k σ => match k with
    | 2 => some { α := Lv 2 Int, R := fun ⟨i⟩ => (0 ≤ i ∧ i ≤ es.length) ∧ NoHas es p i, μ := fun ⟨i⟩ => (es.length - i).toNat, st := fun ⟨i⟩ => up σ [(8, .int .i64 i)] }
    | _ => none, ?_⟩
  repeat' (first | with_reducible refine And.intro ?_ ?_ | (with_reducible intro h; first | (exact absurd h (by decide)) | (guard_hyp h : true = true; clear h) | (guard_hyp h : false = false; clear h) | (have hq := (h : Lv 2 _); clear hq; obtain ⟨_⟩ := h) | skip) | with_reducible exact True.intro | ((with_reducible refine (id ?_ : @Eq Bool (nodupN _) true)); kernel_rfl) | ((with_reducible refine (id ?_ : @Eq Bool (apartN _ _) true)); kernel_rfl) | ((with_reducible refine (id ?_ : @Eq Bool (formL _ _) true)); kernel_rfl) | ((with_reducible refine (id ?_ : @Eq _ _ _)); exact rfl) | ((conv => whnf); first | done | with_reducible refine And.intro ?_ ?_ | (with_reducible intro h; first | (exact absurd h (by decide)) | (guard_hyp h : true = true; clear h) | (guard_hyp h : false = false; clear h) | (have hq := (h : Lv 2 _); clear hq; obtain ⟨_⟩ := h) | skip) | with_reducible exact True.intro | ((with_reducible refine (id ?_ : @Eq _ _ _)); exact rfl) | (refine Exists.intro _ (Exists.intro _ (And.intro (hrel ?_ ?_ ?_) ?_))) | refine Exists.intro (⟨?_⟩ : Lv 2 _) ?_ | refine Exists.intro _ (Exists.intro _ (And.intro hrel ?_)) | exact Or.inl rfl | exact Or.inr (And.intro rfl rfl) | (apply Exists.intro; refine And.intro ?_ ?_)) | exact Nat.le_of_ble_eq_true rfl)
  all_goals (try ((try (change _ = _)) <;> (try dsimp only at *) <;> (try simp only [decide_eq_true_eq, decide_eq_false_iff_not, Bool.not_eq_true', Bool.not_eq_false', Bool.and_eq_true, Bool.and_eq_false_iff, beq_iff_eq, bne_iff_ne, beq_eq_false_iff_ne, bne_eq_false_iff_eq, ne_eq, Decidable.not_not, bne_self_eq_false, Bool.false_eq_true, Bool.true_eq_false, Bool.not_true, Bool.not_false, not_true_eq_false, not_false_eq_true, Int.toNat_natCast, Nat.zero_add, Nat.reduceAdd, Nat.reduceMul, Nat.reduceDiv, Nat.mul_one, lenK_one, big, fill_len, marking_len, marks_len, nrms_len, List.length_set, List.length_append, List.length_map, List.length_replicate, List.length_cons, List.length_nil, Int.natCast_add, Int.natCast_one, Int.natCast_zero] at *) <;> (repeat (with_reducible rename _ ∧ _ => hh; obtain ⟨_, _⟩ := hh)) <;> (first | omega | (refine fits_i64 ?_; omega) | (split <;> omega) | exact noHas_zero _ _ | (refine noHas_step (by with_reducible assumption) (fun q => ?_); simp_all; done) | (with_reducible exact oo_yes (by omega) (by omega) (by with_reducible assumption) (by with_reducible assumption)) | (with_reducible exact oo_no (by with_reducible assumption) (by omega)) | (refine oo_yes (by omega) (by omega) ?_ ?_ <;> simp_all))))
noncomputable def cOOHas : Ct := ⟨[], fun ds K => match ds with
  | [.view ks es, .fn f [.vcel [.int .i64] [[.i p]] 0 0]] => f = 72 ∧ ks = KNote ∧ (es.length : Int) < big ∧ K (.bool (hasB es p)) []
  | _ => False⟩
theorem oo_dec {es : List Row} {p q : Int} (h : 0 ≤ q ↔ HasE es p es.length) : decide (0 ≤ q) = hasB es p := by unfold hasB; rw [decide_eq_decide]; exact h
set_option maxRecDepth 100000 in
set_option maxHeartbeats 4000000 in
theorem p_ooHas : Proved 73 cOOHas := by
  refine proved_of [(78, cOOIdx)] ⟨p_ooIdx, trivial⟩ [.tmp 4] Try.func73 rfl rfl rfl rfl (by kernel_rfl) ?_
  intro ds K hrel
  simp only [cOOHas] at hrel
  split at hrel
  case h_2 => exact hrel.elim
  rename_i ks es f p
  obtain ⟨rfl, rfl, h1, hrel⟩ := hrel
  refine ⟨rfl, Nat.le_of_ble_eq_true rfl, fun _ _ => none, ?_⟩
  repeat' (first | with_reducible refine And.intro ?_ ?_ | (with_reducible intro h; first | (exact absurd h (by decide)) | (guard_hyp h : true = true; clear h) | (guard_hyp h : false = false; clear h) | skip) | with_reducible exact True.intro | ((with_reducible refine (id ?_ : @Eq Bool (nodupN _) true)); kernel_rfl) | ((with_reducible refine (id ?_ : @Eq Bool (apartN _ _) true)); kernel_rfl) | ((with_reducible refine (id ?_ : @Eq Bool (formL _ _) true)); kernel_rfl) | ((with_reducible refine (id ?_ : @Eq _ _ _)); exact rfl) | ((conv => whnf); first | done | with_reducible refine And.intro ?_ ?_ | (with_reducible intro h; first | (exact absurd h (by decide)) | (guard_hyp h : true = true; clear h) | (guard_hyp h : false = false; clear h) | skip) | with_reducible exact True.intro | ((with_reducible refine (id ?_ : @Eq _ _ _)); exact rfl) | refine Exists.intro _ (Exists.intro _ (And.intro hrel ?_)) | exact Or.inl rfl | exact Or.inr (And.intro rfl rfl) | (apply Exists.intro; refine And.intro ?_ ?_)) | exact Nat.le_of_ble_eq_true rfl)
  all_goals (try ((try (change _ = _)) <;> (try dsimp only at *) <;> (try simp only [decide_eq_true_eq, decide_eq_false_iff_not, Bool.not_eq_true', Bool.not_eq_false', Bool.and_eq_true, Bool.and_eq_false_iff, beq_iff_eq, bne_iff_ne, beq_eq_false_iff_ne, bne_eq_false_iff_eq, ne_eq, Decidable.not_not, bne_self_eq_false, Bool.false_eq_true, Bool.true_eq_false, Bool.not_true, Bool.not_false, not_true_eq_false, not_false_eq_true, Int.toNat_natCast, Nat.zero_add, Nat.reduceAdd, Nat.reduceMul, Nat.reduceDiv, Nat.mul_one, lenK_one, big, fill_len, marking_len, marks_len, nrms_len, List.length_set, List.length_append, List.length_map, List.length_replicate, List.length_cons, List.length_nil, Int.natCast_add, Int.natCast_one, Int.natCast_zero] at *) <;> (repeat (with_reducible rename _ ∧ _ => hh; obtain ⟨_, _⟩ := hh)) <;> (first | omega | (refine fits_i64 ?_; omega) | (split <;> omega) | (with_reducible exact oo_dec (by with_reducible assumption)))))

/-- An owner under way. -/
def UnderW (es : List Row) (who : Int) : Prop := NoEnd es who es.length ∧ HasE es who es.length
/-- The owners under way among the first n, in order. -/
noncomputable def opn0 (es : List Row) : Nat → List Row
  | 0 => []
  | n + 1 => if UnderW es (n : Int) then opn0 es n ++ [[.i (n : Int)]] else opn0 es n
@[irreducible] noncomputable def opn (es : List Row) (n : Nat) : List Row := opn0 es n
theorem opn_zero (es : List Row) : opn es (Int.toNat 0) = [] := by simp [opn, opn0]
theorem opn_succ (es : List Row) (n : Nat) : opn es (n + 1) = if UnderW es (n : Int) then opn es n ++ [[.i (n : Int)]] else opn es n := by simp only [opn, opn0]
theorem opn_len (es : List Row) : ∀ n : Nat, (opn es n).length ≤ n
  | 0 => by rw [show opn es 0 = [] from opn_zero es]; exact Nat.le_refl _
  | n + 1 => by
    have := opn_len es n
    rw [opn_succ]
    split
    · rw [List.length_append]; simp; omega
    · omega
theorem opn_nrm (es : List Row) : ∀ n : Nat, nrms KInt (opn es n) = opn es n
  | 0 => by rw [show opn es 0 = [] from opn_zero es]; rfl
  | n + 1 => by
    rw [opn_succ]
    split
    · rw [nrms_append, opn_nrm es n]; rfl
    · exact opn_nrm es n
theorem opn_step {es : List Row} {i : Int} (h0 : 0 ≤ i) : opn es (i + 1).toNat = if UnderW es i then opn es i.toNat ++ [[.i i]] else opn es i.toNat := by
  rw [show (i + 1).toNat = i.toNat + 1 by omega, opn_succ, show ((i.toNat : Nat) : Int) = i by omega]
theorem opn_yes {es ar : List Row} {i : Int} (ha : EndA es ar es.length) (h0 : 0 ≤ i) (h7 : i ≤ 7) (hb : (rc (row ar i.toNat) 0).bool = false) (hh : hasB es i = true) : opn es i.toNat ++ [[Sc.i i]] = opn es (i + 1).toNat := by
  have hn : NoEnd es i es.length := by
    have := ha.h i.toNat (by omega)
    rw [show ((i.toNat : Nat) : Int) = i by omega] at this
    apply Classical.byContradiction
    intro q; rw [this.2 q] at hb; cases hb
  rw [opn_step h0, if_pos ⟨hn, by simpa [hasB] using hh⟩]
theorem opn_noE {es ar : List Row} {i : Int} (ha : EndA es ar es.length) (h0 : 0 ≤ i) (h7 : i ≤ 7) (hb : (rc (row ar i.toNat) 0).bool = true) : opn es i.toNat = opn es (i + 1).toNat := by
  have := ha.h i.toNat (by omega)
  rw [show ((i.toNat : Nat) : Int) = i by omega] at this
  rw [opn_step h0, if_neg (fun q => this.1 hb q.1)]
theorem opn_noH {es : List Row} {i : Int} (h0 : 0 ≤ i) (hh : hasB es i = false) : opn es i.toNat = opn es (i + 1).toNat := by
  rw [opn_step h0, if_neg (fun q => by have := q.2; simp [hasB] at hh; exact hh this)]
theorem opn_all {es : List Row} {i : Int} (h : ¬ i ≤ 7) (h2 : i ≤ 8) : opn es i.toNat = opn es 8 := by rw [show i.toNat = 8 by omega]
noncomputable def cOpn : Ct := ⟨[], fun ds K => match ds with
  | [.view ks es] => ks = KNote ∧ es.length ≤ 1048576 ∧ OwnN es ∧ K (.fr 3 KInt (opn es 8)) []
  | _ => False⟩
set_option maxRecDepth 100000 in
set_option maxHeartbeats 8000000 in
theorem p_openOwners : Proved 45 cOpn := by
  refine proved_of [(71, cEndO), (73, cOOHas)] ⟨p_endOwners, p_ooHas, trivial⟩ [.tmp 2] Try.func45 rfl rfl rfl rfl (by kernel_rfl) ?_
  intro ds K hrel
  simp only [cOpn] at hrel
  split at hrel
  case h_2 => exact hrel.elim
  rename_i ks es
  obtain ⟨rfl, h1, ho, hrel⟩ := hrel
  refine ⟨rfl, Nat.le_of_ble_eq_true rfl, fun k σ => match lookH σ.hp 0 with
    | some (.arr _ ar) => match k with
      | 4 => some { α := Lv 4 Int, R := fun ⟨i⟩ => (0 ≤ i ∧ i ≤ 8) ∧ EndA es ar es.length, μ := fun ⟨i⟩ => (8 - i).toNat, st := fun ⟨i⟩ => ⟨[(5, .box 1 0), (4, .own 2), (3, .cel 0 0 0), (0, .view KNote es)], [some (.arr [.bool] ar), some (.box [.int .i64 i]), some (.rows 3 KInt (opn es i.toNat))]⟩, sw := true }
      | _ => none
    | _ => none, ?_⟩
  repeat' (first | with_reducible refine And.intro ?_ ?_ | (with_reducible intro h; first | (exact absurd h (by decide)) | (guard_hyp h : true = true; clear h) | (guard_hyp h : false = false; clear h) | (have hq := (h : Lv 4 _); clear hq; obtain ⟨_⟩ := h) | skip) | with_reducible exact True.intro | ((with_reducible refine (id ?_ : @Eq Bool (nodupN _) true)); kernel_rfl) | ((with_reducible refine (id ?_ : @Eq Bool (apartN _ _) true)); kernel_rfl) | ((with_reducible refine (id ?_ : @Eq Bool (formL _ _) true)); kernel_rfl) | ((with_reducible refine (id ?_ : @Eq _ _ _)); exact rfl) | ((conv => whnf); first | done | with_reducible refine And.intro ?_ ?_ | (with_reducible intro h; first | (exact absurd h (by decide)) | (guard_hyp h : true = true; clear h) | (guard_hyp h : false = false; clear h) | (have hq := (h : Lv 4 _); clear hq; obtain ⟨_⟩ := h) | skip) | with_reducible exact True.intro | ((with_reducible refine (id ?_ : @Eq _ _ _)); exact rfl) | refine Exists.intro (⟨?_⟩ : Lv 4 _) ?_ | refine Exists.intro _ (Exists.intro _ (And.intro hrel ?_)) | exact Or.inl rfl | exact Or.inr (And.intro rfl rfl) | (apply Exists.intro; refine And.intro ?_ ?_)) | exact Nat.le_of_ble_eq_true rfl)
  all_goals (try ((try (change _ = _)) <;> (try dsimp only at *) <;> (try simp only [decide_eq_true_eq, decide_eq_false_iff_not, Bool.not_eq_true', Bool.not_eq_false', Bool.and_eq_true, Bool.and_eq_false_iff, beq_iff_eq, bne_iff_ne, beq_eq_false_iff_ne, bne_eq_false_iff_eq, ne_eq, Decidable.not_not, bne_self_eq_false, Bool.false_eq_true, Bool.true_eq_false, Bool.not_true, Bool.not_false, not_true_eq_false, not_false_eq_true, Int.toNat_natCast, Nat.zero_add, Nat.reduceAdd, Nat.reduceMul, Nat.reduceDiv, Nat.mul_one, lenK_one, big, fill_len, marking_len, marks_len, nrms_len, List.length_set, List.length_append, List.length_map, List.length_replicate, List.length_cons, List.length_nil, Int.natCast_add, Int.natCast_one, Int.natCast_zero, rc_one] at *) <;> (repeat (with_reducible rename _ ∧ _ => hh; obtain ⟨_, _⟩ := hh)) <;> (first | omega | (refine fits_i64 ?_; omega) | (split <;> omega) | (with_reducible assumption) | (with_reducible exact (opn_zero _)) | (with_reducible exact (opn_zero _).symm) | exact opn_yes (by with_reducible assumption) (by omega) (by omega) (by with_reducible assumption) (by with_reducible assumption) | exact (opn_yes (by with_reducible assumption) (by omega) (by omega) (by with_reducible assumption) (by with_reducible assumption)).symm | exact opn_noE (by with_reducible assumption) (by omega) (by omega) (by with_reducible assumption) | exact opn_noH (by omega) (by with_reducible assumption) | (with_reducible exact opn_all (by omega) (by omega)) | (have hl := EndA.len (by with_reducible assumption); omega) | (show (8 : Nat) = _; have hl := EndA.len (by with_reducible assumption); omega) | (refine Nat.le_trans (Nat.mul_le_mul_right 8 (Nat.add_le_add_right (opn_len _ _) _)) ?_; omega))))
end Go.Proofs.Ytkjdhfkihampjaa.V
