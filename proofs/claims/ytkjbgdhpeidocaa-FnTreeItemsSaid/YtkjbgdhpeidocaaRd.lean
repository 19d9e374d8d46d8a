/-
  The reader of pseudo-random numbers: what its numbers are bounded by.
-/
import Derived.Test.YtkjbgdhpeidocaaBr
set_option linter.unusedSimpArgs false
set_option linter.unusedVariables false
namespace Go.Proofs.Ytkjbgdhpeidocaa.V
open Go Go.RowKit
open Classical

def KU8 : List Kd := [.int .u8]
/-- Bytes. -/
structure Bytes (bs : List Row) : Prop where
  len : bs.length ≤ 2000
  lo : ∀ i : Nat, 0 ≤ (rc (row bs i) 0).int
  hi : ∀ i : Nat, (rc (row bs i) 0).int ≤ 255
theorem bytes_of {xs : List Row} (h : ∀ i, i < xs.length → RowOk KU8 (row xs i)) (n : Nat) (hn : n ≤ 2000) : Bytes (xs.take n) := by
  have key : ∀ i : Nat, 0 ≤ (rc (row (xs.take n) i) 0).int ∧ (rc (row (xs.take n) i) 0).int ≤ 255 := by
    intro i
    by_cases hi : i < n ∧ i < xs.length
    · have e : row (xs.take n) i = row xs i := by
        unfold row
        rw [List.getD_eq_getElem?_getD, List.getD_eq_getElem?_getD, List.getElem?_take, if_pos hi.1]
      rw [e]
      have := (h i hi.2).h 0 (.int .u8) rfl
      exact ⟨this.lo, this.hi⟩
    · have e : row (xs.take n) i = [] := by
        unfold row
        rw [List.getD_eq_getElem?_getD, List.getElem?_eq_none (by simp; omega)]
        rfl
      rw [e]; simp [rc]
  exact ⟨by simp; omega, fun i => (key i).1, fun i => (key i).2⟩
theorem bytes_all {xs : List Row} (h : ∀ i, i < xs.length → RowOk KU8 (row xs i)) (hn : xs.length ≤ 2000) : Bytes xs := by
  have := bytes_of h xs.length hn
  rwa [List.take_length] at this

def cNewReader : Ct := ⟨[], fun ds K => match ds with
  | [.view ks xs] => ks = KU8 ∧ (xs.length : Int) < big ∧ (∀ i, i < xs.length → RowOk KU8 (row xs i)) ∧ ∀ bs, Bytes bs → K (.bx [.view KU8 bs, .int .i64 0]) []
  | _ => False⟩
set_option maxRecDepth 100000 in
set_option maxHeartbeats 4000000 in
theorem p_newReader : Proved 43 cNewReader := by
  refine proved_of [] trivial [.tmp 2] Try.func43 rfl rfl rfl rfl (by kernel_rfl) ?_
  intro ds K hrel
  simp only [cNewReader] at hrel
  split at hrel
  case h_2 => exact hrel.elim
  rename_i ks xs
  obtain ⟨rfl, h1, h2, hrel⟩ := hrel
  refine ⟨rfl, Nat.le_of_ble_eq_true rfl, fun _ _ => none, ?_⟩
  repeat' (first | with_reducible refine And.intro ?_ ?_ | (with_reducible intro h; first | (exact absurd h (by decide)) | (guard_hyp h : true = true; clear h) | (guard_hyp h : false = false; clear h) | skip) | with_reducible exact True.intro | ((with_reducible refine (id ?_ : @Eq Bool (nodupN _) true)); kernel_rfl) | ((with_reducible refine (id ?_ : @Eq Bool (apartN _ _) true)); kernel_rfl) | ((with_reducible refine (id ?_ : @Eq Bool (formL _ _) true)); kernel_rfl) | ((with_reducible refine (id ?_ : @Eq _ _ _)); exact rfl) | ((conv => whnf); first | done | with_reducible refine And.intro ?_ ?_ | (with_reducible intro h; first | (exact absurd h (by decide)) | (guard_hyp h : true = true; clear h) | (guard_hyp h : false = false; clear h) | skip) | with_reducible exact True.intro | ((with_reducible refine (id ?_ : @Eq _ _ _)); exact rfl) | (refine Exists.intro _ (Exists.intro _ (And.intro (hrel ?_ ?_) ?_))) | refine Exists.intro _ (Exists.intro _ (And.intro hrel ?_)) | exact Or.inl rfl | exact Or.inr (And.intro rfl rfl) | (apply Exists.intro; refine And.intro ?_ ?_)) | exact Nat.le_of_ble_eq_true rfl)
  all_goals (try ((try (change _ = _)) <;> (try dsimp only at *) <;> (try simp only [decide_eq_true_eq, decide_eq_false_iff_not, Bool.not_eq_true', Bool.not_eq_false', Bool.and_eq_true, Bool.and_eq_false_iff, beq_iff_eq, bne_iff_ne, beq_eq_false_iff_ne, bne_eq_false_iff_eq, ne_eq, Decidable.not_not, bne_self_eq_false, Bool.false_eq_true, Bool.true_eq_false, Bool.not_true, Bool.not_false, not_true_eq_false, not_false_eq_true, Int.toNat_natCast, Nat.zero_add, Nat.reduceAdd, Nat.reduceMul, Nat.reduceDiv, Nat.mul_one, lenK_one, big, fill_len, marking_len, marks_len, nrms_len, List.length_set, List.length_append, List.length_map, List.length_replicate, List.length_cons, List.length_nil, Int.natCast_add, Int.natCast_one, Int.natCast_zero] at *) <;> (repeat (with_reducible rename _ ∧ _ => hh; obtain ⟨_, _⟩ := hh)) <;> (first | omega | (refine fits_i64 ?_; omega) | (split <;> omega) | exact bytes_all h2 (by omega) | (simpa using bytes_of h2 2000 (Nat.le_refl _)))))

theorem mod_pos {a n : Int} (h : 0 ≤ a) (hn : 1 ≤ n) : 0 ≤ a.tmod n ∧ a.tmod n < n := ⟨Int.tmod_nonneg _ h, Int.tmod_lt_of_pos _ (by omega)⟩
theorem quo_pos {a n : Int} (h : 0 ≤ a) (hn : 1 ≤ n) : 0 ≤ a.tdiv n ∧ a.tdiv n ≤ a := by
  obtain ⟨x, rfl⟩ := Int.eq_ofNat_of_zero_le h
  obtain ⟨y, rfl⟩ := Int.eq_ofNat_of_zero_le (show 0 ≤ n by omega)
  exact ⟨Int.tdiv_nonneg h (by omega), Int.ofNat_le.2 (Nat.div_le_self x y)⟩
theorem xor_pos {a b : Int} (h1 : 0 ≤ a) (h2 : a < 1000000000000) (h3 : 0 ≤ b) (h4 : b < 1000000000000) : 0 ≤ bitop .xor .i64 a b := by
  obtain ⟨x, rfl⟩ := Int.eq_ofNat_of_zero_le h1
  obtain ⟨y, rfl⟩ := Int.eq_ofNat_of_zero_le h3
  have e : ∀ z : Nat, z < 1000000000000 → (BitVec.ofInt 64 (z : Int)).toNat = z := fun z hz => by
    rw [BitVec.ofInt_natCast, BitVec.toNat_ofNat]; exact Nat.mod_eq_of_lt (by omega)
  have hx : x ^^^ y < 2 ^ 40 := Nat.xor_lt_two_pow (by omega) (by omega)
  show 0 ≤ IntKind.i64.wrap ((BitVec.ofInt 64 (x : Int) ^^^ BitVec.ofInt 64 (y : Int)).toNat : Int)
  rw [BitVec.toNat_xor, e x (by omega), e y (by omega), IntKind.wrap_i64]
  omega

/-- A reader's places, as a callee has left them. -/
def rdr (bs : List Row) (p : Int) : AV := .bx [.view KU8 bs, .int .i64 p]
/-- A number that pick may yield. -/
structure PickR (n q : Int) : Prop where
  lo : 0 ≤ q
  hi : 1 ≤ n → q < n
  zero : n < 1 → q = 0
theorem pick_zero {n : Int} (h : n < 1) : PickR n 0 := ⟨Int.le_refl _, fun _ => by omega, fun _ => rfl⟩
theorem pick_mod {a n : Int} (h : 0 ≤ a) (hn : ¬ n < 1) : PickR n (a.tmod n) := ⟨(mod_pos h (by omega)).1, fun h1 => (mod_pos h h1).2, fun h1 => absurd h1 hn⟩
theorem pick_any {n : Int} (h : 1 ≤ n) : PickR n 0 := ⟨Int.le_refl _, fun _ => by omega, fun _ => rfl⟩
theorem fits_byte {bs : List Row} (hb : Bytes bs) (i : Nat) : Fits .i64 (rc (row bs i) 0).int := fits_i64 ⟨by have := hb.lo i; omega, by have := hb.hi i; omega⟩
theorem fits_quo {a n : Int} (h : 0 ≤ a) (h2 : a ≤ 9223372036854775807) (hn : 1 ≤ n) : Fits .i64 (a.tdiv n) := fits_i64 ⟨by have := (quo_pos h hn).1; omega, by have := (quo_pos h hn).2; omega⟩
def cPick : Ct := ⟨[], fun ds K => match ds with
  | [.bx [.view ks bs, .int .i64 p], .int .i64 n] => ks = KU8 ∧ Bytes bs ∧ (0 ≤ p ∧ p < 1000000) ∧ ∀ q : Int, PickR n q → K (.int .i64 q) [.bx [.view KU8 bs, .int .i64 (p + 1)]]
  | _ => False⟩
set_option maxRecDepth 100000 in
set_option maxHeartbeats 4000000 in
theorem p_pick : Proved 50 cPick := by
  refine proved_of [] trivial [.tmp 4] Try.func50 rfl rfl rfl rfl (by kernel_rfl) ?_
  intro ds K hrel
  simp only [cPick] at hrel
  split at hrel
  case h_2 => exact hrel.elim
  rename_i ks bs p n
  obtain ⟨rfl, hb, ⟨h1, h2⟩, hrel⟩ := hrel
  have hlen := hb.len
  refine ⟨rfl, Nat.le_of_ble_eq_true rfl, fun _ _ => none, ?_⟩
  have b1 := hb.lo ((p + 1 - 1).tmod (bs.length : Int)).toNat
  have b2 := hb.hi ((p + 1 - 1).tmod (bs.length : Int)).toNat
  have b3 := hb.lo (((p + 1 - 1) * 7 + 3).tmod (bs.length : Int)).toNat
  have b4 := hb.hi (((p + 1 - 1) * 7 + 3).tmod (bs.length : Int)).toNat
  have b5 : 1 ≤ (bs.length : Int) → 0 ≤ (p + 1 - 1).tdiv (bs.length : Int) ∧ (p + 1 - 1).tdiv (bs.length : Int) ≤ p + 1 - 1 := fun h => quo_pos (by omega) h
  have b6 : 1 ≤ (bs.length : Int) → 0 ≤ (p + 1 - 1).tmod (bs.length : Int) ∧ (p + 1 - 1).tmod (bs.length : Int) < bs.length := fun h => mod_pos (by omega) h
  have b7 : 1 ≤ (bs.length : Int) → 0 ≤ ((p + 1 - 1) * 7 + 3).tmod (bs.length : Int) ∧ ((p + 1 - 1) * 7 + 3).tmod (bs.length : Int) < bs.length := fun h => mod_pos (by omega) h
  repeat' (first | with_reducible refine And.intro ?_ ?_ | (with_reducible intro h; first | (exact absurd h (by decide)) | (guard_hyp h : true = true; clear h) | (guard_hyp h : false = false; clear h) | skip) | with_reducible exact True.intro | ((with_reducible refine (id ?_ : @Eq Bool (nodupN _) true)); kernel_rfl) | ((with_reducible refine (id ?_ : @Eq Bool (apartN _ _) true)); kernel_rfl) | ((with_reducible refine (id ?_ : @Eq Bool (formL _ _) true)); kernel_rfl) | ((with_reducible refine (id ?_ : @Eq _ _ _)); exact rfl) | ((conv => whnf); first | done | with_reducible refine And.intro ?_ ?_ | (with_reducible intro h; first | (exact absurd h (by decide)) | (guard_hyp h : true = true; clear h) | (guard_hyp h : false = false; clear h) | skip) | with_reducible exact True.intro | ((with_reducible refine (id ?_ : @Eq _ _ _)); exact rfl) | (refine Exists.intro _ (Exists.intro _ (And.intro (hrel ?_ ?_) ?_))) | refine Exists.intro _ (Exists.intro _ (And.intro hrel ?_)) | exact Or.inl rfl | exact Or.inr (And.intro rfl rfl) | (apply Exists.intro; refine And.intro ?_ ?_)) | exact Nat.le_of_ble_eq_true rfl)
  all_goals (try ((try (change _ = _)) <;> (try dsimp only at *) <;> (try simp only [decide_eq_true_eq, decide_eq_false_iff_not, Bool.not_eq_true', Bool.not_eq_false', Bool.and_eq_true, Bool.and_eq_false_iff, beq_iff_eq, bne_iff_ne, beq_eq_false_iff_ne, bne_eq_false_iff_eq, ne_eq, Decidable.not_not, bne_self_eq_false, Bool.false_eq_true, Bool.true_eq_false, Bool.not_true, Bool.not_false, not_true_eq_false, not_false_eq_true, Int.toNat_natCast, Nat.zero_add, Nat.reduceAdd, Nat.reduceMul, Nat.reduceDiv, Nat.mul_one, lenK_one, big, fill_len, marking_len, marks_len, nrms_len, List.length_set, List.length_append, List.length_map, List.length_replicate, List.length_cons, List.length_nil, Int.natCast_add, Int.natCast_one, Int.natCast_zero] at *) <;> (repeat (with_reducible rename _ ∧ _ => hh; obtain ⟨_, _⟩ := hh)) <;> (first | omega | (refine fits_i64 ?_; omega) | (split <;> omega) | exact fits_byte hb _ | exact pick_zero (by omega) | exact pick_any (by omega) | exact pick_mod (hb.lo _) (by omega) | exact fits_quo (by omega) (by omega) (by omega) | (refine pick_mod (xor_pos ?_ ?_ ?_ ?_) (by omega) <;> first | omega | (refine (quo_pos (n := 64) ?_ (by omega)).1; omega) | (refine Int.lt_of_le_of_lt (quo_pos (n := 64) ?_ (by omega)).2 ?_ <;> omega)))))

/-- A number of a list. -/
def memI : List Row → Int → Prop
  | [], _ => False
  | r :: rs, q => (rc r 0).int = q ∨ memI rs q
theorem memI_i (n q : Int) (rs : List Row) : memI ([.i n] :: rs) q = (n = q ∨ memI rs q) := rfl
theorem memI_nil (q : Int) : memI [] q = False := rfl
theorem memI_row : ∀ (xs : List Row) (i : Nat), i < xs.length → memI xs (rc (row xs i) 0).int
  | [], i, h => by simp at h
  | r :: rs, 0, _ => .inl rfl
  | r :: rs, i + 1, h => .inr (by simpa [row] using memI_row rs i (by simpa using h))
def KInt' : List Kd := [.int .i64]
def cOne : Ct := ⟨[], fun ds K => match ds with
  | [.bx [.view ks bs, .int .i64 p], .view js xs] => ks = KU8 ∧ js = [.int .i64] ∧ Bytes bs ∧ (0 ≤ p ∧ p < 1000000) ∧ (1 ≤ xs.length ∧ xs.length ≤ 1000) ∧ ∀ q : Int, memI xs q → K (.int .i64 q) [.bx [.view KU8 bs, .int .i64 (p + 1)]]
  | _ => False⟩
set_option maxRecDepth 100000 in
set_option maxHeartbeats 4000000 in
theorem p_one : Proved 53 cOne := by
  refine proved_of [(50, cPick)] ⟨p_pick, trivial⟩ [.tmp 4] Try.func53 rfl rfl rfl rfl (by kernel_rfl) ?_
  intro ds K hrel
  simp only [cOne] at hrel
  split at hrel
  case h_2 => exact hrel.elim
  rename_i ks bs p js xs
  obtain ⟨rfl, rfl, hb, ⟨h1, h2⟩, ⟨h3, h4⟩, hrel⟩ := hrel
  refine ⟨rfl, Nat.le_of_ble_eq_true rfl, fun _ _ => none, ?_⟩
  repeat' (first | with_reducible refine And.intro ?_ ?_ | (with_reducible intro h; first | (exact absurd h (by decide)) | (guard_hyp h : true = true; clear h) | (guard_hyp h : false = false; clear h) | skip) | with_reducible exact True.intro | ((with_reducible refine (id ?_ : @Eq Bool (nodupN _) true)); kernel_rfl) | ((with_reducible refine (id ?_ : @Eq Bool (apartN _ _) true)); kernel_rfl) | ((with_reducible refine (id ?_ : @Eq Bool (formL _ _) true)); kernel_rfl) | ((with_reducible refine (id ?_ : @Eq _ _ _)); exact rfl) | ((conv => whnf); first | done | with_reducible refine And.intro ?_ ?_ | (with_reducible intro h; first | (exact absurd h (by decide)) | (guard_hyp h : true = true; clear h) | (guard_hyp h : false = false; clear h) | skip) | with_reducible exact True.intro | ((with_reducible refine (id ?_ : @Eq _ _ _)); exact rfl) | (refine Exists.intro _ (Exists.intro _ (And.intro (hrel ?_ ?_) ?_))) | refine Exists.intro _ (Exists.intro _ (And.intro hrel ?_)) | exact Or.inl rfl | exact Or.inr (And.intro rfl rfl) | (apply Exists.intro; refine And.intro ?_ ?_)) | exact Nat.le_of_ble_eq_true rfl)
  all_goals (try (rename PickR _ _ => hq; have q1 := hq.lo; have q2 := hq.hi; have q3 := hq.zero))
  all_goals (try ((try (change _ = _)) <;> (try dsimp only at *) <;> (try simp only [decide_eq_true_eq, decide_eq_false_iff_not, Bool.not_eq_true', Bool.not_eq_false', Bool.and_eq_true, Bool.and_eq_false_iff, beq_iff_eq, bne_iff_ne, beq_eq_false_iff_ne, bne_eq_false_iff_eq, ne_eq, Decidable.not_not, bne_self_eq_false, Bool.false_eq_true, Bool.true_eq_false, Bool.not_true, Bool.not_false, not_true_eq_false, not_false_eq_true, Int.toNat_natCast, Nat.zero_add, Nat.reduceAdd, Nat.reduceMul, Nat.reduceDiv, Nat.mul_one, lenK_one, big, fill_len, marking_len, marks_len, nrms_len, List.length_set, List.length_append, List.length_map, List.length_replicate, List.length_cons, List.length_nil, Int.natCast_add, Int.natCast_one, Int.natCast_zero] at *) <;> (repeat (with_reducible rename _ ∧ _ => hh; obtain ⟨_, _⟩ := hh)) <;> (first | omega | (refine fits_i64 ?_; omega) | (split <;> omega) | exact memI_row _ _ (by omega))))
end Go.Proofs.Ytkjbgdhpeidocaa.V
