/-
  Numbers in a range; the first row with a number in a column.
-/
import Derived.Test.YtfchlcghildiaaaRd
set_option linter.unusedSimpArgs false
set_option linter.unusedVariables false
namespace Go.Proofs.Ytfchlcghildiaaa.V
open Go Go.RowKit
open Classical

def cInRange : Ct := ⟨[], fun ds K => match ds with
  | [.int .i64 n, .int .i64 lo, .int .i64 hi] => K (.bool (decide (lo ≤ n) && decide (n ≤ hi))) []
  | _ => False⟩
set_option maxRecDepth 100000 in
set_option maxHeartbeats 4000000 in
theorem p_inRange : Proved 58 cInRange := by
  refine proved_of [] trivial [.tmp 6] Try.func58 rfl rfl rfl rfl (by kernel_rfl) ?_
  intro ds K hrel
  simp only [cInRange] at hrel
  split at hrel
  case h_2 => exact hrel.elim
  refine ⟨rfl, Nat.le_of_ble_eq_true rfl, fun _ _ => none, ?_⟩
  repeat' (first | with_reducible refine And.intro ?_ ?_ | (with_reducible intro h; first | (exact absurd h (by decide)) | (guard_hyp h : true = true; clear h) | (guard_hyp h : false = false; clear h) | skip) | with_reducible exact True.intro | ((with_reducible refine (id ?_ : @Eq Bool (nodupN _) true)); kernel_rfl) | ((with_reducible refine (id ?_ : @Eq Bool (apartN _ _) true)); kernel_rfl) | ((with_reducible refine (id ?_ : @Eq Bool (formL _ _) true)); kernel_rfl) | ((with_reducible refine (id ?_ : @Eq _ _ _)); exact rfl) | ((conv => whnf); first | done | with_reducible refine And.intro ?_ ?_ | (with_reducible intro h; first | (exact absurd h (by decide)) | (guard_hyp h : true = true; clear h) | (guard_hyp h : false = false; clear h) | skip) | with_reducible exact True.intro | ((with_reducible refine (id ?_ : @Eq _ _ _)); exact rfl) | refine Exists.intro _ (Exists.intro _ (And.intro hrel ?_)) | exact Or.inl rfl | exact Or.inr (And.intro rfl rfl) | (apply Exists.intro; refine And.intro ?_ ?_)) | exact Nat.le_of_ble_eq_true rfl)
  all_goals (conv => whnf)
  all_goals simp [*]

/-- None of the first n rows has the number p in column c. -/
structure NoC (c : Nat) (xs : List Row) (p : Int) (n : Int) : Prop where
  h : ∀ j : Nat, (j : Int) < n → ¬ (rc (row xs j) c).int = p
theorem noC_zero (c : Nat) (xs : List Row) (p : Int) : NoC c xs p 0 := ⟨fun j h => by omega⟩
theorem noC_step {c : Nat} {xs : List Row} {p i : Int} (h : NoC c xs p i) (h1 : ¬ (rc (row xs i.toNat) c).int = p) : NoC c xs p (i + 1) := ⟨fun j hj => by
  by_cases e : (j : Int) = i
  · subst e; exact h1
  · exact h.h j (by omega)⟩
theorem noC_step' {c : Nat} {xs : List Row} {p i : Int} (h : NoC c xs p i) (h1 : ((rc (row xs i.toNat) c).int == p) = false) : NoC c xs p (i + 1) := noC_step h (by simpa using h1)
/-- Where the first row with the number p in column c stands, -1 if there is none. -/
@[irreducible] def findC (c : Nat) (xs : List Row) (p : Int) : Int := match xs.findIdx? (fun r => (rc r c).int == p) with
  | some i => i
  | none => -1
structure FindR (c : Nat) (xs : List Row) (p q : Int) : Prop where
  lo : -1 ≤ q
  hi : q < xs.length
  at' : 0 ≤ q → (rc (row xs q.toNat) c).int = p
  no : 0 ≤ q → NoC c xs p q
  none : q < 0 → NoC c xs p xs.length
theorem getElem_row {xs : List Row} {i : Nat} (h : i < xs.length) : xs[i] = row xs i := by
  have := row_some h
  rw [List.getElem?_eq_getElem h] at this
  exact Option.some.inj this
theorem find_spec (c : Nat) (xs : List Row) (p : Int) : FindR c xs p (findC c xs p) := by
  unfold findC
  split
  · rename_i i h
    obtain ⟨h1, h2, h3⟩ := List.findIdx?_eq_some_iff_getElem.1 h
    have e : (rc (row xs i) c).int = p := by rw [getElem_row h1] at h2; simpa using h2
    refine ⟨by omega, by omega, fun _ => by simpa using e, fun _ => ⟨fun j hj => ?_⟩, fun hn => by omega⟩
    have hji : j < i := by omega
    have hjl : j < xs.length := by omega
    have := h3 j hji
    rw [getElem_row hjl] at this
    simpa using this
  · rename_i h
    rw [List.findIdx?_eq_none_iff] at h
    refine ⟨by omega, by omega, fun hn => by omega, fun hn => by omega, fun _ => ⟨fun j hj => ?_⟩⟩
    have hjl : j < xs.length := by omega
    have := h (row xs j) (by rw [← getElem_row hjl]; exact List.getElem_mem hjl)
    simpa using this
theorem find_unique {c : Nat} {xs : List Row} {p q q' : Int} (h : FindR c xs p q) (h' : FindR c xs p q') : q = q' := by
  rcases Int.lt_or_le q 0 with hq | hq
  · rcases Int.lt_or_le q' 0 with hq' | hq'
    · have := h.lo; have := h'.lo; omega
    · exact absurd (h'.at' hq') ((h.none hq).h q'.toNat (by have := h'.hi; omega))
  · rcases Int.lt_or_le q' 0 with hq' | hq'
    · exact absurd (h.at' hq) ((h'.none hq').h q.toNat (by have := h.hi; omega))
    · rcases Int.lt_trichotomy q q' with hl | hl | hl
      · exact absurd (h.at' hq) ((h'.no hq').h q.toNat (by omega))
      · exact hl
      · exact absurd (h'.at' hq') ((h.no hq).h q'.toNat (by omega))
theorem find_at {c : Nat} {xs : List Row} {p i : Int} (h0 : 0 ≤ i) (hi : i < xs.length) (h : (rc (row xs i.toNat) c).int = p) (hn : NoC c xs p i) : i = findC c xs p :=
  find_unique ⟨by omega, hi, fun _ => h, fun _ => hn, fun hq => by omega⟩ (find_spec c xs p)
theorem find_at' {c : Nat} {xs : List Row} {p i : Int} (h0 : 0 ≤ i) (hi : i < xs.length) (h : ((rc (row xs i.toNat) c).int == p) = true) (hn : NoC c xs p i) : i = findC c xs p := find_at h0 hi (by simpa using h) hn
theorem find_none {c : Nat} {xs : List Row} {p i : Int} (hi : ¬ i < xs.length) (hn : NoC c xs p i) : -1 = findC c xs p :=
  find_unique ⟨by omega, by omega, fun hq => by omega, fun hq => by omega, fun _ => ⟨fun j hj => hn.h j (by omega)⟩⟩ (find_spec c xs p)
theorem find_lo (c : Nat) (xs : List Row) (p : Int) : -1 ≤ findC c xs p := (find_spec c xs p).lo
theorem find_hi (c : Nat) (xs : List Row) (p : Int) : findC c xs p < xs.length := (find_spec c xs p).hi
end Go.Proofs.Ytfchlcghildiaaa.V
