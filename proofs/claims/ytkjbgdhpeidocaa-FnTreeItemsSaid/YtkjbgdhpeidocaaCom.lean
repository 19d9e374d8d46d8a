/-
  Common to all functions: loop variables, rows in their normal form, slices that are filled, marks.
-/
import Derived.Test.YtkjbgdhpeidocaaVcZ
set_option linter.unusedSimpArgs false
set_option linter.unusedVariables false
namespace Go.Proofs.Ytkjbgdhpeidocaa.V
open Go Go.RowKit
open Classical

/-- The variable of a loop. -/
structure Lv (k : Nat) (α : Type) where
  v : α
/-- Slots, each once. -/
def ddT : List Nat → List (Nat × AV) → List (Nat × AV)
  | _, [] => []
  | s, (t, v) :: r => match memN t s with
    | true => ddT s r
    | false => (t, v) :: ddT (t :: s) r
/-- A state with slots and entries anew. -/
def upW (σ : St) (u : List (Nat × AV)) (hp : List (Option Entry)) : St := ⟨u ++ ddT [] σ.tm, hp⟩
def up (σ : St) (u : List (Nat × AV)) : St := upW σ u σ.hp
def upH (σ : St) (u : List (Nat × AV)) (k : Nat) (e : Entry) : St := upW σ u (setH σ.hp k (some e))
/-- Entry k, new if it is not there. -/
def putE (hp : List (Option Entry)) (k : Nat) (e : Entry) : List (Option Entry) := match Nat.beq (lenH hp) k with
  | true => pushH hp e
  | false => setH hp k (some e)
def upN (σ : St) (u : List (Nat × AV)) (k : Nat) (e : Entry) : St := upW σ u (putE σ.hp k e)

theorem fits_i64 {n : Int} (h : -9223372036854775808 ≤ n ∧ n ≤ 9223372036854775807) : Fits .i64 n := ⟨h.1, h.2⟩
theorem fits_u8 {n : Int} (h : 0 ≤ n ∧ n ≤ 255) : Fits .u8 n := ⟨h.1, h.2⟩
def big : Int := 9223372036854775808
theorem lenK_one (k : Kd) : lenK [k] = 1 := rfl
theorem true_eq {p : Prop} [Decidable p] (h : p) : true = decide p := by symm; rwa [decide_eq_true_eq]
theorem false_eq {p : Prop} [Decidable p] (h : ¬ p) : false = decide p := by symm; rwa [decide_eq_false_iff_not]

/-! Rows. -/
theorem row_set {xs : List Row} {i j : Nat} {r : Row} : row (xs.set i r) j = if i = j ∧ j < xs.length then r else row xs j := by
  unfold row
  rw [List.getD_eq_getElem?_getD, List.getD_eq_getElem?_getD, List.getElem?_set]
  by_cases h : i = j
  · subst h
    by_cases h2 : i < xs.length
    · simp [h2]
    · simp [h2]
  · simp [h]
theorem row_set_self {xs : List Row} {i : Nat} {r : Row} (h : i < xs.length) : row (xs.set i r) i = r := by rw [row_set, if_pos ⟨rfl, h⟩]
theorem row_map {f : Row → Row} {xs : List Row} {i : Nat} (h : i < xs.length) : row (xs.map f) i = f (row xs i) := by
  unfold row
  rw [List.getD_eq_getElem?_getD, List.getD_eq_getElem?_getD, List.getElem?_map, List.getElem?_eq_getElem h]
  rfl
theorem row_some {xs : List Row} {i : Nat} (h : i < xs.length) : xs[i]? = some (row xs i) := by
  unfold row; rw [List.getD_eq_getElem?_getD, List.getElem?_eq_getElem h]; rfl
theorem row_part {xs : List Row} {l r i : Nat} (h : l + i < r) (_ : r ≤ xs.length) : row ((xs.take r).drop l) i = row xs (l + i) := by
  unfold row
  rw [List.getD_eq_getElem?_getD, List.getD_eq_getElem?_getD, List.getElem?_drop, List.getElem?_take, if_pos h]
theorem part_len {xs : List Row} {l r : Nat} (hr : r ≤ xs.length) : ((xs.take r).drop l).length = r - l := by simp; omega
theorem row_append {xs ys : List Row} {i : Nat} : row (xs ++ ys) i = if i < xs.length then row xs i else row ys (i - xs.length) := by
  unfold row
  rw [List.getD_eq_getElem?_getD, List.getD_eq_getElem?_getD, List.getD_eq_getElem?_getD]
  split
  · rename_i h; rw [List.getElem?_append_left h]
  · rename_i h; rw [List.getElem?_append_right (by omega)]
theorem rows_ext {xs ys : List Row} (hl : xs.length = ys.length) (h : ∀ i, i < xs.length → row xs i = row ys i) : xs = ys := by
  apply List.ext_getElem hl
  intro i h1 h2
  have := h i h1
  have e1 := row_some h1
  have e2 := row_some h2
  rw [List.getElem?_eq_getElem h1] at e1
  rw [List.getElem?_eq_getElem h2] at e2
  rw [Option.some.inj e1, Option.some.inj e2, this]
theorem take_succ_row {xs : List Row} {i : Nat} (h : i < xs.length) : xs.take (i + 1) = xs.take i ++ [row xs i] := by
  rw [List.take_add_one, row_some h]; rfl

/-- A row in its normal form. -/
def nrmK : List Kd → Row → Nat → Row
  | [], _, _ => []
  | .int _ :: ks, r, c => .i (rc r c).int :: nrmK ks r (c + 1)
  | .bool :: ks, r, c => .b (rc r c).bool :: nrmK ks r (c + 1)
  | .str :: ks, r, c => .s (rc r c).str :: nrmK ks r (c + 1)
def nrm (ks : List Kd) (r : Row) : Row := nrmK ks r 0
def nrms (ks : List Kd) (xs : List Row) : List Row := xs.map (nrm ks)
theorem nrmK_app : ∀ (ks : List Kd) (p r : Row) (c : Nat), nrmK ks (p ++ nrmK ks r c) p.length = nrmK ks r c
  | [], _, _, _ => rfl
  | k :: ks, p, r, c => by
    have e : ∀ (s : Sc) (q : Row), rc (p ++ s :: q) p.length = s := fun s q => by simp [rc]
    have ih : ∀ s : Sc, nrmK ks (p ++ s :: nrmK ks r (c + 1)) (p.length + 1) = nrmK ks r (c + 1) := fun s => by
      have := nrmK_app ks (p ++ [s]) r (c + 1)
      simpa using this
    cases k <;> simp only [nrmK, e, ih, Sc.int_i, Sc.bool_b, Sc.str_s]
theorem nrm_nrm (ks : List Kd) (r : Row) : nrm ks (nrm ks r) = nrm ks r := by simpa [nrm] using nrmK_app ks [] r 0
theorem nrms_nrms (ks : List Kd) (xs : List Row) : nrms ks (nrms ks xs) = nrms ks xs := by
  simp only [nrms, List.map_map]; congr 1; funext r; exact nrm_nrm ks r
theorem nrms_len (ks : List Kd) (xs : List Row) : (nrms ks xs).length = xs.length := by simp [nrms]
theorem row_nrms {ks : List Kd} {xs : List Row} {i : Nat} (h : i < xs.length) : row (nrms ks xs) i = nrm ks (row xs i) := row_map h
theorem nrms_append (ks : List Kd) (xs ys : List Row) : nrms ks (xs ++ ys) = nrms ks xs ++ nrms ks ys := by simp [nrms]
theorem nrmK_get : ∀ (ks : List Kd) (r : Row) (d c : Nat) (kd : Kd), getK ks c = some kd → kd.av (rc (nrmK ks r d) c) = kd.av (rc r (d + c))
  | [], _, _, _, _, h => by simp [getK] at h
  | k :: ks, r, d, 0, kd, h => by
    simp only [getK, Option.some.injEq] at h
    subst h
    cases k <;> simp [nrmK, rc, Kd.av]
  | k :: ks, r, d, c + 1, kd, h => by
    simp only [getK] at h
    have := nrmK_get ks r (d + 1) c kd h
    rw [show d + 1 + c = d + (c + 1) by omega] at this
    rw [← this]
    cases k <;> simp [nrmK, rc]

/-- A slice that is being filled: the first i rows are done. -/
def fill (f : Row → Row) (z : Row) (xs : List Row) (i : Nat) : List Row := (xs.take i).map f ++ List.replicate (xs.length - i) z
theorem fill_len {f : Row → Row} {z : Row} {xs : List Row} {i : Nat} : (fill f z xs i).length = xs.length := by
  simp [fill]; omega
theorem fill_zero (f : Row → Row) (z : Row) (xs : List Row) : fill f z xs 0 = List.replicate xs.length z := by simp [fill]
theorem fill_all (f : Row → Row) (z : Row) (xs : List Row) : fill f z xs xs.length = xs.map f := by simp [fill]
theorem fill_row (f : Row → Row) (z : Row) (xs : List Row) {i : Nat} (h : i < xs.length) : row (fill f z xs i) i = z := by
  unfold row fill
  rw [List.getD_eq_getElem?_getD, List.getElem?_append_right (by simp; omega)]
  simp only [List.length_map, List.length_take]
  rw [List.getElem?_replicate]
  rw [if_pos (by omega)]
  rfl
theorem fill_end {f : Row → Row} {z : Row} {xs : List Row} {i : Nat} (h : ¬ (i : Int) < xs.length) (h2 : i ≤ xs.length) : fill f z xs i = xs.map f := by
  rw [show i = xs.length by omega]; exact fill_all f z xs
theorem fill_set (f : Row → Row) (z : Row) (xs : List Row) {i : Nat} (h : i < xs.length) : (fill f z xs i).set i (f (row xs i)) = fill f z xs (i + 1) := by
  unfold fill
  have h1 : (List.map f (List.take i xs)).length = i := by simp; omega
  rw [List.set_append_right _ _ (by omega), h1, Nat.sub_self]
  rw [show xs.length - i = (xs.length - (i + 1)) + 1 by omega, List.replicate_succ, List.set_cons_zero]
  rw [List.take_add_one, List.map_append, List.append_assoc]
  congr 1
  rw [row_some h]; rfl
/-- One row more of a slice that is being filled with the rows of another one. -/
theorem fill_step {ks : List Kd} {z r : Row} {xs : List Row} {i : Nat} (h : (i : Int) < xs.length) (hr : ∀ q : Row, q = zeroRow ks → pasteR q 0 r = nrm ks (row xs i)) (hz : z = zeroRow ks) :
    (fill (nrm ks) z xs i).set (i : Int).toNat (pasteR (row (fill (nrm ks) z xs i) (i : Int).toNat) 0 r) = fill (nrm ks) z xs (i + 1) := by
  subst hz
  rw [Int.toNat_natCast, fill_row _ _ _ (by omega), hr _ rfl]
  exact fill_set (nrm ks) _ xs (by omega)

/-! Equal rows. -/
structure Same (ks : List Kd) (xs ys : List Row) (n : Nat) : Prop where
  h : ∀ i, i < n → nrm ks (row xs i) = nrm ks (row ys i)
theorem same_zero (ks : List Kd) (xs ys : List Row) : Same ks xs ys 0 := ⟨fun i h => by omega⟩
theorem same_step {ks : List Kd} {xs ys : List Row} {n : Nat} (h : Same ks xs ys n) (h1 : nrm ks (row xs n) = nrm ks (row ys n)) : Same ks xs ys (n + 1) := ⟨by
  intro i hi
  rcases Nat.lt_succ_iff_lt_or_eq.1 hi with h4 | rfl
  · exact h.h i h4
  · exact h1⟩
theorem same_all {ks : List Kd} {xs ys : List Row} {n : Nat} (h : Same ks xs ys n) (hl : (xs.length : Int) = ys.length) (hn : n ≤ xs.length) (hn2 : ¬ (n : Int) < xs.length) : true = decide (nrms ks xs = nrms ks ys) := by
  have : n = xs.length := by omega
  subst this
  refine true_eq (rows_ext (by rw [nrms_len, nrms_len]; omega) (fun i hi => ?_))
  rw [nrms_len] at hi
  rw [row_nrms hi, row_nrms (by omega)]
  exact h.h i hi
theorem same_len {ks : List Kd} {xs ys : List Row} (hl : ¬ (xs.length : Int) = ys.length) : false = decide (nrms ks xs = nrms ks ys) := by
  refine false_eq (fun he => hl ?_)
  have := congrArg List.length he
  simp only [nrms_len] at this
  omega
theorem same_not {ks : List Kd} {xs ys : List Row} {n : Nat} (hn : n < xs.length) (hl : (xs.length : Int) = ys.length) (h : ¬ nrm ks (row xs n) = nrm ks (row ys n)) : false = decide (nrms ks xs = nrms ks ys) := by
  refine false_eq (fun he => h ?_)
  rw [← row_nrms hn, he, row_nrms (by omega)]

/-! Marks. -/
def markC : List Kd → Int → Row
  | [], _ => []
  | .int _ :: ks, k => .i k :: markC ks (k + 1)
  | .bool :: ks, k => .b (k.tmod 3 == 0) :: markC ks (k + 1)
  | .str :: ks, k => .s [] :: markC ks (k + 1)
def marks (ks : List Kd) : Nat → Int → List Row
  | 0, _ => []
  | n + 1, k => markC ks k :: marks ks n (k + lenK ks)
theorem marks_len (ks : List Kd) : ∀ (n : Nat) (k : Int), (marks ks n k).length = n
  | 0, _ => rfl
  | n + 1, k => by simp [marks, marks_len ks n]
theorem row_marks (ks : List Kd) : ∀ (n i : Nat) (k : Int), i < n → row (marks ks n k) i = markC ks (k + i * lenK ks)
  | n + 1, 0, k, _ => by simp [marks, row]
  | n + 1, i + 1, k, h => by
    have := row_marks ks n i (k + lenK ks) (by omega)
    simp only [marks, row, List.getD_cons_succ] at this ⊢
    rw [this]
    congr 1
    rw [Int.natCast_add, Int.add_mul]
    simp
    omega
theorem marks_snoc (ks : List Kd) : ∀ (i : Nat) (k : Int), marks ks (i + 1) k = marks ks i k ++ [markC ks (k + i * lenK ks)]
  | 0, k => by simp [marks]
  | i + 1, k => by
    have := marks_snoc ks i (k + lenK ks)
    rw [marks, this]
    simp only [marks, List.cons_append]
    congr 4
    rw [Int.natCast_add, Int.add_mul]; simp; omega
theorem markC_nrm : ∀ (ks : List Kd) (p : Row) (k : Int), nrmK ks (p ++ markC ks k) p.length = markC ks k
  | [], _, _ => rfl
  | kd :: ks, p, k => by
    have e : ∀ (s : Sc) (q : Row), rc (p ++ s :: q) p.length = s := fun s q => by simp [rc]
    have ih : ∀ s : Sc, nrmK ks (p ++ s :: markC ks (k + 1)) (p.length + 1) = markC ks (k + 1) := fun s => by
      have := markC_nrm ks (p ++ [s]) (k + 1)
      simpa using this
    cases kd <;> simp only [markC, nrmK, e, ih, Sc.int_i, Sc.bool_b, Sc.str_s]
theorem nrms_marks (ks : List Kd) : ∀ (n : Nat) (k : Int), nrms ks (marks ks n k) = marks ks n k
  | 0, _ => rfl
  | n + 1, k => by
    have := nrms_marks ks n (k + lenK ks)
    simp only [nrms, marks, List.map_cons] at this ⊢
    rw [this]
    congr 1
    simpa [nrm] using markC_nrm ks [] k
/-- The first i rows are marked. -/
def marking (ks : List Kd) (xs : List Row) (k : Int) (i : Nat) : List Row := marks ks (min i xs.length) k ++ xs.drop i
theorem marking_len {ks : List Kd} {xs : List Row} {k : Int} {i : Nat} : (marking ks xs k i).length = xs.length := by
  simp [marking, marks_len]; omega
theorem marking_zero (ks : List Kd) (xs : List Row) (k : Int) : marking ks xs k 0 = xs := by simp [marking, marks]
theorem marking_end {ks : List Kd} {xs : List Row} {k : Int} {i : Nat} (h : ¬ (i : Int) < xs.length) (h2 : i ≤ xs.length) : marking ks xs k i = marks ks xs.length k := by
  rw [show i = xs.length by omega]; simp [marking]
theorem row_marking {ks : List Kd} {xs : List Row} {k : Int} {i : Nat} (h : i < xs.length) : row (marking ks xs k i) i = row xs i := by
  unfold marking
  rw [row_append, marks_len, if_neg (by omega), Nat.min_eq_left (by omega)]
  unfold row
  rw [List.getD_eq_getElem?_getD, List.getD_eq_getElem?_getD, List.getElem?_drop]
  simp
theorem marking_set {ks : List Kd} {xs : List Row} {k : Int} {i : Nat} (h : i < xs.length) : (marking ks xs k i).set i (markC ks (k + i * lenK ks)) = marking ks xs k (i + 1) := by
  unfold marking
  rw [Nat.min_eq_left (by omega), Nat.min_eq_left (by omega), List.set_append_right _ _ (by rw [marks_len]; omega), marks_len, Nat.sub_self, marks_snoc, List.append_assoc]
  congr 1
  rw [List.drop_eq_getElem_cons h]
  rfl
/-- Two cells of one row written, one behind the other. -/
theorem set2 {M : List Row} {i : Nat} {r s : Row} {c : Nat} (h : i < M.length) : (M.set i r).set i (pasteR (row (M.set i r) i) c s) = M.set i (pasteR r c s) := by
  rw [row_set_self h, List.set_set]
theorem row_of_nrms {ks : List Kd} {xs : List Row} {i : Nat} (hx : nrms ks xs = xs) (h : i < xs.length) : row xs i = nrm ks (row xs i) := by
  have := row_nrms (ks := ks) h
  rw [hx] at this; exact this
theorem mark_fin {ks : List Kd} {xs : List Row} {k : Int} {i : Nat} {R : List Row} (g : Row → Row) (h : i < xs.length) (hx : nrms ks xs = xs) (hR : R = (marking ks xs k i).set i (g (row (marking ks xs k i) i)))
    (hg : ∀ q, g (nrm ks q) = markC ks (k + i * lenK ks)) : R = marking ks xs k (i + 1) := by
  rw [hR, row_marking h, row_of_nrms hx h, hg]
  exact marking_set h
theorem mark_end {k : Int} {i n : Nat} {m : Int} {c : Nat} (h : ¬ (i : Int) < n) (h2 : i ≤ n) (hm : m = c) : k + i * m = k + n * (c : Int) := by
  rw [show i = n by omega, hm]

/-! Contracts of the laws' own functions on slices of structs. -/
def cSz (ks : List Kd) : Ct := ⟨[], fun ds K => match ds with
  | [.view js xs, .int .i64 n] => js = ks ∧ (xs.length : Int) < big ∧ 0 ≤ n ∧ n < big ∧ K (.int .i64 (if n < xs.length then -1 else n - xs.length)) []
  | _ => False⟩
def cTo (e : Nat) (ks : List Kd) : Ct := ⟨[], fun ds K => match ds with
  | [.view js xs] => js = ks ∧ xs.length ≤ 1048576 ∧ K (.fr e ks (nrms ks xs)) []
  | _ => False⟩
noncomputable def cEq (ks : List Kd) : Ct := ⟨[], fun ds K => match ds with
  | [.view js xs, .view ls ys] => js = ks ∧ ls = ks ∧ (xs.length : Int) < big ∧ K (.bool (decide (nrms ks xs = nrms ks ys))) []
  | _ => False⟩
def cMark (e : Nat) (ks : List Kd) : Ct := ⟨[true], fun ds K => match ds with
  | [.fr f js xs, .int .i64 k] => f = e ∧ js = ks ∧ nrms ks xs = xs ∧ (0 ≤ k ∧ k ≤ 1000000000000 ∧ xs.length ≤ 1048576) ∧ K (.int .i64 (k + xs.length * lenK ks)) [.fr e ks (marks ks xs.length k)]
  | [.view js xs, .int .i64 k] => js = ks ∧ xs = [] ∧ K (.int .i64 k) []
  | _ => False⟩
def cHeld (ks : List Kd) : Ct := ⟨[], fun ds K => match ds with
  | [.view js xs, .int .i64 k] => js = ks ∧ (0 ≤ k ∧ k ≤ 1000000000000 ∧ xs.length ≤ 1048576) ∧ xs = marks ks xs.length k ∧ K (.int .i64 (k + xs.length * lenK ks)) []
  | _ => False⟩
end Go.Proofs.Ytkjbgdhpeidocaa.V
