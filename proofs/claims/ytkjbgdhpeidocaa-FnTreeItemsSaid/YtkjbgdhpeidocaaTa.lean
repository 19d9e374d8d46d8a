/-
  Slices of slices of items: the laws' own functions on them.
-/
import Derived.Test.YtkjbgdhpeidocaaTyTree
set_option linter.unusedSimpArgs false
set_option linter.unusedVariables false
namespace Go.Proofs.Ytkjbgdhpeidocaa.V
open Go Go.RowKit
open Classical

/-- A contract that asks for more. -/
theorem Proved.weak {f : Nat} {C C' : Ct} (h : Proved f C) (hr : ∀ ds K, C'.rel ds K → C.rel ds K) : Proved f C' :=
  ⟨fun V w ds vs B K h0 h1 h2 h3 h4 h5 => h.sound V w ds vs B K h0 h1 h2 h3 h4 (hr ds K h5), h.call⟩

/-- How many rows there are in all. -/
def tot : List (List Row) → Nat
  | [] => 0
  | xs :: r => xs.length + tot r
theorem tot_append : ∀ xss yss : List (List Row), tot (xss ++ yss) = tot xss + tot yss
  | [], yss => by simp [tot]
  | xs :: r, yss => by simp [tot, tot_append r yss]; omega
theorem tot_succ (xss : List (List Row)) (i : Nat) (h : i < xss.length) : tot (xss.take (i + 1)) = tot (xss.take i) + (xss.getD i []).length := by
  rw [List.take_add_one, tot_append, List.getElem?_eq_getElem h, List.getD_eq_getElem?_getD, List.getElem?_eq_getElem h]
  simp [tot]
theorem tot_le (xss : List (List Row)) (i : Nat) : tot (xss.take i) ≤ tot xss := by
  have := tot_append (xss.take i) (xss.drop i)
  rw [List.take_append_drop] at this
  omega
theorem tot_all {xss : List (List Row)} {i : Nat} (h : ¬ (i : Int) < xss.length) : xss.take i = xss := List.take_of_length_le (by omega)
theorem tot_end {xss : List (List Row)} {i : Nat} (h : ¬ (i : Int) < xss.length) : tot (xss.take i) = tot xss := by rw [tot_all h]
theorem len_tot (xss : List (List Row)) (i : Nat) : (xss.getD i []).length ≤ tot xss := by
  by_cases h : i < xss.length
  · have h1 := tot_succ xss i h
    have h2 := tot_le xss (i + 1)
    omega
  · rw [List.getD_eq_getElem?_getD, List.getElem?_eq_none (by omega)]; simp
theorem tot_map (f : List Row → List Row) (hf : ∀ xs, (f xs).length = xs.length) : ∀ xss : List (List Row), tot (xss.map f) = tot xss
  | [] => rfl
  | xs :: r => by simp [tot, hf, tot_map f hf r]
theorem tot_map_take (f : List Row → List Row) (hf : ∀ xs, (f xs).length = xs.length) (xss : List (List Row)) (i : Nat) : tot ((xss.map f).take i) = tot (xss.take i) := by
  rw [← List.map_take]; exact tot_map f hf _
/-- All slices are short enough to be counted. -/
structure Sml (xss : List (List Row)) : Prop where
  h : ∀ i, ((xss.getD i []).length : Int) < 9223372036854775808

def cSzQ (ks : List Kd) : Ct := ⟨[], fun ds K => match ds with
  | [.view js xs, .int .i64 n] => js = ks ∧ (xs.length : Int) < big ∧ 0 ≤ n ∧ n < big ∧ ∀ q : Int, ((q = -1 ∧ n < xs.length) ∨ (q = n - xs.length ∧ (xs.length : Int) ≤ n)) → K (.int .i64 q) []
  | _ => False⟩
theorem p_szItemQ : Proved 8 (cSzQ KItem) := p_szItemS.weak fun ds K h => by
  simp only [cSzQ] at h
  split at h
  · obtain ⟨h1, h2, h3, h4, h5⟩ := h
    exact ⟨h1, h2, h3, h4, h5 _ (by split <;> omega)⟩
  · exact h.elim
def cSzSS (ks : List Kd) : Ct := ⟨[], fun ds K => match ds with
  | [.vv js xss, .int .i64 n] => js = ks ∧ Sml xss ∧ ((xss.length : Int) < big ∧ 0 ≤ n ∧ n < big) ∧ ∀ q : Int, ((q = -1 ∧ n < xss.length + tot xss) ∨ (q = n - xss.length - tot xss ∧ ((xss.length + tot xss : Nat) : Int) ≤ n)) → K (.int .i64 q) []
  | _ => False⟩
def cSzTree (ks : List Kd) : Ct := ⟨[], fun ds K => match ds with
  | [.agg [.vv js xss], .int .i64 n] => js = ks ∧ Sml xss ∧ ((xss.length : Int) < big ∧ 0 ≤ n ∧ n < big) ∧ ∀ q : Int, ((q = -1 ∧ n < xss.length + tot xss) ∨ (q = n - xss.length - tot xss ∧ ((xss.length + tot xss : Nat) : Int) ≤ n)) → K (.int .i64 q) []
  | _ => False⟩
def cToSS (e f : Nat) (ks : List Kd) : Ct := ⟨[], fun ds K => match ds with
  | [.vv js xss] => js = ks ∧ (xss.length ≤ 1048576 ∧ tot xss ≤ 1048576) ∧ K (.frn e f ks (xss.map (nrms ks))) []
  | _ => False⟩
def cToTree (e f : Nat) (ks : List Kd) : Ct := ⟨[], fun ds K => match ds with
  | [.agg [.vv js xss]] => js = ks ∧ (xss.length ≤ 1048576 ∧ tot xss ≤ 1048576) ∧ K (.agg [.frn e f ks (xss.map (nrms ks))]) []
  | _ => False⟩
noncomputable def cEqSS (ks : List Kd) : Ct := ⟨[], fun ds K => match ds with
  | [.vv js xss, .vv ls yss] => js = ks ∧ ls = ks ∧ (xss.length ≤ 1048576 ∧ tot xss ≤ 1048576 ∧ yss.length ≤ 1048576) ∧ K (.bool (decide (xss.map (nrms ks) = yss.map (nrms ks)))) []
  | _ => False⟩
noncomputable def cEqTree (ks : List Kd) : Ct := ⟨[], fun ds K => match ds with
  | [.agg [.vv js xss], .agg [.vv ls yss]] => js = ks ∧ ls = ks ∧ (xss.length ≤ 1048576 ∧ tot xss ≤ 1048576 ∧ yss.length ≤ 1048576) ∧ K (.bool (decide (xss.map (nrms ks) = yss.map (nrms ks)))) []
  | _ => False⟩
/-- Marks over slices of slices. -/
def marksS (ks : List Kd) : List (List Row) → Int → List (List Row)
  | [], _ => []
  | xs :: r, k => marks ks xs.length k :: marksS ks r (k + xs.length * lenK ks)
theorem marksS_len (ks : List Kd) : ∀ (xss : List (List Row)) (k : Int), (marksS ks xss k).length = xss.length
  | [], _ => rfl
  | xs :: r, k => by simp [marksS, marksS_len ks r]
theorem marksS_tot (ks : List Kd) : ∀ (xss : List (List Row)) (k : Int), tot (marksS ks xss k) = tot xss
  | [], _ => rfl
  | xs :: r, k => by simp [marksS, tot, marks_len, marksS_tot ks r]
theorem marksS_get (ks : List Kd) : ∀ (xss : List (List Row)) (k : Int) (i : Nat), i < xss.length → (marksS ks xss k).getD i [] = marks ks (xss.getD i []).length (k + tot (xss.take i) * lenK ks)
  | [], _, i, h => by simp at h
  | xs :: r, k, 0, _ => by simp [marksS, tot]
  | xs :: r, k, i + 1, h => by
    have := marksS_get ks r (k + xs.length * lenK ks) i (by simpa using h)
    simp only [marksS, List.getD_cons_succ, List.take_succ_cons, tot] at this ⊢
    rw [this, Int.natCast_add, Int.add_mul]
    congr 1
    omega
theorem marksS_nrms (ks : List Kd) : ∀ (xss : List (List Row)) (k : Int), (marksS ks xss k).map (nrms ks) = marksS ks xss k
  | [], _ => rfl
  | xs :: r, k => by simp only [marksS, List.map_cons, nrms_marks, marksS_nrms ks r]
theorem marksS_shape (ks : List Kd) : ∀ (xss yss : List (List Row)) (k : Int), xss.map List.length = yss.map List.length → marksS ks xss k = marksS ks yss k
  | [], [], _, _ => rfl
  | [], _ :: _, _, h => by simp at h
  | _ :: _, [], _, h => by simp at h
  | xs :: r, ys :: s, k, h => by
    simp only [List.map_cons, List.cons.injEq] at h
    simp only [marksS, h.1]
    rw [marksS_shape ks r s _ h.2]
theorem marksS_lens (ks : List Kd) : ∀ (xss : List (List Row)) (k : Int), (marksS ks xss k).map List.length = xss.map List.length
  | [], _ => rfl
  | xs :: r, k => by simp only [marksS, List.map_cons, marks_len, marksS_lens ks r]
theorem marksS_marksS (ks : List Kd) (xss : List (List Row)) (k : Int) : marksS ks xss k = marksS ks (marksS ks xss k) k := marksS_shape ks _ _ k (marksS_lens ks xss k).symm
def cHeldQ (ks : List Kd) : Ct := ⟨[], fun ds K => match ds with
  | [.view js xs, .int .i64 k] => js = ks ∧ (0 ≤ k ∧ k ≤ 1000000000000 ∧ xs.length ≤ 1048576) ∧ xs = marks ks xs.length k ∧ K (.int .i64 (k + xs.length * 2)) []
  | _ => False⟩
theorem p_heldItemQ : Proved 23 (cHeldQ KItem) := p_heldItemS.weak fun ds K h => by
  simp only [cHeldQ] at h
  split at h
  · exact h
  · exact h.elim
def cHeldSS (ks : List Kd) : Ct := ⟨[], fun ds K => match ds with
  | [.vv js xss, .int .i64 k] => js = ks ∧ (0 ≤ k ∧ k ≤ 1000000000 ∧ xss.length ≤ 1048576 ∧ tot xss ≤ 1048576) ∧ xss = marksS ks xss k ∧ K (.int .i64 (k + tot xss * 2)) []
  | _ => False⟩
def cHeldTree (ks : List Kd) : Ct := ⟨[], fun ds K => match ds with
  | [.agg [.vv js xss], .int .i64 k] => js = ks ∧ (0 ≤ k ∧ k ≤ 1000000000 ∧ xss.length ≤ 1048576 ∧ tot xss ≤ 1048576) ∧ xss = marksS ks xss k ∧ K (.int .i64 (k + tot xss * 2)) []
  | _ => False⟩
/-- A slice of slices that is being filled. -/
def fillS (ks : List Kd) (xss : List (List Row)) (i : Nat) : List (List Row) := (xss.take i).map (nrms ks) ++ List.replicate (xss.length - i) []
theorem fillS_len {ks : List Kd} {xss : List (List Row)} {i : Nat} : (fillS ks xss i).length = xss.length := by simp [fillS]; omega
theorem fillS_zero (ks : List Kd) (xss : List (List Row)) : fillS ks xss 0 = List.replicate xss.length [] := by simp [fillS]
theorem fillS_end {ks : List Kd} {xss : List (List Row)} {i : Nat} (h : ¬ (i : Int) < xss.length) (h2 : i ≤ xss.length) : fillS ks xss i = xss.map (nrms ks) := by
  rw [show i = xss.length by omega]; simp [fillS]
theorem fillS_step {ks : List Kd} {xss : List (List Row)} {i : Nat} (h : (i : Int) < xss.length) : (fillS ks xss i).set i (nrms ks (xss.getD i [])) = fillS ks xss (i + 1) := by
  have h : i < xss.length := by omega
  unfold fillS
  have h1 : (List.map (nrms ks) (List.take i xss)).length = i := by simp; omega
  rw [List.set_append_right _ _ (by omega), h1, Nat.sub_self]
  rw [show xss.length - i = (xss.length - (i + 1)) + 1 by omega, List.replicate_succ, List.set_cons_zero]
  rw [List.take_add_one, List.map_append, List.append_assoc]
  congr 1
  rw [List.getElem?_eq_getElem h, List.getD_eq_getElem?_getD, List.getElem?_eq_getElem h]; rfl
structure SameS (ks : List Kd) (xss yss : List (List Row)) (n : Nat) : Prop where
  h : ∀ i, i < n → nrms ks (xss.getD i []) = nrms ks (yss.getD i [])
theorem sameS_zero (ks : List Kd) (xss yss : List (List Row)) : SameS ks xss yss 0 := ⟨fun i h => by omega⟩
theorem sameS_step {ks : List Kd} {xss yss : List (List Row)} {n : Nat} (h : SameS ks xss yss n) (h1 : nrms ks (xss.getD n []) = nrms ks (yss.getD n [])) : SameS ks xss yss (n + 1) := ⟨by
  intro i hi
  rcases Nat.lt_succ_iff_lt_or_eq.1 hi with h4 | rfl
  · exact h.h i h4
  · exact h1⟩
theorem map_getD (ks : List Kd) {xss : List (List Row)} {i : Nat} : (xss.map (nrms ks)).getD i [] = nrms ks (xss.getD i []) := by
  rw [List.getD_eq_getElem?_getD, List.getD_eq_getElem?_getD, List.getElem?_map]
  cases xss[i]? <;> rfl
theorem sameS_all {ks : List Kd} {xss yss : List (List Row)} {n : Nat} (h : SameS ks xss yss n) (hl : (xss.length : Int) = yss.length) (hn : n ≤ xss.length) (hn2 : ¬ (n : Int) < xss.length) : true = decide (xss.map (nrms ks) = yss.map (nrms ks)) := by
  have : n = xss.length := by omega
  subst this
  refine true_eq ?_
  apply List.ext_getElem (by simp; omega)
  intro i h1 h2
  have := h.h i (by simpa using h1)
  rw [← map_getD, ← map_getD, List.getD_eq_getElem?_getD, List.getD_eq_getElem?_getD, List.getElem?_eq_getElem h1, List.getElem?_eq_getElem h2] at this
  exact this
theorem sameS_len {ks : List Kd} {xss yss : List (List Row)} (hl : ¬ (xss.length : Int) = yss.length) : false = decide (xss.map (nrms ks) = yss.map (nrms ks)) := by
  refine false_eq (fun he => hl ?_)
  have := congrArg List.length he
  simp only [List.length_map] at this
  omega
theorem sameS_not {ks : List Kd} {xss yss : List (List Row)} {n : Nat} (h : ¬ nrms ks (xss.getD n []) = nrms ks (yss.getD n [])) : false = decide (xss.map (nrms ks) = yss.map (nrms ks)) := by
  refine false_eq (fun he => h ?_)
  rw [← map_getD, he, map_getD]
set_option maxRecDepth 100000 in
set_option maxHeartbeats 4000000 in
theorem p_szItemSS : Proved 36 (cSzSS KItem) := by
  refine proved_of [(8, cSzQ KItem)] ⟨p_szItemQ, trivial⟩ [.tmp 4] Try.func36 rfl rfl rfl rfl (by kernel_rfl) ?_
  intro ds K hrel
  simp only [cSzSS] at hrel
  split at hrel
  case h_2 => exact hrel.elim
  rename_i ks xss n
  obtain ⟨rfl, hs, ⟨h1, h2, h3⟩, hrel⟩ := hrel
  refine ⟨rfl, Nat.le_of_ble_eq_true rfl, fun k σ => match k with
    | 5 => some { α := Lv 5 Nat, R := fun i => i.v ≤ xss.length ∧ 0 ≤ n - xss.length - tot (xss.take i.v), μ := fun i => xss.length - i.v,
                  st := fun i => up σ [(5, .int .i64 i.v), (1, .int .i64 (n - xss.length - tot (xss.take i.v)))] }
    | _ => none, ?_⟩
  repeat' (first | with_reducible refine And.intro ?_ ?_ | (with_reducible intro h; first | (exact absurd h (by decide)) | (guard_hyp h : true = true; clear h) | (guard_hyp h : false = false; clear h) | skip) | with_reducible exact True.intro | ((with_reducible refine (id ?_ : @Eq Bool (nodupN _) true)); kernel_rfl) | ((with_reducible refine (id ?_ : @Eq Bool (apartN _ _) true)); kernel_rfl) | ((with_reducible refine (id ?_ : @Eq Bool (formL _ _) true)); kernel_rfl) | ((with_reducible refine (id ?_ : @Eq _ _ _)); exact rfl) | ((conv => whnf); first | done | with_reducible refine And.intro ?_ ?_ | (with_reducible intro h; first | (exact absurd h (by decide)) | (guard_hyp h : true = true; clear h) | (guard_hyp h : false = false; clear h) | skip) | with_reducible exact True.intro | ((with_reducible refine (id ?_ : @Eq _ _ _)); exact rfl) | refine Exists.intro (⟨(by with_reducible assumption : Lv 5 Nat).v + 1⟩ : Lv 5 Nat) ?_ | refine Exists.intro (⟨0⟩ : Lv 5 Nat) ?_ | (refine Exists.intro _ (Exists.intro _ (And.intro (hrel ?_ ?_) ?_))) | refine Exists.intro _ (Exists.intro _ (And.intro hrel ?_)) | exact Or.inl rfl | exact Or.inr (And.intro rfl rfl) | (apply Exists.intro; refine And.intro ?_ ?_)) | exact Nat.le_of_ble_eq_true rfl)
  all_goals (try ((try (change _ = _)) <;> (try dsimp only at *) <;> (try simp only [decide_eq_true_eq, decide_eq_false_iff_not, Bool.not_eq_true', Bool.not_eq_false', Bool.and_eq_true, Bool.and_eq_false_iff, beq_iff_eq, bne_iff_ne, beq_eq_false_iff_ne, bne_eq_false_iff_eq, ne_eq, Decidable.not_not, bne_self_eq_false, Bool.false_eq_true, Bool.true_eq_false, Bool.not_true, Bool.not_false, not_true_eq_false, not_false_eq_true, Int.toNat_natCast, Nat.zero_add, Nat.reduceAdd, Nat.reduceMul, Nat.reduceDiv, Nat.mul_one, lenK_one, big, fill_len, marking_len, marks_len, nrms_len, List.length_set, List.length_append, List.length_map, List.length_replicate, List.length_cons, List.length_nil, Int.natCast_add, Int.natCast_one, Int.natCast_zero, true_and] at *) <;> (repeat (with_reducible rename _ ∧ _ => hh; obtain ⟨_, _⟩ := hh)) <;> (first | omega | (refine fits_i64 ?_; omega) | (split <;> omega) | (with_reducible exact hs.h _) | (rw [List.take_zero]; simp only [tot]; omega) | (have ht := tot_succ xss (Lv.v (by with_reducible assumption : Lv 5 Nat)) (by omega); have hm := tot_le xss ((Lv.v (by with_reducible assumption : Lv 5 Nat)) + 1); omega) | (have ht := tot_end (xss := xss) (i := (Lv.v (by with_reducible assumption : Lv 5 Nat))) (by omega); omega))))
set_option maxRecDepth 100000 in
set_option maxHeartbeats 4000000 in
theorem p_toItemSS : Proved 38 (cToSS 29 49 KItem) := by
  refine proved_of [(10, cTo 49 KItem)] ⟨p_toItemS, trivial⟩ [.tmp 2] Try.func38 rfl rfl rfl rfl (by kernel_rfl) ?_
  intro ds K hrel
  simp only [cToSS] at hrel
  split at hrel
  case h_2 => exact hrel.elim
  rename_i ks xss
  obtain ⟨rfl, ⟨h1, h2⟩, hrel⟩ := hrel
  refine ⟨rfl, Nat.le_of_ble_eq_true rfl, fun k σ => match k with
    | 3 => some { α := Lv 3 Nat, R := fun i => i.v ≤ xss.length, μ := fun i => xss.length - i.v,
                  st := fun i => upH σ [(4, .int .i64 i.v)] 0 (.nest 29 49 KItem (fillS KItem xss i.v)) }
    | _ => none, ?_⟩
  repeat' (first | with_reducible refine And.intro ?_ ?_ | (with_reducible intro h; first | (exact absurd h (by decide)) | (guard_hyp h : true = true; clear h) | (guard_hyp h : false = false; clear h) | skip) | with_reducible exact True.intro | ((with_reducible refine (id ?_ : @Eq Bool (nodupN _) true)); kernel_rfl) | ((with_reducible refine (id ?_ : @Eq Bool (apartN _ _) true)); kernel_rfl) | ((with_reducible refine (id ?_ : @Eq Bool (formL _ _) true)); kernel_rfl) | ((with_reducible refine (id ?_ : @Eq _ _ _)); exact rfl) | ((conv => whnf); first | done | with_reducible refine And.intro ?_ ?_ | (with_reducible intro h; first | (exact absurd h (by decide)) | (guard_hyp h : true = true; clear h) | (guard_hyp h : false = false; clear h) | skip) | with_reducible exact True.intro | ((with_reducible refine (id ?_ : @Eq _ _ _)); exact rfl) | refine Exists.intro (⟨(by with_reducible assumption : Lv 3 Nat).v + 1⟩ : Lv 3 Nat) ?_ | refine Exists.intro (⟨0⟩ : Lv 3 Nat) ?_ | refine Exists.intro _ (Exists.intro _ (And.intro hrel ?_)) | exact Or.inl rfl | exact Or.inr (And.intro rfl rfl) | (apply Exists.intro; refine And.intro ?_ ?_)) | exact Nat.le_of_ble_eq_true rfl)
  all_goals (try ((try (change _ = _)) <;> (try dsimp only at *) <;> (try simp only [decide_eq_true_eq, decide_eq_false_iff_not, Bool.not_eq_true', Bool.not_eq_false', Bool.and_eq_true, Bool.and_eq_false_iff, beq_iff_eq, bne_iff_ne, beq_eq_false_iff_ne, bne_eq_false_iff_eq, ne_eq, Decidable.not_not, bne_self_eq_false, Bool.false_eq_true, Bool.true_eq_false, Bool.not_true, Bool.not_false, not_true_eq_false, not_false_eq_true, Int.toNat_natCast, Nat.zero_add, Nat.reduceAdd, Nat.reduceMul, Nat.reduceDiv, Nat.mul_one, lenK_one, big, fill_len, marking_len, marks_len, nrms_len, List.length_set, List.length_append, List.length_map, List.length_replicate, List.length_cons, List.length_nil, Int.natCast_add, Int.natCast_one, Int.natCast_zero, fillS_len] at *) <;> (repeat (with_reducible rename _ ∧ _ => hh; obtain ⟨_, _⟩ := hh)) <;> (first | omega | (refine fits_i64 ?_; omega) | (split <;> omega) | (have hl := len_tot xss (Lv.v (by with_reducible assumption : Lv 3 Nat)); omega) | exact fillS_step (by omega) | exact fillS_end (by omega) (by omega) | exact fillS_zero _ _ | exact (fillS_zero _ _).symm)))
set_option maxRecDepth 100000 in
set_option maxHeartbeats 4000000 in
theorem p_eqItemSS : Proved 32 (cEqSS KItem) := by
  refine proved_of [(13, cEq KItem)] ⟨p_eqItemS, trivial⟩ [.tmp 4] Try.func32 rfl rfl rfl rfl (by kernel_rfl) ?_
  intro ds K hrel
  simp only [cEqSS] at hrel
  split at hrel
  case h_2 => exact hrel.elim
  rename_i ks xss js yss
  obtain ⟨rfl, rfl, ⟨h1, h2, h3⟩, hrel⟩ := hrel
  refine ⟨rfl, Nat.le_of_ble_eq_true rfl, fun k σ => match k with
    | 4 => some { α := Lv 4 Nat, R := fun i => i.v ≤ xss.length ∧ (xss.length : Int) = yss.length ∧ SameS KItem xss yss i.v, μ := fun i => xss.length - i.v,
                  st := fun i => up σ [(5, .int .i64 i.v)] }
    | _ => none, ?_⟩
  repeat' (first | with_reducible refine And.intro ?_ ?_ | (with_reducible intro h; first | (exact absurd h (by decide)) | (guard_hyp h : true = true; clear h) | (guard_hyp h : false = false; clear h) | skip) | with_reducible exact True.intro | ((with_reducible refine (id ?_ : @Eq Bool (nodupN _) true)); kernel_rfl) | ((with_reducible refine (id ?_ : @Eq Bool (apartN _ _) true)); kernel_rfl) | ((with_reducible refine (id ?_ : @Eq Bool (formL _ _) true)); kernel_rfl) | ((with_reducible refine (id ?_ : @Eq _ _ _)); exact rfl) | ((conv => whnf); first | done | with_reducible refine And.intro ?_ ?_ | (with_reducible intro h; first | (exact absurd h (by decide)) | (guard_hyp h : true = true; clear h) | (guard_hyp h : false = false; clear h) | skip) | with_reducible exact True.intro | ((with_reducible refine (id ?_ : @Eq _ _ _)); exact rfl) | refine Exists.intro (⟨(by with_reducible assumption : Lv 4 Nat).v + 1⟩ : Lv 4 Nat) ?_ | refine Exists.intro (⟨0⟩ : Lv 4 Nat) ?_ | refine Exists.intro _ (Exists.intro _ (And.intro hrel ?_)) | exact Or.inl rfl | exact Or.inr (And.intro rfl rfl) | (apply Exists.intro; refine And.intro ?_ ?_)) | exact Nat.le_of_ble_eq_true rfl)
  all_goals (try ((try (change _ = _)) <;> (try dsimp only at *) <;> (try simp only [decide_eq_true_eq, decide_eq_false_iff_not, Bool.not_eq_true', Bool.not_eq_false', Bool.and_eq_true, Bool.and_eq_false_iff, beq_iff_eq, bne_iff_ne, beq_eq_false_iff_ne, bne_eq_false_iff_eq, ne_eq, Decidable.not_not, bne_self_eq_false, Bool.false_eq_true, Bool.true_eq_false, Bool.not_true, Bool.not_false, not_true_eq_false, not_false_eq_true, Int.toNat_natCast, Nat.zero_add, Nat.reduceAdd, Nat.reduceMul, Nat.reduceDiv, Nat.mul_one, lenK_one, big, fill_len, marking_len, marks_len, nrms_len, List.length_set, List.length_append, List.length_map, List.length_replicate, List.length_cons, List.length_nil, Int.natCast_add, Int.natCast_one, Int.natCast_zero] at *) <;> (repeat (with_reducible rename _ ∧ _ => hh; obtain ⟨_, _⟩ := hh)) <;> (first | omega | (refine fits_i64 ?_; omega) | (split <;> omega) | (have hl := len_tot xss (Lv.v (by with_reducible assumption : Lv 4 Nat)); omega) | exact sameS_zero _ _ _ | exact sameS_step (by with_reducible assumption) (by with_reducible assumption) | exact sameS_len (by with_reducible assumption) | exact sameS_not (n := (Lv.v (by with_reducible assumption : Lv 4 Nat))) (by with_reducible assumption) | exact sameS_all (by with_reducible assumption) (by with_reducible assumption) (by with_reducible assumption) (by with_reducible assumption))))
set_option maxRecDepth 100000 in
set_option maxHeartbeats 4000000 in
theorem p_heldItemSS : Proved 35 (cHeldSS KItem) := by
  refine proved_of [(23, cHeldQ KItem)] ⟨p_heldItemQ, trivial⟩ [.tmp 4] Try.func35 rfl rfl rfl rfl (by kernel_rfl) ?_
  intro ds K hrel
  simp only [cHeldSS] at hrel
  split at hrel
  case h_2 => exact hrel.elim
  rename_i ks xss k
  obtain ⟨rfl, ⟨h1, h2, h3, h4⟩, hx, hrel⟩ := hrel
  have hget : ∀ i : Nat, i < xss.length → xss.getD i [] = marks KItem (xss.getD i []).length (k + tot (xss.take i) * 2) := fun i hi => by
    have := marksS_get KItem xss k i hi
    rw [← hx] at this; exact this
  refine ⟨rfl, Nat.le_of_ble_eq_true rfl, fun q σ => match q with
    | 2 => some { α := Lv 2 Nat, R := fun i => i.v ≤ xss.length, μ := fun i => xss.length - i.v,
                  st := fun i => up σ [(1, .int .i64 (k + tot (xss.take i.v) * 2)), (5, .int .i64 i.v)] }
    | _ => none, ?_⟩
  repeat' (first | with_reducible refine And.intro ?_ ?_ | (with_reducible intro h; first | (exact absurd h (by decide)) | (guard_hyp h : true = true; clear h) | (guard_hyp h : false = false; clear h) | skip) | with_reducible exact True.intro | ((with_reducible refine (id ?_ : @Eq Bool (nodupN _) true)); kernel_rfl) | ((with_reducible refine (id ?_ : @Eq Bool (apartN _ _) true)); kernel_rfl) | ((with_reducible refine (id ?_ : @Eq Bool (formL _ _) true)); kernel_rfl) | ((with_reducible refine (id ?_ : @Eq _ _ _)); exact rfl) | ((conv => whnf); first | done | with_reducible refine And.intro ?_ ?_ | (with_reducible intro h; first | (exact absurd h (by decide)) | (guard_hyp h : true = true; clear h) | (guard_hyp h : false = false; clear h) | skip) | with_reducible exact True.intro | ((with_reducible refine (id ?_ : @Eq _ _ _)); exact rfl) | refine Exists.intro (⟨(by with_reducible assumption : Lv 2 Nat).v + 1⟩ : Lv 2 Nat) ?_ | refine Exists.intro (⟨0⟩ : Lv 2 Nat) ?_ | refine Exists.intro _ (Exists.intro _ (And.intro hrel ?_)) | exact Or.inl rfl | exact Or.inr (And.intro rfl rfl) | (apply Exists.intro; refine And.intro ?_ ?_)) | exact Nat.le_of_ble_eq_true rfl)
  all_goals (try ((try (change _ = _)) <;> (try dsimp only at *) <;> (try simp only [decide_eq_true_eq, decide_eq_false_iff_not, Bool.not_eq_true', Bool.not_eq_false', Bool.and_eq_true, Bool.and_eq_false_iff, beq_iff_eq, bne_iff_ne, beq_eq_false_iff_ne, bne_eq_false_iff_eq, ne_eq, Decidable.not_not, bne_self_eq_false, Bool.false_eq_true, Bool.true_eq_false, Bool.not_true, Bool.not_false, not_true_eq_false, not_false_eq_true, Int.toNat_natCast, Nat.zero_add, Nat.reduceAdd, Nat.reduceMul, Nat.reduceDiv, Nat.mul_one, lenK_one, big, fill_len, marking_len, marks_len, nrms_len, List.length_set, List.length_append, List.length_map, List.length_replicate, List.length_cons, List.length_nil, Int.natCast_add, Int.natCast_one, Int.natCast_zero, lenK_KItem] at *) <;> (repeat (with_reducible rename _ ∧ _ => hh; obtain ⟨_, _⟩ := hh)) <;> (first | omega | (refine fits_i64 ?_; omega) | (split <;> omega) | (rw [List.take_zero]; simp only [tot]; omega) | (have ht := tot_succ xss (Lv.v (by with_reducible assumption : Lv 2 Nat)) (by omega); have hm := tot_le xss ((Lv.v (by with_reducible assumption : Lv 2 Nat)) + 1); have hl := len_tot xss (Lv.v (by with_reducible assumption : Lv 2 Nat)); omega) | exact hget _ (by omega) | (have hm := tot_le xss (Lv.v (by with_reducible assumption : Lv 2 Nat)); have hl := len_tot xss (Lv.v (by with_reducible assumption : Lv 2 Nat)); omega) | (have ht := tot_end (xss := xss) (i := (Lv.v (by with_reducible assumption : Lv 2 Nat))) (by omega); omega))))
set_option maxRecDepth 100000 in
set_option maxHeartbeats 4000000 in
theorem p_szTree : Proved 17 (cSzTree KItem) := by
  refine proved_of [(36, cSzSS KItem)] ⟨p_szItemSS, trivial⟩ [.tmp 4] Try.func17 rfl rfl rfl rfl (by kernel_rfl) ?_
  intro ds K hrel
  simp only [cSzTree] at hrel
  split at hrel
  case h_2 => exact hrel.elim
  rename_i ks xss n
  obtain ⟨rfl, hs, ⟨h1, h2, h3⟩, hrel⟩ := hrel
  refine ⟨rfl, Nat.le_of_ble_eq_true rfl, fun _ _ => none, ?_⟩
  repeat' (first | with_reducible refine And.intro ?_ ?_ | (with_reducible intro h; first | (exact absurd h (by decide)) | (guard_hyp h : true = true; clear h) | (guard_hyp h : false = false; clear h) | skip) | with_reducible exact True.intro | ((with_reducible refine (id ?_ : @Eq Bool (nodupN _) true)); kernel_rfl) | ((with_reducible refine (id ?_ : @Eq Bool (apartN _ _) true)); kernel_rfl) | ((with_reducible refine (id ?_ : @Eq Bool (formL _ _) true)); kernel_rfl) | ((with_reducible refine (id ?_ : @Eq _ _ _)); exact rfl) | ((conv => whnf); first | done | with_reducible refine And.intro ?_ ?_ | (with_reducible intro h; first | (exact absurd h (by decide)) | (guard_hyp h : true = true; clear h) | (guard_hyp h : false = false; clear h) | skip) | with_reducible exact True.intro | ((with_reducible refine (id ?_ : @Eq _ _ _)); exact rfl) | (refine Exists.intro _ (Exists.intro _ (And.intro (hrel ?_ ?_) ?_))) | refine Exists.intro _ (Exists.intro _ (And.intro hrel ?_)) | exact Or.inl rfl | exact Or.inr (And.intro rfl rfl) | (apply Exists.intro; refine And.intro ?_ ?_)) | exact Nat.le_of_ble_eq_true rfl)
  all_goals (try ((try (change _ = _)) <;> (try dsimp only at *) <;> (try simp only [decide_eq_true_eq, decide_eq_false_iff_not, Bool.not_eq_true', Bool.not_eq_false', Bool.and_eq_true, Bool.and_eq_false_iff, beq_iff_eq, bne_iff_ne, beq_eq_false_iff_ne, bne_eq_false_iff_eq, ne_eq, Decidable.not_not, bne_self_eq_false, Bool.false_eq_true, Bool.true_eq_false, Bool.not_true, Bool.not_false, not_true_eq_false, not_false_eq_true, Int.toNat_natCast, Nat.zero_add, Nat.reduceAdd, Nat.reduceMul, Nat.reduceDiv, Nat.mul_one, lenK_one, big, fill_len, marking_len, marks_len, nrms_len, List.length_set, List.length_append, List.length_map, List.length_replicate, List.length_cons, List.length_nil, Int.natCast_add, Int.natCast_one, Int.natCast_zero, true_and] at *) <;> (repeat (with_reducible rename _ ∧ _ => hh; obtain ⟨_, _⟩ := hh)) <;> (first | omega | (refine fits_i64 ?_; omega) | (split <;> omega) | (with_reducible exact hs))))
set_option maxRecDepth 100000 in
set_option maxHeartbeats 4000000 in
theorem p_toTree : Proved 19 (cToTree 29 49 KItem) := by
  refine proved_of [(38, cToSS 29 49 KItem)] ⟨p_toItemSS, trivial⟩ [.cell 2 26] Try.func19 rfl rfl rfl rfl (by kernel_rfl) ?_
  intro ds K hrel
  simp only [cToTree] at hrel
  split at hrel
  case h_2 => exact hrel.elim
  rename_i ks xss
  obtain ⟨rfl, ⟨h1, h2⟩, hrel⟩ := hrel
  refine ⟨rfl, Nat.le_of_ble_eq_true rfl, fun _ _ => none, ?_⟩
  repeat' (first | with_reducible refine And.intro ?_ ?_ | (with_reducible intro h; first | (exact absurd h (by decide)) | (guard_hyp h : true = true; clear h) | (guard_hyp h : false = false; clear h) | skip) | with_reducible exact True.intro | ((with_reducible refine (id ?_ : @Eq Bool (nodupN _) true)); kernel_rfl) | ((with_reducible refine (id ?_ : @Eq Bool (apartN _ _) true)); kernel_rfl) | ((with_reducible refine (id ?_ : @Eq Bool (formL _ _) true)); kernel_rfl) | ((with_reducible refine (id ?_ : @Eq _ _ _)); exact rfl) | ((conv => whnf); first | done | with_reducible refine And.intro ?_ ?_ | (with_reducible intro h; first | (exact absurd h (by decide)) | (guard_hyp h : true = true; clear h) | (guard_hyp h : false = false; clear h) | skip) | with_reducible exact True.intro | ((with_reducible refine (id ?_ : @Eq _ _ _)); exact rfl) | refine Exists.intro _ (Exists.intro _ (And.intro hrel ?_)) | exact Or.inl rfl | exact Or.inr (And.intro rfl rfl) | (apply Exists.intro; refine And.intro ?_ ?_)) | exact Nat.le_of_ble_eq_true rfl)
  all_goals (try ((try (change _ = _)) <;> (try dsimp only at *) <;> (try simp only [decide_eq_true_eq, decide_eq_false_iff_not, Bool.not_eq_true', Bool.not_eq_false', Bool.and_eq_true, Bool.and_eq_false_iff, beq_iff_eq, bne_iff_ne, beq_eq_false_iff_ne, bne_eq_false_iff_eq, ne_eq, Decidable.not_not, bne_self_eq_false, Bool.false_eq_true, Bool.true_eq_false, Bool.not_true, Bool.not_false, not_true_eq_false, not_false_eq_true, Int.toNat_natCast, Nat.zero_add, Nat.reduceAdd, Nat.reduceMul, Nat.reduceDiv, Nat.mul_one, lenK_one, big, fill_len, marking_len, marks_len, nrms_len, List.length_set, List.length_append, List.length_map, List.length_replicate, List.length_cons, List.length_nil, Int.natCast_add, Int.natCast_one, Int.natCast_zero] at *) <;> (repeat (with_reducible rename _ ∧ _ => hh; obtain ⟨_, _⟩ := hh)) <;> (first | omega | (refine fits_i64 ?_; omega) | (split <;> omega))))
set_option maxRecDepth 100000 in
set_option maxHeartbeats 4000000 in
theorem p_eqTree : Proved 12 (cEqTree KItem) := by
  refine proved_of [(32, cEqSS KItem)] ⟨p_eqItemSS, trivial⟩ [.tmp 4] Try.func12 rfl rfl rfl rfl (by kernel_rfl) ?_
  intro ds K hrel
  simp only [cEqTree] at hrel
  split at hrel
  case h_2 => exact hrel.elim
  rename_i ks xss js yss
  obtain ⟨rfl, rfl, ⟨h1, h2, h3⟩, hrel⟩ := hrel
  refine ⟨rfl, Nat.le_of_ble_eq_true rfl, fun _ _ => none, ?_⟩
  repeat' (first | with_reducible refine And.intro ?_ ?_ | (with_reducible intro h; first | (exact absurd h (by decide)) | (guard_hyp h : true = true; clear h) | (guard_hyp h : false = false; clear h) | skip) | with_reducible exact True.intro | ((with_reducible refine (id ?_ : @Eq Bool (nodupN _) true)); kernel_rfl) | ((with_reducible refine (id ?_ : @Eq Bool (apartN _ _) true)); kernel_rfl) | ((with_reducible refine (id ?_ : @Eq Bool (formL _ _) true)); kernel_rfl) | ((with_reducible refine (id ?_ : @Eq _ _ _)); exact rfl) | ((conv => whnf); first | done | with_reducible refine And.intro ?_ ?_ | (with_reducible intro h; first | (exact absurd h (by decide)) | (guard_hyp h : true = true; clear h) | (guard_hyp h : false = false; clear h) | skip) | with_reducible exact True.intro | ((with_reducible refine (id ?_ : @Eq _ _ _)); exact rfl) | refine Exists.intro _ (Exists.intro _ (And.intro hrel ?_)) | exact Or.inl rfl | exact Or.inr (And.intro rfl rfl) | (apply Exists.intro; refine And.intro ?_ ?_)) | exact Nat.le_of_ble_eq_true rfl)
  all_goals (try ((try (change _ = _)) <;> (try dsimp only at *) <;> (try simp only [decide_eq_true_eq, decide_eq_false_iff_not, Bool.not_eq_true', Bool.not_eq_false', Bool.and_eq_true, Bool.and_eq_false_iff, beq_iff_eq, bne_iff_ne, beq_eq_false_iff_ne, bne_eq_false_iff_eq, ne_eq, Decidable.not_not, bne_self_eq_false, Bool.false_eq_true, Bool.true_eq_false, Bool.not_true, Bool.not_false, not_true_eq_false, not_false_eq_true, Int.toNat_natCast, Nat.zero_add, Nat.reduceAdd, Nat.reduceMul, Nat.reduceDiv, Nat.mul_one, lenK_one, big, fill_len, marking_len, marks_len, nrms_len, List.length_set, List.length_append, List.length_map, List.length_replicate, List.length_cons, List.length_nil, Int.natCast_add, Int.natCast_one, Int.natCast_zero] at *) <;> (repeat (with_reducible rename _ ∧ _ => hh; obtain ⟨_, _⟩ := hh)) <;> (first | omega | (refine fits_i64 ?_; omega) | (split <;> omega) | exact true_eq (by with_reducible assumption) | exact false_eq (by with_reducible assumption))))
set_option maxRecDepth 100000 in
set_option maxHeartbeats 4000000 in
theorem p_heldTree : Proved 16 (cHeldTree KItem) := by
  refine proved_of [(35, cHeldSS KItem)] ⟨p_heldItemSS, trivial⟩ [.tmp 4] Try.func16 rfl rfl rfl rfl (by kernel_rfl) ?_
  intro ds K hrel
  simp only [cHeldTree] at hrel
  split at hrel
  case h_2 => exact hrel.elim
  rename_i ks xss k
  obtain ⟨rfl, ⟨h1, h2, h3, h4⟩, hx, hrel⟩ := hrel
  refine ⟨rfl, Nat.le_of_ble_eq_true rfl, fun _ _ => none, ?_⟩
  repeat' (first | with_reducible refine And.intro ?_ ?_ | (with_reducible intro h; first | (exact absurd h (by decide)) | (guard_hyp h : true = true; clear h) | (guard_hyp h : false = false; clear h) | skip) | with_reducible exact True.intro | ((with_reducible refine (id ?_ : @Eq Bool (nodupN _) true)); kernel_rfl) | ((with_reducible refine (id ?_ : @Eq Bool (apartN _ _) true)); kernel_rfl) | ((with_reducible refine (id ?_ : @Eq Bool (formL _ _) true)); kernel_rfl) | ((with_reducible refine (id ?_ : @Eq _ _ _)); exact rfl) | ((conv => whnf); first | done | with_reducible refine And.intro ?_ ?_ | (with_reducible intro h; first | (exact absurd h (by decide)) | (guard_hyp h : true = true; clear h) | (guard_hyp h : false = false; clear h) | skip) | with_reducible exact True.intro | ((with_reducible refine (id ?_ : @Eq _ _ _)); exact rfl) | refine Exists.intro _ (Exists.intro _ (And.intro hrel ?_)) | exact Or.inl rfl | exact Or.inr (And.intro rfl rfl) | (apply Exists.intro; refine And.intro ?_ ?_)) | exact Nat.le_of_ble_eq_true rfl)
  all_goals (try ((try (change _ = _)) <;> (try dsimp only at *) <;> (try simp only [decide_eq_true_eq, decide_eq_false_iff_not, Bool.not_eq_true', Bool.not_eq_false', Bool.and_eq_true, Bool.and_eq_false_iff, beq_iff_eq, bne_iff_ne, beq_eq_false_iff_ne, bne_eq_false_iff_eq, ne_eq, Decidable.not_not, bne_self_eq_false, Bool.false_eq_true, Bool.true_eq_false, Bool.not_true, Bool.not_false, not_true_eq_false, not_false_eq_true, Int.toNat_natCast, Nat.zero_add, Nat.reduceAdd, Nat.reduceMul, Nat.reduceDiv, Nat.mul_one, lenK_one, big, fill_len, marking_len, marks_len, nrms_len, List.length_set, List.length_append, List.length_map, List.length_replicate, List.length_cons, List.length_nil, Int.natCast_add, Int.natCast_one, Int.natCast_zero, lenK_KItem] at *) <;> (repeat (with_reducible rename _ ∧ _ => hh; obtain ⟨_, _⟩ := hh)) <;> (first | omega | (refine fits_i64 ?_; omega) | (split <;> omega) | (with_reducible exact hx))))
end Go.Proofs.Ytkjbgdhpeidocaa.V
