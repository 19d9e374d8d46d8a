/-
  Recovery, the plain laws: only what has ended counts; who has ended has not lost.
-/
import Derived.Test.YtkjdhfkihampjaaRp
set_option linter.unusedSimpArgs false
set_option linter.unusedVariables false
namespace Go.Proofs.Ytkjdhfkihampjaa.V
open Go Go.RowKit
open Classical

theorem memI_append : ∀ (xs ys : List Row) (n : Int), memI (xs ++ ys) n ↔ (memI xs n ∨ memI ys n)
  | [], ys, n => by simp [memI]
  | r :: rs, ys, n => by
    simp only [List.cons_append, memI, memI_append rs ys n, or_assoc]
theorem memI_opn {es : List Row} {o : Int} : ∀ n : Nat, memI (opn es n) o ↔ (0 ≤ o ∧ o < n ∧ UnderW es o)
  | 0 => by rw [show opn es 0 = [] from opn_zero es]; simp only [memI]; exact ⟨fun h => h.elim, fun h => by omega⟩
  | n + 1 => by
    have ih := memI_opn (es := es) (o := o) n
    rw [opn_succ]
    split
    · rename_i hu
      rw [memI_append, ih]
      simp only [memI, rc, List.getD_cons_zero, Sc.int_i, or_false]
      constructor
      · rintro (⟨h1, h2, h3⟩ | h)
        · exact ⟨h1, by omega, h3⟩
        · rw [← h]; exact ⟨by omega, by omega, hu⟩
      · rintro ⟨h1, h2, h3⟩
        by_cases e : o < n
        · exact .inl ⟨h1, e, h3⟩
        · right; omega
    · rename_i hu
      rw [ih]
      constructor
      · rintro ⟨h1, h2, h3⟩; exact ⟨h1, by omega, h3⟩
      · rintro ⟨h1, h2, h3⟩
        refine ⟨h1, ?_, h3⟩
        by_cases e : o < n
        · exact e
        · rw [show o = n by omega] at h3; exact absurd h3 hu
theorem under_of {s es : List Row} (h : VN s es) {j : Nat} (hj : j < es.length) (hE : (rc (row es j) 0).bool = false) : UnderW es (rc (row es j) 1).int ↔ NoEnd es (rc (row es j) 1).int es.length :=
  ⟨fun q => q.1, fun q => ⟨q, j, by omega, hE, rfl⟩⟩
theorem mem_losers {s es : List Row} (h : VN s es) {j : Nat} (hj : j < es.length) (hE : (rc (row es j) 0).bool = false) : memI (opn es 8) (rc (row es j) 1).int ↔ NoEnd es (rc (row es j) 1).int es.length := by
  have h1 := (vn_note h hj).o0
  have h2 := (vn_note h hj).o7
  rw [toNat_nat] at h1 h2
  rw [memI_opn, under_of h hj hE]
  exact ⟨fun q => q.2.2, fun q => ⟨h1, by omega, q⟩⟩

/-- The edit of one who has ended, carried out. -/
noncomputable def winS (all s : List Row) (n : Row) : List Row := if (rc n 0).bool = false ∧ ¬ NoEnd all (rc n 1).int all.length then setI s (rc n 2).int (rc n 4).int else s
theorem winS_len (all s : List Row) (n : Row) : (winS all s n).length = s.length := by unfold winS; split <;> simp [setI_len]
theorem numT_winS {all s : List Row} {n : Row} {t : Nat} (ht : t < s.length) : numT (winS all s n) t = if ((rc n 0).bool = false ∧ ¬ NoEnd all (rc n 1).int all.length) ∧ (rc n 2).int.toNat = t then (rc n 4).int else numT s t := by
  unfold winS
  by_cases h : (rc n 0).bool = false ∧ ¬ NoEnd all (rc n 1).int all.length
  · rw [if_pos h, numT_setI ht]
    by_cases e : (rc n 2).int.toNat = t
    · rw [if_pos e, if_pos ⟨h, e⟩]
    · rw [if_neg e, if_neg (fun q => e q.2)]
  · rw [if_neg h, if_neg (fun q => h q.1)]
/-- The edits of those who have ended, among k notes from index i on, carried out on a store. -/
noncomputable def winF (es : List Row) : Nat → Nat → List Row → List Row
  | _, 0, s => s
  | i, k + 1, s => winF es (i + 1) k (winS es s (row es i))
theorem winF_len (es : List Row) : ∀ (k i : Nat) (s : List Row), (winF es i k s).length = s.length
  | 0, _, _ => rfl
  | k + 1, i, s => by simp only [winF]; rw [winF_len es k (i + 1), winS_len]
/-- The same, the first i notes on a store. -/
noncomputable def win0 (s es : List Row) : Nat → List Row
  | 0 => s
  | i + 1 => winS es (win0 s es i) (row es i)
@[irreducible] noncomputable def win (s es : List Row) (i : Nat) : List Row := win0 s es i
theorem win_zero (s es : List Row) : win s es 0 = s := by simp [win, win0]
theorem win_succ (s es : List Row) (i : Nat) : win s es (i + 1) = winS es (win s es i) (row es i) := by simp only [win, win0]
theorem win_len (s es : List Row) : ∀ i : Nat, (win s es i).length = s.length
  | 0 => by rw [win_zero]
  | i + 1 => by rw [win_succ, winS_len, win_len s es i]
theorem winF_snoc (es : List Row) : ∀ (k i : Nat) (s : List Row), winF es i (k + 1) s = winS es (winF es i k s) (row es (i + k))
  | 0, i, s => by simp [winF]
  | k + 1, i, s => by
    rw [winF, winF_snoc es k (i + 1)]
    simp only [winF]
    rw [show i + 1 + k = i + (k + 1) by omega]
theorem winF_win (s es : List Row) : ∀ k : Nat, winF es 0 k s = win s es k
  | 0 => by rw [win_zero]; rfl
  | k + 1 => by rw [winF_snoc, winF_win s es k, Nat.zero_add, win_succ]
/-- Stores that agree on a thing agree on it behind the same edits. -/
theorem winF_same (es : List Row) {t : Nat} : ∀ (k i : Nat) (a b : List Row), t < a.length → t < b.length → numT a t = numT b t → numT (winF es i k a) t = numT (winF es i k b) t
  | 0, _, _, _, _, _, h => h
  | k + 1, i, a, b, ha, hb, h => by
    simp only [winF]
    refine winF_same es k (i + 1) _ _ (by rw [winS_len]; exact ha) (by rw [winS_len]; exact hb) ?_
    rw [numT_winS ha, numT_winS hb, h]
/-- Where no edit of the thing by one who has ended is left, nothing changes. -/
theorem winF_none (es : List Row) {t : Nat} : ∀ (k i : Nat) (a : List Row), t < a.length → (∀ j, i ≤ j → j < i + k → ¬ (((rc (row es j) 0).bool = false ∧ ¬ NoEnd es (rc (row es j) 1).int es.length) ∧ (rc (row es j) 2).int.toNat = t)) → numT (winF es i k a) t = numT a t
  | 0, _, _, _, _ => rfl
  | k + 1, i, a, ha, h => by
    simp only [winF]
    rw [winF_none es k (i + 1) _ (by rw [winS_len]; exact ha) (fun j h1 h2 => h j (by omega) (by omega)), numT_winS ha, if_neg (h i (by omega) (by omega))]
/-- One who never ends has changed the thing among the first i notes. -/
def Touched (es : List Row) (t i : Nat) : Prop := ∃ j, j < i ∧ (rc (row es j) 0).bool = false ∧ NoEnd es (rc (row es j) 1).int es.length ∧ (rc (row es j) 2).int.toNat = t
theorem noEnd_le {es : List Row} {who a b : Int} (h : NoEnd es who b) (hab : a ≤ b) : NoEnd es who a := ⟨fun j hj => h.h j (by omega)⟩
theorem und_win {s es : List Row} (h : VN s es) : ∀ k i : Nat, i + k = es.length → ∀ t, t < s.length → ¬ Touched es t i → numT (und es (now s es es.length) i) t = numT (winF es i k (now s es i)) t
  | 0, i, hi, t, ht, _ => by
    rw [show i = es.length by omega, und_end]; rfl
  | k + 1, i, hi, t, ht, hnt => by
    have hlt : i < es.length := by omega
    rw [und_succ _ hlt]
    have htn := vn_thing h hlt
    have hul : t < (und es (now s es es.length) (i + 1)).length := by rw [und_len, now_len]; exact ht
    have hnl : t < (now s es i).length := by rw [now_len]; exact ht
    by_cases hl : (rc (row es i) 0).bool = false ∧ NoEnd es (rc (row es i) 1).int es.length
    · -- an edit of one who never ends
      unfold undS
      rw [if_pos hl, numT_setI hul]
      simp only [winF]
      have hw : winS es (now s es i) (row es i) = now s es i := by unfold winS; rw [if_neg (fun q => q.2 hl.2)]
      rw [hw]
      by_cases e : (rc (row es i) 2).int.toNat = t
      · rw [if_pos e]
        have he := (vn_edit h hlt hl.1).1.e
        rw [e] at he
        rw [winF_none es k (i + 1) _ hnl]
        · exact he.symm
        · rintro j h1 h2 ⟨⟨q1, q2⟩, q3⟩
          have hj : j < es.length := by omega
          have hf := (vn_edit h hj q1).2
          have htj := vn_thing h hj
          refine hf.h i (by omega) ⟨hl.1, by omega, fun q => ?_, noEnd_le hl.2 (by omega)⟩
          rw [← q] at q2; exact q2 hl.2
      · rw [if_neg e]
        have ih := und_win h k (i + 1) (by omega) t ht (by
          rintro ⟨j, h1, h2, h3, h4⟩
          by_cases hji : j = i
          · subst hji; exact e h4
          · exact hnt ⟨j, by omega, h2, h3, h4⟩)
        rw [ih]
        refine winF_same es k (i + 1) _ _ (by rw [now_len]; exact ht) hnl ?_
        rw [now_succ, if_neg (by rw [hl.1]; simp), numT_setI hnl, if_neg e]
    · have hS : undS es (und es (now s es es.length) (i + 1)) (row es i) = und es (now s es es.length) (i + 1) := by unfold undS; rw [if_neg hl]
      rw [hS]
      have ih := und_win h k (i + 1) (by omega) t ht (by
        rintro ⟨j, h1, h2, h3, h4⟩
        by_cases hji : j = i
        · subst hji; exact hl ⟨h2, h3⟩
        · exact hnt ⟨j, by omega, h2, h3, h4⟩)
      rw [ih]
      simp only [winF]
      have hw : winS es (now s es i) (row es i) = now s es (i + 1) := by
        unfold winS
        rw [now_succ]
        cases hE : (rc (row es i) 0).bool with
        | true => rw [if_neg (fun q => by cases q.1), if_pos rfl]
        | false => rw [if_pos ⟨rfl, fun q => hl ⟨hE, q⟩⟩, if_neg (by simp)]
      rw [hw]
/-- A recovery leaves what those have changed who have ended. -/
theorem numT_nums {c : List Row} {t : Nat} (ht : t < c.length) : numT (nums c c.length) t = (rc (row c t) 0).int := by
  unfold numT nums
  rw [List.take_length, row_map ht]; rfl
theorem und0_same (all : List Row) {t : Nat} : ∀ (es a b : List Row), a.length = b.length → t < a.length → numT a t = numT b t → numT (und0 all es a) t = numT (und0 all es b) t
  | [], _, _, _, _, h => h
  | n :: es, a, b, hl, ha, h => by
    have ih := und0_same all es a b hl ha h
    simp only [und0]
    unfold undS
    split
    · rw [numT_setI (by rw [und0_len]; exact ha), numT_setI (by rw [und0_len]; omega), ih]
    · exact ih
theorem rcv_win {s es us : List Row} (h : CanC s es us) : nrms KInt (rcvS (cellsAt s es us) es) = nrms KInt (win s es es.length) := by
  rw [rcvS_at h]
  refine store_ext (by rw [und_len, nums_lenA, allC_len, win_len]) (fun t ht => ?_)
  rw [und_len, nums_lenA, allC_len] at ht
  have h1 : numT (und es (nums (allC s es) (allC s es).length) 0) t = numT (und es (now s es es.length) 0) t := by
    unfold und
    refine und0_same es _ _ _ (by rw [nums_lenA, allC_len, now_len]) (by rw [nums_lenA, allC_len]; exact ht) ?_
    rw [numT_nums (by rw [allC_len]; exact ht), row_allC s es ht]
    exact cellN_now h.v es.length (Nat.le_refl _) t ht
  rw [h1, und_win h.v es.length 0 (by omega) t ht (fun ⟨j, hj, _⟩ => by omega)]
  rw [show now s es 0 = s from (now_zero0 s es).symm, winF_win]

/-! With an End for everybody who is under way. -/
/-- The Ends of owners. -/
def endsOf (l : List Row) : List Row := l.map (fun r => [Sc.b true, Sc.i (rc r 0).int, Sc.i 0, Sc.i 0, Sc.i 0])
theorem endsOf_len (l : List Row) : (endsOf l).length = l.length := by simp [endsOf]
theorem row_endsOf {l : List Row} {j : Nat} (hj : j < l.length) : row (endsOf l) j = [Sc.b true, Sc.i (rc (row l j) 0).int, Sc.i 0, Sc.i 0, Sc.i 0] := by
  unfold endsOf; rw [row_map hj]
theorem row_app1 {a b : List Row} {j : Nat} (h : j < a.length) : row (a ++ b) j = row a j := by rw [row_append, if_pos h]
theorem row_app2 {a b : List Row} {j : Nat} (h : ¬ j < a.length) : row (a ++ b) j = row b (j - a.length) := by rw [row_append, if_neg h]
theorem memI_get : ∀ {xs : List Row} {n : Int}, memI xs n → ∃ i, i < xs.length ∧ (rc (row xs i) 0).int = n
  | [], _, h => by simp [memI] at h
  | r :: rs, n, h => by
    simp only [memI] at h
    rcases h with h | h
    · exact ⟨0, by simp, h⟩
    · obtain ⟨i, h1, h2⟩ := memI_get h
      exact ⟨i + 1, by simpa using h1, h2⟩
theorem more_isEnd {es l : List Row} {j : Nat} (h1 : ¬ j < es.length) (h2 : j < es.length + l.length) : (rc (row (es ++ endsOf l) j) 0).bool = true ∧ (rc (row (es ++ endsOf l) j) 1).int = (rc (row l (j - es.length)) 0).int := by
  rw [row_app2 h1, row_endsOf (by omega)]
  exact ⟨rfl, rfl⟩
theorem us_more {c es : List Row} (h : Usable c es) (hl : (es ++ endsOf (opn es 8)).length ≤ 20) : Usable c (es ++ endsOf (opn es 8)) := by
  refine ⟨h.v, hl, ⟨fun j hj => ?_⟩⟩
  rw [List.length_append, endsOf_len] at hj
  by_cases e : j < es.length
  · rw [row_app1 e]; exact h.no.h j (by omega)
  · rw [row_app2 e, row_endsOf (by omega)]
    have hm := memI_row (opn es 8) (j - es.length) (by omega)
    rw [memI_opn] at hm
    have h1 := h.v.c1
    exact ⟨hm.1, by show (rc (row (opn es 8) (j - es.length)) 0).int ≤ 7; omega, by show (0 : Int) ≤ 0; omega, by show (0 : Int) < _; omega, by show (0 : Int) ≤ 0; omega, by show (0 : Int) ≤ _; omega, by show (0 : Int) ≤ 0; omega, by show (0 : Int) ≤ _; omega⟩
theorem rd_app {c es fs : List Row} : ∀ i : Nat, i ≤ es.length → rd 1 c (es ++ fs) i = rd 1 c es i
  | 0, _ => by rw [rd_zero, rd_zero]
  | i + 1, h => by rw [rd_succ, rd_succ, rd_app i (by omega), row_app1 (by omega)]
theorem rd_more {c es l : List Row} : ∀ k : Nat, k ≤ l.length → rd 1 c (es ++ endsOf l) (es.length + k) = rd 1 c es es.length
  | 0, _ => rd_app _ (Nat.le_refl _)
  | k + 1, h => by
    rw [show es.length + (k + 1) = (es.length + k) + 1 by omega, rd_succ, if_pos (by omega), rd_more k (by omega)]
    unfold rdS
    rw [if_neg (fun q => ?_)]
    have := (more_isEnd (es := es) (l := l) (j := es.length + k) (by omega) (by omega)).1
    rw [this] at q; cases q.1
theorem rd_moreA {c es l : List Row} : rd 1 c (es ++ endsOf l) (es ++ endsOf l).length = rd 1 c es es.length := by
  rw [List.length_append, endsOf_len]; exact rd_more _ (Nat.le_refl _)
/-- Every edit's owner ends. -/
theorem more_ends {s es : List Row} (h : VN s es) {j : Nat} (hj : j < es.length) (hE : (rc (row es j) 0).bool = false) : ¬ NoEnd (es ++ endsOf (opn es 8)) (rc (row es j) 1).int (es ++ endsOf (opn es 8)).length := by
  intro hn
  rw [List.length_append, endsOf_len] at hn
  have h1 : NoEnd es (rc (row es j) 1).int es.length := ⟨fun i hi => by
    have := hn.h i (by omega)
    rwa [row_app1 (by omega)] at this⟩
  obtain ⟨i, h2, h3⟩ := memI_get ((mem_losers h hj hE).2 h1)
  have h4 := more_isEnd (es := es) (l := opn es 8) (j := es.length + i) (by omega) (by omega)
  rw [show es.length + i - es.length = i by omega, h3] at h4
  exact hn.h (es.length + i) (by omega) h4
theorem und0_skip (all s : List Row) : ∀ l : List Row, (∀ n ∈ l, ¬ ((rc n 0).bool = false ∧ NoEnd all (rc n 1).int all.length)) → und0 all l s = s
  | [], _ => rfl
  | n :: l, h => by
    simp only [und0]
    rw [und0_skip all s l (fun m hm => h m (List.mem_cons_of_mem _ hm))]
    unfold undS
    rw [if_neg (h n List.mem_cons_self)]
theorem mem_row {xs : List Row} {r : Row} (h : r ∈ xs) : ∃ j, j < xs.length ∧ row xs j = r := by
  obtain ⟨j, hj, he⟩ := List.mem_iff_getElem.1 h
  refine ⟨j, hj, ?_⟩
  have := row_some hj
  rw [List.getElem?_eq_getElem hj] at this
  rw [← Option.some.inj this, he]
theorem und_more {s es x : List Row} (h : VN s es) : und (es ++ endsOf (opn es 8)) x 0 = x := by
  unfold und
  rw [List.drop_zero]
  refine und0_skip _ _ _ (fun n hn => ?_)
  obtain ⟨j, hj, rfl⟩ := mem_row hn
  rw [List.length_append, endsOf_len] at hj
  rintro ⟨q1, q2⟩
  by_cases e : j < es.length
  · rw [row_app1 e] at q1 q2
    exact more_ends h e q1 q2
  · rw [(more_isEnd e hj).1] at q1; cases q1
theorem rcv_more {s es us : List Row} (h : CanC s es us) (hl : (es ++ endsOf (opn es 8)).length ≤ 20) : rcvS (cellsAt s es us) (es ++ endsOf (opn es 8)) = nums (redone (cellsAt s es us) es) (redone (cellsAt s es us) es).length := by
  rw [← rcvS_yes (us_more (us_at h) hl), und_more h.v, rd_moreA, redone_is (us_at h)]
theorem rcv_long {s es us : List Row} (hl : ¬ (es ++ endsOf (opn es 8)).length ≤ 20) : rcvS (cellsAt s es us) (es ++ endsOf (opn es 8)) = [] := rcvS_no (fun q => hl q.n)

/-! Losers. -/
noncomputable def losersOf (s es : List Row) : List Row := if VN s es then opn es 8 else []
theorem losers_len (s es : List Row) : (losersOf s es).length ≤ 8 := by
  unfold losersOf; split
  · exact opn_len es 8
  · simp
theorem losers_nrm (s es : List Row) : nrms KInt (losersOf s es) = losersOf s es := by
  unfold losersOf; split
  · exact opn_nrm es 8
  · rfl
theorem vn_own {s es : List Row} (h : VN s es) : OwnN es := ⟨fun j hj => by
  have h1 := (vn_note h hj).o0
  have h2 := (vn_note h hj).o7
  rw [toNat_nat] at h1 h2
  exact ⟨h1, h2⟩⟩
/-- The owners of the first i notes of a journal are under way or ended there. -/
theorem vnn_take {s es : List Row} (h : VN s es) (n : Nat) : VN s (es.take n) := by
  have hl : (es.take n).length = min n es.length := List.length_take
  have hnow : ∀ i : Nat, i ≤ n → now s (es.take n) i = now s es i := by
    intro i
    induction i with
    | zero => intro _; rw [← now_zero0, ← now_zero0]
    | succ i ih => intro hi; rw [now_succ, now_succ, ih (by omega), row_take (by omega)]
  have hne : ∀ (who : Int) (i : Nat), i ≤ n → (NoEnd (es.take n) who i ↔ NoEnd es who i) := by
    intro who i hi
    constructor
    · intro q; exact ⟨fun j hj => by have := q.h j hj; rwa [row_take (by omega)] at this⟩
    · intro q; exact ⟨fun j hj => by rw [row_take (by omega)]; exact q.h j hj⟩
  refine ⟨h.st, by have := h.ln; omega, ⟨fun j hj => ?_⟩⟩
  have hj' : j < es.length := by omega
  have hv := vn_note h hj'
  have h1 := hv.o0
  have h2 := hv.o7
  have h3 := hv.ne
  have h4 := hv.en
  have h5 := hv.ed
  rw [toNat_nat] at h1 h2 h3 h4 h5
  have hr : row (es.take n) j = row es j := row_take (by omega)
  refine ⟨by rw [toNat_nat, hr]; exact h1, by rw [toNat_nat, hr]; exact h2, by rw [toNat_nat, hr, hne _ _ (by omega)]; exact h3, fun q => by rw [toNat_nat, hr] at q ⊢; exact h4 q, fun q => ?_⟩
  rw [toNat_nat, hr] at q ⊢
  obtain ⟨g1, g2⟩ := h5 q
  rw [hnow j (by omega)]
  refine ⟨g1, ⟨fun k hk => ?_⟩⟩
  rw [row_take (by omega), hne _ _ (by omega)]
  exact g2.h k hk
/-- Behind an edit its owner is under way. -/
theorem lose_edit {s es : List Row} {i : Int} (h : VN s es) (h0 : 0 ≤ i) (hi : i < es.length) (hE : (rc (row es i.toNat) 0).bool = false) : ¬ (((losersOf s (es.take (i + 1).toNat)).length : Int) = 0) := by
  obtain ⟨j, rfl⟩ : ∃ j : Nat, i = j := ⟨i.toNat, by omega⟩
  rw [toNat_nat] at hE
  rw [show ((j : Int) + 1).toNat = j + 1 by omega]
  have hj : j < es.length := by omega
  have hv := vnn_take h (j + 1)
  have hl : (es.take (j + 1)).length = j + 1 := by rw [List.length_take]; omega
  unfold losersOf
  rw [if_pos hv]
  have hr : row (es.take (j + 1)) j = row es j := row_take (by omega)
  have hn : NoEnd (es.take (j + 1)) (rc (row es j) 1).int (es.take (j + 1)).length := by
    rw [hl]
    refine ⟨fun k hk => ?_⟩
    rw [row_take (by omega)]
    by_cases e : k = j
    · subst e; rw [hE]; intro q; cases q.1
    · have hne := (vn_note h hj).ne
      rw [toNat_nat] at hne
      exact hne.h k (by omega)
  have hm := (mem_losers hv (j := j) (by omega) (by rw [hr]; exact hE)).2 (by rw [hr]; exact hn)
  obtain ⟨k, h1, _⟩ := memI_get hm
  omega
/-- No owner of an End is a loser. -/
theorem lose_end {s es : List Row} {i : Int} (h0 : 0 ≤ i) (hi : i < es.length) (hE : (rc (row es i.toNat) 0).bool = true) (hm : memI (losersOf s es) (rc (row es i.toNat) 1).int) : False := by
  unfold losersOf at hm
  split at hm
  · rw [memI_opn] at hm
    exact hm.2.2.1.h i.toNat (by omega) ⟨hE, rfl⟩
  · simp [memI] at hm
/-- With an End for each of them there are no losers. -/
theorem lose_more {s es : List Row} (h : VN s es) : opn (es ++ endsOf (opn es 8)) 8 = [] := by
  have : ∀ n : Nat, opn (es ++ endsOf (opn es 8)) n = [] := by
    intro n
    induction n with
    | zero => exact opn_zero _
    | succ n ih =>
      rw [opn_succ, ih, if_neg]
      rintro ⟨q1, j, h1, h2, h3⟩
      rw [List.length_append, endsOf_len] at h1
      by_cases e : j < es.length
      · rw [row_app1 e] at h2 h3
        rw [← h3] at q1
        exact more_ends h e h2 q1
      · rw [(more_isEnd e (by omega)).1] at h2; cases h2
  exact this 8
theorem lose_moreL {s es : List Row} (h : VN s es) : losersOf s (es ++ endsOf (losersOf s es)) = [] := by
  have : losersOf s es = opn es 8 := by unfold losersOf; rw [if_pos h]
  rw [this]
  unfold losersOf
  split
  · exact lose_more h
  · rfl
end Go.Proofs.Ytkjdhfkihampjaa.V
