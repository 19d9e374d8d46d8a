/-
  Waits, the plain laws: who is reached; bits of small numbers; numbers in order.
-/
import Derived.Test.YtbppiknmlipmpaaDoorLsL
set_option linter.unusedSimpArgs false
set_option linter.unusedVariables false
namespace Go.Proofs.YtbppiknmlipmpaaDoor.V
open Go Go.RowKit
open Classical

/-! Numbers of a list. -/
def numT (s : List Row) (t : Nat) : Int := (rc (row s t) 0).int
theorem paste_c0 (r : Row) (v : Int) : rc (pasteR r 0 [.i v]) 0 = .i v := by cases r <;> rfl
def setI (s : List Row) (t v : Int) : List Row := s.set t.toNat (pasteR (row s t.toNat) 0 [.i v])
theorem setI_len (s : List Row) (t v : Int) : (setI s t v).length = s.length := by simp [setI]
theorem numT_setI {s : List Row} {t v : Int} {u : Nat} (hu : u < s.length) : numT (setI s t v) u = if t.toNat = u then v else numT s u := by
  unfold numT setI
  rw [row_set]
  by_cases h : t.toNat = u
  · rw [if_pos ⟨h, hu⟩, if_pos h, paste_c0]; rfl
  · rw [if_neg (fun q => h q.1), if_neg h]
theorem nrms_set' {ks : List Kd} {xs : List Row} {i : Nat} {r : Row} (h : nrms ks xs = xs) (h2 : nrm ks r = r) : nrms ks (xs.set i r) = xs.set i r := by
  have e : nrms ks (xs.set i r) = (nrms ks xs).set i (nrm ks r) := by simp [nrms, List.map_set]
  rw [e, h, h2]
theorem paste_int (r : Row) (v : Int) (h : nrm KInt r = r) : pasteR r 0 [.i v] = [.i v] := by rw [← h]; rfl
theorem nrms_setI {s : List Row} {t v : Int} (h : nrms KInt s = s) : nrms KInt (setI s t v) = setI s t v := by
  unfold setI
  by_cases hl : t.toNat < s.length
  · have e : nrm KInt (row s t.toNat) = row s t.toNat := by rw [← row_nrms hl, h]
    exact nrms_set' h (by rw [paste_int _ _ e]; rfl)
  · rw [List.set_eq_of_length_le (by omega), h]
theorem nrm_int (r : Row) : nrm KInt r = [.i (rc r 0).int] := rfl
theorem row_int {s : List Row} {t : Nat} (h : nrms KInt s = s) (ht : t < s.length) : row s t = [.i (numT s t)] := by
  have := row_nrms (ks := KInt) ht
  rw [h, nrm_int] at this; exact this
theorem ints_ext {a b : List Row} (ha : nrms KInt a = a) (hb : nrms KInt b = b) (hl : a.length = b.length) (h : ∀ t, t < a.length → numT a t = numT b t) : a = b :=
  rows_ext hl (fun i hi => by rw [row_int ha hi, row_int hb (by omega), h i hi])
theorem toNat_nat (j : Nat) : ((j : Int)).toNat = j := by omega
/-- A number stands in a list. -/
def Mem (xs : List Row) (n : Int) : Prop := ∃ j, j < xs.length ∧ numT xs j = n
theorem mem_memI : ∀ {xs : List Row} {n : Int}, Mem xs n ↔ memI xs n
  | [], n => ⟨fun ⟨j, h, _⟩ => by simp at h, fun h => by simp [memI] at h⟩
  | r :: rs, n => by
    simp only [memI]
    rw [← mem_memI (xs := rs) (n := n)]
    constructor
    · rintro ⟨j, h1, h2⟩
      cases j with
      | zero => exact .inl h2
      | succ j => exact .inr ⟨j, by simpa using h1, h2⟩
    · rintro (h | ⟨j, h1, h2⟩)
      · exact ⟨0, by simp, h⟩
      · exact ⟨j + 1, by simpa using h1, h2⟩
theorem mem_append {xs ys : List Row} {n : Int} : Mem (xs ++ ys) n ↔ (Mem xs n ∨ Mem ys n) := by
  constructor
  · rintro ⟨j, h1, h2⟩
    rw [List.length_append] at h1
    unfold numT at h2
    rw [row_append] at h2
    split at h2
    · exact .inl ⟨j, by assumption, h2⟩
    · exact .inr ⟨j - xs.length, by omega, h2⟩
  · rintro (⟨j, h1, h2⟩ | ⟨j, h1, h2⟩)
    · exact ⟨j, by rw [List.length_append]; omega, by unfold numT; rw [row_append, if_pos h1]; exact h2⟩
    · exact ⟨xs.length + j, by rw [List.length_append]; omega, by unfold numT; rw [row_append, if_neg (by omega), show xs.length + j - xs.length = j by omega]; exact h2⟩
theorem mem_one {v n : Int} : Mem [[Sc.i v]] n ↔ v = n := ⟨fun ⟨j, h1, h2⟩ => by
  have : j = 0 := by simp at h1; omega
  subst this; exact h2, fun h => ⟨0, by simp, h⟩⟩
theorem mem_nil {n : Int} : ¬ Mem [] n := fun ⟨j, h, _⟩ => by simp at h
/-- The numbers of a list that answer to a condition, in order. -/
noncomputable def ascL0 (P : Int → Prop) : Nat → List Row
  | 0 => []
  | n + 1 => if P (n : Int) then ascL0 P n ++ [[.i (n : Int)]] else ascL0 P n
@[irreducible] noncomputable def ascL (P : Int → Prop) (n : Nat) : List Row := ascL0 P n
theorem ascL_zero (P : Int → Prop) : ascL P 0 = [] := by simp [ascL, ascL0]
theorem ascL_succ (P : Int → Prop) (n : Nat) : ascL P (n + 1) = if P (n : Int) then ascL P n ++ [[.i (n : Int)]] else ascL P n := by simp only [ascL, ascL0]
theorem ascL_zero' (P : Int → Prop) : [] = ascL P (Int.toNat 0) := (ascL_zero P).symm
theorem ascL_stepI {P : Int → Prop} {i : Int} (h0 : 0 ≤ i) : ascL P (i + 1).toNat = if P i then ascL P i.toNat ++ [[.i i]] else ascL P i.toNat := by
  rw [show (i + 1).toNat = i.toNat + 1 by omega, ascL_succ, show ((i.toNat : Nat) : Int) = i by omega]
theorem ascL_yes {P : Int → Prop} {i : Int} (h : P i) (h0 : 0 ≤ i) : ascL P i.toNat ++ [[Sc.i i]] = ascL P (i + 1).toNat := by rw [ascL_stepI h0, if_pos h]
theorem ascL_no {P : Int → Prop} {i : Int} (h : ¬ P i) (h0 : 0 ≤ i) : ascL P i.toNat = ascL P (i + 1).toNat := by rw [ascL_stepI h0, if_neg h]
theorem ascL_len (P : Int → Prop) : ∀ n : Nat, (ascL P n).length ≤ n
  | 0 => by rw [ascL_zero]; exact Nat.le_refl _
  | n + 1 => by
    have := ascL_len P n
    rw [ascL_succ]; split
    · rw [List.length_append]; simp; omega
    · omega
theorem ascL_nrm (P : Int → Prop) : ∀ n : Nat, nrms KInt (ascL P n) = ascL P n
  | 0 => by rw [ascL_zero]; rfl
  | n + 1 => by
    rw [ascL_succ]; split
    · rw [nrms_append, ascL_nrm P n]; rfl
    · exact ascL_nrm P n
theorem ascL_mem (P : Int → Prop) (v : Int) : ∀ n : Nat, Mem (ascL P n) v ↔ (0 ≤ v ∧ v < n ∧ P v)
  | 0 => by rw [ascL_zero]; exact ⟨fun h => absurd h mem_nil, fun h => by omega⟩
  | n + 1 => by
    have ih := ascL_mem P v n
    rw [ascL_succ]; split
    · rename_i hp
      rw [mem_append, ih, mem_one]
      constructor
      · rintro (⟨h1, h2, h3⟩ | h)
        · exact ⟨h1, by omega, h3⟩
        · rw [← h]; exact ⟨by omega, by omega, hp⟩
      · rintro ⟨h1, h2, h3⟩
        by_cases e : v < n
        · exact .inl ⟨h1, e, h3⟩
        · right; omega
    · rename_i hp
      rw [ih]
      constructor
      · rintro ⟨h1, h2, h3⟩; exact ⟨h1, by omega, h3⟩
      · rintro ⟨h1, h2, h3⟩
        refine ⟨h1, ?_, h3⟩
        by_cases e : v < n
        · exact e
        · rw [show v = n by omega] at h3; exact absurd h3 hp
/-- Numbers ascend. -/
structure Asc (ys : List Row) : Prop where
  h : ∀ i j : Nat, i < j → j < ys.length → numT ys i < numT ys j
theorem numT_app1 {xs ys : List Row} {j : Nat} (h : j < xs.length) : numT (xs ++ ys) j = numT xs j := by unfold numT; rw [row_append, if_pos h]
theorem numT_app2 {xs : List Row} {v : Int} : numT (xs ++ [[Sc.i v]]) xs.length = v := by unfold numT; rw [row_append, if_neg (by omega), Nat.sub_self]; rfl
theorem ascL_asc (P : Int → Prop) : ∀ n : Nat, Asc (ascL P n)
  | 0 => by rw [ascL_zero]; exact ⟨fun i j _ h => by simp at h⟩
  | n + 1 => by
    have ih := ascL_asc P n
    rw [ascL_succ]; split
    · refine ⟨fun i j hij hj => ?_⟩
      rw [List.length_append] at hj
      simp only [List.length_cons, List.length_nil] at hj
      by_cases e : j < (ascL P n).length
      · rw [numT_app1 e, numT_app1 (by omega)]; exact ih.h i j hij e
      · have ej : j = (ascL P n).length := by omega
        rw [ej, numT_app2, numT_app1 (by omega)]
        have := (ascL_mem P (numT (ascL P n) i) n).1 ⟨i, by omega, rfl⟩
        exact this.2.1
    · exact ih
/-- Ascending lists of the same numbers are equal. -/
theorem asc_eq : ∀ {n : Nat} {a b : List Row}, a.length = n → nrms KInt a = a → nrms KInt b = b → Asc a → Asc b → (∀ v, Mem a v ↔ Mem b v) → a = b := by
  have key : ∀ {a b : List Row}, Asc a → Asc b → (∀ v, Mem a v ↔ Mem b v) → ∀ i, i < a.length → i < b.length ∧ numT a i = numT b i := by
    intro a b ha hb hm i
    induction i using Nat.strongRecOn with
    | _ i ih =>
      intro hi
      obtain ⟨j, hj, hje⟩ := (hm (numT a i)).1 ⟨i, hi, rfl⟩
      have hij : i ≤ j := by
        apply Classical.byContradiction
        intro q
        have hlt : j < i := by omega
        obtain ⟨_, h2⟩ := ih j hlt (by omega)
        have := ha.h j i hlt hi
        omega
      have hib : i < b.length := by omega
      refine ⟨hib, ?_⟩
      obtain ⟨k, hk, hke⟩ := (hm (numT b i)).2 ⟨i, hib, rfl⟩
      have hik : i ≤ k := by
        apply Classical.byContradiction
        intro q
        have hlt : k < i := by omega
        obtain ⟨_, h2⟩ := ih k hlt hk
        have := hb.h k i hlt hib
        omega
      have h1 : numT a i ≤ numT a k := by
        by_cases e : i = k
        · rw [e]; exact Int.le_refl _
        · have := ha.h i k (by omega) hk; omega
      have h2 : numT b i ≤ numT b j := by
        by_cases e : i = j
        · rw [e]; exact Int.le_refl _
        · have := hb.h i j (by omega) hj; omega
      omega
  intro n a b _ na nb ha hb hm
  have h1 := key ha hb hm
  have h2 := key hb ha (fun v => (hm v).symm)
  have hl : a.length = b.length := by
    by_cases e : a.length ≤ b.length
    · by_cases e2 : b.length ≤ a.length
      · omega
      · have := (h2 a.length (by omega)).1; omega
    · have := (h1 b.length (by omega)).1; omega
  exact ints_ext na nb hl (fun t ht => (h1 t ht).2)
/-- Numbers, each once. -/
structure Dst (ys : List Row) : Prop where
  h : ∀ i j : Nat, i < j → j < ys.length → numT ys i ≠ numT ys j
theorem dst_nil : Dst [] := ⟨fun i j _ h => by simp at h⟩
theorem dst_snoc {xs : List Row} {v : Int} (h : Dst xs) (hn : ¬ Mem xs v) : Dst (xs ++ [[Sc.i v]]) := ⟨fun i j hij hj => by
  rw [List.length_append] at hj
  simp only [List.length_cons, List.length_nil] at hj
  by_cases e : j < xs.length
  · rw [numT_app1 e, numT_app1 (by omega)]; exact h.h i j hij e
  · have ej : j = xs.length := by omega
    rw [ej, numT_app2, numT_app1 (by omega)]
    exact fun q => hn ⟨i, by omega, q⟩⟩
theorem asc_dst {xs : List Row} (h : Asc xs) : Dst xs := ⟨fun i j h1 h2 => by have := h.h i j h1 h2; omega⟩
/-- So many numbers, each once, below n: no more than n. -/
theorem nodup_le : ∀ (n : Nat) (l : List Int), l.Nodup → (∀ x ∈ l, 0 ≤ x ∧ x < n) → l.length ≤ n
  | 0, [], _, _ => Nat.le_refl _
  | 0, x :: l, _, h => by have := h x List.mem_cons_self; omega
  | n + 1, l, hd, h => by
    by_cases hm : (n : Int) ∈ l
    · obtain ⟨a, b, rfl⟩ := List.append_of_mem hm
      rw [List.nodup_append] at hd
      obtain ⟨h1, h2, h3⟩ := hd
      rw [List.nodup_cons] at h2
      have := nodup_le n (a ++ b) (by
        rw [List.nodup_append]
        exact ⟨h1, h2.2, fun x hx y hy => h3 x hx y (List.mem_cons_of_mem _ hy)⟩) (fun x hx => by
        have hx' : x ∈ a ++ (n : Int) :: b := by
          rcases List.mem_append.1 hx with q | q
          · exact List.mem_append.2 (.inl q)
          · exact List.mem_append.2 (.inr (List.mem_cons_of_mem _ q))
        have hb := h x hx'
        have hne : x ≠ n := by
          rcases List.mem_append.1 hx with q | q
          · exact h3 x q _ List.mem_cons_self
          · intro e; rw [e] at q; exact h2.1 q
        omega)
      simp only [List.length_append, List.length_cons] at this ⊢
      omega
    · have := nodup_le n l hd (fun x hx => by
        have := h x hx
        have hne : x ≠ n := fun e => hm (e ▸ hx)
        omega)
      omega
def nums (xs : List Row) : List Int := xs.map (fun r => (rc r 0).int)
theorem nums_get {xs : List Row} {i : Nat} (h : i < xs.length) : (nums xs)[i]? = some (numT xs i) := by
  unfold nums; rw [List.getElem?_map, row_some h]; rfl
theorem dst_nodup {xs : List Row} (h : Dst xs) : (nums xs).Nodup := by
  unfold List.Nodup
  rw [List.pairwise_iff_getElem]
  intro i j hi hj hij
  have hl : (nums xs).length = xs.length := by simp [nums]
  have h1 := nums_get (xs := xs) (i := i) (by omega)
  have h2 := nums_get (xs := xs) (i := j) (by omega)
  rw [List.getElem?_eq_getElem hi] at h1
  rw [List.getElem?_eq_getElem hj] at h2
  rw [Option.some.inj h1, Option.some.inj h2]
  exact h.h i j hij (by omega)
theorem dst_le {xs : List Row} {n : Nat} (h : Dst xs) (hr : ∀ v, Mem xs v → 0 ≤ v ∧ v < n) : xs.length ≤ n := by
  have := nodup_le n (nums xs) (dst_nodup h) (fun x hx => by
    obtain ⟨r, hr1, hr2⟩ := List.mem_map.1 hx
    obtain ⟨j, hj, he⟩ := List.mem_iff_getElem.1 hr1
    refine hr x ⟨j, hj, ?_⟩
    have := row_some hj
    rw [List.getElem?_eq_getElem hj] at this
    unfold numT
    rw [← Option.some.inj this, he]; exact hr2)
  simpa [nums] using this
/-- What sorting leaves. -/
structure SortOf (xs ys : List Row) : Prop where
  l : ys.length = xs.length
  a : Asc ys
  m : ∀ v, Mem ys v ↔ Mem xs v
  n : nrms KInt ys = ys
theorem sort_asc {P : Int → Prop} {xs ys : List Row} {n : Nat} (h : SortOf xs ys) (hm : ∀ v, Mem xs v ↔ (0 ≤ v ∧ v < n ∧ P v)) : ys = ascL P n :=
  asc_eq rfl h.n (ascL_nrm P n) h.a (ascL_asc P n) (fun v => by rw [h.m, hm, ascL_mem])
/-- While sorting: the numbers up to index i stand in order, but for the one at k, which is less than all behind it. -/
structure Srt (xs ys : List Row) (i k : Nat) : Prop where
  l : ys.length = xs.length
  n : nrms KInt ys = ys
  d : Dst ys
  m : ∀ v, Mem ys v ↔ Mem xs v
  ki : k ≤ i
  b : ∀ a b : Nat, a < b → b ≤ i → b < ys.length → a ≠ k → b ≠ k → numT ys a < numT ys b
  c : ∀ b : Nat, k < b → b ≤ i → b < ys.length → numT ys k < numT ys b
theorem srt_begin {xs ys : List Row} {i : Nat} (hl : ys.length = xs.length) (hn : nrms KInt ys = ys) (hd : Dst ys) (hm : ∀ v, Mem ys v ↔ Mem xs v) (h : ∀ a b : Nat, a < b → b < i → b < ys.length → numT ys a < numT ys b) : Srt xs ys i i :=
  ⟨hl, hn, hd, hm, Nat.le_refl _, fun a b h1 h2 h3 _ h5 => h a b h1 (by omega) h3, fun b h1 h2 => by omega⟩
theorem srt_swap {xs ys : List Row} {i k : Nat} (h : Srt xs ys i (k + 1)) (hi : i < ys.length) (hlt : numT ys (k + 1) < numT ys k) : Srt xs (setI (setI ys ((k + 1 : Nat) : Int) (numT ys k)) (k : Nat) (numT ys (k + 1))) i k := by
  have hki := h.ki
  have hv : ∀ u, u < ys.length → numT (setI (setI ys ((k + 1 : Nat) : Int) (numT ys k)) (k : Nat) (numT ys (k + 1))) u = if u = k then numT ys (k + 1) else if u = k + 1 then numT ys k else numT ys u := by
    intro u hu
    rw [numT_setI (by rw [setI_len]; exact hu), toNat_nat]
    by_cases e : k = u
    · rw [if_pos e, if_pos e.symm]
    · rw [if_neg e, if_neg (fun q => e q.symm), numT_setI hu, toNat_nat]
      by_cases e2 : k + 1 = u
      · rw [if_pos e2, if_pos e2.symm]
      · rw [if_neg e2, if_neg (fun q => e2 q.symm)]
  have hln : (setI (setI ys ((k + 1 : Nat) : Int) (numT ys k)) (k : Nat) (numT ys (k + 1))).length = ys.length := by rw [setI_len, setI_len]
  -- the place where a number stood before
  have hσ : ∀ u, u < ys.length → ∃ s, s < ys.length ∧ numT (setI (setI ys ((k + 1 : Nat) : Int) (numT ys k)) (k : Nat) (numT ys (k + 1))) u = numT ys s ∧ (u = k → s = k + 1) ∧ (u = k + 1 → s = k) ∧ (u ≠ k → u ≠ k + 1 → s = u) := by
    intro u hu
    by_cases e : u = k
    · exact ⟨k + 1, by omega, by rw [hv u hu, if_pos e], fun _ => rfl, fun q => by omega, fun q => absurd e q⟩
    · by_cases e2 : u = k + 1
      · exact ⟨k, by omega, by rw [hv u hu, if_neg e, if_pos e2], fun q => absurd q e, fun _ => rfl, fun _ q => absurd e2 q⟩
      · exact ⟨u, hu, by rw [hv u hu, if_neg e, if_neg e2], fun q => absurd q e, fun q => absurd q e2, fun _ _ => rfl⟩
  refine ⟨by rw [hln]; exact h.l, nrms_setI (nrms_setI h.n), ⟨fun a b hab hb => ?_⟩, fun v => ?_, by omega, fun a b hab hbi hb hak hbk => ?_, fun b hkb hbi hb => ?_⟩
  · rw [hln] at hb
    obtain ⟨s, hs, e1, s1, s2, s3⟩ := hσ a (by omega)
    obtain ⟨t, ht, e2, t1, t2, t3⟩ := hσ b hb
    rw [e1, e2]
    have hst : s ≠ t := by
      by_cases ea : a = k
      · have := s1 ea
        by_cases eb : b = k + 1
        · have := t2 eb; omega
        · have := t3 (by omega) eb; omega
      · by_cases ea2 : a = k + 1
        · have := s2 ea2
          have := t3 (by omega) (by omega)
          omega
        · have := s3 ea ea2
          by_cases eb : b = k
          · have := t1 eb; omega
          · by_cases eb2 : b = k + 1
            · have := t2 eb2; omega
            · have := t3 eb eb2; omega
    rcases Nat.lt_or_gt_of_ne hst with q | q
    · exact h.d.h s t q ht
    · exact fun e => h.d.h t s q hs e.symm
  · rw [← h.m]
    constructor
    · rintro ⟨j, hj, hje⟩
      rw [hln] at hj
      obtain ⟨s, hs, e1, _⟩ := hσ j hj
      exact ⟨s, hs, by rw [← e1]; exact hje⟩
    · rintro ⟨j, hj, hje⟩
      by_cases e : j = k
      · exact ⟨k + 1, by rw [hln]; omega, by rw [hv (k + 1) (by omega), if_neg (by omega), if_pos rfl, ← e]; exact hje⟩
      · by_cases e2 : j = k + 1
        · exact ⟨k, by rw [hln]; omega, by rw [hv k (by omega), if_pos rfl, ← e2]; exact hje⟩
        · exact ⟨j, by rw [hln]; exact hj, by rw [hv j hj, if_neg e, if_neg e2]; exact hje⟩
  · rw [hln] at hb
    rw [hv a (by omega), hv b hb, if_neg hak, if_neg hbk]
    by_cases ea : a = k + 1
    · rw [if_pos ea, if_neg (by omega)]
      exact h.b k b (by omega) hbi hb (by omega) (by omega)
    · rw [if_neg ea]
      by_cases eb : b = k + 1
      · rw [if_pos eb]
        exact h.b a k (by omega) (by omega) (by omega) ea (by omega)
      · rw [if_neg eb]
        exact h.b a b hab hbi hb ea eb
  · rw [hln] at hb
    rw [hv k (by omega), hv b hb, if_pos rfl, if_neg (by omega)]
    by_cases eb : b = k + 1
    · rw [if_pos eb]; exact hlt
    · rw [if_neg eb]; exact h.c b (by omega) hbi hb
theorem srt_stop {xs ys : List Row} {i k : Nat} (h : Srt xs ys i k) (hk : k = 0 ∨ ¬ numT ys k < numT ys (k - 1)) (hl : k < ys.length) : ∀ a b : Nat, a < b → b < i + 1 → b < ys.length → numT ys a < numT ys b := by
  intro a b hab hb hbl
  by_cases ea : a = k
  · rw [ea]; exact h.c b (by omega) (by omega) hbl
  · by_cases eb : b = k
    · have hk1 : ¬ numT ys k < numT ys (k - 1) := hk.resolve_left (by omega)
      have hne := h.d.h (k - 1) k (by omega) hl
      have hki := h.ki
      have hle : numT ys a ≤ numT ys (k - 1) := by
        by_cases e : a = k - 1
        · rw [e]; exact Int.le_refl _
        · have := h.b a (k - 1) (by omega) (by omega) (by omega) ea (by omega)
          omega
      rw [eb]; omega
    · exact h.b a b hab (by omega) hbl ea eb
end Go.Proofs.YtbppiknmlipmpaaDoor.V
