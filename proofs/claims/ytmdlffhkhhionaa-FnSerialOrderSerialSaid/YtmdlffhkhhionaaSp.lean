/-
  Serial orders, the plain laws.
-/
import Derived.Test.YtmdlffhkhhionaaWp
import Derived.Test.YtmdlffhkhhionaaHf
set_option linter.unusedSimpArgs false
set_option linter.unusedVariables false
namespace Go.Proofs.Ytmdlffhkhhionaa.V
open Go Go.RowKit
open Classical

theorem ascL_congr {P Q : Int → Prop} (h : ∀ v, 0 ≤ v → (P v ↔ Q v)) : ∀ n : Nat, ascL P n = ascL Q n
  | 0 => by rw [ascL_zero, ascL_zero]
  | n + 1 => by
    rw [ascL_succ, ascL_succ, ascL_congr h n]
    by_cases e : P (n : Int)
    · rw [if_pos e, if_pos ((h _ (by omega)).1 e)]
    · rw [if_neg e, if_neg (fun q => e ((h _ (by omega)).2 q))]
/-- How many numbers up to 7 answer to a condition. -/
noncomputable def cnt (P : Int → Prop) : Nat := (ascL P 8).length
theorem cnt_or0 {P : Int → Prop} {t : Int} (hn : ¬ P t) (h0 : 0 ≤ t) : ∀ n : Nat, (ascL (fun v => P v ∨ v = t) n).length = (ascL P n).length + (if t < n then 1 else 0)
  | 0 => by rw [ascL_zero, ascL_zero, if_neg (by omega)]; rfl
  | n + 1 => by
    have ih := cnt_or0 hn h0 n
    rw [ascL_succ, ascL_succ]
    by_cases e : (n : Int) = t
    · have h1 : ¬ P (n : Int) := by rw [e]; exact hn
      rw [if_pos (.inr e), if_neg h1, List.length_append, ih, if_neg (by omega), if_pos (by omega)]; rfl
    · by_cases hp : P (n : Int)
      · rw [if_pos (.inl hp), if_pos hp, List.length_append, List.length_append, ih]
        simp only [List.length_cons, List.length_nil]
        by_cases q : t < n
        · rw [if_pos q, if_pos (by omega)]
        · rw [if_neg q, if_neg (by omega)]
      · rw [if_neg (fun q => q.elim hp e), if_neg hp, ih]
        by_cases q : t < n
        · rw [if_pos q, if_pos (by omega)]
        · rw [if_neg q, if_neg (by omega)]
theorem cnt_or {P : Int → Prop} {t : Int} (hn : ¬ P t) (h0 : 0 ≤ t) (h7 : t ≤ 7) : cnt (fun v => P v ∨ v = t) = cnt P + 1 := by
  unfold cnt; rw [cnt_or0 hn h0, if_pos (by omega)]
theorem cnt_congr {P Q : Int → Prop} (h : ∀ v, 0 ≤ v → (P v ↔ Q v)) : cnt P = cnt Q := by unfold cnt; rw [ascL_congr h]
theorem cnt_minus {P : Int → Prop} {t : Int} (hp : P t) (h0 : 0 ≤ t) (h7 : t ≤ 7) : cnt P = cnt (fun v => P v ∧ v ≠ t) + 1 := by
  rw [← cnt_or (P := fun v => P v ∧ v ≠ t) (t := t) (fun q => q.2 rfl) h0 h7]
  refine cnt_congr (fun v _ => ?_)
  by_cases e : v = t
  · rw [e]; exact ⟨fun _ => .inr rfl, fun _ => hp⟩
  · exact ⟨fun q => .inl ⟨q, e⟩, fun q => q.elim (fun q => q.1) (fun q => absurd q e)⟩
theorem cnt_le (P : Int → Prop) : cnt P ≤ 8 := ascL_len P 8
theorem cnt_ex {P : Int → Prop} (h : ¬ cnt P = 0) : ∃ t, 0 ≤ t ∧ t ≤ 7 ∧ P t := by
  have : 0 < (ascL P 8).length := by unfold cnt at h; omega
  have := (ascL_mem P (numT (ascL P 8) 0) 8).1 ⟨0, this, rfl⟩
  exact ⟨_, this.1, by omega, this.2.2⟩
theorem cnt_pos {P : Int → Prop} {t : Int} (h : P t) (h0 : 0 ≤ t) (h7 : t ≤ 7) : ¬ cnt P = 0 := by rw [cnt_minus h h0 h7]; omega

/-- One before whom nobody has to come who is left. -/
structure Fst (B : Int → Int → Prop) (P : Int → Prop) (t : Int) : Prop where
  t0 : 0 ≤ t
  t7 : t ≤ 7
  p : P t
  n : ∀ u, 0 ≤ u → u ≤ 7 → P u → ¬ B u t
/-- The smallest of them. -/
structure NxtT (B : Int → Int → Prop) (P : Int → Prop) (t : Int) : Prop where
  f : Fst B P t
  l : ∀ s, s < t → ¬ Fst B P s
theorem nxt_uniq {B : Int → Int → Prop} {P : Int → Prop} {s t : Int} (h1 : NxtT B P s) (h2 : NxtT B P t) : s = t := by
  rcases Int.lt_trichotomy s t with h | h | h
  · exact absurd h1.f (h2.l s h)
  · exact h
  · exact absurd h2.f (h1.l t h)
/-- The smallest number that answers to a condition. -/
theorem least {Q : Int → Prop} : ∀ n : Nat, (∃ t : Int, 0 ≤ t ∧ t < n ∧ Q t) → ∃ t : Int, 0 ≤ t ∧ t < n ∧ Q t ∧ ∀ s : Int, 0 ≤ s → s < t → ¬ Q s
  | 0, ⟨t, h1, h2, _⟩ => by omega
  | n + 1, ⟨t, h1, h2, h3⟩ => by
    by_cases e : ∃ t : Int, 0 ≤ t ∧ t < n ∧ Q t
    · obtain ⟨t, q1, q2, q3, q4⟩ := least n e
      exact ⟨t, q1, by omega, q3, q4⟩
    · refine ⟨t, h1, h2, h3, fun s q1 q2 q3 => e ⟨s, q1, by omega, q3⟩⟩
theorem nxt_ex {B : Int → Int → Prop} {P : Int → Prop} {t : Int} (h : Fst B P t) : ∃ t, NxtT B P t := by
  obtain ⟨s, h1, h2, h3, h4⟩ := least (Q := Fst B P) 8 ⟨t, h.t0, by have := h.t7; omega, h⟩
  exact ⟨s, h3, fun r q q2 => h4 r q2.t0 q q2⟩
noncomputable def nxtF (B : Int → Int → Prop) (P : Int → Prop) : Int := if h : ∃ t, NxtT B P t then Classical.choose h else -1
theorem nxtF_is {B : Int → Int → Prop} {P : Int → Prop} {t : Int} (h : NxtT B P t) : nxtF B P = t := by
  unfold nxtF
  have hx : ∃ t, NxtT B P t := ⟨t, h⟩
  rw [dif_pos hx]
  exact nxt_uniq (Classical.choose_spec hx) h
theorem nxtF_no {B : Int → Int → Prop} {P : Int → Prop} (h : ∀ t, ¬ Fst B P t) : nxtF B P = -1 := by
  unfold nxtF
  rw [dif_neg (fun ⟨t, q⟩ => h t q.f)]
theorem nxtF_cases (B : Int → Int → Prop) (P : Int → Prop) : (NxtT B P (nxtF B P) ∧ 0 ≤ nxtF B P ∧ nxtF B P ≤ 7) ∨ (nxtF B P = -1 ∧ ∀ t, ¬ Fst B P t) := by
  by_cases h : ∃ t, NxtT B P t
  · obtain ⟨t, ht⟩ := h
    rw [nxtF_is ht]
    exact .inl ⟨ht, ht.f.t0, ht.f.t7⟩
  · refine .inr ⟨?_, fun t q => h (nxt_ex q)⟩
    unfold nxtF; rw [dif_neg h]
/-- The order of those left, if there is one. -/
noncomputable def serF (B : Int → Int → Prop) : Nat → (Int → Prop) → List Row × Bool
  | 0, _ => ([], true)
  | n + 1, P => if nxtF B P < 0 then ([], false) else
    if (serF B n (fun v => P v ∧ v ≠ nxtF B P)).2 = true then ([.i (nxtF B P)] :: (serF B n (fun v => P v ∧ v ≠ nxtF B P)).1, true) else ([], false)
theorem serF_congr {B : Int → Int → Prop} : ∀ (n : Nat) {P Q : Int → Prop}, (∀ v, P v ↔ Q v) → serF B n P = serF B n Q := by
  intro n P Q h
  have : P = Q := funext (fun v => propext (h v))
  rw [this]
/-- While an order is made. -/
structure SerR (B : Int → Int → Prop) (P0 P : Int → Prop) (acc : List Row) (m : Nat) : Prop where
  c : acc.length + cnt P = m
  n : nrms KInt acc = acc
  b : (serF B m P0).2 = (serF B (cnt P) P).2
  e : (serF B (cnt P) P).2 = true → (serF B m P0).1 = acc ++ (serF B (cnt P) P).1
theorem serr_zero (B : Int → Int → Prop) (P : Int → Prop) : SerR B P P [] (cnt P) := ⟨by simp, rfl, rfl, fun _ => rfl⟩
theorem serr_step {B : Int → Int → Prop} {P0 P : Int → Prop} {acc : List Row} {m : Nat} (h : SerR B P0 P acc m) (hn : 0 ≤ nxtF B P) : SerR B P0 (fun v => P v ∧ v ≠ nxtF B P) (acc ++ [[Sc.i (nxtF B P)]]) m := by
  rcases nxtF_cases B P with ⟨q, q0, q7⟩ | ⟨q, _⟩
  · have hc := cnt_minus q.f.p q0 q7
    have hs : serF B (cnt P) P = if (serF B (cnt (fun v => P v ∧ v ≠ nxtF B P)) (fun v => P v ∧ v ≠ nxtF B P)).2 = true then ([.i (nxtF B P)] :: (serF B (cnt (fun v => P v ∧ v ≠ nxtF B P)) (fun v => P v ∧ v ≠ nxtF B P)).1, true) else ([], false) := by
      conv => lhs; rw [hc]
      simp only [serF]
      rw [if_neg (by omega)]
    refine ⟨?_, by rw [nrms_append, h.n]; rfl, ?_, fun q2 => ?_⟩
    · have := h.c
      rw [List.length_append]; simp only [List.length_cons, List.length_nil]; omega
    · rw [h.b, hs]
      split
      · rename_i e; rw [e]
      · rename_i e; rw [Bool.not_eq_true] at e; rw [e]
    · have h2 : (serF B (cnt P) P).2 = true := by rw [hs, if_pos q2]
      rw [h.e h2, hs, if_pos q2, List.append_assoc]; rfl
  · omega
theorem serr_no {B : Int → Int → Prop} {P0 P : Int → Prop} {acc : List Row} {m : Nat} (h : SerR B P0 P acc m) (hl : (acc.length : Int) < m) (hn : nxtF B P < 0) : (serF B m P0).2 = false := by
  have hc := h.c
  rw [h.b]
  have : ∃ k, cnt P = k + 1 := ⟨cnt P - 1, by omega⟩
  obtain ⟨k, hk⟩ := this
  rw [hk]
  simp only [serF]
  rw [if_pos hn]
theorem serr_fin {B : Int → Int → Prop} {P0 P : Int → Prop} {acc : List Row} {m : Nat} (h : SerR B P0 P acc m) (hl : ¬ (acc.length : Int) < m) : (serF B m P0).2 = true ∧ (serF B m P0).1 = acc := by
  have hc := h.c
  have h0 : cnt P = 0 := by omega
  have e : serF B (cnt P) P = ([], true) := by rw [h0]; rfl
  refine ⟨by rw [h.b, e], ?_⟩
  rw [h.e (by rw [e]), e, List.append_nil]
/-- What comes out false has no order. -/
theorem serF_nil {B : Int → Int → Prop} : ∀ (n : Nat) (P : Int → Prop), (serF B n P).2 = false → (serF B n P).1 = []
  | 0, _, h => by simp [serF] at h
  | n + 1, P, h => by
    simp only [serF] at h ⊢
    split
    · rfl
    · rename_i hn
      rw [if_neg hn] at h
      split
      · rename_i e; rw [if_pos e] at h; cases h
      · rfl
/-! What an order is. -/
theorem ser_spec {B : Int → Int → Prop} : ∀ (n : Nat) (P : Int → Prop), n = cnt P → (serF B n P).2 = true → (serF B n P).1.length = n ∧ nrms KInt (serF B n P).1 = (serF B n P).1 ∧ Dst (serF B n P).1 ∧ (∀ v, Mem (serF B n P).1 v ↔ (0 ≤ v ∧ v ≤ 7 ∧ P v)) ∧
    ∀ i j, i < j → j < (serF B n P).1.length → ¬ B (numT (serF B n P).1 j) (numT (serF B n P).1 i)
  | 0, P, hc, _ => by
    refine ⟨rfl, rfl, dst_nil, fun v => ⟨fun q => absurd q mem_nil, fun ⟨h1, h2, h3⟩ => ?_⟩, fun i j _ hj => by simp [serF] at hj⟩
    exact absurd hc.symm (cnt_pos h3 h1 h2)
  | n + 1, P, hc, h => by
    simp only [serF] at h ⊢
    by_cases hn : nxtF B P < 0
    · rw [if_pos hn] at h; cases h
    · rw [if_neg hn] at h ⊢
      by_cases e : (serF B n (fun v => P v ∧ v ≠ nxtF B P)).2 = true
      · rw [if_pos e]
        rcases nxtF_cases B P with ⟨q, q0, q7⟩ | ⟨q, _⟩
        · have hcm := cnt_minus q.f.p q0 q7
          obtain ⟨i1, i2, i3, i4, i5⟩ := ser_spec n (fun v => P v ∧ v ≠ nxtF B P) (by omega) e
          have hmc : ∀ v, Mem ([.i (nxtF B P)] :: (serF B n (fun v => P v ∧ v ≠ nxtF B P)).1) v ↔ (nxtF B P = v ∨ Mem (serF B n (fun v => P v ∧ v ≠ nxtF B P)).1 v) := fun v => by
            rw [show ([.i (nxtF B P)] :: (serF B n (fun v => P v ∧ v ≠ nxtF B P)).1) = [[Sc.i (nxtF B P)]] ++ (serF B n (fun v => P v ∧ v ≠ nxtF B P)).1 from rfl, mem_append, mem_one]
          refine ⟨by simp [i1], ?_, ⟨fun a b hab hb => ?_⟩, fun v => ?_, fun a b hab hb => ?_⟩
          · simp only [nrms, List.map_cons] at i2 ⊢
            rw [i2]; rfl
          · cases b with
            | zero => omega
            | succ b =>
              have hb' : b < (serF B n (fun v => P v ∧ v ≠ nxtF B P)).1.length := by simpa using hb
              cases a with
              | zero => exact fun q2 => (((i4 _).1 ⟨b, hb', rfl⟩).2.2).2 q2.symm
              | succ a => exact i3.h a b (by omega) hb'
          · rw [hmc, i4]
            constructor
            · rintro (q2 | ⟨h1, h2, h3, _⟩)
              · rw [← q2]; exact ⟨q0, q7, q.f.p⟩
              · exact ⟨h1, h2, h3⟩
            · rintro ⟨h1, h2, h3⟩
              by_cases ev : v = nxtF B P
              · exact .inl ev.symm
              · exact .inr ⟨h1, h2, h3, ev⟩
          · cases b with
            | zero => omega
            | succ b =>
              have hb' : b < (serF B n (fun v => P v ∧ v ≠ nxtF B P)).1.length := by simpa using hb
              cases a with
              | zero =>
                have := (i4 _).1 ⟨b, hb', rfl⟩
                exact q.f.n _ this.1 this.2.1 this.2.2.1
              | succ a => exact i5 a b (by omega) hb'
        · omega
      · rw [if_neg e] at h; cases h
/-- Where a number goes up along all that has to come before, there is an order. -/
theorem ser_rank {B : Int → Int → Prop} {f : Int → Nat} : ∀ (n : Nat) (P : Int → Prop), n = cnt P → (∀ u t, P u → P t → B u t → f u < f t) → (serF B n P).2 = true
  | 0, _, _, _ => rfl
  | n + 1, P, hc, h => by
    obtain ⟨t0, h0, h7, hp⟩ := cnt_ex (P := P) (by omega)
    -- one of least rank
    have hl : ∀ m : Nat, (∃ t, 0 ≤ t ∧ t ≤ 7 ∧ P t ∧ f t ≤ m) → ∃ t, 0 ≤ t ∧ t ≤ 7 ∧ P t ∧ ∀ u, 0 ≤ u → u ≤ 7 → P u → f t ≤ f u := by
      intro m
      induction m with
      | zero => rintro ⟨t, q1, q2, q3, q4⟩; exact ⟨t, q1, q2, q3, fun u _ _ _ => by omega⟩
      | succ m ih =>
        rintro ⟨t, q1, q2, q3, q4⟩
        by_cases e : ∃ t, 0 ≤ t ∧ t ≤ 7 ∧ P t ∧ f t ≤ m
        · exact ih e
        · refine ⟨t, q1, q2, q3, fun u r1 r2 r3 => ?_⟩
          apply Classical.byContradiction
          intro q
          exact e ⟨u, r1, r2, r3, by omega⟩
    obtain ⟨t, q1, q2, q3, q4⟩ := hl (f t0) ⟨t0, h0, h7, hp, Nat.le_refl _⟩
    have hf : Fst B P t := ⟨q1, q2, q3, fun u r1 r2 r3 hb => by
      have := h u t r3 q3 hb
      have := q4 u r1 r2 r3
      omega⟩
    rcases nxtF_cases B P with ⟨q, r0, r7⟩ | ⟨_, q⟩
    · have hcm := cnt_minus q.f.p r0 r7
      simp only [serF]
      rw [if_neg (by omega), if_pos (ser_rank n _ (by omega) (fun u t hu ht => h u t hu.1 ht.1))]
    · exact absurd hf (q t)
/-- The place of a number in a list. -/
noncomputable def place (l : List Row) (v : Int) : Nat := if h : Mem l v then Classical.choose h else 0
theorem place_is {l : List Row} {v : Int} (h : Mem l v) : place l v < l.length ∧ numT l (place l v) = v := by
  unfold place; rw [dif_pos h]; exact Classical.choose_spec h
theorem place_at {l : List Row} {i : Nat} (h : Dst l) (hi : i < l.length) : place l (numT l i) = i := by
  have hm : Mem l (numT l i) := ⟨i, hi, rfl⟩
  obtain ⟨h1, h2⟩ := place_is hm
  rcases Nat.lt_trichotomy (place l (numT l i)) i with q | q | q
  · exact absurd h2 (h.h _ _ q hi)
  · exact q
  · exact absurd h2.symm (h.h _ _ q h1)
/-- An order gives numbers that go up. -/
theorem ser_place {B : Int → Int → Prop} {P : Int → Prop} (hB : ∀ u t, B u t → u ≠ t) (h : (serF B (cnt P) P).2 = true) {u t : Int} (hu : 0 ≤ u ∧ u ≤ 7 ∧ P u) (ht : 0 ≤ t ∧ t ≤ 7 ∧ P t) (hb : B u t) : place (serF B (cnt P) P).1 u < place (serF B (cnt P) P).1 t := by
  obtain ⟨_, _, h3, h4, h5⟩ := ser_spec _ P rfl h
  obtain ⟨a1, a2⟩ := place_is ((h4 u).2 hu)
  obtain ⟨b1, b2⟩ := place_is ((h4 t).2 ht)
  rcases Nat.lt_trichotomy (place (serF B (cnt P) P).1 u) (place (serF B (cnt P) P).1 t) with q | q | q
  · exact q
  · rw [q, b2] at a2; exact absurd a2.symm (hB u t hb)
  · have := h5 _ _ q a1
    rw [a2, b2] at this
    exact absurd hb this

/-! Of histories. -/
/-- Who has to come before whom, by the first n acts. -/
def BefN (xs : List Row) (n : Nat) (u t : Int) : Prop := ∃ k i, k < i ∧ i < n ∧ confl (rc (row xs k) 0).int (rc (row xs k) 1).int (rc (row xs k) 2).int (rc (row xs i) 0).int (rc (row xs i) 1).int (rc (row xs i) 2).int ∧ (rc (row xs k) 0).int = u ∧ (rc (row xs i) 0).int = t
def Bef (xs : List Row) (u t : Int) : Prop := BefN xs xs.length u t
theorem bef_ne {xs : List Row} {u t : Int} (h : Bef xs u t) : u ≠ t := by
  obtain ⟨k, i, _, _, hc, rfl, rfl⟩ := h
  exact hc.1
/-- Who acts among the first n. -/
def OwnN (xs : List Row) (n : Nat) (o : Int) : Prop := ∃ i, i < n ∧ (rc (row xs i) 0).int = o
def Own (xs : List Row) (o : Int) : Prop := OwnN xs xs.length o
theorem own_range {xs : List Row} (h : VA xs) {o : Int} (ho : Own xs o) : 0 ≤ o ∧ o ≤ 7 := by
  obtain ⟨i, hi, rfl⟩ := ho
  have := (h.g.h i hi).1.h
  exact ⟨this.1, this.2.1⟩
theorem bef_own {xs : List Row} {u t : Int} (h : Bef xs u t) : Own xs u ∧ Own xs t := by
  obtain ⟨k, i, h1, h2, _, rfl, rfl⟩ := h
  exact ⟨⟨k, by omega, rfl⟩, ⟨i, h2, rfl⟩⟩
/-- What both functions return. -/
noncomputable def serL (xs : List Row) : List Row × Bool := if VA xs then serF (Bef xs) (cnt (Own xs)) (Own xs) else ([], false)
theorem serL_no {xs : List Row} (h : ¬ VA xs) : serL xs = ([], false) := by unfold serL; rw [if_neg h]
theorem serL_is {xs : List Row} (h : VA xs) : serL xs = serF (Bef xs) (cnt (Own xs)) (Own xs) := by unfold serL; rw [if_pos h]
theorem serL_va {xs : List Row} (h : (serL xs).2 = true) : VA xs := by
  apply Classical.byContradiction
  intro q; rw [serL_no q] at h; cases h
theorem serL_nil {xs : List Row} (h : (serL xs).2 = false) : (serL xs).1 = [] := by
  by_cases hv : VA xs
  · rw [serL_is hv] at h ⊢; exact serF_nil _ _ h
  · rw [serL_no hv]
theorem serF_len {B : Int → Int → Prop} : ∀ (n : Nat) (P : Int → Prop), (serF B n P).1.length ≤ n ∧ nrms KInt (serF B n P).1 = (serF B n P).1
  | 0, _ => ⟨Nat.le_refl _, rfl⟩
  | n + 1, P => by
    simp only [serF]
    split
    · exact ⟨by simp, rfl⟩
    · obtain ⟨h1, h2⟩ := serF_len n (fun v => P v ∧ v ≠ nxtF B P)
      split
      · refine ⟨by simpa using h1, ?_⟩
        simp only [nrms, List.map_cons] at h2 ⊢
        rw [h2]; rfl
      · exact ⟨by simp, rfl⟩
theorem serL_len (xs : List Row) : (serL xs).1.length ≤ 8 := by
  unfold serL; split
  · exact Nat.le_trans (serF_len _ _).1 (cnt_le _)
  · simp
theorem serL_nrm (xs : List Row) : nrms KInt (serL xs).1 = (serL xs).1 := by
  unfold serL; split
  · exact (serF_len _ _).2
  · rfl
/-- Numbers that go up along all conflicts: there is an order. -/
theorem serL_rank {xs : List Row} {f : Int → Nat} (hv : VA xs) (h : ∀ u t, Bef xs u t → f u < f t) : (serL xs).2 = true := by
  rw [serL_is hv]
  exact ser_rank _ _ rfl (fun u t _ _ hb => h u t hb)
theorem serL_place {xs : List Row} (h : (serL xs).2 = true) {u t : Int} (hb : Bef xs u t) : place (serL xs).1 u < place (serL xs).1 t := by
  have hv := serL_va h
  have ho := bef_own hb
  have h1 := own_range hv ho.1
  have h2 := own_range hv ho.2
  rw [serL_is hv] at h ⊢
  exact ser_place (fun _ _ => bef_ne) h ⟨h1.1, h1.2, ho.1⟩ ⟨h2.1, h2.2, ho.2⟩ hb
theorem serL_mem {xs : List Row} (h : (serL xs).2 = true) : Dst (serL xs).1 ∧ ∀ v, Mem (serL xs).1 v ↔ Own xs v := by
  have hv := serL_va h
  rw [serL_is hv] at h ⊢
  obtain ⟨_, _, h3, h4, _⟩ := ser_spec _ _ rfl h
  exact ⟨h3, fun v => by rw [h4]; exact ⟨fun q => q.2.2, fun q => ⟨(own_range hv q).1, (own_range hv q).2, q⟩⟩⟩
/-- Beginnings have an order. -/
theorem row_takeA {xs : List Row} {n j : Nat} (h : j < n) : row (xs.take n) j = row xs j := by
  unfold row
  rw [List.getD_eq_getElem?_getD, List.getD_eq_getElem?_getD, List.getElem?_take, if_pos h]
theorem serL_take {xs : List Row} (h : (serL xs).2 = true) (n : Nat) : (serL (xs.take n)).2 = true := by
  have hv := serL_va h
  refine serL_rank (f := place (serL xs).1) (va_sub hv (List.take_sublist n xs)) (fun u t hb => serL_place h ?_)
  obtain ⟨k, i, h1, h2, hc, h3, h4⟩ := hb
  rw [List.length_take] at h2
  rw [row_takeA (by omega), row_takeA (by omega)] at hc
  rw [row_takeA (by omega)] at h3 h4
  exact ⟨k, i, h1, by omega, hc, h3, h4⟩
/-- Where locks are kept up to the commit there is an order. -/
noncomputable def comAt (xs : List Row) (o : Int) : Nat := if h : ∃ j, j < xs.length ∧ (rc (row xs j) 0).int = o ∧ (rc (row xs j) 1).int = 2 then Classical.choose h else xs.length
theorem com_uniq {xs : List Row} (h : VA xs) {j : Nat} (hj : j < xs.length) (hk : (rc (row xs j) 1).int = 2) : ∀ i, j < i → i < xs.length → ¬ (rc (row xs i) 0).int = (rc (row xs j) 0).int := by
  intro i h1 h2 e
  exact (h.g.h i h2).2.h j h1 ⟨e.symm, hk⟩
theorem lock_order {xs : List Row} (h : Str false xs) : (serL xs).2 = true := by
  obtain ⟨hv, hs⟩ := h
  refine serL_rank (f := comAt xs) hv (fun u t hb => ?_)
  obtain ⟨k, i, h1, h2, hc, rfl, rfl⟩ := hb
  -- the commit of the first one lies between
  have hcm : Comm xs (rc (row xs k) 0).int 0 i := by
    apply Classical.byContradiction
    intro q
    have := (hs.h i h2).h k (by omega)
    exact this ⟨(fun q => by cases q), hc, q⟩
  obtain ⟨j, _, h3, h4, h5⟩ := hcm
  have hx : ∃ j, j < xs.length ∧ (rc (row xs j) 0).int = (rc (row xs k) 0).int ∧ (rc (row xs j) 1).int = 2 := ⟨j, by omega, h4, h5⟩
  have hu : comAt xs (rc (row xs k) 0).int = Classical.choose hx := by unfold comAt; rw [dif_pos hx]
  obtain ⟨c1, c2, c3⟩ := Classical.choose_spec hx
  have hcj : Classical.choose hx ≤ j := by
    apply Classical.byContradiction
    intro q
    exact com_uniq hv (j := j) (by omega) h5 _ (by omega) c1 (by rw [c2, h4])
  rw [hu]
  unfold comAt
  split
  · rename_i hy
    obtain ⟨d1, d2, d3⟩ := Classical.choose_spec hy
    apply Classical.byContradiction
    intro q
    have hlt : Classical.choose hy < i := by omega
    exact com_uniq hv d1 d3 i hlt h2 d2.symm
  · omega
end Go.Proofs.Ytmdlffhkhhionaa.V
