/-
  Waits, the plain laws: who is reached, by bits and by lists.
-/
import Derived.Test.YtbppiknmlipmpaaDoorWp
set_option linter.unusedSimpArgs false
set_option linter.unusedVariables false
namespace Go.Proofs.YtbppiknmlipmpaaDoor.V
open Go Go.RowKit
open Classical

/-! Bits. -/
def bit (x : Int) (v : Nat) : Bool := x.toNat.testBit v
theorem wrap_u8n (n : Nat) (h : n < 256) : IntKind.u8.wrap (n : Int) = n := by
  rw [IntKind.wrap_u8]; omega
theorem ofInt8 (n : Nat) (h : n < 256) : (BitVec.ofInt 8 (n : Int)).toNat = n := by
  rw [BitVec.ofInt_natCast, BitVec.toNat_ofNat]; exact Nat.mod_eq_of_lt (by omega)
theorem or_nat {x y : Nat} (hx : x < 256) (hy : y < 256) : bitop .or .u8 (x : Int) (y : Int) = ((x ||| y : Nat) : Int) := by
  have h : x ||| y < 2 ^ 8 := Nat.or_lt_two_pow (by omega) (by omega)
  show IntKind.u8.wrap ((BitVec.ofInt 8 (x : Int) ||| BitVec.ofInt 8 (y : Int)).toNat : Int) = _
  rw [BitVec.toNat_or, ofInt8 x hx, ofInt8 y hy, wrap_u8n _ (by omega)]
theorem or_bits {x y : Int} (hx : 0 ≤ x ∧ x ≤ 255) (hy : 0 ≤ y ∧ y ≤ 255) : (0 ≤ bitop .or .u8 x y ∧ bitop .or .u8 x y ≤ 255) ∧ ∀ v, bit (bitop .or .u8 x y) v = (bit x v || bit y v) := by
  obtain ⟨a, rfl⟩ := Int.eq_ofNat_of_zero_le hx.1
  obtain ⟨b, rfl⟩ := Int.eq_ofNat_of_zero_le hy.1
  have h : a ||| b < 2 ^ 8 := Nat.or_lt_two_pow (by omega) (by omega)
  rw [or_nat (by omega) (by omega)]
  refine ⟨by omega, fun v => ?_⟩
  unfold bit
  rw [toNat_nat, Int.toNat_natCast, Int.toNat_natCast, Nat.testBit_or]
theorem shl_one : ∀ k : Nat, k < 8 → shlop .u8 1 (k : Int) = ((2 ^ k : Nat) : Int) := by decide
theorem shl_bit {k : Int} (h : 0 ≤ k ∧ k ≤ 7) : (0 ≤ shlop .u8 1 k ∧ shlop .u8 1 k ≤ 255) ∧ ∀ v : Nat, bit (shlop .u8 1 k) v = decide (k = v) := by
  obtain ⟨a, rfl⟩ := Int.eq_ofNat_of_zero_le h.1
  have ha : a < 8 := by omega
  rw [shl_one a ha]
  have hp : 2 ^ a ≤ 2 ^ 7 := Nat.pow_le_pow_right (by omega) (by omega)
  refine ⟨⟨Int.natCast_nonneg _, by omega⟩, fun v => ?_⟩
  unfold bit
  rw [Int.toNat_natCast, Nat.testBit_two_pow, decide_eq_decide]
  omega
theorem and_one : ∀ n : Nat, n < 256 → ∀ k : Nat, k < 8 → (bitop .and .u8 (shrop .u8 (n : Int) (k : Int)) 1 == 1) = n.testBit k := by decide +kernel
theorem and_bit {x k : Int} (hx : 0 ≤ x ∧ x ≤ 255) (hk : 0 ≤ k ∧ k ≤ 7) : (bitop .and .u8 (shrop .u8 x k) 1 = 1) ↔ bit x k.toNat = true := by
  obtain ⟨a, rfl⟩ := Int.eq_ofNat_of_zero_le hx.1
  obtain ⟨b, rfl⟩ := Int.eq_ofNat_of_zero_le hk.1
  have := and_one a (by omega) b (by omega)
  unfold bit
  rw [Int.toNat_natCast, Int.toNat_natCast, ← this, beq_iff_eq]

/-! Waits. -/
structure WaitOk (r : Row) : Prop where
  w0 : 0 ≤ (rc r 0).int
  w7 : (rc r 0).int ≤ 7
  f0 : 0 ≤ (rc r 1).int
  f7 : (rc r 1).int ≤ 7
structure WaitsN (ws : List Row) (n : Int) : Prop where
  h : ∀ j : Nat, (j : Int) < n → WaitOk (row ws j)
theorem waits_zero (ws : List Row) : WaitsN ws 0 := ⟨fun j h => by omega⟩
theorem waits_step {ws : List Row} {i : Int} (h : WaitsN ws i) (h1 : WaitOk (row ws i.toNat)) : WaitsN ws (i + 1) := ⟨fun j hj => by
  by_cases e : (j : Int) = i
  · rw [← e] at h1; simpa using h1
  · exact h.h j (by omega)⟩
theorem wait_yes {r : Row} (h : 0 ≤ (rc r 0).int ∧ (rc r 0).int ≤ 7 ∧ 0 ≤ (rc r 1).int ∧ (rc r 1).int ≤ 7) : WaitOk r := ⟨h.1, h.2.1, h.2.2.1, h.2.2.2⟩
theorem wait_no {r : Row} (h : ¬ (0 ≤ (rc r 0).int ∧ (rc r 0).int ≤ 7 ∧ 0 ≤ (rc r 1).int ∧ (rc r 1).int ≤ 7)) : ¬ WaitOk r := fun q => h ⟨q.w0, q.w7, q.f0, q.f7⟩
structure WV (ws : List Row) : Prop where
  n : ws.length ≤ 28
  a : WaitsN ws ws.length
theorem wv_bad {ws : List Row} {i : Int} (h0 : 0 ≤ i) (hi : i < ws.length) (h : ¬ WaitOk (row ws i.toNat)) : ¬ WV ws := fun v => h (v.a.h i.toNat (by omega))
theorem wv_all {ws : List Row} {i : Int} (h : WaitsN ws i) (hi : ¬ i < ws.length) (hl : (ws.length : Int) ≤ 28) : WV ws := ⟨by omega, ⟨fun j hj => h.h j (by omega)⟩⟩
theorem wv_long {ws : List Row} (h : ¬ (ws.length : Int) ≤ 28) : ¬ WV ws := fun v => h (by have := v.n; omega)
theorem wv_pick {ws : List Row} {i : Int} (h : WaitsN ws i) (hi : ¬ i < ws.length) : decide ((ws.length : Int) ≤ 28) = decide (WV ws) := by
  rw [decide_eq_decide]; exact ⟨fun q => wv_all h hi q, fun v => by have := v.n; omega⟩
theorem wv_at {ws : List Row} {i : Int} (h : WV ws) (h0 : 0 ≤ i) (hi : i < ws.length) : 0 ≤ (rc (row ws i.toNat) 0).int ∧ (rc (row ws i.toNat) 0).int ≤ 7 ∧ 0 ≤ (rc (row ws i.toNat) 1).int ∧ (rc (row ws i.toNat) 1).int ≤ 7 := by
  have := h.a.h i.toNat (by omega)
  exact ⟨this.w0, this.w7, this.f0, this.f7⟩

/-- One of the first n waits is of u for v. -/
def EdgeN (ws : List Row) (n : Nat) (u v : Int) : Prop := ∃ j, j < n ∧ (rc (row ws j) 0).int = u ∧ (rc (row ws j) 1).int = v
def Edge (ws : List Row) (u v : Int) : Prop := EdgeN ws ws.length u v
/-- Who is reached, directly or by others. -/
inductive Rch (ws : List Row) : Int → Int → Prop where
  | one {u v : Int} : Edge ws u v → Rch ws u v
  | step {u w v : Int} : Rch ws u w → Edge ws w v → Rch ws u v
theorem Rch.trans {ws : List Row} {u w v : Int} (h1 : Rch ws u w) (h2 : Rch ws w v) : Rch ws u v := by
  induction h2 with
  | one h => exact .step h1 h
  | step _ h ih => exact .step ih h
theorem Rch.first {ws : List Row} {u v : Int} (h : Rch ws u v) : ∃ w, Edge ws u w ∧ (w = v ∨ Rch ws w v) := by
  induction h with
  | one h => exact ⟨_, h, .inl rfl⟩
  | step _ h ih =>
    obtain ⟨x, h1, h2⟩ := ih
    refine ⟨x, h1, .inr ?_⟩
    rcases h2 with rfl | h2
    · exact .one h
    · exact .step h2 h
theorem edge_range {ws : List Row} (h : WV ws) {u v : Int} (he : Edge ws u v) : (0 ≤ u ∧ u ≤ 7) ∧ (0 ≤ v ∧ v ≤ 7) := by
  obtain ⟨j, hj, rfl, rfl⟩ := he
  have := h.a.h j (by omega)
  exact ⟨⟨this.w0, this.w7⟩, ⟨this.f0, this.f7⟩⟩
theorem rch_range {ws : List Row} (h : WV ws) {u v : Int} (hr : Rch ws u v) : (0 ≤ u ∧ u ≤ 7) ∧ (0 ≤ v ∧ v ≤ 7) := by
  induction hr with
  | one he => exact edge_range h he
  | step _ he ih => exact ⟨ih.1, (edge_range h he).2⟩
/-- Who is reached by way of those below k. -/
def PathK (ws : List Row) : Nat → Int → Int → Prop
  | 0, u, v => Edge ws u v
  | k + 1, u, v => PathK ws k u v ∨ (PathK ws k u k ∧ PathK ws k k v)
theorem path_rch {ws : List Row} : ∀ (k : Nat) {u v : Int}, PathK ws k u v → Rch ws u v
  | 0, _, _, h => .one h
  | k + 1, _, _, h => by
    rcases h with h | ⟨h1, h2⟩
    · exact path_rch k h
    · exact (path_rch k h1).trans (path_rch k h2)
theorem path_edge {ws : List Row} : ∀ (k : Nat) {u v : Int}, Edge ws u v → PathK ws k u v
  | 0, _, _, h => h
  | k + 1, _, _, h => .inl (path_edge k h)
theorem path_self {ws : List Row} {k : Nat} {v : Int} : PathK ws (k + 1) k v ↔ PathK ws k k v := ⟨fun h => h.elim id (fun h => h.2), .inl⟩
theorem path_to {ws : List Row} {k : Nat} {u : Int} : PathK ws (k + 1) u k ↔ PathK ws k u k := ⟨fun h => h.elim id (fun h => h.1), .inl⟩
theorem path_trans {ws : List Row} : ∀ (n : Nat) {u w v : Int}, 0 ≤ w → w < n → PathK ws n u w → PathK ws n w v → PathK ws n u v
  | 0, _, _, _, h1, h2, _, _ => by omega
  | n + 1, u, w, v, h1, h2, ha, hb => by
    by_cases e : w = n
    · rw [e] at ha hb
      exact .inr ⟨path_to.1 ha, path_self.1 hb⟩
    · have hw : w < n := by omega
      rcases ha with ha | ⟨a1, a2⟩
      · rcases hb with hb | ⟨b1, b2⟩
        · exact .inl (path_trans n h1 hw ha hb)
        · exact .inr ⟨path_trans n h1 hw ha b1, b2⟩
      · rcases hb with hb | ⟨b1, b2⟩
        · exact .inr ⟨a1, path_trans n h1 hw a2 hb⟩
        · exact .inr ⟨a1, b2⟩
theorem path_all {ws : List Row} (h : WV ws) {u v : Int} : PathK ws 8 u v ↔ Rch ws u v := by
  constructor
  · exact path_rch 8
  · intro hr
    induction hr with
    | one he => exact path_edge 8 he
    | step hw he ih =>
      have := (rch_range h hw).2
      exact path_trans 8 this.1 (by omega) ih (path_edge 8 he)

/-- Bits that tell a relation. -/
structure Msk (ar : List Row) (B : Int → Int → Prop) : Prop where
  l : ar.length = 8
  r : ∀ u : Nat, u < 8 → 0 ≤ numT ar u ∧ numT ar u ≤ 255
  h : ∀ u v : Nat, u < 8 → v < 8 → (bit (numT ar u) v = true ↔ B u v)
theorem msk_rng {ar : List Row} {B : Int → Int → Prop} {u : Int} (h : Msk ar B) (h0 : 0 ≤ u) (h7 : u ≤ 7) : 0 ≤ (rc (row ar u.toNat) 0).int ∧ (rc (row ar u.toNat) 0).int ≤ 255 := h.r u.toNat (by omega)
theorem msk_bit {ar : List Row} {B : Int → Int → Prop} {u v : Int} (h : Msk ar B) (hu : 0 ≤ u ∧ u ≤ 7) (hv : 0 ≤ v ∧ v ≤ 7) : (bitop .and .u8 (shrop .u8 (rc (row ar u.toNat) 0).int v) 1 = 1) ↔ B u v := by
  rw [and_bit (msk_rng h hu.1 hu.2) hv]
  have := h.h u.toNat v.toNat (by omega) (by omega)
  unfold numT at this
  rw [this, show ((u.toNat : Nat) : Int) = u by omega, show ((v.toNat : Nat) : Int) = v by omega]
theorem msk_zero (ws : List Row) : Msk (List.replicate 8 [Sc.i 0]) (EdgeN ws (Int.toNat 0)) := by
  have hr : ∀ u : Nat, u < 8 → numT (List.replicate 8 [Sc.i 0]) u = 0 := by
    intro u hu
    unfold numT row
    rw [List.getD_eq_getElem?_getD, List.getElem?_replicate, if_pos hu]; rfl
  refine ⟨rfl, fun u hu => by rw [hr u hu]; omega, fun u v hu hv => ?_⟩
  rw [hr u hu]
  unfold bit
  rw [show (0 : Int).toNat = 0 from rfl, Nat.zero_testBit]
  exact ⟨fun h => (by cases h), fun ⟨j, hj, _⟩ => (by simp at hj)⟩
/-- A row with bits more. -/
theorem msk_or {ar : List Row} {B C : Int → Int → Prop} {u y : Int} (h : Msk ar B) (hu : 0 ≤ u ∧ u ≤ 7) (hy : 0 ≤ y ∧ y ≤ 255) (hC : ∀ s v : Nat, s < 8 → v < 8 → (C s v ↔ (B s v ∨ ((s : Int) = u ∧ bit y v = true)))) :
    Msk (setI ar u (bitop .or .u8 (rc (row ar u.toNat) 0).int y)) C := by
  have hl := h.l
  obtain ⟨q1, q2⟩ := or_bits (msk_rng h hu.1 hu.2) hy
  refine ⟨by rw [setI_len]; exact hl, fun s hs => ?_, fun s v hs hv => ?_⟩
  · rw [numT_setI (by omega)]
    split
    · exact q1
    · exact h.r s hs
  · rw [numT_setI (by omega), hC s v hs hv]
    by_cases e : u.toNat = s
    · rw [if_pos e, q2, Bool.or_eq_true]
      have := h.h s v hs hv
      unfold numT at this
      rw [← e] at this ⊢
      rw [this]
      exact ⟨fun q => q.imp id (fun q => ⟨by omega, q⟩), fun q => q.imp id (fun q => q.2)⟩
    · rw [if_neg e, h.h s v hs hv]
      exact ⟨.inl, fun q => q.elim id (fun q => absurd q.1 (by omega))⟩
theorem msk_edge {ws ar : List Row} {i : Int} (h : Msk ar (EdgeN ws i.toNat)) (h0 : 0 ≤ i) (hw : WaitOk (row ws i.toNat)) :
    Msk (setI ar (rc (row ws i.toNat) 0).int (bitop .or .u8 (rc (row ar (rc (row ws i.toNat) 0).int.toNat) 0).int (shlop .u8 1 (rc (row ws i.toNat) 1).int))) (EdgeN ws (i + 1).toNat) := by
  obtain ⟨s1, s2⟩ := shl_bit ⟨hw.f0, hw.f7⟩
  refine msk_or h ⟨hw.w0, hw.w7⟩ s1 (fun s v hs hv => ?_)
  rw [s2]
  simp only [decide_eq_true_eq]
  constructor
  · rintro ⟨j, h1, h2, h3⟩
    by_cases e : j = i.toNat
    · rw [e] at h2 h3; exact .inr ⟨h2.symm, h3⟩
    · exact .inl ⟨j, by omega, h2, h3⟩
  · rintro (⟨j, h1, h2, h3⟩ | ⟨h1, h2⟩)
    · exact ⟨j, by omega, h2, h3⟩
    · exact ⟨i.toNat, by omega, h1.symm, h2⟩
/-- In the round of k, the rows below i done. -/
def MidK (ws : List Row) (k i : Nat) (u v : Int) : Prop := PathK ws k u v ∨ (u < i ∧ PathK ws k u k ∧ PathK ws k k v)
theorem msk_begin {ws ar : List Row} {i : Int} (h : Msk ar (EdgeN ws i.toNat)) (hi : ¬ i < ws.length) (h2 : i ≤ ws.length) : Msk ar (PathK ws (Int.toNat 0)) := by
  rw [show i.toNat = ws.length by omega] at h; exact h
theorem msk_in {ws ar : List Row} {k : Int} (h : Msk ar (PathK ws k.toNat)) : Msk ar (MidK ws k.toNat (Int.toNat 0)) :=
  ⟨h.l, h.r, fun u v hu hv => by rw [h.h u v hu hv]; exact ⟨.inl, fun q => q.elim id (fun q => absurd q.1 (by simp))⟩⟩
theorem msk_out {ws ar : List Row} {k i : Int} (h : Msk ar (MidK ws k.toNat i.toNat)) (hi : ¬ i < 8) (hk : 0 ≤ k) : Msk ar (PathK ws (k + 1).toNat) :=
  ⟨h.l, h.r, fun u v hu hv => by
    rw [h.h u v hu hv, show (k + 1).toNat = k.toNat + 1 by omega]
    exact ⟨fun q => q.imp id (fun q => q.2), fun q => q.imp id (fun q => ⟨by omega, q⟩)⟩⟩
theorem mid_self {ws : List Row} {k i : Nat} {v : Int} : MidK ws k i k v ↔ PathK ws k k v := ⟨fun h => h.elim id (fun h => h.2.2), .inl⟩
theorem mid_to {ws : List Row} {k i : Nat} {u : Int} : MidK ws k i u k ↔ PathK ws k u k := ⟨fun h => h.elim id (fun h => h.2.1), .inl⟩
theorem msk_no {ws ar : List Row} {k i : Int} (h : Msk ar (MidK ws k.toNat i.toNat)) (hb : ¬ bitop .and .u8 (shrop .u8 (rc (row ar i.toNat) 0).int k) 1 = 1) (hk : 0 ≤ k ∧ k ≤ 7) (hi : 0 ≤ i ∧ i ≤ 7) : Msk ar (MidK ws k.toNat (i + 1).toNat) := by
  rw [msk_bit h hi hk] at hb
  have hb : ¬ PathK ws k.toNat i ((k.toNat : Nat) : Int) := fun q => hb (by
    have := (mid_to (ws := ws) (k := k.toNat) (i := i.toNat) (u := i)).2 q
    rwa [show ((k.toNat : Nat) : Int) = k by omega] at this)
  refine ⟨h.l, h.r, fun u v hu hv => ?_⟩
  rw [h.h u v hu hv]
  constructor
  · exact fun q => q.imp id (fun q => ⟨by omega, q.2⟩)
  · rintro (q | ⟨q1, q2, q3⟩)
    · exact .inl q
    · by_cases e : (u : Int) < i.toNat
      · exact .inr ⟨e, q2, q3⟩
      · have : (u : Int) = i := by omega
        rw [this] at q2
        rw [show ((k.toNat : Nat) : Int) = k by omega] at q2 hb
        exact absurd q2 hb
theorem msk_yes {ws ar : List Row} {k i : Int} (h : Msk ar (MidK ws k.toNat i.toNat)) (hb : bitop .and .u8 (shrop .u8 (rc (row ar i.toNat) 0).int k) 1 = 1) (hk : 0 ≤ k ∧ k ≤ 7) (hi : 0 ≤ i ∧ i ≤ 7) :
    Msk (setI ar i (bitop .or .u8 (rc (row ar i.toNat) 0).int (rc (row ar k.toNat) 0).int)) (MidK ws k.toNat (i + 1).toNat) := by
  have ek : ((k.toNat : Nat) : Int) = k := by omega
  rw [msk_bit h hi hk] at hb
  have hb' : PathK ws k.toNat i k := by
    have := (mid_to (ws := ws) (k := k.toNat) (i := i.toNat) (u := i)).1 (by rw [ek]; exact hb)
    rw [ek] at this; exact this
  refine msk_or h hi (msk_rng h hk.1 hk.2) (fun s v hs hv => ?_)
  have hkv := h.h k.toNat v (by omega) hv
  unfold numT at hkv
  rw [hkv]
  have hs2 : MidK ws k.toNat i.toNat ((k.toNat : Nat) : Int) v ↔ PathK ws k.toNat k v := by
    have := mid_self (ws := ws) (k := k.toNat) (i := i.toNat) (v := v)
    rw [ek] at this ⊢; exact this
  rw [hs2]
  unfold MidK
  rw [ek]
  constructor
  · rintro (q | ⟨q1, q2, q3⟩)
    · exact .inl (.inl q)
    · by_cases e : (s : Int) < i.toNat
      · exact .inl (.inr ⟨e, q2, q3⟩)
      · exact .inr ⟨by omega, q3⟩
  · rintro ((q | ⟨q1, q2, q3⟩) | ⟨q1, q3⟩)
    · exact .inl q
    · exact .inr ⟨by omega, q2, q3⟩
    · exact .inr ⟨by omega, by rw [q1]; exact hb', q3⟩
theorem msk_fin {ws ar : List Row} {k : Int} (h : Msk ar (PathK ws k.toNat)) (hk : ¬ k < 8) (h8 : k ≤ 8) (hv : WV ws) : Msk ar (Rch ws) := by
  rw [show k.toNat = 8 by omega] at h
  exact ⟨h.l, h.r, fun u v h1 h2 => by rw [h.h u v h1 h2]; exact path_all hv⟩

/-! A list that grows. -/
structure Grw (ws : List Row) (who : Int) (out : List Row) : Prop where
  d : Dst out
  r : ∀ v, Mem out v → Rch ws who v
  n : nrms KInt out = out
theorem grw_nil (ws : List Row) (who : Int) : Grw ws who [] := ⟨dst_nil, fun v h => absurd h mem_nil, rfl⟩
/-- Nothing is to be added for the first n waits. -/
def ClsN (ws : List Row) (who : Int) (out : List Row) (n : Nat) : Prop := ∀ j, j < n → ((rc (row ws j) 0).int = who ∨ Mem out (rc (row ws j) 0).int) → Mem out (rc (row ws j) 1).int
def Cls (ws : List Row) (who : Int) (out : List Row) : Prop := ClsN ws who out ws.length
/-- After r rounds: closed, or grown so far. -/
structure RndA (ws : List Row) (who : Int) (out : List Row) (r : Int) : Prop where
  g : Grw ws who out
  h : Cls ws who out ∨ r ≤ out.length
structure RndB (ws : List Row) (who : Int) (out : List Row) (r i : Int) : Prop where
  g : Grw ws who out
  h : Cls ws who out ∨ (ClsN ws who out i.toNat ∧ r ≤ out.length) ∨ r + 1 ≤ out.length
theorem rnd_zero (ws : List Row) (who : Int) : RndA ws who [] 0 := ⟨grw_nil ws who, .inr (by simp)⟩
theorem rnd_in {ws : List Row} {who r : Int} {out : List Row} (h : RndA ws who out r) : RndB ws who out r 0 := ⟨h.g, h.h.imp id (fun q => .inl ⟨fun j hj => by simp at hj, q⟩)⟩
theorem rnd_out {ws : List Row} {who r i : Int} {out : List Row} (h : RndB ws who out r i) (hi : ¬ i < ws.length) (h2 : i ≤ ws.length) : RndA ws who out (r + 1) := by
  refine ⟨h.g, ?_⟩
  rcases h.h with q | ⟨q, _⟩ | q
  · exact .inl q
  · rw [show i.toNat = ws.length by omega] at q; exact .inl q
  · exact .inr q
theorem rnd_skip {ws : List Row} {who r i : Int} {out : List Row} (h : RndB ws who out r i) (h0 : 0 ≤ i) (hn : ((rc (row ws i.toNat) 0).int = who ∨ Mem out (rc (row ws i.toNat) 0).int) → Mem out (rc (row ws i.toNat) 1).int) : RndB ws who out r (i + 1) := by
  refine ⟨h.g, ?_⟩
  rcases h.h with q | ⟨q, q2⟩ | q
  · exact .inl q
  · refine .inr (.inl ⟨fun j hj => ?_, q2⟩)
    by_cases e : j = i.toNat
    · rw [e]; exact hn
    · exact q j (by omega)
  · exact .inr (.inr q)
theorem rnd_add {ws : List Row} {who r i : Int} {out : List Row} (h : RndB ws who out r i) (hy : (rc (row ws i.toNat) 0).int = who ∨ Mem out (rc (row ws i.toNat) 0).int) (hn : ¬ Mem out (rc (row ws i.toNat) 1).int) (h0 : 0 ≤ i) (hi : i < ws.length) : RndB ws who (out ++ [[Sc.i (rc (row ws i.toNat) 1).int]]) r (i + 1) := by
  have he : Edge ws (rc (row ws i.toNat) 0).int (rc (row ws i.toNat) 1).int := ⟨i.toNat, by omega, rfl, rfl⟩
  refine ⟨⟨dst_snoc h.g.d hn, fun v hv => ?_, by rw [nrms_append, h.g.n]; rfl⟩, ?_⟩
  · rcases mem_append.1 hv with q | q
    · exact h.g.r v q
    · rw [mem_one] at q
      rw [← q]
      rcases hy with e | e
      · rw [e] at he; exact .one he
      · exact .step (h.g.r _ e) he
  · refine .inr (.inr ?_)
    rw [List.length_append]
    simp only [List.length_cons, List.length_nil]
    rcases h.h with q | ⟨_, q⟩ | q
    · exact absurd (q i.toNat (by omega) hy) hn
    · omega
    · omega
theorem grw_le {ws : List Row} {who : Int} {out : List Row} (h : Grw ws who out) (hv : WV ws) : out.length ≤ 8 := dst_le h.d (fun v q => by have := (rch_range hv (h.r v q)).2; omega)
theorem rnd_fin {ws : List Row} {who r : Int} {out : List Row} (h : RndA ws who out r) (hr : ¬ r ≤ 8) (hv : WV ws) : ∀ v, Mem out v ↔ (0 ≤ v ∧ v < (8 : Nat) ∧ Rch ws who v) := by
  have hc : Cls ws who out := h.h.resolve_right (fun q => by have := grw_le h.g hv; omega)
  intro v
  constructor
  · intro q
    have h1 := h.g.r v q
    have h2 := (rch_range hv h1).2
    exact ⟨h2.1, by omega, h1⟩
  · rintro ⟨_, _, q⟩
    induction q with
    | one he =>
      obtain ⟨j, hj, h1, h2⟩ := he
      have := hc j hj (.inl h1)
      rw [h2] at this; exact this
    | step hrw he ih =>
      have hw := (rch_range hv hrw).2
      obtain ⟨j, hj, h1, h2⟩ := he
      have := hc j hj (.inr (by rw [h1]; exact ih hw.1 (by omega)))
      rw [h2] at this; exact this
/-! What the functions return. -/
noncomputable def reachL (ws : List Row) (who : Int) : List Row := ascL (Rch ws who) 8
noncomputable def waitsF (ws : List Row) (who : Int) : List Row := if WV ws ∧ 0 ≤ who ∧ who ≤ 7 then reachL ws who else []
noncomputable def lockF (ws : List Row) : List Row := if WV ws then ascL (fun v => Rch ws v v) 8 else []
theorem waits_noV {ws : List Row} {who : Int} (h : ¬ WV ws) : waitsF ws who = [] := by unfold waitsF; rw [if_neg (fun q => h q.1)]
theorem waits_noW {ws : List Row} {who : Int} (h : ¬ (0 ≤ who ∧ who ≤ 7)) : waitsF ws who = [] := by unfold waitsF; rw [if_neg (fun q => h q.2)]
theorem waits_is {ws : List Row} {who : Int} (h : WV ws) (h2 : 0 ≤ who ∧ who ≤ 7) : reachL ws who = waitsF ws who := by unfold waitsF; rw [if_pos ⟨h, h2⟩]
theorem waits_isI {ws : List Row} {who i : Int} (h : WV ws) (h2 : 0 ≤ who ∧ who ≤ 7) (h3 : ¬ i ≤ 7) (h4 : i ≤ 8) : ascL (Rch ws who) i.toNat = waitsF ws who := by rw [show i.toNat = 8 by omega]; exact waits_is h h2
theorem lock_no {ws : List Row} (h : ¬ WV ws) : lockF ws = [] := by unfold lockF; rw [if_neg h]
theorem lock_isI {ws : List Row} {i : Int} (h : WV ws) (h3 : ¬ i < 8) (h4 : i ≤ 8) : ascL (fun v => Rch ws v v) i.toNat = lockF ws := by rw [show i.toNat = 8 by omega]; unfold lockF; rw [if_pos h]
theorem lock_isI' {ws : List Row} {i : Int} (h : WV ws) (h3 : ¬ i ≤ 7) (h4 : i ≤ 8) : ascL (fun v => Rch ws v v) i.toNat = lockF ws := lock_isI h (by omega) h4
theorem waits_len (ws : List Row) (who : Int) : (waitsF ws who).length ≤ 8 := by
  unfold waitsF; split
  · exact ascL_len _ 8
  · simp
theorem lock_len (ws : List Row) : (lockF ws).length ≤ 8 := by
  unfold lockF; split
  · exact ascL_len _ 8
  · simp
theorem waits_nrm (ws : List Row) (who : Int) : nrms KInt (waitsF ws who) = waitsF ws who := by
  unfold waitsF; split
  · exact ascL_nrm _ 8
  · rfl
theorem lock_nrm (ws : List Row) : nrms KInt (lockF ws) = lockF ws := by
  unfold lockF; split
  · exact ascL_nrm _ 8
  · rfl
theorem waits_mem {ws : List Row} {who v : Int} : Mem (waitsF ws who) v ↔ (WV ws ∧ Rch ws who v) := by
  unfold waitsF
  split
  · rename_i h
    unfold reachL
    rw [ascL_mem]
    exact ⟨fun q => ⟨h.1, q.2.2⟩, fun q => ⟨(rch_range h.1 q.2).2.1, by have := (rch_range h.1 q.2).2; omega, q.2⟩⟩
  · rename_i h
    exact ⟨fun q => absurd q mem_nil, fun q => absurd ⟨q.1, (rch_range q.1 q.2).1⟩ h⟩
theorem lock_mem {ws : List Row} {v : Int} : Mem (lockF ws) v ↔ (WV ws ∧ Rch ws v v) := by
  unfold lockF
  split
  · rename_i h
    rw [ascL_mem]
    exact ⟨fun q => ⟨h, q.2.2⟩, fun q => ⟨(rch_range h q.2).2.1, by have := (rch_range h q.2).2; omega, q.2⟩⟩
  · rename_i h
    exact ⟨fun q => absurd q mem_nil, fun q => absurd q.1 h⟩
theorem waits_asc (ws : List Row) (who : Int) : Asc (waitsF ws who) := by
  unfold waitsF; split
  · exact ascL_asc _ 8
  · exact ⟨fun i j _ h => by simp at h⟩
theorem lock_asc (ws : List Row) : Asc (lockF ws) := by
  unfold lockF; split
  · exact ascL_asc _ 8
  · exact ⟨fun i j _ h => by simp at h⟩
end Go.Proofs.YtbppiknmlipmpaaDoor.V
