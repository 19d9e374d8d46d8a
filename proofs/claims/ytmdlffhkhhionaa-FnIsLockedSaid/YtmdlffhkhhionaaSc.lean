/-
  Serial orders: what the program's functions return.
-/
import Derived.Test.YtmdlffhkhhionaaSb
set_option linter.unusedSimpArgs false
set_option linter.unusedVariables false
namespace Go.Proofs.Ytmdlffhkhhionaa.V
open Go Go.RowKit
open Classical

/-- Truth values in an array of eight, and of eight times eight. -/
def PA (lf : List Row) (v : Int) : Prop := (0 ≤ v ∧ v ≤ 7) ∧ (rc (row lf v.toNat) 0).bool = true
def BA (bf : List Row) (u t : Int) : Prop := (rc (row bf (u.toNat * 8 + t.toNat)) 0).bool = true
theorem pa_yes {lf : List Row} {v : Int} (h : (rc (row lf v.toNat) 0).bool = true) (h0 : 0 ≤ v) (h7 : v ≤ 7) : PA lf v := ⟨⟨h0, h7⟩, h⟩
theorem pa_no {lf : List Row} {v : Int} (h : (rc (row lf v.toNat) 0).bool = false) : ¬ PA lf v := fun q => by rw [q.2] at h; cases h
/-- No smaller one is first. -/
structure NoF (bf lf : List Row) (t : Int) : Prop where
  h : ∀ s, s < t → ¬ Fst (BA bf) (PA lf) s
theorem noF_zero (bf lf : List Row) : NoF bf lf 0 := ⟨fun s h q => by have := q.t0; omega⟩
theorem noF_left {bf lf : List Row} {t : Int} (h : NoF bf lf t) (hn : (rc (row lf t.toNat) 0).bool = false) : NoF bf lf (t + 1) := ⟨fun s hs q => by
  by_cases e : s = t
  · rw [e] at q; exact pa_no hn q.p
  · exact h.h s (by omega) q⟩
theorem noF_bef {bf lf : List Row} {t u : Int} (h : NoF bf lf t) (hu : (rc (row lf u.toNat) 0).bool = true) (hb : (rc (row bf (u.toNat * 8 + t.toNat)) 0).bool = true) (h0 : 0 ≤ u) (h7 : u ≤ 7) : NoF bf lf (t + 1) := ⟨fun s hs q => by
  by_cases e : s = t
  · rw [e] at q; exact q.n u h0 h7 (pa_yes hu h0 h7) hb
  · exact h.h s (by omega) q⟩
/-- None of the first u stands before t. -/
structure NoB (bf lf : List Row) (t u : Int) : Prop where
  h : ∀ s, 0 ≤ s → s < u → PA lf s → ¬ BA bf s t
theorem noB_zero (bf lf : List Row) (t : Int) : NoB bf lf t 0 := ⟨fun s h1 h2 => by omega⟩
theorem noB_left {bf lf : List Row} {t u : Int} (h : NoB bf lf t u) (hn : (rc (row lf u.toNat) 0).bool = false) : NoB bf lf t (u + 1) := ⟨fun s h1 h2 hp => by
  by_cases e : s = u
  · rw [e] at hp; exact absurd hp (pa_no hn)
  · exact h.h s h1 (by omega) hp⟩
theorem noB_bef {bf lf : List Row} {t u : Int} (h : NoB bf lf t u) (hn : (rc (row bf (u.toNat * 8 + t.toNat)) 0).bool = false) : NoB bf lf t (u + 1) := ⟨fun s h1 h2 hp hb => by
  by_cases e : s = u
  · rw [e] at hb; unfold BA at hb; rw [hn] at hb; cases hb
  · exact h.h s h1 (by omega) hp hb⟩
theorem nxO_is {bf lf : List Row} {t u : Int} (h : NoF bf lf t) (hB : NoB bf lf t u) (hl : (rc (row lf t.toNat) 0).bool = true) (hu : ¬ u < 8) (h0 : 0 ≤ t) (h7 : t ≤ 7) : t = nxtF (BA bf) (PA lf) :=
  (nxtF_is ⟨⟨h0, h7, pa_yes hl h0 h7, fun s h1 h2 hp => hB.h s h1 (by omega) hp⟩, h.h⟩).symm
theorem nxO_no {bf lf : List Row} {t : Int} (h : NoF bf lf t) (ht : ¬ t < 8) : -1 = nxtF (BA bf) (PA lf) := (nxtF_no (fun s q => h.h s (by have := q.t7; omega) q)).symm
noncomputable def cNxO : Ct := ⟨[], fun ds K => match ds with
  | [.pa ks bf, .pa js lf] => ks = [.bool] ∧ js = [.bool] ∧ ((bf.length : Int) = 64 ∧ (lf.length : Int) = 8) ∧ K (.int .i64 (nxtF (BA bf) (PA lf))) [.pa [.bool] bf, .pa [.bool] lf]
  | _ => False⟩
set_option maxRecDepth 100000 in
set_option maxHeartbeats 16000000 in
theorem p_nextOwner : Proved 44 cNxO := by
  refine proved_of [] trivial [.tmp 4] Try.func44 rfl rfl rfl rfl (by kernel_rfl) ?_
  intro ds K hrel
  simp only [cNxO] at hrel
  split at hrel
  case h_2 => exact hrel.elim
  rename_i ks bf js lf
  obtain ⟨rfl, rfl, ⟨h1, h2⟩, hrel⟩ := hrel
  refine ⟨rfl, Nat.le_of_ble_eq_true rfl, fun k σ => match k with
    | 2 => some { α := Lv 2 Int, R := fun ⟨t⟩ => (0 ≤ t ∧ t ≤ 8) ∧ NoF bf lf t, μ := fun ⟨t⟩ => (8 - t).toNat, st := fun ⟨t⟩ => up σ [(7, .int .i64 t)] }
    | 6 => match lookT σ.tm 7 with
      | .int _ t => some { α := Lv 6 Int, R := fun ⟨u⟩ => (0 ≤ u ∧ u ≤ 8) ∧ NoB bf lf t u, μ := fun ⟨u⟩ => (8 - u).toNat, st := fun ⟨u⟩ => up σ [(16, .int .i64 u)] }
      | _ => none
    | _ => none, ?_⟩
  repeat' (first | with_reducible refine And.intro ?_ ?_ | (with_reducible intro h; first | (exact absurd h (by decide)) | (guard_hyp h : true = true; clear h) | (guard_hyp h : false = false; clear h) | (have hq := (h : Lv 2 _); clear hq; obtain ⟨_⟩ := h) | (have hq := (h : Lv 6 _); clear hq; obtain ⟨_⟩ := h) | skip) | with_reducible exact True.intro | ((with_reducible refine (id ?_ : @Eq Bool (nodupN _) true)); kernel_rfl) | ((with_reducible refine (id ?_ : @Eq Bool (apartN _ _) true)); kernel_rfl) | ((with_reducible refine (id ?_ : @Eq Bool (formL _ _) true)); kernel_rfl) | ((with_reducible refine (id ?_ : @Eq _ _ _)); exact rfl) | ((conv => whnf); first | done | with_reducible refine And.intro ?_ ?_ | (with_reducible intro h; first | (exact absurd h (by decide)) | (guard_hyp h : true = true; clear h) | (guard_hyp h : false = false; clear h) | (have hq := (h : Lv 2 _); clear hq; obtain ⟨_⟩ := h) | (have hq := (h : Lv 6 _); clear hq; obtain ⟨_⟩ := h) | skip) | with_reducible exact True.intro | ((with_reducible refine (id ?_ : @Eq _ _ _)); exact rfl) | refine Exists.intro (⟨?_⟩ : Lv 2 _) ?_ | refine Exists.intro (⟨?_⟩ : Lv 6 _) ?_ | refine Exists.intro _ (Exists.intro _ (And.intro hrel ?_)) | exact Or.inl rfl | exact Or.inr (And.intro rfl rfl) | (apply Exists.intro; refine And.intro ?_ ?_)) | exact Nat.le_of_ble_eq_true rfl)
  all_goals (try ((try (change _ = _)) <;> (try dsimp only at *) <;> (try simp only [decide_eq_true_eq, decide_eq_false_iff_not, Bool.not_eq_true', Bool.not_eq_false', Bool.and_eq_true, Bool.and_eq_false_iff, beq_iff_eq, bne_iff_ne, beq_eq_false_iff_ne, bne_eq_false_iff_eq, ne_eq, Decidable.not_not, bne_self_eq_false, Bool.false_eq_true, Bool.true_eq_false, Bool.not_true, Bool.not_false, not_true_eq_false, not_false_eq_true, Int.toNat_natCast, Nat.zero_add, Nat.reduceAdd, Nat.reduceMul, Nat.reduceDiv, Nat.mul_one, lenK_one, big, fill_len, marking_len, marks_len, nrms_len, List.length_set, List.length_append, List.length_map, List.length_replicate, List.length_cons, List.length_nil, Int.natCast_add, Int.natCast_one, Int.natCast_zero] at *) <;> (repeat (with_reducible rename _ ∧ _ => hh; obtain ⟨_, _⟩ := hh)) <;> (first | omega | (refine fits_i64 ?_; omega) | (split <;> omega) | exact noF_zero _ _ | exact noF_left (by with_reducible assumption) (by with_reducible assumption) | exact noF_bef (by with_reducible assumption) (by with_reducible assumption) (by with_reducible assumption) (by omega) (by omega) | exact noB_zero _ _ _ | exact noB_left (by with_reducible assumption) (by with_reducible assumption) | exact noB_bef (by with_reducible assumption) (by with_reducible assumption) | exact nxO_is (by with_reducible assumption) (by with_reducible assumption) (by with_reducible assumption) (by omega) (by omega) (by omega) | exact nxO_no (by with_reducible assumption) (by omega))))
/-- The program's tables, under way. -/
structure TbB (xs bf : List Row) (C : Int → Int → Prop) : Prop where
  l : bf.length = 64
  h : ∀ u t : Nat, u < 8 → t < 8 → ((rc (row bf (u * 8 + t)) 0).bool = true ↔ C u t)
structure TbL (xs lf : List Row) (n : Nat) : Prop where
  l : lf.length = 8
  h : ∀ u : Nat, u < 8 → ((rc (row lf u) 0).bool = true ↔ OwnN xs n u)
theorem rep_row {n j : Nat} {r : Row} (h : j < n) : row (List.replicate n r) j = r := by
  unfold row
  rw [List.getD_eq_getElem?_getD, List.getElem?_replicate, if_pos h]; rfl
theorem tbB_zero (xs : List Row) : TbB xs (List.replicate 64 [Sc.b false]) (BefN xs (Int.toNat 0)) := ⟨by simp, fun u t h1 h2 => by
  rw [rep_row (by omega)]
  exact ⟨fun q => by simp [rc] at q, fun ⟨k, i, _, q, _⟩ => by simp at q⟩⟩
theorem tbL_zero (xs : List Row) : TbL xs (List.replicate 8 [Sc.b false]) (Int.toNat 0) := ⟨by simp, fun u h1 => by
  rw [rep_row (by omega)]
  exact ⟨fun q => by simp [rc] at q, fun ⟨i, q, _⟩ => by simp at q⟩⟩
theorem cnt_zero (xs : List Row) : 0 = ((cnt (OwnN xs (Int.toNat 0)) : Nat) : Int) := by
  have : cnt (OwnN xs (Int.toNat 0)) = 0 := by
    apply Classical.byContradiction
    intro q
    obtain ⟨t, _, _, i, hi, _⟩ := cnt_ex q
    simp at hi
  rw [this]; rfl
theorem paste_b (r : Row) (b : Bool) : (rc (pasteR r 0 [.b b]) 0).bool = b := by cases r <;> rfl
theorem tbL_new {xs lf : List Row} {i : Int} (h : TbL xs lf i.toNat) (h0 : 0 ≤ i) (o0 : 0 ≤ (rc (row xs i.toNat) 0).int) (o7 : (rc (row xs i.toNat) 0).int ≤ 7) : TbL xs (lf.set (rc (row xs i.toNat) 0).int.toNat (pasteR (row lf (rc (row xs i.toNat) 0).int.toNat) 0 [Sc.b true])) (i + 1).toNat := ⟨by simp [h.l], fun u hu => by
  have hl := h.l
  rw [row_set, show (i + 1).toNat = i.toNat + 1 by omega, ownN_succ]
  by_cases e : (rc (row xs i.toNat) 0).int.toNat = u
  · rw [if_pos ⟨e, by omega⟩, paste_b]
    exact ⟨fun _ => .inr (by omega), fun _ => rfl⟩
  · rw [if_neg (fun q => e q.1), h.h u hu]
    exact ⟨.inl, fun q => q.elim id (fun q => absurd q (by omega))⟩⟩
theorem tbL_old {xs lf : List Row} {i : Int} (h : TbL xs lf i.toNat) (hb : (rc (row lf (rc (row xs i.toNat) 0).int.toNat) 0).bool = true) (h0 : 0 ≤ i) (o0 : 0 ≤ (rc (row xs i.toNat) 0).int) (o7 : (rc (row xs i.toNat) 0).int ≤ 7) : TbL xs lf (i + 1).toNat := ⟨h.l, fun u hu => by
  rw [show (i + 1).toNat = i.toNat + 1 by omega, ownN_succ, h.h u hu]
  refine ⟨.inl, fun q => q.elim id (fun q => ?_)⟩
  have := (h.h (rc (row xs i.toNat) 0).int.toNat (by omega)).1 hb
  rw [show (((rc (row xs i.toNat) 0).int.toNat : Nat) : Int) = (rc (row xs i.toNat) 0).int by omega] at this
  rw [q]; exact this⟩
theorem own_eq {xs : List Row} {i : Nat} : OwnN xs (i + 1) = fun v => OwnN xs i v ∨ v = (rc (row xs i) 0).int := by
  funext v; exact propext ownN_succ
theorem cnt_new {xs lf : List Row} {i : Int} (h : TbL xs lf i.toNat) (hb : (rc (row lf (rc (row xs i.toNat) 0).int.toNat) 0).bool = false) (h0 : 0 ≤ i) (o0 : 0 ≤ (rc (row xs i.toNat) 0).int) (o7 : (rc (row xs i.toNat) 0).int ≤ 7) : ((cnt (OwnN xs i.toNat) : Nat) : Int) + 1 = ((cnt (OwnN xs (i + 1).toNat) : Nat) : Int) := by
  have hn : ¬ OwnN xs i.toNat (rc (row xs i.toNat) 0).int := fun q => by
    have := (h.h (rc (row xs i.toNat) 0).int.toNat (by omega)).2 (by rw [show (((rc (row xs i.toNat) 0).int.toNat : Nat) : Int) = (rc (row xs i.toNat) 0).int by omega]; exact q)
    rw [this] at hb; cases hb
  rw [show (i + 1).toNat = i.toNat + 1 by omega, own_eq, cnt_or hn o0 o7]; omega
theorem cnt_old {xs lf : List Row} {i : Int} (h : TbL xs lf i.toNat) (hb : (rc (row lf (rc (row xs i.toNat) 0).int.toNat) 0).bool = true) (h0 : 0 ≤ i) (o0 : 0 ≤ (rc (row xs i.toNat) 0).int) (o7 : (rc (row xs i.toNat) 0).int ≤ 7) : ((cnt (OwnN xs i.toNat) : Nat) : Int) = ((cnt (OwnN xs (i + 1).toNat) : Nat) : Int) := by
  have hy : OwnN xs i.toNat (rc (row xs i.toNat) 0).int := by
    have := (h.h (rc (row xs i.toNat) 0).int.toNat (by omega)).1 hb
    rwa [show (((rc (row xs i.toNat) 0).int.toNat : Nat) : Int) = (rc (row xs i.toNat) 0).int by omega] at this
  have : cnt (OwnN xs (i + 1).toNat) = cnt (OwnN xs i.toNat) := by
    rw [show (i + 1).toNat = i.toNat + 1 by omega, own_eq]
    exact cnt_congr (fun v _ => ⟨fun q => q.elim id (fun q => by rw [q]; exact hy), .inl⟩)
  rw [this]
theorem va_o {xs : List Row} {i : Int} (h : VA xs) (h0 : 0 ≤ i) (hi : i < xs.length) : 0 ≤ (rc (row xs i.toNat) 0).int ∧ (rc (row xs i.toNat) 0).int ≤ 7 := by
  have := (h.g.h i.toNat (by omega)).1.h
  exact ⟨this.1, this.2.1⟩
theorem tbB_in {xs bf : List Row} {i : Int} (h : TbB xs bf (BefN xs i.toNat)) : TbB xs bf (BefM xs i.toNat (Int.toNat 0)) := ⟨h.l, fun u t h1 h2 => by rw [h.h u t h1 h2]; exact befM_zero.symm⟩
theorem tbB_out {xs bf : List Row} {i k : Int} (h : TbB xs bf (BefM xs i.toNat k.toNat)) (hk : ¬ k < i) (h2 : k ≤ i) (h0 : 0 ≤ i) : TbB xs bf (BefN xs (i + 1).toNat) := ⟨h.l, fun u t h1 h3 => by
  rw [h.h u t h1 h3, show k.toNat = i.toNat by omega, befM_all, show (i + 1).toNat = i.toNat + 1 by omega]⟩
theorem tbB_no {xs bf : List Row} {i k : Int} (h : TbB xs bf (BefM xs i.toNat k.toNat)) (hc : ¬ confl (rc (row xs k.toNat) 0).int (rc (row xs k.toNat) 1).int (rc (row xs k.toNat) 2).int (rc (row xs i.toNat) 0).int (rc (row xs i.toNat) 1).int (rc (row xs i.toNat) 2).int) (h0 : 0 ≤ k) : TbB xs bf (BefM xs i.toNat (k + 1).toNat) := ⟨h.l, fun u t h1 h2 => by
  rw [h.h u t h1 h2, show (k + 1).toNat = k.toNat + 1 by omega, befM_no hc]⟩
theorem tbB_set {xs bf : List Row} {i k : Int} (h : TbB xs bf (BefM xs i.toNat k.toNat)) (hc : confl (rc (row xs k.toNat) 0).int (rc (row xs k.toNat) 1).int (rc (row xs k.toNat) 2).int (rc (row xs i.toNat) 0).int (rc (row xs i.toNat) 1).int (rc (row xs i.toNat) 2).int) (hv : VA xs) (h0 : 0 ≤ k) (hk : k < i) (hi : i < xs.length) :
    TbB xs (bf.set ((rc (row xs k.toNat) 0).int.toNat * 8 + (rc (row xs i.toNat) 0).int.toNat) (pasteR (row bf ((rc (row xs k.toNat) 0).int.toNat * 8 + (rc (row xs i.toNat) 0).int.toNat)) 0 [Sc.b true])) (BefM xs i.toNat (k + 1).toNat) := ⟨by simp [h.l], fun u t h1 h2 => by
  have hl := h.l
  have q1 := va_o hv h0 (by omega : k < xs.length)
  have q2 := va_o hv (by omega) hi
  rw [row_set, show (k + 1).toNat = k.toNat + 1 by omega, befM_yes hc]
  by_cases e : (rc (row xs k.toNat) 0).int.toNat * 8 + (rc (row xs i.toNat) 0).int.toNat = u * 8 + t
  · rw [if_pos ⟨e, by omega⟩, paste_b]
    exact ⟨fun _ => .inr ⟨by omega, by omega⟩, fun _ => rfl⟩
  · rw [if_neg (fun q => e q.1), h.h u t h1 h2]
    exact ⟨.inl, fun q => q.elim id (fun q => absurd (by rw [← Int.toNat_natCast u, ← Int.toNat_natCast t, ← q.1, ← q.2]) e)⟩⟩
/-- In a part of the acts. -/
theorem pt_row {xs : List Row} {i j : Int} (h0 : 0 ≤ j) (h : j < i) : row (xs.take i.toNat) j.toNat = row xs j.toNat := row_takeA (by omega)
theorem tbB_noT {xs bf : List Row} {i k : Int} (h : TbB xs bf (BefM xs i.toNat k.toNat)) (hc : ¬ confl (rc (row (xs.take i.toNat) k.toNat) 0).int (rc (row (xs.take i.toNat) k.toNat) 1).int (rc (row (xs.take i.toNat) k.toNat) 2).int (rc (row xs i.toNat) 0).int (rc (row xs i.toNat) 1).int (rc (row xs i.toNat) 2).int) (h0 : 0 ≤ k) (hk : k < i) : TbB xs bf (BefM xs i.toNat (k + 1).toNat) := by
  rw [pt_row h0 hk] at hc; exact tbB_no h hc h0
theorem tbB_setT {xs bf : List Row} {i k : Int} (h : TbB xs bf (BefM xs i.toNat k.toNat)) (hc : confl (rc (row (xs.take i.toNat) k.toNat) 0).int (rc (row (xs.take i.toNat) k.toNat) 1).int (rc (row (xs.take i.toNat) k.toNat) 2).int (rc (row xs i.toNat) 0).int (rc (row xs i.toNat) 1).int (rc (row xs i.toNat) 2).int) (hv : VA xs) (h0 : 0 ≤ k) (hk : k < i) (hi : i < xs.length) :
    TbB xs (bf.set ((rc (row (xs.take i.toNat) k.toNat) 0).int.toNat * 8 + (rc (row xs i.toNat) 0).int.toNat) (pasteR (row bf ((rc (row (xs.take i.toNat) k.toNat) 0).int.toNat * 8 + (rc (row xs i.toNat) 0).int.toNat)) 0 [Sc.b true])) (BefM xs i.toNat (k + 1).toNat) := by
  rw [pt_row h0 hk] at hc ⊢; exact tbB_set h hc hv h0 hk hi
theorem pt_o {xs : List Row} {i k : Int} (hv : VA xs) (h0 : 0 ≤ k) (h1 : k < i) (h2 : i < xs.length) : 0 ≤ (rc (row (xs.take i.toNat) k.toNat) 0).int ∧ (rc (row (xs.take i.toNat) k.toNat) 0).int < 8 := by
  rw [pt_row h0 h1]
  have := va_o hv h0 (by omega : k < xs.length)
  omega
theorem pt_m {xs bf : List Row} {i k : Int} (hv : VA xs) (h0 : 0 ≤ k) (h1 : k < i) (h2 : i < xs.length) (hb : 64 ≤ (bf.length : Int)) : (rc (row (xs.take i.toNat) k.toNat) 0).int.toNat * 8 + 8 ≤ bf.length := by
  have := pt_o hv h0 h1 h2
  omega
theorem va_o8 {xs : List Row} {i : Int} (h : VA xs) (h0 : 0 ≤ i) (hi : i < xs.length) : (rc (row xs i.toNat) 0).int < 8 := by have := va_o h h0 hi; omega
/-- The program's order, under way. -/
structure IpS (xs bf lf acc : List Row) (m : Int) : Prop where
  v : VA xs
  b : TbB xs bf (Bef xs)
  l : lf.length = 8
  m : m = ((cnt (Own xs) : Nat) : Int)
  s : SerR (Bef xs) (Own xs) (PA lf) acc (cnt (Own xs))
theorem pa_own {xs lf : List Row} (h : TbL xs lf xs.length) (hv : VA xs) : PA lf = Own xs := by
  funext v; apply propext
  constructor
  · rintro ⟨⟨h0, h7⟩, hb⟩
    have := (h.h v.toNat (by omega)).1 hb
    rwa [show ((v.toNat : Nat) : Int) = v by omega] at this
  · intro q
    have hr := own_range hv q
    refine ⟨hr, (h.h v.toNat (by omega)).2 ?_⟩
    rw [show ((v.toNat : Nat) : Int) = v by omega]; exact q
theorem ips_zero {xs bf lf : List Row} {i : Int} (hb : TbB xs bf (BefN xs i.toNat)) (hl : TbL xs lf i.toNat) (hv : VA xs) (hi : ¬ i < xs.length) (h2 : i ≤ xs.length) : IpS xs bf lf [] ((cnt (OwnN xs i.toNat) : Nat) : Int) := by
  rw [show i.toNat = xs.length by omega] at hb hl ⊢
  refine ⟨hv, hb, hl.l, rfl, ?_⟩
  rw [pa_own hl hv]
  exact serr_zero _ _
theorem ips_nx {xs bf lf acc : List Row} {m : Int} (h : IpS xs bf lf acc m) : nxtF (BA bf) (PA lf) = nxtF (Bef xs) (PA lf) := by
  refine nxtF_congr (fun _ _ _ => Iff.rfl) (fun u t u0 u7 t0 t7 => ?_)
  have := h.b.h u.toNat t.toNat (by omega) (by omega)
  rw [show ((u.toNat : Nat) : Int) = u by omega, show ((t.toNat : Nat) : Int) = t by omega] at this
  exact this
theorem ips_rng {bf lf : List Row} (h : ¬ nxtF (BA bf) (PA lf) < 0) : 0 ≤ nxtF (BA bf) (PA lf) ∧ nxtF (BA bf) (PA lf) ≤ 7 := by
  rcases nxtF_cases (BA bf) (PA lf) with ⟨_, q⟩ | ⟨q, _⟩
  · exact q
  · omega
theorem pa_drop {lf : List Row} {n : Int} (hl : lf.length = 8) (hn : 0 ≤ n) : PA (lf.set n.toNat (pasteR (row lf n.toNat) 0 [Sc.b false])) = fun v => PA lf v ∧ v ≠ n := by
  funext v; apply propext
  unfold PA
  rw [row_set]
  by_cases ev : n.toNat = v.toNat ∧ v.toNat < lf.length
  · rw [if_pos ev, paste_b]
    exact ⟨fun q => (by cases q.2), fun ⟨⟨q1, _⟩, q2⟩ => absurd (by omega) q2⟩
  · rw [if_neg ev]
    exact ⟨fun q => ⟨q, fun q2 => ev ⟨by rw [q2], by omega⟩⟩, fun q => q.1⟩
theorem ips_step {xs bf lf acc : List Row} {m : Int} (h : IpS xs bf lf acc m) (h3 : ¬ nxtF (BA bf) (PA lf) < 0) : IpS xs bf (lf.set (nxtF (BA bf) (PA lf)).toNat (pasteR (row lf (nxtF (BA bf) (PA lf)).toNat) 0 [Sc.b false])) (acc ++ [[Sc.i (nxtF (BA bf) (PA lf))]]) m := by
  have hr := ips_rng h3
  have hs := serr_step h.s (by rw [← ips_nx h]; omega)
  rw [← ips_nx h] at hs
  refine ⟨h.v, h.b, by simp [h.l], h.m, ?_⟩
  rw [pa_drop h.l hr.1]; exact hs
theorem ips_len {xs bf lf acc : List Row} {m : Int} (h : IpS xs bf lf acc m) : (acc.length : Int) ≤ m ∧ m ≤ 8 := by
  have c := h.s.c
  have := cnt_le (Own xs)
  have := h.m
  omega
theorem ips_no {xs bf lf acc : List Row} {m : Int} (h : IpS xs bf lf acc m) (h3 : nxtF (BA bf) (PA lf) < 0) (hl : (acc.length : Int) < m) : (serL xs).2 = false := by
  have e := h.m
  rw [serL_is h.v]
  exact serr_no h.s (by omega) (by rw [← ips_nx h]; exact h3)
theorem ips_noL {xs bf lf acc : List Row} {m : Int} (h : IpS xs bf lf acc m) (h3 : nxtF (BA bf) (PA lf) < 0) (hl : (acc.length : Int) < m) : (serL xs).1 = [] := serL_nil (ips_no h h3 hl)
theorem ips_fin {xs bf lf acc : List Row} {m : Int} (h : IpS xs bf lf acc m) (hl : ¬ (acc.length : Int) < m) : (serL xs).2 = true ∧ (serL xs).1 = acc := by
  have e := h.m
  rw [serL_is h.v]
  exact serr_fin h.s (by omega)
theorem ips_l {xs bf lf acc : List Row} {m : Int} (h : IpS xs bf lf acc m) : lf.length = 8 := h.l
theorem ips_b {xs bf lf acc : List Row} {m : Int} (h : IpS xs bf lf acc m) : bf.length = 64 := h.b.l
/-- The orders of regions that draw. -/
def trSer : Nat → Option (Bool × Tr)
  | 16 => some (false, .take 0 (.take 2 (.all (.cons 1 (.take 4 (.all (.cons 3 (.take 5 (.all (.cons 6 .done .nil))) .nil))) (.cons 3 (.all (.cons 1 (.take 4 (.take 5 (.all (.cons 6 .done .nil)))) .nil)) .nil)))))
  | _ => none
set_option maxRecDepth 100000 in
set_option maxHeartbeats 16000000 in
theorem p_iSer : Proved 25 cSer := by
  refine proved_tr trSer [(16, cValid), (41, cConflict), (44, cNxO)] ⟨p_iValidActs, p_iConflict, p_nextOwner, trivial⟩ [.tmp 2, .tmp 3] Try.func25 rfl rfl rfl rfl (by kernel_rfl) ?_
  intro ds K hrel
  simp only [cSer] at hrel
  split at hrel
  case h_2 => exact hrel.elim
  rename_i ks xs
  obtain ⟨rfl, h1, hrel⟩ := hrel
  refine ⟨rfl, Nat.le_of_ble_eq_true rfl, fun k σ => match k with
    | 7 => some { α := Lv 7 (List Row × List Row × Int), R := fun ⟨(bf, lf, i)⟩ => (cnt (OwnN xs i.toNat) ≤ 8 ∧ 0 ≤ i ∧ i ≤ xs.length ∧ xs.length ≤ 16 ∧ 64 ≤ (bf.length : Int) ∧ (bf.length : Int) ≤ 64 ∧ 8 ≤ (lf.length : Int) ∧ (lf.length : Int) ≤ 8) ∧ VA xs ∧ TbB xs bf (BefN xs i.toNat) ∧ TbL xs lf i.toNat, μ := fun ⟨(_, _, i)⟩ => (xs.length - i).toNat, st := fun ⟨(bf, lf, i)⟩ => upW σ [(18, .int .i64 i), (6, .int .i64 (cnt (OwnN xs i.toNat) : Nat))] (setH (setH σ.hp 0 (some (.arr [.bool] bf))) 1 (some (.arr [.bool] lf))) }
    | 13 => match lookT σ.tm 18 with
      | .int _ i => some { α := Lv 13 (List Row × Int), R := fun ⟨(bf, j)⟩ => (0 ≤ j ∧ j ≤ i ∧ 64 ≤ (bf.length : Int) ∧ (bf.length : Int) ≤ 64) ∧ TbB xs bf (BefM xs i.toNat j.toNat), μ := fun ⟨(_, j)⟩ => (i - j).toNat, st := fun ⟨(bf, j)⟩ => upH σ [(37, .int .i64 j)] 0 (.arr [.bool] bf) }
      | _ => none
    | 20 => match lookT σ.tm 6 with
      | .int _ m => match lookH σ.hp 0 with
        | some (.arr _ bf) => some { α := Lv 20 (List Row × List Row), R := fun ⟨(lf, acc)⟩ => ((acc.length : Int) ≤ m ∧ m ≤ 8 ∧ 64 ≤ (bf.length : Int) ∧ (bf.length : Int) ≤ 64 ∧ 8 ≤ (lf.length : Int) ∧ (lf.length : Int) ≤ 8) ∧ IpS xs bf lf acc m, μ := fun ⟨(_, acc)⟩ => (m - acc.length).toNat, st := fun ⟨(lf, acc)⟩ => upW σ [(11, .own 2)] (putE (setH σ.hp 1 (some (.arr [.bool] lf))) 2 (.rows 3 KInt acc)) }
        | _ => none
      | _ => none
    | _ => none, ?_⟩
  repeat' (first | with_reducible refine And.intro ?_ ?_ | (with_reducible intro h; first | (exact absurd h (by decide)) | (guard_hyp h : true = true; clear h) | (guard_hyp h : false = false; clear h) | (have hq := (h : Lv 7 _); clear hq; obtain ⟨_, _, _⟩ := h) | (have hq := (h : Lv 13 _); clear hq; obtain ⟨_, _⟩ := h) | (have hq := (h : Lv 20 _); clear hq; obtain ⟨_, _⟩ := h) | skip) | with_reducible exact True.intro | ((with_reducible refine (id ?_ : @Eq Bool (nodupN _) true)); kernel_rfl) | ((with_reducible refine (id ?_ : @Eq Bool (apartN _ _) true)); kernel_rfl) | ((with_reducible refine (id ?_ : @Eq Bool (formL _ _) true)); kernel_rfl) | ((with_reducible refine (id ?_ : @Eq _ _ _)); exact rfl) | ((conv => whnf); first | done | with_reducible refine And.intro ?_ ?_ | (with_reducible intro h; first | (exact absurd h (by decide)) | (guard_hyp h : true = true; clear h) | (guard_hyp h : false = false; clear h) | (have hq := (h : Lv 7 _); clear hq; obtain ⟨_, _, _⟩ := h) | (have hq := (h : Lv 13 _); clear hq; obtain ⟨_, _⟩ := h) | (have hq := (h : Lv 20 _); clear hq; obtain ⟨_, _⟩ := h) | skip) | with_reducible exact True.intro | ((with_reducible refine (id ?_ : @Eq _ _ _)); exact rfl) | (refine Exists.intro _ (Exists.intro _ (And.intro hrel ?_))) | refine Exists.intro (⟨(?_, ?_, ?_)⟩ : Lv 7 _) ?_ | refine Exists.intro (⟨(?_, ?_)⟩ : Lv 13 _) ?_ | refine Exists.intro (⟨(?_, ?_)⟩ : Lv 20 _) ?_ | refine Exists.intro _ (Exists.intro _ (And.intro hrel ?_)) | exact Or.inl rfl | exact Or.inr (And.intro rfl rfl) | (apply Exists.intro; refine And.intro ?_ ?_)) | exact Nat.le_of_ble_eq_true rfl)
  all_goals (try ((try (change _ = _)) <;> (try dsimp only at *) <;> (try simp only [decide_eq_true_eq, decide_eq_false_iff_not, Bool.not_eq_true', Bool.not_eq_false', Bool.and_eq_true, Bool.and_eq_false_iff, beq_iff_eq, bne_iff_ne, beq_eq_false_iff_ne, bne_eq_false_iff_eq, ne_eq, Decidable.not_not, bne_self_eq_false, Bool.false_eq_true, Bool.true_eq_false, Bool.not_true, Bool.not_false, not_true_eq_false, not_false_eq_true, Int.toNat_natCast, Nat.zero_add, Nat.reduceAdd, Nat.reduceMul, Nat.reduceDiv, Nat.mul_one, lenK_one, big, fill_len, marking_len, marks_len, nrms_len, List.length_set, List.length_append, List.length_map, List.length_replicate, List.length_cons, List.length_nil, Int.natCast_add, Int.natCast_one, Int.natCast_zero, List.drop_zero, Int.toNat_zero, List.length_take, List.length_drop] at *) <;> (repeat (with_reducible rename _ ∧ _ => hh; obtain ⟨_, _⟩ := hh)) <;> (first | omega | (refine fits_i64 ?_; omega) | (split <;> omega) | (with_reducible assumption) | (with_reducible exact ser_noB (by with_reducible assumption)) | (with_reducible exact (ser_noB (by with_reducible assumption)).symm) | (with_reducible exact ser_noL (by with_reducible assumption)) | (with_reducible exact va_16 (by with_reducible assumption)) | exact tbB_zero _ | exact tbL_zero _ | (exact cnt_zero _) | (exact cnt_le _) | (have hvv : VA xs := (by with_reducible assumption); exact tbB_setT (by with_reducible assumption) (by with_reducible assumption) hvv (by omega) (by omega) (by omega)) | exact tbB_noT (by with_reducible assumption) (by with_reducible assumption) (by omega) (by omega) | (have hvv : VA xs := (by with_reducible assumption); exact (pt_o hvv (by omega) (by omega) (by omega)).1) | (have hvv : VA xs := (by with_reducible assumption); exact (pt_o hvv (by omega) (by omega) (by omega)).2) | (have hvv : VA xs := (by with_reducible assumption); exact pt_m hvv (by omega) (by omega) (by omega) (by omega)) | (have hvv : VA xs := (by with_reducible assumption); exact (va_o hvv (by omega) (by omega)).1) | (have hvv : VA xs := (by with_reducible assumption); exact va_o8 hvv (by omega) (by omega)) | (have hvv : VA xs := (by with_reducible assumption); exact tbL_new (by with_reducible assumption) (by omega) (va_o hvv (by omega) (by omega)).1 (va_o hvv (by omega) (by omega)).2) | (have hvv : VA xs := (by with_reducible assumption); exact tbL_old (by with_reducible assumption) (by with_reducible assumption) (by omega) (va_o hvv (by omega) (by omega)).1 (va_o hvv (by omega) (by omega)).2) | (have hvv : VA xs := (by with_reducible assumption); exact cnt_new (by with_reducible assumption) (by with_reducible assumption) (by omega) (va_o hvv (by omega) (by omega)).1 (va_o hvv (by omega) (by omega)).2) | (have hvv : VA xs := (by with_reducible assumption); exact cnt_old (by with_reducible assumption) (by with_reducible assumption) (by omega) (va_o hvv (by omega) (by omega)).1 (va_o hvv (by omega) (by omega)).2) | exact tbB_in (by with_reducible assumption) | exact tbB_out (by with_reducible assumption) (by omega) (by omega) (by omega) | exact ips_zero (by with_reducible assumption) (by with_reducible assumption) (by with_reducible assumption) (by omega) (by omega) | exact ips_step (by with_reducible assumption) (by with_reducible assumption) | exact ips_no (by with_reducible assumption) (by with_reducible assumption) (by with_reducible assumption) | exact (ips_no (by with_reducible assumption) (by with_reducible assumption) (by with_reducible assumption)).symm | exact ips_noL (by with_reducible assumption) (by with_reducible assumption) (by with_reducible assumption) | exact (ips_fin (by with_reducible assumption) (by with_reducible assumption)).1 | exact (ips_fin (by with_reducible assumption) (by with_reducible assumption)).1.symm | exact (ips_fin (by with_reducible assumption) (by with_reducible assumption)).2 | exact (ips_fin (by with_reducible assumption) (by with_reducible assumption)).2.symm | (have hvv : VA xs := (by with_reducible assumption); have q := va_o hvv (i := _) (by omega) (by omega); omega) | (have q := ips_rng (by with_reducible assumption); omega) | (have q := ips_len (by with_reducible assumption); omega))))
end Go.Proofs.Ytmdlffhkhhionaa.V
