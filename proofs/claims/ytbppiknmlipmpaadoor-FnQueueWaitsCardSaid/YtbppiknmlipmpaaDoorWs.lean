/-
  Waits: what the reference's functions return.
-/
import Derived.Test.YtbppiknmlipmpaaDoorWr
set_option linter.unusedSimpArgs false
set_option linter.unusedVariables false
namespace Go.Proofs.YtbppiknmlipmpaaDoor.V
open Go Go.RowKit
open Classical

noncomputable def cIsIn : Ct := ⟨[], fun ds K => match ds with
  | [.view ks xs, .int .i64 n] => ks = KInt ∧ (xs.length : Int) < big ∧ K (.bool (decide (memI xs n))) []
  | _ => False⟩
structure NoI (xs : List Row) (n : Int) (i : Int) : Prop where
  h : ∀ j : Nat, (j : Int) < i → ¬ (rc (row xs j) 0).int = n
theorem noI_zero (xs : List Row) (n : Int) : NoI xs n 0 := ⟨fun j h => by omega⟩
theorem noI_step {xs : List Row} {n i : Int} (h : NoI xs n i) (h0 : 0 ≤ i) (h1 : ¬ (rc (row xs i.toNat) 0).int = n) : NoI xs n (i + 1) := ⟨fun j hj => by
  by_cases e : (j : Int) = i
  · subst e; exact h1
  · exact h.h j (by omega)⟩
theorem isIn_yes {xs : List Row} {n i : Int} (h0 : 0 ≤ i) (h1 : i < xs.length) (h2 : (rc (row xs i.toNat) 0).int = n) : true = decide (memI xs n) := true_eq (by rw [← h2]; exact memI_row xs i.toNat (by omega))
theorem isIn_no {xs : List Row} {n i : Int} (h : NoI xs n i) (h1 : ¬ i < xs.length) : false = decide (memI xs n) := false_eq (fun hm => by obtain ⟨j, h2, h3⟩ := mem_memI.2 hm; exact h.h j (by omega) h3)
theorem wv_bad' {ws : List Row} {i : Int} (_ : WaitsN ws i) (h0 : 0 ≤ i) (hi : i < ws.length) (h : ¬ WaitOk (row ws i.toNat)) : false = decide (WV ws) := false_eq (wv_bad h0 hi h)
noncomputable def cWV : Ct := ⟨[], fun ds K => match ds with
  | [.view ks ws] => ks = KWait ∧ (ws.length : Int) < big ∧ K (.bool (decide (WV ws))) []
  | _ => False⟩
/-- Sorting, round by round. -/
structure SrtO (xs ys : List Row) (i : Int) : Prop where
  l : ys.length = xs.length
  n : nrms KInt ys = ys
  d : Dst ys
  m : ∀ v, Mem ys v ↔ Mem xs v
  s : ∀ a b : Nat, a < b → (b : Int) < i → b < ys.length → numT ys a < numT ys b
theorem srto_zero {xs : List Row} (hn : nrms KInt xs = xs) (hd : Dst xs) : SrtO xs xs 1 := ⟨rfl, hn, hd, fun _ => Iff.rfl, fun a b h1 h2 => by omega⟩
theorem srt_start {xs ys : List Row} {i : Int} (h : SrtO xs ys i) (h0 : 0 ≤ i) : Srt xs ys i.toNat i.toNat := srt_begin h.l h.n h.d h.m (fun a b h1 h2 h3 => h.s a b h1 (by omega) h3)
theorem srt_end0 {xs ys : List Row} {i k : Int} (h : Srt xs ys i.toNat k.toNat) (hk : ¬ 0 < k) (h0 : 0 ≤ i) (hi : i < ys.length) : SrtO xs ys (i + 1) := ⟨h.l, h.n, h.d, h.m, fun a b h1 h2 h3 => srt_stop h (.inl (by omega)) (by omega) a b h1 (by omega) h3⟩
theorem srt_end1 {xs ys : List Row} {i k : Int} (h : Srt xs ys i.toNat k.toNat) (hn : ¬ (rc (row ys k.toNat) 0).int < (rc (row ys (k - 1).toNat) 0).int) (hk : 0 < k) (h0 : 0 ≤ i) (hi : i < ys.length) (hki : k ≤ i) : SrtO xs ys (i + 1) := ⟨h.l, h.n, h.d, h.m, fun a b h1 h2 h3 => srt_stop h (.inr (by unfold numT; rw [show k.toNat - 1 = (k - 1).toNat by omega]; exact hn)) (by omega) a b h1 (by omega) h3⟩
theorem srt_swapI {xs ys : List Row} {i k : Int} (h : Srt xs ys i.toNat k.toNat) (hlt : (rc (row ys k.toNat) 0).int < (rc (row ys (k - 1).toNat) 0).int) (hk : 0 < k) (h0 : 0 ≤ i) (hi : i < ys.length) : Srt xs (setI (setI ys k (rc (row ys (k - 1).toNat) 0).int) (k - 1) (rc (row ys k.toNat) 0).int) i.toNat (k - 1).toNat := by
  have e : k.toNat = (k - 1).toNat + 1 := by omega
  rw [e] at h
  have := srt_swap h (by omega) (by unfold numT; rw [← e]; exact hlt)
  unfold numT at this
  rw [← e, show ((k.toNat : Nat) : Int) = k by omega, show (((k - 1).toNat : Nat) : Int) = k - 1 by omega] at this
  exact this
theorem srt_len {xs ys : List Row} {i k : Nat} (h : Srt xs ys i k) : ys.length = xs.length := h.l
theorem sort_fin {xs ys : List Row} {i : Int} (h : SrtO xs ys i) (hi : ¬ i < ys.length) : SortOf xs ys := ⟨h.l, ⟨fun a b h1 h2 => h.s a b h1 (by omega) h2⟩, h.m, h.n⟩
def cSorted : Ct := ⟨[], fun ds K => match ds with
  | [.view ks xs] => ks = KInt ∧ xs.length ≤ 1048576 ∧ (nrms KInt xs = xs) ∧ Dst xs ∧ ∀ ys : List Row, SortOf xs ys → K (.fr 3 KInt ys) []
  | _ => False⟩
/-! Who is reached. -/
theorem rnd_add1 {ws out : List Row} {who r i : Int} (h : RndB ws who out r i) (hy : (rc (row ws i.toNat) 0).int = who) (hn : ¬ memI out (rc (row ws i.toNat) 1).int) (h0 : 0 ≤ i) (hi : i < ws.length) : RndB ws who (out ++ [[Sc.i (rc (row ws i.toNat) 1).int]]) r (i + 1) := rnd_add h (.inl hy) (fun q => hn (mem_memI.1 q)) h0 hi
theorem rnd_add2 {ws out : List Row} {who r i : Int} (h : RndB ws who out r i) (hy : memI out (rc (row ws i.toNat) 0).int) (hn : ¬ memI out (rc (row ws i.toNat) 1).int) (h0 : 0 ≤ i) (hi : i < ws.length) : RndB ws who (out ++ [[Sc.i (rc (row ws i.toNat) 1).int]]) r (i + 1) := rnd_add h (.inr (mem_memI.2 hy)) (fun q => hn (mem_memI.1 q)) h0 hi
theorem rnd_skip1 {ws out : List Row} {who r i : Int} (h : RndB ws who out r i) (hm : memI out (rc (row ws i.toNat) 1).int) (h0 : 0 ≤ i) : RndB ws who out r (i + 1) := rnd_skip h h0 (fun _ => mem_memI.2 hm)
theorem rnd_skip2 {ws out : List Row} {who r i : Int} (h : RndB ws who out r i) (h1 : ¬ (rc (row ws i.toNat) 0).int = who) (h2 : ¬ memI out (rc (row ws i.toNat) 0).int) (h0 : 0 ≤ i) : RndB ws who out r (i + 1) := rnd_skip h h0 (fun q => q.elim (fun q => absurd q h1) (fun q => absurd (mem_memI.1 q) h2))
theorem rnd_len {ws out : List Row} {who r i : Int} (h : RndB ws who out r i) (hv : WV ws) : out.length ≤ 8 := grw_le h.g hv
theorem rnd_lenA {ws out : List Row} {who r : Int} (h : RndA ws who out r) (hv : WV ws) : out.length ≤ 8 := grw_le h.g hv
theorem rnd_n {ws out : List Row} {who r : Int} (h : RndA ws who out r) : nrms KInt out = out := h.g.n
theorem rnd_d {ws out : List Row} {who r : Int} (h : RndA ws who out r) : Dst out := h.g.d
theorem rnd_sort {ws out ys : List Row} {who r : Int} (h : RndA ws who out r) (hs : SortOf out ys) (hv : WV ws) (hr : ¬ r ≤ 8) : ys = reachL ws who := sort_asc hs (rnd_fin h hr hv)
noncomputable def cReached : Ct := ⟨[], fun ds K => match ds with
  | [.view ks ws, .int .i64 who] => ks = KWait ∧ WV ws ∧ K (.fr 3 KInt (reachL ws who)) []
  | _ => False⟩
noncomputable def cWF : Ct := ⟨[], fun ds K => match ds with
  | [.view ks ws, .int .i64 who] => ks = KWait ∧ ws.length ≤ 1048576 ∧ K (.fr 3 KInt (waitsF ws who)) []
  | _ => False⟩
noncomputable def cLF : Ct := ⟨[], fun ds K => match ds with
  | [.view ks ws] => ks = KWait ∧ ws.length ≤ 1048576 ∧ K (.fr 3 KInt (lockF ws)) []
  | _ => False⟩
theorem reach_len (ws : List Row) (who : Int) : (reachL ws who).length ≤ 8 := ascL_len _ 8
theorem reach_big (ws : List Row) (who : Int) : ((reachL ws who).length : Int) < 9223372036854775808 := by have := reach_len ws who; omega
theorem reach_mem {ws : List Row} {who v : Int} (h : WV ws) : memI (reachL ws who) v ↔ Rch ws who v := by
  rw [← mem_memI]
  unfold reachL
  rw [ascL_mem]
  exact ⟨fun q => q.2.2, fun q => ⟨(rch_range h q).2.1, by have := (rch_range h q).2; omega, q⟩⟩
theorem lk_yes {ws : List Row} {n : Int} (hm : memI (reachL ws n) n) (hv : WV ws) (h0 : 0 ≤ n) : ascL (fun v => Rch ws v v) n.toNat ++ [[Sc.i n]] = ascL (fun v => Rch ws v v) (n + 1).toNat := ascL_yes (P := fun v => Rch ws v v) ((reach_mem hv).1 hm) h0
theorem lk_no {ws : List Row} {n : Int} (hm : ¬ memI (reachL ws n) n) (hv : WV ws) (h0 : 0 ≤ n) : ascL (fun v => Rch ws v v) n.toNat = ascL (fun v => Rch ws v v) (n + 1).toNat := ascL_no (P := fun v => Rch ws v v) (fun q => hm ((reach_mem hv).2 q)) h0
theorem asc_bnd (P : Int → Prop) {n : Int} (h0 : 0 ≤ n) (h : n ≤ 7) : ((ascL P n.toNat).length + 1) * 8 ≤ 140737488355328 := by have := ascL_len P n.toNat; omega
/-! Victims. -/
@[irreducible] def woI (ws : List Row) (v : Int) (i : Nat) : List Row := nrms KWait ((ws.take i).filter (woP v))
theorem wo_yes {ws : List Row} {v i : Int} (h1 : ¬ (rc (row ws i.toNat) 0).int = v) (h2 : ¬ (rc (row ws i.toNat) 1).int = v) (h0 : 0 ≤ i) (hi : i < ws.length) : woI ws v i.toNat ++ [[Sc.i (rc (row ws i.toNat) 0).int, Sc.i (rc (row ws i.toNat) 1).int]] = woI ws v (i + 1).toNat := by
  unfold woI; exact (filt_yes h0 hi (woP_yes h1 h2)).symm
theorem wo_no1 {ws : List Row} {v i : Int} (h1 : (rc (row ws i.toNat) 0).int = v) (h0 : 0 ≤ i) (hi : i < ws.length) : woI ws v i.toNat = woI ws v (i + 1).toNat := by unfold woI; exact (filt_no h0 hi (woP_no1 h1)).symm
theorem wo_no2 {ws : List Row} {v i : Int} (h1 : (rc (row ws i.toNat) 1).int = v) (h0 : 0 ≤ i) (hi : i < ws.length) : woI ws v i.toNat = woI ws v (i + 1).toNat := by unfold woI; exact (filt_no h0 hi (woP_no2 h1)).symm
theorem wo_zero (ws : List Row) (v : Int) : [] = woI ws v (Int.toNat 0) := by simp [woI, nrms]
theorem wo_all {ws : List Row} {v i : Int} (h : ¬ i < ws.length) : woI ws v i.toNat = woF ws v := by unfold woI; exact filt_all h
theorem wo_bnd (ws : List Row) (v : Int) (i : Nat) (h : ws.length ≤ 1048576) : ((woI ws v i).length + 1) * 16 ≤ 140737488355328 := by unfold woI; have := filt_len KWait (woP v) ws i; omega
def cWo : Ct := ⟨[], fun ds K => match ds with
  | [.view ks ws, .int .i64 v] => ks = KWait ∧ ws.length ≤ 1048576 ∧ K (.fr 38 KWait (woF ws v)) []
  | _ => False⟩
theorem vs_step {ws ls acc : List Row} (h : VicR ws ls acc) (hl : ¬ ((lockF ls).length : Int) = 0) : VicR ws (woF ls (rc (row (lockF ls) (((lockF ls).length : Int) - 1).toNat) 0).int) (acc ++ [[Sc.i (rc (row (lockF ls) (((lockF ls).length : Int) - 1).toNat) 0).int]]) := by
  have := vicr_step h (len1 hl)
  unfold lastN numT at this
  rw [show (((lockF ls).length : Int) - 1).toNat = (lockF ls).length - 1 by omega]; exact this
theorem vs_lt {ls : List Row} (hl : ¬ ((lockF ls).length : Int) = 0) : (woF ls (rc (row (lockF ls) (((lockF ls).length : Int) - 1).toNat) 0).int).length < ls.length := by
  have := wo_len (last_mem (len1 hl))
  unfold lastN numT at this
  rw [show (((lockF ls).length : Int) - 1).toNat = (lockF ls).length - 1 by omega]; exact this
theorem vs_fin {ws ls acc : List Row} (h : VicR ws ls acc) (hl : ((lockF ls).length : Int) = 0) : acc = vic ws := vicr_fin h (len0 hl)
theorem vs_no {ws : List Row} (h : ¬ WV ws) : vic ws = [] := vic_nil (lock_no h)
theorem vs_len {ws ls acc : List Row} (h : VicR ws ls acc) : acc.length + ls.length ≤ ws.length := h.l
theorem lock_big (ws : List Row) : ((lockF ws).length : Int) < 9223372036854775808 := by have := lock_len ws; omega
noncomputable def cVic : Ct := ⟨[], fun ds K => match ds with
  | [.view ks ws] => ks = KWait ∧ ws.length ≤ 1048576 ∧ K (.fr 3 KInt (vic ws)) []
  | _ => False⟩
end Go.Proofs.YtbppiknmlipmpaaDoor.V
