/-
  Waits: what the program's functions return.
-/
import Derived.Test.YtbppiknmlipmpaaDoorWs
set_option linter.unusedSimpArgs false
set_option linter.unusedVariables false
namespace Go.Proofs.YtbppiknmlipmpaaDoor.V
open Go Go.RowKit
open Classical

structure RchA (ws ar : List Row) : Prop where
  l : ar.length = 8
  m : WV ws → Msk ar (Rch ws)
theorem rcha_no {ws ar : List Row} (h : ar.length = 8) (hn : ¬ WV ws) : RchA ws ar := ⟨h, fun q => absurd q hn⟩
theorem rcha_z {ws : List Row} (hn : ¬ WV ws) : RchA ws (List.replicate 8 (zeroRow [.int .u8])) := rcha_no (by simp) hn
theorem rcha_yes {ws ar : List Row} {k : Int} (h : Msk ar (PathK ws k.toNat)) (hv : WV ws) (hk : ¬ k < 8) (h8 : k ≤ 8) : RchA ws ar := ⟨h.l, fun _ => msk_fin h hk h8 hv⟩
theorem wv_badW {ws : List Row} {i : Int} (_ : WaitsN ws i) (h : ¬ WaitOk (row ws i.toNat)) (h0 : 0 ≤ i) (hi : i < ws.length) : ¬ WV ws := wv_bad h0 hi h
theorem msk_l8 {ar : List Row} {B : Int → Int → Prop} (h : Msk ar B) : ar.length = 8 := h.l
theorem wa_h {ws : List Row} {i : Int} (_ : WaitsN ws i) : True := trivial
noncomputable def cReach : Ct := ⟨[], fun ds K => match ds with
  | [.view ks ws] => ks = KWait ∧ (ws.length : Int) < big ∧ ∀ ar : List Row, RchA ws ar → K (.tup [.arr [.int .u8] ar, .bool (decide (WV ws))]) []
  | _ => False⟩
/-- The orders of regions that draw. -/
def trReach : Nat → Option (Bool × Tr)
  | 9 => some (false, .take 0 (.take 4 (.all (.cons 1 (.take 2 (.all (.cons 3 (.all (.cons 5 (.take 6 (.take 7 (.take 8 (.all (.cons 9 .done .nil))))) .nil)) (.cons 5 (.take 6 (.all (.cons 3 (.take 7 (.take 8 (.all (.cons 9 .done .nil)))) .nil))) .nil)))) (.cons 5 (.take 6 (.all (.cons 1 (.take 2 (.all (.cons 3 (.take 7 (.take 8 (.all (.cons 9 .done .nil)))) .nil))) .nil))) .nil)))))
  | 18 => some (false, .take 0 (.take 1 (.take 3 (.take 4 (.all (.cons 2 (.all (.cons 5 (.take 6 (.take 7 (.all (.cons 8 .done .nil)))) .nil)) (.cons 5 (.all (.cons 2 (.take 6 (.take 7 (.all (.cons 8 .done .nil)))) .nil)) .nil)))))))
  | _ => none
set_option maxRecDepth 100000 in
set_option maxHeartbeats 16000000 in
theorem p_reach : Proved 34 cReach := by
  refine proved_tr trReach [] trivial [.cell 2 56, .tmp 3] Tryd.func34 rfl rfl rfl rfl (by kernel_rfl) ?_
  intro ds K hrel
  simp only [cReach] at hrel
  split at hrel
  case h_2 => exact hrel.elim
  rename_i ks ws
  obtain ⟨rfl, h1, hrel⟩ := hrel
  refine ⟨rfl, Nat.le_of_ble_eq_true rfl, fun k σ => match k with
    | 5 => some { α := Lv 5 (List Row × Int), R := fun ⟨(ar, i)⟩ => (0 ≤ i ∧ i ≤ ws.length ∧ (ws.length : Int) ≤ 28 ∧ 8 ≤ (ar.length : Int) ∧ (ar.length : Int) ≤ 8) ∧ Msk ar (EdgeN ws i.toNat) ∧ WaitsN ws i, μ := fun ⟨(_, i)⟩ => (ws.length - i).toNat, st := fun ⟨(ar, i)⟩ => upH σ [(15, .int .i64 i)] 1 (.arr [.int .u8] ar) }
    | 12 => some { α := Lv 12 (List Row × Int), R := fun ⟨(ar, k)⟩ => (0 ≤ k ∧ k ≤ 8 ∧ 8 ≤ (ar.length : Int) ∧ (ar.length : Int) ≤ 8) ∧ Msk ar (PathK ws k.toNat) ∧ WV ws, μ := fun ⟨(_, k)⟩ => (8 - k).toNat, st := fun ⟨(ar, k)⟩ => upH σ [(48, .int .i64 k)] 1 (.arr [.int .u8] ar) }
    | 15 => match lookT σ.tm 48 with
      | .int _ k => some { α := Lv 15 (List Row × Int), R := fun ⟨(ar, i)⟩ => (0 ≤ i ∧ i ≤ 8 ∧ 8 ≤ (ar.length : Int) ∧ (ar.length : Int) ≤ 8) ∧ Msk ar (MidK ws k.toNat i.toNat), μ := fun ⟨(_, i)⟩ => (8 - i).toNat, st := fun ⟨(ar, i)⟩ => upH σ [(51, .int .i64 i)] 1 (.arr [.int .u8] ar) }
      | _ => none
    | _ => none, ?_⟩
  repeat' (first | with_reducible refine And.intro ?_ ?_ | (with_reducible intro h; first | (exact absurd h (by decide)) | (guard_hyp h : true = true; clear h) | (guard_hyp h : false = false; clear h) | (have hq := (h : Lv 5 _); clear hq; obtain ⟨_, _⟩ := h) | (have hq := (h : Lv 12 _); clear hq; obtain ⟨_, _⟩ := h) | (have hq := (h : Lv 15 _); clear hq; obtain ⟨_, _⟩ := h) | skip) | with_reducible exact True.intro | ((with_reducible refine (id ?_ : @Eq Bool (nodupN _) true)); kernel_rfl) | ((with_reducible refine (id ?_ : @Eq Bool (apartN _ _) true)); kernel_rfl) | ((with_reducible refine (id ?_ : @Eq Bool (formL _ _) true)); kernel_rfl) | ((with_reducible refine (id ?_ : @Eq _ _ _)); exact rfl) | ((conv => whnf); first | done | with_reducible refine And.intro ?_ ?_ | (with_reducible intro h; first | (exact absurd h (by decide)) | (guard_hyp h : true = true; clear h) | (guard_hyp h : false = false; clear h) | (have hq := (h : Lv 5 _); clear hq; obtain ⟨_, _⟩ := h) | (have hq := (h : Lv 12 _); clear hq; obtain ⟨_, _⟩ := h) | (have hq := (h : Lv 15 _); clear hq; obtain ⟨_, _⟩ := h) | skip) | with_reducible exact True.intro | ((with_reducible refine (id ?_ : @Eq _ _ _)); exact rfl) | (refine Exists.intro _ (Exists.intro _ (And.intro (hrel ?_ ?_) ?_))) | refine Exists.intro (⟨(?_, ?_)⟩ : Lv 5 _) ?_ | refine Exists.intro (⟨(?_, ?_)⟩ : Lv 12 _) ?_ | refine Exists.intro (⟨(?_, ?_)⟩ : Lv 15 _) ?_ | refine Exists.intro _ (Exists.intro _ (And.intro hrel ?_)) | exact Or.inl rfl | exact Or.inr (And.intro rfl rfl) | (apply Exists.intro; refine And.intro ?_ ?_)) | exact Nat.le_of_ble_eq_true rfl)
  all_goals (try ((try (change _ = _)) <;> (try dsimp only at *) <;> (try simp only [decide_eq_true_eq, decide_eq_false_iff_not, Bool.not_eq_true', Bool.not_eq_false', Bool.and_eq_true, Bool.and_eq_false_iff, beq_iff_eq, bne_iff_ne, beq_eq_false_iff_ne, bne_eq_false_iff_eq, ne_eq, Decidable.not_not, bne_self_eq_false, Bool.false_eq_true, Bool.true_eq_false, Bool.not_true, Bool.not_false, not_true_eq_false, not_false_eq_true, Int.toNat_natCast, Nat.zero_add, Nat.reduceAdd, Nat.reduceMul, Nat.reduceDiv, Nat.mul_one, lenK_one, big, fill_len, marking_len, marks_len, nrms_len, List.length_set, List.length_append, List.length_map, List.length_replicate, List.length_cons, List.length_nil, Int.natCast_add, Int.natCast_one, Int.natCast_zero, Int.toNat_zero] at *) <;> (repeat (with_reducible rename _ ∧ _ => hh; obtain ⟨_, _⟩ := hh)) <;> (first | omega | (refine fits_i64 ?_; omega) | (split <;> omega) | (with_reducible assumption) | exact msk_zero _ | exact waits_zero _ | exact waits_step (by with_reducible assumption) (wait_yes (by omega)) | exact msk_edge (by with_reducible assumption) (by omega) (wait_yes (by omega)) | exact msk_begin (by with_reducible assumption) (by omega) (by omega) | exact wv_all (by with_reducible assumption) (by omega) (by omega) | exact msk_in (by with_reducible assumption) | exact msk_out (by with_reducible assumption) (by omega) (by omega) | exact msk_no (by with_reducible assumption) (by with_reducible assumption) (by omega) (by omega) | exact msk_yes (by with_reducible assumption) (by with_reducible assumption) (by omega) (by omega) | exact rcha_yes (by with_reducible assumption) (by with_reducible assumption) (by omega) (by omega) | exact rcha_z (wv_long (by omega)) | exact rcha_z (wv_badW (by with_reducible assumption) (wait_no (by omega)) (by omega) (by omega)) | exact false_eq (wv_long (by omega)) | exact false_eq (wv_badW (by with_reducible assumption) (wait_no (by omega)) (by omega) (by omega)) | exact true_eq (by with_reducible assumption) | (have hl := msk_l8 (by with_reducible assumption); omega) | (show (8 : Nat) = _; have hl := msk_l8 (by with_reducible assumption); omega))))
theorem ra_m {ws ar : List Row} (h : RchA ws ar) (hv : WV ws) : Msk ar (Rch ws) := h.m hv
theorem ra_l {ws ar : List Row} (h : RchA ws ar) : ar.length = 8 := h.l
theorem wi_yes {ws ar : List Row} {who n : Int} (h : Msk ar (Rch ws)) (hb : bitop .and .u8 (shrop .u8 (rc (row ar who.toNat) 0).int n) 1 = 1) (hw : 0 ≤ who ∧ who ≤ 7) (hn : 0 ≤ n ∧ n ≤ 7) : ascL (Rch ws who) n.toNat ++ [[Sc.i n]] = ascL (Rch ws who) (n + 1).toNat := ascL_yes ((msk_bit h hw hn).1 hb) hn.1
theorem wi_no {ws ar : List Row} {who n : Int} (h : Msk ar (Rch ws)) (hb : ¬ bitop .and .u8 (shrop .u8 (rc (row ar who.toNat) 0).int n) 1 = 1) (hw : 0 ≤ who ∧ who ≤ 7) (hn : 0 ≤ n ∧ n ≤ 7) : ascL (Rch ws who) n.toNat = ascL (Rch ws who) (n + 1).toNat := ascL_no (fun q => hb ((msk_bit h hw hn).2 q)) hn.1
theorem li_yes {ws ar : List Row} {n : Int} (h : Msk ar (Rch ws)) (hb : bitop .and .u8 (shrop .u8 (rc (row ar n.toNat) 0).int n) 1 = 1) (hn : 0 ≤ n ∧ n ≤ 7) : ascL (fun v => Rch ws v v) n.toNat ++ [[Sc.i n]] = ascL (fun v => Rch ws v v) (n + 1).toNat := ascL_yes (P := fun v => Rch ws v v) ((msk_bit h hn hn).1 hb) hn.1
theorem li_no {ws ar : List Row} {n : Int} (h : Msk ar (Rch ws)) (hb : ¬ bitop .and .u8 (shrop .u8 (rc (row ar n.toNat) 0).int n) 1 = 1) (hn : 0 ≤ n ∧ n ≤ 7) : ascL (fun v => Rch ws v v) n.toNat = ascL (fun v => Rch ws v v) (n + 1).toNat := ascL_no (P := fun v => Rch ws v v) (fun q => hb ((msk_bit h hn hn).2 q)) hn.1
set_option maxRecDepth 100000 in
set_option maxHeartbeats 8000000 in
theorem p_iLF : Proved 15 cLF := by
  refine proved_of [(34, cReach)] ⟨p_reach, trivial⟩ [.tmp 2] Tryd.func15 rfl rfl rfl rfl (by kernel_rfl) ?_
  intro ds K hrel
  simp only [cLF] at hrel
  split at hrel
  case h_2 => exact hrel.elim
  rename_i ks ws
  obtain ⟨rfl, h1, hrel⟩ := hrel
  refine ⟨rfl, Nat.le_of_ble_eq_true rfl, fun k σ => match lookH σ.hp 0 with
    | some (.arr _ ar) => match k with
      | 6 => some { α := Lv 6 Int, R := fun ⟨n⟩ => (0 ≤ n ∧ n ≤ 8 ∧ 8 ≤ (ar.length : Int) ∧ (ar.length : Int) ≤ 8) ∧ Msk ar (Rch ws) ∧ WV ws, μ := fun ⟨n⟩ => (8 - n).toNat, st := fun ⟨n⟩ => upN σ [(14, .int .i64 n), (5, .own 1)] 1 (.rows 3 KInt (ascL (fun v => Rch ws v v) n.toNat)) }
      | _ => none
    | _ => none, ?_⟩
  repeat' (first | with_reducible refine And.intro ?_ ?_ | (with_reducible intro h; first | (exact absurd h (by decide)) | (guard_hyp h : true = true; clear h) | (guard_hyp h : false = false; clear h) | (have hq := (h : Lv 6 _); clear hq; obtain ⟨_⟩ := h) | skip) | with_reducible exact True.intro | ((with_reducible refine (id ?_ : @Eq Bool (nodupN _) true)); kernel_rfl) | ((with_reducible refine (id ?_ : @Eq Bool (apartN _ _) true)); kernel_rfl) | ((with_reducible refine (id ?_ : @Eq Bool (formL _ _) true)); kernel_rfl) | ((with_reducible refine (id ?_ : @Eq _ _ _)); exact rfl) | ((conv => whnf); first | done | with_reducible refine And.intro ?_ ?_ | (with_reducible intro h; first | (exact absurd h (by decide)) | (guard_hyp h : true = true; clear h) | (guard_hyp h : false = false; clear h) | (have hq := (h : Lv 6 _); clear hq; obtain ⟨_⟩ := h) | skip) | with_reducible exact True.intro | ((with_reducible refine (id ?_ : @Eq _ _ _)); exact rfl) | refine Exists.intro (⟨?_⟩ : Lv 6 _) ?_ | refine Exists.intro _ (Exists.intro _ (And.intro hrel ?_)) | exact Or.inl rfl | exact Or.inr (And.intro rfl rfl) | (apply Exists.intro; refine And.intro ?_ ?_)) | exact Nat.le_of_ble_eq_true rfl)
  all_goals (try ((try (change _ = _)) <;> (try dsimp only at *) <;> (try simp only [decide_eq_true_eq, decide_eq_false_iff_not, Bool.not_eq_true', Bool.not_eq_false', Bool.and_eq_true, Bool.and_eq_false_iff, beq_iff_eq, bne_iff_ne, beq_eq_false_iff_ne, bne_eq_false_iff_eq, ne_eq, Decidable.not_not, bne_self_eq_false, Bool.false_eq_true, Bool.true_eq_false, Bool.not_true, Bool.not_false, not_true_eq_false, not_false_eq_true, Int.toNat_natCast, Nat.zero_add, Nat.reduceAdd, Nat.reduceMul, Nat.reduceDiv, Nat.mul_one, lenK_one, big, fill_len, marking_len, marks_len, nrms_len, List.length_set, List.length_append, List.length_map, List.length_replicate, List.length_cons, List.length_nil, Int.natCast_add, Int.natCast_one, Int.natCast_zero] at *) <;> (repeat (with_reducible rename _ ∧ _ => hh; obtain ⟨_, _⟩ := hh)) <;> (first | omega | (refine fits_i64 ?_; omega) | (split <;> omega) | (with_reducible assumption) | (with_reducible exact ascL_zero' _) | (with_reducible exact (ascL_zero' _).symm) | exact ra_m (by with_reducible assumption) (by with_reducible assumption) | (have hl := ra_l (by with_reducible assumption); omega) | (show (8 : Nat) = _; have hl := ra_l (by with_reducible assumption); omega) | (with_reducible exact asc_bnd _ (by omega) (by omega)) | (exact li_yes (by with_reducible assumption) (by with_reducible assumption) (by omega)) | (exact (li_yes (by with_reducible assumption) (by with_reducible assumption) (by omega)).symm) | (exact li_no (by with_reducible assumption) (by with_reducible assumption) (by omega)) | exact lock_no (by with_reducible assumption) | exact lock_isI (by with_reducible assumption) (by omega) (by omega))))
theorem vs_len9 {ws ls acc : List Row} {i : Int} (h : VicR ws ls acc) (hl : ¬ ((lockF ls).length : Int) = 0) (hi : ¬ i < ls.length) : acc.length + 1 + (woI ls (rc (row (lockF ls) (((lockF ls).length : Int) - 1).toNat) 0).int i.toNat).length ≤ ws.length := by
  have := vs_len (vs_step h hl)
  rw [List.length_append] at this
  simp only [List.length_cons, List.length_nil] at this
  rw [wo_all hi]; omega
end Go.Proofs.YtbppiknmlipmpaaDoor.V
