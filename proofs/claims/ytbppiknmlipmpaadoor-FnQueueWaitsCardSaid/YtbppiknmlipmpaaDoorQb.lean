/-
  Queues of requests: who waits for whom.
-/
import Derived.Test.YtbppiknmlipmpaaDoorQa
set_option linter.unusedSimpArgs false
set_option linter.unusedVariables false
namespace Go.Proofs.YtbppiknmlipmpaaDoor.V
open Go Go.RowKit
open Classical

/-- Request i waits for request k, from the g-th on. -/
def Qw (rs : List Row) (g : Int) (i k : Nat) : Prop := g ≤ k ∨ togB (rc (row rs i) 1).int (rc (row rs k) 1).int = false
def qwE (rs : List Row) (i k : Nat) : Row := [Sc.i (rc (row rs i) 0).int, Sc.i (rc (row rs k) 0).int]
noncomputable def qwK (rs : List Row) (g : Int) (i : Nat) : Nat → List Row
  | 0 => []
  | k + 1 => if Qw rs g i k then qwK rs g i k ++ [qwE rs i k] else qwK rs g i k
noncomputable def qwN0 (rs : List Row) (g : Int) : Nat → List Row
  | 0 => []
  | i + 1 => if g ≤ i then qwN0 rs g i ++ qwK rs g i i else []
@[irreducible] noncomputable def qwN (rs : List Row) (g : Int) (i : Nat) : List Row := qwN0 rs g i
@[irreducible] noncomputable def qwA (rs : List Row) (g : Int) (i k : Nat) : List Row := qwN0 rs g i ++ qwK rs g i k
theorem qwN_start (rs : List Row) {g : Int} (h : 0 ≤ g) : [] = qwN rs g g.toNat := by
  unfold qwN
  obtain ⟨n, rfl⟩ := Int.eq_ofNat_of_zero_le h
  cases n with
  | zero => rfl
  | succ n => rw [Int.toNat_natCast, qwN0, if_neg (by omega)]
theorem qwA_zero (rs : List Row) (g : Int) (i : Nat) : qwN rs g i = qwA rs g i (Int.toNat 0) := by unfold qwN qwA; simp [qwK]
theorem qwA_yes {rs : List Row} {g i k : Int} (h : Qw rs g i.toNat k.toNat) (h0 : 0 ≤ k) : qwA rs g i.toNat k.toNat ++ [[Sc.i (rc (row rs i.toNat) 0).int, Sc.i (rc (row rs k.toNat) 0).int]] = qwA rs g i.toNat (k + 1).toNat := by
  unfold qwA
  rw [show (k + 1).toNat = k.toNat + 1 by omega, qwK, if_pos h, List.append_assoc]; rfl
theorem qwA_no {rs : List Row} {g i k : Int} (h : ¬ Qw rs g i.toNat k.toNat) (h0 : 0 ≤ k) : qwA rs g i.toNat k.toNat = qwA rs g i.toNat (k + 1).toNat := by
  unfold qwA
  rw [show (k + 1).toNat = k.toNat + 1 by omega, qwK, if_neg h]
theorem qw_1 {rs : List Row} {g i k : Int} (h : g ≤ k) (h0 : 0 ≤ k) : Qw rs g i.toNat k.toNat := .inl (by omega)
theorem qw_2 {rs : List Row} {g i k : Int} (h : togB (rc (row rs i.toNat) 1).int (rc (row rs k.toNat) 1).int = false) : Qw rs g i.toNat k.toNat := .inr h
theorem qw_3 {rs : List Row} {g i k : Int} (h : togB (rc (row rs k.toNat) 1).int (rc (row rs i.toNat) 1).int = false) : Qw rs g i.toNat k.toNat := .inr (by rw [togB_sym]; exact h)
theorem qw_n2 {rs : List Row} {g i k : Int} (h : ¬ g ≤ k) (h0 : 0 ≤ k) (h2 : togB (rc (row rs i.toNat) 1).int (rc (row rs k.toNat) 1).int = true) : ¬ Qw rs g i.toNat k.toNat := fun q => q.elim (fun q => h (by omega)) (fun q => by rw [h2] at q; cases q)
theorem qw_n3 {rs : List Row} {g i k : Int} (h : ¬ g ≤ k) (h0 : 0 ≤ k) (h2 : togB (rc (row rs k.toNat) 1).int (rc (row rs i.toNat) 1).int = true) : ¬ Qw rs g i.toNat k.toNat := qw_n2 h h0 (by rw [togB_sym]; exact h2)
theorem qwA_end {rs : List Row} {g i k : Int} (hk : ¬ k < i) (hi : k ≤ i) (hg : g ≤ i) (h0 : 0 ≤ i) : qwA rs g i.toNat k.toNat = qwN rs g (i + 1).toNat := by
  unfold qwN qwA
  rw [show (i + 1).toNat = i.toNat + 1 by omega, qwN0, if_pos (by omega), show k.toNat = i.toNat by omega]
theorem qwK_len (rs : List Row) (g : Int) (i : Nat) : ∀ k, (qwK rs g i k).length ≤ k
  | 0 => Nat.zero_le _
  | k + 1 => by
    have := qwK_len rs g i k
    rw [qwK]; split
    · simp; omega
    · omega
theorem qwN0_len (rs : List Row) (g : Int) : ∀ i, i ≤ 9 → (qwN0 rs g i).length ≤ 8 * i
  | 0, _ => Nat.zero_le _
  | i + 1, h => by
    have := qwN0_len rs g i (by omega)
    have := qwK_len rs g i i
    rw [qwN0]; split
    · rw [List.length_append]; omega
    · simp
theorem qwA_bnd (rs : List Row) (g : Int) {i k : Int} (hi : i ≤ 8) (hk : k ≤ i) : ((qwA rs g i.toNat k.toNat).length + 1) * 16 ≤ 140737488355328 := by
  unfold qwA
  have := qwN0_len rs g i.toNat (by omega)
  have := qwK_len rs g i.toNat k.toNat
  rw [List.length_append]; omega
noncomputable def qwV (rs : List Row) : List Row := if ReqV rs then qwN rs (grtV rs) rs.length else []
theorem qwV_no {rs : List Row} (h : ¬ ReqV rs) : qwV rs = [] := by rw [qwV, if_neg h]
theorem qwV_yes {rs : List Row} {i : Int} (h : ReqV rs) (hi : ¬ i < rs.length) (hl : i ≤ rs.length) : qwN rs (grtV rs) i.toNat = qwV rs := by rw [qwV, if_pos h, show i.toNat = rs.length by omega]
theorem grL_pos {rs : List Row} (h : ¬ grL rs < 0) : ReqV rs := by
  apply Classical.byContradiction
  intro q; rw [grL_no q] at h; omega
theorem grL_neg {rs : List Row} (h : grL rs < 0) : ¬ ReqV rs := fun q => by
  rw [grL_yes q] at h; have := grtV_r rs; omega
theorem qwV_noL {rs : List Row} (h : grL rs < 0) : qwV rs = [] := qwV_no (grL_neg h)
theorem qwV_yesL {rs : List Row} {i : Int} (h : ReqV rs) (hi : ¬ i < rs.length) (hl : i ≤ rs.length) : qwN rs (grL rs) i.toNat = qwV rs := by rw [grL_yes h]; exact qwV_yes h hi hl
theorem grL_r (rs : List Row) : -1 ≤ grL rs ∧ grL rs ≤ rs.length := by
  have := grtV_r rs
  unfold grL; split <;> omega
theorem rv_l {rs : List Row} (h : ReqV rs) : rs.length ≤ 8 := h.l
noncomputable def cQW : Ct := ⟨[], fun ds K => match ds with
  | [.view ks rs] => ks = KRequest ∧ rs.length ≤ 1048576 ∧ K (.fr 38 KWait (qwV rs)) []
  | _ => False⟩
/-- The orders of regions that draw. -/
def trSQW : Nat → Option (Bool × Tr)
  | 12 => some (false, .take 0 (.take 1 (.take 2 (.take 3 (.take 4 (.take 6 (.take 7 (.take 8 (.take 9 (.all (.cons 5 (.all (.cons 10 (.take 11 (.all (.cons 12 (.all (.cons 13 (.take 14 .done) .nil)) .nil))) .nil)) (.cons 10 (.all (.cons 5 (.take 11 (.all (.cons 12 (.all (.cons 13 (.take 14 .done) .nil)) .nil))) .nil)) .nil))))))))))))
  | _ => none
/-- The orders of regions that draw. -/
def trIQW : Nat → Option (Bool × Tr)
  | 12 => some (false, .take 0 (.take 1 (.take 2 (.take 3 (.take 4 (.take 6 (.take 7 (.take 8 (.take 9 (.all (.cons 5 (.all (.cons 10 (.take 11 (.all (.cons 12 (.all (.cons 13 (.take 14 .done) .nil)) .nil))) .nil)) (.cons 10 (.all (.cons 5 (.take 11 (.all (.cons 12 (.all (.cons 13 (.take 14 .done) .nil)) .nil))) .nil)) .nil))))))))))))
  | _ => none
set_option maxRecDepth 100000 in
set_option maxHeartbeats 16000000 in
theorem p_sQW : Proved 14 cQW := by
  refine proved_tr trSQW [(30, cRV), (32, cGrt), (33, cTogS)] ⟨p_validQueue, p_sGrt, p_togS, trivial⟩ [.tmp 2] Tryd.func14 rfl rfl rfl rfl (by kernel_rfl) ?_
  intro ds K hrel
  simp only [cQW] at hrel
  split at hrel
  case h_2 => exact hrel.elim
  rename_i ks rs
  obtain ⟨rfl, h1, hrel⟩ := hrel
  have hg := grtV_r rs
  refine ⟨rfl, Nat.le_of_ble_eq_true rfl, fun k σ => match k with
    | 6 => some { α := Lv 6 Int, R := fun ⟨i⟩ => (0 ≤ i ∧ grtV rs ≤ i ∧ i ≤ rs.length ∧ rs.length ≤ 8) ∧ ReqV rs, μ := fun ⟨i⟩ => (rs.length - i).toNat, st := fun ⟨i⟩ => upH σ [(5, .int .i64 i), (3, .own 0)] 0 (.rows 38 KWait (qwN rs (grtV rs) i.toNat)) }
    | 9 => match lookT σ.tm 5 with
      | .int _ i => some { α := Lv 9 Int, R := fun ⟨k⟩ => (0 ≤ k ∧ k ≤ i ∧ grtV rs ≤ i ∧ i < rs.length ∧ rs.length ≤ 8) ∧ ReqV rs, μ := fun ⟨k⟩ => (i - k).toNat, st := fun ⟨k⟩ => upH σ [(6, .int .i64 k), (3, .own 0)] 0 (.rows 38 KWait (qwA rs (grtV rs) i.toNat k.toNat)) }
      | _ => none
    | _ => none, ?_⟩
  repeat' (first | with_reducible refine And.intro ?_ ?_ | (with_reducible intro h; first | (exact absurd h (by decide)) | (guard_hyp h : true = true; clear h) | (guard_hyp h : false = false; clear h) | (have hq := (h : Lv 6 _); clear hq; obtain ⟨_⟩ := h) | (have hq := (h : Lv 9 _); clear hq; obtain ⟨_⟩ := h) | skip) | with_reducible exact True.intro | ((with_reducible refine (id ?_ : @Eq Bool (nodupN _) true)); kernel_rfl) | ((with_reducible refine (id ?_ : @Eq Bool (apartN _ _) true)); kernel_rfl) | ((with_reducible refine (id ?_ : @Eq Bool (formL _ _) true)); kernel_rfl) | ((with_reducible refine (id ?_ : @Eq _ _ _)); exact rfl) | ((conv => whnf); first | done | with_reducible refine And.intro ?_ ?_ | (with_reducible intro h; first | (exact absurd h (by decide)) | (guard_hyp h : true = true; clear h) | (guard_hyp h : false = false; clear h) | (have hq := (h : Lv 6 _); clear hq; obtain ⟨_⟩ := h) | (have hq := (h : Lv 9 _); clear hq; obtain ⟨_⟩ := h) | skip) | with_reducible exact True.intro | ((with_reducible refine (id ?_ : @Eq _ _ _)); exact rfl) | refine Exists.intro (⟨?_⟩ : Lv 6 _) ?_ | refine Exists.intro (⟨?_⟩ : Lv 9 _) ?_ | refine Exists.intro _ (Exists.intro _ (And.intro hrel ?_)) | exact Or.inl rfl | exact Or.inr (And.intro rfl rfl) | (apply Exists.intro; refine And.intro ?_ ?_)) | exact Nat.le_of_ble_eq_true rfl)
  all_goals (try ((try (change _ = _)) <;> (try dsimp only at *) <;> (try simp only [decide_eq_true_eq, decide_eq_false_iff_not, Bool.not_eq_true', Bool.not_eq_false', Bool.and_eq_true, Bool.and_eq_false_iff, beq_iff_eq, bne_iff_ne, beq_eq_false_iff_ne, bne_eq_false_iff_eq, ne_eq, Decidable.not_not, bne_self_eq_false, Bool.false_eq_true, Bool.true_eq_false, Bool.not_true, Bool.not_false, not_true_eq_false, not_false_eq_true, Int.toNat_natCast, Nat.zero_add, Nat.reduceAdd, Nat.reduceMul, Nat.reduceDiv, Nat.mul_one, lenK_one, big, fill_len, marking_len, marks_len, nrms_len, List.length_set, List.length_append, List.length_map, List.length_replicate, List.length_cons, List.length_nil, Int.natCast_add, Int.natCast_one, Int.natCast_zero] at *) <;> (repeat (with_reducible rename _ ∧ _ => hh; obtain ⟨_, _⟩ := hh)) <;> (first | omega | (refine fits_i64 ?_; omega) | (split <;> omega) | (with_reducible assumption) | (with_reducible exact qwN_start _ (by omega)) | (with_reducible exact (qwN_start _ (by omega)).symm) | (with_reducible exact qwA_zero _ _ _) | (with_reducible exact (qwA_zero _ _ _).symm) | (with_reducible exact qwA_yes (qw_1 (by omega) (by omega)) (by omega)) | (with_reducible exact (qwA_yes (qw_1 (by omega) (by omega)) (by omega)).symm) | (with_reducible exact qwA_yes (qw_2 (by with_reducible assumption)) (by omega)) | (with_reducible exact (qwA_yes (qw_2 (by with_reducible assumption)) (by omega)).symm) | (with_reducible exact qwA_yes (qw_3 (by with_reducible assumption)) (by omega)) | (with_reducible exact (qwA_yes (qw_3 (by with_reducible assumption)) (by omega)).symm) | (with_reducible exact qwA_no (qw_n2 (by omega) (by omega) (by with_reducible assumption)) (by omega)) | (with_reducible exact qwA_no (qw_n3 (by omega) (by omega) (by with_reducible assumption)) (by omega)) | (with_reducible exact qwA_end (by omega) (by omega) (by omega) (by omega)) | (with_reducible exact qwA_bnd _ _ (by omega) (by omega)) | (with_reducible exact qwV_no (by with_reducible assumption)) | (with_reducible exact qwV_yes (by with_reducible assumption) (by omega) (by omega)) | (with_reducible exact qwV_noL (by omega)) | (with_reducible exact qwV_yesL (by with_reducible assumption) (by omega) (by omega)) | (with_reducible exact grL_pos (by omega)) | (have q := rv_l (by with_reducible assumption); omega) | (have q := rv_l (grL_pos (by omega)); omega) | exact (rv_mo (by with_reducible assumption) (by omega) (by omega)).1 | exact (rv_mo (by with_reducible assumption) (by omega) (by omega)).2 | exact rv_mo (by with_reducible assumption) (by omega) (by omega))))
set_option maxRecDepth 100000 in
set_option maxHeartbeats 16000000 in
theorem p_iQW : Proved 12 cQW := by
  refine proved_tr trIQW [(10, cGrL), (31, cTog)] ⟨p_iGrt, p_tog, trivial⟩ [.tmp 2] Tryd.func12 rfl rfl rfl rfl (by kernel_rfl) ?_
  intro ds K hrel
  simp only [cQW] at hrel
  split at hrel
  case h_2 => exact hrel.elim
  rename_i ks rs
  obtain ⟨rfl, h1, hrel⟩ := hrel
  have hg := grL_r rs
  refine ⟨rfl, Nat.le_of_ble_eq_true rfl, fun k σ => match k with
    | 6 => some { α := Lv 6 Int, R := fun ⟨i⟩ => (0 ≤ i ∧ grL rs ≤ i ∧ i ≤ rs.length ∧ rs.length ≤ 8) ∧ ReqV rs, μ := fun ⟨i⟩ => (rs.length - i).toNat, st := fun ⟨i⟩ => upN σ [(5, .int .i64 i), (4, .own 0)] 0 (.rows 38 KWait (qwN rs (grL rs) i.toNat)) }
    | 9 => match lookT σ.tm 5 with
      | .int _ i => some { α := Lv 9 Int, R := fun ⟨k⟩ => (0 ≤ k ∧ k ≤ i ∧ grL rs ≤ i ∧ i < rs.length ∧ rs.length ≤ 8) ∧ ReqV rs, μ := fun ⟨k⟩ => (i - k).toNat, st := fun ⟨k⟩ => upN σ [(6, .int .i64 k), (4, .own 0)] 0 (.rows 38 KWait (qwA rs (grL rs) i.toNat k.toNat)) }
      | _ => none
    | _ => none, ?_⟩
  repeat' (first | with_reducible refine And.intro ?_ ?_ | (with_reducible intro h; first | (exact absurd h (by decide)) | (guard_hyp h : true = true; clear h) | (guard_hyp h : false = false; clear h) | (have hq := (h : Lv 6 _); clear hq; obtain ⟨_⟩ := h) | (have hq := (h : Lv 9 _); clear hq; obtain ⟨_⟩ := h) | skip) | with_reducible exact True.intro | ((with_reducible refine (id ?_ : @Eq Bool (nodupN _) true)); kernel_rfl) | ((with_reducible refine (id ?_ : @Eq Bool (apartN _ _) true)); kernel_rfl) | ((with_reducible refine (id ?_ : @Eq Bool (formL _ _) true)); kernel_rfl) | ((with_reducible refine (id ?_ : @Eq _ _ _)); exact rfl) | ((conv => whnf); first | done | with_reducible refine And.intro ?_ ?_ | (with_reducible intro h; first | (exact absurd h (by decide)) | (guard_hyp h : true = true; clear h) | (guard_hyp h : false = false; clear h) | (have hq := (h : Lv 6 _); clear hq; obtain ⟨_⟩ := h) | (have hq := (h : Lv 9 _); clear hq; obtain ⟨_⟩ := h) | skip) | with_reducible exact True.intro | ((with_reducible refine (id ?_ : @Eq _ _ _)); exact rfl) | refine Exists.intro (⟨?_⟩ : Lv 6 _) ?_ | refine Exists.intro (⟨?_⟩ : Lv 9 _) ?_ | refine Exists.intro _ (Exists.intro _ (And.intro hrel ?_)) | exact Or.inl rfl | exact Or.inr (And.intro rfl rfl) | (apply Exists.intro; refine And.intro ?_ ?_)) | exact Nat.le_of_ble_eq_true rfl)
  all_goals (try ((try (change _ = _)) <;> (try dsimp only at *) <;> (try simp only [decide_eq_true_eq, decide_eq_false_iff_not, Bool.not_eq_true', Bool.not_eq_false', Bool.and_eq_true, Bool.and_eq_false_iff, beq_iff_eq, bne_iff_ne, beq_eq_false_iff_ne, bne_eq_false_iff_eq, ne_eq, Decidable.not_not, bne_self_eq_false, Bool.false_eq_true, Bool.true_eq_false, Bool.not_true, Bool.not_false, not_true_eq_false, not_false_eq_true, Int.toNat_natCast, Nat.zero_add, Nat.reduceAdd, Nat.reduceMul, Nat.reduceDiv, Nat.mul_one, lenK_one, big, fill_len, marking_len, marks_len, nrms_len, List.length_set, List.length_append, List.length_map, List.length_replicate, List.length_cons, List.length_nil, Int.natCast_add, Int.natCast_one, Int.natCast_zero] at *) <;> (repeat (with_reducible rename _ ∧ _ => hh; obtain ⟨_, _⟩ := hh)) <;> (first | omega | (refine fits_i64 ?_; omega) | (split <;> omega) | (with_reducible assumption) | (with_reducible exact qwN_start _ (by omega)) | (with_reducible exact (qwN_start _ (by omega)).symm) | (with_reducible exact qwA_zero _ _ _) | (with_reducible exact (qwA_zero _ _ _).symm) | (with_reducible exact qwA_yes (qw_1 (by omega) (by omega)) (by omega)) | (with_reducible exact (qwA_yes (qw_1 (by omega) (by omega)) (by omega)).symm) | (with_reducible exact qwA_yes (qw_2 (by with_reducible assumption)) (by omega)) | (with_reducible exact (qwA_yes (qw_2 (by with_reducible assumption)) (by omega)).symm) | (with_reducible exact qwA_yes (qw_3 (by with_reducible assumption)) (by omega)) | (with_reducible exact (qwA_yes (qw_3 (by with_reducible assumption)) (by omega)).symm) | (with_reducible exact qwA_no (qw_n2 (by omega) (by omega) (by with_reducible assumption)) (by omega)) | (with_reducible exact qwA_no (qw_n3 (by omega) (by omega) (by with_reducible assumption)) (by omega)) | (with_reducible exact qwA_end (by omega) (by omega) (by omega) (by omega)) | (with_reducible exact qwA_bnd _ _ (by omega) (by omega)) | (with_reducible exact qwV_no (by with_reducible assumption)) | (with_reducible exact qwV_yes (by with_reducible assumption) (by omega) (by omega)) | (with_reducible exact qwV_noL (by omega)) | (with_reducible exact qwV_yesL (by with_reducible assumption) (by omega) (by omega)) | (with_reducible exact grL_pos (by omega)) | (have q := rv_l (by with_reducible assumption); omega) | (have q := rv_l (grL_pos (by omega)); omega) | exact (rv_mo (by with_reducible assumption) (by omega) (by omega)).1 | exact (rv_mo (by with_reducible assumption) (by omega) (by omega)).2 | exact rv_mo (by with_reducible assumption) (by omega) (by omega))))
theorem qwK_nrm (rs : List Row) (g : Int) (i : Nat) : ∀ k, nrms KWait (qwK rs g i k) = qwK rs g i k
  | 0 => rfl
  | k + 1 => by
    rw [qwK]; split
    · rw [nrms_append, qwK_nrm rs g i k]; rfl
    · exact qwK_nrm rs g i k
theorem qwN0_nrm (rs : List Row) (g : Int) : ∀ i, nrms KWait (qwN0 rs g i) = qwN0 rs g i
  | 0 => rfl
  | i + 1 => by
    rw [qwN0]; split
    · rw [nrms_append, qwN0_nrm rs g i, qwK_nrm]
    · rfl
theorem qwV_nrm (rs : List Row) : nrms KWait (qwV rs) = qwV rs := by
  unfold qwV qwN; split
  · exact qwN0_nrm _ _ _
  · rfl
theorem qwV_len (rs : List Row) : (qwV rs).length ≤ 100 := by
  unfold qwV qwN; split
  · rename_i h
    have := qwN0_len rs (grtV rs) rs.length (by have := h.l; omega)
    have := h.l; omega
  · exact Nat.zero_le _
end Go.Proofs.YtbppiknmlipmpaaDoor.V
