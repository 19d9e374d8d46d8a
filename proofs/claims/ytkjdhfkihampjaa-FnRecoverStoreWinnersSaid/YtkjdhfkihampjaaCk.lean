/-
  Checkpoints: what the program's function makes.
-/
import Derived.Test.YtkjdhfkihampjaaOo
import Derived.Test.YtkjdhfkihampjaaCd
set_option linter.unusedSimpArgs false
set_option linter.unusedVariables false
namespace Go.Proofs.Ytkjdhfkihampjaa.V
open Go Go.RowKit
open Classical

/-- What a checkpoint tells of the first m things: as many first notes as dirty things, all in range, and none that has to be repeated is before them. -/
structure Chk (c es a b : List Row) (m : Int) : Prop where
  l1 : a.length = b.length
  l6 : (b.length : Int) ≤ m
  r : AllIn b 1 20 b.length
  cv : ∀ j : Nat, j < es.length → (rc (row es j) 0).bool = false → (rc (row es j) 2).int < m → (rc (row c (rc (row es j) 2).int.toNat) 1).int < (j : Int) + 1 → ∃ i : Nat, i < b.length ∧ (rc (row b i) 0).int ≤ (j : Int) + 1
theorem chk_zero {c es : List Row} (h : Usable c es) : Chk c es [] [] 0 := ⟨rfl, by simp, ⟨fun j hj => by simp at hj; omega⟩, fun j hj _ h2 => by have := (h.no.h j (by omega)).t0; omega⟩
/-- None of the first j notes has to be repeated on thing t. -/
structure NoRd (c es : List Row) (t j : Int) : Prop where
  h : ∀ k : Nat, (k : Int) < j → ¬ ((rc (row es k) 0).bool = false ∧ (rc (row es k) 2).int = t ∧ (rc (row c t.toNat) 1).int < (k : Int) + 1)
theorem noRd_zero (c es : List Row) (t : Int) : NoRd c es t 0 := ⟨fun k h => by omega⟩
theorem noRd_step {c es : List Row} {t j : Int} (h : NoRd c es t j) (h0 : 0 ≤ j) (h1 : ¬ ((rc (row es j.toNat) 0).bool = false ∧ (rc (row es j.toNat) 2).int = t ∧ (rc (row c t.toNat) 1).int < j + 1)) : NoRd c es t (j + 1) := ⟨fun k hk => by
  by_cases e : (k : Int) = j
  · rw [← e] at h1; simpa using h1
  · exact h.h k (by omega)⟩
theorem noRd_1 {c es : List Row} {t j : Int} (h : NoRd c es t j) (h0 : 0 ≤ j) (h1 : (rc (row es j.toNat) 0).bool = true) : NoRd c es t (j + 1) := noRd_step h h0 (fun q => by rw [h1] at q; cases q.1)
theorem noRd_2 {c es : List Row} {t j : Int} (h : NoRd c es t j) (h0 : 0 ≤ j) (h1 : ¬ (rc (row es j.toNat) 2).int = t) : NoRd c es t (j + 1) := noRd_step h h0 (fun q => h1 q.2.1)
theorem noRd_3 {c es : List Row} {t j : Int} (h : NoRd c es t j) (h0 : 0 ≤ j) (h1 : ¬ (rc (row c t.toNat) 1).int < j + 1) : NoRd c es t (j + 1) := noRd_step h h0 (fun q => h1 q.2.2)
theorem chk_miss {c es a b : List Row} {t j : Int} (h : Chk c es a b t) (hn : NoRd c es t j) (hj : ¬ j < es.length) : Chk c es a b (t + 1) := ⟨h.l1, by have := h.l6; omega, h.r, fun k hk hE ht hl => by
  by_cases e : (rc (row es k) 2).int = t
  · exact absurd ⟨hE, e, by rw [← e]; exact hl⟩ (hn.h k (by omega))
  · exact h.cv k hk hE (by omega) hl⟩
theorem chk_hit {c es a b : List Row} {t j : Int} (h : Chk c es a b t) (hn : NoRd c es t j) (h0 : 0 ≤ j) (hj : j < es.length) (h20 : es.length ≤ 20) : Chk c es (a ++ [[Sc.i t]]) (b ++ [[Sc.i (j + 1)]]) (t + 1) := by
  refine ⟨by simp [h.l1], by have := h.l6; simp; omega, ⟨fun k hk => ?_⟩, fun k hk hE ht hl => ?_⟩
  · rw [row_append]
    split
    · exact h.r.h k (by omega)
    · have e : k - b.length = 0 := by simp at hk; omega
      rw [e]
      show 1 ≤ j + 1 ∧ j + 1 ≤ 20
      omega
  · by_cases e : (rc (row es k) 2).int = t
    · refine ⟨b.length, by simp, ?_⟩
      rw [row_append, if_neg (by omega), Nat.sub_self]
      show j + 1 ≤ _
      have := hn.h k
      apply Classical.byContradiction
      intro q
      exact this (by omega) ⟨hE, e, by rw [← e]; exact hl⟩
    · obtain ⟨i, h1, h2⟩ := h.cv k hk hE (by omega) hl
      refine ⟨i, by simp; omega, ?_⟩
      rw [row_append, if_pos h1]; exact h2
structure ChkZ (c es a b d : List Row) : Prop where
  u : Usable c es → Chk c es a b c.length ∧ d = opn es 8
  z : ¬ Usable c es → a = [] ∧ b = [] ∧ d = []
theorem chkz_no {c es : List Row} (h : ¬ Usable c es) : ChkZ c es [] [] [] := ⟨fun q => absurd q h, fun _ => ⟨rfl, rfl, rfl⟩⟩
theorem chkz_yes {c es a b : List Row} {t : Int} (hu : Usable c es) (h : Chk c es a b t) (ht : ¬ t < c.length) (ht2 : t ≤ c.length) : ChkZ c es a b (opn es 8) := ⟨fun _ => ⟨by rw [show t = (c.length : Int) by omega] at h; exact h, rfl⟩, fun q => absurd hu q⟩
noncomputable def cICk : Ct := ⟨[], fun ds K => match ds with
  | [.view ks c, .view js es] => ks = KCell ∧ js = KNote ∧ ((c.length : Int) < big ∧ (es.length : Int) < big) ∧ ∀ a b d : List Row, ChkZ c es a b d → K (.agg [.fr 3 KInt a, .fr 3 KInt b, .fr 3 KInt d]) []
  | _ => False⟩
theorem ck_own {c es : List Row} (h : Usable c es) : OwnN es := own_of h.no
theorem ck_fit {c es a b : List Row} {t : Int} (h : Chk c es a b t) (hu : Usable c es) (ht : t ≤ c.length) : a.length ≤ 6 ∧ b.length ≤ 6 := by
  have := h.l6; have := h.l1; have := hu.v.c6; omega
set_option maxRecDepth 100000 in
set_option maxHeartbeats 16000000 in
theorem p_iCheckOf : Proved 41 cICk := by
  refine proved_of [(58, cUs), (45, cOpn)] ⟨p_canRedo, p_openOwners, trivial⟩ [.cell 4 59] Try.func41 rfl rfl rfl rfl (by kernel_rfl) ?_
  intro ds K hrel
  simp only [cICk] at hrel
  split at hrel
  case h_2 => exact hrel.elim
  rename_i ks c js es
  obtain ⟨rfl, rfl, ⟨h1, h2⟩, hrel⟩ := hrel
  refine ⟨rfl, Nat.le_of_ble_eq_true rfl, fun k σ => match k with
    | 5 => some { α := Lv 5 (List Row × List Row × Int), R := fun ⟨(a, b, t)⟩ => (0 ≤ t ∧ t ≤ c.length ∧ c.length ≤ 6 ∧ es.length ≤ 20) ∧ Usable c es ∧ Chk c es a b t, μ := fun ⟨(_, _, t)⟩ => (c.length - t).toNat, st := fun ⟨(a, b, t)⟩ => ⟨[(17, .int .i64 t), (0, .view KCell c), (1, .view KNote es), (4, .box 0 0), (5, .box 1 0), (15, .view KCell c), (16, .int .i64 c.length)], [lookH σ.hp 0, some (.box [.own 2, .own 3, .nil KInt]), some (.rows 3 KInt a), some (.rows 3 KInt b)]⟩, sw := true }
    | 8 => match lookT σ.tm 17 with
      | .int _ t => some { α := Lv 8 Int, R := fun ⟨j⟩ => (0 ≤ j ∧ j ≤ es.length) ∧ NoRd c es t j, μ := fun ⟨j⟩ => (es.length - j).toNat, st := fun ⟨j⟩ => up σ [(24, .int .i64 j)] }
      | _ => none
    | _ => none, ?_⟩
  repeat' (first | with_reducible refine And.intro ?_ ?_ | (with_reducible intro h; first | (exact absurd h (by decide)) | (guard_hyp h : true = true; clear h) | (guard_hyp h : false = false; clear h) | (have hq := (h : Lv 5 _); clear hq; obtain ⟨_, _, _⟩ := h) | (have hq := (h : Lv 8 _); clear hq; obtain ⟨_⟩ := h) | skip) | with_reducible exact True.intro | ((with_reducible refine (id ?_ : @Eq Bool (nodupN _) true)); kernel_rfl) | ((with_reducible refine (id ?_ : @Eq Bool (apartN _ _) true)); kernel_rfl) | ((with_reducible refine (id ?_ : @Eq Bool (formL _ _) true)); kernel_rfl) | ((with_reducible refine (id ?_ : @Eq _ _ _)); exact rfl) | ((conv => whnf); first | done | with_reducible refine And.intro ?_ ?_ | (with_reducible intro h; first | (exact absurd h (by decide)) | (guard_hyp h : true = true; clear h) | (guard_hyp h : false = false; clear h) | (have hq := (h : Lv 5 _); clear hq; obtain ⟨_, _, _⟩ := h) | (have hq := (h : Lv 8 _); clear hq; obtain ⟨_⟩ := h) | skip) | with_reducible exact True.intro | ((with_reducible refine (id ?_ : @Eq _ _ _)); exact rfl) | (refine Exists.intro _ (Exists.intro _ (And.intro (hrel ?_ ?_ ?_ ?_) ?_))) | refine Exists.intro (⟨(?_, ?_, ?_)⟩ : Lv 5 _) ?_ | refine Exists.intro (⟨?_⟩ : Lv 8 _) ?_ | refine Exists.intro _ (Exists.intro _ (And.intro hrel ?_)) | exact Or.inl rfl | exact Or.inr (And.intro rfl rfl) | (apply Exists.intro; refine And.intro ?_ ?_)) | exact Nat.le_of_ble_eq_true rfl)
  all_goals (try ((try (change _ = _)) <;> (try dsimp only at *) <;> (try simp only [decide_eq_true_eq, decide_eq_false_iff_not, Bool.not_eq_true', Bool.not_eq_false', Bool.and_eq_true, Bool.and_eq_false_iff, beq_iff_eq, bne_iff_ne, beq_eq_false_iff_ne, bne_eq_false_iff_eq, ne_eq, Decidable.not_not, bne_self_eq_false, Bool.false_eq_true, Bool.true_eq_false, Bool.not_true, Bool.not_false, not_true_eq_false, not_false_eq_true, Int.toNat_natCast, Nat.zero_add, Nat.reduceAdd, Nat.reduceMul, Nat.reduceDiv, Nat.mul_one, lenK_one, big, fill_len, marking_len, marks_len, nrms_len, List.length_set, List.length_append, List.length_map, List.length_replicate, List.length_cons, List.length_nil, Int.natCast_add, Int.natCast_one, Int.natCast_zero] at *) <;> (repeat (with_reducible rename _ ∧ _ => hh; obtain ⟨_, _⟩ := hh)) <;> (first | omega | (refine fits_i64 ?_; omega) | (split <;> omega) | (with_reducible assumption) | exact us_c6 (by with_reducible assumption) | exact us_n20 (by with_reducible assumption) | exact chk_zero (by with_reducible assumption) | exact noRd_zero _ _ _ | exact noRd_1 (by with_reducible assumption) (by omega) (by with_reducible assumption) | exact noRd_2 (by with_reducible assumption) (by omega) (by with_reducible assumption) | exact noRd_3 (by with_reducible assumption) (by omega) (by omega) | exact chk_miss (by with_reducible assumption) (by with_reducible assumption) (by omega) | exact chk_hit (by with_reducible assumption) (by with_reducible assumption) (by omega) (by omega) (by omega) | exact chkz_no (by with_reducible assumption) | exact chkz_yes (by with_reducible assumption) (by with_reducible assumption) (by omega) (by omega) | exact ck_own (by with_reducible assumption) | (have q := ck_fit (by with_reducible assumption) (by with_reducible assumption) (by omega); omega))))
end Go.Proofs.Ytkjdhfkihampjaa.V
