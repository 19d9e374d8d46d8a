/-
  Serial orders: what both functions return.
-/
import Derived.Test.YtmdlffhkhhionaaSa
set_option linter.unusedSimpArgs false
set_option linter.unusedVariables false
namespace Go.Proofs.Ytmdlffhkhhionaa.V
open Go Go.RowKit
open Classical

theorem nxtT_congr {B C : Int → Int → Prop} {P Q : Int → Prop} (hP : ∀ t, 0 ≤ t → t ≤ 7 → (P t ↔ Q t)) (hB : ∀ u t, 0 ≤ u → u ≤ 7 → 0 ≤ t → t ≤ 7 → (B u t ↔ C u t)) {t : Int} (h : NxtT B P t) : NxtT C Q t := by
  have key : ∀ {B C : Int → Int → Prop} {P Q : Int → Prop}, (∀ t, 0 ≤ t → t ≤ 7 → (P t ↔ Q t)) → (∀ u t, 0 ≤ u → u ≤ 7 → 0 ≤ t → t ≤ 7 → (B u t ↔ C u t)) → ∀ {t : Int}, Fst B P t → Fst C Q t := by
    intro B C P Q hP hB t h
    exact ⟨h.t0, h.t7, (hP t h.t0 h.t7).1 h.p, fun u h0 h7 hq hc => h.n u h0 h7 ((hP u h0 h7).2 hq) ((hB u t h0 h7 h.t0 h.t7).2 hc)⟩
  exact ⟨key hP hB h.f, fun s hs hf => h.l s hs (key (fun t h0 h7 => (hP t h0 h7).symm) (fun u t a b c d => (hB u t a b c d).symm) hf)⟩
theorem nxtF_congr {B C : Int → Int → Prop} {P Q : Int → Prop} (hP : ∀ t, 0 ≤ t → t ≤ 7 → (P t ↔ Q t)) (hB : ∀ u t, 0 ≤ u → u ≤ 7 → 0 ≤ t → t ≤ 7 → (B u t ↔ C u t)) : nxtF B P = nxtF C Q := by
  rcases nxtF_cases B P with ⟨h, _⟩ | ⟨h, hn⟩
  · exact (nxtF_is (nxtT_congr hP hB h)).symm
  · rw [h]
    rcases nxtF_cases C Q with ⟨g, _⟩ | ⟨g, _⟩
    · exact absurd (nxtT_congr (fun t a b => (hP t a b).symm) (fun u t a b c d => (hB u t a b c d).symm) g).f (hn _)
    · exact g.symm
/-! The reference. -/
/-- The next one, sought from the end of those left. -/
structure NxL (ps left : List Row) (nx i : Int) : Prop where
  h : (nx = -1 ∧ ∀ j : Nat, i < (j : Int) → j < left.length → ¬ IsF ps left (numT left j) left.length) ∨ ∃ j : Nat, i < (j : Int) ∧ j < left.length ∧ nx = numT left j ∧ IsF ps left (numT left j) left.length ∧ ∀ l : Nat, i < (l : Int) → l < j → ¬ IsF ps left (numT left l) left.length
theorem nxL_zero (ps left : List Row) : NxL ps left (-1) ((left.length : Int) - 1) := ⟨.inl ⟨rfl, fun j h1 h2 => by omega⟩⟩
theorem nxL_yes {ps left : List Row} {nx i : Int} (_ : NxL ps left nx i) (hf : IsF ps left (rc (row left i.toNat) 0).int left.length) (h0 : 0 ≤ i) (hi : i < left.length) : NxL ps left (rc (row left i.toNat) 0).int (i - 1) := ⟨.inr ⟨i.toNat, by omega, by omega, rfl, hf, fun l h1 h2 => by omega⟩⟩
theorem nxL_no {ps left : List Row} {nx i : Int} (h : NxL ps left nx i) (hf : ¬ IsF ps left (rc (row left i.toNat) 0).int left.length) (h0 : 0 ≤ i) (hi : i < left.length) : NxL ps left nx (i - 1) := ⟨by
  rcases h.h with ⟨h1, h2⟩ | ⟨j, h1, h2, h3, h4, h5⟩
  · refine .inl ⟨h1, fun j q1 q2 => ?_⟩
    by_cases e : (j : Int) = i
    · rw [← e, toNat_nat] at hf; exact hf
    · exact h2 j (by omega) q2
  · refine .inr ⟨j, by omega, h2, h3, h4, fun l q1 q2 => ?_⟩
    by_cases e : (l : Int) = i
    · rw [← e, toNat_nat] at hf; exact hf
    · exact h5 l (by omega) q2⟩
theorem isF_fst {xs ps left : List Row} (hp : PrsOf ps (Bef xs)) (hr : ∀ v, Mem left v → 0 ≤ v ∧ v ≤ 7) {j : Nat} (hj : j < left.length) : IsF ps left (numT left j) left.length ↔ Fst (Bef xs) (fun v => Mem left v) (numT left j) := by
  have hm : Mem left (numT left j) := ⟨j, hj, rfl⟩
  constructor
  · intro h
    refine ⟨(hr _ hm).1, (hr _ hm).2, hm, fun u _ _ hu hb => ?_⟩
    obtain ⟨k, hk, hke⟩ := hu
    refine h.h k (by omega) ?_
    rw [hke]; exact (hp.h _ _).2 hb
  · intro h
    refine ⟨fun k hk hh => ?_⟩
    have hk' : k < left.length := by omega
    have hmk : Mem left (numT left k) := ⟨k, hk', rfl⟩
    exact h.n _ (hr _ hmk).1 (hr _ hmk).2 hmk ((hp.h _ _).1 hh)
theorem nxL_fin {xs ps left : List Row} {nx i : Int} (h : NxL ps left nx i) (hp : PrsOf ps (Bef xs)) (hr : ∀ v, Mem left v → 0 ≤ v ∧ v ≤ 7) (ha : Asc left) (hi : ¬ 0 ≤ i) (h2 : -1 ≤ i) : nx = nxtF (Bef xs) (fun v => Mem left v) := by
  rcases h.h with ⟨h1, h2⟩ | ⟨j, h1, h2, h3, h4, h5⟩
  · rw [h1, nxtF_no]
    intro t ht
    obtain ⟨k, hk, hke⟩ := ht.p
    rw [← hke] at ht
    exact h2 k (by omega) hk ((isF_fst hp hr hk).2 ht)
  · refine (nxtF_is ⟨?_, fun s hs hf => ?_⟩).symm
    · rw [h3]; exact (isF_fst hp hr h2).1 h4
    · obtain ⟨k, hk, hke⟩ := hf.p
      rw [← hke] at hf hs
      have hkj : k < j := by
        apply Classical.byContradiction
        intro q
        rw [h3] at hs
        rcases Nat.lt_or_ge j k with q2 | q2
        · have := ha.h j k q2 hk; omega
        · rw [show k = j by omega] at hs; omega
      exact h5 k (by omega) hkj ((isF_fst hp hr hk).2 hf)
/-- The reference's order, under way. -/
structure SpS (xs ps left acc : List Row) : Prop where
  v : VA xs
  p : PrsOf ps (Bef xs)
  r : ∀ v, Mem left v → 0 ≤ v ∧ v ≤ 7
  a : Asc left
  n : nrms KInt left = left
  s : SerR (Bef xs) (Own xs) (fun v => Mem left v) acc (cnt (Own xs))
theorem mem_own {xs : List Row} (hv : VA xs) : (fun v => Mem (ascL (Own xs) 8) v) = Own xs := by
  funext v; apply propext
  rw [ascL_mem]
  exact ⟨fun q => q.2.2, fun q => ⟨(own_range hv q).1, by have := (own_range hv q).2; omega, q⟩⟩
theorem sps_zero {xs ps : List Row} (hp : PrsOf ps (Bef xs)) (hv : VA xs) : SpS xs ps (ascL (Own xs) 8) [] := by
  refine ⟨hv, hp, fun v hm => ?_, ascL_asc _ _, ascL_nrm _ _, ?_⟩
  · rw [ascL_mem] at hm; omega
  · rw [mem_own hv]; exact serr_zero _ _
theorem cnt_left {left : List Row} (hr : ∀ v, Mem left v → 0 ≤ v ∧ v ≤ 7) (ha : Asc left) (hn : nrms KInt left = left) : cnt (fun v => Mem left v) = left.length := by
  have e : left = ascL (fun v => Mem left v) 8 := asc_eq rfl hn (ascL_nrm _ _) ha (ascL_asc _ _) (fun v => by
    rw [ascL_mem]; exact ⟨fun q => ⟨(hr v q).1, by have := (hr v q).2; omega, q⟩, fun q => q.2.2⟩)
  unfold cnt
  rw [← e]
theorem sps_nx {xs ps left acc : List Row} {nx i : Int} (h : SpS xs ps left acc) (hn : NxL ps left nx i) (hi : ¬ 0 ≤ i) (h2 : -1 ≤ i) : nx = nxtF (Bef xs) (fun v => Mem left v) := nxL_fin hn h.p h.r h.a hi h2
theorem sps_step {xs ps left acc : List Row} {nx i : Int} (h : SpS xs ps left acc) (hn : NxL ps left nx i) (h3 : ¬ nx < 0) (hi : ¬ 0 ≤ i) (h2 : -1 ≤ i) : SpS xs ps (dropL left nx) (acc ++ [[Sc.i nx]]) := by
  have e := sps_nx h hn hi h2
  have hs := serr_step h.s (by rw [← e]; omega)
  rw [← e] at hs
  refine ⟨h.v, h.p, fun v hm => h.r v (dropL_mem.1 hm).1, dropL_asc h.a, dropL_nrm _ _, ?_⟩
  have e2 : (fun v => Mem (dropL left nx) v) = (fun v => Mem left v ∧ v ≠ nx) := by
    funext v; exact propext dropL_mem
  rw [e2]; exact hs
theorem sps_lt {xs ps left acc : List Row} {nx i : Int} (h : SpS xs ps left acc) (hn : NxL ps left nx i) (h3 : ¬ nx < 0) (hi : ¬ 0 ≤ i) (h2 : -1 ≤ i) : (dropL left nx).length < left.length := by
  have h' := sps_step h hn h3 hi h2
  have c1 := h.s.c
  have c2 := h'.s.c
  rw [cnt_left h.r h.a h.n] at c1
  rw [cnt_left h'.r h'.a h'.n, List.length_append] at c2
  simp only [List.length_cons, List.length_nil] at c2
  omega
theorem sps_len {xs ps left acc : List Row} (h : SpS xs ps left acc) : acc.length + left.length ≤ 8 := by
  have c1 := h.s.c
  rw [cnt_left h.r h.a h.n] at c1
  have := cnt_le (Own xs)
  omega
theorem sps_no {xs ps left acc : List Row} {nx i : Int} (h : SpS xs ps left acc) (hn : NxL ps left nx i) (h3 : nx < 0) (hl : 0 < (left.length : Int)) (hi : ¬ 0 ≤ i) (h2 : -1 ≤ i) : (serL xs).2 = false := by
  have e := sps_nx h hn hi h2
  have c1 := h.s.c
  rw [cnt_left h.r h.a h.n] at c1
  rw [serL_is h.v]
  exact serr_no h.s (by omega) (by rw [← e]; exact h3)
theorem sps_noL {xs ps left acc : List Row} {nx i : Int} (h : SpS xs ps left acc) (hn : NxL ps left nx i) (h3 : nx < 0) (hl : 0 < (left.length : Int)) (hi : ¬ 0 ≤ i) (h2 : -1 ≤ i) : (serL xs).1 = [] := serL_nil (sps_no h hn h3 hl hi h2)
theorem sps_fin {xs ps left acc : List Row} (h : SpS xs ps left acc) (hl : ¬ 0 < (left.length : Int)) : (serL xs).2 = true ∧ (serL xs).1 = acc := by
  have c1 := h.s.c
  rw [cnt_left h.r h.a h.n] at c1
  rw [serL_is h.v]
  exact serr_fin h.s (by omega)
theorem ser_noB {xs : List Row} (h : ¬ VA xs) : (serL xs).2 = false := by rw [serL_no h]
theorem ser_noL {xs : List Row} (h : ¬ VA xs) : (serL xs).1 = [] := by rw [serL_no h]
theorem own_len (xs : List Row) : (ascL (Own xs) 8).length ≤ 8 := ascL_len _ 8
theorem drop_le {xs : List Row} {n : Int} {m : Nat} (h : xs.length ≤ m) : (dropL xs n).length ≤ m := Nat.le_trans (dropL_len xs n) h
noncomputable def cSer : Ct := ⟨[], fun ds K => match ds with
  | [.view ks xs] => ks = KAct ∧ xs.length ≤ 1048576 ∧ K (.tup [.fr 3 KInt (serL xs).1, .bool (serL xs).2]) []
  | _ => False⟩
theorem va_16 {xs : List Row} (h : VA xs) : xs.length ≤ 16 := h.l
set_option maxRecDepth 100000 in
set_option maxHeartbeats 16000000 in
theorem p_sSer : Proved 27 cSer := by
  refine proved_of [(34, cValid), (45, cOwners), (46, cBefore), (47, cIsF), (48, cDrop)] ⟨p_sValidActs, p_owners, p_before, p_isFirst, p_drop, trivial⟩ [.tmp 2, .tmp 3] Try.func27 rfl rfl rfl rfl (by kernel_rfl) ?_
  intro ds K hrel
  simp only [cSer] at hrel
  split at hrel
  case h_2 => exact hrel.elim
  rename_i ks xs
  obtain ⟨rfl, h1, hrel⟩ := hrel
  refine ⟨rfl, Nat.le_of_ble_eq_true rfl, fun k σ => match lookH σ.hp 2 with
    | some (.rows _ _ ps) => match k with
      | 6 => some { α := Lv 6 (List Row × List Row), R := fun ⟨(left, acc)⟩ => (ps.length ≤ 256 ∧ acc.length + left.length ≤ 8) ∧ SpS xs ps left acc, μ := fun ⟨(left, _)⟩ => left.length, st := fun ⟨(left, acc)⟩ => ⟨[(5, .view KInt left), (4, .own 0), (6, .own 2)], [some (.rows 3 KInt acc), none, some (.rows 66 KWait ps)]⟩ }
      | 9 => match lookT σ.tm 5 with
        | .view _ left => some { α := Lv 9 (Int × Int), R := fun ⟨(nx, i)⟩ => (-1 ≤ i ∧ i ≤ (left.length : Int) - 1) ∧ NxL ps left nx i, μ := fun ⟨(_, i)⟩ => (i + 1).toNat, st := fun ⟨(nx, i)⟩ => up σ [(8, .int .i64 i), (7, .int .i64 nx)] }
        | _ => none
      | _ => none
    | _ => none, ?_⟩
  repeat' (first | with_reducible refine And.intro ?_ ?_ | (with_reducible intro h; first | (exact absurd h (by decide)) | (guard_hyp h : true = true; clear h) | (guard_hyp h : false = false; clear h) | (have hq := (h : Lv 6 _); clear hq; obtain ⟨_, _⟩ := h) | (have hq := (h : Lv 9 _); clear hq; obtain ⟨_, _⟩ := h) | skip) | with_reducible exact True.intro | ((with_reducible refine (id ?_ : @Eq Bool (nodupN _) true)); kernel_rfl) | ((with_reducible refine (id ?_ : @Eq Bool (apartN _ _) true)); kernel_rfl) | ((with_reducible refine (id ?_ : @Eq Bool (formL _ _) true)); kernel_rfl) | ((with_reducible refine (id ?_ : @Eq _ _ _)); exact rfl) | ((conv => whnf); first | done | with_reducible refine And.intro ?_ ?_ | (with_reducible intro h; first | (exact absurd h (by decide)) | (guard_hyp h : true = true; clear h) | (guard_hyp h : false = false; clear h) | (have hq := (h : Lv 6 _); clear hq; obtain ⟨_, _⟩ := h) | (have hq := (h : Lv 9 _); clear hq; obtain ⟨_, _⟩ := h) | skip) | with_reducible exact True.intro | ((with_reducible refine (id ?_ : @Eq _ _ _)); exact rfl) | (refine Exists.intro _ (Exists.intro _ (And.intro hrel ?_))) | refine Exists.intro (⟨(?_, ?_)⟩ : Lv 6 _) ?_ | refine Exists.intro (⟨(?_, ?_)⟩ : Lv 9 _) ?_ | refine Exists.intro _ (Exists.intro _ (And.intro hrel ?_)) | exact Or.inl rfl | exact Or.inr (And.intro rfl rfl) | (apply Exists.intro; refine And.intro ?_ ?_)) | exact Nat.le_of_ble_eq_true rfl)
  all_goals (try ((try (change _ = _)) <;> (try dsimp only at *) <;> (try simp only [decide_eq_true_eq, decide_eq_false_iff_not, Bool.not_eq_true', Bool.not_eq_false', Bool.and_eq_true, Bool.and_eq_false_iff, beq_iff_eq, bne_iff_ne, beq_eq_false_iff_ne, bne_eq_false_iff_eq, ne_eq, Decidable.not_not, bne_self_eq_false, Bool.false_eq_true, Bool.true_eq_false, Bool.not_true, Bool.not_false, not_true_eq_false, not_false_eq_true, Int.toNat_natCast, Nat.zero_add, Nat.reduceAdd, Nat.reduceMul, Nat.reduceDiv, Nat.mul_one, lenK_one, big, fill_len, marking_len, marks_len, nrms_len, List.length_set, List.length_append, List.length_map, List.length_replicate, List.length_cons, List.length_nil, Int.natCast_add, Int.natCast_one, Int.natCast_zero] at *) <;> (repeat (with_reducible rename _ ∧ _ => hh; obtain ⟨_, _⟩ := hh)) <;> (first | omega | (refine fits_i64 ?_; omega) | (split <;> omega) | (with_reducible assumption) | (with_reducible exact va_16 (by with_reducible assumption)) | exact sps_zero (by with_reducible assumption) (by with_reducible assumption) | exact nxL_zero _ _ | exact nxL_yes (by with_reducible assumption) (by with_reducible assumption) (by omega) (by omega) | exact nxL_no (by with_reducible assumption) (by with_reducible assumption) (by omega) (by omega) | exact sps_step (by with_reducible assumption) (by with_reducible assumption) (by omega) (by omega) (by omega) | exact sps_lt (by with_reducible assumption) (by with_reducible assumption) (by omega) (by omega) (by omega) | (have q := sps_len (sps_step (by with_reducible assumption) (by with_reducible assumption) (by omega) (by omega) (by omega)); simp only [List.length_append, List.length_cons, List.length_nil] at q; omega) | (with_reducible exact ser_noB (by with_reducible assumption)) | (with_reducible exact (ser_noB (by with_reducible assumption)).symm) | (with_reducible exact ser_noL (by with_reducible assumption)) | exact sps_no (by with_reducible assumption) (by with_reducible assumption) (by omega) (by omega) (by omega) (by omega) | exact (sps_no (by with_reducible assumption) (by with_reducible assumption) (by omega) (by omega) (by omega) (by omega)).symm | exact sps_noL (by with_reducible assumption) (by with_reducible assumption) (by omega) (by omega) (by omega) (by omega) | exact (sps_fin (by with_reducible assumption) (by omega)).1 | exact (sps_fin (by with_reducible assumption) (by omega)).1.symm | exact (sps_fin (by with_reducible assumption) (by omega)).2 | exact (sps_fin (by with_reducible assumption) (by omega)).2.symm | (rw [Nat.zero_add]; exact own_len _) | (have q := own_len xs; omega) | (exact own_len _) | (have q := sps_len (by with_reducible assumption); omega))))
end Go.Proofs.Ytmdlffhkhhionaa.V
