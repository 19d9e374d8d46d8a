/-
  A verified generator of verification conditions over the model's Code, part H: loads and addresses.
-/
import Derived.Test.YtkjbgdhpeidocaaVcG
set_option linter.unusedSimpArgs false
set_option linter.unusedVariables false
namespace Go.Proofs.Ytkjbgdhpeidocaa.V
open Go Go.RowKit

section
variable {P : Program}

theorem ti_plain {t : Nat} {ti : TI} (h : checkTI P t ti = true) (h1 : ∀ o z, ti ≠ .struct o z) (h2 : ∀ n e k, ti ≠ .array n e k) (h3 : ti ≠ .other) :
    ∃ d, P.underlying t = some d ∧ isAggD d = false := by
  cases ti with
  | int k => simp only [checkTI, Bool.and_eq_true] at h; revert h; cases P.underlying t with | none => simp | some d => cases d <;> simp [isAggD]
  | bool => simp only [checkTI, Bool.and_eq_true] at h; revert h; cases P.underlying t with | none => simp | some d => cases d <;> simp [isAggD]
  | str => simp only [checkTI, Bool.and_eq_true] at h; revert h; cases P.underlying t with | none => simp | some d => cases d <;> simp [isAggD]
  | slice e s b k => simp only [checkTI, Bool.and_eq_true] at h; have := h.1.1; revert this; cases P.underlying t with | none => simp | some d => cases d <;> simp [isAggD]
  | ptr => simp only [checkTI, Bool.and_eq_true] at h; revert h; cases P.underlying t with | none => simp | some d => cases d <;> simp [isAggD]
  | struct o z => exact absurd rfl (h1 o z)
  | array n e k => exact absurd rfl (h2 n e k)
  | other => exact absurd rfl h3

theorem ti_struct {t : Nat} {offs : List Nat} {zero : List AV} (h : checkTI P t (.struct offs zero) = true) :
    ∃ fs i, P.underlying t = some (.struct fs) ∧ fieldsAt P fs offs 0 = true ∧ P.info? t = some i ∧ i.size = lenA zero ∧ i.zero = some (.agg (zero.map AV.zval).toArray) := by
  simp only [checkTI, Bool.and_eq_true] at h
  obtain ⟨⟨h1, h2⟩, _⟩ := h
  obtain ⟨i, hi, hs, hz⟩ := zeroAt_agg h2
  cases hu : P.underlying t with
  | none => rw [hu] at h1; simp at h1
  | some d =>
    rw [hu] at h1
    cases d <;> simp at h1
    exact ⟨_, i, rfl, h1, hi, hs, hz⟩

theorem ti_contig {t : Nat} {offs : List Nat} {zero : List AV} (h : checkTI P t (.struct offs zero) = true) {fs : Array Field} (hu : P.underlying t = some (.struct fs)) : contigAt P fs offs (lenA zero) 0 = true := by
  simp only [checkTI, Bool.and_eq_true] at h
  have h := h.2
  rw [hu] at h
  exact h

theorem ti_array {t n esz : Nat} {ks : List Kd} (h : checkTI P t (.array n esz ks) = true) :
    ∃ e ie i, P.underlying t = some (.array n e) ∧ P.info? e = some ie ∧ ie.size = esz ∧ lenK ks ≠ 0 ∧ esz % lenK ks = 0 ∧ (1 < n ∧ 0 < esz) ∧ P.info? t = some i ∧ i.size = n * esz ∧
      i.zero = some (.agg (flat ks (List.replicate (n * esz / lenK ks) (zeroRow ks))).toArray) := by
  simp only [checkTI, Bool.and_eq_true] at h
  obtain ⟨⟨⟨⟨h1, h2⟩, h3⟩, h4⟩, h5⟩ := h
  obtain ⟨i, hi, hs, hz⟩ := zeroAt_agg h5
  cases hu : P.underlying t with
  | none => rw [hu] at h1; simp at h1
  | some d =>
    rw [hu] at h1
    cases d <;> simp at h1
    rename_i m e
    obtain ⟨rfl, h1⟩ := h1
    cases he : P.info? e with
    | none => rw [he] at h1; simp at h1
    | some ie =>
      rw [he] at h1
      simp at h1
      exact ⟨e, ie, i, rfl, he, h1, by simpa using h2, by simpa using h3, by simpa using h4, hi, hs, hz⟩

theorem ti_slice {t e esz eb : Nat} {ks : List Kd} (h : checkTI P t (.slice e esz eb ks) = true) :
    ∃ i, P.underlying t = some (.slice e) ∧ P.info? e = some i ∧ i.size = esz ∧ i.bytes = eb ∧
      (ks ≠ [] → esz = lenK ks ∧ ∃ z, i.zero = some z ∧ z.cells.toList = rowVals ks (zeroRow ks) 0) := by
  simp only [checkTI, Bool.and_eq_true] at h
  obtain ⟨⟨h1, _⟩, h2⟩ := h
  cases hu : P.underlying t with
  | none => rw [hu] at h1; simp at h1
  | some d =>
    rw [hu] at h1
    cases d <;> simp at h1
    rename_i f
    subst h1
    cases hi : P.info? f with
    | none => rw [hi] at h2; simp at h2
    | some i =>
      rw [hi] at h2
      simp only [Bool.and_eq_true, beq_iff_eq] at h2
      obtain ⟨⟨hs, hb⟩, hk⟩ := h2
      refine ⟨i, rfl, rfl, hs, hb, fun hne => ?_⟩
      cases ks with
      | nil => exact absurd rfl hne
      | cons k r =>
        simp only [Bool.and_eq_true, beq_iff_eq] at hk
        obtain ⟨h3, h4⟩ := hk
        refine ⟨h3, ?_⟩
        cases hz : i.zero with
        | none => rw [hz] at h4; simp at h4
        | some z => rw [hz] at h4; exact ⟨z, rfl, sameVals_eq h4⟩
end

theorem dropA_eq : ∀ (c : Nat) (l : List AV), dropA c l = l.drop c
  | 0, l => by cases l <;> rfl
  | _ + 1, [] => rfl
  | c + 1, _ :: r => by simp [dropA, dropA_eq c r]
theorem takeA_eq : ∀ (c : Nat) (l : List AV), takeA c l = l.take c
  | 0, l => by cases l <;> rfl
  | _ + 1, [] => rfl
  | c + 1, _ :: r => by simp [takeA, takeA_eq c r]

section
variable {ok lv : Nat → Prop} {w : World} {z : Cz}
theorem AVRs.length : ∀ {l : List AV} {vs : List Value}, AVRs ok lv w z l vs → vs.length = l.length
  | [], vs, h => by simp only [AVRs] at h; simp [h]
  | a :: l, vs, h => by
    simp only [AVRs] at h
    obtain ⟨u, us, rfl, _, h⟩ := h
    simp [h.length]
theorem AVRs.drop : ∀ {l : List AV} {vs : List Value} (c : Nat), AVRs ok lv w z l vs → AVRs ok lv w z (l.drop c) (vs.drop c)
  | l, vs, 0, h => by simpa using h
  | [], vs, c + 1, h => by simp only [AVRs] at h; simp [h, AVRs]
  | a :: l, vs, c + 1, h => by
    simp only [AVRs] at h
    obtain ⟨u, us, rfl, _, h⟩ := h
    simpa using h.drop c
theorem AVRs.take : ∀ {l : List AV} {vs : List Value} (c : Nat), AVRs ok lv w z l vs → AVRs ok lv w z (l.take c) (vs.take c)
  | l, vs, 0, h => by simp [AVRs]
  | [], vs, c + 1, h => by simp only [AVRs] at h; simp [h, AVRs]
  | a :: l, vs, c + 1, h => by
    simp only [AVRs] at h
    obtain ⟨u, us, rfl, hu, h⟩ := h
    simp only [List.take_succ_cons, AVRs]
    exact ⟨u, _, rfl, hu, h.take c⟩
theorem AVRs.get : ∀ {l : List AV} {vs : List Value} (c : Nat), AVRs ok lv w z l vs → c < l.length → ∃ u, vs[c]? = some u ∧ AVR ok lv w z (getA l c) u
  | [], vs, c, h, hc => by simp at hc
  | a :: l, vs, 0, h, _ => by
    simp only [AVRs] at h
    obtain ⟨u, us, rfl, hu, h⟩ := h
    exact ⟨u, by simp, by simpa [getA] using hu⟩
  | a :: l, vs, c + 1, h, hc => by
    simp only [AVRs] at h
    obtain ⟨u, us, rfl, hu, h⟩ := h
    obtain ⟨v, h1, h2⟩ := h.get c (by simpa using hc)
    exact ⟨v, by simpa using h1, by simpa [getA] using h2⟩

theorem Kd.av_val (k : Kd) (s : Sc) : AVR ok lv w z (k.av s) (k.val s) := by cases k <;> simp [Kd.av, Kd.val, AVR]
/-- n cells of a row from column c on. -/
theorem rowAVs_rel (ks : List Kd) (r : Row) : ∀ (n c : Nat), c + n ≤ lenK ks → ∃ vs : List Value, vs.length = n ∧ (∀ u ∈ vs, u.oneCell' = true) ∧ AVRs ok lv w z (rowAVs ks r c n) vs ∧
    ∀ j v, vs[j]? = some v → ∃ kd, getK ks (c + j) = some kd ∧ v = kd.val (rc r (c + j))
  | 0, c, _ => ⟨[], rfl, by simp, by simp [rowAVs, AVRs], by simp⟩
  | n + 1, c, h => by
    obtain ⟨vs, h1, h2, h3, h4⟩ := rowAVs_rel ks r n (c + 1) (by omega)
    have hc : c < ks.length := by rw [lenK_eq] at h; omega
    have hk : getK ks c = some ks[c] := by rw [getK_eq]; simp [hc]
    refine ⟨ks[c].val (rc r c) :: vs, by simp [h1], ?_, ?_, ?_⟩
    · intro u hu
      simp only [List.mem_cons] at hu
      rcases hu with rfl | hu
      · exact Kd.val_one _ _
      · exact h2 u hu
    · simp only [rowAVs, hk, AVRs]
      exact ⟨_, _, rfl, Kd.av_val _ _, h3⟩
    · intro j v hv
      cases j with
      | zero => simp at hv; exact ⟨_, hk, by simpa using hv.symm⟩
      | succ j =>
        simp at hv
        obtain ⟨kd, a, b⟩ := h4 j v hv
        have e : c + 1 + j = c + (j + 1) := by omega
        rw [e] at a b
        exact ⟨kd, a, b⟩
end

section
variable {P : Program} {Γ : Cx} {X : Fx} {tm : List (Nat × AV)} {hp : List (Option Entry)} {z : Cz} {a : Act} {w w' : World} {n : Nat}
  {K : St → Prop} {next : Act → World → Prop} {Q : Exit → Act → World → Prop} {o : Oper}

theorem own_blk {base e s m : Nat} {v : Value} {xs : List Value} {b : Nat} (h : w.ownsRow base e s v m xs) (hb : blk v = some b) : v.ownBlock = some b := by
  rcases h.2 with ⟨rfl, _⟩ | ⟨g, cap, cur, rfl, _⟩
  · simp [blk] at hb
  · simpa [blk, Value.ownBlock] using hb

/-- A row's cells in memory, and what is loaded from them. -/
theorem load_row {ok lv : Nat → Prop} {C : AV → Prop} (hτ : TabOk P Γ.τ) (t : Nat) (ks : List Kd) (r : Row) (b base c : Nat)
    (hc : ∀ c' kd, getK ks c' = some kd → w.cell? ⟨b, base + c', none⟩ = some (kd.val (rc r c')))
    (hs : match Γ.τ t with
      | .struct _ zr => if c + lenA zr ≤ lenK ks then C (.agg (rowAVs ks r c (lenA zr))) else False
      | .array _ _ _ => False
      | .other => False
      | _ => match getK ks c with
        | some kd => C (kd.av (rc r c))
        | none => False) :
    ∃ v u, C v ∧ AVR ok lv w z v u ∧ ∀ w', Stp (fun _ => False) w w' → (loadVar t ⟨b, base + c, none⟩).run P w' = .ok u w' := by
  have ht := hτ t
  split at hs
  · rename_i offs zr hT
    rw [hT] at ht
    obtain ⟨fs, i, hu, _, hi, hsz, _⟩ := ti_struct ht
    split at hs
    · rename_i hle
      obtain ⟨vs, h1, h2, h3, h4⟩ := rowAVs_rel (ok := ok) (lv := lv) (w := w) (z := z) ks r (lenA zr) c hle
      refine ⟨_, .agg vs.toArray, hs, ?_, ?_⟩
      · simp only [AVR]; exact ⟨vs, rfl, h2, h3⟩
      · intro w' st
        refine run_loadVar_many hu rfl hi (by rw [hsz, h1]) (fun j v hv => ?_)
        obtain ⟨kd, hk, rfl⟩ := h4 j v hv
        rw [Nat.add_assoc]
        exact st.cell (hc _ kd hk)
    · exact hs.elim
  · exact hs.elim
  · exact hs.elim
  · rename_i h1 h2 h3
    obtain ⟨d, hu, hd⟩ := ti_plain ht (fun o z e => h1 o z e) (fun n e k x => h2 n e k x) (fun e => h3 e)
    split at hs
    · rename_i kd hk
      exact ⟨_, _, hs, Kd.av_val _ _, fun w' st => run_loadVar_one hu hd (st.cell (hc c kd hk))⟩
    · exact hs.elim

theorem load_run {C : AV → Prop} (hΓ : CxOk P Γ) (h : Rel X tm hp z a w) (t : Nat) (x : Operand) (hs : stepLoad Γ t hp (evalT tm x) C) :
    ∃ (ad : Addr) (u : Value) (v : AV), a.eval x = .pointer (some ad) ∧ AVR (okB X hp z w) (live hp) w z v u ∧ C v ∧ ∀ w', Stp (fun _ => False) w w' → (loadVar t ad).run P w' = .ok u w' := by
  have hx := h.eval x
  have key : ∀ (ad : Addr) (v : AV) (u : Value), a.eval x = .pointer (some ad) → AVR (okB X hp z w) (live hp) w z v u → C v →
      (∀ w', Stp (fun _ => False) w w' → (loadVar t ad).run P w' = .ok u w') →
      ∃ (ad : Addr) (u : Value) (v : AV), a.eval x = .pointer (some ad) ∧ AVR (okB X hp z w) (live hp) w z v u ∧ C v ∧ ∀ w', Stp (fun _ => False) w w' → (loadVar t ad).run P w' = .ok u w' := by
    intro ad v u he hv hk hr
    exact ⟨ad, u, v, he, hv, hk, hr⟩
  generalize evalT tm x = vx at hs hx
  unfold stepLoad at hs
  split at hs
  · -- a box
    rename_i k c
    simp only [AVR] at hx
    obtain ⟨_, b, hb, hx⟩ := hx
    split at hs
    · rename_i l hl
      obtain ⟨b', cur, T, hb', hh, hone, ha, hz0⟩ := h.ens k _ hl
      rw [hb] at hb'
      simp only [Value.pointer.injEq, Option.some.injEq, Addr.mk.injEq, and_true] at hb'
      subst hb'
      have ht := hΓ.tab t
      have hcell : ∀ j v, cur.toList[j]? = some v → w.cell? ⟨b, j, none⟩ = some v := fun j v hj => by
        rw [cell_of_row w b j cur T (0, 0) hh]; simpa using hj
      have hlen := ha.length
      split at hs
      · rename_i offs zr hT
        rw [hT] at ht
        obtain ⟨fs, i, hu, _, hi, hsz, _⟩ := ti_struct ht
        split at hs
        · rename_i hle
          rw [takeA_eq, dropA_eq] at hs
          have h2 := (ha.drop c).take (lenA zr)
          refine key ⟨b, c, none⟩ _ (.agg ((cur.toList.drop c).take (lenA zr)).toArray) hx ?_ hs ?_
          · simp only [AVR]
            exact ⟨_, rfl, fun u hu => hone u (List.mem_of_mem_drop (List.mem_of_mem_take hu)), h2⟩
          · intro w' st
            refine run_loadVar_many hu rfl hi ?_ (fun j v hv => ?_)
            · rw [hsz, List.length_take, List.length_drop, hlen, ← lenA_eq]; omega
            · refine st.cell (hcell _ _ ?_)
              rw [List.getElem?_take] at hv
              split at hv
              · rwa [List.getElem?_drop] at hv
              · cases hv
        · exact hs.elim
      · exact hs.elim
      · exact hs.elim
      · rename_i h1 h2 h3
        obtain ⟨d, hu, hdd⟩ := ti_plain ht (fun o z e => h1 o z e) (fun n e k x => h2 n e k x) (fun e => h3 e)
        split at hs
        · rename_i hlt
          obtain ⟨u, hu1, hu2⟩ := ha.get c (by rw [← lenA_eq]; exact hlt)
          exact key ⟨b, c, none⟩ _ u hx hu2 hs (fun w' st => run_loadVar_one hu hdd (st.cell (hcell c u hu1)))
        · exact hs.elim
    · exact hs.elim
  · -- a cell of an entry's row
    rename_i k i c
    simp only [AVR] at hx
    obtain ⟨_, hi, b, hb, hx⟩ := hx
    split at hs
    · rename_i e ks xs hl
      obtain ⟨hown, hln, hwd⟩ := h.ens k _ hl
      rw [hln] at hi
      rw [hwd] at hx
      have hcell : ∀ c' kd, getK ks c' = some kd → w.cell? ⟨b, i * lenK ks + c', none⟩ = some (kd.val (rc (row xs i) c')) := by
        intro c' kd hk
        have := hown.cells (own_blk hown hb) (i * lenK ks + c') _ (flat_get ks xs i c' kd hk hi)
        rwa [Addr.add_lit, Nat.zero_add] at this
      obtain ⟨v, u, h1, h2, h3⟩ := load_row (ok := okB X hp z w) (lv := live hp) (z := z) (C := C) hΓ.tab t ks (row xs i) b (i * lenK ks) c hcell hs
      exact key _ v u hx h2 h1 h3
    · rename_i ks xs hl
      obtain ⟨b', cur, T, hb', hh, hcur, hln, hwd⟩ := h.ens k _ hl
      rw [hb'] at hb
      simp only [blk, Option.some.injEq] at hb
      subst hb
      rw [hln] at hi
      rw [hwd] at hx
      have hcell : ∀ c' kd, getK ks c' = some kd → w.cell? ⟨b', i * lenK ks + c', none⟩ = some (kd.val (rc (row xs i) c')) := by
        intro c' kd hk
        rw [cell_of_row w b' _ cur T (0, 0) hh]
        have := flat_get ks xs i c' kd hk hi
        rw [← hcur] at this
        simpa using this
      by_cases harr : ∃ n' esz ks', Γ.τ t = .array n' esz ks'
      · obtain ⟨n', esz, ks', hT⟩ := harr
        rw [hT] at hs
        simp only at hs
        obtain ⟨hi0, hc0, hsz, hK⟩ := hs
        have ht := hΓ.tab t
        rw [hT] at ht
        obtain ⟨e, ie, ii, hu, _, _, _, _, _, hti, htz, _⟩ := ti_array ht
        refine key _ _ (.agg (flat ks xs).toArray) hx (by simp only [AVR]) hK ?_
        subst hi0; subst hc0
        simp only [Nat.zero_mul, Nat.add_zero]
        intro w' st
        refine run_loadVar_many hu rfl hti (by rw [htz, hsz, flat_length]) (fun j v hv => st.cell ?_)
        rw [cell_of_row w b' _ cur T (0, 0) hh, Nat.zero_add]
        rw [← hcur] at hv
        simpa using hv
      · have hs' : match Γ.τ t with
            | .struct _ zr => if c + lenA zr ≤ lenK ks then C (.agg (rowAVs ks (row xs i) c (lenA zr))) else False
            | .array _ _ _ => False
            | .other => False
            | _ => match getK ks c with
              | some kd => C (kd.av (rc (row xs i) c))
              | none => False := by
          cases hT : Γ.τ t <;> rw [hT] at hs <;> first | exact hs | exact absurd ⟨_, _, _, hT⟩ harr
        obtain ⟨v, u, h1, h2, h3⟩ := load_row (ok := okB X hp z w) (lv := live hp) (z := z) (C := C) hΓ.tab t ks (row xs i) b' (i * lenK ks) c hcell hs'
        exact key _ v u hx h2 h1 h3
    · exact hs.elim
  · -- a cell of a row that is only read
    rename_i ks xs i c
    simp only [AVR] at hx
    obtain ⟨hi, b, off, hb, hx, hcell⟩ := hx
    obtain ⟨v, u, h1, h2, h3⟩ := load_row (ok := okB X hp z w) (lv := live hp) (z := z) (C := C) hΓ.tab t ks (row xs i) b (off + i * lenK ks) c
      (fun c' kd hk => by rw [Nat.add_assoc]; exact hcell c' kd hk) hs
    exact key _ v u hx h2 h1 (by rw [← Nat.add_assoc]; exact h3)
  · -- a cell with a slice that is only read
    rename_i ks xss i
    simp only [AVR] at hx
    obtain ⟨hi, b, off, u, hb, hx, hcell, hview⟩ := hx
    split at hs
    · rename_i e esz eb js hT
      have ht := hΓ.tab t
      rw [hT] at ht
      obtain ⟨d, hu, hdd⟩ := ti_plain ht (fun o z e => by cases e) (fun n e k x => by cases x) (fun e => by cases e)
      exact key _ _ u hx (by simp only [AVR]; exact hview) hs (fun w' st => run_loadVar_one hu hdd (st.cell hcell))
    · exact hs.elim
  · exact hs.elim
theorem r_load {C : AV → Prop} (hΓ : CxOk P Γ) (h : Rel X tm hp z a w) (t : Nat) (x : Operand) (hs : stepLoad Γ t hp (evalT tm x) C)
    (ho : o.op = .load t x) : ResS P X hp z a w o C := by
  obtain ⟨ad, u, v, he, hv, hk, hr⟩ := load_run hΓ h t x hs
  refine ⟨u, v, fun w' st => ?_, hv, hk⟩
  simp [execOp, ho, Instr.loadAt, he, Instr.sureAddr, hr w' st]
theorem s_load (hΓ : CxOk P Γ) (h : Rel X tm hp z a w) (t : Nat) (x : Operand) (hs : stepLoad Γ t hp (evalT tm x) fun v => K ⟨putT tm o.dst v, hp⟩)
    (ho : o.op = .load t x) (hd : ∀ d, o.dst = some d → d < n) (hn : a.tmps.size = n) (hN : Nxt X n K next) : o.wp P a w next Q :=
  (r_load hΓ h t x hs ho).res.fin h hd hn hN

end

end Go.Proofs.Ytkjbgdhpeidocaa.V
