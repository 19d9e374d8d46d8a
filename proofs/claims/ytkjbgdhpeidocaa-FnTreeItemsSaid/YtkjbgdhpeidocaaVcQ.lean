/-
  A verified generator of verification conditions over the model's Code, part Q: struct literals, fields of values, bytes of strings; equality of structs.
-/
import Derived.Test.YtkjbgdhpeidocaaVcS
import Derived.Laws.StructEq
set_option linter.unusedSimpArgs false
set_option linter.unusedVariables false
namespace Go.Proofs.Ytkjbgdhpeidocaa.V
open Go Go.RowKit

section
variable {P : Program}
theorem contig_get {fs : Array Field} {tot : Nat} : ∀ (offs : List Nat) (f g : Nat) {off : Nat}, contigAt P fs offs tot g = true → nthN offs f = some off →
    ∃ fd i d, fs[g + f]? = some fd ∧ P.info? fd.type = some i ∧ off + i.size = nextOff offs tot f ∧ P.underlying fd.type = some d ∧ isAggD d = (i.size != 1)
  | [], f, g, off, _, h => by cases f <;> simp [nthN] at h
  | x :: r, 0, g, off, h, h2 => by
    simp only [nthN, Option.some.injEq] at h2
    subst h2
    simp only [contigAt, Bool.and_eq_true] at h
    have h1 := h.1
    cases hf : fs[g]? with
    | none => rw [hf] at h1; simp at h1
    | some fd =>
      rw [hf] at h1
      simp only at h1
      cases hi : P.info? fd.type with
      | none => rw [hi] at h1; simp at h1
      | some i =>
        rw [hi] at h1
        simp only [Bool.and_eq_true, beq_iff_eq] at h1
        obtain ⟨q1, q2⟩ := h1
        cases hu : P.underlying fd.type with
        | none => rw [hu] at q2; simp at q2
        | some d =>
          rw [hu] at q2
          refine ⟨fd, i, d, by simp [hf], hi, ?_, hu, by simpa using q2⟩
          rw [q1]
          cases r with
          | nil => simp [nextOff, nthN]
          | cons y r => simp [nextOff, nthN]
  | x :: r, f + 1, g, off, h, h2 => by
    simp only [nthN] at h2
    simp only [contigAt, Bool.and_eq_true] at h
    obtain ⟨fd, i, d, h3, h4, h5, h6⟩ := contig_get r f (g + 1) h.2 h2
    refine ⟨fd, i, d, by rw [← h3]; congr 1; omega, h4, ?_, h6⟩
    rw [h5]
    simp [nextOff, nthN]
theorem contig_info {fs : Array Field} {tot : Nat} : ∀ (offs : List Nat) (g : Nat), contigAt P fs offs tot g = true → ∀ j fd, g ≤ j → fs[j]? = some fd → ∃ i, P.info? fd.type = some i
  | [], g, h, j, fd, hj, hf => by
    simp only [contigAt, beq_iff_eq] at h
    have := (Array.getElem?_eq_some_iff.1 hf).1
    omega
  | x :: r, g, h, j, fd, hj, hf => by
    simp only [contigAt, Bool.and_eq_true] at h
    rcases Nat.lt_or_ge g j with q | q
    · exact contig_info r (g + 1) h.2 j fd q hf
    · have e : g = j := by omega
      subst e
      have h1 := h.1
      rw [hf] at h1
      simp only at h1
      cases hi : P.info? fd.type with
      | none => rw [hi] at h1; simp at h1
      | some i => exact ⟨i, rfl⟩
def sizeAt (P : Program) (t : TypeId) : Nat := ((P.info? t).map (·.size)).getD 0
/-- Where the fields lie. -/
def placesOf (P : Program) (fs : List Field) : List (Nat × Nat) := fs.map fun f => (f.offset, sizeAt P f.type)
theorem run_places (w : World) : ∀ (fs : List Field), (∀ (j : Nat) (fd : Field), fs[j]? = some fd → ∃ i, P.info? fd.type = some i) →
    (fs.mapM (fun f => (Prod.mk f.offset <$> sizeOf f.type : Sem (Nat × Nat)))).run P w = .ok (placesOf P fs) w
  | [], _ => by simp [placesOf]
  | f :: fs, h => by
    have h1 := run_places w fs (fun j fd hj => h (j + 1) fd (by simpa using hj))
    obtain ⟨i, hi⟩ := h 0 f rfl
    rw [List.mapM_cons]
    simp [run_sizeOf_of hi, h1]
    simp [placesOf, sizeAt, hi]
theorem places_get {fs : Array Field} {j : Nat} {fd : Field} {i : TypeInfo} (h : fs[j]? = some fd) (hi : P.info? fd.type = some i) : (placesOf P fs.toList)[j]? = some (fd.offset, i.size) := by
  have : fs.toList[j]? = some fd := by simpa using h
  simp [placesOf, this, sizeAt, hi]
end

section
variable {P : Program} {Γ : Cx} {X : Fx} {tm : List (Nat × AV)} {hp : List (Option Entry)} {z : Cz} {a : Act} {w w' : World} {n : Nat}
  {K : St → Prop} {next : Act → World → Prop} {Q : Exit → Act → World → Prop} {o : Oper} {ok lv : Nat → Prop}

theorem fill_build {fs : Array Field} {offs : List Nat} {tot : Nat} (hrho : ∀ k, lv k → (z.ρ k).oneCell' = true) (hct : contigAt P fs offs tot 0 = true) (hfa : fieldsAt P fs offs 0 = true)
    (hev : ∀ x : Operand, AVR ok lv w z (evalT tm x) (a.eval x)) :
    ∀ (parts : List (Nat × Operand)) (l l' : List AV) (cells : Array Value), buildAt offs tot l (evalParts tm parts) = some l' → AVRs ok lv w z l cells.toList → (∀ u ∈ cells.toList, u.oneCell' = true) →
    ∃ cells', Instr.fill ((placesOf P fs.toList)[·]?) cells (parts.map fun p => (p.1, a.eval p.2)) = some cells' ∧ AVRs ok lv w z l' cells'.toList ∧ ∀ u ∈ cells'.toList, u.oneCell' = true
  | [], l, l', cells, h, hl, hone => by
    simp only [evalParts, buildAt, Option.some.injEq] at h
    subst h
    exact ⟨cells, rfl, hl, hone⟩
  | (f, x) :: parts, l, l', cells, h, hl, hone => by
    simp only [evalParts, buildAt] at h
    split at h
    case h_2 => cases h
    rename_i off hoff
    split at h
    case isFalse => cases h
    rename_i hst
    split at h
    case isFalse => cases h
    rename_i hsz
    split at h
    case isFalse => cases h
    rename_i hfit
    obtain ⟨fd, i, d, h1, h2, h3, _, _⟩ := contig_get offs f 0 hct hoff
    obtain ⟨fd', i', h1', h2', _, _⟩ := field_at offs f 0 hfa hoff
    rw [Nat.zero_add] at h1 h1'
    rw [h1] at h1'
    cases h1'
    obtain ⟨c1, c2⟩ := AV.cells_rel hrho (hev x) (fun l e => by rw [e] at hst; simp [AV.stored] at hst) (fun e => by rw [e] at hst; simp [AV.stored] at hst) (fun ks xs e => by rw [e] at hst; simp [AV.stored] at hst)
    have hl1 := c1.length
    have hl2 := hl.length
    rw [lenA_eq] at hsz hfit
    rw [lenA_eq] at hfit
    rw [Array.length_toList] at hl1 hl2
    have hpl := places_get h1 h2
    obtain ⟨cells', q1, q2, q3⟩ := fill_build hrho hct hfa hev parts _ l' ((a.eval x).cells.zipIdx.foldl (fun cs (q : Value × Nat) => cs.setIfInBounds (off + q.2) q.1) cells) h (by
      rw [← Array.foldl_toList, Array.toList_zipIdx, fill_one, Nat.add_zero]; exact AVRs.putAt off hl c1) (by
      rw [← Array.foldl_toList, Array.toList_zipIdx, fill_one, Nat.add_zero]
      intro u hu
      rcases storeL_mem _ _ _ _ hu with hu | hu
      · exact hone u hu
      · exact c2 u hu)
    refine ⟨cells', ?_, q2, q3⟩
    simp only [List.map_cons, Instr.fill, hpl]
    rw [if_neg (by simp only [Bool.or_eq_true, decide_eq_true_eq, bne_iff_ne, ne_eq]; rw [h2']; omega), h2']
    exact q1

theorem r_build (hΓ : CxOk P Γ) (h : Rel X tm hp z a w) (t : Nat) (parts : Array (Nat × Operand)) (offs : List Nat) (zr l : List AV) (hT : Γ.τ t = .struct offs zr) (hz : zeroOk zr = true)
    (hb : buildAt offs (lenA zr) zr (evalParts tm parts.toList) = some l) (ho : o.op = .build t parts) (hK : K ⟨putT tm o.dst (.agg l), hp⟩) :
    ResA P X hp z a w o fun v => K ⟨putT tm o.dst v, hp⟩ := by
  have ht := hΓ.tab t
  rw [hT] at ht
  obtain ⟨fs, i, hu, hfa, hi, hsz, hz0⟩ := ti_struct ht
  have hct := ti_contig ht hu
  obtain ⟨z1, z2⟩ := zeroOk_rel (ok := okB X hp z w) (lv := live hp) (w := w) (z := z) zr hz
  have hinfo : ∀ (j : Nat) (fd : Field), fs.toList[j]? = some fd → ∃ i, P.info? fd.type = some i := fun j fd hj => contig_info offs 0 hct j fd (Nat.zero_le _) (by simpa using hj)
  obtain ⟨cells', q1, q2, q3⟩ := fill_build (z := z) (ok := okB X hp z w) (lv := live hp) (w := w) h.rho_one hct hfa h.eval parts.toList zr l (zr.map AV.zval).toArray hb (by simpa using z1) (by simpa using z2)
  refine ⟨.agg cells', .agg l, fun w' => ?_, ?_, hK⟩
  · have hp1 := run_places (P := P) w' fs.toList hinfo
    obtain ⟨fl⟩ := fs
    obtain ⟨pl⟩ := parts
    simp only at hp1 q1
    have hm : ((⟨fl⟩ : Array Field).mapM (fun f => (Prod.mk f.offset <$> sizeOf f.type : Sem (Nat × Nat)))).run P w' = .ok (placesOf P fl).toArray w' := by
      rw [List.mapM_toArray]
      simp [hp1]
    have hq : Instr.fill ((placesOf P fl).toArray[·]?) (zr.map AV.zval).toArray (pl.map fun p => (p.1, a.eval p.2)) = some cells' := by
      rw [← q1]
      congr 1
      funext j
      simp
    simp only [execOp, ho, Instr.build]
    simp only [Sem.run_bind, zeroValue, typeInfo, run_program, hi, hz0, run_underlying hu, Result.andThen_ok]
    simp [hi, hz0, hp1, Value.cells, run_underlying hu]
    have hq' : Instr.fill (fun x => (placesOf P fl)[x]?) (List.map AV.zval zr).toArray (List.map (fun x => (x.fst, a.eval x.snd)) pl) = some cells' := q1
    rw [hq']
    rfl
  · simp only [AVR]
    exact ⟨cells'.toList, by simp, q3, q2⟩

theorem r_buildArr (hΓ : CxOk P Γ) (t : Nat) (parts : Array (Nat × Operand)) (n esz : Nat) (ks : List Kd) (hT : Γ.τ t = .array n esz ks)
    (hb : parts.toList = []) (ho : o.op = .build t parts) (hK : K ⟨putT tm o.dst (.arr ks (List.replicate (n * esz / lenK ks) (zeroRow ks))), hp⟩) :
    ResA P X hp z a w o fun v => K ⟨putT tm o.dst v, hp⟩ := by
  have ht := hΓ.tab t
  rw [hT] at ht
  obtain ⟨e, ie, i, hu, hie, _, _, _, _, hi, _, hz0⟩ := ti_array ht
  obtain ⟨pl⟩ := parts
  simp only at hb
  subst hb
  refine ⟨.agg (flat ks (List.replicate (n * esz / lenK ks) (zeroRow ks))).toArray, .arr ks (List.replicate (n * esz / lenK ks) (zeroRow ks)), fun w' => ?_, by simp only [AVR], hK⟩
  simp only [execOp, ho, Instr.build]
  simp [Sem.run_bind, zeroValue, typeInfo, run_program, hi, hz0, run_underlying hu, sizeOf, hie, Value.cells, Instr.fill]
theorem AVRs.sub : ∀ {l : List AV} {vs : List Value} (c n : Nat), AVRs ok lv w z l vs → AVRs ok lv w z ((l.drop c).take n) ((vs.drop c).take n) :=
  fun c n h => (h.drop c).take n
theorem r_field {C : AV → Prop} (hΓ : CxOk P Γ) (h : Rel X tm hp z a w) (t f : Nat) (x : Operand) (hs : stepField Γ t (evalT tm x) f C)
    (ho : o.op = .field t x f) : ResA P X hp z a w o C := by
  have hx := h.eval x
  generalize evalT tm x = vx at hs hx
  unfold stepField at hs
  split at hs
  case h_2 => exact hs.elim
  rename_i offs zr hT
  have ht := hΓ.tab t
  rw [hT] at ht
  obtain ⟨fs, i, hu, hfa, hi, hsz, hz0⟩ := ti_struct ht
  have hct := ti_contig ht hu
  split at hs
  case h_2 => exact hs.elim
  rename_i l
  split at hs
  case h_2 => exact hs.elim
  rename_i off hoff
  split at hs
  case isFalse => exact hs.elim
  rename_i hle
  obtain ⟨fd, ii, d, h1, h2, h3, h4, h5⟩ := contig_get offs f 0 hct hoff
  obtain ⟨fd', i', h1', h2', h3', h4'⟩ := field_at offs f 0 hfa hoff
  rw [Nat.zero_add] at h1 h1'
  rw [h1] at h1'
  cases h1'
  rw [h2] at h3'
  cases h3'
  simp only [AVR] at hx
  obtain ⟨vs, hx, hone, hl⟩ := hx
  have hlen := hl.length
  rw [lenA_eq l] at hle
  split at hs
  · rename_i hn
    have hsz1 : ii.size = 1 := by omega
    obtain ⟨u, hu1, hu2⟩ := hl.get off (by omega)
    refine ⟨u, getA l off, fun w' => ?_, hu2, hs⟩
    have hagg : isAggD d = false := by rw [h5, hsz1]; rfl
    simp [execOp, ho, hx, Instr.field, run_underlying hu, h1, asAgg, part, run_isAgg_of h4, hagg, h2', hu1]
  · rename_i hn
    have hagg : isAggD d = true := by rw [h5]; simp; omega
    rw [takeA_eq, dropA_eq] at hs
    refine ⟨.agg (vs.toArray.extract off (off + ii.size)), _, fun w' => ?_, ?_, hs⟩
    · simp [execOp, ho, hx, Instr.field, run_underlying hu, h1, asAgg, part, run_isAgg_of h4, hagg, h2', run_sizeOf_of h2]
    · simp only [AVR]
      refine ⟨(vs.drop off).take (nextOff offs (lenA zr) f - off), ?_, fun u hu => hone u (List.mem_of_mem_drop (List.mem_of_mem_take hu)), hl.sub _ _⟩
      congr 1
      rw [← h3]
      apply Array.ext'
      simp [List.extract_eq_take_drop, Nat.add_sub_cancel_left]

theorem r_index {C : AV → Prop} (hΓ : CxOk P Γ) (h : Rel X tm hp z a w) (t : Nat) (x ix : Operand) (hs : stepIndex Γ t (evalT tm x) (evalT tm ix) C)
    (ho : o.op = .index t x ix) : ResA P X hp z a w o C := by
  have hx := h.eval x
  have hi := h.eval ix
  generalize evalT tm x = vx at hs hx
  generalize evalT tm ix = vi at hs hi
  unfold stepIndex at hs
  split at hs
  case h_2 => exact hs.elim
  rename_i k i
  have ei := hi.of_int
  split at hs
  · rename_i hT
    split at hs
    case h_2 => exact hs.elim
    rename_i l
    obtain ⟨⟨h0, h1⟩, hs⟩ := hs
    have ex := hx.of_str
    have ht := hΓ.tab t
    rw [hT] at ht
    have hu : P.underlying t = some .string := by
      simp only [checkTI, Bool.and_eq_true] at ht
      have := ht.1
      cases hu : P.underlying t with
      | none => rw [hu] at this; simp at this
      | some d => rw [hu] at this; cases d <;> simp at this; rfl
    have hlt : i.toNat < l.length := by omega
    have hb : (⟨l.toArray⟩ : ByteArray)[i.toNat]? = some (l.getD i.toNat 0) := by
      have : i.toNat < (⟨l.toArray⟩ : ByteArray).size := by show i.toNat < l.toArray.size; simpa using hlt
      rw [getElem?_pos (⟨l.toArray⟩ : ByteArray) i.toNat this]
      congr 1
      show l.toArray[i.toNat] = _
      rw [List.getElem_toArray, List.getD_eq_getElem?_getD, List.getElem?_eq_getElem hlt]
      rfl
    refine ⟨.int .u8 (byteAt l i.toNat), _, fun w' => ?_, by simp only [AVR], hs⟩
    simp [execOp, ho, ex, ei, Instr.index, asIntOf, run_underlying hu, h0, hb, byteAt]
  · exact hs.elim
end

end Go.Proofs.Ytkjbgdhpeidocaa.V
