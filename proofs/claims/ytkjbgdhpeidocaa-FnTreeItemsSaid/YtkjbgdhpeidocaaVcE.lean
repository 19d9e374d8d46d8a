/-
  A verified generator of verification conditions over the model's Code, part E: what is told of types, and the elementary operations on memory.
-/
import Derived.Test.YtkjbgdhpeidocaaVcD
set_option linter.unusedSimpArgs false
set_option linter.unusedVariables false
namespace Go.Proofs.Ytkjbgdhpeidocaa.V
open Go Go.RowKit

/-- A zero value's cell, as the model has it. -/
def AV.zval : AV → Value
  | .int k n => .int k n
  | .bool b => .bool b
  | .str l => .string ⟨l.toArray⟩
  | .nil _ => .slice none 0 0
  | _ => .tuple #[]
def sameVal : Value → Value → Bool
  | .int k n, .int j m => k == j && n == m
  | .bool b, .bool c => b == c
  | .string s, .string t => s.data.toList == t.data.toList
  | .slice none a b, .slice none c d => a == c && b == d
  | _, _ => false
def sameVals : List Value → List Value → Bool
  | [], [] => true
  | v :: l, u :: m => sameVal v u && sameVals l m
  | _, _ => false
theorem sameVal_eq {v u : Value} (h : sameVal v u = true) : v = u := by
  unfold sameVal at h
  split at h <;> simp_all
  rename_i s t
  cases s; cases t
  simp_all [Array.ext_iff]
theorem sameVals_eq : ∀ {l m : List Value}, sameVals l m = true → l = m
  | [], [], _ => rfl
  | v :: l, u :: m, h => by
    simp only [sameVals, Bool.and_eq_true] at h
    rw [sameVal_eq h.1, sameVals_eq h.2]
  | [], _ :: _, h => by simp [sameVals] at h
  | _ :: _, [], h => by simp [sameVals] at h

def isAggD (d : TypeDesc) : Bool := match d with | .struct _ | .array _ _ => true | _ => false

def zeroAt (P : Program) (t : Nat) (n : Nat) (zs : List Value) (agg : Bool) : Bool :=
  match P.info? t with
  | some i => i.size == n && (match i.zero with
    | some (.agg cs) => agg && sameVals cs.toList zs
    | some v => !agg && sameVals [v] zs
    | none => false)
  | none => false
def fieldsAt (P : Program) (fs : Array Field) : List Nat → Nat → Bool
  | [], _ => true
  | o :: r, f => (match fs[f]? with
    | some fd => fd.offset == o && (match P.info? fd.type with
      | some i => i.size != 0
      | none => false)
    | none => false) && fieldsAt P fs r (f + 1)

/-- The fields of a struct lie one behind the other and fill it. -/
def contigAt (P : Program) (fs : Array Field) : List Nat → Nat → Nat → Bool
  | [], _, f => f == fs.size
  | o :: r, tot, f => (match fs[f]? with
    | some fd => match P.info? fd.type with
      | some i => (o + i.size == (match r with
        | [] => tot
        | o2 :: _ => o2)) && (match P.underlying fd.type with
        | some d => isAggD d == (i.size != 1)
        | none => false)
      | none => false
    | none => false) && contigAt P fs r tot (f + 1)

/-- What is told of a type is so, by looking it up. -/
def checkTI (P : Program) (t : Nat) : TI → Bool
  | .int k => (match P.underlying t with | some (.int j) => j == k | _ => false) && zeroAt P t 1 [.int k 0] false
  | .bool => (match P.underlying t with | some .bool => true | _ => false) && zeroAt P t 1 [.bool false] false
  | .str => (match P.underlying t with | some .string => true | _ => false) && zeroAt P t 1 [.string ⟨#[]⟩] false
  | .slice e esz eb ks => (match P.underlying t with | some (.slice f) => f == e | _ => false) && zeroAt P t 1 [.slice none 0 0] false &&
      (match P.info? e with
      | some i => i.size == esz && i.bytes == eb && (match ks with
        | [] => true
        | _ => esz == lenK ks && (match i.zero with
          | some z => sameVals z.cells.toList (rowVals ks (zeroRow ks) 0)
          | none => false))
      | none => false)
  | .struct offs zero => (match P.underlying t with | some (.struct fs) => fieldsAt P fs offs 0 | _ => false) && zeroAt P t (lenA zero) (zero.map AV.zval) true && (match P.underlying t with | some (.struct fs) => contigAt P fs offs (lenA zero) 0 | _ => false)
  | .array n esz ks => (match P.underlying t with
      | some (.array m e) => m == n && (match P.info? e with
        | some i => i.size == esz
        | none => false)
      | _ => false) && lenK ks != 0 && esz % lenK ks == 0 && decide (1 < n ∧ 0 < esz) && zeroAt P t (n * esz) (flat ks (List.replicate (n * esz / lenK ks) (zeroRow ks))) true
  | .ptr => (match P.underlying t with | some (.pointer _) => true | _ => false) && (match P.info? t with | some i => i.size == 1 | none => false)
  | .other => true

def TabOk (P : Program) (τ : Nat → TI) : Prop := ∀ t, checkTI P t (τ t) = true

section
variable {P : Program} {w : World}

theorem zeroAt_plain {t n : Nat} {v : Value} (h : zeroAt P t n [v] false = true) : ∃ i, P.info? t = some i ∧ i.size = n ∧ i.zero = some v := by
  unfold zeroAt at h
  cases hi : P.info? t with
  | none => simp [hi] at h
  | some i =>
    refine ⟨i, rfl, ?_⟩
    simp only [hi, Bool.and_eq_true, beq_iff_eq] at h
    refine ⟨h.1, ?_⟩
    cases hz : i.zero with
    | none => simp [hz] at h
    | some z =>
      have h2 := h.2
      rw [hz] at h2
      cases z <;> simp at h2 <;> (have := sameVals_eq h2; simp at this; rw [this])
theorem zeroAt_agg {t n : Nat} {zs : List Value} (h : zeroAt P t n zs true = true) : ∃ i, P.info? t = some i ∧ i.size = n ∧ i.zero = some (.agg zs.toArray) := by
  unfold zeroAt at h
  cases hi : P.info? t with
  | none => simp [hi] at h
  | some i =>
    refine ⟨i, rfl, ?_⟩
    simp only [hi, Bool.and_eq_true, beq_iff_eq] at h
    refine ⟨h.1, ?_⟩
    cases hz : i.zero with
    | none => simp [hz] at h
    | some z =>
      have h2 := h.2
      rw [hz] at h2
      cases z <;> simp at h2
      have := sameVals_eq h2
      subst this
      simp

theorem run_isAgg_of {t : Nat} {d : TypeDesc} (h : P.underlying t = some d) : (isAgg t).run P w = .ok (isAggD d) w := by
  cases d <;> simp [isAgg, run_underlying h, isAggD]
theorem run_sizeOf_of {t : Nat} {i : TypeInfo} (h : P.info? t = some i) : (sizeOf t).run P w = .ok i.size w := by
  simp [sizeOf, typeInfo, h]

/-- A plain variable is loaded. -/
theorem run_loadVar_one {t : Nat} {d : TypeDesc} (h : P.underlying t = some d) (hd : isAggD d = false)
    {a : Addr} {v : Value} (hc : w.cell? a = some v) : (loadVar t a).run P w = .ok v w := by
  simp [loadVar, run_isAgg_of h, hd, hc]
theorem run_loadVar_many {t : Nat} {d : TypeDesc} {i : TypeInfo} (h : P.underlying t = some d) (hd : isAggD d = true)
    (hi : P.info? t = some i) {b o : Nat} {vs : List Value} (hn : i.size = vs.length) (hc : ∀ j v, vs[j]? = some v → w.cell? ⟨b, o + j, none⟩ = some v) :
    (loadVar t ⟨b, o, none⟩).run P w = .ok (.agg vs.toArray) w := by
  have hl := run_loadCells_list (P := P) w ⟨b, o, none⟩ vs (fun j v hj => by rw [Addr.add_lit]; exact hc j v hj)
  simp [loadVar, run_isAgg_of h, hd, run_sizeOf_of hi, hn, hl]

/-- Cells laid over a list from a place on. -/
def storeL : List Value → Nat → List Value → List Value
  | l, _, [] => l
  | l, o, v :: vs => storeL (l.set o v) (o + 1) vs
theorem storeL_length : ∀ (vs : List Value) (l : List Value) (o : Nat), (storeL l o vs).length = l.length
  | [], _, _ => rfl
  | v :: vs, l, o => by simp [storeL, storeL_length vs]
theorem storeL_take : ∀ (vs : List Value) (l : List Value) (o m : Nat), (storeL l o vs).take m = storeL (l.take m) o vs
  | [], _, _, _ => rfl
  | v :: vs, l, o, m => by simp [storeL, storeL_take vs, List.take_set]
theorem storeL_mem : ∀ (vs : List Value) (l : List Value) (o : Nat) (u : Value), u ∈ storeL l o vs → u ∈ l ∨ u ∈ vs
  | [], _, _, u, h => .inl h
  | v :: vs, l, o, u, h => by
    rcases storeL_mem vs _ _ u h with h | h
    · rcases List.mem_or_eq_of_mem_set h with h | h
      · exact .inl h
      · exact .inr (by simp [h])
    · exact .inr (by simp [h])

/-- Cells are stored, one behind the other, into a block that may be written. -/
theorem run_storeCells (g : Nat) (T : TypeId) : ∀ (vs : List Value) (o i : Nat) (cur : Array Value) (w : World), w.heap[g]? = some (.cells cur T (0, 0)) →
    o + i + vs.length ≤ cur.size → (∀ v ∈ vs, v.oneCell' = true) →
    ∃ w' cur', (storeCells ⟨g, o, none⟩ vs i).run P w = .ok () w' ∧ w'.heap[g]? = some (.cells cur' T (0, 0)) ∧
      cur'.toList = storeL cur.toList (o + i) vs ∧ Stp (fun b => some g = some b) w w'
  | [], o, i, cur, w, hg, _, _ => ⟨w, cur, by simp [storeCells], hg, rfl, Stp.refl _ _⟩
  | v :: vs, o, i, cur, w, hg, hl, h1 => by
    simp only [List.length_cons] at hl
    have hc : w.cell? ⟨g, o + i, none⟩ = some (cur[o + i]'(by omega)) := by
      rw [cell_of_row w g (o + i) cur T (0, 0) hg]; simp
    have hf : w.frozen? ⟨g, o + i, none⟩ = false := frozen_of_row w g (o + i) cur T hg
    have hs := heap_setCell_same w g (o + i) cur T v hg
    obtain ⟨w', cur', hr, hh, hj, hst⟩ := run_storeCells g T vs o (i + 1) (cur.setIfInBounds (o + i) v) (w.setCell ⟨g, o + i, none⟩ v) hs (by simp; omega) (fun u hu => h1 u (by simp [hu]))
    refine ⟨w', cur', ?_, hh, ?_, Stp.trans (b := w.setCell ⟨g, o + i, none⟩ v) ⟨rfl, rfl, rfl, by simp, fun b _ hb => heap_setCell_other w ⟨g, o + i, none⟩ b v (fun e => hb (by simp [e]))⟩ hst⟩
    · simp only [storeCells, Addr.add_lit]
      have := run_store P w ⟨g, o + i, none⟩ v .plain (h1 v (by simp))
      simp [this, hc, hf, hr]
    · rw [hj, Array.toList_setIfInBounds]
      rfl
end

end Go.Proofs.Ytkjbgdhpeidocaa.V
