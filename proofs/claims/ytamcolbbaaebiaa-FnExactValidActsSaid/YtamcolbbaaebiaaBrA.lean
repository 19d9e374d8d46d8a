/-
  From what a law reads to deep values: slices of structs as lists of rows; the row's last step.
-/
import Derived.Test.YtamcolbbaaebiaaActD
import Derived.Test.YtamcolbbaaebiaaRows
import Derived.ProofKit
import Derived.Deep.Slices
import Derived.Deep.Fields
import Derived.Below
import Derived.ChangeSame
namespace Go.Proofs.Ytamcolbbaaebiaa.V
open Go Go.RowKit Go.ChangeShapes Go.WideShapes Go.Deep

section
variable {H : Type} {enc : TypeId × Value → H} {P : Program} {w : World} {base : Nat} {spare : Nat → Bool} {held : Bool}

/-- A field's type is of a kind. -/
def kdOk (P : Program) (kd : Kd) (t : TypeId) : Bool :=
  match kd, P.underlying t with
  | .int k, some (.int j) => j == k
  | .bool, some .bool => true
  | .str, some .string => true
  | _, _ => false
def scOf : Option Value → Sc
  | some (.int _ n) => .i n
  | some (.bool b) => .b b
  | some (.string s) => .s s.data.toList
  | _ => .i 0
theorem trod_kd {kd : Kd} {t : TypeId} {fuel : Nat} {v : Value} {y : DataW H × List MemPlace} (hk : kdOk P kd t = true) (h : DataW.trod enc P w base spare held fuel t [v] = some y) : v = kd.val (scOf (some v)) := by
  unfold kdOk at hk
  split at hk
  · rename_i k j hu
    obtain ⟨n, e, _⟩ := DataW.trod_int hu h
    simp only [List.cons.injEq, and_true] at e
    subst e
    have : j = k := by simpa using hk
    subst this
    rfl
  · rename_i hu
    obtain ⟨b, e, _⟩ := DataW.trod_bool hu h
    simp only [List.cons.injEq, and_true] at e
    subst e
    rfl
  · rename_i hu
    obtain ⟨s, e, _⟩ := DataW.trod_string hu h
    simp only [List.cons.injEq, and_true] at e
    subst e
    simp [scOf, Kd.val, Sc.str]
  · cases hk

def kdsOk (P : Program) (fs : Array Field) : Nat → List Kd → Bool
  | _, [] => true
  | j, kd :: r => (match fs[j]? with | some f => kdOk P kd f.type | none => false) && kdsOk P fs (j + 1) r
theorem kdsOk_get {fs : Array Field} : ∀ {l : List Kd} {j c : Nat} {kd : Kd}, kdsOk P fs j l = true → getK l c = some kd → ∃ f, fs[j + c]? = some f ∧ kdOk P kd f.type = true
  | [], _, c, _, _, h => by cases c <;> cases h
  | kd :: r, j, 0, kd', h, hg => by
    simp only [getK, Option.some.injEq] at hg
    subst hg
    simp only [kdsOk, Bool.and_eq_true] at h
    have h := h.1
    rw [Nat.add_zero]
    cases hf : fs[j]? with
    | none => rw [hf] at h; cases h
    | some f => rw [hf] at h; exact ⟨f, rfl, h⟩
  | kd :: r, j, c + 1, kd', h, hg => by
    simp only [getK] at hg
    simp only [kdsOk, Bool.and_eq_true] at h
    obtain ⟨f, h1, h2⟩ := kdsOk_get h.2 hg
    exact ⟨f, by rw [← h1]; congr 1; omega, h2⟩

/-- A slice of structs that a law reads, as a list of rows. -/
theorem open_rows {t e : TypeId} {fs : Array Field} {ks : List Kd} {fuel : Nat} {v : Value} {x : DataW H × List MemPlace} (ht : P.underlying t = some (.slice e)) (he : P.underlying e = some (.struct fs))
    (hone : oneCellFields P fs = true) (hC : P.cellsOf e = fs.size) (hn : fs.size = lenK ks) (hks : kdsOk P fs 0 ks = true)
    (hlt : ∀ p ∈ x.2, p.block < w.heap.size) (hpos : 0 < fs.size)
    (h : DataW.trod enc P w base spare held fuel t v.cells.toList = some x) (hv : ∃ a len cap, v = .slice a len cap) : ∃ xs, ViewR (fun b => b < w.heap.size) w ks xs v ∧ xs.length ≤ maxLen := by
  obtain ⟨a0, l0, c0, rfl⟩ := hv
  rcases open_slice ht h with ⟨hcs, hx⟩ | ⟨a, len, cap, m, n, D, Pl, hcs, hb, hl, hm, hmm, hx, hi⟩
  · simp [Value.cells] at hcs
    obtain ⟨rfl, rfl, rfl⟩ := hcs
    exact ⟨[], ⟨none, 0, rfl, Nat.le_refl _, .inl rfl⟩, by simp⟩
  · simp [Value.cells] at hcs
    obtain ⟨rfl, rfl, rfl⟩ := hcs
    have hmlen : l0 ≤ m := by rw [hmm]; split <;> omega
    refine ⟨(List.range l0).map fun i => (List.range (lenK ks)).map fun c => scOf (w.cell? (a.add (i * fs.size + c))), ⟨some a, c0, by simp, by simp; exact hl, ?_⟩, by simp only [List.length_map, List.length_range]; omega⟩
    rcases Nat.eq_zero_or_pos l0 with h0 | h0
    · left; simp [h0]
    right
    have cell : ∀ i c kd, i < l0 → getK ks c = some kd → ∃ u, w.cell? (a.add (i * fs.size + c)) = some u ∧ u = kd.val (scOf (some u)) := by
      intro i c kd hil hk
      obtain ⟨cs', hc, ht'⟩ := hi i (by omega)
      rw [hC] at hc
      obtain ⟨ys, n', hn', hy, hlen, hyl, hf⟩ := DataW.trod_struct he ht'
      obtain ⟨_, hcl, hat⟩ := World.cells?_some hc
      obtain ⟨f, hj, hkd⟩ := kdsOk_get hks hk
      rw [Nat.zero_add] at hj
      obtain ⟨ho, hkk⟩ := hone_of hone c f hj
      have hjl : c < fs.size := (Array.getElem?_eq_some_iff.1 hj).1
      have hcell := hat c hjl
      have hv : cs'[c]? = some (cs'[c]'(by omega)) := List.getElem?_eq_getElem (by omega)
      have h1 := hf c f hj
      rw [ho, hkk] at h1
      have hone' : (cs'.drop c).take 1 = [cs'[c]'(by omega)] := by
        rw [List.drop_eq_getElem_cons (by omega)]
        rfl
      rw [hone'] at h1
      have hys : ys[c]? = some (ys[c]'(by omega)) := List.getElem?_eq_getElem (by omega)
      refine ⟨cs'[c]'(by omega), ?_, trod_kd hkd (h1.trans hys)⟩
      rw [← Go.Deep.add_add, hcell, hv]
    obtain ⟨b, off, spot⟩ := a
    obtain ⟨kd0, hk0⟩ : ∃ kd, getK ks 0 = some kd := by
      cases ks with
      | nil => exact absurd (hn.trans rfl) (Nat.ne_of_gt hpos)
      | cons kd r => exact ⟨kd, rfl⟩
    obtain ⟨u0, hu0, _⟩ := cell 0 0 kd0 h0 hk0
    have hspot : spot = none := by simpa [Addr.add] using World.cell?_spot hu0
    subst hspot
    refine ⟨b, off, rfl, ?_, ?_⟩
    · have := block_lt_of_cell hu0
      simpa [Addr.add] using this
    · intro i c kd hil hk
      have hil' : i < l0 := by simpa using hil
      obtain ⟨u, hu, hk2⟩ := cell i c kd hil' hk
      have hc : c < lenK ks := getK_lt hk
      have e1 : row ((List.range l0).map fun i => (List.range (lenK ks)).map fun c => scOf (w.cell? ((⟨b, off, none⟩ : Addr).add (i * fs.size + c)))) i = (List.range (lenK ks)).map fun c => scOf (w.cell? ((⟨b, off, none⟩ : Addr).add (i * fs.size + c))) := by
        unfold row
        rw [List.getD_eq_getElem?_getD, List.getElem?_map, List.getElem?_range hil']
        rfl
      rw [e1]
      have e2 : rc ((List.range (lenK ks)).map fun c => scOf (w.cell? ((⟨b, off, none⟩ : Addr).add (i * fs.size + c)))) c = scOf (w.cell? ((⟨b, off, none⟩ : Addr).add (i * fs.size + c))) := by
        unfold rc
        rw [List.getD_eq_getElem?_getD, List.getElem?_map, List.getElem?_range hc]
        rfl
      rw [e2, hu, ← hk2, ← hu, ← hn, Addr.add_lit]
end
end Go.Proofs.Ytamcolbbaaebiaa.V
