/-
  From what a law reads to deep values: plain cells, slices of plain cells, structs of these; the row's last step.
-/
import Derived.Test.YtkjbgdhpeidocaaCom
import Derived.ProofKit
import Derived.Deep.Slices
import Derived.Deep.Fields
import Derived.Below
import Derived.ChangeSame
set_option linter.unusedSimpArgs false
set_option linter.unusedVariables false
namespace Go.Proofs.Ytkjbgdhpeidocaa.V
open Go Go.RowKit Go.ChangeShapes Go.WideShapes Go.Deep

/-- The kinds of the cells of a type of plain cells. -/
def flatFs (P : Program) (g : TypeId → Option (List Kd)) : List Field → Nat → Option (List Kd)
  | [], _ => some []
  | f :: r, off => if f.offset = off then match g f.type with
    | some ks => if P.cellsOf f.type = lenK ks then (match flatFs P g r (off + lenK ks) with
        | some js => some (ks ++ js)
        | none => none) else none
    | none => none else none
def flatK (P : Program) : Nat → TypeId → Option (List Kd)
  | 0, _ => none
  | d + 1, t => match P.underlying t with
    | some (.int k) => some [.int k]
    | some .bool => some [.bool]
    | some .string => some [.str]
    | some (.struct fs) => match flatFs P (flatK P d) fs.toList 0 with
      | some ks => if P.cellsOf t = lenK ks then some ks else none
      | none => none
    | _ => none
/-- What a cell can hold. -/
def KdFit : Kd → Sc → Prop
  | .int k, s => Fits k s.int
  | .bool, _ => True
  | .str, s => s.str.length ≤ maxLen
structure RowOk (ks : List Kd) (r : Row) : Prop where
  h : ∀ c kd, getK ks c = some kd → KdFit kd (rc r c)
theorem rowOk_append {a b : List Kd} {r s : Row} (hl : r.length = lenK a) (h1 : RowOk a r) (h2 : RowOk b s) : RowOk (a ++ b) (r ++ s) := ⟨by
  intro c kd hk
  rw [getK_eq] at hk
  rw [lenK_eq] at hl
  rcases Nat.lt_or_ge c a.length with h | h
  · rw [List.getElem?_append_left h] at hk
    have := h1.h c kd (by rw [getK_eq]; exact hk)
    unfold rc at this ⊢
    rw [List.getD_eq_getElem?_getD] at this ⊢
    rw [List.getElem?_append_left (by omega)]; exact this
  · rw [List.getElem?_append_right h] at hk
    have := h2.h (c - a.length) kd (by rw [getK_eq]; exact hk)
    unfold rc at this ⊢
    rw [List.getD_eq_getElem?_getD] at this ⊢
    rw [List.getElem?_append_right (by omega), hl]; exact this⟩

theorem rowVals_shift : ∀ (ks : List Kd) (p r : Row), rowVals ks (p ++ r) p.length = rowVals ks r 0 := by
  have gen : ∀ (ks : List Kd) (p r : Row) (c : Nat), rowVals ks (p ++ r) (p.length + c) = rowVals ks r c := by
    intro ks
    induction ks with
    | nil => intros; rfl
    | cons k ks ih =>
      intro p r c
      simp only [rowVals]
      rw [Nat.add_assoc, ih]
      congr 2
      unfold rc
      rw [List.getD_eq_getElem?_getD, List.getD_eq_getElem?_getD, List.getElem?_append_right (by omega)]
      congr 2
      omega
  intro ks p r
  simpa using gen ks p r 0
theorem rowVals_left : ∀ (ks : List Kd) (r s : Row) (c : Nat), c + lenK ks ≤ r.length → rowVals ks (r ++ s) c = rowVals ks r c
  | [], _, _, _, _ => rfl
  | k :: ks, r, s, c, h => by
    simp only [lenK] at h
    simp only [rowVals]
    rw [rowVals_left ks r s (c + 1) (by omega)]
    congr 2
    unfold rc
    rw [List.getD_eq_getElem?_getD, List.getD_eq_getElem?_getD, List.getElem?_append_left (by omega)]

section
variable {H : Type} {enc : TypeId × Value → H} {P : Program} {w : World} {base : Nat} {spare : Nat → Bool} {held : Bool}

def KdTy (P : Program) (t : TypeId) (kd : Kd) : Prop := match kd with | .int k => P.underlying t = some (.int k) | .bool => P.underlying t = some .bool | .str => P.underlying t = some .string
theorem trod_plain {kd : Kd} {t : TypeId} {fuel : Nat} {cs : List Value} {y : DataW H × List MemPlace}
    (hk : KdTy P t kd)
    (h : DataW.trod enc P w base spare held fuel t cs = some y) : ∃ s, cs = [kd.val s] ∧ KdFit kd s := by
  unfold KdTy at hk
  cases kd with
  | int k =>
    obtain ⟨n, e, _, hw⟩ := DataW.trod_int hk h
    refine ⟨.i n, e, ?_⟩
    simp [Lit.wf] at hw
    exact ⟨hw.1, hw.2⟩
  | bool =>
    obtain ⟨b, e, _⟩ := DataW.trod_bool hk h
    exact ⟨.b b, e, trivial⟩
  | str =>
    obtain ⟨s, e, _, hl⟩ := DataW.trod_string hk h
    refine ⟨.s s.data.toList, by rw [e]; simp [Kd.val, Sc.str], ?_⟩
    simp only [KdFit, Sc.str_s, Array.length_toList]
    exact hl

theorem trod_flatFs {g : TypeId → Option (List Kd)} {n : Nat} {cs : List Value} (hg : ∀ (t : TypeId) (ks : List Kd) (cs : List Value) (y : DataW H × List MemPlace), g t = some ks → DataW.trod enc P w base spare held n t cs = some y → ∃ r : Row, r.length = lenK ks ∧ cs = rowVals ks r 0 ∧ RowOk ks r) :
    ∀ (fs : List Field) (off : Nat) (ks : List Kd), flatFs P g fs off = some ks → (∀ f ∈ fs, ∃ y, DataW.trod enc P w base spare held n f.type ((cs.drop f.offset).take (P.cellsOf f.type)) = some y) → off + lenK ks = cs.length →
    ∃ r : Row, r.length = lenK ks ∧ cs.drop off = rowVals ks r 0 ∧ RowOk ks r
  | [], off, ks, h, _, hl => by
    simp only [flatFs, Option.some.injEq] at h
    subst h
    simp only [lenK, Nat.add_zero] at hl
    exact ⟨[], rfl, by simp [hl, rowVals], ⟨fun c kd hk => by cases c <;> simp [getK] at hk⟩⟩
  | f :: fs, off, ks, h, hf, hl => by
    simp only [flatFs] at h
    split at h
    case isFalse => cases h
    rename_i hoff
    split at h
    case h_2 => cases h
    rename_i k1 hk1
    split at h
    case isFalse => cases h
    rename_i hc
    split at h
    case h_2 => cases h
    rename_i k2 hk2
    simp only [Option.some.injEq] at h
    subst h
    rw [lenK_append] at hl
    obtain ⟨y, hy⟩ := hf f (by simp)
    obtain ⟨r1, a1, a2, a3⟩ := hg f.type k1 _ y hk1 hy
    obtain ⟨r2, b1, b2, b3⟩ := trod_flatFs hg fs (off + lenK k1) k2 hk2 (fun f hf' => hf f (by simp [hf'])) (by omega)
    refine ⟨r1 ++ r2, by rw [List.length_append, lenK_append, a1, b1], ?_, rowOk_append a1 a3 b3⟩
    rw [rowVals_append, rowVals_left k1 r1 r2 0 (by omega), Nat.zero_add, ← a1, rowVals_shift, ← b2, ← a2, hoff, hc]
    rw [show List.drop (off + lenK k1) cs = List.drop (lenK k1) (List.drop off cs) by rw [List.drop_drop]]
    exact (List.take_append_drop _ _).symm

theorem trod_flat : ∀ (d : Nat) (t : TypeId) (ks : List Kd) (fuel : Nat) (cs : List Value) (y : DataW H × List MemPlace), flatK P d t = some ks → DataW.trod enc P w base spare held fuel t cs = some y →
    ∃ r : Row, r.length = lenK ks ∧ cs = rowVals ks r 0 ∧ RowOk ks r
  | 0, _, _, _, _, _, h, _ => by simp [flatK] at h
  | d + 1, t, ks, fuel, cs, y, h, ht => by
    have one : ∀ (kd : Kd), KdTy P t kd → ks = [kd] →
        ∃ r : Row, r.length = lenK ks ∧ cs = rowVals ks r 0 ∧ RowOk ks r := by
      intro kd hu e
      subst e
      obtain ⟨s, e, hf⟩ := trod_plain hu ht
      refine ⟨[s], rfl, by rw [e]; rfl, ⟨fun c kd' hk => ?_⟩⟩
      cases c with
      | zero => simp only [getK, Option.some.injEq] at hk; subst hk; exact hf
      | succ c => simp [getK] at hk
    simp only [flatK] at h
    split at h
    · rename_i k hu; exact one (.int k) hu (by cases h; rfl)
    · rename_i hu; exact one .bool hu (by cases h; rfl)
    · rename_i hu; exact one .str hu (by cases h; rfl)
    · rename_i fs hu
      split at h
      case h_2 => cases h
      rename_i ks' hks
      split at h
      case isFalse => cases h
      rename_i hc
      simp only [Option.some.injEq] at h
      subst h
      obtain ⟨ys, n, hn, _, hlen, hyl, hf⟩ := DataW.trod_struct hu ht
      have := trod_flatFs (cs := cs) (n := n) (fun t ks cs y h1 h2 => trod_flat d t ks n cs y h1 h2) fs.toList 0 ks' hks (fun f hf' => by
        obtain ⟨i, hi⟩ := List.mem_iff_getElem?.1 hf'
        have hi' : fs[i]? = some f := by simpa using hi
        have hlt : i < fs.size := (Array.getElem?_eq_some_iff.1 hi').1
        have := hf i f hi'
        exact ⟨ys[i]'(by omega), by rw [this]; exact List.getElem?_eq_getElem (by omega)⟩) (by rw [hlen, hc, Nat.zero_add])
      simpa using this
    · cases h

/-- A slice of plain cells that a law reads, al a list of rows. -/
theorem open_flat {t e : TypeId} {ks : List Kd} {fuel : Nat} {v : Value} {x : DataW H × List MemPlace} (ht : P.underlying t = some (.slice e)) (hfl : flatK P 50 e = some ks) (hC : P.cellsOf e = lenK ks) (hpos : 0 < lenK ks)
    (h : DataW.trod enc P w base spare held fuel t [v] = some x) (hv : ∃ a len cap, v = .slice a len cap) : ∃ xs, ViewR (fun b => b < w.heap.size) w ks xs v ∧ xs.length ≤ maxLen ∧ ∀ i, i < xs.length → RowOk ks (row xs i) := by
  obtain ⟨a0, l0, c0, rfl⟩ := hv
  rcases open_slice ht h with ⟨hcs, hx⟩ | ⟨a, len, cap, m, n, D, Pl, hcs, hb, hl, hm, hmm, hx, hi⟩
  · simp at hcs
    obtain ⟨rfl, rfl, rfl⟩ := hcs
    exact ⟨[], ⟨none, 0, rfl, Nat.le_refl _, .inl rfl⟩, by simp, fun i hi => by simp at hi⟩
  · simp at hcs
    obtain ⟨rfl, rfl, rfl⟩ := hcs
    have hmlen : l0 ≤ m := by rw [hmm]; split <;> omega
    have key : ∀ i, i < l0 → ∃ r : Row, r.length = lenK ks ∧ RowOk ks r ∧ ∀ c kd, getK ks c = some kd → w.cell? (a.add (i * lenK ks + c)) = some (kd.val (rc r c)) := by
      intro i hil
      obtain ⟨cs', hc, ht'⟩ := hi i (by omega)
      rw [hC] at hc
      obtain ⟨r, h1, h2, h3⟩ := trod_flat 50 e ks _ cs' _ hfl ht'
      obtain ⟨_, hcl, hat⟩ := World.cells?_some hc
      refine ⟨r, h1, h3, fun c kd hk => ?_⟩
      have hcell := hat c (getK_lt hk)
      rw [← Go.Deep.add_add, hcell, h2]
      have := rowVals_get ks r 0 c kd hk
      rwa [Nat.zero_add] at this
    have hrows : ∃ xs : List Row, xs.length = l0 ∧ ∀ i, i < l0 → RowOk ks (row xs i) ∧ ∀ c kd, getK ks c = some kd → w.cell? (a.add (i * lenK ks + c)) = some (kd.val (rc (row xs i) c)) := by
      have gen : ∀ n, n ≤ l0 → ∃ xs : List Row, xs.length = n ∧ ∀ i, i < n → RowOk ks (row xs i) ∧ ∀ c kd, getK ks c = some kd → w.cell? (a.add (i * lenK ks + c)) = some (kd.val (rc (row xs i) c)) := by
        intro n
        induction n with
        | zero => intro _; exact ⟨[], rfl, fun i hi => by omega⟩
        | succ n ih =>
          intro hn
          obtain ⟨xs, e1, e2⟩ := ih (by omega)
          obtain ⟨r, _, q2, q3⟩ := key n (by omega)
          refine ⟨xs ++ [r], by simp [e1], fun i hi => ?_⟩
          rcases Nat.lt_or_ge i n with h4 | h4
          · rw [row_append, if_pos (by omega)]; exact e2 i h4
          · have : i = n := by omega
            subst this
            rw [row_append, if_neg (by omega), e1, Nat.sub_self]
            exact ⟨q2, q3⟩
      exact gen l0 (Nat.le_refl _)
    obtain ⟨xs, e1, e2⟩ := hrows
    refine ⟨xs, ⟨some a, c0, by rw [e1], by rw [e1]; exact hl, ?_⟩, by rw [e1]; exact Nat.le_trans hl hm, fun i hi => (e2 i (by omega)).1⟩
    rcases Nat.eq_zero_or_pos l0 with h0 | h0
    · left; exact List.length_eq_zero_iff.1 (by omega)
    right
    obtain ⟨b, off, spot⟩ := a
    obtain ⟨kd0, hk0⟩ : ∃ kd, getK ks 0 = some kd := by
      cases ks with
      | nil => simp [lenK] at hpos
      | cons kd r => exact ⟨kd, rfl⟩
    have hu0 := (e2 0 h0).2 0 kd0 hk0
    have hspot : spot = none := by simpa [Addr.add] using World.cell?_spot hu0
    subst hspot
    refine ⟨b, off, rfl, ?_, ?_⟩
    · have := block_lt_of_cell hu0
      simpa [Addr.add] using this
    · intro i c kd hil hk
      have := (e2 i (by omega)).2 c kd hk
      rwa [Addr.add_lit] at this

/-- A slice of slices of plain cells that a law reads. -/
theorem open_nest {t e f : TypeId} {ks : List Kd} {fuel : Nat} {v : Value} {x : DataW H × List MemPlace} (ht : P.underlying t = some (.slice e)) (he : P.underlying e = some (.slice f)) (hc : P.cellsOf e = 1) (hfl : flatK P 50 f = some ks) (hC : P.cellsOf f = lenK ks) (hpos : 0 < lenK ks)
    (h : DataW.trod enc P w base spare held fuel t [v] = some x) : ∃ xss, NestR (fun b => b < w.heap.size) w ks xss v ∧ xss.length ≤ maxLen ∧ ∀ i, (xss.getD i []).length ≤ maxLen := by
  rcases open_slice1 ht hc h with ⟨hcs, hx⟩ | ⟨a, len, cap, m, n, V, D, Pl, hcs, hb, hl, hm, hmm, hx, hi⟩
  · simp at hcs
    subst hcs
    exact ⟨[], ⟨none, 0, rfl, Nat.le_refl _, .inl rfl⟩, by simp, fun i => by simp⟩
  · simp at hcs
    subst hcs
    have hmlen : len ≤ m := by rw [hmm]; split <;> omega
    have key : ∀ i, i < len → ∃ xs : List Row, xs.length ≤ maxLen ∧ w.cell? (a.add i) = some (V i) ∧ ViewR (fun b => b < w.heap.size) w ks xs (V i) := by
      intro i hil
      obtain ⟨h1, h2⟩ := hi i (by omega)
      have hv : ∃ a len cap, V i = .slice a len cap := by
        rcases open_slice he h2 with ⟨hcs, _⟩ | ⟨a, len, cap, _, _, _, _, hcs, _⟩
        · simp at hcs; exact ⟨_, _, _, hcs⟩
        · simp at hcs; exact ⟨_, _, _, hcs⟩
      obtain ⟨xs, q1, q2, _⟩ := open_flat he hfl hC hpos h2 hv
      exact ⟨xs, q2, h1, q1⟩
    have gen : ∀ n, n ≤ len → ∃ xss : List (List Row), xss.length = n ∧ (∀ i, (xss.getD i []).length ≤ maxLen) ∧ ∀ i, i < n → w.cell? (a.add i) = some (V i) ∧ ViewR (fun b => b < w.heap.size) w ks (xss.getD i []) (V i) := by
      intro n
      induction n with
      | zero => intro _; exact ⟨[], rfl, fun i => by simp, fun i hi => by omega⟩
      | succ n ih =>
        intro hn
        obtain ⟨xss, e1, e2, e3⟩ := ih (by omega)
        obtain ⟨xs, q1, q2, q3⟩ := key n (by omega)
        have hget : ∀ i, (xss ++ [xs]).getD i [] = if i < n then xss.getD i [] else if i = n then xs else [] := by
          intro i
          rw [List.getD_eq_getElem?_getD, List.getD_eq_getElem?_getD]
          rcases Nat.lt_trichotomy i n with h4 | h4 | h4
          · rw [if_pos h4, List.getElem?_append_left (by omega)]
          · rw [if_neg (by omega), if_pos h4, List.getElem?_append_right (by omega), h4, e1]; simp
          · rw [if_neg (by omega), if_neg (by omega), List.getElem?_append_right (by omega), List.getElem?_eq_none (by simp; omega)]; rfl
        refine ⟨xss ++ [xs], by simp [e1], fun i => ?_, fun i hi => ?_⟩
        · rw [hget]
          split
          · exact e2 i
          · split
            · exact q1
            · simp
        · rw [hget]
          split
          · rename_i h4; exact e3 i h4
          · have : i = n := by omega
            subst this
            rw [if_pos rfl]; exact ⟨q2, q3⟩
    obtain ⟨xss, e1, e2, e3⟩ := gen len (Nat.le_refl _)
    refine ⟨xss, ⟨some a, cap, by rw [e1], by rw [e1]; exact hl, ?_⟩, by rw [e1]; exact Nat.le_trans hl hm, e2⟩
    rcases Nat.eq_zero_or_pos len with h0 | h0
    · left; exact List.length_eq_zero_iff.1 (by omega)
    right
    obtain ⟨b, off, spot⟩ := a
    have hu0 := (e3 0 h0).1
    have hspot : spot = none := by simpa [Addr.add] using World.cell?_spot hu0
    subst hspot
    refine ⟨b, off, rfl, ?_, fun i hi => ?_⟩
    · have := block_lt_of_cell hu0
      simpa [Addr.add] using this
    · obtain ⟨q1, q2⟩ := e3 i (by omega)
      exact ⟨V i, by rwa [Addr.add_lit] at q1, q2⟩

/-- What a cell of an argument is. -/
inductive CK where
  | k (kd : Kd)
  | s (ks : List Kd)
  | ss (ks : List Kd)
/-- What an argument is: a cell, or a struct of cells. -/
inductive PK where
  | c (x : CK)
  | st (l : List CK)
def ckOk (P : Program) (t : TypeId) : CK → Bool
  | .k (.int k) => match P.underlying t with | some (.int j) => j == k | _ => false
  | .k .bool => match P.underlying t with | some .bool => true | _ => false
  | .k .str => match P.underlying t with | some .string => true | _ => false
  | .s ks => match P.underlying t with
    | some (.slice e) => (match flatK P 50 e with | some js => sameKds js ks | none => false) && P.cellsOf e == lenK ks && decide (0 < lenK ks)
    | _ => false
  | .ss ks => match P.underlying t with
    | some (.slice e) => match P.underlying e with
      | some (.slice f) => P.cellsOf e == 1 && ((match flatK P 50 f with | some js => sameKds js ks | none => false) && P.cellsOf f == lenK ks && decide (0 < lenK ks))
      | _ => false
    | _ => false
def cksOk (P : Program) (fs : Array Field) : Nat → List CK → Bool
  | j, [] => j == fs.size
  | j, ck :: r => (match fs[j]? with | some f => ckOk P f.type ck | none => false) && cksOk P fs (j + 1) r
def pkOk (P : Program) (t : TypeId) : PK → Bool
  | .c x => ckOk P t x
  | .st l => match P.underlying t with
    | some (.struct fs) => oneCellFields P fs && P.cellsOf t == fs.size && cksOk P fs 0 l
    | _ => false
def CkAV : CK → AV → Prop
  | .k (.int k), av => ∃ n, av = .int k n ∧ Fits k n
  | .k .bool, av => ∃ b, av = .bool b
  | .k .str, av => ∃ l, av = .str l ∧ l.length ≤ maxLen
  | .s ks, av => ∃ xs, av = .view ks xs ∧ xs.length ≤ maxLen ∧ ∀ i, i < xs.length → RowOk ks (row xs i)
  | .ss ks, av => ∃ xss, av = .vv ks xss ∧ xss.length ≤ maxLen ∧ ∀ i, (xss.getD i []).length ≤ maxLen
def CkAVs : List CK → List AV → Prop
  | [], l => l = []
  | c :: r, l => ∃ a l', l = a :: l' ∧ CkAV c a ∧ CkAVs r l'
def PkAV : PK → AV → Prop
  | .c x, av => CkAV x av
  | .st l, av => ∃ al, av = .agg al ∧ CkAVs l al

theorem open_ck {t : TypeId} {ck : CK} {fuel : Nat} {v : Value} {x : DataW H × List MemPlace} (hk : ckOk P t ck = true) (hlt : ∀ p ∈ x.2, p.block < w.heap.size)
    (h : DataW.trod enc P w base spare held fuel t [v] = some x) : ∃ av, CkAV ck av ∧ D1 (fun b => b < w.heap.size) w av v [] ∧ v.oneCell' = true ∧ ∀ e ks xs, av ≠ .fr e ks xs := by
  cases ck with
  | k kd =>
    have hu : KdTy P t kd := by
      cases kd <;> simp only [ckOk] at hk <;> simp only [KdTy]
      all_goals
        cases hu : P.underlying t with
        | none => rw [hu] at hk; simp at hk
        | some d => rw [hu] at hk; cases d <;> simp at hk <;> simp [hk]
    obtain ⟨s, e, hf⟩ := trod_plain hu h
    simp only [List.cons.injEq, and_true] at e
    subst e
    cases kd with
    | int k => exact ⟨.int k s.int, ⟨_, rfl, hf⟩, by simp [D1, Kd.val], rfl, fun _ _ _ e => by cases e⟩
    | bool => exact ⟨.bool s.bool, ⟨_, rfl⟩, by simp [D1, Kd.val], rfl, fun _ _ _ e => by cases e⟩
    | str => exact ⟨.str s.str, ⟨_, rfl, hf⟩, by simp [D1, Kd.val], rfl, fun _ _ _ e => by cases e⟩
  | s ks =>
    simp only [ckOk] at hk
    cases hu : P.underlying t with
    | none => rw [hu] at hk; simp at hk
    | some d =>
      rw [hu] at hk
      cases d <;> simp at hk
      rename_i e
      obtain ⟨⟨h1, h2⟩, h3⟩ := hk
      cases hfl : flatK P 50 e with
      | none => rw [hfl] at h1; simp at h1
      | some js =>
        rw [hfl] at h1
        have := sameKds_eq h1
        subst this
        have hv : ∃ a len cap, v = .slice a len cap := by
          rcases open_slice hu h with ⟨hcs, _⟩ | ⟨a, len, cap, _, _, _, _, hcs, _⟩
          · simp at hcs; exact ⟨_, _, _, hcs⟩
          · simp at hcs; exact ⟨_, _, _, hcs⟩
        obtain ⟨xs, q1, q2, q3⟩ := open_flat hu hfl h2 h3 h hv
        obtain ⟨a, len, cap, rfl⟩ := hv
        exact ⟨.view js xs, ⟨xs, rfl, q2, q3⟩, by simp only [D1]; exact ⟨q1, trivial⟩, rfl, fun _ _ _ e => by cases e⟩
  | ss ks =>
    simp only [ckOk] at hk
    cases hu : P.underlying t with
    | none => rw [hu] at hk; simp at hk
    | some d =>
      rw [hu] at hk
      cases d <;> simp at hk
      rename_i e
      cases hue : P.underlying e with
      | none => rw [hue] at hk; simp at hk
      | some d =>
        rw [hue] at hk
        cases d <;> simp at hk
        rename_i f
        obtain ⟨h0, ⟨h1, h2⟩, h3⟩ := hk
        cases hfl : flatK P 50 f with
        | none => rw [hfl] at h1; simp at h1
        | some js =>
          rw [hfl] at h1
          have := sameKds_eq h1
          subst this
          have hv : ∃ a len cap, v = .slice a len cap := by
            rcases open_slice hu h with ⟨hcs, _⟩ | ⟨a, len, cap, _, _, _, _, hcs, _⟩
            · simp at hcs; exact ⟨_, _, _, hcs⟩
            · simp at hcs; exact ⟨_, _, _, hcs⟩
          obtain ⟨xss, q1, q2, q3⟩ := open_nest hu hue h0 hfl h2 h3 h
          obtain ⟨a, len, cap, rfl⟩ := hv
          exact ⟨.vv js xss, ⟨xss, rfl, q2, q3⟩, by simp only [D1]; exact ⟨q1, trivial⟩, rfl, fun _ _ _ e => by cases e⟩

theorem open_cks {fs : Array Field} {n : Nat} {cs : List Value} {ys : List (DataW H × List MemPlace)} (hone : oneCellFields P fs = true) (hcl : cs.length = fs.size) (hyl : ys.length = fs.size)
    (hf : ∀ (i : Nat) (f : Field), fs[i]? = some f → DataW.trod enc P w base spare held n f.type ((cs.drop f.offset).take (P.cellsOf f.type)) = ys[i]?) (hlt : ∀ y ∈ ys, ∀ p ∈ y.2, p.block < w.heap.size) :
    ∀ (l : List CK) (j : Nat), cksOk P fs j l = true → j ≤ fs.size → ∃ al, CkAVs l al ∧ D1s (fun b => b < w.heap.size) w al (cs.drop j) [] ∧ (∀ u ∈ cs.drop j, u.oneCell' = true)
  | [], j, h, _ => by
    simp only [cksOk, beq_iff_eq] at h
    subst h
    exact ⟨[], rfl, by rw [List.drop_of_length_le (by omega)]; simp [D1s], by rw [List.drop_of_length_le (by omega)]; simp⟩
  | ck :: l, j, h, hj => by
    simp only [cksOk, Bool.and_eq_true] at h
    obtain ⟨h1, h2⟩ := h
    cases hfj : fs[j]? with
    | none => rw [hfj] at h1; simp at h1
    | some f =>
      rw [hfj] at h1
      have hjl : j < fs.size := (Array.getElem?_eq_some_iff.1 hfj).1
      obtain ⟨ho, hk⟩ := hone_of hone j f hfj
      have ht := hf j f hfj
      rw [ho, hk] at ht
      have hv : cs.drop j = cs[j]'(by omega) :: cs.drop (j + 1) := List.drop_eq_getElem_cons (by omega)
      rw [hv] at ht ⊢
      have hys : ys[j]? = some (ys[j]'(by omega)) := List.getElem?_eq_getElem (by omega)
      rw [hys] at ht
      obtain ⟨av, a1, a2, a3, a4⟩ := open_ck h1 (hlt _ (List.getElem_mem (by omega))) ht
      obtain ⟨al, b1, b2, b3⟩ := open_cks hone hcl hyl hf hlt l (j + 1) h2 (by omega)
      refine ⟨av :: al, ⟨av, al, rfl, a1, b1⟩, ?_, ?_⟩
      · simp only [D1s]; exact ⟨_, _, [], [], rfl, rfl, a2, b2⟩
      · intro u hu
        simp only [List.mem_cons] at hu
        rcases hu with rfl | hu
        · exact a3
        · exact b3 u hu

theorem open_pk {t : TypeId} {pk : PK} {v : Value} {d : DataW H} {p : List MemPlace} {r : Reach} {b0 : Nat} (hk : pkOk P t pk = true) (hval : Value.okWide P w r b0 t v) (hlt : ∀ q ∈ p, q.block < w.heap.size)
    (h : DataW.Trod enc P w base spare held t v d p) : ∃ av, PkAV pk av ∧ D2 (fun b => b < w.heap.size) w av v [] := by
  obtain ⟨fuel, h⟩ := h
  cases pk with
  | c x =>
    have hcells : v.cells.toList = [v] := by
      simp only [pkOk] at hk
      cases x with
      | k kd =>
        cases kd with
        | int k =>
          simp only [ckOk] at hk
          cases hu : P.underlying t with
          | none => rw [hu] at hk; simp at hk
          | some D => rw [hu] at hk; cases D <;> simp at hk; obtain ⟨n, rfl⟩ := okWide_int hu hval; rfl
        | bool =>
          simp only [ckOk] at hk
          cases hu : P.underlying t with
          | none => rw [hu] at hk; simp at hk
          | some D => rw [hu] at hk; cases D <;> simp at hk; obtain ⟨n, rfl⟩ := okWide_bool hu hval; rfl
        | str =>
          simp only [ckOk] at hk
          cases hu : P.underlying t with
          | none => rw [hu] at hk; simp at hk
          | some D => rw [hu] at hk; cases D <;> simp at hk; obtain ⟨n, rfl⟩ := okWide_string hu hval; rfl
      | s ks =>
        simp only [ckOk] at hk
        cases hu : P.underlying t with
        | none => rw [hu] at hk; simp at hk
        | some D => rw [hu] at hk; cases D <;> simp at hk; obtain ⟨a, l, c, rfl⟩ := okWide_slice hu hval; rfl
      | ss ks =>
        simp only [ckOk] at hk
        cases hu : P.underlying t with
        | none => rw [hu] at hk; simp at hk
        | some D => rw [hu] at hk; cases D <;> simp at hk; obtain ⟨a, l, c, rfl⟩ := okWide_slice hu hval; rfl
    rw [hcells] at h
    obtain ⟨av, a1, a2, a3, a4⟩ := open_ck (x := (d, p)) hk hlt h
    refine ⟨av, a1, ?_⟩
    cases av <;> first | (simp only [D2]; exact a2) | (simp only [D1] at a2)
  | st l =>
    simp only [pkOk] at hk
    cases hu : P.underlying t with
    | none => rw [hu] at hk; simp at hk
    | some D =>
      rw [hu] at hk
      cases D <;> simp at hk
      rename_i fs
      obtain ⟨⟨h1, h2⟩, h3⟩ := hk
      obtain ⟨cs, rfl, hcs⟩ := okWide_struct hu hval
      obtain ⟨ys, n, _, hx, hlen, hyl, hf⟩ := DataW.trod_struct hu h
      simp only [Value.cells] at hlen hf
      simp only [Prod.mk.injEq] at hx
      obtain ⟨al, b1, b2, b3⟩ := open_cks (cs := cs.toList) h1 (by rw [hlen, h2]) hyl hf (fun y hy q hq => hlt q (by rw [hx.2]; exact List.mem_flatMap.2 ⟨y, hy, hq⟩)) l 0 h3 (Nat.zero_le _)
      rw [List.drop_zero] at b2 b3
      exact ⟨.agg al, ⟨al, rfl, b1⟩, by simp only [D2]; exact ⟨cs.toList, by simp, b3, b2⟩⟩
end

section
variable {H : Type} {enc : TypeId × Value → H} {P : Program}
/-- The row's last step behind a call of which is known that it has left what was there. -/
theorem shut_below {f : Func} {s : ChangeSpec} {apart fresh handsOn again : Bool} {W W' : World} {args : Array Value} {v : Value} {ds gs : List (DataW H)} {before pa pv : List MemPlace}
    (hW : DataW.Whole enc P f.params.toList s.vars apart W args.toList ds gs before)
    (hres : ∀ (b : Nat) (sp : Nat → Bool) (hd : Bool), DataW.TrodAll enc P W' b sp hd f.resultTypes.toList (v.resultList f.resultTypes.size) (s.fn H (ds ++ gs)).results [])
    (hargs : ∀ sp : Nat → Bool, (∀ p ∈ before, sp p.block = true) → DataW.TrodAll enc P W' 0 sp true f.params.toList args.toList (s.fn H (ds ++ gs)).args pa)
    (hvars : ∀ sp : Nat → Bool, (∀ p ∈ before, sp p.block = true) → DataW.TrodVars enc P W' sp s.vars (s.fn H (ds ++ gs)).vars pv)
    (hps : before = pa ++ pv) (hb : Below W.heap.size W W')
    (hok : ∀ (j : Nat) (t : TypeId) (r : Value), f.resultTypes[j]? = some t → (v.resultList f.resultTypes.size)[j]? = some r → Value.okWide P W' .any 0 t r) :
    s.post enc P f apart fresh handsOn again W args v W' := by
  have hlt : ∀ p ∈ before, p.block < W.heap.size := fun p hp => hW.lt p hp
  have hold : ∀ p ∈ before, (fun b => decide (b < W.heap.size)) p.block = true := fun p hp => by simpa using hlt p hp
  refine ⟨ds, gs, before, [], pa, pv, hW, hres _ _ _, hargs _ hold, hvars _ hold, World.keptBut_mono (fun p hp => ⟨hp, ?_⟩) (hb.frame (· ∈ before)), fun _ => ?_⟩
  · rw [hps, List.mem_append] at hp
    exact Or.inr hp
  · obtain ⟨_, _, _, _, _, hz, hn⟩ := hW
    refine ⟨hok, _, _, ([] ++ pa) ++ pv, ⟨[] ++ pa, pv, trodAll_append (hargs _ (fun _ _ => rfl)) (hres _ _ _), hvars _ (fun _ _ => rfl), rfl, ?_, ?_⟩, ?_⟩
    · intro b off hp
      have hin : MemPlace.cell b off ∈ before := by rw [hps]; simpa using hp
      rw [hb.frozen (hlt _ hin)]
      exact hz b off hin
    · intro ha
      have := hn ha
      rw [hps] at this
      simpa using this
    · intro p hp _
      rw [hps]
      simpa using hp
end

def PkAVs : List PK → List AV → Prop
  | [], l => l = []
  | c :: r, l => ∃ a l', l = a :: l' ∧ PkAV c a ∧ PkAVs r l'
/-- What a law promises. -/
def cLaw (pks : List PK) : Ct := ⟨[], fun ds K => PkAVs pks ds ∧ K (.bool true) []⟩
end Go.Proofs.Ytkjbgdhpeidocaa.V
