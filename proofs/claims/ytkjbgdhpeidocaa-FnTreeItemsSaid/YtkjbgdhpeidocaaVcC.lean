/-
  A verified generator of verification conditions over the model's Code, part C: what abstract values and states mean in the model's memory.
-/
import Derived.Test.YtkjbgdhpeidocaaVcB
set_option linter.unusedSimpArgs false
set_option linter.unusedVariables false
namespace Go.Proofs.Ytkjbgdhpeidocaa.V
open Go Go.RowKit

def Kd.val (k : Kd) (s : Sc) : Value :=
  match k with
  | .int k => .int k s.int
  | .bool => .bool s.bool
  | .str => .string ⟨s.str.toArray⟩

def rowVals : List Kd → Row → Nat → List Value
  | [], _, _ => []
  | k :: ks, r, c => k.val (rc r c) :: rowVals ks r (c + 1)
def flat (ks : List Kd) : List Row → List Value
  | [] => []
  | r :: xs => rowVals ks r 0 ++ flat ks xs

theorem lenK_eq : ∀ ks : List Kd, lenK ks = ks.length
  | [] => rfl
  | _ :: r => by simp [lenK, lenK_eq r]
theorem lenA_eq : ∀ l : List AV, lenA l = l.length
  | [] => rfl
  | _ :: r => by simp [lenA, lenA_eq r]
theorem lenH_eq : ∀ l : List (Option Entry), lenH l = l.length
  | [] => rfl
  | _ :: r => by simp [lenH, lenH_eq r]
theorem lenP_eq : ∀ l : List Row, lenP l = l.length
  | [] => rfl
  | _ :: r => by simp [lenP, lenP_eq r]
theorem getK_eq : ∀ (ks : List Kd) (c : Nat), getK ks c = ks[c]?
  | [], _ => rfl
  | _ :: _, 0 => rfl
  | _ :: r, c + 1 => by simp [getK, getK_eq r]

theorem rowVals_length : ∀ (ks : List Kd) (r : Row) (c : Nat), (rowVals ks r c).length = lenK ks
  | [], _, _ => rfl
  | _ :: ks, r, c => by simp [rowVals, lenK, rowVals_length ks]
theorem flat_length (ks : List Kd) : ∀ xs : List Row, (flat ks xs).length = xs.length * lenK ks
  | [] => by simp [flat]
  | r :: xs => by simp [flat, rowVals_length, flat_length ks xs, Nat.add_mul, Nat.add_comm]
theorem rowVals_get : ∀ (ks : List Kd) (r : Row) (d c : Nat) (kd : Kd), getK ks c = some kd → (rowVals ks r d)[c]? = some (kd.val (rc r (d + c)))
  | [], _, _, _, _, h => by simp [getK] at h
  | k :: ks, r, d, 0, kd, h => by simp [getK] at h; simp [rowVals, h]
  | k :: ks, r, d, c + 1, kd, h => by
    simp only [getK] at h
    simp only [rowVals, List.getElem?_cons_succ]
    rw [rowVals_get ks r (d + 1) c kd h]
    congr 3
    omega
theorem getK_lt {ks : List Kd} {c : Nat} {kd : Kd} (h : getK ks c = some kd) : c < lenK ks := by
  rw [getK_eq] at h; rw [lenK_eq]
  exact (List.getElem?_eq_some_iff.1 h).1
theorem flat_get (ks : List Kd) : ∀ (xs : List Row) (i c : Nat) (kd : Kd), getK ks c = some kd → i < xs.length →
    (flat ks xs)[i * lenK ks + c]? = some (kd.val (rc (row xs i) c))
  | [], i, _, _, _, h => by simp at h
  | r :: xs, 0, c, kd, h, _ => by
    have := rowVals_get ks r 0 c kd h
    have hc := getK_lt h
    simp only [flat, Nat.zero_mul, Nat.zero_add]
    rw [List.getElem?_append_left (by rw [rowVals_length]; exact hc)]
    simpa [row] using this
  | r :: xs, i + 1, c, kd, h, hi => by
    have ih := flat_get ks xs i c kd h (by simpa using hi)
    simp only [flat]
    rw [List.getElem?_append_right (by rw [rowVals_length, Nat.add_mul]; omega), rowVals_length]
    have e : (i + 1) * lenK ks + c - lenK ks = i * lenK ks + c := by rw [Nat.add_mul]; omega
    rw [e, ih]
    simp [row]
theorem flat_append (ks : List Kd) : ∀ xs ys : List Row, flat ks (xs ++ ys) = flat ks xs ++ flat ks ys
  | [], ys => by simp [flat]
  | r :: xs, ys => by simp [flat, flat_append ks xs ys, List.append_assoc]

theorem rc_setR : ∀ (r : Row) (c : Nat) (s : Sc) (j : Nat), rc (setR r c s) j = if j = c then s else rc r j
  | [], 0, s, 0 => by simp [setR, rc]
  | [], 0, s, j + 1 => by simp [setR, rc]
  | [], c + 1, s, 0 => by simp [setR, rc]
  | [], c + 1, s, j + 1 => by
    have := rc_setR [] c s j
    simp only [rc, setR, List.getD_cons_succ, Nat.add_right_cancel_iff] at this ⊢
    simpa using this
  | a :: r, 0, s, 0 => by simp [setR, rc]
  | a :: r, 0, s, j + 1 => by simp [setR, rc]
  | a :: r, c + 1, s, 0 => by simp [setR, rc]
  | a :: r, c + 1, s, j + 1 => by
    have := rc_setR r c s j
    simp only [rc, setR, List.getD_cons_succ, Nat.add_right_cancel_iff] at this ⊢
    simpa using this

theorem rowVals_setR : ∀ (ks : List Kd) (r : Row) (d c : Nat) (s : Sc) (kd : Kd), getK ks c = some kd →
    rowVals ks (setR r (d + c) s) d = (rowVals ks r d).set c (kd.val s)
  | [], _, _, _, _, _, h => by simp [getK] at h
  | k :: ks, r, d, 0, s, kd, h => by
    simp [getK] at h
    subst h
    have aux : ∀ (ks : List Kd) (e : Nat), d < e → rowVals ks (setR r d s) e = rowVals ks r e := by
      intro ks
      induction ks with
      | nil => intro e _; rfl
      | cons k ks ih =>
        intro e he
        simp only [rowVals]
        rw [ih (e + 1) (by omega), rc_setR, if_neg (by omega)]
    simp only [rowVals, Nat.add_zero, List.set_cons_zero]
    rw [aux ks (d + 1) (by omega), rc_setR, if_pos rfl]
  | k :: ks, r, d, c + 1, s, kd, h => by
    simp only [getK] at h
    have ih := rowVals_setR ks r (d + 1) c s kd h
    have e : d + 1 + c = d + (c + 1) := by omega
    rw [e] at ih
    simp only [rowVals, List.set_cons_succ]
    rw [ih, rc_setR, if_neg (by omega)]
theorem flat_set (ks : List Kd) : ∀ (xs : List Row) (i c : Nat) (s : Sc) (kd : Kd), getK ks c = some kd → i < xs.length →
    flat ks (xs.set i (setR (row xs i) c s)) = (flat ks xs).set (i * lenK ks + c) (kd.val s)
  | [], i, _, _, _, _, h => by simp at h
  | r :: xs, 0, c, s, kd, h, _ => by
    have := rowVals_setR ks r 0 c s kd h
    have hc := getK_lt h
    simp only [Nat.zero_add] at this
    simp only [List.set_cons_zero, flat, Nat.zero_mul, Nat.zero_add]
    rw [List.set_append_left _ _ (by rw [rowVals_length]; exact hc)]
    simp only [row, List.getD_cons_zero]
    rw [this]
  | r :: xs, i + 1, c, s, kd, h, hi => by
    have ih := flat_set ks xs i c s kd h (by simpa using hi)
    have e : (i + 1) * lenK ks + c - lenK ks = i * lenK ks + c := by rw [Nat.add_mul]; omega
    simp only [List.set_cons_succ, flat]
    rw [List.set_append_right _ _ (by rw [rowVals_length, Nat.add_mul]; omega), rowVals_length, e, ← ih]
    simp [row]

theorem Kd.val_one (k : Kd) (s : Sc) : (k.val s).oneCell' = true := by cases k <;> rfl
theorem rowVals_one : ∀ (ks : List Kd) (r : Row) (c : Nat), ∀ u ∈ rowVals ks r c, u.oneCell' = true
  | [], _, _, u, h => by simp [rowVals] at h
  | k :: ks, r, c, u, h => by
    simp only [rowVals, List.mem_cons] at h
    rcases h with rfl | h
    · exact Kd.val_one _ _
    · exact rowVals_one ks r (c + 1) u h
theorem flat_one (ks : List Kd) : ∀ (xs : List Row), ∀ u ∈ flat ks xs, u.oneCell' = true
  | [], u, h => by simp [flat] at h
  | r :: xs, u, h => by
    simp only [flat, List.mem_append] at h
    rcases h with h | h
    · exact rowVals_one ks r 0 u h
    · exact flat_one ks xs u h

/-- The block at whose cells a slice's or a pointer's value points. -/
def blk : Value → Option Nat
  | .slice (some a) _ _ => some a.block
  | .pointer (some a) => some a.block
  | _ => none

/-- What the entries are in the model's memory: their value, their number of rows, a row's width. -/
structure Cz where
  ρ : Nat → Value
  len : Nat → Nat
  wd : Nat → Nat × List Value

/-- The blocks of an entry: its own, and those of the slices that stand in it. -/
def Cz.bk (z : Cz) (k b : Nat) : Prop := blk (z.ρ k) = some b ∨ ∃ v ∈ (z.wd k).2, blk v = some b
def Cz.bs (z : Cz) (k : Nat) : List Nat := (z.ρ k :: (z.wd k).2).filterMap blk
theorem Cz.mem_bs {z : Cz} {k b : Nat} : b ∈ z.bs k ↔ z.bk k b := by
  simp [Cz.bs, Cz.bk, List.mem_filterMap]
theorem Cz.bk_of {z : Cz} {k b : Nat} (h : blk (z.ρ k) = some b) : z.bk k b := .inl h
theorem Cz.bk_one {z : Cz} {k b n : Nat} (h : z.wd k = (n, [])) : z.bk k b ↔ blk (z.ρ k) = some b := by
  simp [Cz.bk, h]
theorem Cz.bs_one {z : Cz} {k n : Nat} (h : z.wd k = (n, [])) : z.bs k = (blk (z.ρ k)).toList := by
  simp only [Cz.bs, h, List.filterMap_cons, List.filterMap_nil]
  cases blk (z.ρ k) <;> rfl
theorem Cz.bs_nil {z : Cz} {k : Nat} (h : (z.wd k).2 = []) : z.bs k = (blk (z.ρ k)).toList := by
  simp only [Cz.bs, h, List.filterMap_cons, List.filterMap_nil]
  cases blk (z.ρ k) <;> rfl
theorem Cz.bk_congr {z z' : Cz} {k b : Nat} (h1 : z'.ρ k = z.ρ k) (h2 : z'.wd k = z.wd k) : z'.bk k b ↔ z.bk k b := by
  simp [Cz.bk, h1, h2]
theorem Cz.bs_congr {z z' : Cz} {k : Nat} (h1 : z'.ρ k = z.ρ k) (h2 : z'.wd k = z.wd k) : z'.bs k = z.bs k := by
  simp [Cz.bs, h1, h2]

def ViewR (ok : Nat → Prop) (w : World) (ks : List Kd) (xs : List Row) (v : Value) : Prop :=
  ∃ a cap, v = .slice a xs.length cap ∧ xs.length ≤ cap ∧ (xs = [] ∨ ∃ b o, a = some ⟨b, o, none⟩ ∧ ok b ∧
    ∀ i c kd, i < xs.length → getK ks c = some kd → w.cell? ⟨b, o + (i * lenK ks + c), none⟩ = some (kd.val (rc (row xs i) c)))

/-- Slices that are only read, in a slice that is only read. -/
def NestR (ok : Nat → Prop) (w : World) (ks : List Kd) (xss : List (List Row)) (v : Value) : Prop :=
  ∃ a cap, v = .slice a xss.length cap ∧ xss.length ≤ cap ∧ (xss = [] ∨ ∃ b o, a = some ⟨b, o, none⟩ ∧ ok b ∧
    ∀ i, i < xss.length → ∃ u, w.cell? ⟨b, o + i, none⟩ = some u ∧ ViewR ok w ks (xss.getD i []) u)
def NcelR (ok : Nat → Prop) (w : World) (ks : List Kd) (xss : List (List Row)) (i : Nat) (v : Value) : Prop :=
  i < xss.length ∧ ∃ b o u, ok b ∧ v = .pointer (some ⟨b, o + i, none⟩) ∧ w.cell? ⟨b, o + i, none⟩ = some u ∧ ViewR ok w ks (xss.getD i []) u

mutual
def AVR (ok lv : Nat → Prop) (w : World) (z : Cz) : AV → Value → Prop
  | .top, _ => True
  | .int k n, v => v = .int k n
  | .bool b, v => v = .bool b
  | .str l, v => v = .string ⟨l.toArray⟩
  | .nil _, v => v = .slice none 0 0
  | .view ks xs, v => ViewR ok w ks xs v
  | .own k, v => lv k ∧ v = z.ρ k
  | .box k c, v => lv k ∧ ∃ b, z.ρ k = .pointer (some ⟨b, 0, none⟩) ∧ v = .pointer (some ⟨b, c, none⟩)
  | .cel k i c, v => lv k ∧ i < z.len k ∧ ∃ b, blk (z.ρ k) = some b ∧ v = .pointer (some ⟨b, i * (z.wd k).1 + c, none⟩)
  | .vcel ks xs i c, v => i < xs.length ∧ ∃ b o, ok b ∧ v = .pointer (some ⟨b, o + (i * lenK ks + c), none⟩) ∧
      ∀ c' kd, getK ks c' = some kd → w.cell? ⟨b, o + (i * lenK ks + c'), none⟩ = some (kd.val (rc (row xs i) c'))
  | .agg l, v => ∃ vs : List Value, v = .agg vs.toArray ∧ (∀ u ∈ vs, u.oneCell' = true) ∧ AVRs ok lv w z l vs
  | .arr ks xs, v => v = .agg (flat ks xs).toArray
  | .tup l, v => ∃ vs : List Value, v = .tuple vs.toArray ∧ AVRs ok lv w z l vs
  | .fn f l, v => ∃ vs : List Value, v = .func (.func f) #[] vs.toArray ∧ AVRs ok lv w z l vs
  | .fr _ _ _, _ => False
  | .bx _, _ => False
  | .pa _ _, _ => False
  | .frn _ _ _ _, _ => False
  | .vv ks xss, v => NestR ok w ks xss v
  | .vvc ks xss i, v => NcelR ok w ks xss i v
def AVRs (ok lv : Nat → Prop) (w : World) (z : Cz) : List AV → List Value → Prop
  | [], vs => vs = []
  | a :: l, vs => ∃ u us, vs = u :: us ∧ AVR ok lv w z a u ∧ AVRs ok lv w z l us
end

theorem ViewR.mono {ok ok' : Nat → Prop} {w w' : World} {ks : List Kd} {xs : List Row} {v : Value} (h : ViewR ok w ks xs v)
    (h1 : ∀ b, ok b → ok' b) (h2 : ∀ b, ok b → w'.heap[b]? = w.heap[b]?) : ViewR ok' w' ks xs v := by
  obtain ⟨a, cap, rfl, hc, h⟩ := h
  refine ⟨a, cap, rfl, hc, ?_⟩
  rcases h with h | ⟨b, o, rfl, hb, h⟩
  · exact .inl h
  · exact .inr ⟨b, o, rfl, h1 b hb, fun i c kd hi hk => (World.cell?_of_block (h2 b hb)).trans (h i c kd hi hk)⟩

theorem NestR.mono {ok ok' : Nat → Prop} {w w' : World} {ks : List Kd} {xss : List (List Row)} {v : Value} (h : NestR ok w ks xss v)
    (h1 : ∀ b, ok b → ok' b) (h2 : ∀ b, ok b → w'.heap[b]? = w.heap[b]?) : NestR ok' w' ks xss v := by
  obtain ⟨a, cap, rfl, hc, h⟩ := h
  refine ⟨a, cap, rfl, hc, ?_⟩
  rcases h with h | ⟨b, o, rfl, hb, h⟩
  · exact .inl h
  · refine .inr ⟨b, o, rfl, h1 b hb, fun i hi => ?_⟩
    obtain ⟨u, q1, q2⟩ := h i hi
    exact ⟨u, (World.cell?_of_block (h2 b hb)).trans q1, q2.mono h1 h2⟩
theorem NcelR.mono {ok ok' : Nat → Prop} {w w' : World} {ks : List Kd} {xss : List (List Row)} {i : Nat} {v : Value} (h : NcelR ok w ks xss i v)
    (h1 : ∀ b, ok b → ok' b) (h2 : ∀ b, ok b → w'.heap[b]? = w.heap[b]?) : NcelR ok' w' ks xss i v := by
  obtain ⟨hi, b, o, u, hb, hv, q1, q2⟩ := h
  exact ⟨hi, b, o, u, h1 b hb, hv, (World.cell?_of_block (h2 b hb)).trans q1, q2.mono h1 h2⟩

section
variable {ok ok' lv lv' : Nat → Prop} {w w' : World} {z z' : Cz}
mutual
theorem AVR.mono1 (h1 : ∀ b, ok b → ok' b) (h2 : ∀ b, ok b → w'.heap[b]? = w.heap[b]?)
    (h3 : ∀ k, lv k → lv' k ∧ z'.ρ k = z.ρ k ∧ z'.len k = z.len k ∧ (z'.wd k).1 = (z.wd k).1) :
    ∀ (a : AV) (v : Value), AVR ok lv w z a v → AVR ok' lv' w' z' a v
  | .top, _, _ => by simp [AVR]
  | .int _ _, _, h => by simpa [AVR] using h
  | .bool _, _, h => by simpa [AVR] using h
  | .str _, _, h => by simpa [AVR] using h
  | .nil _, _, h => by simpa [AVR] using h
  | .view _ _, _, h => by simp only [AVR] at h ⊢; exact h.mono h1 h2
  | .own k, _, h => by
    simp only [AVR] at h ⊢
    obtain ⟨a, b⟩ := h
    obtain ⟨c, d, _, _⟩ := h3 k a
    exact ⟨c, b.trans d.symm⟩
  | .box k c, _, h => by
    simp only [AVR] at h ⊢
    obtain ⟨a, b, e, f⟩ := h
    obtain ⟨c, d, _, _⟩ := h3 k a
    exact ⟨c, b, d.trans e, f⟩
  | .cel k i c, _, h => by
    simp only [AVR] at h ⊢
    obtain ⟨a, hi, b, e, f⟩ := h
    obtain ⟨c, d, d2, d3⟩ := h3 k a
    exact ⟨c, by rw [d2]; exact hi, b, by rw [d]; exact e, by rw [d3]; exact f⟩
  | .vcel ks xs i c, _, h => by
    simp only [AVR] at h ⊢
    obtain ⟨hi, b, o, hb, hv, h⟩ := h
    exact ⟨hi, b, o, h1 b hb, hv, fun c' kd hk => (World.cell?_of_block (h2 b hb)).trans (h c' kd hk)⟩
  | .agg l, _, h => by
    simp only [AVR] at h ⊢
    obtain ⟨vs, hv, ho, h⟩ := h
    exact ⟨vs, hv, ho, AVRs.mono1 h1 h2 h3 l vs h⟩
  | .arr _ _, _, h => by simpa [AVR] using h
  | .tup l, _, h => by
    simp only [AVR] at h ⊢
    obtain ⟨vs, hv, h⟩ := h
    exact ⟨vs, hv, AVRs.mono1 h1 h2 h3 l vs h⟩
  | .fn f l, _, h => by
    simp only [AVR] at h ⊢
    obtain ⟨vs, hv, h⟩ := h
    exact ⟨vs, hv, AVRs.mono1 h1 h2 h3 l vs h⟩
  | .fr _ _ _, _, h => by simp [AVR] at h
  | .bx _, _, h => by simp [AVR] at h
  | .pa _ _, _, h => by simp [AVR] at h
  | .frn _ _ _ _, _, h => by simp [AVR] at h
  | .vv _ _, _, h => by simp only [AVR] at h ⊢; exact h.mono h1 h2
  | .vvc _ _ _, _, h => by simp only [AVR] at h ⊢; exact h.mono h1 h2
theorem AVRs.mono1 (h1 : ∀ b, ok b → ok' b) (h2 : ∀ b, ok b → w'.heap[b]? = w.heap[b]?)
    (h3 : ∀ k, lv k → lv' k ∧ z'.ρ k = z.ρ k ∧ z'.len k = z.len k ∧ (z'.wd k).1 = (z.wd k).1) :
    ∀ (l : List AV) (vs : List Value), AVRs ok lv w z l vs → AVRs ok' lv' w' z' l vs
  | [], _, h => by simpa [AVRs] using h
  | a :: l, vs, h => by
    simp only [AVRs] at h ⊢
    obtain ⟨u, us, hv, ha, hl⟩ := h
    exact ⟨u, us, hv, AVR.mono1 h1 h2 h3 a u ha, AVRs.mono1 h1 h2 h3 l us hl⟩
end
theorem AVR.mono (h1 : ∀ b, ok b → ok' b) (h2 : ∀ b, ok b → w'.heap[b]? = w.heap[b]?)
    (h3 : ∀ k, lv k → lv' k ∧ z'.ρ k = z.ρ k ∧ z'.len k = z.len k ∧ z'.wd k = z.wd k) (a : AV) (v : Value) (h : AVR ok lv w z a v) : AVR ok' lv' w' z' a v :=
  AVR.mono1 h1 h2 (fun k hk => ⟨(h3 k hk).1, (h3 k hk).2.1, (h3 k hk).2.2.1, by rw [(h3 k hk).2.2.2]⟩) a v h
theorem AVRs.mono (h1 : ∀ b, ok b → ok' b) (h2 : ∀ b, ok b → w'.heap[b]? = w.heap[b]?)
    (h3 : ∀ k, lv k → lv' k ∧ z'.ρ k = z.ρ k ∧ z'.len k = z.len k ∧ z'.wd k = z.wd k) (l : List AV) (vs : List Value) (h : AVRs ok lv w z l vs) : AVRs ok' lv' w' z' l vs :=
  AVRs.mono1 h1 h2 (fun k hk => ⟨(h3 k hk).1, (h3 k hk).2.1, (h3 k hk).2.2.1, by rw [(h3 k hk).2.2.2]⟩) l vs h
mutual
theorem AVR.unhit (k : Nat) : ∀ (a : AV) (v : Value), AVR ok lv w z a v → a.hits k = false → AVR ok (fun j => lv j ∧ j ≠ k) w z a v
  | .top, _, _, _ => by simp [AVR]
  | .int _ _, _, h, _ => by simpa [AVR] using h
  | .bool _, _, h, _ => by simpa [AVR] using h
  | .str _, _, h, _ => by simpa [AVR] using h
  | .nil _, _, h, _ => by simpa [AVR] using h
  | .view _ _, _, h, _ => by simpa [AVR] using h
  | .own j, _, h, e => by
    simp only [AVR] at h ⊢
    simp [AV.hits] at e
    exact ⟨⟨h.1, fun x => e x.symm⟩, h.2⟩
  | .box j c, _, h, e => by
    simp only [AVR] at h ⊢
    simp [AV.hits] at e
    exact ⟨⟨h.1, fun x => e x.symm⟩, h.2⟩
  | .cel j i c, _, h, e => by
    simp only [AVR] at h ⊢
    simp [AV.hits] at e
    exact ⟨⟨h.1, fun x => e x.symm⟩, h.2⟩
  | .vcel _ _ _ _, _, h, _ => by simpa only [AVR] using h
  | .agg l, _, h, e => by
    simp only [AVR] at h ⊢
    obtain ⟨vs, hv, ho, h⟩ := h
    exact ⟨vs, hv, ho, AVRs.unhit k l vs h (by simpa [AV.hits] using e)⟩
  | .arr _ _, _, h, _ => by simpa [AVR] using h
  | .tup l, _, h, e => by
    simp only [AVR] at h ⊢
    obtain ⟨vs, hv, h⟩ := h
    exact ⟨vs, hv, AVRs.unhit k l vs h (by simpa [AV.hits] using e)⟩
  | .fn f l, _, h, e => by
    simp only [AVR] at h ⊢
    obtain ⟨vs, hv, h⟩ := h
    exact ⟨vs, hv, AVRs.unhit k l vs h (by simpa [AV.hits] using e)⟩
  | .fr _ _ _, _, h, _ => by simp [AVR] at h
  | .bx _, _, h, _ => by simp [AVR] at h
  | .pa _ _, _, h, _ => by simp [AVR] at h
  | .frn _ _ _ _, _, h, _ => by simp [AVR] at h
  | .vv _ _, _, h, _ => by simpa only [AVR] using h
  | .vvc _ _ _, _, h, _ => by simpa only [AVR] using h
theorem AVRs.unhit (k : Nat) : ∀ (l : List AV) (vs : List Value), AVRs ok lv w z l vs → AV.hits.hitsL k l = false → AVRs ok (fun j => lv j ∧ j ≠ k) w z l vs
  | [], _, h, _ => by simpa [AVRs] using h
  | a :: l, vs, h, e => by
    simp only [AVRs] at h ⊢
    simp only [AV.hits.hitsL, Bool.or_eq_false_iff] at e
    obtain ⟨u, us, hv, ha, hl⟩ := h
    exact ⟨u, us, hv, AVR.unhit k a u ha e.1, AVRs.unhit k l us hl e.2⟩
end
end

end Go.Proofs.Ytkjbgdhpeidocaa.V
