/-
  Edits undone: the plain law. Undoing one transaction's edits leaves what the others' edits alone would have made.
-/
import Derived.Test.YtggahgackpiddaaUf
set_option linter.unusedSimpArgs false
set_option linter.unusedVariables false
namespace Go.Proofs.Ytggahgackpiddaa.V
open Go Go.RowKit
open Classical

/-- Number j of a store. -/
def at' (s : List Row) (j : Nat) : Int := (rc (row s j) 0).int
theorem at_setI {s : List Row} {t v : Int} {j : Nat} : at' (setI s t v) j = if t.toNat = j ∧ j < s.length then v else at' s j := by
  unfold at' setI
  rw [row_set]
  by_cases h : t.toNat = j ∧ j < s.length
  · rw [if_pos h, if_pos h]; cases row s t.toNat <;> rfl
  · rw [if_neg h, if_neg h]
/-- Two stores with the same numbers. -/
structure Sam (a b : List Row) : Prop where
  l : a.length = b.length
  v : ∀ j, at' a j = at' b j
theorem Sam.rfl' (a : List Row) : Sam a a := ⟨rfl, fun _ => rfl⟩
theorem Sam.tr {a b c : List Row} (h : Sam a b) (k : Sam b c) : Sam a c := ⟨h.l.trans k.l, fun j => (h.v j).trans (k.v j)⟩
theorem Sam.sy {a b : List Row} (h : Sam a b) : Sam b a := ⟨h.l.symm, fun j => (h.v j).symm⟩
theorem Sam.set {a b : List Row} (h : Sam a b) (t v : Int) : Sam (setI a t v) (setI b t v) := ⟨by rw [setI_len, setI_len, h.l], fun j => by rw [at_setI, at_setI, h.l, h.v]⟩
theorem Sam.nrms {a b : List Row} (h : Sam a b) : nrms KInt a = nrms KInt b := by
  refine rows_ext (by rw [nrms_len, nrms_len, h.l]) (fun i hi => ?_)
  rw [nrms_len] at hi
  rw [row_nrms hi, row_nrms (by rw [← h.l]; exact hi)]
  show [Sc.i (rc (row a i) 0).int] = [Sc.i (rc (row b i) 0).int]
  have := h.v i
  unfold at' at this
  rw [this]

/-- A store after edits. -/
@[irreducible] def runE (s : List Row) (es : List Row) : List Row := es.foldl (fun s e => setI s (rc e 1).int (rc e 3).int) s
theorem runE_nil (s : List Row) : runE s [] = s := by simp [runE]
theorem runE_cons (s : List Row) (e : Row) (es : List Row) : runE s (e :: es) = runE (setI s (rc e 1).int (rc e 3).int) es := by simp [runE]
theorem runE_app (s a b : List Row) : runE s (a ++ b) = runE (runE s a) b := by simp [runE, List.foldl_append]
theorem runE_len : ∀ (es s : List Row), (runE s es).length = s.length
  | [], s => by rw [runE_nil]
  | e :: es, s => by rw [runE_cons, runE_len es, setI_len]
theorem Sam.run : ∀ {es a b : List Row}, Sam a b → Sam (runE a es) (runE b es)
  | [], _, _, h => by rw [runE_nil, runE_nil]; exact h
  | e :: es, _, _, h => by rw [runE_cons, runE_cons]; exact Sam.run (h.set _ _)
/-- An edit that is possible, as a row. -/
def VEr (s : List Row) (e : Row) : Prop := VE s (rc e 0).int (rc e 1).int (rc e 2).int (rc e 3).int
/-- Edits that are possible one after the other. -/
def VEs : List Row → List Row → Prop
  | _, [] => True
  | s, e :: es => VEr s e ∧ VEs (setI s (rc e 1).int (rc e 3).int) es
theorem VEs_app : ∀ (a s b : List Row), VEs s (a ++ b) ↔ VEs s a ∧ VEs (runE s a) b
  | [], s, b => by simp [VEs, runE_nil]
  | e :: a, s, b => by simp only [List.cons_append, VEs, runE_cons, VEs_app a, and_assoc]
theorem VEr_sam {a b : List Row} (h : Sam a b) {e : Row} (v : VEr a e) : VEr b e :=
  ⟨v.o0, v.o7, v.t0, by have := v.tl; have := h.l; omega, by have := v.e; have q := h.v (rc e 1).int.toNat; unfold at' at q; rw [← q]; exact this, v.n0, v.n1⟩
theorem VEs_sam : ∀ {es a b : List Row}, Sam a b → VEs a es → VEs b es
  | [], _, _, _, _ => trivial
  | e :: es, _, _, h, v => ⟨VEr_sam h v.1, VEs_sam (h.set _ _) v.2⟩
theorem VEs_take {s es : List Row} {i : Nat} (hi : i < es.length) : VEs s (es.take (i + 1)) ↔ VEs s (es.take i) ∧ VEr (runE s (es.take i)) (row es i) := by
  rw [take_succ_row hi, VEs_app]
  simp [VEs]
theorem runE_take {s es : List Row} {i : Nat} (hi : i < es.length) : runE s (es.take (i + 1)) = setI (runE s (es.take i)) (rc (row es i) 1).int (rc (row es i) 3).int := by
  rw [take_succ_row hi, runE_app, runE_cons, runE_nil]
/-- All numbers of a store are in range. -/
structure Rng (s : List Row) : Prop where
  h : ∀ j, j < s.length → 0 ≤ at' s j ∧ at' s j ≤ 999999
theorem rng_set {s : List Row} {e : Row} (h : Rng s) (v : VEr s e) : Rng (setI s (rc e 1).int (rc e 3).int) := ⟨fun j hj => by
  rw [setI_len] at hj
  rw [at_setI]
  split
  · exact ⟨v.n0, v.n1⟩
  · exact h.h j hj⟩

def byW (who : Int) (e : Row) : Bool := (rc e 0).int == who
/-- An edit with Old and New exchanged. -/
def swp (e : Row) : Row := [.i (rc e 0).int, .i (rc e 1).int, .i (rc e 3).int, .i (rc e 2).int]
@[irreducible] def undoE (who : Int) (es : List Row) : List Row := ((es.filter (byW who)).map swp).reverse
def oth (who : Int) (es : List Row) : List Row := es.filter (notBy who)
/-- Nobody else edits a thing behind an edit of a transaction. -/
def Alone (who : Int) (es : List Row) : Prop := es.Pairwise (fun e x => (rc e 0).int = who → (rc x 1).int = (rc e 1).int → (rc x 0).int = who)
/-- Edits that leave a thing alone. -/
def NoT (t : Int) (es : List Row) : Prop := ∀ e ∈ es, ¬ (rc e 1).int.toNat = t.toNat
theorem run_not {t v : Int} : ∀ {es b : List Row}, NoT t es → Sam (runE (setI b t v) es) (setI (runE b es) t v) ∧ at' (runE b es) t.toNat = at' b t.toNat
  | [], b, _ => ⟨by rw [runE_nil, runE_nil]; exact Sam.rfl' _, by rw [runE_nil]⟩
  | e :: es, b, h => by
    have h1 := h e (List.mem_cons_self ..)
    have h2 : NoT t es := fun x hx => h x (List.mem_cons_of_mem _ hx)
    obtain ⟨i1, i2⟩ := run_not (b := setI b (rc e 1).int (rc e 3).int) (v := v) h2
    refine ⟨?_, ?_⟩
    · rw [runE_cons, runE_cons]
      refine Sam.tr (Sam.run ⟨by simp only [setI_len], fun j => ?_⟩) i1
      simp only [at_setI, setI_len]
      by_cases hj : t.toNat = j
      · subst hj
        rw [if_neg (c := (rc e 1).int.toNat = t.toNat ∧ _) (fun q => h1 q.1), if_neg (c := (rc e 1).int.toNat = t.toNat ∧ _) (fun q => h1 q.1)]
      · rw [if_neg (c := t.toNat = j ∧ _) (fun q => hj q.1), if_neg (c := t.toNat = j ∧ _) (fun q => hj q.1)]
    · rw [runE_cons, i2, at_setI, if_neg (fun q => h1 q.1)]
theorem undo_law {who : Int} : ∀ {es b : List Row}, VEs b es → Rng b → Alone who es →
    Sam (runE (runE b es) (undoE who es)) (runE b (oth who es)) ∧ VEs (runE b es) (undoE who es)
  | [], b, _, _, _ => ⟨by rw [show undoE who [] = [] by simp [undoE], show oth who [] = [] from rfl, runE_nil, runE_nil]; exact Sam.rfl' _, by rw [show undoE who [] = [] by simp [undoE]]; trivial⟩
  | e :: es, b, hv, hr, ha => by
    obtain ⟨a1, a2⟩ := List.pairwise_cons.1 ha
    obtain ⟨i1, i2⟩ := undo_law hv.2 (rng_set hr hv.1) a2
    by_cases hw : (rc e 0).int = who
    · have hb : byW who e = true := by simp [byW, hw]
      have hn : notBy who e = false := notBy_no hw
      have e1 : undoE who (e :: es) = undoE who es ++ [swp e] := by simp [undoE, hb]
      have e2 : oth who (e :: es) = oth who es := by simp [oth, hn]
      have hno : NoT (rc e 1).int (oth who es) := by
        intro x hx he
        obtain ⟨hx1, hx2⟩ := List.mem_filter.1 hx
        have hxv : 0 ≤ (rc x 1).int := by
          have : ∀ (l s : List Row), VEs s l → x ∈ l → 0 ≤ (rc x 1).int := by
            intro l
            induction l with
            | nil => intro s _ h; simp at h
            | cons y l ih =>
              intro s hv h
              rcases List.mem_cons.1 h with rfl | h
              · exact hv.1.t0
              · exact ih _ hv.2 h
          exact this es _ hv.2 hx1
        have := a1 x hx1 hw (by have := hv.1.t0; omega)
        rw [notBy_no this] at hx2
        cases hx2
      obtain ⟨n1, n2⟩ := run_not (b := b) (v := (rc e 3).int) hno
      have hold : at' b (rc e 1).int.toNat = (rc e 2).int := hv.1.e
      have htl : (rc e 1).int.toNat < b.length := by have := hv.1.tl; have := hv.1.t0; omega
      rw [e1, e2, runE_cons, runE_app]
      have key : Sam (runE (runE (setI b (rc e 1).int (rc e 3).int) es) (undoE who es)) (setI (runE b (oth who es)) (rc e 1).int (rc e 3).int) := Sam.tr i1 n1
      refine ⟨?_, (VEs_app _ _ _).2 ⟨i2, ?_, trivial⟩⟩
      · refine Sam.tr (b := setI (setI (runE b (oth who es)) (rc e 1).int (rc e 3).int) (rc e 1).int (rc e 2).int) (by rw [runE_cons, runE_nil]; exact key.set _ _) ⟨by simp only [setI_len], fun j => ?_⟩
        simp only [at_setI, setI_len, runE_len]
        by_cases hj : (rc e 1).int.toNat = j ∧ j < b.length
        · rw [if_pos hj, ← hj.1, n2, hold]
        · rw [if_neg hj, if_neg hj]
      · refine VEr_sam key.sy ?_
        have hro := hr.h _ htl
        rw [hold] at hro
        refine ⟨hv.1.o0, hv.1.o7, hv.1.t0, ?_, ?_, hro.1, hro.2⟩
        · rw [setI_len, runE_len]; exact hv.1.tl
        · have : at' (setI (runE b (oth who es)) (rc e 1).int (rc e 3).int) (rc e 1).int.toNat = (rc e 3).int := by
            rw [at_setI, if_pos ⟨rfl, by rw [runE_len]; exact htl⟩]
          exact this
    · have hb : byW who e = false := by simp [byW, hw]
      have e1 : undoE who (e :: es) = undoE who es := by simp [undoE, hb]
      have e2 : oth who (e :: es) = e :: oth who es := by simp [oth, notBy_yes hw]
      rw [e1, e2, runE_cons, runE_cons]
      exact ⟨i1, i2⟩
end Go.Proofs.Ytggahgackpiddaa.V
