/-
  Waits, the plain laws: victims.
-/
import Derived.Test.YtbppiknmlipmpaaDoorWq
set_option linter.unusedSimpArgs false
set_option linter.unusedVariables false
namespace Go.Proofs.YtbppiknmlipmpaaDoor.V
open Go Go.RowKit
open Classical

/-- A wait that a transaction has no part in. -/
def woP (v : Int) (r : Row) : Bool := !((rc r 0).int == v) && !((rc r 1).int == v)
theorem woP_yes {v : Int} {r : Row} (h : ¬ (rc r 0).int = v) (h2 : ¬ (rc r 1).int = v) : woP v r = true := by simp [woP, h, h2]
theorem woP_no1 {v : Int} {r : Row} (h : (rc r 0).int = v) : woP v r = false := by simp [woP, h]
theorem woP_no2 {v : Int} {r : Row} (h : (rc r 1).int = v) : woP v r = false := by simp [woP, h]
def woF (ws : List Row) (v : Int) : List Row := nrms KWait (ws.filter (woP v))
theorem rc_nrmW (r : Row) : (rc (nrm KWait r) 0).int = (rc r 0).int ∧ (rc (nrm KWait r) 1).int = (rc r 1).int := ⟨rfl, rfl⟩
theorem edge_mem {ws : List Row} {u v : Int} : Edge ws u v ↔ ∃ r ∈ ws, (rc r 0).int = u ∧ (rc r 1).int = v := by
  constructor
  · rintro ⟨j, hj, h1, h2⟩
    refine ⟨row ws j, ?_, h1, h2⟩
    have := row_some hj
    exact List.mem_of_getElem? this
  · rintro ⟨r, hr, h1, h2⟩
    obtain ⟨j, hj, he⟩ := List.mem_iff_getElem.1 hr
    have := row_some hj
    rw [List.getElem?_eq_getElem hj] at this
    have e : row ws j = r := by rw [← Option.some.inj this, he]
    exact ⟨j, hj, by rw [e]; exact h1, by rw [e]; exact h2⟩
theorem edge_filt {ws : List Row} {p : Row → Bool} {q : Int → Int → Prop} (hp : ∀ r, p r = true ↔ q (rc r 0).int (rc r 1).int) {u v : Int} : Edge (nrms KWait (ws.filter p)) u v ↔ (Edge ws u v ∧ q u v) := by
  rw [edge_mem, edge_mem]
  constructor
  · rintro ⟨r, hr, h1, h2⟩
    obtain ⟨s, hs, rfl⟩ := List.mem_map.1 hr
    obtain ⟨hs1, hs2⟩ := List.mem_filter.1 hs
    obtain ⟨e1, e2⟩ := rc_nrmW s
    rw [e1] at h1
    rw [e2] at h2
    have := (hp s).1 hs2
    rw [h1, h2] at this
    exact ⟨⟨s, hs1, h1, h2⟩, this⟩
  · rintro ⟨⟨s, hs1, h1, h2⟩, hq⟩
    exact ⟨nrm KWait s, List.mem_map.2 ⟨s, List.mem_filter.2 ⟨hs1, (hp s).2 (by rw [h1, h2]; exact hq)⟩, rfl⟩, h1, h2⟩
theorem wv_filt {ws : List Row} {p : Row → Bool} (h : WV ws) : WV (nrms KWait (ws.filter p)) := by
  refine ⟨?_, ⟨fun j hj => ?_⟩⟩
  · rw [nrms_len]; have := List.length_filter_le p ws; have := h.n; omega
  · rw [nrms_len] at hj
    have hj' : j < (ws.filter p).length := by omega
    rw [row_nrms hj']
    have hm : row (ws.filter p) j ∈ ws.filter p := List.mem_of_getElem? (row_some hj')
    have hm2 := (List.mem_filter.1 hm).1
    obtain ⟨k, hk, he⟩ := List.mem_iff_getElem.1 hm2
    have := row_some hk
    rw [List.getElem?_eq_getElem hk] at this
    have e : row ws k = row (ws.filter p) j := by rw [← Option.some.inj this, he]
    have hw := h.a.h k (by omega)
    rw [e] at hw
    exact ⟨hw.w0, hw.w7, hw.f0, hw.f7⟩
theorem wo_iff (v : Int) : ∀ r, woP v r = true ↔ ((rc r 0).int ≠ v ∧ (rc r 1).int ≠ v) := fun r => by simp [woP]
theorem edge_wo {ws : List Row} {v a b : Int} : Edge (woF ws v) a b ↔ (Edge ws a b ∧ (a ≠ v ∧ b ≠ v)) := edge_filt (q := fun a b => a ≠ v ∧ b ≠ v) (wo_iff v)
theorem rch_edgeR {ws : List Row} {u v : Int} (h : Rch ws u v) : (∃ w, Edge ws u w) ∧ ∃ w, Edge ws w v := by
  induction h with
  | one he => exact ⟨⟨_, he⟩, ⟨_, he⟩⟩
  | step _ he ih => exact ⟨ih.1, ⟨_, he⟩⟩
theorem lock_wo {ws : List Row} {v x : Int} (h : Mem (lockF (woF ws v)) x) : x ≠ v := by
  have := (lock_mem.1 h).2
  obtain ⟨⟨w, hw⟩, _⟩ := rch_edgeR this
  exact (edge_wo.1 hw).2.1
theorem wo_len {ws : List Row} {v : Int} (h : Mem (lockF ws) v) : (woF ws v).length < ws.length := by
  have := (lock_mem.1 h).2
  obtain ⟨⟨w, hw⟩, _⟩ := rch_edgeR this
  obtain ⟨r, hr, h1, h2⟩ := edge_mem.1 hw
  unfold woF
  rw [nrms_len]
  have hle := List.length_filter_le (woP v) ws
  apply Nat.lt_of_le_of_ne hle
  intro e
  have hall := List.filter_eq_self.1 (List.Sublist.eq_of_length (List.filter_sublist) e) r hr
  rw [woP_no1 h1] at hall; cases hall
/-- The last number of a list. -/
def lastN (xs : List Row) : Int := numT xs (xs.length - 1)
theorem last_mem {xs : List Row} (h : ¬ xs = []) : Mem xs (lastN xs) := ⟨xs.length - 1, by cases xs with | nil => exact absurd rfl h | cons a l => simp, rfl⟩
noncomputable def vicF : Nat → List Row → List Row
  | 0, _ => []
  | n + 1, ws => if lockF ws = [] then [] else [.i (lastN (lockF ws))] :: vicF n (woF ws (lastN (lockF ws)))
/-- What is left in the end. -/
noncomputable def finF : Nat → List Row → List Row
  | 0, ws => ws
  | n + 1, ws => if lockF ws = [] then ws else finF n (woF ws (lastN (lockF ws)))
theorem lock_none {ws : List Row} (h : ws.length = 0) : lockF ws = [] := by
  apply Classical.byContradiction
  intro hn
  have := wo_len (last_mem hn)
  omega
theorem vic_stable : ∀ (n : Nat) (ws : List Row), ws.length ≤ n → vicF n ws = vicF ws.length ws
  | 0, ws, h => by rw [show ws.length = 0 by omega]
  | n + 1, ws, h => by
    by_cases hl : lockF ws = []
    · simp only [vicF]
      rw [if_pos hl]
      cases hw : ws.length with
      | zero => rfl
      | succ m => simp only [vicF]; rw [if_pos hl]
    · have hlt := wo_len (last_mem hl)
      cases hw : ws.length with
      | zero => omega
      | succ m =>
        simp only [vicF]
        rw [if_neg hl, if_neg hl, vic_stable n _ (by omega), vic_stable m _ (by omega)]
@[irreducible] noncomputable def vic (ws : List Row) : List Row := vicF ws.length ws
theorem vic_nil {ws : List Row} (h : lockF ws = []) : vic ws = [] := by
  unfold vic
  cases hw : ws.length with
  | zero => rfl
  | succ m => simp only [vicF]; rw [if_pos h]
theorem vic_cons {ws : List Row} (h : ¬ lockF ws = []) : vic ws = [.i (lastN (lockF ws))] :: vic (woF ws (lastN (lockF ws))) := by
  have hlt := wo_len (last_mem h)
  unfold vic
  cases hw : ws.length with
  | zero => omega
  | succ m =>
    simp only [vicF]
    rw [if_neg h, vic_stable m _ (by omega)]
theorem vic_len : ∀ (n : Nat) (ws : List Row), (vicF n ws).length ≤ n
  | 0, _ => by simp [vicF]
  | n + 1, ws => by
    simp only [vicF]; split
    · simp
    · simp only [List.length_cons]; have := vic_len n (woF ws (lastN (lockF ws))); omega
theorem vicL (ws : List Row) : (vic ws).length ≤ ws.length := by unfold vic; exact vic_len _ _
theorem vic_nrm : ∀ (n : Nat) (ws : List Row), nrms KInt (vicF n ws) = vicF n ws
  | 0, _ => rfl
  | n + 1, ws => by
    simp only [vicF]; split
    · rfl
    · have := vic_nrm n (woF ws (lastN (lockF ws)))
      simp only [nrms, List.map_cons] at this ⊢
      rw [this]; rfl
theorem vicN (ws : List Row) : nrms KInt (vic ws) = vic ws := by unfold vic; exact vic_nrm _ _
theorem vic_lenW {ws : List Row} : (vic ws).length ≤ 28 := by
  by_cases h : lockF ws = []
  · rw [vic_nil h]; simp
  · have := vicL ws
    obtain ⟨v, hv⟩ : ∃ v, Mem (lockF ws) v := ⟨_, last_mem h⟩
    have := (lock_mem.1 hv).1.n
    omega
/-- While victims are gathered. -/
structure VicR (ws ls acc : List Row) : Prop where
  e : acc ++ vic ls = vic ws
  l : acc.length + ls.length ≤ ws.length
  n : nrms KInt acc = acc
theorem vicr_zero (ws : List Row) : VicR ws ws [] := ⟨rfl, by simp, rfl⟩
theorem vicr_step {ws ls acc : List Row} (h : VicR ws ls acc) (hl : ¬ lockF ls = []) : VicR ws (woF ls (lastN (lockF ls))) (acc ++ [[Sc.i (lastN (lockF ls))]]) := by
  have hlt := wo_len (last_mem hl)
  refine ⟨?_, ?_, by rw [nrms_append, h.n]; rfl⟩
  · rw [List.append_assoc]
    show acc ++ ([.i (lastN (lockF ls))] :: vic (woF ls (lastN (lockF ls)))) = vic ws
    rw [← vic_cons hl, h.e]
  · rw [List.length_append]
    simp only [List.length_cons, List.length_nil]
    have := h.l
    omega
theorem vicr_fin {ws ls acc : List Row} (h : VicR ws ls acc) (hl : lockF ls = []) : acc = vic ws := by
  have := h.e
  rwa [vic_nil hl, List.append_nil] at this
theorem len0 {xs : List Row} (h : ((xs.length : Nat) : Int) = 0) : xs = [] := by cases xs with | nil => rfl | cons a l => simp at h; omega
theorem len1 {xs : List Row} (h : ¬ ((xs.length : Nat) : Int) = 0) : ¬ xs = [] := fun q => h (by rw [q]; rfl)

/-! The law on victims. -/
theorem fin_lock : ∀ (n : Nat) (ws : List Row), ws.length ≤ n → lockF (finF n ws) = []
  | 0, ws, h => lock_none (by simpa [finF] using h)
  | n + 1, ws, h => by
    simp only [finF]
    split
    · assumption
    · rename_i hl
      have hlt := wo_len (last_mem hl)
      exact fin_lock n _ (by omega)
/-- Waits without all of a list of transactions. -/
def keepP (out : List Row) (r : Row) : Prop := ¬ Mem out (rc r 0).int ∧ ¬ Mem out (rc r 1).int
noncomputable def keepF (ws out : List Row) : List Row := nrms KWait (ws.filter (fun r => decide (keepP out r)))
theorem mem_cons {v x : Int} {l : List Row} : Mem ([.i v] :: l) x ↔ (v = x ∨ Mem l x) := by
  rw [show ([.i v] :: l) = [[Sc.i v]] ++ l from rfl, mem_append, mem_one]
theorem keep_cons (ws l : List Row) (v : Int) : keepF (woF ws v) l = keepF ws ([.i v] :: l) := by
  unfold keepF woF nrms
  rw [List.filter_map, List.map_map, List.filter_filter]
  have e1 : (nrm KWait ∘ nrm KWait) = nrm KWait := by funext r; exact nrm_nrm KWait r
  rw [e1]
  congr 1
  apply List.filter_congr
  intro r _
  have e : (((fun r => decide (keepP l r)) ∘ nrm KWait) r) = decide (keepP l r) := by
    simp only [Function.comp]
    rw [decide_eq_decide]
    unfold keepP
    obtain ⟨q1, q2⟩ := rc_nrmW r
    rw [q1, q2]
  rw [e]
  by_cases h1 : (rc r 0).int = v
  · rw [woP_no1 h1, Bool.and_false]
    exact false_eq (fun q => q.1 (mem_cons.2 (.inl h1.symm)))
  · by_cases h2 : (rc r 1).int = v
    · rw [woP_no2 h2, Bool.and_false]
      exact false_eq (fun q => q.2 (mem_cons.2 (.inl h2.symm)))
    · rw [woP_yes h1 h2, Bool.and_true, decide_eq_decide]
      unfold keepP
      constructor
      · rintro ⟨q1, q2⟩
        exact ⟨fun q => (mem_cons.1 q).elim (fun e => h1 e.symm) q1, fun q => (mem_cons.1 q).elim (fun e => h2 e.symm) q2⟩
      · rintro ⟨q1, q2⟩
        exact ⟨fun q => q1 (mem_cons.2 (.inr q)), fun q => q2 (mem_cons.2 (.inr q))⟩
theorem keep_nil (ws : List Row) : keepF ws [] = nrms KWait ws := by
  unfold keepF
  rw [List.filter_eq_self.2]
  intro r _
  simp only [decide_eq_true_eq]
  exact ⟨mem_nil, mem_nil⟩
theorem fin_keep : ∀ (n : Nat) (ws : List Row), keepF ws (vicF n ws) = nrms KWait (finF n ws)
  | 0, ws => keep_nil ws
  | n + 1, ws => by
    simp only [vicF, finF]
    split
    · exact keep_nil ws
    · rw [← keep_cons, fin_keep n]
theorem wv_nrms {ws : List Row} : WV (nrms KWait ws) ↔ WV ws := by
  have hw : ∀ j, j < ws.length → (WaitOk (row (nrms KWait ws) j) ↔ WaitOk (row ws j)) := by
    intro j hj
    rw [row_nrms hj]
    exact ⟨fun q => ⟨q.w0, q.w7, q.f0, q.f7⟩, fun q => ⟨q.w0, q.w7, q.f0, q.f7⟩⟩
  constructor
  · intro h
    refine ⟨by have := h.n; rw [nrms_len] at this; exact this, ⟨fun j hj => (hw j (by omega)).1 (h.a.h j (by rw [nrms_len]; exact hj))⟩⟩
  · intro h
    refine ⟨by rw [nrms_len]; exact h.n, ⟨fun j hj => ?_⟩⟩
    rw [nrms_len] at hj
    exact (hw j (by omega)).2 (h.a.h j hj)
theorem edge_nrms {ws : List Row} {u v : Int} : Edge (nrms KWait ws) u v ↔ Edge ws u v := by
  have := edge_filt (ws := ws) (p := fun _ => true) (q := fun _ _ => True) (fun r => by simp) (u := u) (v := v)
  rw [List.filter_eq_self.2 (fun _ _ => rfl)] at this
  rw [this]; exact ⟨fun q => q.1, fun q => ⟨q, trivial⟩⟩
theorem rch_edges {a b : List Row} (h : ∀ u v, Edge a u v → Edge b u v) {u v : Int} (hr : Rch a u v) : Rch b u v := by
  induction hr with
  | one he => exact .one (h _ _ he)
  | step _ he ih => exact .step ih (h _ _ he)
theorem lock_empty {ws : List Row} (h : ∀ v, ¬ Mem (lockF ws) v) : lockF ws = [] := by
  apply Classical.byContradiction
  intro q; exact h _ (last_mem q)
theorem lock_nrmsE {ws : List Row} (h : lockF ws = []) : lockF (nrms KWait ws) = [] := by
  refine lock_empty (fun v hv => ?_)
  obtain ⟨h1, h2⟩ := lock_mem.1 hv
  have : Mem (lockF ws) v := lock_mem.2 ⟨wv_nrms.1 h1, rch_edges (fun _ _ => edge_nrms.1) h2⟩
  rw [h] at this; exact mem_nil this
/-- Without the victims nobody waits for oneself. -/
theorem vic_free (ws : List Row) : lockF (keepF ws (vic ws)) = [] := by
  have e : vic ws = vicF ws.length ws := by unfold vic; rfl
  rw [e, fin_keep]
  exact lock_nrmsE (fin_lock _ _ (Nat.le_refl _))
theorem vic_mem : ∀ (n : Nat) (ws : List Row) (x : Int), Mem (vicF n ws) x → ∃ w, Edge ws x w
  | 0, _, _, h => absurd h mem_nil
  | n + 1, ws, x, h => by
    simp only [vicF] at h
    split at h
    · exact absurd h mem_nil
    · rename_i hl
      rcases mem_cons.1 h with e | e
      · have := (lock_mem.1 (last_mem hl)).2
        rw [e] at this
        exact (rch_edgeR this).1
      · obtain ⟨w, hw⟩ := vic_mem n _ x e
        exact ⟨w, (edge_wo.1 hw).1⟩
theorem dst_cons {v : Int} {l : List Row} (h : Dst l) (hn : ¬ Mem l v) : Dst ([.i v] :: l) := ⟨fun i j hij hj => by
  cases j with
  | zero => omega
  | succ j =>
    have hj' : j < l.length := by simpa using hj
    cases i with
    | zero => exact fun q => hn ⟨j, hj', q.symm⟩
    | succ i => exact h.h i j (by omega) hj'⟩
theorem vic_dst : ∀ (n : Nat) (ws : List Row), Dst (vicF n ws)
  | 0, _ => dst_nil
  | n + 1, ws => by
    simp only [vicF]; split
    · exact dst_nil
    · refine dst_cons (vic_dst n _) (fun q => ?_)
      obtain ⟨w, hw⟩ := vic_mem n _ _ q
      exact (edge_wo.1 hw).2.1 rfl
theorem vicD (ws : List Row) : Dst (vic ws) := by unfold vic; exact vic_dst _ _
theorem vic_none {ws : List Row} : vic ws = [] ↔ lockF ws = [] := by
  constructor
  · intro h
    apply Classical.byContradiction
    intro q
    rw [vic_cons q] at h; cases h
  · exact vic_nil
end Go.Proofs.YtbppiknmlipmpaaDoor.V
