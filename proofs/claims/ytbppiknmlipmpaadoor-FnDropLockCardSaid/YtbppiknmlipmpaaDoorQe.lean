/-
  Queues do not lock up; dropped locks let others in: in plain words.
-/
import Derived.Test.YtbppiknmlipmpaaDoorQb
set_option linter.unusedSimpArgs false
set_option linter.unusedVariables false
namespace Go.Proofs.YtbppiknmlipmpaaDoor.V
open Go Go.RowKit
open Classical

theorem mem_qwK {rs : List Row} {g : Int} {i : Nat} {r : Row} : ∀ {k : Nat}, r ∈ qwK rs g i k ↔ ∃ j, j < k ∧ Qw rs g i j ∧ r = qwE rs i j
  | 0 => by simp [qwK]
  | k + 1 => by
    have ih := mem_qwK (rs := rs) (g := g) (i := i) (r := r) (k := k)
    rw [qwK]
    split
    · rename_i h
      rw [List.mem_append, List.mem_singleton, ih]
      constructor
      · rintro (⟨j, h1, h2⟩ | rfl)
        · exact ⟨j, by omega, h2⟩
        · exact ⟨k, by omega, h, rfl⟩
      · rintro ⟨j, h1, h2, h3⟩
        by_cases e : j = k
        · subst e; exact .inr h3
        · exact .inl ⟨j, by omega, h2, h3⟩
    · rename_i h
      rw [ih]
      constructor
      · rintro ⟨j, h1, h2⟩; exact ⟨j, by omega, h2⟩
      · rintro ⟨j, h1, h2, h3⟩
        by_cases e : j = k
        · subst e; exact absurd h2 h
        · exact ⟨j, by omega, h2, h3⟩
theorem mem_qwN0 {rs : List Row} {g : Int} {r : Row} : ∀ {n : Nat}, r ∈ qwN0 rs g n ↔ ∃ i, i < n ∧ g ≤ (i : Int) ∧ r ∈ qwK rs g i i
  | 0 => by simp [qwN0]
  | n + 1 => by
    have ih := mem_qwN0 (rs := rs) (g := g) (r := r) (n := n)
    rw [qwN0]
    split
    · rename_i h
      rw [List.mem_append, ih]
      constructor
      · rintro (⟨i, h1, h2⟩ | h1)
        · exact ⟨i, by omega, h2⟩
        · exact ⟨n, by omega, h, h1⟩
      · rintro ⟨i, h1, h2, h3⟩
        by_cases e : i = n
        · subst e; exact .inr h3
        · exact .inl ⟨i, by omega, h2, h3⟩
    · rename_i h
      constructor
      · intro q; simp at q
      · rintro ⟨i, h1, h2, _⟩; omega
theorem mem_qwV {rs : List Row} {r : Row} : r ∈ qwV rs ↔ ReqV rs ∧ ∃ i k, i < rs.length ∧ grtV rs ≤ (i : Int) ∧ k < i ∧ Qw rs (grtV rs) i k ∧ r = qwE rs i k := by
  unfold qwV qwN
  split
  · rename_i h
    rw [mem_qwN0]
    constructor
    · rintro ⟨i, h1, h2, h3⟩
      obtain ⟨k, h4, h5, h6⟩ := mem_qwK.1 h3
      exact ⟨h, i, k, h1, h2, h4, h5, h6⟩
    · rintro ⟨_, i, k, h1, h2, h4, h5, h6⟩
      exact ⟨i, h1, h2, mem_qwK.2 ⟨k, h4, h5, h6⟩⟩
  · rename_i h
    constructor
    · intro q; simp at q
    · rintro ⟨q, _⟩; exact absurd q h
theorem own_ne {rs : List Row} (h : ReqV rs) {a b : Nat} (ha : a < b) (hb : b < rs.length) : ¬ (rc (row rs a) 0).int = (rc (row rs b) 0).int := (h.n.u b (by omega) hb).h a (by omega) (by omega)
theorem own_eq {rs : List Row} (h : ReqV rs) {a b : Nat} (ha : a < rs.length) (hb : b < rs.length) (e : (rc (row rs a) 0).int = (rc (row rs b) 0).int) : a = b := by
  rcases Nat.lt_trichotomy a b with q | q | q
  · exact absurd e (own_ne h q hb)
  · exact q
  · exact absurd e.symm (own_ne h q ha)
theorem edge_qwV {rs : List Row} {u v : Int} (h : Edge (qwV rs) u v) : ReqV rs ∧ ∃ i k, i < rs.length ∧ k < i ∧ (rc (row rs i) 0).int = u ∧ (rc (row rs k) 0).int = v := by
  obtain ⟨j, hj, h1, h2⟩ := h
  have hm : row (qwV rs) j ∈ qwV rs := by
    rw [show row (qwV rs) j = (qwV rs)[j] by simp [row, hj]]; exact List.getElem_mem hj
  obtain ⟨hv, i, k, h3, _, h4, _, h5⟩ := mem_qwV.1 hm
  rw [h5] at h1 h2
  exact ⟨hv, i, k, h3, h4, h1, h2⟩
theorem rch_qwV {rs : List Row} {u v : Int} (h : Rch (qwV rs) u v) : ReqV rs ∧ ∃ i k, i < rs.length ∧ k < i ∧ (rc (row rs i) 0).int = u ∧ (rc (row rs k) 0).int = v := by
  induction h with
  | one h => exact edge_qwV h
  | step _ h ih =>
    obtain ⟨hv, i, k, h1, h2, h3, h4⟩ := ih
    obtain ⟨_, i', k', h1', h2', h3', h4'⟩ := edge_qwV h
    have e := own_eq hv (show k < rs.length by omega) h1' (by rw [h4, h3'])
    exact ⟨hv, i, k', h1, by omega, h3, h4'⟩
/-- Nobody in a queue waits for themselves. -/
theorem lock_qwV (rs : List Row) : lockF (qwV rs) = [] := by
  apply Classical.byContradiction
  intro hn
  have hl : 0 < (lockF (qwV rs)).length := List.length_pos_iff.2 hn
  obtain ⟨_, h⟩ := (lock_mem (ws := qwV rs) (v := numT (lockF (qwV rs)) 0)).1 ⟨0, hl, rfl⟩
  obtain ⟨hv, i, k, h1, h2, h3, h4⟩ := rch_qwV h
  exact own_ne hv h2 h1 (by rw [h3, h4])
theorem lock_qwV0 (rs : List Row) : ((lockF (qwV rs)).length : Int) = 0 := by rw [lock_qwV]; rfl
/-- Somebody stands among the first. -/
@[irreducible] noncomputable def sqB (ws : List Row) (who : Int) (i : Nat) : Bool := decide (∃ j, j < i ∧ (rc (row ws j) 0).int = who)
theorem sq_zero (ws : List Row) (who : Int) : false = sqB ws who (Int.toNat 0) := by unfold sqB; exact false_eq (fun ⟨j, h, _⟩ => by simp at h)
theorem sq_old {ws : List Row} {who i : Int} (h : sqB ws who i.toNat = true) (h0 : 0 ≤ i) : true = sqB ws who (i + 1).toNat := by
  unfold sqB at h ⊢
  obtain ⟨j, h1, h2⟩ := of_decide_eq_true h
  exact true_eq ⟨j, by omega, h2⟩
theorem sq_yes {ws : List Row} {who i : Int} (h : (rc (row ws i.toNat) 0).int = who) (h0 : 0 ≤ i) : true = sqB ws who (i + 1).toNat := by unfold sqB; exact true_eq ⟨i.toNat, by omega, h⟩
theorem sq_dec {ws : List Row} {who i : Int} (h : sqB ws who i.toNat = false) (h0 : 0 ≤ i) : ((rc (row ws i.toNat) 0).int == who) = sqB ws who (i + 1).toNat := by
  unfold sqB at h ⊢
  rw [Bool.eq_iff_iff, beq_iff_eq, decide_eq_true_eq]
  constructor
  · intro q; exact ⟨i.toNat, by omega, q⟩
  · rintro ⟨j, h1, h2⟩
    by_cases e : j = i.toNat
    · rw [← e]; exact h2
    · exact absurd ⟨j, by omega, h2⟩ (of_decide_eq_false h)
theorem sq_no {ws : List Row} {who i : Int} (h : sqB ws who i.toNat = false) (hn : ¬ (rc (row ws i.toNat) 0).int = who) (h0 : 0 ≤ i) : false = sqB ws who (i + 1).toNat := by
  rw [← sq_dec h h0]; simp [hn]
/-- Exactly those wait whose requests are not granted. -/
theorem sq_fin {rs : List Row} {i k : Int} (hg : 0 ≤ grL rs) (h0 : 0 ≤ i) (hi : i < rs.length) (hk : ¬ k < (qwV rs).length) (hk2 : k ≤ (qwV rs).length) : sqB (qwV rs) (rc (row rs i.toNat) 0).int k.toNat = decide (grL rs ≤ i) := by
  have hv : ReqV rs := grL_pos (by omega)
  rw [grL_yes hv]
  unfold sqB
  rw [decide_eq_decide]
  have hG := grtV_is rs
  constructor
  · rintro ⟨j, h1, h2⟩
    by_cases hj : j < (qwV rs).length
    · have hm : row (qwV rs) j ∈ qwV rs := by
        rw [show row (qwV rs) j = (qwV rs)[j] by simp [row, hj]]; exact List.getElem_mem hj
      obtain ⟨_, i', k', h3, h3', h4, _, h5⟩ := mem_qwV.1 hm
      rw [h5] at h2
      have e := own_eq hv h3 (show i.toNat < rs.length by omega) h2
      omega
    · omega
  · intro h
    have hr := hG.r
    have hex : ∃ k', k' < i.toNat ∧ Qw rs (grtV rs) i.toNat k' := by
      by_cases e : grtV rs = i
      · have := hG.s (by omega)
        apply Classical.byContradiction
        intro hn
        refine this ⟨fun j hj => ?_⟩
        apply Classical.byContradiction
        intro q
        refine hn ⟨j, by omega, .inr ?_⟩
        rw [togB_sym, ← e]
        simpa using q
      · exact ⟨(grtV rs).toNat, by omega, .inl (by omega)⟩
    obtain ⟨k', h1, h2⟩ := hex
    have hm : qwE rs i.toNat k' ∈ qwV rs := mem_qwV.2 ⟨hv, i.toNat, k', by omega, by omega, h1, h2, rfl⟩
    obtain ⟨j, hj, e⟩ := List.getElem_of_mem hm
    refine ⟨j, by omega, ?_⟩
    rw [show row (qwV rs) j = (qwV rs)[j] by simp [row, hj], e]; rfl
theorem sq_fin' {rs : List Row} {i k : Int} (h : ¬ sqB (qwV rs) (rc (row rs i.toNat) 0).int k.toNat = decide (grL rs ≤ i)) (hg : 0 ≤ grL rs) (h0 : 0 ≤ i) (hi : i < rs.length) (hk : ¬ k < (qwV rs).length) (hk2 : k ≤ (qwV rs).length) : False := h (sq_fin hg h0 hi hk hk2)
theorem sq_bne {rs : List Row} {i k : Int} (h : (sqB (qwV rs) (rc (row rs i.toNat) 0).int k.toNat != decide (grL rs ≤ i)) = true) (hg : 0 ≤ grL rs) (h0 : 0 ≤ i) (hi : i < rs.length) (hk : ¬ k < (qwV rs).length) (hk2 : k ≤ (qwV rs).length) : False := by rw [sq_fin hg h0 hi hk hk2] at h; simp at h
/-! Dropped locks. -/
/-- Whether the owner's request stands among the first i. -/
@[irreducible] noncomputable def wasV (rs : List Row) (p : Int) (i : Nat) : Int := if ∃ j, j < i ∧ (rc (row rs j) 0).int = p then 1 else 0
theorem was_zero (rs : List Row) (p : Int) : 0 = wasV rs p (Int.toNat 0) := by unfold wasV; rw [if_neg (fun ⟨j, h, _⟩ => by simp at h)]
theorem was_yes {rs : List Row} {p i : Int} (h : (rc (row rs i.toNat) 0).int = p) (h0 : 0 ≤ i) : 1 = wasV rs p (i + 1).toNat := by unfold wasV; rw [if_pos ⟨i.toNat, by omega, h⟩]
theorem was_no {rs : List Row} {p i : Int} (h : ¬ (rc (row rs i.toNat) 0).int = p) (h0 : 0 ≤ i) : wasV rs p i.toNat = wasV rs p (i + 1).toNat := by
  unfold wasV
  congr 1
  rw [eq_iff_iff]
  constructor
  · rintro ⟨j, h1, h2⟩; exact ⟨j, by omega, h2⟩
  · rintro ⟨j, h1, h2⟩
    refine ⟨j, ?_, h2⟩
    by_cases e : j = i.toNat
    · rw [e] at h2; exact absurd h2 h
    · omega
theorem was_r (rs : List Row) (p : Int) (i : Nat) : 0 ≤ wasV rs p i ∧ wasV rs p i ≤ 1 := by unfold wasV; split <;> omega
theorem drop_at {rs : List Row} {p : Int} (hn : nrms KRequest rs = rs) (hb : dropB rs p = true) : ReqV rs ∧ ∃ j, j < rs.length ∧ (rc (row rs j) 0).int = p ∧ dropR rs p = rs.take j ++ rs.drop (j + 1) := by
  obtain ⟨hv, hx⟩ := of_decide_eq_true hb
  have : ∃ j, j < rs.length ∧ (rc (row rs j) 0).int = p := by
    apply Classical.byContradiction
    intro q
    exact hx ⟨fun j _ h2 h3 => q ⟨j, h2, h3⟩⟩
  obtain ⟨j, hj, hp⟩ := this
  have hf : Fnd rs p (j : Int) := ⟨by omega, fun _ => ⟨by simpa using hp, ⟨fun b h1 h2 h3 => own_ne hv (show b < j by omega) hj (by rw [h3, hp])⟩⟩, fun q => by omega⟩
  refine ⟨hv, j, hj, hp, ?_⟩
  rw [← drop_delR hv hf hn (by omega), show ((j : Int) + 1).toNat = j + 1 by omega, Int.toNat_natCast]
theorem drop_l1 {rs : List Row} {p : Int} (hn : nrms KRequest rs = rs) (hb : dropB rs p = true) : ((dropR rs p).length : Int) = (rs.length : Int) - 1 := by
  obtain ⟨_, j, hj, _, e⟩ := drop_at hn hb
  rw [e]; simp; omega
theorem row_out {rs : List Row} {j a : Nat} (hj : j < rs.length) (ha : a + 1 < rs.length) : row (rs.take j ++ rs.drop (j + 1)) a = row rs (if a < j then a else a + 1) := by
  unfold row
  simp only [List.getD_eq_getElem?_getD]
  split
  · rename_i h
    rw [List.getElem?_append_left (by simp; omega), List.getElem?_take_of_lt h]
  · rename_i h
    rw [List.getElem?_append_right (by simp; omega), List.getElem?_drop]
    congr 2
    simp; omega
theorem drop_ge {rs : List Row} {p i : Int} (hn : nrms KRequest rs = rs) (hb : dropB rs p = true) (hi : i = grL rs) : grL rs - wasV rs p i.toNat ≤ grL (dropR rs p) := by
  obtain ⟨hv, j, hj, hp, e⟩ := drop_at hn hb
  rw [grL_yes hv] at hi ⊢
  rw [e]
  have hG := grtV_is rs
  have hr := hG.r
  have hol : (rs.take j ++ rs.drop (j + 1)).length + 1 = rs.length := by simp; omega
  generalize hout : rs.take j ++ rs.drop (j + 1) = out at hol
  have hrow : ∀ a, a < out.length → row out a = row rs (if a < j then a else a + 1) := fun a ha => by rw [← hout]; exact row_out hj (by omega)
  have hix : ∀ a, a < out.length → (if a < j then a else a + 1) < rs.length := fun a ha => by split <;> omega
  have hov : ReqV out := ⟨⟨fun a _ ha => by rw [hrow a ha]; exact hv.n.o _ (by have := hix a ha; omega) (hix a ha), fun b _ hb' => ⟨fun a ha ha' => by
    rw [hrow a ha', hrow b hb']
    refine own_ne hv ?_ (hix b hb')
    split <;> split <;> omega⟩⟩, by have := hv.l; omega⟩
  rw [grL_yes hov]
  have hO := grtV_is out
  have hor := hO.r
  have hw : wasV rs p i.toNat = if (j : Int) < grtV rs then 1 else 0 := by
    unfold wasV
    congr 1
    rw [eq_iff_iff]
    constructor
    · rintro ⟨b, h1, h2⟩
      have hb' : b < rs.length := by omega
      have := own_eq hv hb' hj (by rw [h2, hp])
      omega
    · intro h; exact ⟨j, by omega, hp⟩
  rw [hw]
  apply Classical.byContradiction
  intro hlt
  have hlt : grtV out < grtV rs - (if (j : Int) < grtV rs then 1 else 0) := by omega
  have hgl : (grtV out) < out.length := by split at hlt <;> omega
  refine hO.s hgl ⟨fun a ha => ?_⟩
  have hb' : (grtV out).toNat < out.length := by omega
  rw [hrow a (by omega), hrow _ hb']
  generalize hB : (if (grtV out).toNat < j then (grtV out).toNat else (grtV out).toNat + 1) = B
  generalize hA : (if a < j then a else a + 1) = A
  have hBg : (B : Int) < grtV rs := by rw [← hB]; split at hlt <;> split <;> omega
  have hAB : A < B := by rw [← hA, ← hB]; split <;> split <;> omega
  have := (hG.n.h B hBg).h A (by omega)
  simpa using this
theorem drop_geB {rs : List Row} {p i : Int} (hn : nrms KRequest rs = rs) (hb : dropB rs p = true) (hi : i = grL rs) : decide (grL rs - wasV rs p i.toNat ≤ grL (dropR rs p)) = true := by simpa using drop_ge hn hb hi
theorem gr_len {rs : List Row} : grL rs ≤ rs.length := (grL_r rs).2
end Go.Proofs.YtbppiknmlipmpaaDoor.V
