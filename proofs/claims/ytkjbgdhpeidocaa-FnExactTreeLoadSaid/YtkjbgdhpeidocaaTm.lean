/-
  All items of a tree are marked: markItemSS and markTree, walked.
-/
import Derived.Test.YtkjbgdhpeidocaaTg
set_option linter.unusedSimpArgs false
set_option linter.unusedVariables false
namespace Go.Proofs.Ytkjbgdhpeidocaa.V
open Go Go.RowKit Go.Lib

/-- The items of one leaf are marked. -/
theorem mark_call (w : World) (u : Value) (xs : List Row) (k : Int) (ho : w.ownsRow 0 49 2 u xs.length (flat KItem xs)) (hx : nrms KItem xs = xs) (h1 : 0 ≤ k ∧ k ≤ 1000000000000 ∧ xs.length ≤ 1048576) :
    Calls Try.prog 14 #[u, .int .i64 k] w fun e w' => e = .returned (.int .i64 (k + xs.length * 2)) ∧
      (w'.ownsRow 0 49 2 u xs.length (flat KItem (marks KItem xs.length k)) ∧ Stp (fun b => blk u = some b) w w') := by
  have hlt : ∀ b ∈ (blk u).toList, b < w.heap.size := fun b hb => by
    have : blk u = some b := by simpa using hb
    exact (ho.lt b (own_blk ho this)).2
  have hnd : (blk u).toList.Nodup := by cases blk u <;> simp
  have hcall := p_markItemS.sound (fun _ => False) w [.fr 49 KItem xs, .int .i64 k] [u, .int .i64 k] (blk u).toList (fun r io => r = .int .i64 (k + xs.length * 2) ∧ io = [.fr 49 KItem (marks KItem xs.length k)])
    (by intro g ks xs h; simp [glTab] at h) ⟨u, [.int .i64 k], (blk u).toList, [], rfl, by simp, ⟨ho, rfl⟩, _, [], [], [], rfl, rfl, ⟨rfl, rfl⟩, rfl, rfl⟩ hnd (fun b hb => hb.elim) hlt
    ⟨rfl, rfl, hx, h1, ⟨rfl, rfl⟩⟩
  refine hcall.mono ?_
  rintro e w' ⟨v, r, io, B', rfl, ⟨rfl, rfl⟩, hr, _, _, hio, hst⟩
  have hv : v = .int .i64 (k + xs.length * 2) := hr.1
  subst hv
  have hm : mergeIo [.fr 49 KItem xs, .int .i64 k] [.fr 49 KItem (marks KItem xs.length k)] = [.fr 49 KItem (marks KItem xs.length k), .int .i64 k] := rfl
  rw [hm] at hio
  simp only [D2s] at hio
  obtain ⟨u1, us, B1, B2, e1, _, q1, _⟩ := hio
  simp only [List.cons.injEq] at e1
  obtain ⟨rfl, _⟩ := e1
  refine ⟨rfl, ?_, hst.mono (fun b hb => by simpa using hb)⟩
  have := q1.1
  rwa [marks_len] at this

theorem inns_upd {w w2 : World} {f : Nat} {ks : List Kd} {u : Value} {zs : List Row} : ∀ {yss : List (List Row)} {vs : List Value} {j : Nat}, Inns w f ks yss vs → vs[j]? = some u → w2.ownsRow 0 f (lenK ks) u zs.length (flat ks zs) →
    (∀ (i : Nat) (v : Value), i ≠ j → vs[i]? = some v → ∀ b, blk v = some b → w2.heap[b]? = w.heap[b]?) → Inns w2 f ks (yss.set j zs) vs
  | [], vs, j, h, hj, _, _ => by simp only [Inns] at h; subst h; simp at hj
  | ys :: yss, vs, 0, h, hj, ho, hb => by
    simp only [Inns] at h
    obtain ⟨u', us, rfl, h1, h2⟩ := h
    simp at hj
    subst hj
    simp only [List.set_cons_zero, Inns]
    refine ⟨_, us, rfl, ho, h2.still (fun b v hv hb' => ?_)⟩
    obtain ⟨i, hi⟩ := List.mem_iff_getElem?.1 hv
    exact hb (i + 1) v (by omega) (by simpa using hi) b hb'
  | ys :: yss, vs, j + 1, h, hj, ho, hb => by
    simp only [Inns] at h
    obtain ⟨u', us, rfl, h1, h2⟩ := h
    simp only [List.set_cons_succ, Inns]
    refine ⟨u', us, rfl, heap_of_own h1 (fun b hb' => hb 0 u' (by omega) (by simp) b hb'), inns_upd h2 (by simpa using hj) ho (fun i v hij hi b hb' => hb (i + 1) v (by omega) (by simpa using hi) b hb')⟩
theorem blk_apart {vs : List Value} (hn : (vs.filterMap blk).Nodup) {i j : Nat} {u v : Value} {b : Nat} (hij : i ≠ j) (hi : vs[i]? = some v) (hj : vs[j]? = some u) (hb : blk v = some b) : ¬ blk u = some b := by
  intro hu
  unfold List.Nodup at hn
  rw [List.pairwise_filterMap, List.pairwise_iff_getElem] at hn
  obtain ⟨h1, e1⟩ := List.getElem?_eq_some_iff.1 hi
  obtain ⟨h2, e2⟩ := List.getElem?_eq_some_iff.1 hj
  rcases Nat.lt_or_ge i j with q | q
  · exact hn i j h1 h2 q b (by rw [e1]; exact hb) b (by rw [e2]; exact hu) rfl
  · exact hn j i h2 h1 (by omega) b (by rw [e2]; exact hu) b (by rw [e1]; exact hb) rfl

/-- The first j leaves are marked. -/
def markingS (xss : List (List Row)) (q : Int) (j : Nat) : List (List Row) := marksS KItem (xss.take j) q ++ xss.drop j
theorem markingS_zero (xss : List (List Row)) (q : Int) : markingS xss q 0 = xss := by simp [markingS, marksS]
theorem markingS_all (xss : List (List Row)) (q : Int) : markingS xss q xss.length = marksS KItem xss q := by simp [markingS]
theorem markingS_get {xss : List (List Row)} {q : Int} {j : Nat} (h : j < xss.length) : (markingS xss q j).getD j [] = xss.getD j [] := by
  unfold markingS
  rw [List.getD_eq_getElem?_getD, List.getElem?_append_right (by rw [marksS_len]; simp; omega), marksS_len]
  rw [List.getElem?_drop, List.getD_eq_getElem?_getD]
  congr 2
  simp; omega
theorem marksS_snoc : ∀ (xss : List (List Row)) (q : Int) (xs : List Row), marksS KItem (xss ++ [xs]) q = marksS KItem xss q ++ [marks KItem xs.length (q + tot xss * 2)]
  | [], q, xs => by simp [marksS, tot]
  | ys :: xss, q, xs => by
    simp only [List.cons_append, marksS, marksS_snoc xss, tot, lenK_KItem]
    congr 4
    rw [Int.natCast_add, Int.add_mul]
    have : ((2 : Nat) : Int) = 2 := rfl
    omega
theorem markingS_step {xss : List (List Row)} {q : Int} {j : Nat} (h : j < xss.length) : (markingS xss q j).set j (marks KItem (xss.getD j []).length (q + tot (xss.take j) * 2)) = markingS xss q (j + 1) := by
  unfold markingS
  have h1 : (marksS KItem (xss.take j) q).length = j := by rw [marksS_len]; simp; omega
  rw [List.set_append_right _ _ (by omega), h1, Nat.sub_self, List.drop_eq_getElem_cons h, List.set_cons_zero, List.take_add_one, List.getElem?_eq_getElem h]
  simp only [Option.toList, marksS_snoc, List.append_assoc, List.cons_append, List.nil_append]
  rw [List.getD_eq_getElem?_getD, List.getElem?_eq_getElem h]
  rfl

/-- What holds between two leaves. -/
structure Mk (w : World) (xss : List (List Row)) (vs : List Value) (q : Int) (j : Nat) (wr : World) : Prop where
  inn : Inns wr 49 KItem (markingS xss q j) vs
  st : Stp (fun b => b ∈ vs.filterMap blk) w wr
theorem mk_step {w wr w2 : World} {xss : List (List Row)} {vs : List Value} {q : Int} {j : Nat} {u : Value} (h : Mk w xss vs q j wr) (hn : (vs.filterMap blk).Nodup) (hj : j < xss.length) (hu : vs[j]? = some u)
    (ho : w2.ownsRow 0 49 2 u (xss.getD j []).length (flat KItem (marks KItem (xss.getD j []).length (q + tot (xss.take j) * 2)))) (hs : Stp (fun b => blk u = some b) wr w2) : Mk w xss vs q (j + 1) w2 := by
  refine ⟨?_, h.st.trans (hs.mono fun b hb => List.mem_filterMap.2 ⟨u, List.mem_of_getElem? hu, hb⟩)⟩
  rw [← markingS_step hj]
  refine inns_upd h.inn hu (by rw [marks_len]; exact ho) (fun i v hij hi b hb => hs.block b ?_ (blk_apart hn hij hi hu hb))
  have hil : i < (markingS xss q j).length := by
    rw [← h.inn.length]; exact (List.getElem?_eq_some_iff.1 hi).1
  obtain ⟨v', q1, q2⟩ := h.inn.get i hil
  rw [hi] at q1
  cases q1
  exact (q2.lt b (own_blk q2 hb)).2
end Go.Proofs.Ytkjbgdhpeidocaa.V
