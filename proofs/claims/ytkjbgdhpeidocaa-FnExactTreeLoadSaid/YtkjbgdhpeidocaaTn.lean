/-
  All items of a tree are marked: the walks.
-/
import Derived.Test.YtkjbgdhpeidocaaTm
set_option linter.unusedSimpArgs false
set_option linter.unusedVariables false
namespace Go.Proofs.Ytkjbgdhpeidocaa.V
open Go Go.RowKit Go.Lib

set_option maxHeartbeats 4000000 in
set_option maxRecDepth 1000000 in
theorem markSS_some (w : World) (g cap : Nat) (xss : List (List Row)) (vs : List Value) (q : Int) (hcell : ∀ j u, vs[j]? = some u → w.cell? ⟨g, j, none⟩ = some u) (hg : g < w.heap.size) (hgn : g ∉ vs.filterMap blk)
    (hi : Inns w 49 KItem xss vs) (hn : (vs.filterMap blk).Nodup) (hx : ∀ i, nrms KItem (xss.getD i []) = xss.getD i []) (hq : 0 ≤ q ∧ q ≤ 1000000000) (hl : xss.length ≤ 1048576) (ht : tot xss ≤ 1048576) :
    Calls Try.prog 34 #[.slice (some ⟨g, 0, none⟩) xss.length cap, .int .i64 q] w fun e w' => e = .returned (.int .i64 (q + tot xss * 2)) ∧ Mk w xss vs q xss.length w' := by
  have hmix := mixed
  have hvl := hi.length
  go_enter Try.func34, Try.ntmps34
  go_wp2
  go_loopw [1, 5] (fun k i wr => ∃ j : Nat, j ≤ xss.length ∧ i = .int .i64 j ∧ k = .int .i64 (q + tot (xss.take j) * 2) ∧ Mk w xss vs q j wr) (fun _ i _ => xss.length - (RowKit.intOf i).toNat)
  case atStart => exact ⟨0, Nat.zero_le _, rfl, by simp [tot], ⟨by rw [markingS_zero]; exact hi, Stp.refl _ _⟩⟩
  case round =>
    obtain ⟨j, hj, rfl, rfl, hmk⟩ := hrel
    have htl := tot_le xss j
    by_cases hjl : j < xss.length
    · obtain ⟨u, hu⟩ : ∃ u, vs[j]? = some u := ⟨_, List.getElem?_eq_getElem (by omega)⟩
      have hcx : wr.cell? ⟨g, j, none⟩ = some u := (World.cell?_of_block (hmk.st.block g hg hgn)).trans (hcell j u hu)
      obtain ⟨u', hu', ho⟩ := hmk.inn.get j (by rw [← hmk.inn.length]; omega)
      rw [hu] at hu'
      cases hu'
      rw [markingS_get hjl] at ho
      have htx := len_tot xss j
      have hts := tot_succ xss j hjl
      have hts2 := tot_le xss (j + 1)
      have hmc := mark_call wr u (xss.getD j []) (q + tot (xss.take j) * 2) ho (hx j) (by omega)
      have hnext := fun w2 ho2 hs2 => mk_step (w2 := w2) hmk hn hjl hu ho2 hs2
      clear ho
      go_wp2_with (go_at_call 14; refine hmc.mono ?_; rintro e w2 ⟨rfl, ho2, hs2⟩)
      have hgx : xss[j].length = (xss.getD j []).length := by simp [List.getD_eq_getElem?_getD, hjl]
      exact ⟨⟨j + 1, by omega, by simp, by congr 1; omega, hnext w2 ho2 hs2⟩, by simp [RowKit.intOf]; omega⟩
    · go_wp2
      obtain rfl : j = xss.length := by omega
      rw [List.take_length] at *
      go_ret
      exact ⟨rfl, hmk⟩

set_option maxHeartbeats 4000000 in
set_option maxRecDepth 1000000 in
theorem markSS_nil (w : World) (q : Int) : Calls Try.prog 34 #[.slice none 0 0, .int .i64 q] w fun e w' => e = .returned (.int .i64 q) ∧ w' = w := by
  have hmix := mixed
  go_enter Try.func34, Try.ntmps34
  go_wp2
  refine wp_loop_rounds 1 ?_
  rw [rounds_succ]
  go_wp2
  go_ret
  exact ⟨rfl, rfl⟩

/-- The cells of all leaves are marked, and no other memory is written. -/
theorem markSS (w : World) (v : Value) (xss : List (List Row)) (vs : List Value) (q : Int) (hown : w.ownsRow 0 29 1 v xss.length vs)
    (hi : Inns w 49 KItem xss vs) (hn : ((v :: vs).filterMap blk).Nodup) (hx : ∀ i, nrms KItem (xss.getD i []) = xss.getD i []) (hq : 0 ≤ q ∧ q ≤ 1000000000) (hl : xss.length ≤ 1048576) (ht : tot xss ≤ 1048576) :
    Calls Try.prog 34 #[v, .int .i64 q] w fun e w' => e = .returned (.int .i64 (q + tot xss * 2)) ∧ Mk w xss vs q xss.length w' := by
  rcases hown.2 with ⟨rfl, h0⟩ | ⟨g, cap, cur, rfl, _, hg, hnc, _, hcs, htk⟩
  · have hx0 : xss = [] := List.length_eq_zero_iff.1 h0
    subst hx0
    refine (markSS_nil w q).mono ?_
    rintro e w' ⟨rfl, rfl⟩
    exact ⟨by simp [tot], ⟨by simpa [markingS, marksS] using hi, Stp.refl _ _⟩⟩
  · simp only [List.filterMap_cons, blk] at hn
    obtain ⟨n1, n2⟩ := List.nodup_cons.1 hn
    refine markSS_some w g cap xss vs q (fun j u hj => ?_) (Array.getElem?_eq_some_iff.1 hg).1 n1 hi n2 hx hq hl ht
    have := hown.cells (g := g) rfl j u hj
    rwa [Addr.add_lit, Nat.zero_add] at this

set_option maxHeartbeats 4000000 in
set_option maxRecDepth 1000000 in
theorem markTree_walk (w : World) (v : Value) (xss : List (List Row)) (vs : List Value) (q : Int) (h1 : v.oneCell' = true)
    (hss : Calls Try.prog 34 #[v, .int .i64 q] (w.alloc (.cells #[v] 26)) fun e w' => e = .returned (.int .i64 (q + tot xss * 2)) ∧ Mk (w.alloc (.cells #[v] 26)) xss vs q xss.length w') :
    Calls Try.prog 15 #[.agg #[v], .int .i64 q] w fun e w' => e = .returned (.int .i64 (q + tot xss * 2)) ∧ Mk (w.alloc (.cells #[v] 26)) xss vs q xss.length w' := by
  have hmix := mixed
  go_enter Try.func15, Try.ntmps15
  go_wp2_with (go_at_call 34; refine hss.mono ?_; rintro e w2 ⟨rfl, hmk⟩)
  go_ret
  exact ⟨rfl, hmk⟩

/-- What is asked of a tree that is marked, and what it becomes. -/
structure PreM (n : Int) (xss : List (List Row)) : Prop where
  nr : xss.map (nrms KItem) = xss
  q : 0 ≤ n ∧ n ≤ 1000000000
  l : xss.length ≤ 1048576
  t : tot xss ≤ 1048576
def markM (n : Int) (xss : List (List Row)) : Int × List (List Row) := (n + tot xss * 2, marksS KItem xss n)
theorem mark_ok : MarkOk Try.prog 15 29 49 KItem PreM markM where
  call := callable_of Try.func15 rfl (by kernel_rfl)
  run := by
    intro w v xss vs n hown hi hn hp
    have hone : v.oneCell' = true := by
      rcases hown.2 with ⟨rfl, _⟩ | ⟨g, cap, cur, rfl, _⟩ <;> rfl
    have hx : ∀ i, nrms KItem (xss.getD i []) = xss.getD i [] := fun i => by
      have := map_getD KItem (xss := xss) (i := i)
      rw [hp.nr] at this
      exact this.symm
    have hst := stp_alloc w (.cells #[v] 26)
    have hlt : ∀ b u, u ∈ vs → blk u = some b → b < w.heap.size := by
      intro b u hu hb
      obtain ⟨i, hi'⟩ := List.mem_iff_getElem?.1 hu
      obtain ⟨u', q1, q2⟩ := hi.get i (by rw [← hi.length]; exact (List.getElem?_eq_some_iff.1 hi').1)
      rw [hi'] at q1
      cases q1
      exact (q2.lt b (own_blk q2 hb)).2
    have hi1 := hi.still (w' := w.alloc (.cells #[v] 26)) (fun b u hu hb => hst.block b (hlt b u hu hb) id)
    have ho1 := heap_of_own (w' := w.alloc (.cells #[v] 26)) hown (fun b hb => hst.block b (hown.lt b (own_blk hown hb)).2 id)
    refine (markTree_walk w v xss vs n hone (markSS _ v xss vs n ho1 hi1 hn hx hp.q hp.l hp.t)).mono ?_
    rintro e w' ⟨rfl, hmk⟩
    have hin := hmk.inn
    rw [markingS_all] at hin
    refine ⟨rfl, by simp [markM, marksS_len], ?_, hin, (hst.mono fun b h => h.elim).trans hmk.st⟩
    refine heap_of_own ho1 (fun b hb => hmk.st.block b (ho1.lt b (own_blk ho1 hb)).2 (fun hm => ?_))
    simp only [List.filterMap_cons, hb] at hn
    exact (List.nodup_cons.1 hn).1 hm
end Go.Proofs.Ytkjbgdhpeidocaa.V
