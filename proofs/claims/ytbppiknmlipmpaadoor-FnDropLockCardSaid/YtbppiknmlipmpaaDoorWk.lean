/-
  A request is taken out of a slice in place: slices.Delete, walked.
-/
import Derived.Test.YtbppiknmlipmpaaDoorVcZ
import Derived.Test.YtbppiknmlipmpaaDoorCom
import Derived.Shelf.RegionOpenPlain
import Derived.WalkKit
import Derived.Deep.LoopGhost
import Derived.Deep.RegionLaw
import Derived.Lib.Walk
import Derived.Lib.SliceRun
import Derived.Lib.LazyBuf
import Derived.Sort.WalkB12
set_option linter.unusedSimpArgs false
set_option linter.unusedVariables false
namespace Go.Proofs.YtbppiknmlipmpaaDoor.V
open Go Go.RowKit Go.Lib

theorem run_clear_any {P : Program} (w : World) (t e ty : TypeId) (z : Value) (zs : List Value) (ht : P.underlying t = some (.slice e)) (hv : ∀ w, (zeroValue e).run P w = .ok z w) (b o n c : Nat) (hn : 0 < n) (hz : (Builtin.zeroCells z.cells n).toList = zs) (h1 : ∀ v ∈ zs, v.oneCell' = true)
    (hc : ∀ j, j < zs.length → (w.cell? ⟨b, o + j, none⟩).isSome = true) (hf : ∀ j, j < zs.length → w.frozen? ⟨b, o + j, none⟩ = false) :
    (Builtin.clear_ #[t] ty #[.slice (some ⟨b, o, none⟩) n c]).run P w = .ok (.tuple #[]) (w.setCells b o zs) := by
  have hst := run_storeCells_cells (P := P) b o zs 0 w (by simpa using hc) (by simpa using hf) h1
  simp only [Nat.add_zero] at hst
  obtain ⟨m, rfl⟩ : ∃ m, n = m + 1 := ⟨n - 1, by omega⟩
  simp [Builtin.clear_, run_underlying ht, hv, hz, hst]

def zR (n : Nat) : List Value := (Builtin.zeroCells (Value.agg #[.int .i64 0, .int .i64 0]).cells n).toList
theorem zR_len (n : Nat) : (zR n).length = n * 2 := by simp [zR, Builtin.zeroCells, Value.cells]
theorem zR_one (n : Nat) : ∀ v ∈ zR n, v.oneCell' = true := by
  intro v hv
  simp [zR, Builtin.zeroCells, Value.cells] at hv
  obtain ⟨i, _, rfl⟩ := hv
  rcases Nat.mod_two_eq_zero_or_one i with h | h <;> simp [h, Value.oneCell']

set_option maxHeartbeats 4000000 in
set_option maxRecDepth 1000000 in
theorem del_walk (blk cap i j n : Nat) (news : List Value) (w : World)
    (hlen : news.length = (n - j) * 2) (hone : ∀ u ∈ news, u.oneCell' = true)
    (hsrc0 : ∀ t u, news[t]? = some u → w.cell? ⟨blk, j * 2 + t, none⟩ = some u)
    (hall : ∀ t, t < n * 2 → (w.cell? ⟨blk, t, none⟩).isSome = true ∧ w.frozen? ⟨blk, t, none⟩ = false)
    (hn : n ≤ cap) (hm : cap ≤ 9223372036854775807) (hij : i < j) (hj : j ≤ n) :
    Calls Tryd.prog 28 #[.slice (some ⟨blk, 0, none⟩) n cap, .int .i64 i, .int .i64 j] w fun e w' => e = .returned (.slice (some ⟨blk, 0, none⟩) (n - (j - i)) cap) ∧
      w' = (w.drew.setCells blk (i * 2) news).setCells blk ((i + (n - j)) * 2) (zR (j - i)) := by
  have hmix := mixed
  have t24 : Tryd.prog.underlying 23 = some (.slice 31) := by kernel_rfl
  obtain ⟨i0, hi0, hz1⟩ : ∃ i0, Tryd.prog.info? 31 = some i0 ∧ i0.size = 2 := ⟨_, rfl, rfl⟩
  have v54 : ∀ w, (zeroValue 31).run Tryd.prog w = .ok (.agg #[.int .i64 0, .int .i64 0]) w := fun w => by kernel_rfl
  obtain ⟨A, hA, hsrc⟩ : ∃ A : Addr, (if cap = j then some (⟨blk, 0, none⟩ : Addr) else some ⟨blk, j * 2, none⟩) = some A ∧ Hid (∀ t u, news[t]? = some u → w.drew.cell? (A.add t) = some u) := by
    by_cases h : cap = j
    · refine ⟨⟨blk, 0, none⟩, by simp [h], fun t u hu => ?_⟩
      have h0 : news.length = 0 := by rw [hlen]; omega
      rw [List.length_eq_zero_iff.1 h0] at hu
      simp at hu
    · refine ⟨⟨blk, j * 2, none⟩, by simp [h], fun t u hu => ?_⟩
      rw [Addr.add_lit]
      exact hsrc0 t u hu
  have s1 : Hid (news.length = (n - j) * 2) := hlen
  have s2 : Hid (∀ u ∈ news, u.oneCell' = true) := hone
  have s3 : Hid (∀ t, t < news.length → (w.drew.cell? ⟨blk, 0 + i * 2 + t, none⟩).isSome = true ∧ w.drew.frozen? ⟨blk, 0 + i * 2 + t, none⟩ = false) := by
    intro t ht
    rw [hlen] at ht
    rw [Nat.zero_add]
    exact hall (i * 2 + t) (by omega)
  obtain ⟨W1, hW1⟩ : ∃ W1, W1 = w.drew.setCells blk (0 + i * 2) news := ⟨_, rfl⟩
  have hcl : ∀ ty, (Builtin.clear_ #[23] ty #[.slice (some ⟨blk, (i + (n - j)) * 2, none⟩) (n - (i + (n - j))) (cap - (i + (n - j)))]).run Tryd.prog W1 = .ok (.tuple #[]) (W1.setCells blk ((i + (n - j)) * 2) (zR (j - i))) := by
    intro ty
    have e : n - (i + (n - j)) = j - i := by omega
    rw [e]
    refine run_clear_any W1 _ _ ty _ _ t24 v54 blk _ _ _ (by omega) rfl (zR_one _) (fun t ht => ?_) (fun t ht => ?_)
    · have ht : t < (j - i) * 2 := by rw [← zR_len]; exact ht
      rw [hW1]
      by_cases hin : (i + (n - j)) * 2 + t < 0 + i * 2 + news.length
      · exfalso; rw [hlen] at hin; omega
      · rw [World.cell?_setCells_out blk news _ _ _ (fun _ _ => .inr (by show 0 + i * 2 + news.length ≤ (i + (n - j)) * 2 + t; omega))]
        exact (hall _ (by omega)).1
    · have ht : t < (j - i) * 2 := by rw [← zR_len]; exact ht
      rw [hW1, World.frozen?_setCells]
      exact (hall _ (by omega)).2
  have hW : Hid (W1 = w.drew.setCells blk (0 + i * 2) news) := hW1
  have hic : i ≤ cap := by omega
  have hjc : j ≤ cap := by omega
  clear hW1 hall hsrc0 hone hlen
  go_enter Tryd.func28, Tryd.ntmps28
  go_wp2_with fail
  go_region_law_o (refine step_append_room rfl (.tmp 22) (.tmp 25) 23 rfl 31 i0 2 t24 hi0 hz1 blk 0 i cap (by simp [Act.eval, Act.put]) A (n - j) (cap - j) news (by simp [Act.eval, Act.put]) s1.out hsrc.out s2.out (by omega) s3.out ?_; rw [← hW.out])
  go_wp2
  go_ret
  refine ⟨by rw [show n - (j - i) = i + (n - j) by omega]; rfl, ?_⟩
  rw [hW.out, Nat.zero_add]

/-- What a block holds behind the two writes. -/
theorem del_list (l news zs : List Value) (i j n c : Nat) (hl : l.length = c) (hn : n * 2 ≤ c) (hij : i < j) (hj : j ≤ n) (hnews : news = (l.take (n * 2)).drop (j * 2)) (m : Array Value)
    (hs : m.size = c) (hm : ∀ t, t < c → m[t]? = some (if (i + (n - j)) * 2 ≤ t ∧ t < (i + (n - j)) * 2 + zs.length then zs[t - (i + (n - j)) * 2]?.getD default else if i * 2 ≤ t ∧ t < i * 2 + news.length then news[t - i * 2]?.getD default else l[t]?.getD default)) :
    m.toList.take ((i + (n - j)) * 2) = l.take (i * 2) ++ news := by
  have hlen : news.length = (n - j) * 2 := by rw [hnews]; simp; omega
  apply List.ext_getElem?
  intro t
  by_cases ht : t < (i + (n - j)) * 2
  · rw [List.getElem?_take_of_lt ht, Array.getElem?_toList, hm t (by omega), if_neg (by omega)]
    by_cases h1 : t < i * 2
    · rw [if_neg (by omega), List.getElem?_append_left (by simp; omega), List.getElem?_take_of_lt h1, List.getElem?_eq_getElem (by omega)]
      rfl
    · rw [if_pos (by omega), List.getElem?_append_right (by simp; omega)]
      have e : (l.take (i * 2)).length = i * 2 := by simp; omega
      rw [e, List.getElem?_eq_getElem (by omega)]
      rfl
  · rw [List.getElem?_eq_none (by simp; omega), List.getElem?_eq_none (by simp; omega)]
theorem flat_take (ks : List Kd) : ∀ (xs : List Row) (i : Nat), flat ks (xs.take i) = (flat ks xs).take (i * lenK ks)
  | xs, 0 => by simp [flat]
  | [], i + 1 => by simp [flat]
  | r :: xs, i + 1 => by
    simp only [List.take_succ_cons, flat, flat_take ks xs i]
    rw [List.take_append, rowVals_length, List.take_of_length_le (l := rowVals ks r 0) (by rw [rowVals_length, Nat.add_mul]; omega), show (i + 1) * lenK ks - lenK ks = i * lenK ks by rw [Nat.add_mul]; omega]
theorem flat_drop (ks : List Kd) : ∀ (xs : List Row) (i : Nat), flat ks (xs.drop i) = (flat ks xs).drop (i * lenK ks)
  | xs, 0 => by simp
  | [], i + 1 => by simp [flat]
  | r :: xs, i + 1 => by
    simp only [List.drop_succ_cons, flat, flat_drop ks xs i]
    rw [List.drop_append, rowVals_length, show (rowVals ks r 0).drop ((i + 1) * lenK ks) = [] from List.drop_eq_nil_of_le (by rw [rowVals_length, Nat.add_mul]; omega), show (i + 1) * lenK ks - lenK ks = i * lenK ks by rw [Nat.add_mul]; omega, List.nil_append]

theorem stp_setCells (b : Nat) : ∀ (vs : List Value) (o : Nat) (w : World), Stp (fun c => c = b) w (w.setCells b o vs)
  | [], _, w => Stp.refl _ w
  | v :: r, o, w => by
    refine Stp.trans ?_ (stp_setCells b r (o + 1) _)
    exact ⟨rfl, rfl, rfl, by simp, fun c _ hc => heap_setCell_other w ⟨b, o, none⟩ c v hc⟩

set_option maxHeartbeats 1000000 in
theorem del_req : DelOk Tryd.prog 28 31 [.int .i64, .int .i64] where
  call := callable_of Tryd.func28 rfl (by kernel_rfl)
  run := by
    intro w v xs i j hown hij hj
    obtain ⟨hl, h⟩ := hown
    rcases h with ⟨_, h0⟩ | ⟨g, cap, cur, rfl, _, hg, hn, hm, hsz, hcur⟩
    · omega
    unfold maxLen at hm
    have hk : lenK [Kd.int .i64, Kd.int .i64] = 2 := rfl
    rw [hk] at hsz hcur hl
    have hget : ∀ t, t < cap * 2 → w.cell? ⟨g, t, none⟩ = some (cur[t]?.getD default) := by
      intro t ht
      simp [World.cell?, hg, show t < cur.size by omega]
    have hw := del_walk g cap i j xs.length ((cur.toList.take (xs.length * 2)).drop (j * 2)) w (by simp; omega)
      (fun u hu => by rw [hcur] at hu; exact flat_one _ xs u (List.mem_of_mem_drop hu))
      (fun t u hu => by
        have ht := (List.getElem?_eq_some_iff.1 hu).1
        simp at ht
        rw [hget _ (by omega)]
        rw [List.getElem?_drop, List.getElem?_take_of_lt (by omega), Array.getElem?_toList] at hu
        rw [hu]; rfl)
      (fun t ht => ⟨by rw [hget t (by omega)]; rfl, by simp [World.frozen?, hg]⟩) hn (by omega) hij hj
    refine hw.mono ?_
    rintro e w' ⟨rfl, rfl⟩
    have hrow : w.drew.rowIs g 31 (cap * 2) (fun t => cur.toList[t]?.getD default) := ⟨cur, hg, hsz, fun t ht => by simp [show t < cur.size by omega]⟩
    obtain ⟨m, hm1, hm2, hm3⟩ := rowIs_setCells (zR (j - i)) ((i + (xs.length - j)) * 2) _ _ (rowIs_setCells ((cur.toList.take (xs.length * 2)).drop (j * 2)) (i * 2) _ _ hrow)
    have hlen : (xs.take i ++ xs.drop j).length = i + (xs.length - j) := by simp; omega
    refine ⟨_, rfl, ⟨by rw [flat_length], .inr ⟨g, cap, m, ?_, Nat.zero_le _, hm1, by rw [hlen]; omega, by unfold maxLen; omega, by rw [hk]; exact hm2, ?_⟩⟩, rfl, ?_⟩
    · rw [hlen]; congr 1; omega
    · rw [hk, hlen, del_list cur.toList _ (zR (j - i)) i j xs.length (cap * 2) (by simp [hsz]) (by omega) hij hj rfl m hm2 hm3, flat_append, flat_take, flat_drop, hk, ← hcur, List.take_take]
      congr 2; omega
    · refine Stp.mono (S := fun c => c = g) (Stp.trans (Stp.trans (b := w.drew) ⟨rfl, rfl, rfl, Nat.le_refl _, fun _ _ _ => rfl⟩ (stp_setCells g _ _ w.drew)) (stp_setCells g _ _ _)) (fun b hb => by subst hb; rfl)

end Go.Proofs.YtbppiknmlipmpaaDoor.V
