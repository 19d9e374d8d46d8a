/-
  A verified generator of verification conditions over the model's Code, part K: slices that the call makes, appends to, cuts.
-/
import Derived.Test.YtkjbgdhpeidocaaVcJ
set_option linter.unusedSimpArgs false
set_option linter.unusedVariables false
namespace Go.Proofs.Ytkjbgdhpeidocaa.V
open Go Go.RowKit

theorem flat_inv (ks : List Kd) (xs : List Row) (j : Nat) (u : Value) (h : (flat ks xs)[j]? = some u) :
    ∃ i c kd, j = i * lenK ks + c ∧ i < xs.length ∧ getK ks c = some kd ∧ u = kd.val (rc (row xs i) c) := by
  have hj := (List.getElem?_eq_some_iff.1 h).1
  rw [flat_length] at hj
  have hk : 0 < lenK ks := by
    rcases Nat.eq_zero_or_pos (lenK ks) with h0 | h0
    · rw [h0] at hj; omega
    · exact h0
  have hc := Nat.mod_lt j hk
  have hi : j / lenK ks < xs.length := Nat.div_lt_of_lt_mul (by rw [Nat.mul_comm]; exact hj)
  have hg : getK ks (j % lenK ks) = some (ks[j % lenK ks]'(by rw [← lenK_eq]; exact hc)) := by rw [getK_eq]; simp
  have hjd : j = j / lenK ks * lenK ks + j % lenK ks := by rw [Nat.mul_comm]; exact (Nat.div_add_mod j _).symm
  refine ⟨_, _, _, hjd, hi, hg, ?_⟩
  have := flat_get ks xs _ _ _ hg hi
  rw [← hjd, h] at this
  exact Option.some.inj this

section
variable {P : Program} {Γ : Cx} {X : Fx} {tm : List (Nat × AV)} {hp : List (Option Entry)} {z : Cz} {a : Act} {w w' : World} {n : Nat}
  {K : St → Prop} {next : Act → World → Prop} {Q : Exit → Act → World → Prop} {o : Oper} {ok lv : Nat → Prop}

/-- The cells that a slice value shows. -/
theorem rowsH_cells (h : Rel X tm hp z a w) {v : AV} {u : Value} {ks : List Kd} {xs : List Row} (hv : AVR (okB X hp z w) (live hp) w z v u)
    (hr : rowsH hp v = some (ks, xs)) : ∃ ad cap, u = .slice ad xs.length cap ∧ (xs = [] ∨ ∃ b o, ad = some ⟨b, o, none⟩ ∧
      ∀ j u, (flat ks xs)[j]? = some u → w.cell? ⟨b, o + j, none⟩ = some u) := by
  cases v with
  | view ks' xs' =>
    simp only [rowsH, Option.some.injEq, Prod.mk.injEq] at hr
    obtain ⟨rfl, rfl⟩ := hr
    simp only [AVR] at hv
    obtain ⟨ad, cap, rfl, _, h⟩ := hv
    refine ⟨ad, cap, rfl, ?_⟩
    rcases h with rfl | ⟨b, o, h, _, hc⟩
    · exact .inl rfl
    · refine .inr ⟨b, o, h, fun j u hj => ?_⟩
      obtain ⟨i, c, kd, rfl, hi, hk, rfl⟩ := flat_inv _ _ _ _ hj
      exact hc i c kd hi hk
  | nil ks' =>
    simp only [rowsH, Option.some.injEq, Prod.mk.injEq] at hr
    obtain ⟨rfl, rfl⟩ := hr
    simp only [AVR] at hv
    exact ⟨none, 0, by simp [hv], .inl rfl⟩
  | own k =>
    simp only [rowsH] at hr
    cases he : lookH hp k with
    | none => simp [he] at hr
    | some e =>
      cases e with
      | rows e ks' xs' =>
        simp only [he, Option.some.injEq, Prod.mk.injEq] at hr
        obtain ⟨rfl, rfl⟩ := hr
        simp only [AVR] at hv
        obtain ⟨ho, _, _⟩ := h.ens k _ he
        rcases ho.2 with ⟨h1, h2⟩ | ⟨g, cap, cur, h1, _⟩
        · exact ⟨none, 0, by rw [hv.2, h1, h2], .inl (List.length_eq_zero_iff.1 h2)⟩
        · refine ⟨some ⟨g, 0, none⟩, cap, by rw [hv.2, h1], .inr ⟨g, 0, rfl, fun j u hj => ?_⟩⟩
          have := ho.cells (g := g) (by rw [h1]; rfl) j u hj
          rwa [Addr.add_lit] at this
      | box l => simp [he] at hr
      | arr _ _ => simp [he] at hr
      | vnest _ _ _ => simp [he] at hr
      | nest _ _ _ _ => simp [he] at hr
  | _ => simp [rowsH] at hr

/-- Append onto a row that the call owns: where the new one lies. -/
theorem run_append_mine (t ty e : TypeId) (i : TypeInfo) (zv : Value) (ht : P.underlying t = some (.slice e)) (hi : P.info? e = some i) (hz : i.zero = some zv)
    (hzs : zv.cells.size = i.size) (hsz : 0 < i.size) (hby : 0 < i.bytes)
    (v : Value) (m : Nat) (xs : List Value) (hown : w.ownsRow 0 e i.size v m xs)
    (ad : Option Addr) (k c : Nat) (news : List Value) (hl : news.length = k * i.size) (hnews : k = 0 ∨ ∃ b o, ad = some ⟨b, o, none⟩ ∧ ∀ j u, news[j]? = some u → w.cell? ⟨b, o + j, none⟩ = some u)
    (h1 : ∀ u ∈ news, u.oneCell' = true) (hbytes : (m + k) * i.bytes ≤ 140737488355328) :
    ∃ v' w', (Builtin.append_ #[t, t] ty #[v, .slice ad k c]).run P w = .ok v' w' ∧ w'.ownsRow 0 e i.size v' (m + k) (xs ++ news) ∧
      Stp (fun b => blk v = some b) w w' ∧ (∀ b, blk v' = some b → (blk v = some b ∨ w.heap.size ≤ b) ∧ b < w'.heap.size) := by
  have hmk : m + k ≤ 140737488355328 := Nat.le_trans (Nat.le_mul_of_pos_right _ hby) hbytes
  have h63 : m + k ≤ maxLen := by unfold maxLen; omega
  rcases hnews with rfl | ⟨b, off, rfl, hnews⟩
  · have hn : news = [] := List.eq_nil_of_length_eq_zero (by simpa using hl)
    subst hn
    refine ⟨v, w, ?_, by simpa using hown, Stp.refl _ _, fun b hb => ⟨.inl hb, ?_⟩⟩
    · rcases hown.2 with ⟨rfl, rfl⟩ | ⟨g, cap, cur, rfl, _, _, hnc, _⟩
      · cases ad <;> simp [Builtin.append_, run_underlying ht, sizeOf, typeInfo, hi, Builtin.lenOf, Builtin.firstCells, loadCells, loadCellsFrom]
      · cases ad <;> simp [Builtin.append_, run_underlying ht, sizeOf, typeInfo, hi, Builtin.lenOf, Builtin.firstCells, hnc, storeCells, loadCells, loadCellsFrom]
    · exact (hown.lt b (own_blk hown hb)).2
  · have hnews' : ∀ j u, news[j]? = some u → w.cell? ((⟨b, off, none⟩ : Addr).add j) = some u := fun j u hj => by rw [Addr.add_lit]; exact hnews j u hj
    rcases hown.2 with ⟨rfl, rfl⟩ | ⟨g, cap, cur, rfl, _, hg, hnc, hcm, hcs, htake⟩
    · have hx : xs = [] := List.eq_nil_of_length_eq_zero (by simpa using hown.1)
      subst hx
      obtain ⟨v', w', hr, ho, hgr, _⟩ := run_append_own w w.heap.size t ty e i zv i.size i.bytes ht hi hz rfl rfl hzs hsz (.slice none 0 0) 0 [] (World.ownsRow_nil w _ e i.size) ⟨b, off, none⟩ k c news hl hnews' h1 (by simpa using h63) (by simpa using hbytes) (Nat.le_refl _)
      refine ⟨v', w', hr, ?_, (Stp.of_grown hgr).mono (fun b e => by simp [Value.ownBlock] at e), fun b hb => ?_⟩
      · refine ⟨ho.1, ?_⟩
        rcases ho.2 with q | ⟨g, cap, cur, q1, _, q3⟩
        · exact .inl q
        · exact .inr ⟨g, cap, cur, q1, Nat.zero_le _, q3⟩
      · have := ho.lt b (own_blk ho hb)
        exact ⟨.inr this.1, this.2⟩
    · by_cases hroom : m + k ≤ cap
      · have hfit : m * i.size + news.length ≤ cur.size := by rw [hl, hcs, ← Nat.add_mul]; exact Nat.mul_le_mul_right _ hroom
        have hr := run_append_room (P := P) w t ty e i ht hi g m cap cur hg ⟨b, off, none⟩ k c news hl hnews' h1 hroom hfit
        have hgs : g < w.heap.size := (Array.getElem?_eq_some_iff.1 hg).1
        refine ⟨_, _, hr, ⟨?_, .inr ⟨g, cap, _, rfl, Nat.zero_le _, setRow_heap w g cur _ e _ hg, hroom, hcm, ?_, ?_⟩⟩, ⟨rfl, rfl, rfl, by simp, fun q _ hq => setRow_other w g q _ (fun e => hq (by simp [blk, e]))⟩, fun b' hb' => ?_⟩
        · rw [List.length_append, hown.1, hl, Nat.add_mul]
        · simp only [List.size_toArray, List.length_append, List.length_take, List.length_drop, Array.length_toList]
          omega
        · have hlen : (m + k) * i.size = (xs ++ news).length := by rw [List.length_append, hown.1, hl, Nat.add_mul]
          rw [htake, hlen]
          exact List.take_left
        · simp only [blk, Option.some.injEq] at hb'
          subst hb'
          exact ⟨.inl rfl, by simpa using hgs⟩
      · have holds : ∀ j u, xs[j]? = some u → w.cell? ((⟨g, 0, none⟩ : Addr).add j) = some u := hown.cells (g := g) rfl
        have hr := run_append_grow (P := P) w t ty e i zv ht hi hz ⟨g, 0, none⟩ m cap xs hown.1 holds ⟨b, off, none⟩ k c news hl hnews' (by omega) (by omega) (growslice_fits (by omega) hbytes)
        have hge := grownCap_ge w (m + k) cap e
        have hlen : (xs ++ news).length = (m + k) * i.size := by rw [List.length_append, hown.1, hl, Nat.add_mul]
        refine ⟨_, _, hr, ⟨hlen, .inr ⟨w.heap.size, _, _, rfl, Nat.zero_le _, heap_alloc_new w.drew _, hge, grownCap_le_maxLen w (m + k) cap e h63, ?_, ?_⟩⟩, ?_, fun b' hb' => ?_⟩
        · simp only [Array.size_append, List.size_toArray, size_zeroCells, hzs, hown.1, hl, ← Nat.add_mul]
          congr 1
          omega
        · simp only [Array.toList_append, List.append_assoc]
          rw [← List.append_assoc, ← hlen]
          exact List.take_left
        · exact ⟨rfl, rfl, rfl, by simp, fun q hq _ => Below.heap_alloc w.drew _ q hq⟩
        · simp only [blk, Option.some.injEq] at hb'
          subst hb'
          exact ⟨.inr (Nat.le_refl _), by simp⟩

theorem own_mono {base base' e s m : Nat} {v : Value} {xs : List Value} (h : w.ownsRow base e s v m xs) (hb : ∀ b, blk v = some b → base' ≤ b) : w.ownsRow base' e s v m xs := by
  refine ⟨h.1, ?_⟩
  rcases h.2 with q | ⟨g, cap, cur, rfl, _, q3⟩
  · exact .inl q
  · exact .inr ⟨g, cap, cur, rfl, hb g rfl, q3⟩

theorem lookT_kill (k : Nat) : ∀ (tm : List (Nat × AV)) (t : Nat), lookT (killT k tm) t = if (lookT tm t).hits k then .top else lookT tm t
  | [], t => by simp [killT, lookT, AV.hits]
  | (s, v) :: r, t => by
    simp only [killT, lookT_cons]
    by_cases e : s = t
    · simp [e]
    · simp only [e, if_false]; exact lookT_kill k r t
theorem lookH_kill (k : Nat) : ∀ (hp : List (Option Entry)) (j : Nat), lookH (killH k hp) j = (lookH hp j).map fun e => match e with | .box l => .box (killA k l) | e => e
  | [], j => by cases j <;> simp [killH, lookH]
  | none :: r, 0 => by simp [killH, lookH]
  | none :: r, j + 1 => by simp [killH, lookH, lookH_kill k r j]
  | some (.box l) :: r, 0 => by simp [killH, lookH]
  | some (.box l) :: r, j + 1 => by simp [killH, lookH, lookH_kill k r j]
  | some (.rows _ _ _) :: r, 0 => by simp [killH, lookH]
  | some (.rows _ _ _) :: r, j + 1 => by simp [killH, lookH, lookH_kill k r j]
  | some (.arr _ _) :: r, 0 => by simp [killH, lookH]
  | some (.vnest _ _ _) :: r, 0 => by simp [killH, lookH]
  | some (.nest _ _ _ _) :: r, 0 => by simp [killH, lookH]
  | some (.arr _ _) :: r, j + 1 => by simp [killH, lookH, lookH_kill k r j]
  | some (.vnest _ _ _) :: r, j + 1 => by simp [killH, lookH, lookH_kill k r j]
  | some (.nest _ _ _ _) :: r, j + 1 => by simp [killH, lookH, lookH_kill k r j]
theorem length_kill (k : Nat) : ∀ (hp : List (Option Entry)), (killH k hp).length = hp.length
  | [] => rfl
  | none :: r => by simp [killH, length_kill k r]
  | some (.box l) :: r => by simp [killH, length_kill k r]
  | some (.rows _ _ _) :: r => by simp [killH, length_kill k r]
  | some (.arr _ _) :: r => by simp [killH, length_kill k r]
  | some (.vnest _ _ _) :: r => by simp [killH, length_kill k r]
  | some (.nest _ _ _ _) :: r => by simp [killH, length_kill k r]
theorem killA_rel (k : Nat) : ∀ {l : List AV} {vs : List Value}, AVRs ok lv w z l vs → AVRs ok (fun j => lv j ∧ j ≠ k) w z (killA k l) vs
  | [], vs, h => by simpa [killA, AVRs] using h
  | v :: l, vs, h => by
    simp only [AVRs] at h
    obtain ⟨u, us, rfl, h1, h2⟩ := h
    simp only [killA, AVRs]
    refine ⟨u, us, rfl, ?_, killA_rel k h2⟩
    cases e : v.hits k with
    | true => simp [AVR]
    | false => simp only [Bool.false_eq_true, if_false]; exact AVR.unhit k v u h1 e

/-- A row grows: its value and its place may turn. -/
theorem Rel.regrow (h : Rel X tm hp z a w) {w' : World} (k : Nat) (e : Entry) (hk : lookH hp k = some e) (hm : X.m ≤ k) (v' : Value) (e2 : Nat) (ks : List Kd) (xs : List Row)
    (hown : w'.ownsRow 0 e2 (lenK ks) v' xs.length (flat ks xs)) (s : Stp (fun b => z.bk k b) w w')
    (hb : ∀ b, blk v' = some b → (z.bk k b ∨ w.heap.size ≤ b) ∧ b < w'.heap.size) :
    Rel X (killT k tm) (setH (killH k hp) k (some (.rows e2 ks xs))) (z.upd k v' xs.length (lenK ks, [])) a w' := by
  have hlt := lookH_lt hk
  have hlv0 := live_of hk
  have hlive : ∀ j, live (setH (killH k hp) k (some (.rows e2 ks xs))) j ↔ live hp j := by
    intro j; unfold live; rw [lookH_set, length_kill, lookH_kill]
    by_cases x : j = k
    · subst x; simp [hlt, hk]
    · simp [x]
  have hz : ∀ j, j ≠ k → (z.upd k v' xs.length (lenK ks, [])).ρ j = z.ρ j ∧ (z.upd k v' xs.length (lenK ks, [])).len j = z.len j ∧ (z.upd k v' xs.length (lenK ks, [])).wd j = z.wd j := by
    intro j hj; simp [Cz.upd, hj]
  have hzk : (z.upd k v' xs.length (lenK ks, [])).ρ k = v' := by simp [Cz.upd]
  have hzkb : ∀ b, (z.upd k v' xs.length (lenK ks, [])).bk k b ↔ blk v' = some b := by intro b; simp [Cz.bk, Cz.upd]
  have hzb : ∀ j b, j ≠ k → ((z.upd k v' xs.length (lenK ks, [])).bk j b ↔ z.bk j b) := fun j b hj => Cz.bk_congr (hz j hj).1 (hz j hj).2.2
  have hok : ∀ b, okB X hp z w b → okB X (setH (killH k hp) k (some (.rows e2 ks xs))) (z.upd k v' xs.length (lenK ks, [])) w' b := by
    intro b hb'
    refine ⟨hb'.1, Nat.lt_of_lt_of_le hb'.2.1 s.size, fun j hj => ?_⟩
    by_cases x : j = k
    · subst x
      rw [hzkb]
      intro e3
      rcases (hb b e3).1 with q | q
      · exact hb'.2.2 j hlv0 q
      · have := hb'.2.1; omega
    · rw [hzb j b x]; exact hb'.2.2 j ((hlive j).1 hj)
  have hbl : ∀ b, okB X hp z w b → w'.heap[b]? = w.heap[b]? := fun b hb' => s.block b hb'.2.1 (fun e => hb'.2.2 k hlv0 e)
  have hlv : ∀ j, (live hp j ∧ j ≠ k) → live (setH (killH k hp) k (some (.rows e2 ks xs))) j ∧ (z.upd k v' xs.length (lenK ks, [])).ρ j = z.ρ j ∧ (z.upd k v' xs.length (lenK ks, [])).len j = z.len j ∧ (z.upd k v' xs.length (lenK ks, [])).wd j = z.wd j :=
    fun j hj => ⟨(hlive j).2 hj.1, hz j hj.2⟩
  have hother : ∀ j b, live hp j → j ≠ k → z.bk j b → w'.heap[b]? = w.heap[b]? := fun j b hj hjk hbj => s.block b (h.own j b hj hbj).1 (fun e3 => hjk (h.dj j k b hj hlv0 hbj e3))
  exact {
    tms := fun t => by
      rw [lookT_kill]
      cases e3 : (lookT tm t).hits k with
      | true => simp [AVR]
      | false =>
        simp only [Bool.false_eq_true, if_false]
        exact AVR.mono hok hbl hlv _ _ (AVR.unhit k _ _ (h.tms t) e3)
    ens := fun j e3 he3 => by
      rw [lookH_set, length_kill, lookH_kill] at he3
      by_cases x : j = k
      · subst x
        simp only [hlt, and_self, if_true, Option.some.injEq] at he3
        subst he3
        exact ⟨by rw [hzk]; exact hown, by simp [Cz.upd], by simp [Cz.upd]⟩
      · simp only [x, false_and, if_false] at he3
        cases hj : lookH hp j with
        | none => rw [hj] at he3; simp at he3
        | some e4 =>
          rw [hj] at he3
          have hen := h.ens j e4 hj
          have hlj := live_of hj
          cases e4 with
          | box l =>
            simp only [Option.map_some, Option.some.injEq] at he3
            subst he3
            obtain ⟨b, cur, T, q1, q2, q3, q4, q5⟩ := hen
            refine ⟨b, cur, T, (hz j x).1.trans q1, ?_, q3, AVRs.mono hok hbl hlv _ _ (killA_rel k q4), by rw [(hz j x).2.2]; exact q5⟩
            rw [hother j b hlj x (.inl (by rw [q1]; rfl))]; exact q2
          | rows e5 ks5 xs5 =>
            simp only [Option.map_some, Option.some.injEq] at he3
            subst he3
            obtain ⟨q1, q2, q3⟩ := hen
            exact ⟨by rw [(hz j x).1]; exact heap_of_own q1 (fun b hb' => hother j b hlj x (.inl hb')), (hz j x).2.1.trans q2, (hz j x).2.2.trans q3⟩
          | vnest e5 ks5 xss5 =>
            simp only [Option.map_some, Option.some.injEq] at he3
            subst he3
            obtain ⟨vs, q1, q2, q3, q4⟩ := hen
            refine ⟨vs, by rw [(hz j x).1]; exact heap_of_own q1 (fun b hb' => hother j b hlj x (.inl hb')), (hz j x).2.1.trans q2, (hz j x).2.2.trans q3, fun i hi => ?_⟩
            obtain ⟨u, q5, q6⟩ := q4 i hi
            exact ⟨u, q5, q6.mono hok hbl⟩
          | nest e5 f5 ks5 xss5 =>
            simp only [Option.map_some, Option.some.injEq] at he3
            subst he3
            exact hen.nest_still (hz j x) (fun b hb' => hother j b hlj x hb')
          | arr ks5 xs5 =>
            simp only [Option.map_some, Option.some.injEq] at he3
            subst he3
            obtain ⟨b, cur, T, q1, q2, q3, q4, q5⟩ := hen
            refine ⟨b, cur, T, (hz j x).1.trans q1, ?_, q3, (hz j x).2.1.trans q4, (hz j x).2.2.trans q5⟩
            rw [hother j b hlj x (.inl (by rw [q1]; rfl))]; exact q2
    dj := fun i j b hi hj hbi hbj => by
      have hi' := (hlive i).1 hi
      have hj' := (hlive j).1 hj
      by_cases x : i = k <;> by_cases y : j = k
      · rw [x, y]
      · subst x
        rw [hzkb] at hbi
        rw [hzb j b y] at hbj
        rcases (hb b hbi).1 with q | q
        · exact h.dj _ _ b hi' hj' q hbj
        · have := (h.own j b hj' hbj).1; omega
      · subst y
        rw [hzkb] at hbj
        rw [hzb i b x] at hbi
        rcases (hb b hbj).1 with q | q
        · exact h.dj _ _ b hi' hj' hbi q
        · have := (h.own i b hi' hbi).1; omega
      · rw [hzb i b x] at hbi
        rw [hzb j b y] at hbj
        exact h.dj i j b hi' hj' hbi hbj
    own := fun j b hj hbj => by
      have hj' := (hlive j).1 hj
      by_cases x : j = k
      · subst x
        rw [hzkb] at hbj
        refine ⟨(hb b hbj).2, fun q => by omega, fun _ => ?_⟩
        rcases (hb b hbj).1 with q | q
        · exact (h.own j b hj' q).2.2 hm
        · exact .inl (Nat.le_trans h.size q)
      · rw [hzb j b x] at hbj
        exact ⟨Nat.lt_of_lt_of_le (h.own j b hj' hbj).1 s.size, (h.own j b hj' hbj).2⟩
    io := fun j hj hlj => by
      rw [(hz j (by omega)).1]; exact h.io j hj ((hlive j).1 hlj)
    mm := by rw [length_set, length_kill]; exact h.mm
    fr := fun b hb' hi => by
      refine (s.block b (Nat.lt_of_lt_of_le hb' h.size) (fun e3 => ?_)).trans (h.fr b hb' hi)
      rcases (h.own k b hlv0 e3).2.2 hm with q | q
      · omega
      · exact hi (X.gi b q)
    os := s.os.trans h.os
    tape := s.tape.trans h.tape
    output := s.output.trans h.output
    size := Nat.le_trans h.size s.size
    df := h.df }

/-! Several entries given up, one written anew. -/
def killsV : List Nat → AV → AV
  | [], v => v
  | k :: r, v => if (killsV r v).hits k then .top else killsV r v
def killsA : List Nat → List AV → List AV
  | [], l => l
  | k :: r, l => killA k (killsA r l)
def killsE (D : List Nat) : Entry → Entry
  | .box l => .box (killsA D l)
  | e => e
theorem lookT_kills : ∀ (D : List Nat) (tm : List (Nat × AV)) (t : Nat), lookT (killsT D tm) t = killsV D (lookT tm t)
  | [], _, _ => rfl
  | k :: r, tm, t => by simp only [killsT, killsV, lookT_kill, lookT_kills r]
theorem length_kills : ∀ (D : List Nat) (hp : List (Option Entry)), (killsH D hp).length = hp.length
  | [], _ => rfl
  | k :: r, hp => by simp only [killsH, length_set, length_kill, length_kills r]
theorem lookH_kills : ∀ (D : List Nat) (hp : List (Option Entry)) (j : Nat), lookH (killsH D hp) j = if j ∈ D then none else (lookH hp j).map (killsE D)
  | [], hp, j => by
    simp only [killsH, List.not_mem_nil, if_false]
    cases lookH hp j with
    | none => rfl
    | some e => cases e <;> simp [killsE, killsA]
  | k :: r, hp, j => by
    simp only [killsH, lookH_set, length_kill, length_kills, lookH_kill, lookH_kills r, List.mem_cons]
    by_cases x : j = k
    · subst x
      by_cases hl : j < hp.length
      · simp [hl]
      · simp only [hl, and_false, if_false, true_or, if_true]
        rw [lookH_big (by omega)]
        split <;> rfl
    · simp only [x, false_and, if_false, false_or]
      split
      · rfl
      · cases lookH hp j with
        | none => rfl
        | some e => cases e <;> simp [killsE, killsA]
theorem kills_rel : ∀ (D : List Nat) {lv : Nat → Prop} {v : AV} {u : Value}, AVR ok lv w z v u → AVR ok (fun j => lv j ∧ j ∉ D) w z (killsV D v) u
  | [], lv, v, u, h => by simpa [killsV] using h
  | k :: r, lv, v, u, h => by
    simp only [killsV]
    cases e : (killsV r v).hits k with
    | true => simp [AVR]
    | false =>
      simp only [Bool.false_eq_true, if_false]
      refine AVR.mono (fun _ x => x) (fun _ _ => rfl) (fun j hj => ⟨⟨hj.1.1, fun hm => ?_⟩, rfl, rfl, rfl⟩) _ _ (AVR.unhit k _ _ (kills_rel r h) e)
      rcases List.mem_cons.1 hm with q | q
      · exact hj.2 q
      · exact hj.1.2 q
theorem killsA_rel : ∀ (D : List Nat) {lv : Nat → Prop} {l : List AV} {vs : List Value}, AVRs ok lv w z l vs → AVRs ok (fun j => lv j ∧ j ∉ D) w z (killsA D l) vs
  | [], lv, l, vs, h => by simpa [killsA] using h
  | k :: r, lv, l, vs, h => by
    simp only [killsA]
    refine AVRs.mono (fun _ x => x) (fun _ _ => rfl) (fun j hj => ⟨⟨hj.1.1, fun hm => ?_⟩, rfl, rfl, rfl⟩) _ _ (killA_rel k (killsA_rel r h))
    rcases List.mem_cons.1 hm with q | q
    · exact hj.2 q
    · exact hj.1.2 q

/-- Entries D are given up; entry k, one of T (which are D and perhaps k) or a new one, is written anew: its blocks are blocks of T or new. -/
theorem Rel.recast (h : Rel X tm hp z a w) {w' : World} (D T : List Nat) (k : Nat) (e' : Entry) (z' : Cz) (hp' : List (Option Entry))
    (hDT : ∀ j ∈ D, j ∈ T) (hTD : ∀ j ∈ T, j ∈ D ∨ j = k) (hT : ∀ j ∈ T, X.m ≤ j) (hkm : X.m ≤ k) (hk : k ∈ T ∨ ¬ live hp k)
    (hlook : ∀ j, j ≠ k → lookH hp' j = lookH (killsH D hp) j) (hlookk : lookH hp' k = some e') (hlen : X.m ≤ hp'.length)
    (hz : ∀ j, j ≠ k → z'.ρ j = z.ρ j ∧ z'.len j = z.len j ∧ z'.wd j = z.wd j)
    (hzk : k ∈ D ∨ ¬ live hp k ∨ (z'.ρ k = z.ρ k ∧ z'.len k = z.len k ∧ (z'.wd k).1 = (z.wd k).1))
    (s : Stp (fun b => ∃ j ∈ T, live hp j ∧ z.bk j b) w w')
    (hb : ∀ b, z'.bk k b → ((∃ j ∈ T, live hp j ∧ z.bk j b) ∨ w.heap.size ≤ b) ∧ b < w'.heap.size)
    (he : ∀ (ok lv : Nat → Prop), (∀ b, okB X hp z w b → ok b) → EnR ok lv w' z' k e') :
    Rel X (killsT D tm) hp' z' a w' := by
  have hdead : ∀ j, j ≠ k → (live hp' j ↔ live hp j ∧ j ∉ D) := by
    intro j hj; unfold live; rw [hlook j hj, lookH_kills]
    by_cases x : j ∈ D
    · simp [x]
    · simp [x]
  have hlvk : live hp' k := live_of hlookk
  have hzb : ∀ j b, j ≠ k → (z'.bk j b ↔ z.bk j b) := fun j b hj => Cz.bk_congr (hz j hj).1 (hz j hj).2.2
  have hdjT : ∀ j b, live hp j → j ∉ T → z.bk j b → ¬ ∃ i ∈ T, live hp i ∧ z.bk i b := fun j b hj hjt hbj ⟨i, hi, hli, hbi⟩ => by
    have := h.dj j i b hj hli hbj hbi
    subst this
    exact hjt hi
  have hnT : ∀ j, live hp j → j ≠ k → j ∉ D → j ∉ T := fun j hj hjk hjD hjT => (hTD j hjT).elim hjD hjk
  have hok : ∀ b, okB X hp z w b → okB X hp' z' w' b := by
    intro b hb'
    refine ⟨hb'.1, Nat.lt_of_lt_of_le hb'.2.1 s.size, fun j hj => ?_⟩
    by_cases x : j = k
    · subst x
      intro e3
      rcases (hb b e3).1 with ⟨i, _, hli, q⟩ | q
      · exact hb'.2.2 i hli q
      · have := hb'.2.1; omega
    · rw [hzb j b x]; exact hb'.2.2 j ((hdead j x).1 hj).1
  have hbl : ∀ b, okB X hp z w b → w'.heap[b]? = w.heap[b]? := fun b hb' => s.block b hb'.2.1 (fun ⟨i, _, hli, e⟩ => hb'.2.2 i hli e)
  have hlv : ∀ j, (live hp j ∧ j ∉ D) → live hp' j ∧ z'.ρ j = z.ρ j ∧ z'.len j = z.len j ∧ (z'.wd j).1 = (z.wd j).1 := by
    intro j hj
    by_cases x : j = k
    · subst x
      rcases hzk with q | q | q
      · exact absurd q hj.2
      · exact absurd hj.1 q
      · exact ⟨hlvk, q⟩
    · exact ⟨(hdead j x).2 hj, (hz j x).1, (hz j x).2.1, by rw [(hz j x).2.2]⟩
  have hother : ∀ j b, live hp j → j ≠ k → j ∉ D → z.bk j b → w'.heap[b]? = w.heap[b]? := fun j b hj hjk hjD hbj => s.block b (h.own j b hj hbj).1 (hdjT j b hj (hnT j hj hjk hjD) hbj)
  exact {
    tms := fun t => by
      rw [lookT_kills]
      exact AVR.mono1 hok hbl hlv _ _ (kills_rel D (h.tms t))
    ens := fun j e3 he3 => by
      by_cases x : j = k
      · subst x
        rw [hlookk] at he3
        cases he3
        exact he _ _ hok
      · rw [hlook j x, lookH_kills] at he3
        by_cases xD : j ∈ D
        · simp [xD] at he3
        · simp only [xD, if_false] at he3
          cases hj : lookH hp j with
          | none => rw [hj] at he3; simp at he3
          | some e4 =>
            rw [hj] at he3
            have hen := h.ens j e4 hj
            have hlj := live_of hj
            have hst := fun b hb' => hother j b hlj x xD hb'
            cases e4 with
            | box l =>
              simp only [Option.map_some, Option.some.injEq, killsE] at he3
              subst he3
              obtain ⟨b, cur, T', q1, q2, q3, q4, q5⟩ := hen
              refine ⟨b, cur, T', (hz j x).1.trans q1, ?_, q3, AVRs.mono1 hok hbl hlv _ _ (killsA_rel D q4), by rw [(hz j x).2.2]; exact q5⟩
              rw [hst b (.inl (by rw [q1]; rfl))]; exact q2
            | rows e5 ks5 xs5 =>
              simp only [Option.map_some, Option.some.injEq, killsE] at he3
              subst he3
              obtain ⟨q1, q2, q3⟩ := hen
              exact ⟨by rw [(hz j x).1]; exact heap_of_own q1 (fun b hb' => hst b (.inl hb')), (hz j x).2.1.trans q2, (hz j x).2.2.trans q3⟩
            | vnest e5 ks5 xss5 =>
              simp only [Option.map_some, Option.some.injEq, killsE] at he3
              subst he3
              obtain ⟨vs, q1, q2, q3, q4⟩ := hen
              refine ⟨vs, by rw [(hz j x).1]; exact heap_of_own q1 (fun b hb' => hst b (.inl hb')), (hz j x).2.1.trans q2, (hz j x).2.2.trans q3, fun i hi => ?_⟩
              obtain ⟨u, q5, q6⟩ := q4 i hi
              exact ⟨u, q5, q6.mono hok hbl⟩
            | nest e5 f5 ks5 xss5 =>
              simp only [Option.map_some, Option.some.injEq, killsE] at he3
              subst he3
              exact hen.nest_still (hz j x) hst
            | arr ks5 xs5 =>
              simp only [Option.map_some, Option.some.injEq, killsE] at he3
              subst he3
              obtain ⟨b, cur, T', q1, q2, q3, q4, q5⟩ := hen
              refine ⟨b, cur, T', (hz j x).1.trans q1, ?_, q3, (hz j x).2.1.trans q4, (hz j x).2.2.trans q5⟩
              rw [hst b (.inl (by rw [q1]; rfl))]; exact q2
    dj := fun i j b hi hj hbi hbj => by
      have key : ∀ j, live hp' j → j ≠ k → z.bk j b → z'.bk k b → False := by
        intro j hj y hbj hbi
        obtain ⟨hj1, hj2⟩ := (hdead j y).1 hj
        rcases (hb b hbi).1 with q | q
        · exact hdjT j b hj1 (hnT j hj1 y hj2) hbj q
        · have := (h.own j b hj1 hbj).1; omega
      by_cases x : i = k <;> by_cases y : j = k
      · rw [x, y]
      · subst x
        rw [hzb j b y] at hbj
        exact (key j hj y hbj hbi).elim
      · subst y
        rw [hzb i b x] at hbi
        exact (key i hi x hbi hbj).elim
      · rw [hzb i b x] at hbi
        rw [hzb j b y] at hbj
        exact h.dj i j b ((hdead i x).1 hi).1 ((hdead j y).1 hj).1 hbi hbj
    own := fun j b hj hbj => by
      by_cases x : j = k
      · subst x
        refine ⟨(hb b hbj).2, fun q => by omega, fun _ => ?_⟩
        rcases (hb b hbj).1 with ⟨i, hi, hli, q⟩ | q
        · exact (h.own i b hli q).2.2 (hT i hi)
        · exact .inl (Nat.le_trans h.size q)
      · rw [hzb j b x] at hbj
        have hj' := ((hdead j x).1 hj).1
        exact ⟨Nat.lt_of_lt_of_le (h.own j b hj' hbj).1 s.size, (h.own j b hj' hbj).2⟩
    io := fun j hj hlj => by
      have x : j ≠ k := by omega
      rw [(hz j x).1]; exact h.io j hj ((hdead j x).1 hlj).1
    mm := hlen
    fr := fun b hb' hi => by
      refine (s.block b (Nat.lt_of_lt_of_le hb' h.size) (fun ⟨i, hi', hli, e3⟩ => ?_)).trans (h.fr b hb' hi)
      rcases (h.own i b hli e3).2.2 (hT i hi') with q | q
      · omega
      · exact hi (X.gi b q)
    os := s.os.trans h.os
    tape := s.tape.trans h.tape
    output := s.output.trans h.output
    size := Nat.le_trans h.size s.size
    df := h.df }
end

end Go.Proofs.Ytkjbgdhpeidocaa.V
