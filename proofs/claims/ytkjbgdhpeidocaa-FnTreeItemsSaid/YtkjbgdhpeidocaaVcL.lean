/-
  A verified generator of verification conditions over the model's Code, part L: append, make, slices written out, cuts of slices.
-/
import Derived.Test.YtkjbgdhpeidocaaVcK
set_option linter.unusedSimpArgs false
set_option linter.unusedVariables false
namespace Go.Proofs.Ytkjbgdhpeidocaa.V
open Go Go.RowKit

section
variable {P : Program} {Γ : Cx} {X : Fx} {tm : List (Nat × AV)} {hp : List (Option Entry)} {z : Cz} {a : Act} {w w' : World} {n : Nat}
  {K : St → Prop} {next : Act → World → Prop} {Q : Exit → Act → World → Prop} {o : Oper} {ok lv : Nat → Prop}

theorem zero_size {i : TypeInfo} {e esz : Nat} {ks : List Kd} {zv : Value} (hs : i.size = esz) (hk : esz = lenK ks) (hz : zv.cells.toList = rowVals ks (zeroRow ks) 0) (_ : e = e) : zv.cells.size = i.size := by
  rw [← Array.length_toList, hz, rowVals_length, hs, hk]

theorem s_append (hΓ : CxOk P Γ) (h : Rel X tm hp z a w) (hm : X.m = Γ.m) (t e esz eb ty : Nat) (ks : List Kd) (x y : Operand) (hT : Γ.τ t = .slice e esz eb ks)
    (hs : stepAppend Γ.m tm hp e eb ks (evalT tm x) (evalT tm y) o.dst K)
    (hrun : ∀ v w', (Builtin.append_ #[t, t] ty #[a.eval x, a.eval y]).run P w = .ok v w' → (execOp a.eval o).run P w = .ok (.value v) w')
    (hd : ∀ d, o.dst = some d → d < n) (hn : a.tmps.size = n) (hN : Nxt X n K next) : o.wp P a w next Q := by
  have hx := h.eval x
  have hy := h.eval y
  have ht := hΓ.tab t
  rw [hT] at ht
  obtain ⟨i, hu, hi, hsz, hby, hzk⟩ := ti_slice ht
  generalize evalT tm x = vx at hs hx
  generalize evalT tm y = vy at hs hy
  unfold stepAppend at hs
  split at hs
  case h_2 => exact hs.elim
  case h_1 js ys hr =>
  split at hs
  · exact hs.elim
  rename_i hk0
  split at hs
  · exact hs.elim
  rename_i hb0
  obtain ⟨rfl, hs⟩ := hs
  obtain ⟨hks, zv, hzv, hzc⟩ := hzk (fun e => by subst e; exact hk0 rfl)
  have hzs : zv.cells.size = i.size := zero_size (e := e) hsz hks hzc rfl
  obtain ⟨ad, cap, ey, hcells⟩ := rowsH_cells h hy hr
  have hcells' : ys.length = 0 ∨ ∃ b o, ad = some ⟨b, o, none⟩ ∧ ∀ j u, (flat js ys)[j]? = some u → w.cell? ⟨b, o + j, none⟩ = some u := by
    rcases hcells with rfl | h
    · exact .inl rfl
    · exact .inr h
  have hfl : (flat js ys).length = ys.length * i.size := by rw [flat_length, hsz, hks]
  split at hs
  · obtain ⟨hbytes, hs⟩ := hs
    rw [putH_eq] at hs
    simp only [AVR] at hx
    obtain ⟨v', w', hr1, hr2, hr3, hr4⟩ := run_append_mine t ty e i zv hu hi hzv hzs (by omega) (by omega) (.slice none 0 0) 0 [] (World.ownsRow_nil w 0 e i.size) ad ys.length cap (flat js ys) hfl hcells' (flat_one _ _) (by rw [hby]; simpa using hbytes)
    rw [← hx, ← ey] at hr1
    simp only [Nat.zero_add, List.nil_append] at hr2
    refine fin_new (hrun _ _ hr1) (h.push (hr3.mono (fun b e => by simp [blk] at e)) (.rows e js ys) v' ys.length (lenK js) (fun b hb => ?_) (fun ok lv z' h1 h2 h3 h4 h5 => ⟨?_, h4, h5⟩)) ?_ hd hn hN hs
    · obtain ⟨q1, q2⟩ := hr4 b hb
      rcases q1 with q | q
      · simp [blk] at q
      · exact ⟨q, q2⟩
    · rw [h3, ← hks, ← hsz]; exact hr2
    · simp only [AVR]; exact ⟨live_push hp _, by simp [Cz.upd]⟩
  · rename_i k
    split at hs
    · rename_i e' ks' xs hl
      obtain ⟨hmk, rfl, rfl, hbytes, hhit, hs⟩ := hs
      rw [putTH_eq] at hs
      simp only [AVR] at hx
      obtain ⟨hlv, hx⟩ := hx
      obtain ⟨hown, hln, hwd⟩ := h.ens k _ hl
      have hown' : w.ownsRow 0 e' i.size (z.ρ k) xs.length (flat ks' xs) := by rw [hsz, hks]; exact hown
      obtain ⟨v', w', hr1, hr2, hr3, hr4⟩ := run_append_mine t ty e' i zv hu hi hzv hzs (by omega) (by omega) (z.ρ k) xs.length (flat ks' xs) hown' ad ys.length cap (flat ks' ys) hfl hcells' (flat_one _ _) (by rw [hby]; exact hbytes)
      rw [← hx, ← ey] at hr1
      rw [← flat_append, ← List.length_append] at hr2
      have hR := h.regrow k _ hl (by rw [hm]; exact hmk) v' e' ks' (xs ++ ys) (by rw [← hks, ← hsz]; exact hr2) (hr3.mono (fun b e => .inl e)) (fun b e => ⟨(hr4 b e).1.imp .inl id, (hr4 b e).2⟩)
      refine fin (hrun _ _ hr1) hR ?_ hd hn hN hs
      simp only [AVR]
      refine ⟨?_, by simp [Cz.upd]⟩
      unfold live
      rw [lookH_set, length_kill]
      simp [lookH_lt hl]
    · exact hs.elim
  · exact hs.elim

theorem made_flat (ks : List Kd) (zv : Value) (hz : zv.cells.toList = rowVals ks (zeroRow ks) 0) (m : Nat) : (madeCells zv.cells (m * lenK ks)).toList = flat ks (List.replicate m (zeroRow ks)) := by
  have hsz : zv.cells.size = lenK ks := by rw [← Array.length_toList, hz, rowVals_length]
  apply List.ext_getElem?
  intro j
  by_cases hj : j < m * lenK ks
  · have hk : 0 < lenK ks := by
      rcases Nat.eq_zero_or_pos (lenK ks) with h0 | h0
      · rw [h0] at hj; omega
      · exact h0
    have hi : j / lenK ks < m := Nat.div_lt_of_lt_mul (by rw [Nat.mul_comm]; exact hj)
    have hc := Nat.mod_lt j hk
    have hg : getK ks (j % lenK ks) = some (ks[j % lenK ks]'(by rw [← lenK_eq]; exact hc)) := by rw [getK_eq]; simp
    have hjd : j = j / lenK ks * lenK ks + j % lenK ks := by rw [Nat.mul_comm]; exact (Nat.div_add_mod j _).symm
    have h1 := flat_get ks (List.replicate m (zeroRow ks)) _ _ _ hg (by simpa using hi)
    rw [← hjd] at h1
    rw [h1]
    have h2 := rowVals_get ks (zeroRow ks) 0 _ _ hg
    rw [← hz, Nat.zero_add] at h2
    have h3 : row (List.replicate m (zeroRow ks)) (j / lenK ks) = zeroRow ks := by simp [row, hi]
    rw [h3]
    simp only [madeCells, Array.toList_map, Array.toList_range, List.getElem?_map, hj, List.getElem?_range, Option.map_some]
    rw [hsz]
    have h4 : j % lenK ks < zv.cells.size := by rw [hsz]; exact hc
    simp only [Option.some.injEq]
    rw [getElem!_pos zv.cells _ h4]
    have h5 : zv.cells.toList[j % lenK ks]? = some zv.cells[j % lenK ks] := by simp [h4]
    rw [h5] at h2
    exact Option.some.inj h2
  · rw [List.getElem?_eq_none (by simp [madeCells]; omega), List.getElem?_eq_none (by rw [flat_length, List.length_replicate]; omega)]

theorem ti_nest (hΓ : CxOk P Γ) {t e esz eb f fsz fb : Nat} {ks js : List Kd} (hT : Γ.τ t = .slice e esz eb ks) (he : Γ.τ e = .slice f fsz fb js) :
    ∃ i, P.underlying t = some (.slice e) ∧ P.info? e = some i ∧ i.size = 1 ∧ i.bytes = eb ∧ i.zero = some (.slice none 0 0) ∧ esz = 1 := by
  have ht := hΓ.tab t
  rw [hT] at ht
  obtain ⟨i, hu, hi, hsz, hby, _⟩ := ti_slice ht
  have h2 := hΓ.tab e
  rw [he] at h2
  simp only [checkTI, Bool.and_eq_true] at h2
  obtain ⟨i', q1, q2, q3⟩ := zeroAt_plain h2.1.2
  rw [hi] at q1
  cases q1
  exact ⟨i, hu, hi, q2, hby, q3, by rw [← hsz]; exact q2⟩
theorem s_makeN (hΓ : CxOk P Γ) (h : Rel X tm hp z a w) (t e esz eb f fsz fb m : Nat) (ks js : List Kd) (x y : Operand) (hT : Γ.τ t = .slice e esz eb ks) (he : Γ.τ e = .slice f fsz fb js)
    (hx : evalT tm x = .int .i64 m) (hy : evalT tm y = .int .i64 m) (hb0 : ¬ eb = 0) (hbytes : m * eb ≤ 140737488355328)
    (hs : K ⟨putT tm o.dst (.own (lenH hp)), pushH hp (.nest e f js (List.replicate m []))⟩)
    (ho : o.op = .makeSlice t x y) (hd : ∀ d, o.dst = some d → d < n) (hn : a.tmps.size = n) (hN : NxtS X n w K next) : o.wp P a w next Q := by
  have ex := h.eval x
  have ey := h.eval y
  rw [hx] at ex
  rw [hy] at ey
  have ex := ex.of_int
  have ey := ey.of_int
  obtain ⟨i, hu, hi, hsz, hby, hz, _⟩ := ti_nest hΓ hT he
  have hm : m ≤ 140737488355328 := Nat.le_trans (Nat.le_mul_of_pos_right _ (by omega)) hbytes
  obtain ⟨w', hr1, hr2, hr3⟩ := run_make_full (P := P) w w.heap.size t e i (.slice none 0 0) 1 hu hi hz (by rw [hsz]) .i64 .i64 m (by rw [hby, Nat.mul_comm]; omega) (by unfold maxLen; omega) (Nat.le_refl _)
  have hmade : (madeCells (Value.slice none 0 0).cells (m * 1)).toList = List.replicate m (.slice none 0 0) := by
    apply List.ext_getElem?
    intro j
    simp only [madeCells, Value.cells, Nat.mul_one, Array.toList_map, Array.toList_range, List.getElem?_map, List.getElem?_range']
    by_cases hj : j < m
    · simp [hj, Nat.mod_one]
    · simp [hj]
  rw [hmade] at hr2
  refine fin_newS (z' := z.upd (lenH hp) (.slice (some ⟨w.heap.size, 0, none⟩) m m) m (1, List.replicate m (.slice none 0 0))) ((Stp.of_grown hr3).mono (fun b e => by cases e)) (v := .own (lenH hp)) (u := .slice (some ⟨w.heap.size, 0, none⟩) m m) ?_ ?_ ?_ hd hn hN hs
  · simp [execOp, ho, ex, ey, hr1]
  · refine h.pushN ((Stp.of_grown hr3).mono (fun b e => by cases e)) _ _ _ _ (fun b hb => ?_) (fun ok lv z' h1 h2 h3 h4 h5 => ⟨List.replicate m (.slice none 0 0), ?_, by rw [h4, List.length_replicate], h5, Inns.nils _ _ _ _, ?_⟩)
    · rcases hb with hb | ⟨u, hu, hb⟩
      · exact hr2.lt b (own_blk hr2 hb)
      · rw [List.eq_of_mem_replicate hu] at hb
        simp [blk] at hb
    · rw [h3, List.length_replicate]; exact own_mono hr2 (fun b _ => Nat.zero_le _)
    · have : (List.replicate m (Value.slice none 0 0)).filterMap blk = [] := by
        rw [List.filterMap_eq_nil_iff]
        intro u hu
        rw [List.eq_of_mem_replicate hu]; rfl
      rw [Cz.bs, h3, h5]
      simp only [List.filterMap_cons, this]
      cases blk (Value.slice (some ⟨w.heap.size, 0, none⟩) m m) <;> simp
  · simp only [AVR]; exact ⟨live_push hp _, by simp [Cz.upd]⟩
theorem s_make (hΓ : CxOk P Γ) (h : Rel X tm hp z a w) (t : Nat) (x y : Operand) (hs : stepMake Γ t (evalT tm x) (evalT tm y) tm hp o.dst K)
    (ho : o.op = .makeSlice t x y) (hd : ∀ d, o.dst = some d → d < n) (hn : a.tmps.size = n) (hN : NxtS X n w K next) : o.wp P a w next Q := by
  have hx := h.eval x
  have hy := h.eval y
  have ht := hΓ.tab t
  generalize hex : evalT tm x = vx at hs hx
  generalize hey : evalT tm y = vy at hs hy
  unfold stepMake at hs
  split at hs
  · rename_i e esz eb ks c l hT
    rw [hT] at ht
    obtain ⟨i, hu, hi, hsz, hby, hzk⟩ := ti_slice ht
    split at hs
    · split at hs
      case h_2 => exact hs.elim
      rename_i f fsz fb js hE
      split at hs
      · exact hs.elim
      rename_i hb0
      obtain ⟨⟨rfl, h0, hbytes⟩, hs⟩ := hs
      rw [putH_eq] at hs
      obtain ⟨m, rfl⟩ := Int.eq_ofNat_of_zero_le h0
      simp only [Int.toNat_natCast] at hs
      refine s_makeN hΓ h t e esz eb f fsz fb m ks js x y hT hE hex hey hb0 ?_ hs ho hd hn hN
      have : ((m * eb : Nat) : Int) ≤ 140737488355328 := by simpa using hbytes
      omega
    rename_i hk0
    split at hs
    · exact hs.elim
    rename_i hb0
    obtain ⟨⟨rfl, h0, hbytes⟩, hs⟩ := hs
    rw [putH_eq] at hs
    obtain ⟨hks, zv, hzv, hzc⟩ := hzk (fun e => by subst e; exact hk0 rfl)
    obtain ⟨m, rfl⟩ := Int.eq_ofNat_of_zero_le h0
    have hbn : m * eb ≤ 140737488355328 := by
      have : ((m * eb : Nat) : Int) ≤ 140737488355328 := by simpa using hbytes
      omega
    have hm : m ≤ 140737488355328 := Nat.le_trans (Nat.le_mul_of_pos_right _ (by omega)) hbn
    obtain ⟨w', hr1, hr2, hr3⟩ := run_make_full (P := P) w w.heap.size t e i zv (lenK ks) hu hi hzv (by rw [hsz, hks]) .i64 .i64 m (by rw [hby, Nat.mul_comm]; omega) (by unfold maxLen; omega) (Nat.le_refl _)
    rw [made_flat ks zv hzc] at hr2
    simp only [Int.toNat_natCast] at hs
    have ex := hx.of_int
    have ey := hy.of_int
    refine fin_newS ((Stp.of_grown hr3).mono (fun b e => by cases e)) (v := .own (lenH hp)) (u := .slice (some ⟨w.heap.size, 0, none⟩) m m) ?_ (new_rows h e ks (List.replicate m (zeroRow ks)) _ (by rw [List.length_replicate]; exact hr2) hr3 rfl) ?_ hd hn hN hs
    · simp [execOp, ho, ex, ey, hr1]
    · simp only [AVR]; exact ⟨live_push hp _, by simp [Cz.upd]⟩
  · exact hs.elim

/-- Parts laid over a row of cells. -/
theorem fill_one (off : Nat) : ∀ (vs : List Value) (j : Nat) (cells : Array Value), ((vs.zipIdx j).foldl (fun cs (p : Value × Nat) => cs.setIfInBounds (off + p.2) p.1) cells).toList = storeL cells.toList (off + j) vs
  | [], _, _ => rfl
  | v :: vs, j, cells => by
    simp only [List.zipIdx_cons, List.foldl_cons, storeL]
    rw [fill_one off vs (j + 1), Array.toList_setIfInBounds]
    rfl
theorem storeL_mid : ∀ (vs l p : List Value), vs.length ≤ l.length → storeL (p ++ l) p.length vs = p ++ vs ++ l.drop vs.length
  | [], l, p, _ => by simp [storeL]
  | v :: vs, [], p, h => by simp at h
  | v :: vs, x :: l, p, h => by
    simp only [storeL]
    have e : (p ++ x :: l).set p.length v = (p ++ [v]) ++ l := by simp
    rw [e]
    have := storeL_mid vs l (p ++ [v]) (by simpa using h)
    simpa using this

theorem fill_parts (hrho : ∀ k, lv k → (z.ρ k).oneCell' = true) (ks : List Kd) : ∀ (parts : List (Nat × Operand)) (m : Nat) (xs : List Row) (cells : Array Value) (p : List Value),
    partRows ks (evalParts tm parts) m = some xs → (∀ x : Operand, AVR ok lv w z (evalT tm x) (a.eval x)) → p.length = m * lenK ks → (m + xs.length) * lenK ks ≤ cells.size → cells.toList.take (m * lenK ks) = p →
    ∃ cells', Instr.fill (fun i => some (i * lenK ks, lenK ks)) cells (parts.map fun p => (p.1, a.eval p.2)) = some cells' ∧ cells'.size = cells.size ∧ cells'.toList.take ((m + xs.length) * lenK ks) = p ++ flat ks xs
  | [], m, xs, cells, p, h, _, _, _, ht => by
    simp only [evalParts, partRows, Option.some.injEq] at h
    subst h
    exact ⟨cells, rfl, rfl, by simpa [flat] using ht⟩
  | (i, x) :: parts, m, xs, cells, p, h, hev, hp, hsz, ht => by
    simp only [evalParts, partRows] at h
    split at h
    case isFalse => cases h
    rename_i him
    subst him
    split at h
    case h_2 => cases h
    rename_i r hr
    split at h
    case h_2 => cases h
    rename_i xs' hxs
    simp only [Option.some.injEq] at h
    subst h
    have hx := hev x
    have hst : (evalT tm x).stored = true := by
      cases hv : evalT tm x <;> first | rfl | (rw [hv] at hr; cases ks <;> simp [AV.cells, scs, AV.sc] at hr)
    obtain ⟨h1, h2⟩ := AV.cells_rel hrho hx (fun l e => by rw [e] at hst; simp [AV.stored] at hst) (fun e => by rw [e] at hst; simp [AV.stored] at hst) (fun ks xs e => by rw [e] at hst; simp [AV.stored] at hst)
    obtain ⟨h3, h4⟩ := scs_rel hr h1
    have hcl : (a.eval x).cells.toList = rowVals ks r 0 := by rw [h3]; simpa using valsK_row ks r [] h4
    have hcs : (a.eval x).cells.size = lenK ks := by rw [← Array.length_toList, hcl, rowVals_length]
    simp only [List.length_cons] at hsz
    have hle : (i + 1) * lenK ks ≤ cells.size := Nat.le_trans (Nat.mul_le_mul_right _ (by omega)) hsz
    have e1 : (i + 1) * lenK ks = i * lenK ks + lenK ks := by rw [Nat.add_mul, Nat.one_mul]
    have hfold : ∃ c1, (a.eval x).cells.zipIdx.foldl (fun cs (q : Value × Nat) => cs.setIfInBounds (i * lenK ks + q.2) q.1) cells = c1 ∧ c1.toList = p ++ rowVals ks r 0 ++ cells.toList.drop ((i + 1) * lenK ks) ∧ c1.size = cells.size := by
      refine ⟨_, rfl, ?_, ?_⟩
      · rw [← Array.foldl_toList, Array.toList_zipIdx, fill_one, hcl]
        have hsplit : cells.toList = p ++ cells.toList.drop (i * lenK ks) := by rw [← ht]; exact (List.take_append_drop _ _).symm
        rw [hsplit]
        have := storeL_mid (rowVals ks r 0) (cells.toList.drop (i * lenK ks)) p (by rw [rowVals_length, List.length_drop, Array.length_toList]; omega)
        rw [hp] at this
        rw [Nat.add_zero, this, rowVals_length, List.drop_drop, ← hsplit, ← e1]
      · rw [← Array.length_toList, ← Array.foldl_toList, Array.toList_zipIdx, fill_one, storeL_length, Array.length_toList]
    obtain ⟨c1, hc1, hc2, hc3⟩ := hfold
    obtain ⟨cells', h5, h6, h7⟩ := fill_parts hrho ks parts (i + 1) xs' c1 (p ++ rowVals ks r 0) hxs hev (by rw [List.length_append, rowVals_length, hp, e1]) (by rw [hc3, show i + 1 + xs'.length = i + (xs'.length + 1) from by omega]; exact hsz) (by rw [hc2]; exact List.take_left' (by rw [List.length_append, rowVals_length, hp, e1]))
    refine ⟨cells', ?_, by rw [h6, hc3], ?_⟩
    · simp only [List.map_cons, Instr.fill, hcs]
      have hle2 : i * lenK ks + lenK ks ≤ cells.size := by rw [← e1]; exact hle
      rw [if_neg (by simp; omega), hc1]
      exact h5
    · have : i + (xs'.length + 1) = i + 1 + xs'.length := by omega
      rw [List.length_cons, this, h7]
      simp [flat]

theorem s_buildSlice (hΓ : CxOk P Γ) (h : Rel X tm hp z a w) (t m e esz eb : Nat) (ks : List Kd) (parts : Array (Nat × Operand)) (xs : List Row) (hT : Γ.τ t = .slice e esz eb ks)
    (hp1 : partRows ks (evalParts tm parts.toList) 0 = some xs) (hlen : lenP xs = m) (hk0 : ¬ lenK ks = 0) (hbig : m * lenK ks ≤ 16777216)
    (hs : K ⟨putT tm o.dst (.own (lenH hp)), pushH hp (.rows e ks xs)⟩)
    (ho : o.op = .buildSlice t m parts) (hd : ∀ d, o.dst = some d → d < n) (hn : a.tmps.size = n) (hN : NxtS X n w K next) : o.wp P a w next Q := by
  have ht := hΓ.tab t
  rw [hT] at ht
  obtain ⟨i, hu, hi, hsz, hby, hzk⟩ := ti_slice ht
  obtain ⟨hks, zv, hzv, hzc⟩ := hzk (fun e => by subst e; exact hk0 rfl)
  rw [lenP_eq] at hlen
  have hisz : i.size = lenK ks := by rw [hsz, hks]
  obtain ⟨cells', h1, h2, h3⟩ := fill_parts (ok := okB X hp z w) (w := w) h.rho_one ks parts.toList 0 xs ((Array.range (m * lenK ks)).map (zv.cells[· % zv.cells.size]!)) [] hp1 h.eval (by simp) (by simp [hlen]) (by simp)
  simp only [Nat.zero_add, List.nil_append, hlen] at h3
  simp only [Array.size_map, Array.size_range] at h2
  have hcl : cells'.toList = flat ks xs := by rw [← h3, List.take_of_length_le]; rw [Array.length_toList, h2]; exact Nat.le_refl _
  have hrun : (execOp a.eval o).run P w = .ok (.value (.slice (some ⟨w.heap.size, 0, none⟩) m m)) (w.alloc (.cells cells' e)) := by
    have hbig' : ¬ (16777216 < m * lenK ks) := by omega
    by_cases hm0 : m * lenK ks = 0
    · have hm1 : m = 0 := (Nat.mul_eq_zero.1 hm0).resolve_right hk0
      subst hm1
      have hz1 : Instr.fill (fun i => some (i * lenK ks, lenK ks)) #[] (parts.toList.map fun p => (p.1, a.eval p.2)) = some cells' := by
        have er : Array.range (0 * lenK ks) = #[] := by rw [Nat.zero_mul]; rfl
        rw [er] at h1
        simpa using h1
      have er0 : Array.range 0 = #[] := rfl
      simp [execOp, ho, Instr.buildSlice, run_underlying hu, run_sizeOf_of hi, hisz, er0, hz1, newRow]
    · simp [execOp, ho, Instr.buildSlice, run_underlying hu, run_sizeOf_of hi, hisz, hm0, hbig', zeroValue, typeInfo, hi, hzv, h1, newRow]
  have hown := World.ownsRow_lit (base := w.heap.size) (e := e) (size := lenK ks) w cells' m (Nat.le_refl _) (by unfold maxLen; have := Nat.le_mul_of_pos_right m (Nat.pos_of_ne_zero hk0); omega) h2
  rw [hcl] at hown
  refine fin_newS (stp_alloc w _) hrun (new_rows h e ks xs _ (by rw [hlen]; exact hown) (World.grownBy_alloc w _ none) rfl) ?_ hd hn hN hs
  simp only [AVR]; exact ⟨live_push hp _, by simp [Cz.upd]⟩
end

end Go.Proofs.Ytkjbgdhpeidocaa.V
