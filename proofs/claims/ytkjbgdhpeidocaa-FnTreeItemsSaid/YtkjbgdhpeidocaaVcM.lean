/-
  A verified generator of verification conditions over the model's Code, part M: slices of slices of our own: written out, appended, a slice laid into a cell.
-/
import Derived.Test.YtkjbgdhpeidocaaVcL
set_option linter.unusedSimpArgs false
set_option linter.unusedVariables false
namespace Go.Proofs.Ytkjbgdhpeidocaa.V
open Go Go.RowKit

theorem nodup_set {vs : List Value} {v : Value} : ∀ {i : Nat}, (vs.filterMap blk).Nodup → (∀ b, blk v = some b → b ∉ vs.filterMap blk) → ((vs.set i v).filterMap blk).Nodup := by
  induction vs with
  | nil => intro i h _; simp
  | cons u us ih =>
    intro i h hv
    have mem : ∀ (l : List Value) (i : Nat) (b : Nat), b ∈ (l.set i v).filterMap blk → b ∈ l.filterMap blk ∨ blk v = some b := by
      intro l i b hb
      obtain ⟨x, hx, hbx⟩ := List.mem_filterMap.1 hb
      rcases List.mem_or_eq_of_mem_set hx with q | q
      · exact .inl (List.mem_filterMap.2 ⟨x, q, hbx⟩)
      · exact .inr (by rw [← q]; exact hbx)
    cases i with
    | zero =>
      simp only [List.set_cons_zero, List.filterMap_cons] at h hv ⊢
      have hus : (us.filterMap blk).Nodup := by cases e : blk u <;> simp only [e] at h <;> first | exact h | exact (List.nodup_cons.1 h).2
      cases e : blk v with
      | none => simpa using hus
      | some b =>
        simp only
        refine List.nodup_cons.2 ⟨fun hm => hv b e ?_, hus⟩
        cases e2 : blk u <;> simp [hm]
    | succ i =>
      simp only [List.set_cons_succ, List.filterMap_cons] at h hv ⊢
      cases e : blk u with
      | none =>
        simp only [e] at h hv ⊢
        exact ih h hv
      | some c =>
        simp only [e] at h hv ⊢
        obtain ⟨h1, h2⟩ := List.nodup_cons.1 h
        refine List.nodup_cons.2 ⟨fun hm => ?_, ih h2 (fun b hb hm => hv b hb (by simp [hm]))⟩
        rcases mem _ _ _ hm with q | q
        · exact h1 q
        · exact hv c q (by simp)
theorem mem_set_blk {l : List Value} {i : Nat} {v : Value} {b : Nat} (hb : ∃ u ∈ l.set i v, blk u = some b) : (∃ u ∈ l, blk u = some b) ∨ blk v = some b := by
  obtain ⟨x, hx, hbx⟩ := hb
  rcases List.mem_or_eq_of_mem_set hx with q | q
  · exact .inl ⟨x, q, hbx⟩
  · exact .inr (by rw [← q]; exact hbx)
theorem lenX_eq : ∀ l : List (List Row), lenX l = l.length
  | [] => rfl
  | _ :: r => by simp [lenX, lenX_eq r]
theorem memN'_mem {t : Nat} : ∀ {l : List Nat}, t ∈ l → memN' t l = true
  | [], h => by simp at h
  | a :: r, h => by
    simp only [List.mem_cons] at h
    simp only [memN', Bool.or_eq_true, beq_iff_eq]
    rcases h with rfl | h
    · exact .inl rfl
    · exact .inr (memN'_mem h)
theorem nodupN'_iff : ∀ {l : List Nat}, nodupN' l = true → l.Nodup
  | [], _ => List.nodup_nil
  | a :: r, h => by
    simp only [nodupN', Bool.and_eq_true, Bool.not_eq_true'] at h
    refine List.nodup_cons.2 ⟨fun hm => ?_, nodupN'_iff h.2⟩
    rw [memN'_mem hm] at h
    simp at h

section
variable {P : Program} {Γ : Cx} {X : Fx} {tm : List (Nat × AV)} {hp : List (Option Entry)} {z : Cz} {a : Act} {w w' : World} {n : Nat}
  {K : St → Prop} {next : Act → World → Prop} {Q : Exit → Act → World → Prop} {o : Oper} {ok lv : Nat → Prop}

/-- The parts of a slice of slices. -/
theorem parts_rel (h : Rel X tm hp z a w) (hm : X.m = Γ.m) (f : Nat) (ks : List Kd) : ∀ (parts : List (Nat × Operand)) (i : Nat) {C : List Nat → List (List Row) → Prop}, stepParts Γ.m hp f ks (evalParts tm parts) i C →
    ∃ js xss, C js xss ∧ Inns w f ks xss (js.map z.ρ) ∧ (∀ j ∈ js, X.m ≤ j ∧ live hp j ∧ (z.wd j).2 = []) ∧ js.length = xss.length ∧
      (parts.map fun p => (p.1, a.eval p.2)) = ((js.map z.ρ).zipIdx i).map fun p => (p.2, p.1)
  | [], i, C, hs => by
    simp only [evalParts, stepParts] at hs
    exact ⟨[], [], hs, by simp [Inns], by simp, rfl, by simp⟩
  | (i', x) :: parts, i, C, hs => by
    simp only [evalParts, stepParts] at hs
    split at hs
    case isFalse => exact hs.elim
    rename_i hi
    subst hi
    have hx := h.eval x
    split at hs
    case h_2 => exact hs.elim
    rename_i j hj
    split at hs
    case h_2 => exact hs.elim
    rename_i f' ks' xs hl
    obtain ⟨h1, rfl, rfl, hs⟩ := hs
    obtain ⟨js, xss, h2, h3, h4, h5, h6⟩ := parts_rel h hm f' ks' parts (i' + 1) hs
    rw [hj] at hx
    simp only [AVR] at hx
    obtain ⟨ho, _, hwd⟩ := h.ens j _ hl
    refine ⟨j :: js, xs :: xss, h2, ?_, ?_, by simp [h5], ?_⟩
    · simp only [List.map_cons, Inns]
      exact ⟨_, _, rfl, ho, h3⟩
    · intro j' hj'
      rcases List.mem_cons.1 hj' with rfl | hj'
      · exact ⟨by rw [hm]; exact h1, hx.1, by rw [hwd]⟩
      · exact h4 j' hj'
    · simp [h6, hx.2]

theorem fill_ones : ∀ (us : List Value) (m : Nat) (cells : Array Value) (p : List Value), (∀ u ∈ us, u.oneCell' = true) → p.length = m → m + us.length ≤ cells.size → cells.toList.take m = p →
    ∃ cells', Instr.fill (fun i => some (i * 1, 1)) cells ((us.zipIdx m).map fun p => (p.2, p.1)) = some cells' ∧ cells'.size = cells.size ∧ cells'.toList.take (m + us.length) = p ++ us
  | [], m, cells, p, _, _, _, ht => ⟨cells, rfl, rfl, by simpa using ht⟩
  | u :: us, m, cells, p, h1, hp, hsz, ht => by
    simp only [List.length_cons] at hsz
    have hc := cells_one (h1 u (by simp))
    have hm : m < cells.size := by omega
    have hset : (cells.setIfInBounds m u).toList.take (m + 1) = p ++ [u] := by
      rw [Array.toList_setIfInBounds, List.take_set, ← ht]
      have : m < cells.toList.length := by simpa using hm
      rw [List.take_succ_eq_append_getElem this, List.set_append_right _ _ (by simp; omega)]
      have e : m - min m cells.size = 0 := by omega
      simp [e]
    obtain ⟨cells', h5, h6, h7⟩ := fill_ones us (m + 1) (cells.setIfInBounds m u) (p ++ [u]) (fun u hu => h1 u (by simp [hu])) (by simp [hp]) (by simp; omega) hset
    refine ⟨cells', ?_, by rw [h6]; simp, ?_⟩
    · simp only [List.zipIdx_cons, List.map_cons, Instr.fill, hc]
      rw [if_neg (by simp; omega)]
      simpa using h5
    · have : m + (us.length + 1) = m + 1 + us.length := by omega
      rw [List.length_cons, this, h7]
      simp

theorem map_nodup (h : Rel X tm hp z a w) : ∀ {js : List Nat}, js.Nodup → (∀ j ∈ js, live hp j) → ((js.map z.ρ).filterMap blk).Nodup
  | [], _, _ => by simp
  | j :: js, hn, hl => by
    obtain ⟨h1, h2⟩ := List.nodup_cons.1 hn
    have ih := map_nodup h h2 (fun k hk => hl k (by simp [hk]))
    simp only [List.map_cons, List.filterMap_cons]
    cases e : blk (z.ρ j) with
    | none => exact ih
    | some b =>
      refine List.nodup_cons.2 ⟨fun hm => ?_, ih⟩
      obtain ⟨v, hv, hb⟩ := List.mem_filterMap.1 hm
      obtain ⟨k, hk, rfl⟩ := List.mem_map.1 hv
      have := h.dj j k b (hl j (by simp)) (hl k (by simp [hk])) (.inl e) (.inl hb)
      subst this
      exact h1 hk

theorem s_buildN (hΓ : CxOk P Γ) (h : Rel X tm hp z a w) (hm : X.m = Γ.m) (t m e esz eb : Nat) (ks : List Kd) (parts : Array (Nat × Operand)) (hT : Γ.τ t = .slice e esz eb ks)
    (hs : stepBuildN Γ e m (evalParts tm parts.toList) tm hp o.dst K)
    (ho : o.op = .buildSlice t m parts) (hd : ∀ d, o.dst = some d → d < n) (hn : a.tmps.size = n) (hN : NxtS X n w K next) : o.wp P a w next Q := by
  unfold stepBuildN at hs
  split at hs
  case h_2 => exact hs.elim
  rename_i f fsz fb js' hE
  obtain ⟨hbig, hs⟩ := hs
  obtain ⟨js, xss, ⟨hlen, hnd, hs⟩, hi, hj, hjl, hparts⟩ := parts_rel h hm f js' parts.toList 0 hs
  rw [putTH_eq] at hs
  rw [lenX_eq] at hlen
  have hnd := nodupN'_iff hnd
  obtain ⟨i, hu, hinfo, hsz, hby, hz, _⟩ := ti_nest hΓ hT hE
  have hone : ∀ u ∈ js.map z.ρ, u.oneCell' = true := by
    intro u hu
    obtain ⟨j, hj', rfl⟩ := List.mem_map.1 hu
    exact h.rho_one j (hj j hj').2.1
  have hul : (js.map z.ρ).length = m := by rw [List.length_map, hjl, hlen]
  obtain ⟨cells', h1, h2, h3⟩ := fill_ones (js.map z.ρ) 0 ((Array.range (m * 1)).map ((Value.slice none 0 0).cells[· % (Value.slice none 0 0).cells.size]!)) [] hone rfl (by simp [← hul]) (by simp)
  rw [← hparts] at h1
  simp only [Nat.zero_add, List.nil_append, hul] at h3
  simp only [Array.size_map, Array.size_range, Nat.mul_one] at h2
  have hcl : cells'.toList = js.map z.ρ := by rw [← h3, List.take_of_length_le]; rw [Array.length_toList, h2]; exact Nat.le_refl _
  have hrun : (execOp a.eval o).run P w = .ok (.value (.slice (some ⟨w.heap.size, 0, none⟩) m m)) (w.alloc (.cells cells' e)) := by
    have hbig' : ¬ (16777216 < m) := by omega
    by_cases hm0 : m = 0
    · subst hm0
      have hz1 : Instr.fill (fun i => some (i * 1, 1)) #[] (parts.toList.map fun p => (p.1, a.eval p.2)) = some cells' := by
        have er : Array.range (0 * 1) = #[] := rfl
        rw [er] at h1
        simpa using h1
      have er0 : Array.range 0 = #[] := rfl
      simp only [Nat.mul_one] at hz1
      simp [execOp, ho, Instr.buildSlice, run_underlying hu, run_sizeOf_of hinfo, hsz, er0, hz1, newRow]
    · simp only [Nat.mul_one] at h1
      simp [execOp, ho, Instr.buildSlice, run_underlying hu, run_sizeOf_of hinfo, hsz, hm0, hbig', zeroValue, typeInfo, hinfo, hz, h1, newRow]
  have hown := World.ownsRow_lit (base := w.heap.size) (e := e) (size := 1) w cells' m (Nat.le_refl _) (by unfold maxLen; omega) (by rw [h2, Nat.mul_one])
  rw [hcl] at hown
  have hdead : ¬ live hp (lenH hp) := by rw [live_none, lenH_eq]; exact lookH_big (Nat.le_refl _)
  have hmm : X.m ≤ lenH hp := by rw [lenH_eq]; exact h.mm
  have hlen2 : lenH (killsH js hp) = lenH hp := by rw [lenH_eq, lenH_eq, length_kills]
  have hbl : ∀ b, (blk (Value.slice (some ⟨w.heap.size, 0, none⟩) m m) = some b ∨ ∃ u ∈ js.map z.ρ, blk u = some b) → (∃ j ∈ js, live hp j ∧ z.bk j b) ∨ b = w.heap.size := by
    intro b hb
    rcases hb with hb | ⟨u, hu, hb⟩
    · simp [blk] at hb; exact .inr hb.symm
    · obtain ⟨j, hj', rfl⟩ := List.mem_map.1 hu
      exact .inl ⟨j, hj', (hj j hj').2.1, .inl hb⟩
  have hR := h.recast (w' := w.alloc (.cells cells' e)) js js (lenH hp) (.nest e f js' xss) (z.upd (lenH hp) (.slice (some ⟨w.heap.size, 0, none⟩) m m) m (1, js.map z.ρ)) (pushH (killsH js hp) (.nest e f js' xss))
    (fun _ x => x) (fun _ x => .inl x) (fun j hj' => (hj j hj').1) hmm (.inr hdead)
    (fun j hjk => by rw [lookH_push, hlen2, if_neg hjk]) (by rw [lookH_push, hlen2, if_pos rfl]) (by rw [length_push, length_kills]; have := h.mm; omega)
    (fun j hjk => by simp [Cz.upd, hjk]) (.inr (.inl hdead)) ((stp_alloc w _).mono (fun _ x => x.elim))
    (fun b hb => by
      simp only [Cz.bk, Cz.upd, if_true] at hb
      rcases hbl b hb with q | q
      · refine ⟨.inl q, ?_⟩
        obtain ⟨j, _, hlj, hbj⟩ := q
        have := (h.own j b hlj hbj).1
        simp; omega
      · subst q; exact ⟨.inr (Nat.le_refl _), by simp⟩)
    (fun ok lv hok => by
      refine ⟨js.map z.ρ, ?_, by simp [Cz.upd, hlen], by simp [Cz.upd], hi.still (fun b v hv hb => ?_), ?_⟩
      · simp only [Cz.upd, if_true, hlen]; exact own_mono hown (fun _ _ => Nat.zero_le _)
      · obtain ⟨j, hj', rfl⟩ := List.mem_map.1 hv
        exact (stp_alloc w _).block b (h.own j b (hj j hj').2.1 (.inl hb)).1 (fun x => x)
      · simp only [Cz.bs, Cz.upd, if_true, List.filterMap_cons, blk]
        refine List.nodup_cons.2 ⟨fun hmem => ?_, map_nodup h hnd (fun j hj' => (hj j hj').2.1)⟩
        obtain ⟨v, hv, hb⟩ := List.mem_filterMap.1 hmem
        obtain ⟨j, hj', rfl⟩ := List.mem_map.1 hv
        have := (h.own j _ (hj j hj').2.1 (.inl hb)).1
        omega)
  unfold Oper.wp
  rw [hrun]
  show next _ _
  refine hN ⟨putT (killsT js tm) o.dst (.own (lenH hp)), pushH (killsH js hp) (.nest e f js' xss)⟩ _ _ _ hs (hR.put o.dst (fun d e => by rw [hn]; exact hd d e) ?_) (by rw [size_put]; exact hn) (stp_alloc w _)
  simp only [AVR]
  refine ⟨?_, by simp [Cz.upd]⟩
  unfold live; rw [lookH_push, hlen2]; simp

theorem s_appN (hΓ : CxOk P Γ) (h : Rel X tm hp z a w) (hm : X.m = Γ.m) (t e esz eb ty : Nat) (ks : List Kd) (x y : Operand) (hT : Γ.τ t = .slice e esz eb ks) {f0 fsz fb : Nat} {js0 : List Kd} (hE : Γ.τ e = .slice f0 fsz fb js0)
    (hs : stepAppN Γ.m tm hp e eb (evalT tm x) (evalT tm y) o.dst K)
    (hrun : ∀ v w', (Builtin.append_ #[t, t] ty #[a.eval x, a.eval y]).run P w = .ok v w' → (execOp a.eval o).run P w = .ok (.value v) w')
    (hd : ∀ d, o.dst = some d → d < n) (hn : a.tmps.size = n) (hN : Nxt X n K next) : o.wp P a w next Q := by
  have hx := h.eval x
  have hy := h.eval y
  obtain ⟨i, hu, hi, hsz, hby, hz, _⟩ := ti_nest hΓ hT hE
  have hzs : (Value.slice none 0 0).cells.size = i.size := by rw [hsz]; rfl
  generalize evalT tm x = vx at hs hx
  generalize evalT tm y = vy at hs hy
  unfold stepAppN at hs
  split at hs
  · exact hs.elim
  rename_i hb0
  split at hs
  case h_2 => exact hs.elim
  rename_i j
  split at hs
  case h_2 => exact hs.elim
  rename_i e2 f ks2 yss hlj
  simp only [AVR] at hy
  obtain ⟨hlvj, hy⟩ := hy
  obtain ⟨vj, hownj, hlnj, hwdj, hij, hndj⟩ := h.ens j _ hlj
  have hvl := hij.length
  have honej : ∀ u ∈ vj, u.oneCell' = true := by
    intro u hu
    obtain ⟨q, hq, rfl⟩ := List.getElem_of_mem hu
    obtain ⟨u', h1, h2⟩ := hij.get q (by omega)
    rw [List.getElem?_eq_getElem hq] at h1
    cases h1
    rcases h2.2 with ⟨q, _⟩ | ⟨g, cap, cur, q, _⟩ <;> rw [q] <;> rfl
  have hsrc : ∃ ad cap, z.ρ j = .slice ad yss.length cap ∧ (yss.length = 0 ∨ ∃ b o, ad = some ⟨b, o, none⟩ ∧ ∀ q u, vj[q]? = some u → w.cell? ⟨b, o + q, none⟩ = some u) := by
    rcases hownj.2 with ⟨h1, h2⟩ | ⟨g, cap, cur, h1, _⟩
    · exact ⟨none, 0, by rw [h1, h2], .inl h2⟩
    · refine ⟨some ⟨g, 0, none⟩, cap, h1, .inr ⟨g, 0, rfl, fun q u hq => ?_⟩⟩
      have := hownj.cells (g := g) (by rw [h1]; rfl) q u hq
      rwa [Addr.add_lit] at this
  obtain ⟨ad, cap, ey, hcells⟩ := hsrc
  rw [ey] at hy
  have innj : ∀ (w' : World) (S : Nat → Prop), Stp S w w' → (∀ b, z.bk j b → ¬ S b) → Inns w' f ks2 yss vj := fun w' S hst hS => hij.still (fun b v hv hb => by
    have hbj : z.bk j b := .inr ⟨v, by rw [hwdj]; exact hv, hb⟩
    exact hst.block b (h.own j b hlvj hbj).1 (hS b hbj))
  split at hs
  · -- onto nil
    obtain ⟨hmj, rfl, hbytes, hs⟩ := hs
    rw [putTH_eq] at hs
    simp only [AVR] at hx
    obtain ⟨v', w', hr1, hr2, hr3, hr4⟩ := run_append_mine t ty e2 i (.slice none 0 0) hu hi hz hzs (by omega) (by omega) (.slice none 0 0) 0 [] (World.ownsRow_nil w 0 e2 i.size) ad yss.length cap vj (by rw [hvl, hsz, Nat.mul_one]) hcells honej (by rw [hby]; simpa using hbytes)
    rw [← hx, ← hy] at hr1
    simp only [Nat.zero_add, List.nil_append] at hr2
    have hr3' : Stp (fun _ => False) w w' := hr3.mono (fun b e => by simp [blk] at e)
    have hdead : ¬ live hp (lenH hp) := by rw [live_none, lenH_eq]; exact lookH_big (Nat.le_refl _)
    have hmm : X.m ≤ lenH hp := by rw [lenH_eq]; exact h.mm
    have hlen2 : lenH (killsH [j] hp) = lenH hp := by rw [lenH_eq, lenH_eq, length_kills]
    have hbl : ∀ b, (blk v' = some b ∨ ∃ u ∈ vj, blk u = some b) → (z.bk j b ∨ w.heap.size ≤ b) ∧ b < w'.heap.size := by
      intro b hb
      rcases hb with hb | ⟨u, hu, hb⟩
      · obtain ⟨q1, q2⟩ := hr4 b hb
        rcases q1 with q | q
        · simp [blk] at q
        · exact ⟨.inr q, q2⟩
      · have hbj : z.bk j b := .inr ⟨u, by rw [hwdj]; exact hu, hb⟩
        exact ⟨.inl hbj, Nat.lt_of_lt_of_le (h.own j b hlvj hbj).1 hr3'.size⟩
    have hR := h.recast (w' := w') [j] [j] (lenH hp) (.nest e2 f ks2 yss) (z.upd (lenH hp) v' yss.length (1, vj)) (pushH (killsH [j] hp) (.nest e2 f ks2 yss))
      (fun _ x => x) (fun _ x => .inl x) (fun j' hj' => by simp at hj'; subst hj'; rw [hm]; exact hmj) hmm (.inr hdead)
      (fun j hjk => by rw [lookH_push, hlen2, if_neg hjk]) (by rw [lookH_push, hlen2, if_pos rfl]) (by rw [length_push, length_kills]; have := h.mm; omega)
      (fun j hjk => by simp [Cz.upd, hjk]) (.inr (.inl hdead)) (hr3'.mono (fun _ x => x.elim))
      (fun b hb => by
        simp only [Cz.bk, Cz.upd, if_true] at hb
        obtain ⟨q1, q2⟩ := hbl b hb
        exact ⟨q1.imp (fun q => ⟨j, by simp, hlvj, q⟩) id, q2⟩)
      (fun ok lv hok => by
        refine ⟨vj, ?_, by simp [Cz.upd], by simp [Cz.upd], innj w' _ hr3' (fun _ _ x => x), ?_⟩
        · simp only [Cz.upd, if_true]; rw [hsz] at hr2; exact hr2
        · simp only [Cz.bs, Cz.upd, if_true, List.filterMap_cons]
          have hndv : (vj.filterMap blk).Nodup := by
            simp only [Cz.bs, hwdj, List.filterMap_cons] at hndj
            cases e : blk (z.ρ j) <;> simp only [e] at hndj <;> first | exact hndj | exact (List.nodup_cons.1 hndj).2
          cases e : blk v' with
          | none => exact hndv
          | some b =>
            refine List.nodup_cons.2 ⟨fun hmem => ?_, hndv⟩
            obtain ⟨v, hv, hb⟩ := List.mem_filterMap.1 hmem
            rcases (hr4 b e).1 with q | q
            · simp [blk] at q
            · have := (h.own j b hlvj (.inr ⟨v, by rw [hwdj]; exact hv, hb⟩)).1; omega)
    refine fin (hrun _ _ hr1) hR ?_ hd hn hN hs
    simp only [AVR]
    refine ⟨?_, by simp [Cz.upd]⟩
    unfold live; rw [lookH_push, hlen2]; simp
  · -- onto a slice of slices of our own
    rename_i k
    split at hs
    case h_2 => exact hs.elim
    rename_i e1 f1 js xss hlk
    obtain ⟨hmj, hmk, hkj0, rfl, rfl, rfl, rfl, hbytes, hs⟩ := hs
    have hkj : k ≠ j := fun e => by subst e; simp at hkj0
    rw [putTH_eq] at hs
    simp only [AVR] at hx
    obtain ⟨hlvk, hx⟩ := hx
    obtain ⟨vk, hownk, hlnk, hwdk, hik, hndk⟩ := h.ens k _ hlk
    obtain ⟨v', w', hr1, hr2, hr3, hr4⟩ := run_append_mine t ty e1 i (.slice none 0 0) hu hi hz hzs (by omega) (by omega) (z.ρ k) xss.length vk (by rw [hsz]; exact hownk) ad yss.length cap vj (by rw [hvl, hsz, Nat.mul_one]) hcells honej (by rw [hby]; exact hbytes)
    rw [← hx, ← hy] at hr1
    have hlt := lookH_lt hlk
    have hlen2 : (killsH [k, j] hp).length = hp.length := length_kills _ _
    have hbl : ∀ b, (blk v' = some b ∨ ∃ u ∈ vk ++ vj, blk u = some b) → ((z.bk k b ∨ z.bk j b) ∨ w.heap.size ≤ b) ∧ b < w'.heap.size := by
      intro b hb
      rcases hb with hb | ⟨u, hu, hb⟩
      · obtain ⟨q1, q2⟩ := hr4 b hb
        exact ⟨q1.imp (fun q => .inl (.inl q)) id, q2⟩
      · rcases List.mem_append.1 hu with hu | hu
        · have hbk : z.bk k b := .inr ⟨u, by rw [hwdk]; exact hu, hb⟩
          exact ⟨.inl (.inl hbk), Nat.lt_of_lt_of_le (h.own k b hlvk hbk).1 hr3.size⟩
        · have hbj : z.bk j b := .inr ⟨u, by rw [hwdj]; exact hu, hb⟩
          exact ⟨.inl (.inr hbj), Nat.lt_of_lt_of_le (h.own j b hlvj hbj).1 hr3.size⟩
    have hkb : ∀ b v, v ∈ vk → blk v = some b → ¬ blk (z.ρ k) = some b := by
      intro b v hv hb e
      simp only [Cz.bs, hwdk, List.filterMap_cons, e] at hndk
      exact (List.nodup_cons.1 hndk).1 (List.mem_filterMap.2 ⟨v, hv, hb⟩)
    have hR := h.recast (w' := w') [k, j] [k, j] k (.nest e1 f1 js (xss ++ yss)) (z.upd k v' (xss ++ yss).length (1, vk ++ vj)) (setH (killsH [k, j] hp) k (some (.nest e1 f1 js (xss ++ yss))))
      (fun _ x => x) (fun _ x => .inl x) (fun j' hj' => by simp at hj'; rcases hj' with rfl | rfl <;> rw [hm] <;> assumption) (by rw [hm]; exact hmk) (.inl (by simp))
      (fun j' hjk => by rw [lookH_set, if_neg (fun q => hjk q.1)]) (by rw [lookH_set, if_pos ⟨rfl, by rw [hlen2]; exact hlt⟩]) (by rw [length_set, length_kills]; exact h.mm)
      (fun j' hjk => by simp [Cz.upd, hjk]) (.inl (by simp)) (hr3.mono (fun b e => ⟨k, by simp, hlvk, .inl e⟩))
      (fun b hb => by
        simp only [Cz.bk, Cz.upd, if_true] at hb
        obtain ⟨q1, q2⟩ := hbl b hb
        refine ⟨q1.imp (fun q => ?_) id, q2⟩
        rcases q with q | q
        · exact ⟨k, by simp, hlvk, q⟩
        · exact ⟨j, by simp, hlvj, q⟩)
      (fun ok lv hok => by
        refine ⟨vk ++ vj, ?_, by simp [Cz.upd], by simp [Cz.upd], ?_, ?_⟩
        · simp only [Cz.upd, if_true, List.length_append]; rw [hsz] at hr2; exact hr2
        · refine Inns.append (hik.still (fun b v hv hb => ?_)) (innj w' _ hr3 (fun b hb e => hkj (h.dj k j b hlvk hlvj (.inl e) hb)))
          exact hr3.block b (h.own k b hlvk (.inr ⟨v, by rw [hwdk]; exact hv, hb⟩)).1 (hkb b v hv hb)
        · have hndv : ∀ (q : Nat) (vq : List Value), (z.bs q).Nodup → z.wd q = (1, vq) → (vq.filterMap blk).Nodup := by
            intro q vq h1 h2
            simp only [Cz.bs, h2, List.filterMap_cons] at h1
            cases e : blk (z.ρ q) <;> simp only [e] at h1 <;> first | exact h1 | exact (List.nodup_cons.1 h1).2
          have hapart : ((vk ++ vj).filterMap blk).Nodup := by
            rw [List.filterMap_append, List.nodup_append]
            refine ⟨hndv k vk hndk hwdk, hndv j vj hndj hwdj, fun b hb c hc e => ?_⟩
            subst e
            obtain ⟨v, hv, hb⟩ := List.mem_filterMap.1 hb
            obtain ⟨u, hu, hc⟩ := List.mem_filterMap.1 hc
            exact hkj (h.dj k j b hlvk hlvj (.inr ⟨v, by rw [hwdk]; exact hv, hb⟩) (.inr ⟨u, by rw [hwdj]; exact hu, hc⟩))
          simp only [Cz.bs, Cz.upd, if_true, List.filterMap_cons]
          cases e : blk v' with
          | none => exact hapart
          | some b =>
            refine List.nodup_cons.2 ⟨fun hmem => ?_, hapart⟩
            obtain ⟨v, hv, hb⟩ := List.mem_filterMap.1 hmem
            rcases List.mem_append.1 hv with hv | hv
            · rcases (hr4 b e).1 with q | q
              · exact hkb b v hv hb q
              · have := (h.own k b hlvk (.inr ⟨v, by rw [hwdk]; exact hv, hb⟩)).1; omega
            · rcases (hr4 b e).1 with q | q
              · exact hkj (h.dj k j b hlvk hlvj (.inl q) (.inr ⟨v, by rw [hwdj]; exact hv, hb⟩))
              · have := (h.own j b hlvj (.inr ⟨v, by rw [hwdj]; exact hv, hb⟩)).1; omega)
    refine fin (hrun _ _ hr1) hR ?_ hd hn hN hs
    simp only [AVR]
    refine ⟨?_, by simp [Cz.upd]⟩
    unfold live
    rw [lookH_set, hlen2]
    simp [hlt]
  · exact hs.elim

theorem s_storeN (hΓ : CxOk P Γ) (h : Rel X tm hp z a w) (hm : X.m = Γ.m) (t : Nat) (x y : Operand) (k c j : Nat) (hx : evalT tm x = .cel k c 0) (hy : evalT tm y = .own j) (ht1 : (Γ.τ t).size = 1) (htk : (Γ.τ t).known = true)
    (hs : stepStoreN Γ.m tm hp k c j o.dst K)
    (ho : o.op = .store t x y) (hd : ∀ d, o.dst = some d → d < n) (hn : a.tmps.size = n) (hN : Nxt X n K next) : o.wp P a w next Q := by
  have ex := h.eval x
  have ey := h.eval y
  rw [hx] at ex
  rw [hy] at ey
  obtain ⟨i, hi, hisz⟩ := ti_size (hΓ.tab t) htk
  unfold stepStoreN at hs
  split at hs
  case h_2 => exact hs.elim
  rename_i e f ks xss hlk
  split at hs
  case h_2 => exact hs.elim
  rename_i f' ks' xs hlj
  obtain ⟨hmk, hmj, rfl, rfl, hs⟩ := hs
  rw [putTH_eq] at hs
  simp only [AVR] at ex ey
  obtain ⟨hlvk, hc, b0, hb0, ex⟩ := ex
  obtain ⟨hlvj, ey⟩ := ey
  obtain ⟨vk, hownk, hlnk, hwdk, hik, hndk⟩ := h.ens k _ hlk
  obtain ⟨hownj, hlnj, hwdj⟩ := h.ens j _ hlj
  rw [hlnk] at hc
  have hkj : k ≠ j := by intro e; subst e; rw [hlk] at hlj; cases hlj
  rw [hwdk] at ex
  simp only [Nat.mul_one, Nat.add_zero] at ex
  have hone := h.rho_one j hlvj
  have hcl := cells_one hone
  rcases hownk.2 with ⟨q, h0⟩ | ⟨g, cap, cur, q, hb0', hg, hnc, hcm, hcs, htake⟩
  · omega
  rw [q] at hb0
  simp only [blk, Option.some.injEq] at hb0
  subst hb0
  obtain ⟨w', cur', hrun, hh', hc', hstp⟩ := run_storeCells (P := P) g e (a.eval y).cells.toList c 0 cur w hg (by rw [ey, hcl, hcs]; simp; omega) (by rw [ey, hcl]; simpa using hone)
  rw [ey, hcl] at hc'
  simp only [Nat.add_zero, storeL] at hc'
  have hst : Stp (fun b => blk (z.ρ k) = some b) w w' := hstp.mono (fun b' e => by rw [q]; simpa [blk] using e)
  have hlt := lookH_lt hlk
  have hlen2 : (killsH [j] hp).length = hp.length := length_kills _ _
  have hkb : ∀ b v, v ∈ vk → blk v = some b → ¬ blk (z.ρ k) = some b := by
    intro b v hv hb e
    simp only [Cz.bs, hwdk, List.filterMap_cons, e] at hndk
    exact (List.nodup_cons.1 hndk).1 (List.mem_filterMap.2 ⟨v, hv, hb⟩)
  have hvl := hik.length
  have hR := h.recast (w' := w') [j] [k, j] k (.nest e f' ks' (xss.set c xs)) (z.upd k (z.ρ k) xss.length (1, vk.set c (z.ρ j))) (setH (killsH [j] hp) k (some (.nest e f' ks' (xss.set c xs))))
    (fun j' hj' => by simp at hj'; simp [hj']) (fun j' hj' => by simp at hj'; rcases hj' with q | q <;> simp [q]) (fun j' hj' => by simp at hj'; rcases hj' with rfl | rfl <;> rw [hm] <;> assumption) (by rw [hm]; exact hmk) (.inl (by simp))
    (fun j' hjk => by rw [lookH_set, if_neg (fun q => hjk q.1)]) (by rw [lookH_set, if_pos ⟨rfl, by rw [hlen2]; exact hlt⟩]) (by rw [length_set, length_kills]; exact h.mm)
    (fun j' hjk => by simp [Cz.upd, hjk]) (.inr (.inr ⟨by simp [Cz.upd], by simp [Cz.upd, hlnk], by simp [Cz.upd, hwdk]⟩)) (hst.mono (fun b e => ⟨k, by simp, hlvk, .inl e⟩))
    (fun b hb => by
      simp only [Cz.bk, Cz.upd, if_true] at hb
      have key : z.bk k b ∨ z.bk j b := by
        rcases hb with hb | hb
        · exact .inl (.inl hb)
        · rcases mem_set_blk hb with ⟨u, hu, hb⟩ | hb
          · exact .inl (.inr ⟨u, by rw [hwdk]; exact hu, hb⟩)
          · exact .inr (.inl hb)
      rcases key with q | q
      · exact ⟨.inl ⟨k, by simp, hlvk, q⟩, Nat.lt_of_lt_of_le (h.own k b hlvk q).1 hst.size⟩
      · exact ⟨.inl ⟨j, by simp, hlvj, q⟩, Nat.lt_of_lt_of_le (h.own j b hlvj q).1 hst.size⟩)
    (fun ok lv hok => by
      have hin : Inns w' f' ks' xss vk := hik.still (fun b v hv hb => hst.block b (h.own k b hlvk (.inr ⟨v, by rw [hwdk]; exact hv, hb⟩)).1 (hkb b v hv hb))
      have hoj : w'.ownsRow 0 f' (lenK ks') (z.ρ j) xs.length (flat ks' xs) := heap_of_own hownj (fun b hb => hst.block b (h.own j b hlvj (.inl hb)).1 (fun e => hkj (h.dj k j b hlvk hlvj (.inl e) (.inl hb))))
      refine ⟨vk.set c (z.ρ j), ?_, by simp [Cz.upd], by simp [Cz.upd], hin.set c hoj, ?_⟩
      · simp only [Cz.upd, if_true, List.length_set]
        refine ⟨by rw [List.length_set, hvl, Nat.mul_one], .inr ⟨g, cap, cur', q, Nat.zero_le _, hh', hnc, hcm, ?_, ?_⟩⟩
        · rw [← Array.length_toList, hc', List.length_set, Array.length_toList, hcs]
        · rw [hc', List.take_set, htake]
      · simp only [Cz.bs, Cz.upd, if_true, List.filterMap_cons, q, blk]
        have hndk' := hndk
        simp only [Cz.bs, hwdk, List.filterMap_cons, q, blk] at hndk'
        obtain ⟨n1, n2⟩ := List.nodup_cons.1 hndk'
        refine List.nodup_cons.2 ⟨fun hmem => ?_, nodup_set n2 (fun b hb hmem => ?_)⟩
        · obtain ⟨v, hv, hb⟩ := List.mem_filterMap.1 hmem
          rcases List.mem_or_eq_of_mem_set hv with q2 | q2
          · exact n1 (List.mem_filterMap.2 ⟨v, q2, hb⟩)
          · subst q2
            exact hkj (h.dj k j g hlvk hlvj (.inl (by rw [q]; rfl)) (.inl hb))
        · obtain ⟨v, hv, hb2⟩ := List.mem_filterMap.1 hmem
          exact hkj (h.dj k j b hlvk hlvj (.inr ⟨v, by rw [hwdk]; exact hv, hb2⟩) (.inl hb)))
  refine fin_skip (w' := w') ?_ hR hd hn hN hs
  simp [execOp, ho, Instr.storeAt, ex, Instr.sureAddr, run_storeVar hi (v := a.eval y) (by rw [ey, hcl, hisz, ht1]; rfl) hrun]
end

end Go.Proofs.Ytkjbgdhpeidocaa.V
