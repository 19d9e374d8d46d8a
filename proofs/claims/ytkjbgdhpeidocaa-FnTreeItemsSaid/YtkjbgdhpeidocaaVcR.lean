/-
  A verified generator of verification conditions over the model's Code, part R: a call met by its contract, whole.
-/
import Derived.Test.YtkjbgdhpeidocaaVcP
set_option linter.unusedSimpArgs false
set_option linter.unusedVariables false
namespace Go.Proofs.Ytkjbgdhpeidocaa.V
open Go Go.RowKit

section
variable {P : Program} {Γ : Cx} {X : Fx} {tm : List (Nat × AV)} {hp : List (Option Entry)} {z : Cz} {a : Act} {w w' : World} {n : Nat}
  {K : St → Prop} {next : Act → World → Prop} {Q : Exit → Act → World → Prop} {o : Oper} {V : Nat → Prop} {ok' : Nat → Prop}

theorem ioPut1_look (hp : List (Option Entry)) (v c : AV) (j : Nat) (h : ∀ k, (v = .own k ∨ (∃ x, v = .box k x) ∨ ∃ i x, v = .cel k i x) → j ≠ k) : lookH (ioPut1 hp v c) j = lookH hp j := by
  unfold ioPut1
  split
  · rename_i k _ _ _; rw [lookH_set, if_neg (fun q => h k (.inl rfl) q.1)]
  · rename_i k x _; rw [lookH_set, if_neg (fun q => h k (.inr (.inl ⟨x, rfl⟩)) q.1)]
  · rename_i k i x _ _; rw [lookH_set, if_neg (fun q => h k (.inr (.inr ⟨i, x, rfl⟩)) q.1)]
  · rfl
theorem ioPut1_length (hp : List (Option Entry)) (v c : AV) : (ioPut1 hp v c).length = hp.length := by
  unfold ioPut1
  split <;> simp [length_set]
theorem ioPut_length : ∀ (vs cs : List AV) (hp : List (Option Entry)), (ioPut hp vs cs).length = hp.length
  | [], cs, hp => by cases cs <;> rfl
  | v :: vs, [], hp => rfl
  | v :: vs, c :: cs, hp => by simp only [ioPut]; rw [ioPut_length, ioPut1_length]

/-- One place handed over: what stands in its entry behind the call. -/
theorem io_one {lv : Nat → Prop} (h : Rel X tm hp z a w) {hp0 : List (Option Entry)} (hlen : hp0.length = hp.length) {v c : AV} {u : Value} {io : Bool} {B : List Nat} (hv : AVR (okB X hp z w) (live hp) w z v u)
    (hd : handed (deep2H hp io v) = true) (hsh : shapeL [deep2H hp io v] [c]) (hc : D2 ok' w' c u B) :
    ∃ k e, ids2 v (deep2H hp io v) = [k] ∧ live hp k ∧ (∀ j, j ≠ k → lookH (ioPut1 hp0 v c) j = lookH hp0 j) ∧ lookH (ioPut1 hp0 v c) k = some e ∧ EnR ok' lv w' z k e := by
  cases v <;> simp only [deep2H, deep1H] at hd hsh <;> (try (simp [handed] at hd; done))
  case own k =>
    simp only [AVR] at hv
    obtain ⟨hlv, hu⟩ := hv
    split at hd
    · rename_i e ks xs hl
      cases io with
      | false => simp [handed] at hd
      | true =>
        simp only [hl, if_true] at hsh
        simp only [shapeL] at hsh
        obtain ⟨hsh, _⟩ := hsh
        split at hsh
        · rename_i e' js ys
          obtain ⟨_, hln, hwd⟩ := h.ens k _ hl
          have hlt := lookH_lt hl
          simp only [D2, D1] at hc
          refine ⟨k, .rows e' js ys, by simp [deep2H, hl, ids2], hlv, fun j hj => by simp [ioPut1, lookH_set, hj], by simp [ioPut1, lookH_set, hlen, hlt], ?_⟩
          exact ⟨by rw [← hu]; exact hc.1, by rw [hln, hsh.2], by rw [hwd, hsh.1]⟩
        · exact hsh.elim
    · simp [handed] at hd
    · simp [handed] at hd
    · simp [handed] at hd
  case box k x =>
    simp only [AVR] at hv
    obtain ⟨hlv, b, hb, hu⟩ := hv
    split at hd
    case isFalse => simp [handed] at hd
    rename_i hx
    split at hd
    case h_2 => simp [handed] at hd
    rename_i l hl
    split at hd
    case isFalse => simp [handed] at hd
    rename_i hpl
    simp only [hx, hl, hpl, if_true] at hsh
    simp only [shapeL] at hsh
    obtain ⟨hsh, _⟩ := hsh
    split at hsh
    · rename_i l'
      have hlt := lookH_lt hl
      simp only [D2] at hc
      obtain ⟨b', cur, T, e1, e2, e3, e4, e5, _⟩ := hc
      subst hx
      rw [hu] at e1
      simp only [Value.pointer.injEq, Option.some.injEq, Addr.mk.injEq, and_true] at e1
      subst e1
      refine ⟨k, .box l', by simp [deep2H, hl, hpl, ids2], hlv, fun j hj => by simp [ioPut1, lookH_set, hj], by simp [ioPut1, lookH_set, hlen, hlt], ?_⟩
      obtain ⟨_, _, _, _, _, _, _, hz0⟩ := h.ens k _ hl
      exact ⟨b, cur, T, hb, e2, e3, (D1s.plain e4 e5).1, hz0⟩
    · exact hsh.elim
  case cel k i x =>
    simp only [AVR] at hv
    obtain ⟨hlv, hi, b, hb, hu⟩ := hv
    split at hd
    case isFalse => simp [handed] at hd
    rename_i hx
    split at hd
    case isFalse => simp [handed] at hd
    rename_i hi0
    split at hd
    case h_2 => simp [handed] at hd
    rename_i ks xs hl
    simp only [hx, hi0, hl, if_true] at hsh
    simp only [shapeL] at hsh
    obtain ⟨hsh, _⟩ := hsh
    split at hsh
    · rename_i js ys
      have hlt := lookH_lt hl
      obtain ⟨b0, _, _, hb0, _, _, hln, hwd⟩ := h.ens k _ hl
      rw [hb0] at hb
      simp only [blk, Option.some.injEq] at hb
      subst hb
      simp only [D2] at hc
      obtain ⟨b', cur, T, e1, e2, e3, e4, _⟩ := hc
      subst hx; subst hi0
      rw [hu] at e1
      simp only [Value.pointer.injEq, Option.some.injEq, Addr.mk.injEq] at e1
      obtain ⟨rfl, _⟩ := e1
      refine ⟨k, .arr js ys, by simp [deep2H, hl, ids2], hlv, fun j hj => by simp [ioPut1, lookH_set, hj], by simp [ioPut1, lookH_set, hlen, hlt], ?_⟩
      exact ⟨b0, cur, T, hb0, e2, e3, by rw [hln, hsh.2], by rw [hwd, hsh.1]⟩
    · exact hsh.elim

theorem ids_none {v d : AV} (hd : handed d = false) : ids2 v d = [] := by
  unfold ids2
  split <;> simp_all [handed]
theorem ioPut1_none {hp hp0 : List (Option Entry)} {v : AV} {io : Bool} (hd : handed (deep2H hp io v) = false) : ioPut1 hp0 v (deep2H hp io v) = hp0 := by
  unfold ioPut1
  split <;> simp_all [handed]

theorem merge_cons (d : AV) (ds io : List AV) : ∃ c io', mergeIo (d :: ds) io = c :: mergeIo ds io' ∧ (handed d = false → c = d) := by
  simp only [mergeIo]
  split
  · rename_i hd
    split
    · exact ⟨_, _, rfl, fun e => by rw [hd] at e; cases e⟩
    · exact ⟨_, _, rfl, fun _ => rfl⟩
  · exact ⟨_, _, rfl, fun _ => rfl⟩

theorem shape_cons {d c : AV} {ds cs : List AV} (h : shapeL (d :: ds) (c :: cs)) : shapeL [d] [c] ∧ shapeL ds cs := by
  cases d <;> simp only [shapeL] at h ⊢ <;> first | exact ⟨trivial, h⟩ | exact ⟨⟨h.1, trivial⟩, h.2⟩

def D2h (ok : Nat → Prop) (w : World) : List AV → List Value → Prop
  | [], vs => vs = []
  | d :: l, vs => ∃ u us, vs = u :: us ∧ (handed d = true → ∃ B, D2 ok w d u B) ∧ D2h ok w l us
theorem D2s.toH {ok : Nat → Prop} {w : World} : ∀ {l : List AV} {vs : List Value} {B : List Nat}, D2s ok w l vs B → (∀ b, ok b → ok' b) → D2h ok' w l vs
  | [], vs, B, h, _ => by simp only [D2s] at h; simpa [D2h] using h.1
  | d :: l, vs, B, h, hm => by
    simp only [D2s] at h
    obtain ⟨u, us, B1, B2, e1, _, h1, h2⟩ := h
    exact ⟨u, us, e1, fun _ => ⟨B1, h1.mono hm⟩, h2.toH hm⟩
theorem D2s.toHfree {ok : Nat → Prop} {w : World} : ∀ {l : List AV} {vs : List Value} {B : List Nat}, D2s ok w l vs B → ioFree l = true → D2h ok' w l vs
  | [], vs, B, h, _ => by simp only [D2s] at h; simpa [D2h] using h.1
  | d :: l, vs, B, h, hf => by
    simp only [D2s] at h
    simp only [ioFree, Bool.and_eq_true] at hf
    obtain ⟨u, us, B1, B2, e1, _, h1, h2⟩ := h
    exact ⟨u, us, e1, fun hd => ⟨B1, h1.free (by have := hf.1; rw [hd] at this; simpa using this)⟩, h2.toHfree hf.2⟩

theorem shown2_live {v d : AV} {u : Value} {ok : Nat → Prop} (hv : AVR ok (live hp) w z v u) : ∀ k ∈ shown2 v d, live hp k := by
  have hL : ∀ {l : List AV} {vs : List Value}, AVRs ok (live hp) w z l vs → ∀ k ∈ shownL l, live hp k := by
    intro l
    induction l with
    | nil => intro vs _ k hk; simp [shownL] at hk
    | cons x l ih =>
      intro vs hv k hk
      simp only [AVRs] at hv
      obtain ⟨u, us, rfl, h1, h2⟩ := hv
      simp only [shownL, List.mem_append] at hk
      rcases hk with hk | hk
      · cases x <;> simp [shown1] at hk
        subst hk
        simp only [AVR] at h1
        exact h1.1
      · exact ih h2 k hk
  intro k hk
  unfold shown2 at hk
  split at hk
  · simp at hk
  · simp at hk; subst hk; simp only [AVR] at hv; exact hv.1
  · simp only [AVR] at hv; obtain ⟨vs, _, _, hv⟩ := hv; exact hL hv k hk
  · simp only [AVR] at hv; obtain ⟨vs, _, hv⟩ := hv; exact hL hv k hk
  · simp at hk
theorem shownL2_live : ∀ {l s : List AV} {vs : List Value} {ok : Nat → Prop}, AVRs ok (live hp) w z l vs → ∀ k ∈ shownL2 l s, live hp k
  | [], s, vs, ok, _, k, hk => by cases s <;> simp [shownL2] at hk
  | v :: l, [], vs, ok, _, k, hk => by simp [shownL2] at hk
  | v :: l, d :: s, vs, ok, hv, k, hk => by
    simp only [AVRs] at hv
    obtain ⟨u, us, rfl, h1, h2⟩ := hv
    simp only [shownL2, List.mem_append] at hk
    rcases hk with hk | hk
    · exact shown2_live h1 k hk
    · exact shownL2_live h2 k hk

theorem io_all {lv : Nat → Prop} (h : Rel X tm hp z a w) : ∀ (ios : List Bool) {l : List AV} {vs : List Value} {io : List AV} {hp0 : List (Option Entry)}, hp0.length = hp.length →
    AVRs (okB X hp z w) (live hp) w z l vs → shapeL (deepsH hp ios l) (mergeIo (deepsH hp ios l) io) → D2h ok' w' (mergeIo (deepsH hp ios l) io) vs → (idsL2 l (deepsH hp ios l)).Nodup →
    (∀ j, j ∉ idsL2 l (deepsH hp ios l) → lookH (ioPut hp0 l (mergeIo (deepsH hp ios l) io)) j = lookH hp0 j) ∧
    (∀ j ∈ idsL2 l (deepsH hp ios l), ∃ e, lookH (ioPut hp0 l (mergeIo (deepsH hp ios l) io)) j = some e ∧ EnR ok' lv w' z j e) := by
  intro ios l
  induction l generalizing ios with
  | nil =>
    intro vs io hp0 _ _ _ _ _
    cases ios <;> simp [deepsH, idsL2, mergeIo, ioPut]
  | cons v l ih =>
    intro vs io hp0 hlen hv hsh hc hn
    have step : ∀ (b : Bool) (ios' : List Bool), deepsH hp ios (v :: l) = deep2H hp b v :: deepsH hp ios' l →
        (∀ j, j ∉ idsL2 (v :: l) (deepsH hp ios (v :: l)) → lookH (ioPut hp0 (v :: l) (mergeIo (deepsH hp ios (v :: l)) io)) j = lookH hp0 j) ∧
        (∀ j ∈ idsL2 (v :: l) (deepsH hp ios (v :: l)), ∃ e, lookH (ioPut hp0 (v :: l) (mergeIo (deepsH hp ios (v :: l)) io)) j = some e ∧ EnR ok' lv w' z j e) := by
      intro b ios' hdp
      rw [hdp] at hsh hc hn ⊢
      obtain ⟨c, io', hm, hcd⟩ := merge_cons (deep2H hp b v) (deepsH hp ios' l) io
      rw [hm] at hsh hc ⊢
      simp only [AVRs] at hv
      obtain ⟨u, us, rfl, h1, h2⟩ := hv
      simp only [D2h] at hc
      obtain ⟨u', us', e1, c1, c2⟩ := hc
      simp only [List.cons.injEq] at e1
      obtain ⟨rfl, rfl⟩ := e1
      obtain ⟨sh1, sh2⟩ := shape_cons hsh
      simp only [idsL2] at hn ⊢
      simp only [ioPut]
      by_cases hd : handed (deep2H hp b v) = true
      · have hdc : handed c = true := by
          revert sh1 hd
          cases deep2H hp b v <;> simp [handed] <;> simp only [shapeL] <;> cases c <;> simp [handed]
        obtain ⟨B1, c1⟩ := c1 hdc
        obtain ⟨k, e, q1, q2, q3, q4, q5⟩ := io_one (lv := lv) h hlen h1 hd sh1 c1
        rw [q1] at hn ⊢
        simp only [List.singleton_append, List.nodup_cons] at hn
        obtain ⟨r1, r2⟩ := ih ios' (io := io') (hp0 := ioPut1 hp0 v c) (by rw [ioPut1_length, hlen]) h2 sh2 c2 hn.2
        refine ⟨fun j hj => ?_, fun j hj => ?_⟩
        · simp only [List.singleton_append, List.mem_cons, not_or] at hj
          rw [r1 j hj.2, q3 j hj.1]
        · simp only [List.singleton_append, List.mem_cons] at hj
          rcases hj with rfl | hj
          · exact ⟨e, by rw [r1 j hn.1]; exact q4, q5⟩
          · exact r2 j hj
      · have hd' : handed (deep2H hp b v) = false := by simpa using hd
        have := hcd hd'
        subst this
        rw [ids_none hd'] at hn ⊢
        rw [ioPut1_none hd']
        simpa using ih ios' (io := io') (hp0 := hp0) hlen h2 sh2 c2 (by simpa using hn)
    cases ios with
    | nil => exact step false [] rfl
    | cons b bs => exact step b bs rfl

theorem s_call (h : Rel X tm hp z a w) (f : Nat) (C : Ct) (hC : Sound P f C) (hct : Γ.ct f = some C) (args : List AV) (vs : List Value) (hargs : AVRs (okB X hp z w) (live hp) w z args vs)
    (hs : stepCall Γ tm hp f args o.dst K) (hrun : (execOp a.eval o).run P w = .ok (.enter f vs.toArray) w)
    (hd : ∀ d, o.dst = some d → d < n) (hn : a.tmps.size = n)
    (hN : ∀ σ z' a w', K σ → Rel X σ.tm σ.hp z' a w' → a.tmps.size = n → Stp (fun b => b ∈ bl z (idsL2 args (deepsH hp C.io args))) w w' → next a w') : o.wp P a w next Q := by
  unfold stepCall at hs
  rw [hct] at hs
  simp only at hs
  obtain ⟨⟨hnd, hap⟩, hrel⟩ := hs
  generalize hds : deepsH hp C.io args = ds at hnd hap hrel
  have hnd' := nodupN_iff hnd
  have hap' := apartN_iff hap
  have hlive : ∀ k ∈ idsL2 args ds, live hp k := idsL2_live hargs
  have hblv : ∀ b ∈ bl z (idsL2 args ds), ∃ k, live hp k ∧ k ∈ idsL2 args ds ∧ z.bk k b := fun b hb => by
    obtain ⟨k, hk, hb'⟩ := bl_mem hb; exact ⟨k, hlive k hk, hk, hb'⟩
  have hdeep := deeps_rel (V := fun b => okB X hp z w b ∨ ∃ k ∈ shownL2 args ds, live hp k ∧ z.bk k b) h (fun b hb => .inl hb) C.io hargs (fun k hk b hb => by
    rw [hds] at hk
    refine .inr ⟨k, hk, ?_, hb⟩
    exact shownL2_live hargs k hk)
  rw [hds] at hdeep
  have hgl : GlAt w (fun b => okB X hp z w b ∨ ∃ k ∈ shownL2 args ds, live hp k ∧ z.bk k b) (fun b => b ∈ bl z (idsL2 args ds)) := fun g ks xs hg => by
    obtain ⟨q1, q2⟩ := h.glok hg
    refine ⟨.inl q1, fun hm => ?_, q1.2.1, q2⟩
    obtain ⟨k, hk, _, hb'⟩ := hblv g hm
    exact q1.2.2 k hk hb'
  have hcall := hC _ w ds vs (bl z (idsL2 args ds)) _ hgl hdeep (bl_nodup h.dj (fun k hk => by obtain ⟨e, he⟩ := live_get hk; exact (h.ens k e he).nodup) hnd' hlive) (fun b hb => by
    rcases hb with hb | ⟨k, hk, hlk, hb⟩
    · exact ⟨hb.2.1, fun hm => by obtain ⟨k, hk, _, hb'⟩ := hblv b hm; exact hb.2.2 k hk hb'⟩
    · refine ⟨(h.own k b hlk hb).1, fun hm => ?_⟩
      obtain ⟨k', hk', hin, hb'⟩ := hblv b hm
      have := h.dj k' k b hk' hlk hb' hb
      subst this
      exact hap' k' hin hk) (fun b hb => by obtain ⟨k, hk, _, hb'⟩ := hblv b hb; exact (h.own k b hk hb').1) hrel
  unfold Oper.wp
  rw [hrun]
  show Calls P f vs.toArray w _
  refine hcall.mono ?_
  rintro e w' ⟨v, r, io, B', rfl, ⟨hvf, hsh, hK⟩, hr, hBn, hBf, hio, hst⟩
  rw [putH_eq] at hK
  -- what may be read behind the call
  let okf : Nat → Prop := fun b => (X.V b ∨ X.nw b) ∧ b < w'.heap.size ∧ (∀ k, live hp k → ¬ z.bk k b) ∧ b ∉ B'
  have hokf : ∀ b, okB X hp z w b → okf b := fun b hb => ⟨hb.1, Nat.lt_of_lt_of_le hb.2.1 hst.size, hb.2.2, fun hm => by have := (hBf b hm).1; have := hb.2.1; omega⟩
  have hm : shownL2 args ds = [] → ∀ b, (((okB X hp z w b ∨ ∃ k ∈ shownL2 args ds, live hp k ∧ z.bk k b) ∨ w.heap.size ≤ b) ∧ b < w'.heap.size ∧ b ∉ bl z (idsL2 args ds) ∧ b ∉ B') → okf b := by
    intro he b hb
    rcases hb.1 with (hb1 | ⟨k, hk, _⟩) | hb1
    · exact hokf b hb1
    · rw [he] at hk; simp at hk
    · exact ⟨.inr (.inl (Nat.le_trans h.size hb1)), hb.2.1, fun k hk e => by have := (h.own k b hk e).1; omega, hb.2.2.2⟩
  have hr' : D3 okf w' r v B' := by
    rcases hvf with he | ⟨hf, _⟩
    · exact hr.mono (hm he)
    · exact hr.free hf
  have hio' : D2h okf w' (mergeIo ds io) vs := by
    rcases hvf with he | ⟨_, hf⟩
    · exact hio.toH (hm he)
    · exact hio.toHfree hf
  -- the entries behind the call
  have hll := ioPut_length args (mergeIo ds io) hp
  have hall := fun lv => io_all (lv := lv) (ok' := okf) (w' := w') h C.io (hp0 := hp) (io := io) (by rfl) hargs (by rw [hds]; exact hsh) (by rw [hds]; exact hio') (by rw [hds]; exact hnd')
  rw [hds] at hall
  have hlv1 : ∀ k, live (ioPut hp args (mergeIo ds io)) k ↔ live hp k := by
    intro k
    by_cases hk : k ∈ idsL2 args ds
    · obtain ⟨e, he, _⟩ := (hall (fun _ => True)).2 k hk
      exact ⟨fun _ => hlive k hk, fun _ => live_of he⟩
    · unfold live; rw [(hall (fun _ => True)).1 k hk]
  have hblock : ∀ b, b < w.heap.size → b ∉ bl z (idsL2 args ds) → w'.heap[b]? = w.heap[b]? := fun b hb hn => hst.block b hb hn
  have hnotin : ∀ b, okB X hp z w b → b ∉ bl z (idsL2 args ds) := fun b hb hmm => by obtain ⟨k, hk, _, hb'⟩ := hblv b hmm; exact hb.2.2 k hk hb'
  have hcore : Core okf (ioPut hp args (mergeIo ds io)) z w' (fun b => ∃ k, live hp k ∧ z.bk k b) := by
    refine ⟨fun k e he => ?_, fun j k b hj hk => h.dj j k b ((hlv1 j).1 hj) ((hlv1 k).1 hk), fun k b hk hb => ⟨k, (hlv1 k).1 hk, hb⟩⟩
    by_cases hk : k ∈ idsL2 args ds
    · obtain ⟨e', he', hen⟩ := (hall (live (ioPut hp args (mergeIo ds io)))).2 k hk
      rw [he'] at he
      cases he
      exact hen
    · rw [(hall (fun _ => True)).1 k hk] at he
      refine (h.ens k e he).mono hokf (fun b hb => hblock b hb.2.1 (hnotin b hb)) (fun j hj => ⟨(hlv1 j).2 hj, rfl, rfl, rfl⟩) ⟨rfl, rfl, rfl⟩ (fun b hb => hblock b (h.own k b (live_of he) hb).1 (fun hmm => ?_))
      obtain ⟨k', hk', hin, hb'⟩ := hblv b hmm
      have := h.dj k' k b hk' (live_of he) hb' hb
      subst this
      exact hk hin
  obtain ⟨z2, hext, hc2, ha2⟩ := mat3_laid hcore hr' (fun b hb ⟨k, hk, hbk⟩ => by have := (hBf b hb).1; have := (h.own k b hk hbk).1; omega) hBn
  generalize hhp2 : (mat3 (ioPut hp args (mergeIo ds io)) r).2 = hp2 at hext hc2 ha2 hK
  generalize (mat3 (ioPut hp args (mergeIo ds io)) r).1 = ra at ha2 hK
  have hext' : ∀ k, live hp k → live hp2 k ∧ z2.ρ k = z.ρ k ∧ z2.len k = z.len k ∧ z2.wd k = z.wd k := fun k hk => hext.up k ((hlv1 k).2 hk)
  have hokB : ∀ b, okf b → okB X hp2 z2 w' b := fun b hb => ⟨hb.1, hb.2.1, fun k hk e => by
    rcases hc2.own k b hk e with ⟨j, hj, hjb⟩ | hm'
    · exact hb.2.2.1 j hj hjb
    · exact hb.2.2.2 hm'⟩
  have hown2 : ∀ k b, live hp2 k → z2.bk k b → (live hp k ∧ z.bk k b) ∨ (hp.length ≤ k ∧ b ∈ B') := by
    intro k b hk hb
    rcases Nat.lt_or_ge k hp.length with hlt | hge
    · have h1 := hext.down k (by rw [hll]; exact hlt)
      have h2 : live hp k := (hlv1 k).1 (by unfold live at hk ⊢; rw [← h1]; exact hk)
      exact .inl ⟨h2, (Cz.bk_congr (hext' k h2).2.1 (hext' k h2).2.2.2).1 hb⟩
    · rcases hc2.own k b hk hb with ⟨j, hj, hjb⟩ | hm'
      · have h1 := hext' j hj
        have := hc2.dj j k b h1.1 hk ((Cz.bk_congr h1.2.1 h1.2.2.2).2 hjb) hb
        subst this
        exact .inl ⟨hj, hjb⟩
      · exact .inr ⟨hge, hm'⟩
  have hR : Rel X tm hp2 z2 a w' := {
    tms := fun t => AVR.mono (fun b hb => hokB b (hokf b hb)) (fun b hb => hblock b hb.2.1 (hnotin b hb)) hext' _ _ (h.tms t)
    ens := fun k e he => (hc2.ens k e he).mono hokB (fun _ _ => rfl) (fun k hk => ⟨hk, rfl, rfl, rfl⟩) ⟨rfl, rfl, rfl⟩ (fun _ _ => rfl)
    dj := hc2.dj
    own := fun k b hk hb => by
      rcases hown2 k b hk hb with ⟨q1, q2⟩ | ⟨q1, q2⟩
      · exact ⟨Nat.lt_of_lt_of_le (h.own k b q1 q2).1 hst.size, (h.own k b q1 q2).2⟩
      · exact ⟨(hBf b q2).2, fun q => by have := h.mm; omega, fun _ => .inl (Nat.le_trans h.size (hBf b q2).1)⟩
    io := fun k hk hlk => by
      have h1 := hext.down k (by rw [hll]; exact Nat.lt_of_lt_of_le hk h.mm)
      have h2 : live hp k := (hlv1 k).1 (by unfold live at hlk ⊢; rw [← h1]; exact hlk)
      rw [(hext' k h2).2.1]; exact h.io k hk h2
    mm := Nat.le_trans h.mm (by rw [← hll]; exact hext.len)
    fr := fun b hb hi => by
      refine (hblock b (Nat.lt_of_lt_of_le hb h.size) (fun hmm => ?_)).trans (h.fr b hb hi)
      obtain ⟨k, hk, _, hbk⟩ := hblv b hmm
      rcases Nat.lt_or_ge k X.m with q | q
      · exact hi ((h.own k b hk hbk).2.1 q)
      · rcases (h.own k b hk hbk).2.2 q with q | q
        · omega
        · exact hi (X.gi b q)
    os := hst.os.trans h.os
    tape := hst.tape.trans h.tape
    output := hst.output.trans h.output
    size := Nat.le_trans h.size hst.size
    df := h.df }
  show next _ _
  refine hN ⟨putT tm o.dst ra, hp2⟩ z2 _ _ hK ?_ (by rw [size_put]; exact hn) (by rw [hds]; exact hst)
  exact hR.put o.dst (fun d e => by rw [hn]; exact hd d e) (AVR.mono hokB (fun _ _ => rfl) (fun k hk => ⟨hk, rfl, rfl, rfl⟩) _ _ ha2)
end

end Go.Proofs.Ytkjbgdhpeidocaa.V
