/-
  A verified generator of verification conditions over the model's Code, part P: a call met by its contract.
-/
import Derived.Test.YtkjbgdhpeidocaaVcO
set_option linter.unusedSimpArgs false
set_option linter.unusedVariables false
namespace Go.Proofs.Ytkjbgdhpeidocaa.V
open Go Go.RowKit

/-- A callee does what its contract says. -/
def Sound (P : Program) (f : Nat) (C : Ct) : Prop :=
  ∀ (V : Nat → Prop) (w : World) (ds : List AV) (vs : List Value) (B : List Nat) (K : AV → List AV → Prop), GlAt w V (fun b => b ∈ B) → D2s V w ds vs B → B.Nodup →
    (∀ b, V b → b < w.heap.size ∧ b ∉ B) → (∀ b ∈ B, b < w.heap.size) → C.rel ds K →
    Calls P f vs.toArray w fun e w' => ∃ v r io B', e = .returned v ∧ K r io ∧
      D3 (fun b => (V b ∨ w.heap.size ≤ b) ∧ b < w'.heap.size ∧ b ∉ B ∧ b ∉ B') w' r v B' ∧ B'.Nodup ∧ (∀ b ∈ B', w.heap.size ≤ b ∧ b < w'.heap.size) ∧
      D2s (fun b => (V b ∨ w.heap.size ≤ b) ∧ b < w'.heap.size ∧ b ∉ B ∧ b ∉ B') w' (mergeIo ds io) vs B ∧ Stp (fun b => b ∈ B) w w'

section
variable {ok ok' : Nat → Prop} {w : World}
theorem D1.mono {d : AV} {v : Value} {B : List Nat} (h : D1 ok w d v B) (hm : ∀ b, ok b → ok' b) : D1 ok' w d v B := by
  cases d <;> simp only [D1] at h ⊢
  case view ks xs => exact ⟨h.1.mono hm (fun _ _ => rfl), h.2⟩
  case vv ks xss => exact ⟨h.1.mono hm (fun _ _ => rfl), h.2⟩
  case vcel ks xs i c =>
    obtain ⟨⟨h1, b, o, h2, h3, h4⟩, h5⟩ := h
    exact ⟨⟨h1, b, o, hm b h2, h3, h4⟩, h5⟩
  all_goals exact h
theorem D1s.mono (hm : ∀ b, ok b → ok' b) : ∀ {l : List AV} {vs : List Value} {B : List Nat}, D1s ok w l vs B → D1s ok' w l vs B
  | [], _, _, h => by simpa only [D1s] using h
  | d :: l, vs, B, h => by
    simp only [D1s] at h ⊢
    obtain ⟨u, us, B1, B2, e1, e2, h1, h2⟩ := h
    exact ⟨u, us, B1, B2, e1, e2, h1.mono hm, h2.mono hm⟩
theorem D2.mono {d : AV} {v : Value} {B : List Nat} (h : D2 ok w d v B) (hm : ∀ b, ok b → ok' b) : D2 ok' w d v B := by
  cases d
  case bx l =>
    simp only [D2] at h ⊢
    obtain ⟨b, cur, T, a1, a2, a3, a4, a5⟩ := h
    exact ⟨b, cur, T, a1, a2, a3, a4.mono hm, a5⟩
  case agg l =>
    simp only [D2] at h ⊢
    obtain ⟨vs, a1, a2, a3⟩ := h
    exact ⟨vs, a1, a2, a3.mono hm⟩
  case fn f l =>
    simp only [D2] at h ⊢
    obtain ⟨vs, a1, a3⟩ := h
    exact ⟨vs, a1, a3.mono hm⟩
  case pa => simpa only [D2] using h
  case arr => simpa only [D2] using h
  all_goals (simp only [D2] at h ⊢; exact h.mono hm)
theorem D2s.mono (hm : ∀ b, ok b → ok' b) : ∀ {l : List AV} {vs : List Value} {B : List Nat}, D2s ok w l vs B → D2s ok' w l vs B
  | [], _, _, h => by simpa only [D2s] using h
  | d :: l, vs, B, h => by
    simp only [D2s] at h ⊢
    obtain ⟨u, us, B1, B2, e1, e2, h1, h2⟩ := h
    exact ⟨u, us, B1, B2, e1, e2, h1.mono hm, h2.mono hm⟩
theorem D3.mono {d : AV} {v : Value} {B : List Nat} (h : D3 ok w d v B) (hm : ∀ b, ok b → ok' b) : D3 ok' w d v B := by
  cases d
  case tup l =>
    simp only [D3] at h ⊢
    obtain ⟨vs, a1, a2⟩ := h
    exact ⟨vs, a1, a2.mono hm⟩
  all_goals (simp only [D3] at h ⊢; exact h.mono hm)
theorem D1.free {d : AV} {v : Value} {B : List Nat} (h : D1 ok w d v B) (hf : ∀ ks xs, d ≠ .view ks xs) (hf2 : ∀ ks xs i c, d ≠ .vcel ks xs i c) (hf3 : ∀ ks xss, d ≠ .vv ks xss) : D1 ok' w d v B := by
  cases d <;> simp only [D1] at h ⊢
  case view ks xs => exact absurd rfl (hf ks xs)
  case vcel ks xs i c => exact absurd rfl (hf2 ks xs i c)
  case vv ks xss => exact absurd rfl (hf3 ks xss)
  all_goals exact h
theorem D1s.free : ∀ {l : List AV} {vs : List Value} {B : List Nat}, D1s ok w l vs B → viewFreeL l = true → D1s ok' w l vs B
  | [], _, _, h, _ => by simpa only [D1s] using h
  | d :: l, vs, B, h, hf => by
    simp only [D1s] at h ⊢
    have hf2 : viewFreeL l = true ∧ (∀ ks xs, d ≠ .view ks xs) ∧ (∀ ks xs i c, d ≠ .vcel ks xs i c) ∧ ∀ ks xss, d ≠ .vv ks xss := by cases d <;> simp_all [viewFreeL]
    obtain ⟨u, us, B1, B2, e1, e2, h1, h2⟩ := h
    exact ⟨u, us, B1, B2, e1, e2, h1.free hf2.2.1 hf2.2.2.1 hf2.2.2.2, h2.free hf2.1⟩
theorem D2.free {d : AV} {v : Value} {B : List Nat} (h : D2 ok w d v B) (hf : viewFree2 d = true) : D2 ok' w d v B := by
  cases d
  case bx l =>
    simp only [D2] at h ⊢
    obtain ⟨b, cur, T, a1, a2, a3, a4, a5⟩ := h
    exact ⟨b, cur, T, a1, a2, a3, a4.free (by simpa [viewFree2] using hf), a5⟩
  case agg l =>
    simp only [D2] at h ⊢
    obtain ⟨vs, a1, a2, a3⟩ := h
    exact ⟨vs, a1, a2, a3.free (by simpa [viewFree2] using hf)⟩
  case fn f l =>
    simp only [D2] at h ⊢
    obtain ⟨vs, a1, a3⟩ := h
    exact ⟨vs, a1, a3.free (by simpa [viewFree2] using hf)⟩
  case pa => simpa only [D2] using h
  case arr => simpa only [D2] using h
  case view => simp [viewFree2] at hf
  case vcel => simp [viewFree2] at hf
  case vv => simp [viewFree2] at hf
  all_goals (simp only [D2] at h ⊢; exact h.free (by intro _ _ e; cases e) (by intro _ _ _ _ e; cases e) (by intro _ _ e; cases e))
theorem D2s.free : ∀ {l : List AV} {vs : List Value} {B : List Nat}, D2s ok w l vs B → viewFreeL2 l = true → D2s ok' w l vs B
  | [], _, _, h, _ => by simpa only [D2s] using h
  | d :: l, vs, B, h, hf => by
    simp only [D2s] at h ⊢
    simp only [viewFreeL2, Bool.and_eq_true] at hf
    obtain ⟨u, us, B1, B2, e1, e2, h1, h2⟩ := h
    exact ⟨u, us, B1, B2, e1, e2, h1.free hf.1, h2.free hf.2⟩
theorem D3.free {d : AV} {v : Value} {B : List Nat} (h : D3 ok w d v B) (hf : viewFree d = true) : D3 ok' w d v B := by
  cases d
  case tup l =>
    simp only [D3] at h ⊢
    obtain ⟨vs, a1, a2⟩ := h
    exact ⟨vs, a1, a2.free (by simpa [viewFree] using hf)⟩
  all_goals (simp only [D3] at h ⊢; exact h.free (by simpa [viewFree] using hf))
end

def bl (z : Cz) (ks : List Nat) : List Nat := ks.flatMap fun k => z.bs k

section
variable {P : Program} {Γ : Cx} {X : Fx} {tm : List (Nat × AV)} {hp : List (Option Entry)} {z : Cz} {a : Act} {w w' : World} {n : Nat}
  {K : St → Prop} {next : Act → World → Prop} {Q : Exit → Act → World → Prop} {o : Oper} {V : Nat → Prop}

theorem Inns.cells {ok : Nat → Prop} {w : World} {f : Nat} {ks : List Kd} {xss : List (List Row)} {vs : List Value} (hi : Inns w f ks xss vs) (hok : ∀ v ∈ vs, ∀ b, blk v = some b → ok b) (i : Nat) (h : i < xss.length) :
    ∃ u, vs[i]? = some u ∧ ViewR ok w ks (xss.getD i []) u := by
  obtain ⟨u, h1, h2⟩ := hi.get i h
  exact ⟨u, h1, own_view (m := 0) h2 (fun b hb => hok u (List.mem_of_getElem? h1) b hb) rfl⟩
/-- Slices of slices of our own read as ones that are only read. -/
theorem nest_view {ok : Nat → Prop} {e m : Nat} {v : Value} {ks : List Kd} {xss : List (List Row)} {vs : List Value} (h : w.ownsRow 0 e 1 v m vs) (hm : m = xss.length) (hok : ∀ b, blk v = some b → ok b)
    (hv : ∀ i, i < xss.length → ∃ u, vs[i]? = some u ∧ ViewR ok w ks (xss.getD i []) u) : NestR ok w ks xss v := by
  subst hm
  rcases h.2 with ⟨rfl, h0⟩ | ⟨g, cap, cur, rfl, _, hg, hnc, _⟩
  · exact ⟨none, 0, by rw [h0], by omega, .inl (List.length_eq_zero_iff.1 h0)⟩
  · refine ⟨some ⟨g, 0, none⟩, cap, rfl, hnc, .inr ⟨g, 0, rfl, hok g rfl, fun i hi => ?_⟩⟩
    obtain ⟨u, h1, h2⟩ := hv i hi
    have := h.cells (g := g) rfl i u h1
    rw [Addr.add_lit] at this
    exact ⟨u, this, h2⟩
/-- An entry that holds slices, read as a slice of slices that is only read. -/
theorem nest_rel (h : Rel X tm hp z a w) {ok : Nat → Prop} {k e f : Nat} {ks : List Kd} {xss : List (List Row)} (hl : lookH hp k = some (.nest e f ks xss)) (hok : ∀ b, z.bk k b → ok b) : NestR ok w ks xss (z.ρ k) := by
  obtain ⟨vs, ho, _, hwd, hi, _⟩ := h.ens k _ hl
  exact nest_view ho rfl (fun b hb => hok b (.inl hb)) (hi.cells (fun v hv b hb => hok b (.inr ⟨v, by rw [hwd]; exact hv, hb⟩)))
theorem vnest_rel (h : Rel X tm hp z a w) {ok : Nat → Prop} {k e : Nat} {ks : List Kd} {xss : List (List Row)} (hl : lookH hp k = some (.vnest e ks xss)) (hok : ∀ b, z.bk k b → ok b) (hV : ∀ b, okB X hp z w b → ok b) : NestR ok w ks xss (z.ρ k) := by
  obtain ⟨vs, ho, _, hwd, hi⟩ := h.ens k _ hl
  refine nest_view ho rfl (fun b hb => hok b (.inl hb)) (fun i hi' => ?_)
  obtain ⟨u, h1, h2⟩ := hi i hi'
  exact ⟨u, h1, h2.mono hV (fun _ _ => rfl)⟩

theorem deep1_rel (h : Rel X tm hp z a w) (hV : ∀ b, okB X hp z w b → V b) {v : AV} {u : Value} (hv : AVR (okB X hp z w) (live hp) w z v u)
    (hs : ∀ k ∈ shown1 v, ∀ b, z.bk k b → V b) : D1 V w (deep1H hp v) u [] := by
  cases v <;> simp only [deep1H] <;> (try (simp only [D1]; done))
  case int => simpa [D1, AVR] using hv
  case bool => simpa [D1, AVR] using hv
  case str => simpa [D1, AVR] using hv
  case nil ks => simp only [AVR] at hv; simp only [D1]; exact ⟨⟨none, 0, by simp [hv], by simp, .inl rfl⟩, trivial⟩
  case view ks xs => simp only [AVR] at hv; simp only [D1]; exact ⟨hv.mono hV (fun _ _ => rfl), trivial⟩
  case vcel ks xs i c =>
    simp only [AVR] at hv
    obtain ⟨h1, b, o, h2, h3, h4⟩ := hv
    simp only [D1]
    exact ⟨⟨h1, b, o, hV b h2, h3, h4⟩, trivial⟩
  case own k =>
    simp only [AVR] at hv
    split
    · rename_i e ks xs hl
      obtain ⟨ho, _⟩ := h.ens k _ hl
      simp only [D1]
      rw [hv.2]
      exact ⟨own_view (m := 0) ho (fun b q => hs k (by simp [shown1]) b (.inl q)) rfl, trivial⟩
    · rename_i e f ks xss hl
      simp only [D1]
      rw [hv.2]
      exact ⟨nest_rel h hl (fun b q => hs k (by simp [shown1]) b q), trivial⟩
    · rename_i e ks xss hl
      simp only [D1]
      rw [hv.2]
      exact ⟨vnest_rel h hl (fun b q => hs k (by simp [shown1]) b q) hV, trivial⟩
    · simp only [D1]
  case vv ks xss => simp only [AVR] at hv; simp only [D1]; exact ⟨hv.mono hV (fun _ _ => rfl), trivial⟩
theorem deepL_rel (h : Rel X tm hp z a w) (hV : ∀ b, okB X hp z w b → V b) : ∀ {l : List AV} {vs : List Value}, AVRs (okB X hp z w) (live hp) w z l vs →
    (∀ k ∈ shownL l, ∀ b, z.bk k b → V b) → D1s V w (deepLH hp l) vs []
  | [], vs, hv, _ => by simp only [AVRs] at hv; simp [deepLH, D1s, hv]
  | v :: l, vs, hv, hs => by
    simp only [AVRs] at hv
    obtain ⟨u, us, rfl, h1, h2⟩ := hv
    simp only [deepLH, D1s]
    exact ⟨u, us, [], [], rfl, rfl, deep1_rel h hV h1 (fun k hk => hs k (by simp [shownL, hk])), deepL_rel h hV h2 (fun k hk => hs k (by simp [shownL, hk]))⟩
theorem plainL_shown : ∀ {l : List AV}, plainL l = true → shownL l = []
  | [], _ => rfl
  | v :: l, h => by
    have h2 : plainL l = true := by cases v <;> simp_all [plainL]
    rw [shownL, plainL_shown h2]
    cases v <;> simp_all [plainL, shown1]
theorem deepL_views : ∀ (l : List AV), out2.viewsL (deepLH hp l) = true
  | [] => rfl
  | v :: l => by
    have ih := deepL_views l
    simp only [deepLH]
    cases v <;> simp only [deep1H] <;> (try (simpa only [out2.viewsL] using ih))
    split <;> simpa only [out2.viewsL] using ih

theorem deep2_rel (h : Rel X tm hp z a w) (hV : ∀ b, okB X hp z w b → V b) (io : Bool) {v : AV} {u : Value} (hv : AVR (okB X hp z w) (live hp) w z v u)
    (hs : ∀ k ∈ shown2 v (deep2H hp io v), ∀ b, z.bk k b → V b) : D2 V w (deep2H hp io v) u (bl z (ids2 v (deep2H hp io v))) := by
  have top : ∀ u : Value, D2 V w .top u (bl z (ids2 v .top)) := fun u => by simp [D2, D1, ids2, bl]
  cases v
  case box k c =>
    simp only [deep2H] at hs ⊢
    split
    case isFalse => exact top u
    rename_i hc
    split
    case h_2 => exact top u
    rename_i l hl
    split
    case isFalse => exact top u
    rename_i hpl
    subst hc
    simp only [AVR] at hv
    obtain ⟨_, b, hb, rfl⟩ := hv
    obtain ⟨b', cur, T, hb', hh, hone, ha, hz0⟩ := h.ens k _ hl
    rw [hb] at hb'
    simp only [Value.pointer.injEq, Option.some.injEq, Addr.mk.injEq, and_true] at hb'
    subst hb'
    simp only [D2]
    exact ⟨b, cur, T, rfl, hh, hone, deepL_rel h hV ha (by rw [plainL_shown hpl]; simp), deepL_views l, by simp [ids2, bl, Cz.bs_nil hz0, hb, blk]⟩
  case cel k i c =>
    simp only [deep2H] at hs ⊢
    split
    case isFalse => exact top u
    rename_i hc
    split
    case isFalse => exact top u
    rename_i hi
    split
    case h_2 => exact top u
    rename_i ks xs hl
    subst hc; subst hi
    simp only [AVR] at hv
    obtain ⟨_, hlt, b, hb, rfl⟩ := hv
    obtain ⟨b', cur, T, hb', hh, hc, hln, hwd⟩ := h.ens k _ hl
    rw [hb'] at hb
    simp only [blk, Option.some.injEq] at hb
    subst hb
    simp only [D2]
    exact ⟨b', cur, T, by simp, hh, hc, by rw [← hln]; exact hlt, by simp [ids2, bl, Cz.bs_one hwd, hb', blk]⟩
  case agg l =>
    simp only [deep2H] at hs ⊢
    simp only [AVR] at hv
    obtain ⟨vs, rfl, hone, ha⟩ := hv
    simp only [D2, ids2, bl, List.flatMap_nil]
    exact ⟨vs, rfl, hone, deepL_rel h hV ha (fun k hk => hs k (by simpa [shown2] using hk))⟩
  case fn f l =>
    simp only [deep2H] at hs ⊢
    simp only [AVR] at hv
    obtain ⟨vs, rfl, ha⟩ := hv
    simp only [D2, ids2, bl, List.flatMap_nil]
    exact ⟨vs, rfl, deepL_rel h hV ha (fun k hk => hs k (by simpa [shown2] using hk))⟩
  case arr ks xs => simp only [deep2H, AVR] at hv ⊢; simp [D2, hv, ids2, bl]
  case own k =>
    simp only [deep2H] at hs ⊢
    simp only [AVR] at hv
    split
    · rename_i e ks xs hl
      obtain ⟨ho, _, hwd⟩ := h.ens k _ hl
      split
      · simp only [D2, D1, ids2, bl]
        rw [hv.2]
        exact ⟨ho, by simp [Cz.bs_one hwd]⟩
      · rename_i hio
        simp only [D2, D1, ids2, bl, List.flatMap_nil]
        rw [hv.2]
        refine ⟨own_view (m := 0) ho (fun b q => hs k ?_ b (.inl q)) rfl, trivial⟩
        simp [hl, hio, shown2]
    · rename_i e f ks xss hl
      simp only [D2, D1, ids2, bl, List.flatMap_nil]
      rw [hv.2]
      exact ⟨nest_rel h hl (fun b q => hs k (by simp [hl, shown2]) b q), trivial⟩
    · rename_i e ks xss hl
      simp only [D2, D1, ids2, bl, List.flatMap_nil]
      rw [hv.2]
      exact ⟨vnest_rel h hl (fun b q => hs k (by simp [hl, shown2]) b q) hV, trivial⟩
    · exact top u
  all_goals
    simp only [deep2H] at hs ⊢
    have := deep1_rel h hV hv (by simp [shown1])
    simp only [deep1H] at this ⊢
    simpa [D2, ids2, bl] using this

theorem deeps_rel (h : Rel X tm hp z a w) (hV : ∀ b, okB X hp z w b → V b) : ∀ (ios : List Bool) {l : List AV} {vs : List Value}, AVRs (okB X hp z w) (live hp) w z l vs →
    (∀ k ∈ shownL2 l (deepsH hp ios l), ∀ b, z.bk k b → V b) → D2s V w (deepsH hp ios l) vs (bl z (idsL2 l (deepsH hp ios l)))
  | ios, [], vs, hv, _ => by simp only [AVRs] at hv; cases ios <;> simp [deepsH, D2s, hv, idsL2, bl]
  | [], v :: l, vs, hv, hs => by
    simp only [AVRs] at hv
    obtain ⟨u, us, rfl, h1, h2⟩ := hv
    simp only [deepsH, D2s, idsL2]
    exact ⟨u, us, _, _, rfl, by simp [bl], deep2_rel h hV false h1 (fun k hk => hs k (by simp [deepsH, shownL2, hk])), deeps_rel h hV [] h2 (fun k hk => hs k (by simp [deepsH, shownL2, hk]))⟩
  | b :: ios, v :: l, vs, hv, hs => by
    simp only [AVRs] at hv
    obtain ⟨u, us, rfl, h1, h2⟩ := hv
    simp only [deepsH, D2s, idsL2]
    exact ⟨u, us, _, _, rfl, by simp [bl], deep2_rel h hV b h1 (fun k hk => hs k (by simp [deepsH, shownL2, hk])), deeps_rel h hV ios h2 (fun k hk => hs k (by simp [deepsH, shownL2, hk]))⟩

theorem ids2_live {v d : AV} {u : Value} {ok : Nat → Prop} (hv : AVR ok (live hp) w z v u) : ∀ k ∈ ids2 v d, live hp k := by
  intro k hk
  unfold ids2 at hk
  split at hk <;> simp at hk <;> subst hk <;> simp only [AVR] at hv <;> exact hv.1
theorem idsL2_live : ∀ {l s : List AV} {vs : List Value} {ok : Nat → Prop}, AVRs ok (live hp) w z l vs → ∀ k ∈ idsL2 l s, live hp k
  | [], s, vs, ok, _, k, hk => by cases s <;> simp [idsL2] at hk
  | v :: l, [], vs, ok, _, k, hk => by simp [idsL2] at hk
  | v :: l, d :: s, vs, ok, hv, k, hk => by
    simp only [AVRs] at hv
    obtain ⟨u, us, rfl, h1, h2⟩ := hv
    simp only [idsL2, List.mem_append] at hk
    rcases hk with hk | hk
    · exact ids2_live h1 k hk
    · exact idsL2_live h2 k hk

theorem mem_memN {a : Nat} : ∀ {l : List Nat}, a ∈ l → memN a l = true
  | [], h => by simp at h
  | x :: l, h => by
    simp only [List.mem_cons] at h
    simp only [memN, Bool.or_eq_true, beq_iff_eq]
    rcases h with rfl | h
    · exact .inl rfl
    · exact .inr (mem_memN h)
theorem nodupN_iff : ∀ {l : List Nat}, nodupN l = true → l.Nodup
  | [], _ => List.nodup_nil
  | a :: r, h => by
    simp only [nodupN, Bool.and_eq_true, Bool.not_eq_true'] at h
    refine List.nodup_cons.2 ⟨fun hm => ?_, nodupN_iff h.2⟩
    rw [mem_memN hm] at h
    simp at h
theorem apartN_iff : ∀ {l m : List Nat}, apartN l m = true → ∀ k ∈ l, k ∉ m
  | [], m, _, k, hk => by simp at hk
  | a :: r, m, h, k, hk => by
    simp only [apartN, Bool.and_eq_true, Bool.not_eq_true'] at h
    simp only [List.mem_cons] at hk
    rcases hk with rfl | hk
    · intro hm
      rw [mem_memN hm] at h
      simp at h
    · exact apartN_iff h.2 k hk
theorem bl_nodup (hdj : ∀ j k b, live hp j → live hp k → z.bk j b → z.bk k b → j = k) (hnd : ∀ k, live hp k → (z.bs k).Nodup) : ∀ {l : List Nat}, l.Nodup → (∀ k ∈ l, live hp k) → (bl z l).Nodup
  | [], _, _ => by simp [bl]
  | a :: r, hn, hl => by
    rw [List.nodup_cons] at hn
    simp only [bl, List.flatMap_cons]
    rw [List.nodup_append]
    refine ⟨hnd a (hl a (by simp)), bl_nodup hdj hnd hn.2 (fun k hk => hl k (by simp [hk])), fun b hb c hc e => ?_⟩
    subst e
    rw [Cz.mem_bs] at hb
    obtain ⟨k, hk, hkb⟩ := List.mem_flatMap.1 hc
    rw [Cz.mem_bs] at hkb
    have := hdj a k b (hl a (by simp)) (hl k (by simp [hk])) hb hkb
    subst this
    exact hn.1 hk
theorem bl_mem {l : List Nat} {b : Nat} (h : b ∈ bl z l) : ∃ k ∈ l, z.bk k b := by
  obtain ⟨k, hk, hb⟩ := List.mem_flatMap.1 h
  exact ⟨k, hk, Cz.mem_bs.1 hb⟩
end

end Go.Proofs.Ytkjbgdhpeidocaa.V
