/-
  A verified generator of verification conditions over the model's Code, part W: a function does what its contract says.
-/
import Derived.Test.YtkjbgdhpeidocaaVcU
set_option linter.unusedSimpArgs false
set_option linter.unusedVariables false
namespace Go.Proofs.Ytkjbgdhpeidocaa.V
open Go Go.RowKit

section
variable {P : Program} {Γ : Cx} {X : Fx} {tm : List (Nat × AV)} {hp : List (Option Entry)} {z : Cz} {a : Act} {w w' : World} {n : Nat} {ok : Nat → Prop}

theorem out1_rel (h : Rel X tm hp z a w) {m : Nat} (hmm : ∀ k b, m ≤ k → live hp k → z.bk k b → ok b ∨ b ∈ ([] : List Nat) ∨ True) (hok : ∀ b, okB X hp z w b → ok b) {v r : AV} {u : Value}
    (hsh : ∀ k ∈ oshown1 v r, ∀ b, live hp k → z.bk k b → ok b) (hv : AVR (okB X hp z w) (live hp) w z v u) (ho : out1 m hp v r) : D1 ok w r u (bl z (oids1 v r)) := by
  cases r <;> simp only [out1] at ho <;> (try (exact ho.elim))
  case top => cases v <;> simp [D1, oids1, bl]
  case int k x => cases v <;> simp at ho; obtain ⟨rfl, rfl⟩ := ho; simpa [D1, oids1, bl, AVR] using hv
  case bool x => cases v <;> simp at ho; subst ho; simpa [D1, oids1, bl, AVR] using hv
  case str x => cases v <;> simp at ho; subst ho; simpa [D1, oids1, bl, AVR] using hv
  case view ks xs =>
    cases v <;> simp at ho
    case view js ys => obtain ⟨rfl, rfl⟩ := ho; simp only [AVR] at hv; simp only [D1, oids1, bl, List.flatMap_nil]; exact ⟨hv.mono hok (fun _ _ => rfl), trivial⟩
    case nil js => subst ho; simp only [AVR] at hv; simp only [D1, oids1, bl, List.flatMap_nil]; exact ⟨⟨none, 0, by simp [hv], by simp, .inl rfl⟩, trivial⟩
    case own k =>
      split at ho
      · rename_i e js ys hl
        obtain ⟨_, rfl, rfl⟩ := ho
        simp only [AVR] at hv
        obtain ⟨hlv, rfl⟩ := hv
        simp only [D1, oids1, bl, List.flatMap_nil]
        exact ⟨own_view (m := 0) (h.ens k _ hl).1 (fun b hb => hsh k (by simp [oshown1]) b hlv (.inl hb)) rfl, trivial⟩
      · exact ho.elim
  case fr e ks xs =>
    cases v <;> simp at ho
    case own k =>
      split at ho
      · rename_i f js ys hl
        obtain ⟨_, rfl, rfl, rfl⟩ := ho
        simp only [AVR] at hv
        obtain ⟨hlv, rfl⟩ := hv
        simp only [D1, oids1, bl]
        exact ⟨(h.ens k _ hl).1, by simp [Cz.bs_one (h.ens k _ hl).2.2]⟩
      · exact ho.elim
    case nil js =>
      subst ho
      simp only [AVR] at hv
      subst hv
      simp only [D1, oids1, bl, List.flatMap_nil]
      exact ⟨World.ownsRow_nil w 0 e (lenK ks), by simp [blk]⟩
  case vv ks xss =>
    cases v <;> simp at ho
    case vv js yss => obtain ⟨rfl, rfl⟩ := ho; simp only [AVR] at hv; simp only [D1, oids1, bl, List.flatMap_nil]; exact ⟨hv.mono hok (fun _ _ => rfl), trivial⟩
    case nil js => subst ho; simp only [AVR] at hv; simp only [D1, oids1, bl, List.flatMap_nil]; exact ⟨⟨none, 0, by simp [hv], by simp, .inl rfl⟩, trivial⟩
    case own k =>
      split at ho
      · rename_i e f js yss hl
        obtain ⟨_, rfl, rfl⟩ := ho
        simp only [AVR] at hv
        obtain ⟨hlv, rfl⟩ := hv
        simp only [D1, oids1, bl, List.flatMap_nil]
        exact ⟨nest_rel h hl (fun b hb => hsh k (by simp [oshown1]) b hlv hb), trivial⟩
      · rename_i e js yss hl
        obtain ⟨_, rfl, rfl⟩ := ho
        simp only [AVR] at hv
        obtain ⟨hlv, rfl⟩ := hv
        simp only [D1, oids1, bl, List.flatMap_nil]
        exact ⟨vnest_rel h hl (fun b hb => hsh k (by simp [oshown1]) b hlv hb) hok, trivial⟩
      · exact ho.elim
  case frn e f ks xss =>
    cases v <;> simp at ho
    case own k =>
      split at ho
      · rename_i e' f' js yss hl
        obtain ⟨_, rfl, rfl, rfl, rfl⟩ := ho
        simp only [AVR] at hv
        obtain ⟨hlv, rfl⟩ := hv
        obtain ⟨vs, q1, _, q3, q4, q5⟩ := h.ens k _ hl
        simp only [D1, oids1, bl]
        exact ⟨vs, q1, q4, by simp [Cz.bs, q3], by simpa using q5⟩
      · exact ho.elim
    case nil js =>
      subst ho
      simp only [AVR] at hv
      subst hv
      simp only [D1, oids1, bl, List.flatMap_nil]
      exact ⟨[], World.ownsRow_nil w 0 e 1, by simp [Inns], by simp [blk], List.nodup_nil⟩

theorem outL_rel (h : Rel X tm hp z a w) {m : Nat} (hok : ∀ b, okB X hp z w b → ok b) : ∀ {l s : List AV} {us : List Value}, (∀ k ∈ oshownL l s, ∀ b, live hp k → z.bk k b → ok b) →
    AVRs (okB X hp z w) (live hp) w z l us → outL m hp l s → D1s ok w s us (bl z (oidsL l s))
  | [], [], us, _, hv, _ => by simp only [AVRs] at hv; simp [D1s, hv, oidsL, bl]
  | v :: l, r :: s, us, hsh, hv, ho => by
    simp only [outL] at ho
    simp only [AVRs] at hv
    obtain ⟨u, us', rfl, h1, h2⟩ := hv
    simp only [D1s, oidsL]
    exact ⟨u, us', _, _, rfl, by simp [bl], out1_rel h (fun _ _ _ _ _ => .inr (.inr trivial)) hok (fun k hk => hsh k (by simp [oshownL, hk])) h1 ho.1, outL_rel h hok (fun k hk => hsh k (by simp [oshownL, hk])) h2 ho.2⟩
  | [], _ :: _, _, _, _, ho => by simp [outL] at ho
  | _ :: _, [], _, _, _, ho => by simp [outL] at ho

theorem plain_oshown : ∀ {l s : List AV}, plainL l = true → oshownL l s = []
  | [], s, _ => by cases s <;> rfl
  | v :: l, [], _ => rfl
  | v :: l, r :: s, h => by
    have h2 : plainL l = true := by cases v <;> simp_all [plainL]
    rw [oshownL, plain_oshown h2]
    cases r <;> cases v <;> simp_all [plainL, oshown1]
theorem plain_oids : ∀ {l s : List AV}, plainL l = true → oidsL l s = []
  | [], s, _ => by cases s <;> rfl
  | v :: l, [], _ => rfl
  | v :: l, r :: s, h => by
    have h2 : plainL l = true := by cases v <;> simp_all [plainL]
    rw [oidsL, plain_oids h2]
    cases r <;> cases v <;> simp_all [plainL, oids1]

theorem out2_rel (h : Rel X tm hp z a w) {m : Nat} (hok : ∀ b, okB X hp z w b → ok b) {v r : AV} {u : Value}
    (hsh : ∀ k ∈ oshown2 v r, ∀ b, live hp k → z.bk k b → ok b) (hv : AVR (okB X hp z w) (live hp) w z v u) (ho : out2 m hp v r) : D2 ok w r u (bl z (oids2 v r)) := by
  have base : out1 m hp v r → oids2 v r = oids1 v r → oshown2 v r = oshown1 v r → D1 ok w r u (bl z (oids2 v r)) := fun h1 h2 h3 => by
    rw [h2]; exact out1_rel h (fun _ _ _ _ _ => .inr (.inr trivial)) hok (fun k hk => hsh k (by rw [h3]; exact hk)) hv h1
  cases r
  case agg s =>
    simp only [out2] at ho
    cases v <;> simp at ho
    rename_i l
    simp only [AVR] at hv
    obtain ⟨vs, rfl, hone, hl⟩ := hv
    simp only [D2, oids2]
    exact ⟨vs, rfl, hone, outL_rel h hok (fun k hk => hsh k (by simpa [oshown2] using hk)) hl ho⟩
  case arr ks xs =>
    simp only [out2] at ho
    cases v <;> simp at ho
    obtain ⟨rfl, rfl⟩ := ho
    simp only [AVR] at hv
    simp [D2, hv, oids2, oids1, bl]
  case bx s =>
    simp only [out2] at ho
    cases v <;> simp at ho
    rename_i k c
    split at ho
    · rename_i l hl
      obtain ⟨rfl, _, hpl, hvl, ho⟩ := ho
      simp only [AVR] at hv
      obtain ⟨hlv, b, hb, rfl⟩ := hv
      obtain ⟨b', cur, T, q1, q2, q3, q4, q5⟩ := h.ens k _ hl
      rw [hb] at q1
      simp only [Value.pointer.injEq, Option.some.injEq, Addr.mk.injEq, and_true] at q1
      subst q1
      have := outL_rel (ok := ok) (m := m) h hok (by rw [plain_oshown hpl]; simp) q4 ho
      rw [plain_oids hpl] at this
      simp only [D2, oids2]
      exact ⟨b, cur, T, rfl, q2, q3, by simpa [bl] using this, hvl, by simp [bl, Cz.bs_nil q5, hb, blk]⟩
    · exact ho.elim
  case pa ks xs => simp [out2, out1] at ho
  case fn f l => simp [out2, out1] at ho
  all_goals (simp only [out2] at ho; simp only [D2]; exact base ho (by cases v <;> rfl) (by cases v <;> rfl))

theorem outL2_rel (h : Rel X tm hp z a w) {m : Nat} (hok : ∀ b, okB X hp z w b → ok b) : ∀ {l s : List AV} {us : List Value}, (∀ k ∈ oshownL2 l s, ∀ b, live hp k → z.bk k b → ok b) →
    AVRs (okB X hp z w) (live hp) w z l us → outL2 m hp l s → D2s ok w s us (bl z (oidsL2 l s))
  | [], [], us, _, hv, _ => by simp only [AVRs] at hv; simp [D2s, hv, oidsL2, bl]
  | v :: l, r :: s, us, hsh, hv, ho => by
    simp only [outL2] at ho
    simp only [AVRs] at hv
    obtain ⟨u, us', rfl, h1, h2⟩ := hv
    simp only [D2s, oidsL2]
    exact ⟨u, us', _, _, rfl, by simp [bl], out2_rel h hok (fun k hk => hsh k (by simp [oshownL2, hk])) h1 ho.1, outL2_rel h hok (fun k hk => hsh k (by simp [oshownL2, hk])) h2 ho.2⟩
  | [], _ :: _, _, _, _, ho => by simp [outL2] at ho
  | _ :: _, [], _, _, _, ho => by simp [outL2] at ho

/-- Places that are handed back are live, and were made by the call. -/
theorem oids_live1 {m : Nat} {v r : AV} (ho : out1 m hp v r) : ∀ k ∈ oids1 v r, m ≤ k ∧ live hp k := by
  intro k hk
  unfold oids1 at hk
  split at hk <;> simp at hk <;> subst hk <;> simp only [out1] at ho <;> split at ho
  · rename_i hl; exact ⟨ho.1, live_of hl⟩
  · exact ho.elim
  · rename_i hl; exact ⟨ho.1, live_of hl⟩
  · exact ho.elim
theorem oids_liveL {m : Nat} : ∀ {l s : List AV}, outL m hp l s → ∀ k ∈ oidsL l s, m ≤ k ∧ live hp k
  | [], s, _, k, hk => by cases s <;> simp [oidsL] at hk
  | _ :: _, [], _, k, hk => by simp [oidsL] at hk
  | v :: l, r :: s, ho, k, hk => by
    simp only [outL] at ho
    simp only [oidsL, List.mem_append] at hk
    rcases hk with hk | hk
    · exact oids_live1 ho.1 k hk
    · exact oids_liveL ho.2 k hk
theorem oids_live2 {m : Nat} {v r : AV} (ho : out2 m hp v r) : ∀ k ∈ oids2 v r, m ≤ k ∧ live hp k := by
  intro k hk
  cases r
  case agg s => simp only [out2] at ho; cases v <;> simp at ho; exact oids_liveL ho k (by simpa [oids2] using hk)
  case bx s =>
    simp only [out2] at ho
    cases v <;> simp at ho
    split at ho
    · rename_i hl
      simp [oids2] at hk
      subst hk
      exact ⟨ho.2.1, live_of hl⟩
    · exact ho.elim
  case arr => cases v <;> simp [oids2, oids1] at hk
  all_goals (simp only [out2] at ho; exact oids_live1 ho k (by cases v <;> simpa [oids2] using hk))
theorem oids_liveL2 {m : Nat} : ∀ {l s : List AV}, outL2 m hp l s → ∀ k ∈ oidsL2 l s, m ≤ k ∧ live hp k
  | [], s, _, k, hk => by cases s <;> simp [oidsL2] at hk
  | _ :: _, [], _, k, hk => by simp [oidsL2] at hk
  | v :: l, r :: s, ho, k, hk => by
    simp only [outL2] at ho
    simp only [oidsL2, List.mem_append] at hk
    rcases hk with hk | hk
    · exact oids_live2 ho.1 k hk
    · exact oids_liveL2 ho.2 k hk
theorem oshown_m1 {m : Nat} {v r : AV} (ho : out1 m hp v r) : ∀ k ∈ oshown1 v r, m ≤ k := by
  intro k hk
  unfold oshown1 at hk
  split at hk <;> simp at hk <;> subst hk <;> simp only [out1] at ho <;> split at ho
  · exact ho.1
  · exact ho.elim
  · exact ho.1
  · exact ho.1
  · exact ho.elim
theorem oshown_mL {m : Nat} : ∀ {l s : List AV}, outL m hp l s → ∀ k ∈ oshownL l s, m ≤ k
  | [], s, _, k, hk => by cases s <;> simp [oshownL] at hk
  | _ :: _, [], _, k, hk => by simp [oshownL] at hk
  | v :: l, r :: s, ho, k, hk => by
    simp only [outL] at ho
    simp only [oshownL, List.mem_append] at hk
    rcases hk with hk | hk
    · exact oshown_m1 ho.1 k hk
    · exact oshown_mL ho.2 k hk
theorem oshown_m2 {m : Nat} {v r : AV} (ho : out2 m hp v r) : ∀ k ∈ oshown2 v r, m ≤ k := by
  intro k hk
  cases r
  case agg s => simp only [out2] at ho; cases v <;> simp at ho; exact oshown_mL ho k (by simpa [oshown2] using hk)
  case bx s => cases v <;> simp [oshown2, oshown1] at hk
  case arr => cases v <;> simp [oshown2, oshown1] at hk
  all_goals (simp only [out2] at ho; exact oshown_m1 ho k (by cases v <;> simpa [oshown2] using hk))
theorem oshown_mL2 {m : Nat} : ∀ {l s : List AV}, outL2 m hp l s → ∀ k ∈ oshownL2 l s, m ≤ k
  | [], s, _, k, hk => by cases s <;> simp [oshownL2] at hk
  | _ :: _, [], _, k, hk => by simp [oshownL2] at hk
  | v :: l, r :: s, ho, k, hk => by
    simp only [outL2] at ho
    simp only [oshownL2, List.mem_append] at hk
    rcases hk with hk | hk
    · exact oshown_m2 ho.1 k hk
    · exact oshown_mL2 ho.2 k hk

/-- A place that was handed over, as it reads at the end. -/
theorem io_rel1 (h : Rel X tm hp z a w) (hok : ∀ b, okB X hp z w b → ok b) {k : Nat} {c : AV} (hc : handed c = true) (hio : ioLe1 hp k c) : live hp k ∧ (z.wd k).2 = [] ∧ D2 ok w c (z.ρ k) (z.bs k) := by
  cases c <;> simp [handed] at hc <;> simp only [ioLe1] at hio
  case bx s =>
    split at hio
    · rename_i l hl
      obtain ⟨hpl, hvl, ho⟩ := hio
      obtain ⟨b, cur, T, q1, q2, q3, q4, q5⟩ := h.ens k _ hl
      have := outL_rel (ok := ok) (m := 0) h hok (by rw [plain_oshown hpl]; simp) q4 ho
      rw [plain_oids hpl] at this
      refine ⟨live_of hl, q5, ?_⟩
      rw [Cz.bs_nil q5, q1]
      simp only [D2]
      exact ⟨b, cur, T, rfl, q2, q3, by simpa [bl] using this, hvl, by simp [blk]⟩
    · exact hio.elim
  case pa ks xs =>
    split at hio
    · rename_i js ys hl
      obtain ⟨rfl, rfl, hpos⟩ := hio
      obtain ⟨b, cur, T, q1, q2, q3, _, q5⟩ := h.ens k _ hl
      refine ⟨live_of hl, by rw [q5], ?_⟩
      rw [Cz.bs_one q5, q1]
      simp only [D2]
      exact ⟨b, cur, T, rfl, q2, q3, hpos, by simp [blk]⟩
    · exact hio.elim
  case fr e ks xs =>
    split at hio
    · rename_i f js ys hl
      obtain ⟨rfl, rfl, rfl⟩ := hio
      exact ⟨live_of hl, by rw [(h.ens k _ hl).2.2], by simp only [D2, D1]; exact ⟨(h.ens k _ hl).1, Cz.bs_one (h.ens k _ hl).2.2⟩⟩
    · exact hio.elim

theorem mat2_unhanded {d : AV} (hp : List (Option Entry)) (hd : handed d = false) (ha : argsOk [d] = true) : (mat2 hp d).2 = hp := by
  have this : ∀ (l : List AV) (hp : List (Option Entry)), out2.viewsL l = true → (matL hp l).2 = hp := by
    intro l
    induction l with
    | nil => intro hp _; rfl
    | cons v l ih =>
      intro hp hv
      have h2 : out2.viewsL l = true ∧ (mat1 hp v).2 = hp := by cases v <;> simp_all [out2.viewsL, mat1]
      simp only [matL]
      rw [h2.2]; exact ih hp h2.1
  cases d <;> simp [handed] at hd <;> simp only [mat2, mat1]
  case agg l => exact this l hp (by simpa [argsOk] using ha)
  case fn f l => exact this l hp (by simpa [argsOk] using ha)
  case frn => simp [argsOk] at ha
theorem mat2_handed {d : AV} (hp : List (Option Entry)) (hd : handed d = true) : ∃ e, (mat2 hp d).2 = pushH hp e ∧ ((mat2 hp d).1 = .own (lenH hp) ∨ (mat2 hp d).1 = .box (lenH hp) 0 ∨ ((mat2 hp d).1 = .cel (lenH hp) 0 0 ∧ ∃ ks xs, e = .arr ks xs)) := by
  cases d <;> simp [handed] at hd
  case bx l => exact ⟨_, rfl, .inr (.inl rfl)⟩
  case pa ks xs => exact ⟨_, rfl, .inr (.inr ⟨rfl, ks, xs, rfl⟩)⟩
  case fr e ks xs => exact ⟨_, rfl, .inl rfl⟩

theorem D2.B_blk {ok : Nat → Prop} {d : AV} {u : Value} {B : List Nat} (h : D2 ok w d u B) (hd : handed d = true) : B = (blk u).toList := by
  cases d <;> simp [handed] at hd <;> simp only [D2] at h
  case bx l => obtain ⟨b, _, _, rfl, _, _, _, _, rfl⟩ := h; simp [blk]
  case pa ks xs => obtain ⟨b, _, _, rfl, _, _, _, rfl⟩ := h; simp [blk]
  case fr e ks xs => exact h.2
theorem D2.still {V ok : Nat → Prop} {d : AV} {u : Value} {B : List Nat} (h : D2 V w d u B) (hd : handed d = false) (ha : argsOk [d] = true) (hV : ∀ b, V b → ok b ∧ w'.heap[b]? = w.heap[b]?) : D2 ok w' d u B := by
  have h1 : ∀ {d : AV} {u : Value} {B : List Nat}, (∀ e ks xs, d ≠ .fr e ks xs) → (∀ e f ks xss, d ≠ .frn e f ks xss) → D1 V w d u B → D1 ok w' d u B := by
    intro d u B hf hf2 hd
    cases d <;> simp only [D1] at hd ⊢
    case fr e ks xs => exact absurd rfl (hf e ks xs)
    case frn e f ks xss => exact absurd rfl (hf2 e f ks xss)
    case vv ks xss => exact ⟨hd.1.mono (fun b hb => (hV b hb).1) (fun b hb => (hV b hb).2), hd.2⟩
    case view ks xs => exact ⟨hd.1.mono (fun b hb => (hV b hb).1) (fun b hb => (hV b hb).2), hd.2⟩
    case vcel ks xs i c =>
      obtain ⟨⟨q1, b, o, q2, q3, q4⟩, q5⟩ := hd
      exact ⟨⟨q1, b, o, (hV b q2).1, q3, fun c' kd hk => (World.cell?_of_block (hV b q2).2).trans (q4 c' kd hk)⟩, q5⟩
    all_goals exact hd
  have hL : ∀ {l : List AV} {vs : List Value} {B : List Nat}, out2.viewsL l = true → D1s V w l vs B → D1s ok w' l vs B := by
    intro l
    induction l with
    | nil => intro vs B _ h; simpa only [D1s] using h
    | cons v l ih =>
      intro vs B hv h
      have h2 : out2.viewsL l = true ∧ (∀ e ks xs, v ≠ .fr e ks xs) ∧ ∀ e f ks xss, v ≠ .frn e f ks xss := by cases v <;> simp_all [out2.viewsL]
      simp only [D1s] at h ⊢
      obtain ⟨u, us, B1, B2, e1, e2, q1, q2⟩ := h
      exact ⟨u, us, B1, B2, e1, e2, h1 h2.2.1 h2.2.2 q1, ih h2.1 q2⟩
  cases d <;> simp [handed] at hd <;> simp only [D2] at h ⊢
  case agg l => obtain ⟨vs, q1, q2, q3⟩ := h; exact ⟨vs, q1, q2, hL (by simpa [argsOk] using ha) q3⟩
  case fn f l => obtain ⟨vs, q1, q3⟩ := h; exact ⟨vs, q1, hL (by simpa [argsOk] using ha) q3⟩
  case arr => exact h
  case frn => simp [argsOk] at ha
  all_goals exact h1 (by intro _ _ _ e; cases e) (by intro _ _ _ _ e; cases e) h
end

end Go.Proofs.Ytkjbgdhpeidocaa.V
