/-
  A verified generator of verification conditions over the model's Code, part V: regions that draw their order and only read.
-/
import Derived.Test.YtkjbgdhpeidocaaVcT
import Derived.Deep.Quiet
set_option linter.unusedSimpArgs false
set_option linter.unusedVariables false
namespace Go.Proofs.Ytkjbgdhpeidocaa.V
open Go Go.RowKit

def dstsOk (n : Nat) : List Oper → Bool
  | [] => true
  | o :: r => (match o.dst with | some d => decide (d < n) | none => true) && dstsOk n r

section
variable {P : Program} {Γ : Cx} {X : Fx} {tm : List (Nat × AV)} {hp : List (Option Entry)} {z : Cz} {a : Act} {w w' : World} {n : Nat}
  {K : St → Prop} {next : Act → World → Prop} {Q : Exit → Act → World → Prop} {o : Oper} {ok lv : Nat → Prop}

def concL : List AV → List Value
  | [] => []
  | .int k n :: r => .int k n :: concL r
  | .bool b :: r => .bool b :: concL r
  | .str l :: r => .string ⟨l.toArray⟩ :: concL r
  | _ :: _ => []
def conc : AV → Value
  | .int k n => .int k n
  | .bool b => .bool b
  | .str l => .string ⟨l.toArray⟩
  | .agg l => .agg (concL l).toArray
  | _ => undef

theorem isDetL_rel : ∀ {l : List AV} {vs : List Value}, isDetL l = true → AVRs ok lv w z l vs → vs = concL l
  | [], vs, _, h => by simpa [AVRs, concL] using h
  | v :: l, vs, hd, h => by
    simp only [AVRs] at h
    obtain ⟨u, us, rfl, h1, h2⟩ := h
    cases v <;> simp only [isDetL] at hd <;> first | (cases hd; done) | skip
    · rw [h1.of_int, isDetL_rel hd h2]; rfl
    · rw [h1.of_bool, isDetL_rel hd h2]; rfl
    · rw [h1.of_str, isDetL_rel hd h2]; rfl

/-- Deep values of which nothing is open. -/
theorem isDet_D1 : ∀ {l : List AV} {vs : List Value} {B : List Nat}, isDetL l = true → D1s ok w l vs B → vs = concL l
  | [], vs, B, _, h => by simp only [D1s] at h; simp [h, concL]
  | v :: l, vs, B, hd, h => by
    simp only [D1s] at h
    obtain ⟨u, us, B1, B2, rfl, e2, h1, h2⟩ := h
    cases v <;> simp only [isDetL] at hd <;> first | (cases hd; done) | skip
    all_goals (simp only [D1] at h1; rw [isDet_D1 hd h2]; simp [concL, h1])
theorem isDet_D3 {v : AV} {u : Value} {B : List Nat} (hd : isDet v = true) (h : D3 ok w v u B) : u = conc v := by
  cases v <;> simp only [isDet] at hd <;> first | (cases hd; done) | skip
  case agg l =>
    simp only [D3, D2] at h
    obtain ⟨vs, rfl, _, h2⟩ := h
    rw [isDet_D1 hd h2]; rfl
  all_goals (simp only [D3, D2, D1] at h; simp [conc, h])

theorem quiet_of_run {u : Value} {C : World → Prop} (h : ∀ w', C w' → (execOp a.eval o).run P w' = .ok (.value u) w') : ∀ w', C w' → o.quietAt P a C w' u := by
  intro w' hc
  unfold Oper.quietAt
  rw [h w' hc]
  exact ⟨rfl, rfl⟩
theorem dstOf_eq : ∀ (l : List Oper) (j : Nat), dstOf l j = (l[j]?).bind (·.dst)
  | [], j => by cases j <;> rfl
  | o :: r, 0 => by simp [dstOf]
  | o :: r, j + 1 => by simp [dstOf, dstOf_eq r j]

theorem Rel.lit (h : Rel X tm hp z a w) {t : Nat} {b : Bool} (hb : lookT tm t = .bool b) : Rel X ((t, .bool b) :: tm) hp z a w := by
  refine { h with tms := fun s => ?_ }
  simp only [lookT_cons]
  by_cases e : t = s
  · subst e; simp only [if_true]; have := h.tms t; rwa [hb] at this
  · simp only [e, if_false]; exact h.tms s

theorem yielded_of (h : Rel X tm hp z a w) {ops : Array Oper} {j t : Nat} {b : Bool} (hj : dstOf ops.toList j = some t) (hb : lookT tm t = .bool b) : yielded ops a.tmps j = some b := by
  have h1 := h.tms t
  rw [hb] at h1
  have h1 := h1.of_bool
  rw [dstOf_eq] at hj
  have h2 : (ops[j]?).bind (·.dst) = some t := by simpa using hj
  have h3 : a.tmps[t]? = some (.bool b) := by
    rw [Array.getD_eq_getD_getElem?] at h1
    cases h4 : a.tmps[t]? with
    | none => rw [h4] at h1; simp [undef] at h1
    | some v => rw [h4] at h1; simpa using h1
  simp [yielded, h2, h3]


theorem yielded_none (h : Rel X tm hp z a w) {ops : Array Oper} {j t : Nat} (hj : dstOf ops.toList j = some t) (hb : lookT tm t = .tup []) : yielded ops a.tmps j = none := by
  have h1 := h.tms t
  rw [hb] at h1
  simp only [AVR] at h1
  obtain ⟨vs, h1, h2⟩ := h1
  simp only [AVRs] at h2
  subst h2
  rw [dstOf_eq] at hj
  have h2 : (ops[j]?).bind (·.dst) = some t := by simpa using hj
  rw [Array.getD_eq_getD_getElem?] at h1
  cases h4 : a.tmps[t]? with
  | none => simp [yielded, h2, h4]
  | some v => rw [h4] at h1; simp at h1; simp [yielded, h2, h4, h1]

theorem isDetL_AVR : ∀ {l : List AV}, isDetL l = true → AVRs ok lv w z l (concL l) ∧ ∀ u ∈ concL l, u.oneCell' = true
  | [], _ => by simp [AVRs, concL]
  | v :: l, hd => by
    cases v <;> simp only [isDetL] at hd <;> first | (cases hd; done) | skip
    all_goals
      obtain ⟨h1, h2⟩ := isDetL_AVR hd
      refine ⟨?_, ?_⟩
      · simp only [concL, AVRs]
        exact ⟨_, _, rfl, by simp only [AVR], h1⟩
      · intro u hu
        simp only [concL, List.mem_cons] at hu
        rcases hu with rfl | hu
        · rfl
        · exact h2 u hu
theorem isDet_AVR {v : AV} (hd : isDet v = true) : AVR ok lv w z v (conc v) := by
  cases v <;> simp only [isDet] at hd <;> first | (cases hd; done) | skip
  case agg l =>
    obtain ⟨h1, h2⟩ := isDetL_AVR (ok := ok) (lv := lv) (w := w) (z := z) hd
    simp only [AVR, conc]
    exact ⟨concL l, rfl, h2, h1⟩
  all_goals simp only [AVR, conc]

/-- An operation of a region that only reads. -/
theorem q_op (hΓ : CxOk P Γ) (hct : CtOk P Γ) (hm : X.m = Γ.m) (h : Rel X tm hp z a w) (hs : stepQ Γ o tm hp K) :
    ∃ u v, (∀ w', Stp (fun _ => False) w w' → o.quietAt P a (Stp (fun _ => False) w) w' u) ∧ AVR (okB X hp z w) (live hp) w z v u ∧ K ⟨putT tm o.dst v, hp⟩ := by
  have plain : stepOp Γ o tm hp K → (∀ c, o.op = .call c → c.callee = .builtin .len) → readsOnly o.op = true →
      ∃ u v, (∀ w', Stp (fun _ => False) w w' → o.quietAt P a (Stp (fun _ => False) w) w' u) ∧ AVR (okB X hp z w) (live hp) w z v u ∧ K ⟨putT tm o.dst v, hp⟩ := by
    intro hs hk hr
    obtain ⟨u, v, h1, h2, h3⟩ := r_op hΓ hm h hs hk hr
    exact ⟨u, v, quiet_of_run h1, h2, h3⟩
  unfold stepQ at hs
  split at hs
  case h_15 t x lo hi ho =>
    have hsl : (∀ k, evalT tm x ≠ .own k) → stepOp Γ o tm hp K → ∃ u v, (∀ w', Stp (fun _ => False) w w' → o.quietAt P a (Stp (fun _ => False) w) w' u) ∧ AVR (okB X hp z w) (live hp) w z v u ∧ K ⟨putT tm o.dst v, hp⟩ := by
      intro hv hs
      unfold stepOp at hs
      simp only [ho] at hs
      split at hs
      · rename_i e esz eb ks hT
        obtain ⟨u, v, h1, h2, h3⟩ := r_slice hΓ h hm t e esz eb ks x lo hi hT hs ho hv
        exact ⟨u, v, quiet_of_run fun w' _ => h1 w', h2, h3⟩
      · exact hs.elim
    split at hs
    · rename_i he; exact hsl (fun k => by rw [he]; exact fun q => by cases q) hs
    · rename_i he; exact hsl (fun k => by rw [he]; exact fun q => by cases q) hs
    · exact hs.elim
  case h_16 c ho =>
    split at hs
    · rename_i hcal
      refine plain hs (fun c' hc' => ?_) (by rw [ho]; rfl)
      rw [ho] at hc'
      cases hc'
      exact hcal
    · rename_i x hcal
      split at hs
      · rename_i f caps he
        unfold stepCallQ at hs
        split at hs
        · rename_i C hC
          obtain ⟨hids, r, hrel, hdet, hk⟩ := hs
          rw [putC_eq] at hk
          refine ⟨conc r, r, fun w' st => ?_, isDet_AVR hdet, hk⟩
          have h' := h.world st
          have hx := h'.eval x
          rw [he] at hx
          simp only [AVR] at hx
          obtain ⟨cv, hx, hcr⟩ := hx
          have hargs := appA_rel (retypes_rel Γ.τ c.argTypes.toList (h'.evals c.args.toList)) hcr
          generalize appA (retypes Γ.τ c.argTypes.toList (evals tm c.args.toList)) caps = args at hids hrel hargs
          have hrun : (execOp a.eval o).run P w' = .ok (.enter f (c.args.toList.map a.eval ++ cv).toArray) w' := by
            have hca := hct.call f C hC
            have e1 : (c.args.toList.map a.eval ++ cv).toArray = c.args.map a.eval ++ cv.toArray := by
              apply Array.ext'
              simp
            rw [e1]
            have hca2 := hca (c.args.map a.eval ++ cv.toArray) w'
            simp only [Array.append_assoc, Array.empty_append, execOp, ho, resolve, hcal, hx, Deferred.ofValue, invoke]
            simp [invoke]
            simpa using hca2
          generalize hds : deepsH hp C.io args = ds at hids hrel
          have hdeep := deeps_rel (V := fun b => okB X hp z w' b ∨ ∃ k ∈ shownL2 args ds, live hp k ∧ z.bk k b) h' (fun b hb => .inl hb) C.io hargs (fun k hk b hb => by
            rw [hds] at hk
            refine .inr ⟨k, hk, ?_, hb⟩
            exact shownL2_live hargs k hk)
          rw [hds, hids] at hdeep
          have hgl : GlAt w' (fun b => okB X hp z w' b ∨ ∃ k ∈ shownL2 args ds, live hp k ∧ z.bk k b) (fun b => b ∈ bl z []) := fun g ks xs hg => by
            obtain ⟨q1, q2⟩ := h'.glok hg
            exact ⟨.inl q1, by simp [bl], q1.2.1, q2⟩
          have hcall := hct.sound f C hC _ w' ds _ (bl z []) _ hgl hdeep (by simp [bl]) (fun b hb => by
            refine ⟨?_, by simp [bl]⟩
            rcases hb with hb | ⟨k, hk, hlk, hb⟩
            · exact hb.2.1
            · exact (h'.own k b hlk hb).1) (by simp [bl]) hrel
          unfold Oper.quietAt
          rw [hrun]
          refine ⟨rfl, hcall.mono ?_⟩
          rintro e w'' ⟨v, r', io, B', rfl, rfl, hr, _, _, _, hst⟩
          refine ⟨by rw [isDet_D3 hdet hr], st.trans (hst.mono fun b hb => ?_)⟩
          simp [bl] at hb
        · exact hs.elim
      · exact hs.elim
    · exact hs.elim
  case h_17 => exact hs.elim
  all_goals
    rename_i ho
    exact plain hs (fun c hc => by rw [ho] at hc; cases hc) (by rw [ho]; rfl)

theorem q_ops (hΓ : CxOk P Γ) (hct : CtOk P Γ) (hm : X.m = Γ.m) (ops : Array Oper) (hQ : ∀ σ z a w, K σ → Rel X σ.tm σ.hp z a w → a.tmps.size = n → Q .normal a w) (w : World) :
    ∀ (l : List Oper) (σ : St) (z : Cz) (a : Act), dstsOk n l = true → vcQ Γ ops.toList l σ K → Rel X σ.tm σ.hp z a w → a.tmps.size = n →
      wpQuiet P ops (Stp (fun _ => False) w) (fun a' => ∀ w', Stp (fun _ => False) w w' → Q .normal a' w') l a
  | [], σ, z, a, _, hs, h, hn => by simp only [vcQ] at hs; exact fun w' st => hQ σ z a w' hs (h.world st) hn
  | o :: r, ⟨tm, hp⟩, z, a, hok, hs, h, hn => by
    simp only [dstsOk, Bool.and_eq_true] at hok
    obtain ⟨hd0, hok⟩ := hok
    have hd : ∀ d, o.dst = some d → d < n := fun d e => by rw [e] at hd0; simpa using hd0
    have step : ∀ tm, Rel X tm hp z a w → stepQ Γ o tm hp (fun σ' => vcQ Γ ops.toList r σ' K) →
        o.quiet P a (Stp (fun _ => False) w) (wpQuiet P ops (Stp (fun _ => False) w) (fun a' => ∀ w', Stp (fun _ => False) w w' → Q .normal a' w') r) := by
      intro tm h hs
      obtain ⟨u, v, h1, h2, h3⟩ := q_op hΓ hct hm h hs
      exact ⟨u, h1, q_ops hΓ hct hm ops hQ w r _ z _ hok h3 (h.put o.dst (fun d e => by rw [hn]; exact hd d e) h2) (by rw [size_put]; exact hn)⟩
    simp only [vcQ] at hs
    simp only [wpQuiet]
    split at hs
    · rename_i hg
      rw [if_pos (by simp [Region.wanted, hg])]
      exact step tm h hs
    · rename_i j want hg
      split at hs
      case h_2 => exact hs.elim
      rename_i t hj
      split at hs
      case h_3 => exact hs.elim
      case h_2 hb =>
        have hy := yielded_none h hj hb
        rw [if_neg (by simp [Region.wanted, hg, hy])]
        rw [putC_eq] at hs
        exact q_ops hΓ hct hm ops hQ w r _ z _ hok hs (h.put o.dst (fun d e => by rw [hn]; exact hd d e) (by simp [AVR, AVRs, undef])) (by rw [size_put]; exact hn)
      rename_i b hb
      have hy := yielded_of h hj hb
      have hw : Region.wanted o (yielded ops a.tmps) = (b == want) := by simp [Region.wanted, hg, hy]
      rw [hw]
      have skip : ∀ b', lookT tm t = .bool b' → putC ((t, .bool b') :: tm) hp o.dst (.tup []) (fun σ' => vcQ Γ ops.toList r σ' K) →
          wpQuiet P ops (Stp (fun _ => False) w) (fun a' => ∀ w', Stp (fun _ => False) w w' → Q .normal a' w') r (a.put o.dst undef) := by
        intro b' hb' hp'
        rw [putC_eq] at hp'
        refine q_ops hΓ hct hm ops hQ w r _ z _ hok hp' ?_ (by rw [size_put]; exact hn)
        exact (h.lit hb').put o.dst (fun d e => by rw [hn]; exact hd d e) (by simp [AVR, AVRs, undef])
      cases want with
      | true =>
        obtain ⟨h1, h2⟩ := hs
        cases b with
        | true => rw [if_pos (by simp)]; exact step _ (h.lit hb) (h1 rfl)
        | false => rw [if_neg (by simp)]; exact skip false hb (h2 rfl)
      | false =>
        obtain ⟨h1, h2⟩ := hs
        cases b with
        | false => rw [if_pos (by simp)]; exact step _ (h.lit hb) (h1 rfl)
        | true => rw [if_neg (by simp)]; exact skip true hb (h2 rfl)

theorem s_quiet (hΓ : CxOk P Γ) (hct : CtOk P Γ) (hm : X.m = Γ.m) (id : Nat) (ops : Array Oper) (hlex : Region.lexB .any ops = true)
    (hQ : ∀ σ z a w, K σ → Rel X σ.tm σ.hp z a w → a.tmps.size = n → Q .normal a w)
    (σ : St) (z : Cz) (a : Act) (w : World) (hok : dstsOk n ops.toList = true) (hs : vcQ Γ ops.toList ops.toList σ K) (h : Rel X σ.tm σ.hp z a w) (hn : a.tmps.size = n) :
    (Code.region id ops true).wp P Q a w :=
  wp_region_quiet (C := Stp (fun _ => False) w) hΓ.mixed hlex ⟨rfl, rfl, rfl, Nat.le_refl _, fun _ _ _ => rfl⟩ (q_ops hΓ hct hm ops hQ w ops.toList σ z a hok hs h hn)
end

end Go.Proofs.Ytkjbgdhpeidocaa.V
