/-
  A verified generator of verification conditions over the model's Code, part T: every operation, a region, all of a function's code.
-/
import Derived.Test.YtkjbgdhpeidocaaVcQ
set_option linter.unusedSimpArgs false
set_option linter.unusedVariables false
namespace Go.Proofs.Ytkjbgdhpeidocaa.V
open Go Go.RowKit

def readsOnly : Op → Bool
  | .alloc _ => false
  | .box _ _ => false
  | .store _ _ _ => false
  | .makeSlice _ _ _ => false
  | .slice _ _ _ _ _ => false
  | .buildSlice _ _ _ => false
  | .makeFunc _ _ _ => false
  | _ => true

section
variable {P : Program} {Γ : Cx} {X : Fx} {tm : List (Nat × AV)} {hp : List (Option Entry)} {z : Cz} {a : Act} {w w' : World} {n : Nat}
  {K : St → Prop} {next : Act → World → Prop} {Q : Exit → Act → World → Prop} {o : Oper} {ok lv : Nat → Prop}

/-- An operation that looks at slots alone, in every world. -/
theorem r_pure (hΓ : CxOk P Γ) (hm : X.m = Γ.m) (h : Rel X tm hp z a w) (hs : stepOp Γ o tm hp K)
    (hk : ∀ c, o.op = .call c → c.callee = .builtin .len) (hr : readsOnly o.op = true) (hnl : isLoad o.op = false) : ResA P X hp z a w o fun v => K ⟨putT tm o.dst v, hp⟩ := by
  unfold stepOp at hs
  split at hs
  case h_1 x ho =>
    rw [putC_eq] at hs
    exact ⟨_, _, fun w => by simp [execOp, ho], (retype_rel _ (h.eval x)), hs⟩
  case h_2 x ho =>
    rw [putC_eq] at hs
    exact ⟨_, _, fun w => by simp [execOp, ho], (retype_rel _ (h.eval x)), hs⟩
  case h_3 c x y ho =>
    have hc := h.eval c
    split at hs
    · rename_i t he
      rw [he] at hc
      have hc := hc.of_bool
      cases t with
      | true =>
        have hs := hs.1 rfl
        rw [putC_eq] at hs
        exact ⟨_, _, fun w => by simp [execOp, ho, hc, asBool], (h.eval x), hs⟩
      | false =>
        have hs := hs.2 rfl
        rw [putC_eq] at hs
        exact ⟨_, _, fun w => by simp [execOp, ho, hc, asBool], (h.eval y), hs⟩
    · exact hs.elim
  case h_6 t x ho =>
    rw [ho] at hnl; cases hnl
  case h_8 x ho =>
    have hx := h.eval x
    split at hs
    · rename_i k c he
      rw [putC_eq] at hs
      rw [he] at hx
      have hx' := hx
      simp only [AVR] at hx'
      obtain ⟨_, b, _, hb⟩ := hx'
      exact ⟨a.eval x, _, fun w => by simp [execOp, ho, hb], hx, hs⟩
    · rename_i k i c he
      rw [putC_eq] at hs
      rw [he] at hx
      have hx' := hx
      simp only [AVR] at hx'
      obtain ⟨_, _, b, _, hb⟩ := hx'
      exact ⟨a.eval x, _, fun w => by simp [execOp, ho, hb], hx, hs⟩
    · exact hs.elim
  case h_9 op T x y yT ho =>
    refine r_bin hΓ h op T yT x y ?_ ho
    simpa only [putC_eq] using hs
  case h_10 T x ho =>
    have hx := h.eval x
    split at hs
    · rename_i b he
      rw [putC_eq] at hs
      rw [he] at hx
      have hx := hx.of_bool
      exact ⟨.bool !b, _, fun w => by simp [execOp, ho, hx, Op.unary], (by simp only [AVR]), hs⟩
    · exact hs.elim
  case h_11 T x ho =>
    have hx := h.eval x
    split at hs
    · rename_i k m he
      obtain ⟨hf, hs⟩ := hs
      rw [putC_eq] at hs
      rw [he] at hx
      have hx := hx.of_int
      refine ⟨.int k (0 - m), _, fun w => ?_, by simp only [AVR], hs⟩
      have := wrap_fits hf
      simp only [execOp, ho, hx, Op.unary, Op.intArith, this]
      simp
    · exact hs.elim
  case h_12 T t x ho =>
    have hx := h.eval x
    split at hs
    · rename_i k0 k j m hT0 hT he
      obtain ⟨hf, hs⟩ := hs
      rw [putC_eq] at hs
      rw [he] at hx
      have hx := hx.of_int
      have hint : ∀ (t : Nat) (k : IntKind), Γ.τ t = .int k → P.underlying t = some (.int k) := by
        intro t k hT
        have ht := hΓ.tab t
        rw [hT] at ht
        simp only [checkTI, Bool.and_eq_true] at ht
        have := ht.1
        cases hu : P.underlying t with
        | none => rw [hu] at this; simp at this
        | some d => rw [hu] at this; cases d <;> simp at this; rw [this]
      refine ⟨.int k m, _, fun w => ?_, by simp only [AVR], hs⟩
      have e1 : (convert T t (.int j m)).run P w = .ok (.int k m) w := by
        simp [convert, run_underlying (hint T k0 hT0), run_underlying (hint t k hT), Conv.intToInt, wrap_fits hf]
      simp only [execOp, ho, hx]
      simp [e1]
    · exact hs.elim
  case h_15 t x f ho =>
    refine r_fieldAddr hΓ h t f x ?_ ho
    simpa only [putC_eq] using hs
  case h_16 t x ix ho =>
    refine r_indexAddr hΓ h t x ix ?_ ho
    simpa only [putC_eq] using hs
  case h_18 x i ho =>
    have hx := h.eval x
    split at hs
    · rename_i l he
      split at hs
      · rename_i hlt
        rw [putC_eq] at hs
        rw [he] at hx
        simp only [AVR] at hx
        obtain ⟨vs, hv, hr⟩ := hx
        obtain ⟨u, hu, hru⟩ := hr.get i (by rw [← lenA_eq]; exact hlt)
        refine ⟨u, _, fun w => ?_, hru, hs⟩
        have : vs.toArray[i]? = some u := by simpa using hu
        simp [execOp, ho, hv, Instr.extract, this]
      · exact hs.elim
    · exact hs.elim
  case h_20 c ho =>
    have hcal := hk c ho
    rw [hcal] at hs
    exact r_len hΓ hm h .len rfl c ho hcal hs
  case h_4 t ho => rw [ho] at hr; cases hr
  case h_5 t x ho => rw [ho] at hr; cases hr
  case h_7 t x y ho => rw [ho] at hr; cases hr
  case h_13 t l c ho => rw [ho] at hr; cases hr
  case h_14 t x lo hi ho => rw [ho] at hr; cases hr
  case h_17 t m parts ho => rw [ho] at hr; cases hr
  case h_19 f first caps ho => rw [ho] at hr; cases hr
  case h_21 t parts ho =>
    split at hs
    · rename_i offs zr hT
      split at hs
      · rename_i hz
        split at hs
        · rename_i l hb
          rw [putC_eq] at hs
          exact r_build hΓ h t parts offs zr l hT hz hb ho hs
        · exact hs.elim
      · exact hs.elim
    · rename_i n esz ks hT
      split at hs
      · rename_i hb
        rw [putC_eq] at hs
        exact r_buildArr hΓ t parts n esz ks hT hb ho hs
      · exact hs.elim
    · exact hs.elim
  case h_22 t x f ho =>
    refine r_field hΓ h t f x ?_ ho
    simpa only [putC_eq] using hs
  case h_23 t x ix ho =>
    refine r_index hΓ h t x ix ?_ ho
    simpa only [putC_eq] using hs
  case h_24 => exact hs.elim
/-- An operation that only reads, in every world that has only grown. -/
theorem r_op (hΓ : CxOk P Γ) (hm : X.m = Γ.m) (h : Rel X tm hp z a w) (hs : stepOp Γ o tm hp K)
    (hk : ∀ c, o.op = .call c → c.callee = .builtin .len) (hr : readsOnly o.op = true) : ResS P X hp z a w o fun v => K ⟨putT tm o.dst v, hp⟩ := by
  cases hl : isLoad o.op with
  | false => exact (r_pure hΓ hm h hs hk hr hl).toS
  | true =>
    cases ho : o.op <;> rw [ho] at hl <;> simp only [isLoad] at hl <;> try (cases hl; done)
    rename_i t x
    unfold stepOp at hs
    rw [ho] at hs
    simp only at hs
    refine r_load hΓ h t x ?_ ho
    simpa only [putC_eq] using hs

/-- A call met by its contract. -/
theorem s_call0 (hct : CtOk P Γ) (h : Rel X tm hp z a w) (c : Call) (x : Operand) (f : Nat) (caps : List AV) (ho : o.op = .call c) (hcal : c.callee = .value x) (he : evalT tm x = .fn f caps)
    (hs : stepCall Γ tm hp f (appA (retypes Γ.τ c.argTypes.toList (evals tm c.args.toList)) caps) o.dst K)
    (hd : ∀ d, o.dst = some d → d < n) (hn : a.tmps.size = n) (hN : Nxt X n K next) : o.wp P a w next Q := by
  have hx := h.eval x
  rw [he] at hx
  simp only [AVR] at hx
  obtain ⟨cv, hx, hcr⟩ := hx
  have hargs := appA_rel (retypes_rel Γ.τ c.argTypes.toList (h.evals c.args.toList)) hcr
  have hs' := hs
  unfold stepCall at hs'
  split at hs'
  · rename_i C hC
    refine s_call h f C (hct.sound f C hC) hC _ _ hargs hs ?_ hd hn (fun σ z a w h1 h2 h3 _ => hN σ z a w h1 h2 h3)
    have hca := hct.call f C hC
    have e1 : (c.args.toList.map a.eval ++ cv).toArray = c.args.map a.eval ++ cv.toArray := by
      apply Array.ext'
      simp
    rw [e1]
    have hca2 := hca (c.args.map a.eval ++ cv.toArray) w
    simp only [Array.append_assoc, Array.empty_append, execOp, ho, resolve, hcal, hx, Deferred.ofValue, invoke]
    simp [invoke]
    simpa using hca2
  · exact hs'.elim
theorem s_del (hct : CtOk P Γ) (hm : X.m = Γ.m) (h : Rel X tm hp z a w) (c : Call) (x : Operand) (f : Nat) (caps : List AV) (ho : o.op = .call c) (hcal : c.callee = .value x) (he : evalT tm x = .fn f caps)
    (hs : stepDel Γ.m (Γ.del f) tm hp (appA (retypes Γ.τ c.argTypes.toList (evals tm c.args.toList)) caps) o.dst K)
    (hd : ∀ d, o.dst = some d → d < n) (hn : a.tmps.size = n) (hN : Nxt X n K next) : o.wp P a w next Q := by
  have hx := h.eval x
  rw [he] at hx
  simp only [AVR] at hx
  obtain ⟨cv, hx, hcr⟩ := hx
  have hargs := appA_rel (retypes_rel Γ.τ c.argTypes.toList (h.evals c.args.toList)) hcr
  generalize appA (retypes Γ.τ c.argTypes.toList (evals tm c.args.toList)) caps = args at hs hargs
  have hcall : ∀ (us : List Value), c.args.toList.map a.eval ++ cv = us → Callable P f → (execOp a.eval o).run P w = .ok (.enter f us.toArray) w := by
    intro us hvs hca
    have hca2 := hca us.toArray w
    have e1 : c.args.map a.eval ++ cv.toArray = us.toArray := by
      apply Array.ext'
      simpa using hvs
    rw [← e1] at hca2 ⊢
    simp only [Array.append_assoc, Array.empty_append, execOp, ho, resolve, hcal, hx, Deferred.ofValue, invoke]
    simp [invoke]
    simpa using hca2
  unfold stepDel at hs
  split at hs
  case h_5 => exact hs.elim
  · -- all cells of a slice of slices are written
    rename_i e f1 ks pre M hD
    have hok : MarkOk P f e f1 ks pre M := hct.del f _ hD
    split at hs
    case h_2 => exact hs.elim
    rename_i k i
    split at hs
    case h_2 => exact hs.elim
    rename_i e' f' ks' xss hl
    obtain ⟨hmk, rfl, rfl, rfl, hpre, hs⟩ := hs
    rw [putH_eq] at hs
    obtain ⟨us, hown, hln, hwd, hi, hnd⟩ := h.ens k _ hl
    have hlv := live_of hl
    have hvs : c.args.toList.map a.eval ++ cv = [.agg #[z.ρ k], .int .i64 i] := by
      simp only [AVRs, AVR] at hargs
      obtain ⟨u, us1, e1, ⟨vs, e2, _, u4, us4, e4, ⟨_, e5⟩, e6⟩, u2, us2, e3, e7, e8⟩ := hargs
      rw [e1, e2, e3, e4, e5, e6, e7, e8]
    unfold Oper.wp
    rw [hcall _ hvs hok.call]
    show Calls P f _ w _
    have hnd' : ((z.ρ k :: us).filterMap blk).Nodup := by simpa [Cz.bs, hwd] using hnd
    refine (hok.run w (z.ρ k) xss us i hown hi hnd' hpre).mono ?_
    rintro ex w' ⟨rfl, hlen, ho', hi', hst⟩
    have hR := h.over (w' := w') k _ (.nest e' f' ks' (M i xss).2) hl (hst.mono (fun b hb => by
      obtain ⟨v, hv, hb⟩ := List.mem_filterMap.1 hb
      exact .inr ⟨v, by rw [hwd]; exact hv, hb⟩)) (fun ok lv _ _ => ⟨us, by rw [hlen]; exact ho', by rw [hln, hlen], hwd, hi', hnd⟩)
    show next _ _
    refine hN ⟨putT tm o.dst (.int .i64 (M i xss).1), setH hp k (some (.nest e' f' ks' (M i xss).2))⟩ z _ w' hs (hR.put o.dst (fun d e => by rw [hn]; exact hd d e) (by simp only [AVR])) (by rw [size_put]; exact hn)
  · -- memory is given
    rename_i e f1 ks rel hD
    obtain ⟨hcl, hok⟩ : Callable P f ∧ Gives P f rel := hct.del f _ hD
    split at hs
    case h_2 => exact hs.elim
    rename_i a1 a2 a3 j
    split at hs
    case h_2 => exact hs.elim
    rename_i e' f' ks' yss hl
    obtain ⟨hmj, rfl, rfl, rfl, hap, hids, hrel⟩ := hs
    have hlv := live_of hl
    obtain ⟨us, hown, hln, hwd, hi, hnd⟩ := h.ens j _ hl
    have hargs3 : ∃ vs3 : List Value, c.args.toList.map a.eval ++ cv = vs3 ++ [z.ρ j] ∧ AVRs (okB X hp z w) (live hp) w z [a1, a2, a3] vs3 := by
      simp only [AVRs] at hargs ⊢
      obtain ⟨u1, r1, e1, q1, u2, r2, e2, q2, u3, r3, e3, q3, u4, r4, e4, q4, e5⟩ := hargs
      simp only [AVR] at q4
      exact ⟨[u1, u2, u3], by rw [e1, e2, e3, e4, e5, q4.2]; rfl, u1, _, rfl, q1, u2, _, rfl, q2, u3, _, rfl, q3, rfl⟩
    obtain ⟨vs3, hvs, hav3⟩ := hargs3
    have hap' := apartN_iff hap j (by simp)
    have hdeep := deeps_rel (V := fun b => okB X hp z w b ∨ ∃ k ∈ shownL2 [a1, a2, a3] (deepsH hp [] [a1, a2, a3]), live hp k ∧ z.bk k b) h (fun b hb => .inl hb) [] hav3 (fun k hk b hb => .inr ⟨k, hk, shownL2_live hav3 k hk, hb⟩)
    rw [hids] at hdeep
    have happ : ∀ {ds : List AV} {vs : List Value} {V : Nat → Prop} {B : List Nat} {d : AV} {v : Value} {B2 : List Nat}, D2s V w ds vs B → D2 V w d v B2 → D2s V w (appA ds [d]) (vs ++ [v]) (B ++ B2) := by
      intro ds
      induction ds with
      | nil =>
        intro vs V B d v B2 h1 h2
        simp only [D2s] at h1
        obtain ⟨rfl, rfl⟩ := h1
        simp only [appA, D2s]
        exact ⟨v, [], B2, [], rfl, by simp, h2, rfl, rfl⟩
      | cons d0 ds ih =>
        intro vs V B d v B2 h1 h2
        simp only [D2s] at h1
        obtain ⟨u, us, B1, B3, rfl, rfl, q1, q2⟩ := h1
        simp only [appA, D2s]
        exact ⟨u, us ++ [v], B1, B3 ++ B2, rfl, by simp, q1, ih q2 h2⟩
    have hall := happ hdeep (show D2 _ w (.frn e' f' ks' yss) (z.ρ j) (z.bs j) from ⟨us, hown, hi, by rw [Cz.bs, hwd], hnd⟩)
    have hbl0 : bl z [] = [] := rfl
    rw [hbl0, List.nil_append] at hall
    have hgl : GlAt w (fun b => okB X hp z w b ∨ ∃ k ∈ shownL2 [a1, a2, a3] (deepsH hp [] [a1, a2, a3]), live hp k ∧ z.bk k b) (fun b => b ∈ z.bs j) := fun g ks xs hg => by
      obtain ⟨q1, q2⟩ := h.glok hg
      exact ⟨.inl q1, fun hmm => q1.2.2 j hlv (Cz.mem_bs.1 hmm), q1.2.1, q2⟩
    have hrun := hok _ w _ _ (z.bs j) _ hgl hall hnd (fun b hb => by
      rcases hb with hb | ⟨k, hk, hlk, hb⟩
      · exact ⟨hb.2.1, fun hmm => hb.2.2 j hlv (Cz.mem_bs.1 hmm)⟩
      · refine ⟨(h.own k b hlk hb).1, fun hmm => ?_⟩
        have := h.dj j k b hlv hlk (Cz.mem_bs.1 hmm) hb
        subst this
        exact hap' hk) (fun b hb => (h.own j b hlv (Cz.mem_bs.1 hb)).1) hrel
    unfold Oper.wp
    rw [hcall _ hvs hcl]
    show Calls P f _ w _
    refine hrun.mono ?_
    rintro ex w' ⟨v, r, B', rfl, hK, hr, hBn, hBf, hst⟩
    split at hK
    case h_2 => exact hK.elim
    rename_i e2 f2 ks2 zss
    obtain ⟨rfl, rfl, rfl, hs⟩ := hK
    rw [putTH_eq] at hs
    simp only [D3, D2] at hr
    obtain ⟨vs, rfl, hone, hr⟩ := hr
    simp only [D1s] at hr
    obtain ⟨u, us', B1, B2, rfl, rfl, hd1, rfl, rfl⟩ := hr
    simp only [D1] at hd1
    obtain ⟨rs, ho', hi', rfl, hnd'⟩ := hd1
    have hdead : ¬ live hp (lenH hp) := by rw [live_none, lenH_eq]; exact lookH_big (Nat.le_refl _)
    have hmm : X.m ≤ lenH hp := by rw [lenH_eq]; exact h.mm
    have hlen2 : lenH (killsH [j] hp) = lenH hp := by rw [lenH_eq, lenH_eq, length_kills]
    have hR := h.recast (w' := w') [j] [j] (lenH hp) (.nest e2 f2 ks2 zss) (z.upd (lenH hp) u zss.length (1, rs)) (pushH (killsH [j] hp) (.nest e2 f2 ks2 zss))
      (fun _ x => x) (fun _ x => .inl x) (fun j' hj' => by simp at hj'; subst hj'; rw [hm]; exact hmj) hmm (.inr hdead)
      (fun j' hjk => by rw [lookH_push, hlen2, if_neg hjk]) (by rw [lookH_push, hlen2, if_pos rfl]) (by rw [length_push, length_kills]; have := h.mm; omega)
      (fun j' hjk => by simp [Cz.upd, hjk]) (.inr (.inl hdead)) (hst.mono (fun b hb => ⟨j, by simp, hlv, Cz.mem_bs.1 hb⟩))
      (fun b hb => by
        simp only [Cz.bk, Cz.upd, if_true] at hb
        obtain ⟨q1, q2⟩ := hBf b (by
          rw [List.append_nil, List.mem_filterMap]
          rcases hb with hb | ⟨u1, hu1, hb⟩
          · exact ⟨u, by simp, hb⟩
          · exact ⟨u1, by simp only [List.mem_cons]; exact .inr hu1, hb⟩)
        exact ⟨q1.symm.imp (fun q => ⟨j, by simp, hlv, Cz.mem_bs.1 q⟩) id, q2⟩)
      (fun ok lv hok => ⟨rs, by simp only [Cz.upd, if_true]; exact ho', by simp [Cz.upd], by simp [Cz.upd], hi', by simpa [Cz.bs, Cz.upd] using hnd'⟩)
    show next _ _
    refine hN ⟨putT (killsT [j] tm) o.dst (.agg [.own (lenH hp)]), pushH (killsH [j] hp) (.nest e2 f2 ks2 zss)⟩ _ _ w' hs (hR.put o.dst (fun d e => by rw [hn]; exact hd d e) ?_) (by rw [size_put]; exact hn)
    simp only [AVR, AVRs]
    refine ⟨[u], rfl, hone, u, [], rfl, ⟨?_, by simp [Cz.upd]⟩, rfl⟩
    unfold live; rw [lookH_push, hlen2]; simp
  · -- room in a nil slice
    rename_i e eb ks hD
    have hok : GrowOk P f e eb ks := hct.del f _ hD
    split at hs
    case h_2 => exact hs.elim
    rename_i ks0 i
    obtain ⟨⟨h0, hbytes⟩, hs⟩ := hs
    rw [putH_eq] at hs
    obtain ⟨m, rfl⟩ := Int.eq_ofNat_of_zero_le h0
    have hvs : c.args.toList.map a.eval ++ cv = [.slice none 0 0, .int .i64 (m : Int)] := by
      simp only [AVRs, AVR] at hargs
      obtain ⟨u, us1, e1, e2, u2, us2, e3, e7, e8⟩ := hargs
      rw [e1, e2, e3, e7, e8]
    unfold Oper.wp
    rw [hcall _ hvs hok.call]
    show Calls P f _ w _
    refine (hok.run w m (by have : ((m * eb : Nat) : Int) ≤ 140737488355328 := by simpa using hbytes
                            omega)).mono ?_
    rintro ex w' ⟨v, rfl, ho', hst⟩
    have hR : Rel X tm (pushH hp (.rows e ks [])) (z.upd (lenH hp) v 0 (lenK ks, [])) a w' := by
      refine h.push hst _ _ _ _ (fun b hb => ?_) (fun ok lv z' h1 h2 h3 h4 h5 => ⟨?_, h4, h5⟩)
      · exact ho'.lt b (own_blk ho' hb)
      · rw [h3]; exact own_mono ho' (fun _ _ => Nat.zero_le _)
    show next _ _
    refine hN ⟨putT tm o.dst (.own (lenH hp)), pushH hp (.rows e ks [])⟩ _ _ w' hs (hR.put o.dst (fun d e => by rw [hn]; exact hd d e) ?_) (by rw [size_put]; exact hn)
    simp only [AVR]
    exact ⟨live_push hp _, by simp [Cz.upd]⟩
  rename_i e ks hD
  have hok : DelOk P f e ks := hct.del f _ hD
  split at hs
  case h_2 => exact hs.elim
  rename_i k i j
  split at hs
  case h_2 => exact hs.elim
  rename_i e' ks' xs hl
  obtain ⟨hmk, rfl, rfl, ⟨h0, hij, hj⟩, hs⟩ := hs
  rw [putTH_eq] at hs
  obtain ⟨hown, _, _⟩ := h.ens k _ hl
  have hvs : c.args.toList.map a.eval ++ cv = [z.ρ k, .int .i64 i, .int .i64 j] := by
    simp only [AVRs, AVR] at hargs
    obtain ⟨u, us, e1, ⟨_, e2⟩, u2, us2, e3, e4, u3, us3, e5, e6, e7⟩ := hargs
    rw [e1, e2, e3, e4, e5, e6, e7]
  obtain ⟨i, rfl⟩ := Int.eq_ofNat_of_zero_le h0
  obtain ⟨j, rfl⟩ := Int.eq_ofNat_of_zero_le (show 0 ≤ j by omega)
  have hrun := hcall _ hvs hok.call
  unfold Oper.wp
  rw [hrun]
  show Calls P f _ w _
  refine (hok.run w (z.ρ k) xs i j hown (by omega) (by omega)).mono ?_
  rintro ex w' ⟨v', rfl, ho', hb', hst⟩
  have hR := h.regrow k _ hl (by rw [hm]; exact hmk) v' e' ks' (xs.take i ++ xs.drop j) ho' (hst.mono (fun b e => .inl e)) (fun b hb => by
    rw [hb'] at hb
    exact ⟨.inl (.inl hb), Nat.lt_of_lt_of_le (h.own k b (live_of hl) (.inl hb)).1 hst.size⟩)
  simp only [Int.toNat_natCast] at hs
  show next _ _
  refine hN ⟨putT (killT k tm) o.dst (.own k), setH (killH k hp) k (some (.rows e' ks' (xs.take i ++ xs.drop j)))⟩ (z.upd k v' (xs.take i ++ xs.drop j).length (lenK ks', [])) _ w' hs (hR.put o.dst (fun d e => by rw [hn]; exact hd d e) ?_) (by rw [size_put]; exact hn)
  simp only [AVR]
  refine ⟨?_, by simp [Cz.upd]⟩
  unfold live
  rw [lookH_set, length_kill]
  simp [lookH_lt hl]
theorem s_thaws (hm : X.m = Γ.m) : ∀ (l : List Nat) {tm : List (Nat × AV)} {hp : List (Option Entry)} {C : List (Nat × AV) → List (Option Entry) → Prop}, Rel X tm hp z a w → thawAll Γ.m l tm hp C →
    ∃ tm' hp', Rel X tm' hp' z a w ∧ C tm' hp'
  | [], tm, hp, C, h, hs => by simp only [thawAll] at hs; exact ⟨tm, hp, h, hs⟩
  | k :: l, tm, hp, C, h, hs => by
    simp only [thawAll] at hs
    split at hs
    · rename_i e ks xs hl
      obtain ⟨h1, h2⟩ := hs
      exact s_thaws hm l (h.thaw k e ks xs hl (by rw [hm]; exact h1)) h2
    · exact s_thaws hm l h hs
    · exact hs.elim
theorem s_call' (_ : CxOk P Γ) (hct : CtOk P Γ) (hm : X.m = Γ.m) (h : Rel X tm hp z a w) (c : Call) (x : Operand) (f : Nat) (caps : List AV) (ho : o.op = .call c) (hcal : c.callee = .value x) (he : evalT tm x = .fn f caps)
    (hs : stepCall' Γ tm hp c.argTypes.toList x c.args.toList f caps o.dst K)
    (hd : ∀ d, o.dst = some d → d < n) (hn : a.tmps.size = n) (hN : Nxt X n K next) : o.wp P a w next Q := by
  unfold stepCall' at hs
  split at hs
  case h_2 => exact s_del hct hm h c x f caps ho hcal he hs hd hn hN
  split at hs
  · exact s_call0 hct h c x f caps ho hcal he hs hd hn hN
  · split at hs
    · exact s_call0 hct h c x f caps ho hcal he hs hd hn hN
    · obtain ⟨tm', hp', h', hs⟩ := s_thaws hm _ h hs
      simp only [forceH_eq, forceT_eq] at hs
      split at hs
      · rename_i f' caps' he'
        exact s_call0 hct h' c x f' caps' ho hcal he' hs hd hn hN
      · exact hs.elim

theorem s_op (hΓ : CxOk P Γ) (hct : CtOk P Γ) (hm : X.m = Γ.m) (h : Rel X tm hp z a w) (hs : stepOp Γ o tm hp K)
    (hd : ∀ d, o.dst = some d → d < n) (hn : a.tmps.size = n) (hN : Nxt X n K next) : o.wp P a w next Q := by
  unfold stepOp at hs
  split at hs
  case h_1 x ho =>
    rw [putC_eq] at hs
    exact fin (by simp [execOp, ho]) h (retype_rel _ (h.eval x)) hd hn hN hs
  case h_2 x ho =>
    rw [putC_eq] at hs
    exact fin (by simp [execOp, ho]) h (retype_rel _ (h.eval x)) hd hn hN hs
  case h_3 c x y ho =>
    have hc := h.eval c
    split at hs
    · rename_i t he
      rw [he] at hc
      have hc := hc.of_bool
      cases t with
      | true =>
        have hs := hs.1 rfl
        rw [putC_eq] at hs
        exact fin (by simp [execOp, ho, hc, asBool]) h (h.eval x) hd hn hN hs
      | false =>
        have hs := hs.2 rfl
        rw [putC_eq] at hs
        exact fin (by simp [execOp, ho, hc, asBool]) h (h.eval y) hd hn hN hs
    · exact hs.elim
  case h_4 t ho =>
    split at hs
    · rename_i e he
      split at hs
      · rename_i heo
        rw [putH_eq] at hs
        exact s_alloc hΓ h t e he heo hs ho hd hn hN.toS
      · exact hs.elim
    · exact hs.elim
  case h_5 t x ho =>
    split at hs
    · rename_i offs zr l hT he
      split at hs
      · rw [putH_eq] at hs
        exact s_box_struct hΓ h t x l he hs ho hd hn hN.toS
      · exact hs.elim
    · rename_i ks xs hT he
      obtain ⟨hpos, hs⟩ := hs
      rw [putH_eq] at hs
      exact s_box_arr h t x ks xs he hpos hs ho hd hn hN.toS
    · rename_i k m hT he
      rw [putH_eq] at hs
      exact s_box_int h t x k m he hs ho hd hn hN.toS
    · exact hs.elim
  case h_6 t x ho =>
    refine s_load hΓ h t x ?_ ho hd hn hN
    simpa only [putC_eq] using hs
  case h_7 t x y ho =>
    have hx := h.eval x
    have hy := h.eval y
    split at hs
    · rename_i k i c j hex hey
      split at hs
      · obtain ⟨rfl, h1, h2, hs⟩ := hs
        exact s_storeN hΓ h hm t x y k i j hex hey h1 h2 hs ho hd hn hN
      · rw [hex] at hx
        rw [hey] at hy
        refine s_store hΓ h t x y hx hy ?_ ho hd hn hN
        simpa only [putH_eq] using hs
    · refine s_store hΓ h t x y hx hy ?_ ho hd hn hN
      simpa only [putH_eq] using hs
  case h_8 x ho =>
    have hx := h.eval x
    split at hs
    · rename_i k c he
      rw [putC_eq] at hs
      rw [he] at hx
      have hx' := hx
      simp only [AVR] at hx'
      obtain ⟨_, b, _, hb⟩ := hx'
      exact fin (u := a.eval x) (by simp [execOp, ho, hb]) h hx hd hn hN hs
    · rename_i k i c he
      rw [putC_eq] at hs
      rw [he] at hx
      have hx' := hx
      simp only [AVR] at hx'
      obtain ⟨_, _, b, _, hb⟩ := hx'
      exact fin (u := a.eval x) (by simp [execOp, ho, hb]) h hx hd hn hN hs
    · exact hs.elim
  case h_9 op T x y yT ho =>
    refine s_bin hΓ h op T yT x y ?_ ho hd hn hN
    simpa only [putC_eq] using hs
  case h_10 T x ho =>
    have hx := h.eval x
    split at hs
    · rename_i b he
      rw [putC_eq] at hs
      rw [he] at hx
      have hx := hx.of_bool
      exact fin (u := .bool !b) (by simp [execOp, ho, hx, Op.unary]) h (by simp only [AVR]) hd hn hN hs
    · exact hs.elim
  case h_11 T x ho =>
    have hx := h.eval x
    split at hs
    · rename_i k m he
      obtain ⟨hf, hs⟩ := hs
      rw [putC_eq] at hs
      rw [he] at hx
      have hx := hx.of_int
      refine fin (u := .int k (0 - m)) ?_ h (by simp only [AVR]) hd hn hN hs
      have := wrap_fits hf
      simp only [execOp, ho, hx, Op.unary, Op.intArith, this]
      simp
    · exact hs.elim
  case h_12 T t x ho =>
    have hx := h.eval x
    split at hs
    · rename_i k0 k j m hT0 hT he
      obtain ⟨hf, hs⟩ := hs
      rw [putC_eq] at hs
      rw [he] at hx
      have hx := hx.of_int
      have hint : ∀ (t : Nat) (k : IntKind), Γ.τ t = .int k → P.underlying t = some (.int k) := by
        intro t k hT
        have ht := hΓ.tab t
        rw [hT] at ht
        simp only [checkTI, Bool.and_eq_true] at ht
        have := ht.1
        cases hu : P.underlying t with
        | none => rw [hu] at this; simp at this
        | some d => rw [hu] at this; cases d <;> simp at this; rw [this]
      refine fin (u := .int k m) ?_ h (by simp only [AVR]) hd hn hN hs
      have e1 : (convert T t (.int j m)).run P w = .ok (.int k m) w := by
        simp [convert, run_underlying (hint T k0 hT0), run_underlying (hint t k hT), Conv.intToInt, wrap_fits hf]
      simp only [execOp, ho, hx]
      simp [e1]
    · exact hs.elim
  case h_13 t l c ho => exact s_make hΓ h t l c hs ho hd hn hN.toS
  case h_14 t x lo hi ho =>
    split at hs
    · rename_i e esz eb ks hT
      exact s_slice hΓ h hm t e esz eb ks x lo hi hT hs ho hd hn hN.toS
    · exact hs.elim
  case h_15 t x f ho =>
    refine s_fieldAddr hΓ h t f x ?_ ho hd hn hN
    simpa only [putC_eq] using hs
  case h_16 t x ix ho =>
    refine s_indexAddr hΓ h t x ix ?_ ho hd hn hN
    simpa only [putC_eq] using hs
  case h_17 t m parts ho =>
    split at hs
    · rename_i e esz eb hT
      exact s_buildN hΓ h hm t m e esz eb [] parts hT hs ho hd hn hN.toS
    · rename_i e esz eb ks _ hT
      split at hs
      · rename_i xs hx
        split at hs
        · rename_i hl
          split at hs
          · exact hs.elim
          · rename_i hk
            split at hs
            · rename_i hb
              rw [putH_eq] at hs
              exact s_buildSlice hΓ h t m e esz eb ks parts xs hT hx hl hk hb hs ho hd hn hN.toS
            · exact hs.elim
        · exact hs.elim
      · exact hs.elim
    · exact hs.elim
  case h_18 x i ho =>
    have hx := h.eval x
    split at hs
    · rename_i l he
      split at hs
      · rename_i hlt
        rw [putC_eq] at hs
        rw [he] at hx
        simp only [AVR] at hx
        obtain ⟨vs, hv, hr⟩ := hx
        obtain ⟨u, hu, hru⟩ := hr.get i (by rw [← lenA_eq]; exact hlt)
        refine fin (u := u) ?_ h hru hd hn hN hs
        have : vs.toArray[i]? = some u := by simpa using hu
        simp [execOp, ho, hv, Instr.extract, this]
      · exact hs.elim
    · exact hs.elim
  case h_19 f first caps ho =>
    split at hs
    · rename_i hf
      obtain ⟨tm', hp', h, hs⟩ := s_caps hm caps.toList h hs
      rw [putTH_eq] at hs
      have hfirst : first = #[] := Array.eq_empty_of_size_eq_zero hf
      refine fin (u := .func (.func f) #[] (caps.map a.eval)) ?_ h ?_ hd hn hN hs
      · simp [execOp, ho, Instr.makeFunc, hfirst]
      · simp only [AVR]
        refine ⟨caps.toList.map a.eval, ?_, h.evals caps.toList⟩
        congr 1
        exact Array.ext' (by simp)
    · exact hs.elim
  case h_20 c ho =>
    split at hs
    · rename_i b hb
      exact s_builtin hΓ hm h b c ho hb hs hd hn hN
    · rename_i x hcal
      split at hs
      · rename_i f caps he
        exact s_call' hΓ hct hm h c x f caps ho hcal he hs hd hn hN
      · exact hs.elim
    · exact hs.elim
  case h_21 t parts ho => exact (r_pure hΓ hm h (by unfold stepOp; rw [ho]; exact hs) (fun c hc => by rw [ho] at hc; cases hc) (by rw [ho]; rfl) (by rw [ho]; rfl)).res.fin h hd hn hN
  case h_22 t x f ho => exact (r_pure hΓ hm h (by unfold stepOp; rw [ho]; exact hs) (fun c hc => by rw [ho] at hc; cases hc) (by rw [ho]; rfl) (by rw [ho]; rfl)).res.fin h hd hn hN
  case h_23 t x ix ho => exact (r_pure hΓ hm h (by unfold stepOp; rw [ho]; exact hs) (fun c hc => by rw [ho] at hc; cases hc) (by rw [ho]; rfl) (by rw [ho]; rfl)).res.fin h hd hn hN
  case h_24 => exact hs.elim

/-- An operation that leaves all memory as it was, but for what is new. -/
theorem s_grow (hΓ : CxOk P Γ) (hct : CtOk P Γ) (hm : X.m = Γ.m) (h : Rel X tm hp z a w) (hs : stepGrow Γ o tm hp K)
    (hd : ∀ d, o.dst = some d → d < n) (hn : a.tmps.size = n) (hN : NxtS X n w K next) : o.wp P a w next Q := by
  unfold stepGrow at hs
  split at hs
  · rename_i c ho
    split at hs
    case h_2 => exact hs.elim
    rename_i x hcal
    split at hs
    case h_2 => exact hs.elim
    rename_i f caps he
    split at hs
    case h_2 => exact hs.elim
    rename_i C hC
    obtain ⟨hids, hs⟩ := hs
    unfold stepOp at hs
    rw [ho] at hs
    simp only [hcal, he] at hs
    unfold stepCall' at hs
    simp only [hC, hids] at hs
    have hx := h.eval x
    rw [he] at hx
    simp only [AVR] at hx
    obtain ⟨cv, hx, hcr⟩ := hx
    have hargs := appA_rel (retypes_rel Γ.τ c.argTypes.toList (h.evals c.args.toList)) hcr
    refine s_call h f C (hct.sound f C hC) hC _ _ hargs hs ?_ hd hn (fun σ z a w h1 h2 h3 h4 => hN σ z a w h1 h2 h3 (h4.mono fun b hb => by rw [hids] at hb; simp [bl] at hb))
    have hca := hct.call f C hC
    have e1 : (c.args.toList.map a.eval ++ cv).toArray = c.args.map a.eval ++ cv.toArray := by
      apply Array.ext'
      simp
    rw [e1]
    have hca2 := hca (c.args.map a.eval ++ cv.toArray) w
    simp only [Array.append_assoc, Array.empty_append, execOp, ho, resolve, hcal, hx, Deferred.ofValue, invoke]
    simp [invoke]
    simpa using hca2
  · rename_i op hnc
    split at hs
    case isFalse => exact hs.elim
    rename_i hg
    by_cases hpr : isPure o.op = true ∨ isLoad o.op = true
    · have hro : readsOnly o.op = true := by
        cases ho : o.op <;> rw [ho] at hpr <;> simp [isPure, isLoad] at hpr <;> rfl
      obtain ⟨u, v, h1, h2, h3⟩ := r_op hΓ hm h hs (fun c hc => absurd hc (hnc c)) hro
      unfold Oper.wp
      rw [h1 w (Stp.refl _ w)]
      show next _ _
      exact hN ⟨putT tm o.dst v, hp⟩ z _ _ h3 (h.put o.dst (fun d e => by rw [hn]; exact hd d e) h2) (by rw [size_put]; exact hn) (Stp.refl _ w)
    · have hgr : grows o.op = true := by
        simp only [not_or, Bool.not_eq_true] at hpr
        simpa [hpr.1, hpr.2] using hg
      unfold stepOp at hs
      cases ho : o.op <;> rw [ho] at hgr <;> simp only [grows] at hgr <;> try (cases hgr; done)
      case alloc t =>
        rw [ho] at hs
        simp only at hs
        split at hs
        · rename_i e he
          split at hs
          · rename_i heo
            rw [putH_eq] at hs
            exact s_alloc hΓ h t e he heo hs ho hd hn hN
          · exact hs.elim
        · exact hs.elim
      case box t x =>
        rw [ho] at hs
        simp only at hs
        split at hs
        · rename_i offs zr l hT he
          split at hs
          · rw [putH_eq] at hs
            exact s_box_struct hΓ h t x l he hs ho hd hn hN
          · exact hs.elim
        · rename_i ks xs hT he
          obtain ⟨hpos, hs⟩ := hs
          rw [putH_eq] at hs
          exact s_box_arr h t x ks xs he hpos hs ho hd hn hN
        · rename_i k m hT he
          rw [putH_eq] at hs
          exact s_box_int h t x k m he hs ho hd hn hN
        · exact hs.elim
      case makeSlice t l c =>
        rw [ho] at hs
        exact s_make hΓ h t l c hs ho hd hn hN
      case slice t x lo hi mx =>
        cases mx with
        | some _ => rw [ho] at hs; simp only at hs
        | none =>
          rw [ho] at hs
          simp only at hs
          split at hs
          · rename_i e esz eb ks hT
            exact s_slice hΓ h hm t e esz eb ks x lo hi hT hs ho hd hn hN
          · exact hs.elim
      case buildSlice t m parts =>
        rw [ho] at hs
        simp only at hs
        split at hs
        · rename_i e esz eb hT
          exact s_buildN hΓ h hm t m e esz eb [] parts hT hs ho hd hn hN
        · rename_i e esz eb ks _ hT
          split at hs
          · rename_i xs hx
            split at hs
            · rename_i hl
              split at hs
              · exact hs.elim
              · rename_i hk
                split at hs
                · rename_i hb
                  rw [putH_eq] at hs
                  exact s_buildSlice hΓ h t m e esz eb ks parts xs hT hx hl hk hb hs ho hd hn hN
                · exact hs.elim
            · exact hs.elim
          · exact hs.elim
        · exact hs.elim
end

end Go.Proofs.Ytkjbgdhpeidocaa.V
