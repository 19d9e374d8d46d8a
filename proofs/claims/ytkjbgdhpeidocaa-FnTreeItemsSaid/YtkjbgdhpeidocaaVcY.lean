/-
  A verified generator of verification conditions over the model's Code, part Y: a function does what its contract says.
-/
import Derived.Test.YtkjbgdhpeidocaaVcW
set_option linter.unusedSimpArgs false
set_option linter.unusedVariables false
namespace Go.Proofs.Ytkjbgdhpeidocaa.V
open Go Go.RowKit

section
variable {P : Program} {Γ : Cx} {X : Fx} {tm : List (Nat × AV)} {hp : List (Option Entry)} {z : Cz} {a : Act} {w w' : World} {n : Nat} {ok : Nat → Prop}

/-- The places that were handed over, at the end. -/
theorem io_end (h : Rel X tm hp z a w') (hok : ∀ b, okB X hp z w' b → ok b) {V : Nat → Prop} (hV : ∀ b, V b → ok b ∧ w'.heap[b]? = w.heap[b]?) {ok0 lv0 : Nat → Prop} {z0 : Cz}
    (h0 : ∀ k, k < X.m → X.ρ0 k = z0.ρ k) : ∀ {ds : List AV} {hp0 : List (Option Entry)} {vs : List Value} {B : List Nat} {io : List AV}, argsOk ds = true → D2s V w ds vs B →
    AVRs ok0 lv0 w z0 (matL2 hp0 ds).1 vs → (∀ k ks xs, lookH (matL2 hp0 ds).2 k = some (.arr ks xs) → ∃ b, z0.ρ k = .pointer (some ⟨b, 0, none⟩)) → (matL2 hp0 ds).2.length ≤ X.m →
    formL ds (mergeIo ds io) = true → ioLeL2 hp hp0.length (mergeIo ds io) → D2s ok w' (mergeIo ds io) vs B
  | [], hp0, vs, B, io, _, hd, _, _, _, _, _ => by simp only [D2s] at hd; simp [mergeIo, D2s, hd]
  | d :: ds, hp0, vs, B, io, ha, hd, hav, harr, hlen, hf, hio => by
    have ha2 : argsOk [d] = true ∧ argsOk ds = true := by cases d <;> simp_all [argsOk]
    simp only [D2s] at hd
    obtain ⟨u, us, B1, B2, rfl, rfl, h1, h2⟩ := hd
    obtain ⟨c, io', hm, hcd⟩ := merge_cons d ds io
    rw [hm] at hf hio ⊢
    simp only [matL2, AVRs] at hav
    obtain ⟨u', us', e1, a1, a2⟩ := hav
    simp only [List.cons.injEq] at e1
    obtain ⟨rfl, rfl⟩ := e1
    simp only [formL, Bool.and_eq_true, beq_iff_eq] at hf
    simp only [matL2] at harr hlen
    simp only [D2s]
    by_cases hd : handed d = true
    · have hc : handed c = true := by rw [← hf.1]; exact hd
      obtain ⟨e, he, hshape⟩ := mat2_handed hp0 hd
      rw [he] at harr hlen a2
      have hlp : (pushH hp0 e).length = hp0.length + 1 := length_push _ _
      simp only [ioLeL2, hc, if_true] at hio
      have hmono : ∀ (l : List AV) (hp1 : List (Option Entry)), hp1.length ≤ (matL2 hp1 l).2.length := by
        have hm2 : ∀ (v : AV) (hp1 : List (Option Entry)), hp1.length ≤ (mat2 hp1 v).2.length := by
          have hm1 : ∀ (v : AV) (hp1 : List (Option Entry)), hp1.length ≤ (mat1 hp1 v).2.length := by
            intro v hp1; cases v <;> simp [mat1, length_push]
          have hmL : ∀ (l : List AV) (hp1 : List (Option Entry)), hp1.length ≤ (matL hp1 l).2.length := by
            intro l
            induction l with
            | nil => intro hp1; simp [matL]
            | cons v l ih => intro hp1; simp only [matL]; exact Nat.le_trans (hm1 v hp1) (ih _)
          intro v hp1
          cases v <;> simp only [mat2] <;> first | exact hm1 _ _ | exact hmL _ _ | simp [length_push]
        intro l
        induction l with
        | nil => intro hp1; simp [matL2]
        | cons v l ih => intro hp1; simp only [matL2]; exact Nat.le_trans (hm2 v hp1) (ih _)
      have hk : lenH hp0 < X.m := by
        have := hmono ds (pushH hp0 e)
        rw [hlp] at this
        rw [lenH_eq]; omega
      have hlook : ∀ (l : List AV) (hp1 : List (Option Entry)) (k : Nat), k < hp1.length → lookH (matL2 hp1 l).2 k = lookH hp1 k := by
        have hp1' : ∀ (hp1 : List (Option Entry)) (e : Entry) (k : Nat), k < hp1.length → lookH (pushH hp1 e) k = lookH hp1 k := fun hp1 e k hk => by rw [lookH_push, if_neg (by rw [lenH_eq]; omega)]
        have hm1 : ∀ (v : AV) (hp1 : List (Option Entry)) (k : Nat), k < hp1.length → lookH (mat1 hp1 v).2 k = lookH hp1 k := by
          intro v hp1 k hk; cases v <;> simp only [mat1] <;> exact hp1' _ _ _ hk
        have hmL : ∀ (l : List AV) (hp1 : List (Option Entry)) (k : Nat), k < hp1.length → lookH (matL hp1 l).2 k = lookH hp1 k := by
          intro l
          induction l with
          | nil => intro hp1 k _; simp [matL]
          | cons v l ih =>
            intro hp1 k hk
            simp only [matL]
            have : hp1.length ≤ (mat1 hp1 v).2.length := by cases v <;> simp [mat1, length_push]
            rw [ih _ k (by omega), hm1 v hp1 k hk]
        have hm2 : ∀ (v : AV) (hp1 : List (Option Entry)) (k : Nat), k < hp1.length → lookH (mat2 hp1 v).2 k = lookH hp1 k := by
          intro v hp1 k hk
          cases v <;> simp only [mat2] <;> first | exact hm1 _ _ _ hk | exact hmL _ _ _ hk | exact hp1' _ _ _ hk
        intro l
        induction l with
        | nil => intro hp1 k _; simp [matL2]
        | cons v l ih =>
          intro hp1 k hk
          simp only [matL2]
          have := hmono [v] hp1
          simp only [matL2] at this
          rw [ih _ k (by omega), hm2 v hp1 k hk]
      have hu : u = z0.ρ (lenH hp0) := by
        rcases hshape with q | q | ⟨q, ks, xs, rfl⟩ <;> rw [q] at a1 <;> simp only [AVR] at a1
        · exact a1.2
        · obtain ⟨_, b, h1, h2⟩ := a1; rw [h1]; exact h2
        · obtain ⟨_, _, b, h1, h2⟩ := a1
          obtain ⟨b', hb'⟩ := harr (lenH hp0) ks xs (by rw [hlook _ _ _ (by rw [hlp, lenH_eq]; omega), lookH_push, if_pos rfl])
          rw [hb'] at h1 ⊢
          simp only [blk, Option.some.injEq] at h1
          subst h1
          simpa using h2
      rw [← lenH_eq] at hio
      obtain ⟨hl, hw2, hd2⟩ := io_rel1 h hok hc hio.1
      have hz : z.ρ (lenH hp0) = u := by rw [h.io _ hk hl, h0 _ hk, ← hu]
      have hbs : z.bs (lenH hp0) = (blk u).toList := by
        rw [Cz.bs_nil hw2, hz]
      rw [hbs, hz] at hd2
      rw [← h1.B_blk hd] at hd2
      refine ⟨u, us, B1, B2, rfl, rfl, hd2, io_end h hok hV h0 ha2.2 h2 a2 harr hlen hf.2 ?_⟩
      rw [hlp, ← lenH_eq]; exact hio.2
    · have hd' : handed d = false := by simpa using hd
      have := hcd hd'
      subst this
      rw [mat2_unhanded hp0 hd' ha2.1] at a2 harr hlen
      simp only [ioLeL2, hd', Bool.false_eq_true, if_false] at hio
      exact ⟨u, us, B1, B2, rfl, rfl, h1.still hd' ha2.1 hV, io_end h hok hV h0 ha2.2 h2 a2 harr hlen hf.2 hio⟩

theorem params_look {ok lv : Nat → Prop} : ∀ {l : List AV} {vs : List Value} (i : Nat) (rest : List Value), AVRs ok lv w z l vs → ∀ t, AVR ok lv w z (lookT (paramsT i l) (i + t)) ((vs ++ rest).getD t undef)
  | [], vs, i, rest, h, t => by simp [paramsT, lookT, AVR]
  | v :: l, vs, i, rest, h, t => by
    simp only [AVRs] at h
    obtain ⟨u, us, rfl, h1, h2⟩ := h
    simp only [paramsT, lookT_cons]
    cases t with
    | zero => simpa using h1
    | succ t =>
      rw [if_neg (by omega)]
      have := params_look (i + 1) rest h2 t
      have e : i + 1 + t = i + (t + 1) := by omega
      rw [e] at this
      simpa using this
theorem params_low : ∀ (l : List AV) (i t : Nat), t < i → lookT (paramsT i l) t = .top
  | [], i, t, _ => rfl
  | v :: l, i, t, h => by simp only [paramsT, lookT_cons]; rw [if_neg (by omega)]; exact params_low l (i + 1) t (by omega)

def resF (tmps : Array Value) : ResultVar → Sem Value
  | .tmp t => pure (tmps.getD t undef)
  | .cell c t => do loadVar t (← asAddr (tmps.getD c undef))
theorem results_eq (fn : Func) (tmps : Array Value) : results fn tmps = (do
    let vs ← fn.results.mapM (resF tmps)
    pure (if h : vs.size = 1 then vs[0] else .tuple vs)) := by
  unfold results
  have : (fun (r : ResultVar) => (match r with
    | .tmp t => pure (tmps.getD t undef)
    | .cell a t => do loadVar t (← asAddr (tmps.getD a undef)) : Sem Value)) = resF tmps := by
    funext r; cases r <;> rfl
  rw [← this]
  rfl
def packV : List Value → Value
  | [u] => u
  | l => .tuple l.toArray
/-- What is handed back, as values. -/
theorem res_run (hΓ : CxOk P Γ) (h : Rel X tm hp z a w) : ∀ {res : List ResultVar} {C : List AV → Prop}, resV Γ tm hp res C →
    ∃ (us : List Value) (vs : List AV), (res.mapM (resF a.tmps)).run P w = .ok us w ∧ AVRs (okB X hp z w) (live hp) w z vs us ∧ C vs ∧ us.length = res.length
  | [], C, hs => ⟨[], [], by simp, by simp [AVRs], hs, rfl⟩
  | .tmp t :: r, C, hs => by
    simp only [resV] at hs
    obtain ⟨us, vs, h1, h2, h3, h4⟩ := res_run hΓ h hs
    have e : (resF a.tmps (.tmp t)).run P w = .ok (a.tmps.getD t undef) w := by simp [resF]
    refine ⟨a.tmps.getD t undef :: us, lookT tm t :: vs, ?_, ?_, h3, by simp [h4]⟩
    · generalize a.tmps.getD t undef = u at e ⊢
      rw [List.mapM_cons]
      simp [h1, e]
    · simp only [AVRs]; exact ⟨_, _, rfl, h.tms t, h2⟩
  | .cell c t :: r, C, hs => by
    simp only [resV] at hs
    obtain ⟨ad, u, v, he, hv, hs, hr⟩ := load_run hΓ h t (.tmp c) hs
    have he : a.tmps.getD c undef = .pointer (some ad) := he
    have hr := hr w (Stp.refl _ w)
    obtain ⟨us, vs, h1, h2, h3, h4⟩ := res_run hΓ h hs
    have e : (resF a.tmps (.cell c t)).run P w = .ok u w := by
      show Sem.run P (do loadVar t (← asAddr (a.tmps.getD c undef))) w = .ok u w
      rw [he]
      simp [asAddr, hr]
    refine ⟨u :: us, v :: vs, ?_, ?_, h3, by simp [h4]⟩
    · rw [List.mapM_cons]
      simp [h1, e]
    · simp only [AVRs]; exact ⟨_, _, rfl, hv, h2⟩

/-- A FUNCTION DOES WHAT ITS CONTRACT SAYS, if its verification condition holds. -/
theorem sound_of {f : Nat} {fn : Func} {c : Code} {C : Ct} {res : List ResultVar} (hf : P.funcs[f]? = some fn) (hb : fn.body = some c) (hnt : fn.ntmps = n) (hres : fn.results = res.toArray)
    {tr : Nat → Option (Bool × Tr)} (hcode : codeOk n tr c = true)
    (H : ∀ ds K, C.rel ds K → argsOk ds = true ∧ ds.length ≤ n ∧ ∃ Γ : Cx, Γ.tr = tr ∧ CxOk P Γ ∧ CtOk P Γ ∧ Γ.m = lenH (matL2 [] ds).2 ∧
      vcg Γ c (fun e σ => match e with | .normal => ends Γ res ds K σ | .ret => ends Γ res ds K σ | _ => False) (initSt ds)) : Sound P f C := by
  intro V w ds vs B K hgl hds hBn hV hB hrel
  obtain ⟨hargs, hlen, Γ, htr, hΓ, hct, hm, hvc⟩ := H ds K hrel
  rw [← htr] at hcode
  have hvl : vs.length = ds.length := by
    have : ∀ {ds : List AV} {vs : List Value} {B : List Nat}, D2s V w ds vs B → vs.length = ds.length := by
      intro ds
      induction ds with
      | nil => intro vs B h; simp only [D2s] at h; simp [h]
      | cons d ds ih => intro vs B h; simp only [D2s] at h; obtain ⟨u, us, _, _, rfl, _, _, h2⟩ := h; simp [ih h2]
    exact this hds
  have hds' : D2s (fun b => V b ∧ b < w.heap.size ∧ b ∉ B) w ds vs B := hds.mono (fun b hb => ⟨hb, hV b hb⟩)
  obtain ⟨z0, hext, hcore, hav⟩ := matL2_laid (hp := []) (z := dz) (S := fun _ => False) ⟨fun k e he => by cases k <;> simp [lookH] at he, fun j k b hj => by unfold live at hj; cases j <;> simp [lookH] at hj, fun k b hk => by unfold live at hk; cases k <;> simp [lookH] at hk⟩ hds' (fun _ _ => id) hBn
  let X : Fx := { w0 := w, V := V, I := fun b => b ∈ B, m := (matL2 [] ds).2.length, ρ0 := z0.ρ, gl := hgl, G := fun _ => False, gi := fun _ h => h.elim }
  have hokx : ∀ b, (V b ∧ b < w.heap.size ∧ b ∉ B) → okB X (matL2 [] ds).2 z0 w b := fun b hb => ⟨.inl hb.1, hb.2.1, fun k hk e => by
    rcases hcore.own k b hk e with q | q
    · exact q
    · exact hb.2.2 q⟩
  refine calls_of_wp hf hb ?_
  have hR : Rel X (paramsT 0 (matL2 [] ds).1) (matL2 [] ds).2 z0 { tmps := vs.toArray ++ Array.replicate (fn.ntmps - vs.toArray.size) undef, defers := [] } w := {
    tms := fun t => by
      have h1 := params_look 0 (List.replicate (fn.ntmps - vs.toArray.size) undef) hav t
      rw [Nat.zero_add] at h1
      have e : (vs.toArray ++ Array.replicate (fn.ntmps - vs.toArray.size) undef).getD t undef = (vs ++ List.replicate (fn.ntmps - vs.toArray.size) undef).getD t undef := by
        rw [Array.getD_eq_getD_getElem?, List.getD_eq_getElem?_getD, ← Array.getElem?_toList]
        simp
      show AVR _ _ _ _ _ ((vs.toArray ++ Array.replicate (fn.ntmps - vs.toArray.size) undef).getD t undef)
      rw [e]
      exact AVR.mono hokx (fun _ _ => rfl) (fun k hk => ⟨hk, rfl, rfl, rfl⟩) _ _ h1
    ens := fun k e he => (hcore.ens k e he).mono hokx (fun _ _ => rfl) (fun k hk => ⟨hk, rfl, rfl, rfl⟩) ⟨rfl, rfl, rfl⟩ (fun _ _ => rfl)
    dj := hcore.dj
    own := fun k b hk hb => by
      have hbB : b ∈ B := by
        rcases hcore.own k b hk hb with q | q
        · exact q.elim
        · exact q
      refine ⟨hB b hbB, fun _ => hbB, fun q => ?_⟩
      obtain ⟨e, he⟩ := live_get hk
      have := lookH_lt he
      have q' : (matL2 [] ds).2.length ≤ k := q
      omega
    io := fun k _ _ => rfl
    mm := Nat.le_refl _
    fr := fun _ _ _ => rfl
    os := rfl, tape := rfl, output := rfl, size := Nat.le_refl _, df := rfl }
  have hmX : X.m = Γ.m := by rw [hm, lenH_eq]
  have hnw : ∀ b, X.nw b → w.heap.size ≤ b := fun b q => q.elim id (fun h => h.elim)
  have hsize : ({ tmps := vs.toArray ++ Array.replicate (fn.ntmps - vs.toArray.size) undef, defers := [] } : Act).tmps.size = n := by
    simp [hnt, hvl]; omega
  refine wp_mono (s_vcg hΓ hct hmX c _ (initSt ds) z0 _ w hcode hvc hR hsize) ?_
  -- the end
  have fin : ∀ (σ : St) (z : Cz) (a : Act) (w' : World), ends Γ res ds K σ → Rel X σ.tm σ.hp z a w' → a.defers = [] ∧ ∃ v, (results fn a.tmps).run P w' = .ok v w' ∧
      (∃ v' r io B', Ending.returned v = .returned v' ∧ K r io ∧ D3 (fun b => (V b ∨ w.heap.size ≤ b) ∧ b < w'.heap.size ∧ b ∉ B ∧ b ∉ B') w' r v' B' ∧ B'.Nodup ∧ (∀ b ∈ B', w.heap.size ≤ b ∧ b < w'.heap.size) ∧
        D2s (fun b => (V b ∨ w.heap.size ≤ b) ∧ b < w'.heap.size ∧ b ∉ B ∧ b ∉ B') w' (mergeIo ds io) vs B ∧ Stp (fun b => b ∈ B) w w') := by
    intro σ z a w' he h
    obtain ⟨tm, hp⟩ := σ
    simp only [ends] at he
    obtain ⟨us, vs2, hrun, hevs, ⟨r, io, hK, hout, hnd, hap, hform, hio⟩, _⟩ := res_run hΓ h he
    have hrun : (results fn a.tmps).run P w' = .ok (packV us) w' := by
      rw [results_eq, hres, List.mapM_toArray]
      match us, hrun with
      | [], hrun => simp [hrun, packV]
      | [_], hrun => simp [hrun, packV]
      | _ :: _ :: _, hrun => simp [hrun, packV]
    generalize hv : packV us = v at hrun
    refine ⟨h.df, v, hrun, v, r, io, bl z (oids3 vs2 r), rfl, hK, ?_⟩
    have hids : ∀ k ∈ oids3 vs2 r, Γ.m ≤ k ∧ live hp k := by
      intro k hk
      unfold out3 at hout
      unfold oids3 at hk
      split at hout
      · rename_i v0
        exact oids_live2 hout k hk
      · rename_i hne
        split at hk
        · exact absurd rfl (hne _)
        · split at hout
          · exact oids_liveL2 hout k hk
          · exact hout.elim
    have hB' : ∀ b ∈ bl z (oids3 vs2 r), w.heap.size ≤ b ∧ b < w'.heap.size := by
      intro b hb
      obtain ⟨k, hk, hbk⟩ := bl_mem hb
      obtain ⟨h1, h2⟩ := hids k hk
      obtain ⟨q1, _, q3⟩ := h.own k b h2 hbk
      exact ⟨hnw b (q3 (by rw [hmX]; exact h1)), q1⟩
    have hnotB' : ∀ b, okB X hp z w' b → b ∉ bl z (oids3 vs2 r) := by
      intro b hb hm'
      obtain ⟨k, hk, hbk⟩ := bl_mem hm'
      exact hb.2.2 k (hids k hk).2 hbk
    have hok : ∀ b, okB X hp z w' b → ((V b ∨ w.heap.size ≤ b) ∧ b < w'.heap.size ∧ b ∉ B ∧ b ∉ bl z (oids3 vs2 r)) := by
      intro b hb
      refine ⟨hb.1.imp id (hnw b), hb.2.1, fun hm' => ?_, hnotB' b hb⟩
      rcases hb.1 with q | q
      · exact (hV b q).2 hm'
      · have := hB b hm'
        have q' : w.heap.size ≤ b := hnw b q
        omega
    have hshown : ∀ k, Γ.m ≤ k → k ∉ oids3 vs2 r → ∀ b, live hp k → z.bk k b → ((V b ∨ w.heap.size ≤ b) ∧ b < w'.heap.size ∧ b ∉ B ∧ b ∉ bl z (oids3 vs2 r)) := by
      intro k hk hni b hl hbk
      obtain ⟨q1, _, q3⟩ := h.own k b hl hbk
      have q4 : w.heap.size ≤ b := hnw b (q3 (by rw [hmX]; exact hk))
      refine ⟨.inr q4, q1, fun hm' => by have := hB b hm'; omega, fun hm' => ?_⟩
      obtain ⟨k', hk', hbk'⟩ := bl_mem hm'
      have := h.dj k' k b (hids k' hk').2 hl hbk' hbk
      subst this
      exact hni hk'
    have hapn : ∀ k ∈ oshown3 vs2 r, k ∉ oids3 vs2 r := fun k hk hk2 => apartN_iff hap k hk2 hk
    refine ⟨?_, bl_nodup h.dj (fun k hk => by obtain ⟨e, he⟩ := live_get hk; exact (h.ens k e he).nodup) (nodupN_iff hnd) (fun k hk => (hids k hk).2), hB', ?_, ?_⟩
    · subst hv
      match vs2, us, hevs, hout, hapn, hnd, hids, hB', hnotB', hok, hshown with
      | [v1], us, hevs, hout, hapn, hnd, hids, hB', hnotB', hok, hshown =>
        simp only [AVRs] at hevs
        obtain ⟨u1, _, rfl, hu1, rfl⟩ := hevs
        simp only [out3] at hout
        have := out2_rel (ok := fun b => (V b ∨ w.heap.size ≤ b) ∧ b < w'.heap.size ∧ b ∉ B ∧ b ∉ bl z (oids3 [v1] r)) h hok (fun k hk => hshown k (oshown_m2 hout k hk) (hapn k (by simpa [oshown3] using hk))) hu1 hout
        have hnt2 : ∀ l, r ≠ .tup l := by
          intro l e; subst e; simp [out2, out1] at hout
        cases r <;> first | exact absurd rfl (hnt2 _) | (simp only [D3]; exact this)
      | [], us, hevs, hout, hapn, hnd, hids, hB', hnotB', hok, hshown =>
        simp only [AVRs] at hevs
        subst hevs
        simp only [out3] at hout
        split at hout
        · rename_i s
          simp only [D3]
          exact ⟨_, rfl, outL2_rel h hok (fun k hk => hshown k (oshown_mL2 hout k hk) (hapn k (by simpa [oshown3] using hk))) (by simp [AVRs]) hout⟩
        · exact hout.elim
      | v1 :: v2 :: l, us, hevs, hout, hapn, hnd, hids, hB', hnotB', hok, hshown =>
        have hevs' := hevs
        simp only [AVRs] at hevs'
        obtain ⟨u1, _, rfl, _, u2, us', rfl, _, _⟩ := hevs'
        simp only [out3] at hout
        split at hout
        · rename_i q
          simp only [D3]
          exact ⟨_, rfl, outL2_rel h hok (fun k hk => hshown k (oshown_mL2 hout k hk) (hapn k (by simpa [oshown3] using hk))) hevs hout⟩
        · exact hout.elim
    · refine io_end (w := w) h hok (V := V) (fun b hb => ⟨⟨.inl hb, Nat.lt_of_lt_of_le (hV b hb).1 h.size, (hV b hb).2, fun hm' => by have := (hB' b hm').1; have := (hV b hb).1; omega⟩, h.fr b (hV b hb).1 (hV b hb).2⟩) (fun k _ => rfl) hargs hds hav ?_ (Nat.le_refl _) hform hio
      intro k ks xs hk
      obtain ⟨b, _, _, hb, _⟩ := hcore.ens k _ hk
      exact ⟨b, hb⟩
    · exact ⟨h.os, h.tape, h.output, h.size, fun b hb hn => h.fr b hb hn⟩
  rintro e a w' ⟨σ, z, hq, hR', _⟩
  cases e with
  | normal => exact fin σ z a w' hq hR'
  | ret => exact fin σ z a w' hq hR'
  | exit id => exact hq.elim
  | goto l => exact hq.elim
  | panic ch => exact hq.elim
  | outgrown => exact hq.elim

theorem gives_of {f : Nat} {fn : Func} {c : Code} {rel : List AV → (AV → Prop) → Prop} {res : List ResultVar} (hf : P.funcs[f]? = some fn) (hb : fn.body = some c) (hnt : fn.ntmps = n) (hres : fn.results = res.toArray)
    {tr : Nat → Option (Bool × Tr)} (hcode : codeOk n tr c = true)
    (H : ∀ ds K, rel ds K → ds.length ≤ n ∧ ∃ Γ : Cx, Γ.tr = tr ∧ CxOk P Γ ∧ CtOk P Γ ∧ Γ.m = 0 ∧
      vcg Γ c (fun e σ => match e with | .normal => ends Γ res [] (fun r _ => K r) σ | .ret => ends Γ res [] (fun r _ => K r) σ | _ => False) (initSt ds)) : Gives P f rel := by
  intro V w ds vs B K hgl hds hBn hV hB hrel
  obtain ⟨hlen, Γ, htr, hΓ, hct, hm, hvc⟩ := H ds K hrel
  rw [← htr] at hcode
  have hvl : vs.length = ds.length := by
    have : ∀ {ds : List AV} {vs : List Value} {B : List Nat}, D2s V w ds vs B → vs.length = ds.length := by
      intro ds
      induction ds with
      | nil => intro vs B h; simp only [D2s] at h; simp [h]
      | cons d ds ih => intro vs B h; simp only [D2s] at h; obtain ⟨u, us, _, _, rfl, _, _, h2⟩ := h; simp [ih h2]
    exact this hds
  have hds' : D2s (fun b => V b ∧ b < w.heap.size ∧ b ∉ B) w ds vs B := hds.mono (fun b hb => ⟨hb, hV b hb⟩)
  obtain ⟨z0, hext, hcore, hav⟩ := matL2_laid (hp := []) (z := dz) (S := fun _ => False) ⟨fun k e he => by cases k <;> simp [lookH] at he, fun j k b hj => by unfold live at hj; cases j <;> simp [lookH] at hj, fun k b hk => by unfold live at hk; cases k <;> simp [lookH] at hk⟩ hds' (fun _ _ => id) hBn
  let X : Fx := { w0 := w, V := V, I := fun b => b ∈ B, m := 0, ρ0 := z0.ρ, gl := hgl, G := fun b => b ∈ B, gi := fun _ h => h }
  have hokx : ∀ b, (V b ∧ b < w.heap.size ∧ b ∉ B) → okB X (matL2 [] ds).2 z0 w b := fun b hb => ⟨.inl hb.1, hb.2.1, fun k hk e => by
    rcases hcore.own k b hk e with q | q
    · exact q
    · exact hb.2.2 q⟩
  refine calls_of_wp hf hb ?_
  have hR : Rel X (paramsT 0 (matL2 [] ds).1) (matL2 [] ds).2 z0 { tmps := vs.toArray ++ Array.replicate (fn.ntmps - vs.toArray.size) undef, defers := [] } w := {
    tms := fun t => by
      have h1 := params_look 0 (List.replicate (fn.ntmps - vs.toArray.size) undef) hav t
      rw [Nat.zero_add] at h1
      have e : (vs.toArray ++ Array.replicate (fn.ntmps - vs.toArray.size) undef).getD t undef = (vs ++ List.replicate (fn.ntmps - vs.toArray.size) undef).getD t undef := by
        rw [Array.getD_eq_getD_getElem?, List.getD_eq_getElem?_getD, ← Array.getElem?_toList]
        simp
      show AVR _ _ _ _ _ ((vs.toArray ++ Array.replicate (fn.ntmps - vs.toArray.size) undef).getD t undef)
      rw [e]
      exact AVR.mono hokx (fun _ _ => rfl) (fun k hk => ⟨hk, rfl, rfl, rfl⟩) _ _ h1
    ens := fun k e he => (hcore.ens k e he).mono hokx (fun _ _ => rfl) (fun k hk => ⟨hk, rfl, rfl, rfl⟩) ⟨rfl, rfl, rfl⟩ (fun _ _ => rfl)
    dj := hcore.dj
    own := fun k b hk hb => by
      have hbB : b ∈ B := by
        rcases hcore.own k b hk hb with q | q
        · exact q.elim
        · exact q
      exact ⟨hB b hbB, fun _ => hbB, fun _ => .inr hbB⟩
    io := fun k hk => absurd hk (Nat.not_lt_zero k)
    mm := Nat.zero_le _
    fr := fun _ _ _ => rfl
    os := rfl, tape := rfl, output := rfl, size := Nat.le_refl _, df := rfl }
  have hmX : X.m = Γ.m := by rw [hm]
  have hsize : ({ tmps := vs.toArray ++ Array.replicate (fn.ntmps - vs.toArray.size) undef, defers := [] } : Act).tmps.size = n := by
    simp [hnt, hvl]; omega
  refine wp_mono (s_vcg hΓ hct hmX c _ (initSt ds) z0 _ w hcode hvc hR hsize) ?_
  have fin : ∀ (σ : St) (z : Cz) (a : Act) (w' : World), ends Γ res [] (fun r _ => K r) σ → Rel X σ.tm σ.hp z a w' → a.defers = [] ∧ ∃ v, (results fn a.tmps).run P w' = .ok v w' ∧
      (∃ v' r B', Ending.returned v = .returned v' ∧ K r ∧ D3 (fun _ => True) w' r v' B' ∧ B'.Nodup ∧ (∀ b ∈ B', (w.heap.size ≤ b ∨ b ∈ B) ∧ b < w'.heap.size) ∧ Stp (fun b => b ∈ B) w w') := by
    intro σ z a w' he h
    obtain ⟨tm, hp⟩ := σ
    simp only [ends] at he
    obtain ⟨us, vs2, hrun, hevs, ⟨r, io, hK, hout, hnd, _, _, _⟩, _⟩ := res_run hΓ h he
    have hrun : (results fn a.tmps).run P w' = .ok (packV us) w' := by
      rw [results_eq, hres, List.mapM_toArray]
      match us, hrun with
      | [], hrun => simp [hrun, packV]
      | [_], hrun => simp [hrun, packV]
      | _ :: _ :: _, hrun => simp [hrun, packV]
    generalize hv : packV us = v at hrun
    refine ⟨h.df, v, hrun, v, r, bl z (oids3 vs2 r), rfl, hK, ?_⟩
    have hids : ∀ k ∈ oids3 vs2 r, Γ.m ≤ k ∧ live hp k := by
      intro k hk
      unfold out3 at hout
      unfold oids3 at hk
      split at hout
      · rename_i v0
        exact oids_live2 hout k hk
      · rename_i hne
        split at hk
        · exact absurd rfl (hne _)
        · split at hout
          · exact oids_liveL2 hout k hk
          · exact hout.elim
    have hB' : ∀ b ∈ bl z (oids3 vs2 r), (w.heap.size ≤ b ∨ b ∈ B) ∧ b < w'.heap.size := by
      intro b hb
      obtain ⟨k, hk, hbk⟩ := bl_mem hb
      obtain ⟨h1, h2⟩ := hids k hk
      obtain ⟨q1, _, q3⟩ := h.own k b h2 hbk
      exact ⟨q3 (by rw [hmX]; exact h1), q1⟩
    refine ⟨?_, bl_nodup h.dj (fun k hk => by obtain ⟨e, he⟩ := live_get hk; exact (h.ens k e he).nodup) (nodupN_iff hnd) (fun k hk => (hids k hk).2), hB', ?_⟩
    · subst hv
      match vs2, us, hevs, hout, hids with
      | [v1], us, hevs, hout, hids =>
        simp only [AVRs] at hevs
        obtain ⟨u1, _, rfl, hu1, rfl⟩ := hevs
        simp only [out3] at hout
        have := out2_rel (ok := fun _ => True) h (fun _ _ => trivial) (fun _ _ _ _ _ => trivial) hu1 hout
        have hnt2 : ∀ l, r ≠ .tup l := by
          intro l e; subst e; simp [out2, out1] at hout
        cases r <;> first | exact absurd rfl (hnt2 _) | (simp only [D3]; exact this)
      | [], us, hevs, hout, hids =>
        simp only [AVRs] at hevs
        subst hevs
        simp only [out3] at hout
        split at hout
        · rename_i s
          simp only [D3]
          exact ⟨_, rfl, outL2_rel h (fun _ _ => trivial) (fun _ _ _ _ _ => trivial) (by simp [AVRs]) hout⟩
        · exact hout.elim
      | v1 :: v2 :: l, us, hevs, hout, hids =>
        have hevs' := hevs
        simp only [AVRs] at hevs'
        obtain ⟨u1, _, rfl, _, u2, us', rfl, _, _⟩ := hevs'
        simp only [out3] at hout
        split at hout
        · rename_i q
          simp only [D3]
          exact ⟨_, rfl, outL2_rel h (fun _ _ => trivial) (fun _ _ _ _ _ => trivial) hevs hout⟩
        · exact hout.elim
    · exact ⟨h.os, h.tape, h.output, h.size, fun b hb hn => h.fr b hb hn⟩
  rintro e a w' ⟨σ, z, hq, hR', _⟩
  cases e with
  | normal => exact fin σ z a w' hq hR'
  | ret => exact fin σ z a w' hq hR'
  | exit id => exact hq.elim
  | goto l => exact hq.elim
  | panic ch => exact hq.elim
  | outgrown => exact hq.elim
end

end Go.Proofs.Ytkjbgdhpeidocaa.V
