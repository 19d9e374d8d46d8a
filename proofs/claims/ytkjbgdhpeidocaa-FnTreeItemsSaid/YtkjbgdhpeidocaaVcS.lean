/-
  A verified generator of verification conditions over the model's Code, part S: every operation, a region, all of a function's code.
-/
import Derived.Test.YtkjbgdhpeidocaaVcR
set_option linter.unusedSimpArgs false
set_option linter.unusedVariables false
namespace Go.Proofs.Ytkjbgdhpeidocaa.V
open Go Go.RowKit

/-- A call of a function comes to its body. -/
def Callable (P : Program) (f : Nat) : Prop := ∀ (args : Array Value) (w : World), (callFunc f args).run P w = .ok (.enter f args) w
theorem callable_of {P : Program} {f : Nat} {fn : Func} {c : Code} (hf : P.funcs[f]? = some fn) (hb : fn.body = some c) (hn : (fn.name == "runtime.NumGoroutine") = false) : Callable P f := by
  intro args w
  have hn' : ¬ fn.name = "runtime.NumGoroutine" := by simpa using hn
  simp [callFunc, hf, hb, hn']

/-- A function takes the rows from i up to j out of a slice in place and gives back what is left. -/
structure DelOk (P : Program) (f e : Nat) (ks : List Kd) : Prop where
  call : Callable P f
  run : ∀ (w : World) (v : Value) (xs : List Row) (i j : Nat), w.ownsRow 0 e (lenK ks) v xs.length (flat ks xs) → i < j → j ≤ xs.length →
    Calls P f #[v, .int .i64 (i : Int), .int .i64 (j : Int)] w fun ex w' => ∃ v', ex = .returned v' ∧
      w'.ownsRow 0 e (lenK ks) v' (xs.take i ++ xs.drop j).length (flat ks (xs.take i ++ xs.drop j)) ∧ blk v' = blk v ∧ Stp (fun b => blk v = some b) w w'

/-- A function writes all cells of a slice of slices that stands in a struct, and counts. -/
structure MarkOk (P : Program) (g e f : Nat) (ks : List Kd) (pre : Int → List (List Row) → Prop) (M : Int → List (List Row) → Int × List (List Row)) : Prop where
  call : Callable P g
  run : ∀ (w : World) (v : Value) (xss : List (List Row)) (vs : List Value) (n : Int), w.ownsRow 0 e 1 v xss.length vs → Inns w f ks xss vs → ((v :: vs).filterMap blk).Nodup → pre n xss →
    Calls P g #[.agg #[v], .int .i64 n] w fun ex w' => ex = .returned (.int .i64 (M n xss).1) ∧ (M n xss).2.length = xss.length ∧ w'.ownsRow 0 e 1 v xss.length vs ∧ Inns w' f ks (M n xss).2 vs ∧
      Stp (fun b => b ∈ vs.filterMap blk) w w'
/-- A function makes room in a nil slice. -/
structure GrowOk (P : Program) (g e eb : Nat) (ks : List Kd) : Prop where
  call : Callable P g
  run : ∀ (w : World) (n : Nat), n * eb ≤ 140737488355328 → Calls P g #[.slice none 0 0, .int .i64 (n : Int)] w fun ex w' => ∃ v, ex = .returned v ∧ w'.ownsRow w.heap.size e (lenK ks) v 0 [] ∧ Stp (fun _ => False) w w'
/-- A function to which memory is given: it may keep it, and hand it back within its answer. -/
def Gives (P : Program) (f : Nat) (rel : List AV → (AV → Prop) → Prop) : Prop :=
  ∀ (V : Nat → Prop) (w : World) (ds : List AV) (vs : List Value) (B : List Nat) (K : AV → Prop), GlAt w V (fun b => b ∈ B) → D2s V w ds vs B → B.Nodup →
    (∀ b, V b → b < w.heap.size ∧ b ∉ B) → (∀ b ∈ B, b < w.heap.size) → rel ds K →
    Calls P f vs.toArray w fun e w' => ∃ v r B', e = .returned v ∧ K r ∧ D3 (fun _ => True) w' r v B' ∧ B'.Nodup ∧ (∀ b ∈ B', (w.heap.size ≤ b ∨ b ∈ B) ∧ b < w'.heap.size) ∧ Stp (fun b => b ∈ B) w w'

def SpcOk (P : Program) (g : Nat) : Spc → Prop
  | .del e ks => DelOk P g e ks
  | .mark e f ks pre M => MarkOk P g e f ks pre M
  | .grow e eb ks => GrowOk P g e eb ks
  | .give _ _ _ rel => Callable P g ∧ Gives P g rel
structure CtOk (P : Program) (Γ : Cx) : Prop where
  sound : ∀ f C, Γ.ct f = some C → Sound P f C
  call : ∀ f C, Γ.ct f = some C → Callable P f
  del : ∀ f S, Γ.del f = some S → SpcOk P f S

section
variable {P : Program} {Γ : Cx} {X : Fx} {tm : List (Nat × AV)} {hp : List (Option Entry)} {z : Cz} {a : Act} {w w' : World} {n : Nat}
  {K : St → Prop} {next : Act → World → Prop} {Q : Exit → Act → World → Prop} {o : Oper} {ok lv : Nat → Prop}

theorem retype_rel (ti : TI) {v : AV} {u : Value} (h : AVR ok lv w z v u) : AVR ok lv w z (retype ti v) u := by
  unfold retype
  split
  · simp only [AVR] at h
    split <;> simpa [AVR] using h
  · exact h
theorem retypes_rel (τ : Nat → TI) : ∀ (ts : List Nat) {l : List AV} {vs : List Value}, AVRs ok lv w z l vs → AVRs ok lv w z (retypes τ ts l) vs
  | [], l, vs, h => by cases l <;> simpa [retypes] using h
  | t :: ts, [], vs, h => by simpa [retypes] using h
  | t :: ts, v :: l, vs, h => by
    simp only [AVRs] at h
    obtain ⟨u, us, rfl, h1, h2⟩ := h
    simp only [retypes, AVRs]
    exact ⟨u, us, rfl, retype_rel _ h1, retypes_rel τ ts h2⟩
theorem appA_rel : ∀ {l m : List AV} {vs us : List Value}, AVRs ok lv w z l vs → AVRs ok lv w z m us → AVRs ok lv w z (appA l m) (vs ++ us)
  | [], m, vs, us, h, h2 => by simp only [AVRs] at h; subst h; simpa [appA] using h2
  | v :: l, m, vs, us, h, h2 => by
    simp only [AVRs] at h
    obtain ⟨u, us', rfl, h1, h3⟩ := h
    simp only [appA, AVRs, List.cons_append]
    exact ⟨u, _, rfl, h1, appA_rel h3 h2⟩

theorem ti_underlying_slice {t e esz eb : Nat} {ks : List Kd} (hΓ : CxOk P Γ) (hT : Γ.τ t = .slice e esz eb ks) : P.underlying t = some (.slice e) := by
  have ht := hΓ.tab t
  rw [hT] at ht
  obtain ⟨_, hu, _⟩ := ti_slice ht
  exact hu

theorem min_rel (op : Bool) : ∀ {r : List AV} {us : List Value} {v : AV} {k : Int} {u : Value}, allInt r = true → v = .int .i64 k → u = .int .i64 k → AVRs ok lv w z r us →
    ∃ k' : Int, foldMin op v r = .int .i64 k' ∧ (us.foldlM (if op then Builtin.min2 else Builtin.max2) u).run P w = .ok (.int .i64 k') w
  | [], us, v, k, u, _, hv, hu, h => by
    simp only [AVRs] at h
    subst h; subst hv; subst hu
    exact ⟨k, rfl, by simp⟩
  | x :: r, us, v, k, u, hall, hv, hu, h => by
    simp only [AVRs] at h
    obtain ⟨u1, us', rfl, h1, h2⟩ := h
    cases x with
    | int kd q =>
      cases kd <;> simp only [allInt] at hall <;> try (cases hall; done)
      have e1 := h1.of_int
      subst e1; subst hv; subst hu
      cases op with
      | true =>
        obtain ⟨k', h3, h4⟩ := min_rel true (v := .int .i64 (if k ≤ q then k else q)) (k := if k ≤ q then k else q) (u := .int .i64 (if k ≤ q then k else q)) hall rfl rfl h2
        refine ⟨k', ?_, ?_⟩
        · simp only [foldMin, minAV, if_true]
          rw [show min k q = if k ≤ q then k else q from rfl]
          exact h3
        · simp only [List.foldlM_cons, if_true] at h4 ⊢
          have : (if q < k then q else k) = (if k ≤ q then k else q) := by split <;> split <;> omega
          simp [Builtin.min2, this, h4]
      | false =>
        obtain ⟨k', h3, h4⟩ := min_rel false (v := .int .i64 (if k ≤ q then q else k)) (k := if k ≤ q then q else k) (u := .int .i64 (if k ≤ q then q else k)) hall rfl rfl h2
        refine ⟨k', ?_, ?_⟩
        · simp only [foldMin, minAV, Bool.false_eq_true, if_false]
          rw [show max k q = if k ≤ q then q else k from rfl]
          exact h3
        · simp only [List.foldlM_cons, Bool.false_eq_true, if_false] at h4 ⊢
          have : (if k < q then q else k) = (if k ≤ q then q else k) := by split <;> split <;> omega
          simp [Builtin.max2, this, h4]
    | _ => simp [allInt] at hall

theorem nestH_len (h : Rel X tm hp z a w) {x : AV} {u : Value} {ks : List Kd} {xss : List (List Row)} (hx : AVR (okB X hp z w) (live hp) w z x u) (hr : nestH hp x = some (ks, xss)) : ∃ ad cap, u = .slice ad xss.length cap := by
  cases x <;> simp only [nestH] at hr <;> try (cases hr; done)
  case vv js yss =>
    simp only [Option.some.injEq, Prod.mk.injEq] at hr
    obtain ⟨rfl, rfl⟩ := hr
    simp only [AVR] at hx
    obtain ⟨ad, cap, q, _⟩ := hx
    exact ⟨ad, cap, q⟩
  case own k =>
    split at hr
    · rename_i e js yss hl
      simp only [Option.some.injEq, Prod.mk.injEq] at hr
      obtain ⟨rfl, rfl⟩ := hr
      simp only [AVR] at hx
      obtain ⟨vs, ho, _⟩ := h.ens k _ hl
      rcases ho.2 with ⟨q, q0⟩ | ⟨g, cap, cur, q, _⟩
      · exact ⟨none, 0, by rw [hx.2, q, q0]⟩
      · exact ⟨some ⟨g, 0, none⟩, cap, by rw [hx.2, q]⟩
    · rename_i e f js yss hl
      simp only [Option.some.injEq, Prod.mk.injEq] at hr
      obtain ⟨rfl, rfl⟩ := hr
      simp only [AVR] at hx
      obtain ⟨vs, ho, _⟩ := h.ens k _ hl
      rcases ho.2 with ⟨q, q0⟩ | ⟨g, cap, cur, q, _⟩
      · exact ⟨none, 0, by rw [hx.2, q, q0]⟩
      · exact ⟨some ⟨g, 0, none⟩, cap, by rw [hx.2, q]⟩
    · cases hr
theorem r_len (hΓ : CxOk P Γ) (hm : X.m = Γ.m) (h : Rel X tm hp z a w) (b : Builtin) (hbl : b = .len) (c : Call) (ho : o.op = .call c) (hb : c.callee = .builtin b)
    (hs : stepBuiltin Γ b c.argTypes.toList (evals tm c.args.toList) tm hp o.dst K) : ResA P X hp z a w o fun v => K ⟨putT tm o.dst v, hp⟩ := by
  obtain ⟨cal, ⟨args⟩, ⟨tys⟩⟩ := c
  simp only at hb hs
  subst hb
  have _ := hm
  unfold stepBuiltin at hs
  split at hs
  · -- len
    rename_i t tys' x xs hargs
    cases args with
    | nil => simp [evals] at hargs
    | cons ax args =>
      simp only [evals, List.cons.injEq] at hargs
      obtain ⟨rfl, _⟩ := hargs
      have hx := h.eval ax
      split at hs
      · rename_i e esz eb ks hT
        split at hs
        · rename_i ks' xs' hr
          rw [putC_eq] at hs
          obtain ⟨ad, cap, ex, _⟩ := rowsH_len h hx hr
          refine ⟨.int .i64 xs'.length, _, fun w => ?_, by simp only [AVR], hs⟩
          simp [execOp, ho, resolve, invoke, builtin, Builtin.len_, run_underlying (ti_underlying_slice hΓ hT), ex, goInt]
        · split at hs
          · rename_i ks' xss' hr
            rw [putC_eq] at hs
            obtain ⟨ad, cap, ex⟩ := nestH_len h hx hr
            refine ⟨.int .i64 xss'.length, _, fun w => ?_, by simp only [AVR], hs⟩
            simp [execOp, ho, resolve, invoke, builtin, Builtin.len_, run_underlying (ti_underlying_slice hΓ hT), ex, goInt]
          · exact hs.elim
      · rename_i hT
        split at hs
        · rename_i l he
          rw [putC_eq] at hs
          rw [he] at hx
          have ex := hx.of_str
          have ht := hΓ.tab t
          rw [hT] at ht
          have hu : P.underlying t = some .string := by
            simp only [checkTI, Bool.and_eq_true] at ht
            have := ht.1
            cases hu : P.underlying t with
            | none => rw [hu] at this; simp at this
            | some d => rw [hu] at this; cases d <;> simp at this; rfl
          refine ⟨.int .i64 l.length, _, fun w => ?_, by simp only [AVR], hs⟩
          have hsz : (⟨l.toArray⟩ : ByteArray).size = l.length := by show l.toArray.size = l.length; simp
          simp only [execOp, ho, resolve, invoke, builtin]
          simp [Builtin.len_, run_underlying hu, ex, goInt, hsz]
        · exact hs.elim
      · rename_i m esz ks hT
        rw [putC_eq] at hs
        have ht := hΓ.tab t
        rw [hT] at ht
        obtain ⟨e, ie, ii, hu, _⟩ := ti_array ht
        refine ⟨.int .i64 m, _, fun w => ?_, by simp only [AVR], hs⟩
        simp [execOp, ho, resolve, invoke, builtin, Builtin.len_, run_underlying hu, goInt]
      · exact hs.elim
  · cases hbl
  · cases hbl
  · cases hbl
  · exact hs.elim

theorem s_builtin (hΓ : CxOk P Γ) (hm : X.m = Γ.m) (h : Rel X tm hp z a w) (b : Builtin) (c : Call) (ho : o.op = .call c) (hb : c.callee = .builtin b)
    (hs : stepBuiltin Γ b c.argTypes.toList (evals tm c.args.toList) tm hp o.dst K) (hd : ∀ d, o.dst = some d → d < n) (hn : a.tmps.size = n) (hN : Nxt X n K next) : o.wp P a w next Q := by
  obtain ⟨cal, ⟨args⟩, ⟨tys⟩⟩ := c
  simp only at hb hs
  subst hb
  unfold stepBuiltin at hs
  split at hs
  · -- len
    rename_i t tys' x xs hargs
    refine (r_len hΓ hm h .len rfl ⟨.builtin .len, ⟨args⟩, ⟨t :: tys'⟩⟩ ho rfl ?_).res.fin h hd hn hN
    unfold stepBuiltin
    simp only [hargs]
    exact hs
  · -- append
    rename_i t u tys' s x xs hargs
    match args, hargs with
    | as :: ax :: args, hargs =>
      simp only [evals, List.cons.injEq] at hargs
      obtain ⟨rfl, rfl, hrest⟩ := hargs
      split at hs
      · rename_i e esz eb ks hT
        split at hs
        · rename_i htu
          subst htu
          have hexec : ∀ v w', (Builtin.append_ #[t, t] o.type #[a.eval as, a.eval ax]).run P w = .ok v w' → (execOp a.eval o).run P w = .ok (.value v) w' := by
            intro v w' hr
            have hr2 : (Builtin.append_ (t :: t :: tys').toArray o.type (a.eval as :: a.eval ax :: args.map a.eval).toArray).run P w = .ok v w' := by
              have : ∀ (l : List Nat) (m : List Value), Builtin.append_ (t :: t :: l).toArray o.type (a.eval as :: a.eval ax :: m).toArray = Builtin.append_ #[t, t] o.type #[a.eval as, a.eval ax] := fun l m => by
                simp [Builtin.append_]
              rw [this]; exact hr
            simp [execOp, ho, resolve, invoke, builtin, hr2]
          split at hs
          · split at hs
            · rename_i f fsz fb js hE
              exact s_appN hΓ h hm t e esz eb o.type _ as ax hT hE hs hexec hd hn hN
            · exact hs.elim
          · exact s_append hΓ h hm t e esz eb o.type _ as ax hT hs hexec hd hn hN
        · exact hs.elim
      · exact hs.elim
    | [], hargs => simp [evals] at hargs
    | [_], hargs => simp [evals] at hargs
  · -- min
    rename_i tys' x r hargs
    split at hs
    · rename_i hall
      rw [putC_eq] at hs
      have hv := h.evals args
      rw [hargs] at hv
      simp only [AVRs] at hv
      obtain ⟨u, us, hmap, h1, h2⟩ := hv
      cases x with
      | int kd q =>
        cases kd <;> simp only [allInt] at hall <;> try (cases hall; done)
        obtain ⟨k', h3, h4⟩ := min_rel (P := P) (w := w) (z := z) true (v := .int .i64 q) hall rfl h1.of_int h2
        rw [h3] at hs
        refine fin (u := .int .i64 k') ?_ h (by simp only [AVR]) hd hn hN hs
        simp only [if_true] at h4
        simp [execOp, ho, resolve, invoke, builtin, Builtin.min_, hmap, h4]
      | _ => simp [allInt] at hall
    · exact hs.elim
  · -- max
    rename_i tys' x r hargs
    split at hs
    · rename_i hall
      rw [putC_eq] at hs
      have hv := h.evals args
      rw [hargs] at hv
      simp only [AVRs] at hv
      obtain ⟨u, us, hmap, h1, h2⟩ := hv
      cases x with
      | int kd q =>
        cases kd <;> simp only [allInt] at hall <;> try (cases hall; done)
        obtain ⟨k', h3, h4⟩ := min_rel (P := P) (w := w) (z := z) false (v := .int .i64 q) hall rfl h1.of_int h2
        rw [h3] at hs
        refine fin (u := .int .i64 k') ?_ h (by simp only [AVR]) hd hn hN hs
        simp only [Bool.false_eq_true, if_false] at h4
        simp [execOp, ho, resolve, invoke, builtin, Builtin.max_, hmap, h4]
      | _ => simp [allInt] at hall
    · exact hs.elim
  · exact hs.elim
end

end Go.Proofs.Ytkjbgdhpeidocaa.V
