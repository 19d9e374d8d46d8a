/-
  A verified generator of verification conditions over the model's Code, part Z: how functions are put together.
-/
import Derived.Test.YtkjbgdhpeidocaaVcY
import Derived.Test.YtkjbgdhpeidocaaTab
set_option linter.unusedSimpArgs false
set_option linter.unusedVariables false
namespace Go.Proofs.Ytkjbgdhpeidocaa.V
open Go Go.RowKit

structure Proved (f : Nat) (C : Ct) : Prop where
  sound : Sound Try.prog f C
  call : Callable Try.prog f
def lookC : List (Nat × Ct) → Nat → Option Ct
  | [], _ => none
  | (g, C) :: r, f => if f = g then some C else lookC r f
def AllP : List (Nat × Ct) → Prop
  | [] => True
  | (f, C) :: r => Proved f C ∧ AllP r
theorem allP_look : ∀ {l : List (Nat × Ct)} {f : Nat} {C : Ct}, AllP l → lookC l f = some C → Proved f C
  | [], f, C, _, h => by cases h
  | (g, D) :: r, f, C, h, hl => by
    simp only [lookC] at hl
    split at hl
    · rename_i e
      subst e
      cases hl
      exact h.1
    · exact allP_look h.2 hl

theorem mixed : Try.prog.follows .mixedOrders = true := by kernel_rfl

/-- A context: what is called, how long the heap of the arguments is, the loops. -/
def cx (tr : Nat → Option (Bool × Tr)) (m : Nat) (l : List (Nat × Ct)) (inv : Nat → St → Option Ann) : Cx := { m := m, τ := tau, eqs := eqTys, ct := lookC l, inv := inv, tr := tr, cuts := [], del := fun _ => none }
def cxC (cuts : List Nat) (tr : Nat → Option (Bool × Tr)) (m : Nat) (l : List (Nat × Ct)) (inv : Nat → St → Option Ann) : Cx := { m := m, τ := tau, eqs := eqTys, ct := lookC l, inv := inv, tr := tr, cuts := cuts, del := fun _ => none }

theorem proved_tr (tr : Nat → Option (Bool × Tr)) {f n : Nat} {fn : Func} {c : Code} {C : Ct} (l : List (Nat × Ct)) (hl : AllP l) (res : List ResultVar)
    (hf : Try.prog.funcs[f]? = some fn) (hb : fn.body = some c) (hnt : fn.ntmps = n) (hres : fn.results = res.toArray) (hn : (fn.name == "runtime.NumGoroutine") = false)
    (hcode : codeOk n tr c = true)
    (H : ∀ ds K, C.rel ds K → argsOk ds = true ∧ ds.length ≤ n ∧ ∃ inv : Nat → St → Option Ann,
      vcg (cx tr (lenH (matL2 [] ds).2) l inv) c (fun e σ => match e with | .normal => ends (cx tr (lenH (matL2 [] ds).2) l inv) res ds K σ | .ret => ends (cx tr (lenH (matL2 [] ds).2) l inv) res ds K σ | _ => False) (initSt ds)) : Proved f C := by
  refine ⟨sound_of hf hb hnt hres hcode fun ds K h => ?_, callable_of hf hb hn⟩
  obtain ⟨h1, h2, inv, h3⟩ := H ds K h
  refine ⟨h1, h2, cx tr (lenH (matL2 [] ds).2) l inv, rfl, ⟨tab, eqTab, mixed⟩, ⟨fun f C hC => (allP_look hl hC).sound, fun f C hC => (allP_look hl hC).call, fun _ _ h => by cases h⟩, rfl, h3⟩
theorem proved_cut (cuts : List Nat) (tr : Nat → Option (Bool × Tr)) {f n : Nat} {fn : Func} {c : Code} {C : Ct} (l : List (Nat × Ct)) (hl : AllP l) (res : List ResultVar)
    (hf : Try.prog.funcs[f]? = some fn) (hb : fn.body = some c) (hnt : fn.ntmps = n) (hres : fn.results = res.toArray) (hn : (fn.name == "runtime.NumGoroutine") = false)
    (hcode : codeOk n tr c = true)
    (H : ∀ ds K, C.rel ds K → argsOk ds = true ∧ ds.length ≤ n ∧ ∃ inv : Nat → St → Option Ann,
      vcg (cxC cuts tr (lenH (matL2 [] ds).2) l inv) c (fun e σ => match e with | .normal => ends (cxC cuts tr (lenH (matL2 [] ds).2) l inv) res ds K σ | .ret => ends (cxC cuts tr (lenH (matL2 [] ds).2) l inv) res ds K σ | _ => False) (initSt ds)) : Proved f C := by
  refine ⟨sound_of hf hb hnt hres hcode fun ds K h => ?_, callable_of hf hb hn⟩
  obtain ⟨h1, h2, inv, h3⟩ := H ds K h
  refine ⟨h1, h2, cxC cuts tr (lenH (matL2 [] ds).2) l inv, rfl, ⟨tab, eqTab, mixed⟩, ⟨fun f C hC => (allP_look hl hC).sound, fun f C hC => (allP_look hl hC).call, fun _ _ h => by cases h⟩, rfl, h3⟩
def cxS (l0 : Nat → Option Spc) (tr : Nat → Option (Bool × Tr)) (m : Nat) (l : List (Nat × Ct)) (inv : Nat → St → Option Ann) : Cx := { m := m, τ := tau, eqs := eqTys, ct := lookC l, inv := inv, tr := tr, cuts := [], del := l0 }
def cxD (g e : Nat) (gs : List Kd) (tr : Nat → Option (Bool × Tr)) (m : Nat) (l : List (Nat × Ct)) (inv : Nat → St → Option Ann) : Cx := { m := m, τ := tau, eqs := eqTys, ct := lookC l, inv := inv, tr := tr, cuts := [], del := fun f => match Nat.beq f g with | true => some (.del e gs) | false => none }
/-- As 'proved_tr', where the code calls a function that takes rows out of a slice in place. -/
theorem proved_del (g e : Nat) (gs : List Kd) (hg : DelOk Try.prog g e gs) (tr : Nat → Option (Bool × Tr)) {f n : Nat} {fn : Func} {c : Code} {C : Ct} (l : List (Nat × Ct)) (hl : AllP l) (res : List ResultVar)
    (hf : Try.prog.funcs[f]? = some fn) (hb : fn.body = some c) (hnt : fn.ntmps = n) (hres : fn.results = res.toArray) (hn : (fn.name == "runtime.NumGoroutine") = false)
    (hcode : codeOk n tr c = true)
    (H : ∀ ds K, C.rel ds K → argsOk ds = true ∧ ds.length ≤ n ∧ ∃ inv : Nat → St → Option Ann,
      vcg (cxD g e gs tr (lenH (matL2 [] ds).2) l inv) c (fun e' σ => match e' with | .normal => ends (cxD g e gs tr (lenH (matL2 [] ds).2) l inv) res ds K σ | .ret => ends (cxD g e gs tr (lenH (matL2 [] ds).2) l inv) res ds K σ | _ => False) (initSt ds)) : Proved f C := by
  refine ⟨sound_of hf hb hnt hres hcode fun ds K h => ?_, callable_of hf hb hn⟩
  obtain ⟨h1, h2, inv, h3⟩ := H ds K h
  refine ⟨h1, h2, cxD g e gs tr (lenH (matL2 [] ds).2) l inv, rfl, ⟨tab, eqTab, mixed⟩, ⟨fun f C hC => (allP_look hl hC).sound, fun f C hC => (allP_look hl hC).call, fun f' S' h => ?_⟩, rfl, h3⟩
  simp only [cxD] at h
  split at h
  · rename_i hb
    have := Nat.eq_of_beq_eq_true hb
    subst this
    cases h
    exact hg
  · cases h
/-- As 'proved_tr', where the code calls functions that are met by rules of their own. -/
theorem proved_spc (l0 : Nat → Option Spc) (hg : ∀ g S, l0 g = some S → SpcOk Try.prog g S) (tr : Nat → Option (Bool × Tr)) {f n : Nat} {fn : Func} {c : Code} {C : Ct} (l : List (Nat × Ct)) (hl : AllP l) (res : List ResultVar)
    (hf : Try.prog.funcs[f]? = some fn) (hb : fn.body = some c) (hnt : fn.ntmps = n) (hres : fn.results = res.toArray) (hn : (fn.name == "runtime.NumGoroutine") = false)
    (hcode : codeOk n tr c = true)
    (H : ∀ ds K, C.rel ds K → argsOk ds = true ∧ ds.length ≤ n ∧ ∃ inv : Nat → St → Option Ann,
      vcg (cxS l0 tr (lenH (matL2 [] ds).2) l inv) c (fun e' σ => match e' with | .normal => ends (cxS l0 tr (lenH (matL2 [] ds).2) l inv) res ds K σ | .ret => ends (cxS l0 tr (lenH (matL2 [] ds).2) l inv) res ds K σ | _ => False) (initSt ds)) : Proved f C := by
  refine ⟨sound_of hf hb hnt hres hcode fun ds K h => ?_, callable_of hf hb hn⟩
  obtain ⟨h1, h2, inv, h3⟩ := H ds K h
  exact ⟨h1, h2, cxS l0 tr (lenH (matL2 [] ds).2) l inv, rfl, ⟨tab, eqTab, mixed⟩, ⟨fun f C hC => (allP_look hl hC).sound, fun f C hC => (allP_look hl hC).call, hg⟩, rfl, h3⟩
theorem gives_spc {e f0 : Nat} {ks : List Kd} (tr : Nat → Option (Bool × Tr)) {f n : Nat} {fn : Func} {c : Code} {rel : List AV → (AV → Prop) → Prop} (l : List (Nat × Ct)) (hl : AllP l) (res : List ResultVar)
    (hf : Try.prog.funcs[f]? = some fn) (hb : fn.body = some c) (hnt : fn.ntmps = n) (hres : fn.results = res.toArray) (hn : (fn.name == "runtime.NumGoroutine") = false)
    (hcode : codeOk n tr c = true)
    (H : ∀ ds K, rel ds K → ds.length ≤ n ∧ ∃ inv : Nat → St → Option Ann,
      vcg (cx tr 0 l inv) c (fun e' σ => match e' with | .normal => ends (cx tr 0 l inv) res [] (fun r _ => K r) σ | .ret => ends (cx tr 0 l inv) res [] (fun r _ => K r) σ | _ => False) (initSt ds)) : SpcOk Try.prog f (.give e f0 ks rel) := by
  refine ⟨callable_of hf hb hn, gives_of hf hb hnt hres hcode fun ds K h => ?_⟩
  obtain ⟨h2, inv, h3⟩ := H ds K h
  exact ⟨h2, cx tr 0 l inv, rfl, ⟨tab, eqTab, mixed⟩, ⟨fun f C hC => (allP_look hl hC).sound, fun f C hC => (allP_look hl hC).call, fun _ _ h => by cases h⟩, rfl, h3⟩
def cxSC (cuts : List Nat) (l0 : Nat → Option Spc) (tr : Nat → Option (Bool × Tr)) (m : Nat) (l : List (Nat × Ct)) (inv : Nat → St → Option Ann) : Cx := { m := m, τ := tau, eqs := eqTys, ct := lookC l, inv := inv, tr := tr, cuts := cuts, del := l0 }
/-- As 'proved_spc', with cuts. -/
theorem proved_spcC (cuts : List Nat) (l0 : Nat → Option Spc) (hg : ∀ g S, l0 g = some S → SpcOk Try.prog g S) (tr : Nat → Option (Bool × Tr)) {f n : Nat} {fn : Func} {c : Code} {C : Ct} (l : List (Nat × Ct)) (hl : AllP l) (res : List ResultVar)
    (hf : Try.prog.funcs[f]? = some fn) (hb : fn.body = some c) (hnt : fn.ntmps = n) (hres : fn.results = res.toArray) (hn : (fn.name == "runtime.NumGoroutine") = false)
    (hcode : codeOk n tr c = true)
    (H : ∀ ds K, C.rel ds K → argsOk ds = true ∧ ds.length ≤ n ∧ ∃ inv : Nat → St → Option Ann,
      vcg (cxSC cuts l0 tr (lenH (matL2 [] ds).2) l inv) c (fun e' σ => match e' with | .normal => ends (cxSC cuts l0 tr (lenH (matL2 [] ds).2) l inv) res ds K σ | .ret => ends (cxSC cuts l0 tr (lenH (matL2 [] ds).2) l inv) res ds K σ | _ => False) (initSt ds)) : Proved f C := by
  refine ⟨sound_of hf hb hnt hres hcode fun ds K h => ?_, callable_of hf hb hn⟩
  obtain ⟨h1, h2, inv, h3⟩ := H ds K h
  exact ⟨h1, h2, cxSC cuts l0 tr (lenH (matL2 [] ds).2) l inv, rfl, ⟨tab, eqTab, mixed⟩, ⟨fun f C hC => (allP_look hl hC).sound, fun f C hC => (allP_look hl hC).call, hg⟩, rfl, h3⟩
/-- One rule. -/
def spc1 (g : Nat) (S : Spc) : Nat → Option Spc := fun f => match Nat.beq f g with | true => some S | false => none
theorem spc1_ok {g : Nat} {S : Spc} (h : SpcOk Try.prog g S) : ∀ f S', spc1 g S f = some S' → SpcOk Try.prog f S' := by
  intro f S' hf
  unfold spc1 at hf
  split at hf
  · rename_i hb
    have := Nat.eq_of_beq_eq_true hb
    subst this
    cases hf
    exact h
  · cases hf
def noTr : Nat → Option (Bool × Tr) := fun _ => none
theorem proved_of {f n : Nat} {fn : Func} {c : Code} {C : Ct} (l : List (Nat × Ct)) (hl : AllP l) (res : List ResultVar)
    (hf : Try.prog.funcs[f]? = some fn) (hb : fn.body = some c) (hnt : fn.ntmps = n) (hres : fn.results = res.toArray) (hn : (fn.name == "runtime.NumGoroutine") = false)
    (hcode : codeOk n noTr c = true)
    (H : ∀ ds K, C.rel ds K → argsOk ds = true ∧ ds.length ≤ n ∧ ∃ inv : Nat → St → Option Ann,
      vcg (cx noTr (lenH (matL2 [] ds).2) l inv) c (fun e σ => match e with | .normal => ends (cx noTr (lenH (matL2 [] ds).2) l inv) res ds K σ | .ret => ends (cx noTr (lenH (matL2 [] ds).2) l inv) res ds K σ | _ => False) (initSt ds)) : Proved f C :=
  proved_tr noTr l hl res hf hb hnt hres hn hcode H

end Go.Proofs.Ytkjbgdhpeidocaa.V
