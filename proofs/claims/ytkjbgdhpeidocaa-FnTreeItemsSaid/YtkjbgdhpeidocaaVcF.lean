/-
  A verified generator of verification conditions over the model's Code, part F: the operations that leave the memory as it is.
-/
import Derived.Test.YtkjbgdhpeidocaaVcE
set_option linter.unusedSimpArgs false
set_option linter.unusedVariables false
namespace Go.Proofs.Ytkjbgdhpeidocaa.V
open Go Go.RowKit

theorem forceL_eq : ∀ (l : List AV) (K : List AV → Prop), forceL l K = K l
  | [], K => rfl
  | v :: r, K => by cases v <;> simp only [forceL, forceL_eq r]
theorem force_eq (v : AV) (K : AV → Prop) : force v K = K v := by cases v <;> simp only [force, forceL_eq]
theorem forceH_eq : ∀ (l : List (Option Entry)) (K : List (Option Entry) → Prop), forceH l K = K l
  | [], K => rfl
  | none :: r, K => by simp only [forceH, forceH_eq r]
  | some (.box l) :: r, K => by simp only [forceH, forceH_eq r, forceL_eq]
  | some (.rows e ks xs) :: r, K => by simp only [forceH, forceH_eq r]
  | some (.arr ks xs) :: r, K => by simp only [forceH, forceH_eq r]
  | some (.vnest e ks xss) :: r, K => by simp only [forceH, forceH_eq r]
  | some (.nest e f ks xss) :: r, K => by simp only [forceH, forceH_eq r]
theorem forceT_eq : ∀ (l : List (Nat × AV)) (K : List (Nat × AV) → Prop), forceT l K = K l
  | [], K => rfl
  | (t, v) :: r, K => by simp only [forceT, forceT_eq r, force_eq]

theorem putC_eq (tm : List (Nat × AV)) (hp : List (Option Entry)) (dst : Option Nat) (v : AV) (K : St → Prop) : putC tm hp dst v K = K ⟨putT tm dst v, hp⟩ := by
  cases dst <;> simp only [putC, putT, force_eq]
theorem putH_eq (tm : List (Nat × AV)) (hp : List (Option Entry)) (dst : Option Nat) (v : AV) (K : St → Prop) : putH tm hp dst v K = K ⟨putT tm dst v, hp⟩ := by
  cases dst <;> simp only [putH, putT, force_eq, forceH_eq]
theorem putTH_eq (tm : List (Nat × AV)) (hp : List (Option Entry)) (dst : Option Nat) (v : AV) (K : St → Prop) : putTH tm hp dst v K = K ⟨putT tm dst v, hp⟩ := by
  cases dst <;> simp only [putTH, putT, force_eq, forceH_eq, forceT_eq]

/-- What may come behind an operation. -/
def Nxt (X : Fx) (n : Nat) (K : St → Prop) (next : Act → World → Prop) : Prop :=
  ∀ σ z a w, K σ → Rel X σ.tm σ.hp z a w → a.tmps.size = n → next a w

/-- What comes next, where the memory has only grown. -/
def NxtS (X : Fx) (n : Nat) (w : World) (K : St → Prop) (next : Act → World → Prop) : Prop :=
  ∀ σ z a w', K σ → Rel X σ.tm σ.hp z a w' → a.tmps.size = n → Stp (fun _ => False) w w' → next a w'
theorem Nxt.toS {X : Fx} {n : Nat} {w : World} {K : St → Prop} {next : Act → World → Prop} (h : Nxt X n K next) : NxtS X n w K next := fun σ z a w' h1 h2 h3 _ => h σ z a w' h1 h2 h3
theorem size_put (a : Act) (dst : Option Nat) (v : Value) : (a.put dst v).tmps.size = a.tmps.size := by
  cases dst <;> simp [Act.put]

section
variable {P : Program} {X : Fx} {tm : List (Nat × AV)} {hp : List (Option Entry)} {z : Cz} {a : Act} {w w' : World} {n : Nat}
  {K : St → Prop} {next : Act → World → Prop} {Q : Exit → Act → World → Prop} {o : Oper}

theorem fin {u : Value} {v : AV} (hrun : (execOp a.eval o).run P w = .ok (.value u) w') (hR : Rel X tm hp z a w')
    (hv : AVR (okB X hp z w') (live hp) w' z v u) (hd : ∀ d, o.dst = some d → d < n) (hn : a.tmps.size = n) (hN : Nxt X n K next)
    (hk : K ⟨putT tm o.dst v, hp⟩) : o.wp P a w next Q := by
  unfold Oper.wp
  rw [hrun]
  show next _ _
  refine hN ⟨putT tm o.dst v, hp⟩ z _ _ hk ?_ (by rw [size_put]; exact hn)
  exact hR.put o.dst (fun d e => by rw [hn]; exact hd d e) hv
theorem finS {u : Value} {v : AV} (hrun : (execOp a.eval o).run P w = .ok (.value u) w) (hR : Rel X tm hp z a w)
    (hv : AVR (okB X hp z w) (live hp) w z v u) (hd : ∀ d, o.dst = some d → d < n) (hn : a.tmps.size = n) (hN : NxtS X n w K next)
    (hk : K ⟨putT tm o.dst v, hp⟩) : o.wp P a w next Q := by
  unfold Oper.wp
  rw [hrun]
  show next _ _
  refine hN ⟨putT tm o.dst v, hp⟩ z _ _ hk ?_ (by rw [size_put]; exact hn) (Stp.refl _ w)
  exact hR.put o.dst (fun d e => by rw [hn]; exact hd d e) hv
/-- An operation yields a value and leaves the world alone. -/
def Res (P : Program) (X : Fx) (hp : List (Option Entry)) (z : Cz) (a : Act) (w : World) (o : Oper) (C : AV → Prop) : Prop :=
  ∃ u v, (execOp a.eval o).run P w = .ok (.value u) w ∧ AVR (okB X hp z w) (live hp) w z v u ∧ C v
/-- The same in every world. -/
def ResA (P : Program) (X : Fx) (hp : List (Option Entry)) (z : Cz) (a : Act) (w : World) (o : Oper) (C : AV → Prop) : Prop :=
  ∃ u v, (∀ w', (execOp a.eval o).run P w' = .ok (.value u) w') ∧ AVR (okB X hp z w) (live hp) w z v u ∧ C v
/-- The same in every world that has only grown. -/
def ResS (P : Program) (X : Fx) (hp : List (Option Entry)) (z : Cz) (a : Act) (w : World) (o : Oper) (C : AV → Prop) : Prop :=
  ∃ u v, (∀ w', Stp (fun _ => False) w w' → (execOp a.eval o).run P w' = .ok (.value u) w') ∧ AVR (okB X hp z w) (live hp) w z v u ∧ C v
theorem ResS.res {C : AV → Prop} (h : ResS P X hp z a w o C) : Res P X hp z a w o C :=
  let ⟨u, v, h1, h2, h3⟩ := h
  ⟨u, v, h1 w (Stp.refl _ w), h2, h3⟩
theorem ResA.toS {C : AV → Prop} (h : ResA P X hp z a w o C) : ResS P X hp z a w o C :=
  let ⟨u, v, h1, h2, h3⟩ := h
  ⟨u, v, fun w' _ => h1 w', h2, h3⟩
theorem Stp.cell {ad : Addr} {v : Value} (s : Stp (fun _ => False) w w') (h : w.cell? ad = some v) : w'.cell? ad = some v :=
  (World.cell?_of_block (s.block _ (block_lt_of_cell h) id)).trans h
theorem ResA.res {C : AV → Prop} (h : ResA P X hp z a w o C) : Res P X hp z a w o C :=
  let ⟨u, v, h1, h2, h3⟩ := h
  ⟨u, v, h1 w, h2, h3⟩
theorem Res.fin (hr : Res P X hp z a w o fun v => K ⟨putT tm o.dst v, hp⟩) (hR : Rel X tm hp z a w) (hd : ∀ d, o.dst = some d → d < n) (hn : a.tmps.size = n) (hN : Nxt X n K next) : o.wp P a w next Q :=
  let ⟨_, _, h1, h2, h3⟩ := hr
  V.fin h1 hR h2 hd hn hN h3
theorem fin_skip (hrun : (execOp a.eval o).run P w = .ok .skip w') (hR : Rel X tm hp z a w')
    (hd : ∀ d, o.dst = some d → d < n) (hn : a.tmps.size = n) (hN : Nxt X n K next)
    (hk : K ⟨putT tm o.dst .top, hp⟩) : o.wp P a w next Q := by
  unfold Oper.wp
  rw [hrun]
  show next _ _
  refine hN ⟨putT tm o.dst .top, hp⟩ z _ _ hk ?_ (by rw [size_put]; exact hn)
  exact hR.put o.dst (fun d e => by rw [hn]; exact hd d e) (v := .top) (u := undef) (by simp [AVR])

theorem Rel.eval (h : Rel X tm hp z a w) (x : Operand) : AVR (okB X hp z w) (live hp) w z (evalT tm x) (a.eval x) := by
  cases x with
  | tmp t => exact h.tms t
  | const v =>
    simp only [evalT, Act.eval]
    unfold constAV
    split <;> simp [AVR]
  | global g => simp [evalT, AVR]
  | func f => simp only [evalT, Act.eval, AVR, AVRs]; exact ⟨[], by simp, rfl⟩

theorem Rel.evals (h : Rel X tm hp z a w) : ∀ l : List Operand, AVRs (okB X hp z w) (live hp) w z (evals tm l) (l.map a.eval)
  | [] => by simp [V.evals, AVRs]
  | x :: r => by simp only [V.evals, AVRs, List.map_cons]; exact ⟨_, _, rfl, h.eval x, h.evals r⟩

theorem AVR.of_int {ok lv : Nat → Prop} {k : IntKind} {m : Int} {v : Value} (h : AVR ok lv w z (.int k m) v) : v = .int k m := by simpa [AVR] using h
theorem AVR.of_bool {ok lv : Nat → Prop} {b : Bool} {v : Value} (h : AVR ok lv w z (.bool b) v) : v = .bool b := by simpa [AVR] using h
theorem AVR.of_str {ok lv : Nat → Prop} {l : List UInt8} {v : Value} (h : AVR ok lv w z (.str l) v) : v = .string ⟨l.toArray⟩ := by simpa [AVR] using h

theorem wrap_fits {k : IntKind} {m : Int} (h : Fits k m) : k.wrap m = m := by
  obtain ⟨lo, hi⟩ := h
  cases k <;> simp only [IntKind.min, IntKind.max, IntKind.signed, IntKind.bits, if_true, if_false, Bool.false_eq_true] at lo hi <;> simp [IntKind.wrap, IntKind.bits, IntKind.signed] <;> omega

theorem s_int (op : BinOp) (k : IntKind) (x y : Int) {C : AV → Prop} (h : stepInt op k x y C) :
    ∃ v u, C v ∧ (∀ (ok lv : Nat → Prop), AVR ok lv w z v u) ∧ ∀ T w, (binOp op T (.int k x) (.int k y)).run P w = .ok u w := by
  cases op <;> simp only [stepInt] at h <;> try exact h.elim
  case add => exact ⟨.int k (x + y), .int k (x + y), h.2, fun _ _ => by simp only [AVR], fun T w => by simp [binOp, Op.intArith, wrap_fits h.1]⟩
  case sub => exact ⟨.int k (x - y), .int k (x - y), h.2, fun _ _ => by simp only [AVR], fun T w => by simp [binOp, Op.intArith, wrap_fits h.1]⟩
  case mul => exact ⟨.int k (x * y), .int k (x * y), h.2, fun _ _ => by simp only [AVR], fun T w => by simp [binOp, Op.intArith, wrap_fits h.1]⟩
  case quo => exact ⟨.int k (x.tdiv y), .int k (x.tdiv y), h.2.2, fun _ _ => by simp only [AVR], fun T w => by simp [binOp, Op.intDiv, h.1, wrap_fits h.2.1]⟩
  case rem => exact ⟨.int k (x.tmod y), .int k (x.tmod y), h.2, fun _ _ => by simp only [AVR], fun T w => by simp [binOp, Op.intDiv, h.1]⟩
  case and => exact ⟨.int k (bitop .and k x y), .int k (bitop .and k x y), h, fun _ _ => by simp only [AVR], fun T w => by simp [binOp, Op.intBits, bitop]⟩
  case or => exact ⟨.int k (bitop .or k x y), .int k (bitop .or k x y), h, fun _ _ => by simp only [AVR], fun T w => by simp [binOp, Op.intBits, bitop]⟩
  case xor => exact ⟨.int k (bitop .xor k x y), .int k (bitop .xor k x y), h, fun _ _ => by simp only [AVR], fun T w => by simp [binOp, Op.intBits, bitop]⟩
  case andNot => exact ⟨.int k (bitop .andNot k x y), .int k (bitop .andNot k x y), h, fun _ _ => by simp only [AVR], fun T w => by simp [binOp, Op.intBits, bitop]⟩
  case eql => exact ⟨.bool (x == y), .bool (x == y), h, fun _ _ => by simp only [AVR], fun T w => by simp [binOp, Op.intCmp]⟩
  case neq => exact ⟨.bool (x != y), .bool (x != y), h, fun _ _ => by simp only [AVR], fun T w => by simp [binOp, Op.intCmp]⟩
  case lss => exact ⟨.bool (decide (x < y)), .bool (decide (x < y)), h, fun _ _ => by simp only [AVR], fun T w => by simp [binOp, Op.intCmp]⟩
  case leq => exact ⟨.bool (decide (x ≤ y)), .bool (decide (x ≤ y)), h, fun _ _ => by simp only [AVR], fun T w => by simp [binOp, Op.intCmp]⟩
  case gtr => exact ⟨.bool (decide (y < x)), .bool (decide (y < x)), h, fun _ _ => by simp only [AVR], fun T w => by simp [binOp, Op.intCmp]⟩
  case geq => exact ⟨.bool (decide (y ≤ x)), .bool (decide (y ≤ x)), h, fun _ _ => by simp only [AVR], fun T w => by simp [binOp, Op.intCmp]⟩
end

end Go.Proofs.Ytkjbgdhpeidocaa.V
