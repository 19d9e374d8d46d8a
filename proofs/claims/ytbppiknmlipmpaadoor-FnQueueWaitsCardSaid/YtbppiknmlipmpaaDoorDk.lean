/-
  What the listed package table reads as: in the call's world, and in a world that meets the row's premise.
-/
import Derived.Test.YtbppiknmlipmpaaDoorBr
import Derived.Test.YtbppiknmlipmpaaDoorRows
import Derived.ChangeSame
import Derived.ChangeVars
import Derived.JoinedOf
import Derived.RowKit
set_option linter.unusedSimpArgs false
set_option linter.unusedVariables false
namespace Go.Proofs.YtbppiknmlipmpaaDoor
open Go Go.ChangeShapes Go.WideShapes Go.ChangeAt Go.RowKit Go.Deep

theorem own : ownKnob Tryd.prog.godebug = none := by kernel_rfl
theorem laidOut : laidOutB Tryd.prog = true := by kernel_rfl
theorem glob : Tryd.prog.globalNamed "loop.example/schemamigration/impl.lockMasks" = some 0 := by kernel_rfl
theorem globType : (Tryd.prog.globals[0]?).map (·.type) = some 70 := by kernel_rfl
theorem cellsA : Tryd.prog.cellsOf 70 = 6 := by kernel_rfl
theorem cellsE : Tryd.prog.cellsOf 5 = 1 := by kernel_rfl
theorem int_of_trod {H : Type} {enc : TypeId × Value → H} {P : Program} {w : World} {base : Nat} {sp : Nat → Bool} {held : Bool} {fuel : Nat} {t : TypeId} {k : IntKind} {c : Value} {y : DataW H × List MemPlace}
    (ht : P.underlying t = some (.int k)) (h : DataW.trod enc P w base sp held fuel t [c] = some y) : ∃ n, c = .int k n ∧ y = (.lit (.int k n), []) := by
  cases fuel with
  | zero => simp [DataW.trod] at h
  | succ fuel =>
    cases c <;> simp [DataW.trod, ht] at h
    rename_i k' n
    obtain ⟨⟨rfl, _⟩, rfl⟩ := h
    exact ⟨n, rfl, rfl⟩
def cells6 : Array Value := #[.int .u8 63, .int .u8 31, .int .u8 7, .int .u8 11, .int .u8 3, .int .u8 1]
theorem cells_of_laid {W : World} (h : laidMet Tryd.prog [("loop.example/schemamigration/impl.lockMasks", Rows.laid_loop_example_schemamigration_impl_lockMasks)] W) : W.var? Tryd.prog "loop.example/schemamigration/impl.lockMasks" = some cells6 := by
  obtain ⟨ps, ⟨g, t, cs, fuel, p, q, hg, ht, hvar, hd, _, _⟩, _⟩ := h
  obtain rfl := Option.some.inj (glob.symm.trans hg)
  obtain rfl := Option.some.inj (globType.symm.trans ht)
  rw [hvar]
  congr 1
  obtain ⟨l⟩ := cs
  cases fuel with
  | zero => simp [DataW.trod] at hd
  | succ fuel =>
    simp only [DataW.trod, Tryd.underlying70, cellsA, cellsE] at hd
    split at hd
    · rename_i hl
      obtain ⟨c0, c1, c2, c3, c4, c5, rfl⟩ : ∃ c0 c1 c2 c3 c4 c5, l = [c0, c1, c2, c3, c4, c5] := by
        match l, hl with
        | [a, b, c, d, e, f], _ => exact ⟨a, b, c, d, e, f, rfl⟩
      have e : List.range 6 = [0, 1, 2, 3, 4, 5] := rfl
      rw [e] at hd
      simp only [Option.map_eq_some_iff, List.mapM_cons, List.mapM_nil, Option.bind_eq_bind, Option.bind_eq_some_iff, Option.pure_def, Option.some.injEq] at hd
      obtain ⟨xs, ⟨y0, h0, _, ⟨y1, h1, _, ⟨y2, h2, _, ⟨y3, h3, _, ⟨y4, h4, _, ⟨y5, h5, _, rfl, rfl⟩, rfl⟩, rfl⟩, rfl⟩, rfl⟩, rfl⟩, hx⟩ := hd
      obtain ⟨n0, rfl, rfl⟩ := int_of_trod Tryd.underlying5 h0
      obtain ⟨n1, rfl, rfl⟩ := int_of_trod Tryd.underlying5 h1
      obtain ⟨n2, rfl, rfl⟩ := int_of_trod Tryd.underlying5 h2
      obtain ⟨n3, rfl, rfl⟩ := int_of_trod Tryd.underlying5 h3
      obtain ⟨n4, rfl, rfl⟩ := int_of_trod Tryd.underlying5 h4
      obtain ⟨n5, rfl, rfl⟩ := int_of_trod Tryd.underlying5 h5
      simp [Rows.laid_loop_example_schemamigration_impl_lockMasks] at hx
      obtain ⟨⟨rfl, rfl, rfl, rfl, rfl, rfl⟩, _⟩ := hx
      rfl
    · cases hd
noncomputable def laidWorld (os : Os) : World :=
  { World.holding Tryd.prog os ⟨#[], #[], []⟩ with heap := (World.holding Tryd.prog os ⟨#[], #[], []⟩).heap.modify 0 fun
      | .cells _ t frozen => .cells cells6 t frozen
      | o => o }
theorem laidWorld_row (os : Os) : ((laidWorld os).forCall (fun _ _ => 0) ⟨#[], #[.slice none 0 0], []⟩).memory.heap[0]? = some (.cells cells6 70 (0, 0)) := by kernel_rfl
abbrev tableH {H : Type} : DataW H := .agg [.lit (.int .u8 63), .lit (.int .u8 31), .lit (.int .u8 7), .lit (.int .u8 11), .lit (.int .u8 3), .lit (.int .u8 1)]
theorem reads_table {H : Type} (enc : TypeId × Value → H) (W : World) (sp : Nat → Bool) : DataW.trod enc Tryd.prog W 0 sp true 3 70 cells6.toList = some (tableH, []) := by kernel_rfl
theorem laid_met (os : Os) : laidMet Tryd.prog [("loop.example/schemamigration/impl.lockMasks", Rows.laid_loop_example_schemamigration_impl_lockMasks)] ((laidWorld os).forCall (fun _ _ => 0) ⟨#[], #[.slice none 0 0], []⟩).memory :=
  ⟨_, ⟨0, 70, cells6, 8, [], [], by kernel_rfl, by kernel_rfl, by kernel_rfl, by kernel_rfl, rfl, rfl⟩, by decide, fun b off h => by
    have h' : MemPlace.cell b off ∈ [MemPlace.cell 0 0, .cell 0 1, .cell 0 2, .cell 0 3, .cell 0 4, .cell 0 5] := h
    have hb : b = 0 := by
      simp at h'
      omega
    subst hb
    refine ⟨⟨_, _, laidWorld_row os⟩, fun u v hc => ?_⟩
    simp only [World.cell?, laidWorld_row os] at hc
    simp at h'
    rcases h' with rfl | rfl | rfl | rfl | rfl | rfl <;> simp [cells6] at hc⟩
theorem gl_of_var {W : World} (hvar : W.var? Tryd.prog "loop.example/schemamigration/impl.lockMasks" = some cells6) : V.GlAt W (fun b => b < W.heap.size) (fun b => b ∈ ([] : List Nat)) := by
  intro g ks xs hg
  have hc : ∀ i, W.cell? ⟨0, i, none⟩ = cells6[i]? := fun i => World.var?_cell glob hvar i
  have h0 : 0 < W.heap.size := by
    apply Classical.byContradiction
    intro q
    have := hc 0
    simp [World.cell?, Array.getElem?_eq_none (Nat.le_of_not_lt q), cells6] at this
  unfold V.glTab at hg
  split at hg
  · cases hg
    refine ⟨h0, List.not_mem_nil, h0, fun i c kd hi hk => ?_⟩
    cases c with
    | succ c => cases c <;> simp [V.getK] at hk
    | zero =>
      simp [V.getK] at hk
      subst hk
      have hi' : i = 0 ∨ i = 1 ∨ i = 2 ∨ i = 3 ∨ i = 4 ∨ i = 5 := by simp at hi; omega
      rcases hi' with rfl | rfl | rfl | rfl | rfl | rfl <;> exact hc _
  · cases hg
theorem var_stays {W W' : World} (hb : Below W.heap.size W W') (hvar : W.var? Tryd.prog "loop.example/schemamigration/impl.lockMasks" = some cells6) : W'.var? Tryd.prog "loop.example/schemamigration/impl.lockMasks" = some cells6 := by
  have h0 : 0 < W.heap.size := (gl_of_var hvar 0 _ _ rfl).1
  obtain ⟨_, _, _, _, hk⟩ := hb
  have e := hk 0 h0
  simp only [World.var?, glob, Option.bind_some] at hvar ⊢
  rw [e]; exact hvar

end Go.Proofs.YtbppiknmlipmpaaDoor
