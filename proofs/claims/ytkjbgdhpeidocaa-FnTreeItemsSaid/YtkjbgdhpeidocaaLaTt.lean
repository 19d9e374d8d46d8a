/-
  FnTreeItems returns true and leaves its arguments as they were: for every input. No conditions.
-/
import Derived.Test.YtkjbgdhpeidocaaTu
import Derived.Test.YtkjbgdhpeidocaaRows
set_option linter.unusedSimpArgs false
set_option linter.unusedVariables false
namespace Go.Proofs.Ytkjbgdhpeidocaa
open Go Go.ChangeShapes Go.WideShapes Go.ChangeAt Go.RowKit Go.Deep

theorem own : ownKnob Try.prog.godebug = none := by kernel_rfl
theorem laidOut : laidOutB Try.prog = true := by kernel_rfl

set_option maxRecDepth 100000 in
theorem fnTreeItems_lifted (os : Os) (started : os.Started) (H : Type) (enc : TypeId × Value → H) :
    ReturnsInHanded {} Try.checked os 7 .any (Rows.fnTreeItemsSpec.pre6 enc Try.prog Try.f7 Rows.fnTreeItemsRow.domain false) (Rows.fnTreeItemsSpec.post enc Try.prog Try.f7 false true false false) := by
  refine returnsInHanded_of_change (C := Try.checked) own started (by kernel_rfl) Try.func7
    (ChangeSpec.witness6 (enc := enc) (C := Try.checked) false ⟨#[], #[.slice none 0 0], []⟩ 8 (by kernel_rfl) (by kernel_rfl) (by kernel_rfl) (by kernel_rfl)) ?_
  intro W base args ds gs before hval0 hW hcnd _
  have hval : ∀ (j : Nat) t v, Try.f7.params[j]? = some t → args[j]? = some v → Value.okWide Try.prog W .any base t v := hval0
  have hW' := hW
  obtain ⟨p, q, hA0, hV, rfl, hfz, hnd⟩ := hW
  have hA : DataW.TrodAll enc Try.prog W 0 (fun _ => true) true Try.f7.params.toList args.toList ds p := hA0
  rw [Try.params7] at hA hval
  obtain ⟨v0, d0, rfl, rfl, h0⟩ := trodAll_one hA
  have hpe : p = p := rfl
  obtain ⟨rfl, rfl⟩ := trodVars_none hV
  clear hA0 hval0
  simp only [List.append_nil] at hW'
  have hlt : ∀ x ∈ p, x.block < W.heap.size := fun x hx => by simpa using hW'.lt x hx
  obtain ⟨a0, k0, e0⟩ := V.open_pk (pk := .c (.s V.KU8)) (by kernel_rfl) (hval 0 46 v0 rfl rfl) (fun x hx => hlt x hx) h0
  have hcall := V.p_fnTreeItems.sound (fun b => b < W.heap.size) W [a0] [v0] [] (fun r _ => r = .bool true)
    (by intro g ks xs h; simp [V.glTab] at h) ⟨v0, [], [], [], rfl, rfl, e0, rfl, rfl⟩ List.nodup_nil (fun b hb => ⟨hb, List.not_mem_nil⟩) (fun b hb => absurd hb List.not_mem_nil)
    ⟨⟨a0, _, rfl, k0, rfl⟩, rfl⟩
  refine hcall.mono ?_
  rintro e W' ⟨v, r, io, B', rfl, rfl, hr, _, _, _, hst⟩
  have hv : v = .bool true := hr.1
  subst hv
  have hb : Below W.heap.size W W' := ⟨hst.os, hst.tape, hst.output, hst.size, fun k hk => hst.block k hk List.not_mem_nil⟩
  have hok : Value.okWide Try.prog W' .any 0 4 (.bool true) := by simp [Value.okWide, Try.underlying4, Cell.okWide, Cell.ok]
  have stay : ∀ (sp : Nat → Bool), (∀ x ∈ p, sp x.block = true) → ∀ (t : TypeId) (v : Value) (d : DataW H) (pl : List MemPlace), Try.prog.readableRec t = true → t < Try.prog.types.size → (∀ x ∈ pl, x ∈ p) →
      DataW.Trod enc Try.prog W 0 (fun _ => true) true t v d pl → DataW.Trod enc Try.prog W' 0 sp true t v d pl := fun sp hsp t v d pl h1 h2 h3 h4 =>
    WideElems.Trod_stays laidOut h1 h2 h4 (fun x hx => hb.same (hlt x (h3 x hx))) (fun x hx => hsp x (h3 x hx))
  have s0 := fun sp hsp => stay sp hsp 46 v0 d0 p (by kernel_rfl) (of_decide_eq_true (by kernel_rfl)) (fun x hx => hx) h0
  exact ⟨_, rfl, V.shut_below (pa := p) (pv := []) hW' (fun _ _ _ => trodAll_mk1 (shut_bool Try.underlying4 true))
    (fun sp hsp => by
      have h2 := trodAll_mk1 (s0 sp hsp)
      exact h2) (fun _ _ => rfl) (by simp) hb (ok_one (t := 4) (by kernel_rfl) rfl hok)⟩

theorem fnTreeItems_holds : Rows.FnTreeItemsSaid :=
  OpenClaim.holds_of_wide 7 Try.f7 rfl rfl rfl rfl rfl rfl rfl ⟨rfl, rfl, rfl, rfl, rfl⟩ rfl rfl rfl rfl rfl (by kernel_rfl) Try.func7 (by kernel_rfl)
    (of_decide_eq_true (by kernel_rfl)) (by unfold Func.isWrapper; first | (rw [if_pos (by decide +kernel)]; kernel_rfl) | (rw [if_neg (by decide +kernel)]; exact ⟨rfl, rfl⟩))
    (fun os started H enc _ => fnTreeItems_lifted os started H enc)

end Go.Proofs.Ytkjbgdhpeidocaa

