/-
  FnDropLock returns true and leaves its argument as it was, where the table lockMasks reads as the program's text lays it (tied: the card).
-/
import Derived.Test.YtbppiknmlipmpaaDoorQf
import Derived.Test.YtbppiknmlipmpaaDoorDk
import Derived.Test.YtbppiknmlipmpaaDoorCards
import Derived.Test.YtbppiknmlipmpaaDoorTie
set_option linter.unusedSimpArgs false
set_option linter.unusedVariables false
namespace Go.Proofs.YtbppiknmlipmpaaDoor
open Go Go.ChangeShapes Go.WideShapes Go.ChangeAt Go.RowKit Go.Deep

set_option maxRecDepth 100000 in
theorem fnDropLock_lifted (os : Os) (started : os.Started) (H : Type) (enc : TypeId × Value → H) :
    ReturnsInHanded {} Tryd.checked os 3 .any (fun w args => (Rows.fnDropLockSpec.pre enc Tryd.prog Tryd.f3 [] false w args ∧ laidMet Tryd.prog [("loop.example/schemamigration/impl.lockMasks", Rows.laid_loop_example_schemamigration_impl_lockMasks)] w) ∧ sizedMet enc Tryd.prog Tryd.f3 (OpenSpec.ofChange Rows.fnDropLockSpec) false w args)
      (Rows.fnDropLockSpec.post enc Tryd.prog Tryd.f3 false true false false) := by
  refine returnsInHanded_of_change_and (C := Tryd.checked) (X := fun w _ => laidMet Tryd.prog [("loop.example/schemamigration/impl.lockMasks", Rows.laid_loop_example_schemamigration_impl_lockMasks)] w) (fun _ _ _ hh h => h.of_heap hh) own started (by kernel_rfl) Tryd.func3
    (ChangeSpec.witness_at (enc := enc) (C := Tryd.checked) (os := os) (X := fun w _ => laidMet Tryd.prog [("loop.example/schemamigration/impl.lockMasks", Rows.laid_loop_example_schemamigration_impl_lockMasks)] w) false (laidWorld os) #[.slice none 0 0] 8 rfl (by kernel_rfl) (by kernel_rfl) (by kernel_rfl) (by kernel_rfl) (by kernel_rfl) (laid_met os)) ?_
  intro W base args ds gs before hval0 hW _ _ hL _
  have hval : ∀ (j : Nat) t v, Tryd.f3.params[j]? = some t → args[j]? = some v → Value.okWide Tryd.prog W .any base t v := hval0
  have hW' := hW
  obtain ⟨p, q, hA0, hV0, rfl, hfz, hnd⟩ := hW
  have hA : DataW.TrodAll enc Tryd.prog W 0 (fun _ => true) true Tryd.f3.params.toList args.toList ds p := hA0
  have hV : DataW.TrodVars enc Tryd.prog W (fun _ => true) ["loop.example/schemamigration/impl.lockMasks"] gs q := hV0
  rw [Tryd.params3] at hA hval
  obtain ⟨v0, d0, rfl, rfl, h0⟩ := trodAll_one hA
  obtain ⟨g, t, cs, fuel, d, p', rfl, hg, ht, hvar, hd, rfl⟩ := trodVars_one hV
  obtain rfl := Option.some.inj (glob.symm.trans hg)
  obtain rfl := Option.some.inj (globType.symm.trans ht)
  obtain rfl : cs = cells6 := Option.some.inj (hvar.symm.trans (cells_of_laid hL))
  obtain ⟨rfl, rfl⟩ := DataW.Trod.unique (v := .agg cells6) ⟨fuel, hd⟩ ⟨3, reads_table enc W _⟩
  clear hA0 hV0 hval0
  have hlt : ∀ x ∈ p, x.block < W.heap.size := fun x hx => hW'.lt x (List.mem_append_left _ hx)
  obtain ⟨a0, k0, e0⟩ := V.open_pk (pk := .c (.s V.KU8)) (by kernel_rfl) (hval 0 22 v0 rfl rfl) (fun x hx => hlt x hx) h0
  have hcall := V.p_fnDropLock.sound (fun b => b < W.heap.size) W [a0] [v0] [] (fun r _ => r = .bool true) (gl_of_var hvar)
    ⟨v0, [], [], [], rfl, rfl, e0, rfl, rfl⟩ List.nodup_nil (fun b hb => ⟨hb, List.not_mem_nil⟩) (fun b hb => absurd hb List.not_mem_nil)
    ⟨⟨a0, _, rfl, k0, rfl⟩, rfl⟩
  refine hcall.mono ?_
  rintro e W' ⟨v, r, io, B', rfl, rfl, hr, _, _, _, hst⟩
  have hv : v = .bool true := hr.1
  subst hv
  have hb : Below W.heap.size W W' := ⟨hst.os, hst.tape, hst.output, hst.size, fun k hk => hst.block k hk List.not_mem_nil⟩
  have hok : Value.okWide Tryd.prog W' .any 0 4 (.bool true) := by simp [Value.okWide, Tryd.underlying4, Cell.okWide, Cell.ok]
  have stay : ∀ (sp : Nat → Bool), (∀ x ∈ p, sp x.block = true) → DataW.Trod enc Tryd.prog W' 0 sp true 22 v0 d0 p := fun sp hsp =>
    WideElems.Trod_stays laidOut (by kernel_rfl) (of_decide_eq_true (by kernel_rfl)) h0 (fun x hx => hb.same (hlt x hx)) (fun x hx => hsp x hx)
  exact ⟨_, rfl, V.shut_below (pa := p) (pv := MemPlace.row ⟨0, 0, none⟩ cells6.size ++ []) hW' (fun _ _ _ => trodAll_mk1 (shut_bool Tryd.underlying4 true))
    (fun sp hsp => by
      have h2 := trodAll_mk1 (stay sp (fun x hx => hsp x (List.mem_append_left _ hx)))
      exact h2) (fun sp _ => trodVars_mk1 glob globType (var_stays hb hvar) (reads_table enc W' sp)) rfl hb (ok_one (t := 4) (by kernel_rfl) rfl hok)⟩

theorem fnDropLock_row : Rows.FnDropLockSaid :=
  OpenClaim.holds_of_wide 3 Tryd.f3 rfl rfl rfl rfl rfl rfl rfl ⟨rfl, rfl, rfl, rfl, rfl⟩ rfl rfl rfl rfl rfl (by kernel_rfl) Tryd.func3 (by kernel_rfl)
    (of_decide_eq_true (by kernel_rfl)) (by unfold Func.isWrapper; first | (rw [if_pos (by decide +kernel)]; kernel_rfl) | (rw [if_neg (by decide +kernel)]; exact ⟨rfl, rfl⟩))
    (fun os started H enc _ => fnDropLock_lifted os started H enc)

theorem fnDropLock_holds : Rows.FnDropLockCardSaid :=
  Claim7.holds_tied_plain_at .later [] [.data] true (true, "00b59d1229517070db895b0a13439f58146c34a4bd6e3c7c2415fa63a12d2039") false
    fnDropLock_row (fun _ h => by cases h) (by kernel_rfl) (fun _ h => by cases h) fnDropLock_row_tie rfl ⟨rfl, rfl⟩ (by kernel_rfl) rfl
    (fun f fn hf hfn => by
      obtain rfl : f = 3 := Option.some.inj ((show Tryd.prog.funcNamed "loop.example/schemamigration/laws.FnDropLock" = some 3 by kernel_rfl).symm.trans hf) |>.symm
      obtain rfl : fn = Tryd.f3 := (Option.some.inj (Tryd.func3.symm.trans hfn)).symm
      exact ⟨by kernel_rfl, fun j t ht => by
        rw [Tryd.params3] at ht
        have h3 : t = 22 := by
          rcases j with _ | j
          · simpa using ht.symm
          · simp at ht
        subst h3
        exact (show Tryd.prog.wantsStandIn 22 = false by kernel_rfl)⟩)
    (by kernel_rfl)

end Go.Proofs.YtbppiknmlipmpaaDoor
