/-
  A verified generator of verification conditions over the model's Code, part N: cuts of slices, and the small operations.
-/
import Derived.Test.YtkjbgdhpeidocaaVcM
set_option linter.unusedSimpArgs false
set_option linter.unusedVariables false
namespace Go.Proofs.Ytkjbgdhpeidocaa.V
open Go Go.RowKit

section
variable {P : Program} {Γ : Cx} {X : Fx} {tm : List (Nat × AV)} {hp : List (Option Entry)} {z : Cz} {a : Act} {w w' : World} {n : Nat}
  {K : St → Prop} {next : Act → World → Prop} {Q : Exit → Act → World → Prop} {o : Oper} {ok lv : Nat → Prop}

theorem lookT_thaw (k : Nat) (v' : AV) : ∀ (tm : List (Nat × AV)) (t : Nat), lookT (thawT k v' tm) t = thaw1 k v' (lookT tm t)
  | [], t => by simp [thawT, lookT, thaw1, AV.hits]
  | (s, v) :: r, t => by
    simp only [thawT, lookT_cons]
    by_cases e : s = t
    · simp [e]
    · simp only [e, if_false]; exact lookT_thaw k v' r t

/-- What becomes of a value when entry k is given up. -/
theorem thaw_rel {ok' lv' : Nat → Prop} (k : Nat) {v v' : AV} {u : Value} (h : AVR ok lv w z v u) (hm : ∀ (a : AV) (x : Value), AVR ok (fun j => lv j ∧ j ≠ k) w z a x → AVR ok' lv' w z a x)
    (hv : ∀ x, x = z.ρ k → AVR ok' lv' w z v' x) : AVR ok' lv' w z (thaw1 k v' v) u := by
  have gen : ∀ x : AV, AVR ok lv w z x u → AVR ok' lv' w z (if x.hits k then .top else x) u := by
    intro x hx
    cases e2 : x.hits k with
    | true => simp [AVR]
    | false => simp only [Bool.false_eq_true, if_false]; exact hm x u (AVR.unhit k x u hx e2)
  cases v with
  | own j =>
    simp only [thaw1]
    by_cases x : k = j
    · subst x
      simp only [AVR] at h
      rw [if_pos rfl]
      exact hv u h.2
    · rw [if_neg x]
      exact hm _ _ (AVR.unhit k _ _ h (by simp [AV.hits, x]))
  | _ => simp only [thaw1]; exact gen _ h

theorem thawA_rel {ok' lv' : Nat → Prop} (k : Nat) {v' : AV} (hm : ∀ (a : AV) (x : Value), AVR ok (fun j => lv j ∧ j ≠ k) w z a x → AVR ok' lv' w z a x)
    (hv : ∀ x, x = z.ρ k → AVR ok' lv' w z v' x) : ∀ {l : List AV} {vs : List Value}, AVRs ok lv w z l vs → AVRs ok' lv' w z (thawA k v' l) vs
  | [], vs, h => by simpa [thawA, AVRs] using h
  | v :: l, vs, h => by
    simp only [AVRs] at h
    obtain ⟨u, us, rfl, h1, h2⟩ := h
    simp only [thawA, AVRs]
    exact ⟨u, us, rfl, thaw_rel k h1 hm hv, thawA_rel k hm hv h2⟩

theorem lookH_thaw (k : Nat) (v' : AV) : ∀ (hp : List (Option Entry)) (j : Nat), lookH (thawH k v' hp) j = (lookH hp j).map fun e => match e with | .box l => .box (thawA k v' l) | e => e
  | [], j => by cases j <;> simp [thawH, lookH]
  | none :: r, 0 => by simp [thawH, lookH]
  | none :: r, j + 1 => by simp [thawH, lookH, lookH_thaw k v' r j]
  | some (.box l) :: r, 0 => by simp [thawH, lookH]
  | some (.box l) :: r, j + 1 => by simp [thawH, lookH, lookH_thaw k v' r j]
  | some (.rows _ _ _) :: r, 0 => by simp [thawH, lookH]
  | some (.rows _ _ _) :: r, j + 1 => by simp [thawH, lookH, lookH_thaw k v' r j]
  | some (.arr _ _) :: r, 0 => by simp [thawH, lookH]
  | some (.vnest _ _ _) :: r, 0 => by simp [thawH, lookH]
  | some (.nest _ _ _ _) :: r, 0 => by simp [thawH, lookH]
  | some (.arr _ _) :: r, j + 1 => by simp [thawH, lookH, lookH_thaw k v' r j]
  | some (.vnest _ _ _) :: r, j + 1 => by simp [thawH, lookH, lookH_thaw k v' r j]
  | some (.nest _ _ _ _) :: r, j + 1 => by simp [thawH, lookH, lookH_thaw k v' r j]
theorem length_thaw (k : Nat) (v' : AV) : ∀ (hp : List (Option Entry)), (thawH k v' hp).length = hp.length
  | [] => rfl
  | none :: r => by simp [thawH, length_thaw k v' r]
  | some (.box l) :: r => by simp [thawH, length_thaw k v' r]
  | some (.rows _ _ _) :: r => by simp [thawH, length_thaw k v' r]
  | some (.arr _ _) :: r => by simp [thawH, length_thaw k v' r]
  | some (.vnest _ _ _) :: r => by simp [thawH, length_thaw k v' r]
  | some (.nest _ _ _ _) :: r => by simp [thawH, length_thaw k v' r]

/-- An owned row read as one that is only read. -/
theorem own_view {e m : Nat} {v : Value} {ks : List Kd} {xs : List Row} (h : w.ownsRow 0 e (lenK ks) v xs.length (flat ks xs)) (hok : ∀ b, blk v = some b → ok b) (_ : m = m) : ViewR ok w ks xs v := by
  rcases h.2 with ⟨rfl, h0⟩ | ⟨g, cap, cur, rfl, _, hg, hnc, _⟩
  · exact ⟨none, 0, by rw [h0], by omega, .inl (List.length_eq_zero_iff.1 h0)⟩
  · refine ⟨some ⟨g, 0, none⟩, cap, rfl, hnc, .inr ⟨g, 0, rfl, hok g rfl, fun i c kd hi hk => ?_⟩⟩
    have := h.cells (g := g) rfl _ _ (flat_get ks xs i c kd hk hi)
    rwa [Addr.add_lit] at this

theorem Rel.thaw (h : Rel X tm hp z a w) (k e : Nat) (ks : List Kd) (xs : List Row) (hk : lookH hp k = some (.rows e ks xs)) (hm : X.m ≤ k) :
    Rel X (thawT k (.view ks xs) tm) (setH (thawH k (.view ks xs) hp) k none) z a w := by
  have hlt := lookH_lt hk
  have hlv0 := live_of hk
  have hlive : ∀ j, live (setH (thawH k (.view ks xs) hp) k none) j ↔ live hp j ∧ j ≠ k := by
    intro j; unfold live; rw [lookH_set, length_thaw, lookH_thaw]
    by_cases x : j = k
    · subst x; simp [hlt]
    · simp [x]
  have hok : ∀ b, okB X hp z w b → okB X (setH (thawH k (.view ks xs) hp) k none) z w b := fun b hb => ⟨hb.1, hb.2.1, fun j hj => hb.2.2 j ((hlive j).1 hj).1⟩
  have hmono : ∀ (v : AV) (x : Value), AVR (okB X hp z w) (fun j => live hp j ∧ j ≠ k) w z v x → AVR (okB X (setH (thawH k (.view ks xs) hp) k none) z w) (live (setH (thawH k (.view ks xs) hp) k none)) w z v x :=
    fun v x hv => AVR.mono hok (fun _ _ => rfl) (fun j hj => ⟨(hlive j).2 hj, rfl, rfl, rfl⟩) v x hv
  have hview : ∀ x, x = z.ρ k → AVR (okB X (setH (thawH k (.view ks xs) hp) k none) z w) (live (setH (thawH k (.view ks xs) hp) k none)) w z (.view ks xs) x := by
    intro x hx
    subst hx
    simp only [AVR]
    refine own_view (m := 0) (h.ens k _ hk).1 (fun b hb => ⟨.inr ((h.own k b hlv0 (.inl hb)).2.2 hm), (h.own k b hlv0 (.inl hb)).1, fun j hj e => ?_⟩) rfl
    exact ((hlive j).1 hj).2 (h.dj j k b ((hlive j).1 hj).1 hlv0 e (.inl hb))
  exact {
    tms := fun t => by
      rw [lookT_thaw]; exact thaw_rel k (h.tms t) hmono hview
    ens := fun j e3 he3 => by
      rw [lookH_set, length_thaw, lookH_thaw] at he3
      by_cases x : j = k
      · subst x; simp [hlt] at he3
      · simp only [x, false_and, if_false] at he3
        cases hj : lookH hp j with
        | none => rw [hj] at he3; simp at he3
        | some e4 =>
          rw [hj] at he3
          have hen := h.ens j e4 hj
          cases e4 with
          | box l =>
            simp only [Option.map_some, Option.some.injEq] at he3
            subst he3
            obtain ⟨b, cur, T, q1, q2, q3, q4, q5⟩ := hen
            exact ⟨b, cur, T, q1, q2, q3, thawA_rel k hmono hview q4, q5⟩
          | rows e5 ks5 xs5 =>
            simp only [Option.map_some, Option.some.injEq] at he3
            subst he3
            exact hen
          | vnest e5 ks5 xss5 =>
            simp only [Option.map_some, Option.some.injEq] at he3
            subst he3
            obtain ⟨vs, q1, q2, q3, q4⟩ := hen
            refine ⟨vs, q1, q2, q3, fun i hi => ?_⟩
            obtain ⟨u, q5, q6⟩ := q4 i hi
            exact ⟨u, q5, q6.mono hok (fun _ _ => rfl)⟩
          | nest e5 f5 ks5 xss5 =>
            simp only [Option.map_some, Option.some.injEq] at he3
            subst he3
            exact hen.nest_still ⟨rfl, rfl, rfl⟩ (fun _ _ => rfl)
          | arr ks5 xs5 =>
            simp only [Option.map_some, Option.some.injEq] at he3
            subst he3
            exact hen
    dj := fun i j b hi hj => h.dj i j b ((hlive i).1 hi).1 ((hlive j).1 hj).1
    own := fun j b hj => h.own j b ((hlive j).1 hj).1
    io := fun j hj hl => h.io j hj ((hlive j).1 hl).1
    mm := by rw [length_set, length_thaw]; exact h.mm
    fr := h.fr, os := h.os, tape := h.tape, output := h.output, size := h.size, df := h.df }

/-! A box of plain cells that is given up: what points into it points to what is only read. -/
theorem lookT_freeze (k : Nat) (ks : List Kd) (r : Row) : ∀ (tm : List (Nat × AV)) (t : Nat), lookT (freezeT k ks r tm) t = freeze1 k ks r (lookT tm t)
  | [], t => by simp [freezeT, lookT, freeze1, AV.hits]
  | (s, v) :: l, t => by
    simp only [freezeT, lookT_cons]
    by_cases e : s = t
    · simp [e]
    · simp only [e, if_false]; exact lookT_freeze k ks r l t
theorem plainRow_rel : ∀ {l : List AV} {vs : List Value} {ks : List Kd} {r : Row}, plainRow l = some (ks, r) → AVRs ok lv w z l vs → lenK ks = l.length ∧ ∀ c kd, getK ks c = some kd → vs[c]? = some (kd.val (rc r c))
  | [], vs, ks, r, h, hv => by
    simp only [plainRow, Option.some.injEq, Prod.mk.injEq] at h
    obtain ⟨rfl, rfl⟩ := h
    exact ⟨rfl, fun c kd hk => by cases c <;> simp [getK] at hk⟩
  | v :: l, vs, ks, r, h, hv => by
    simp only [AVRs] at hv
    obtain ⟨u, us, rfl, h1, h2⟩ := hv
    simp only [plainRow] at h
    split at h
    case h_2 => cases h
    rename_i ks' r' hr
    obtain ⟨q1, q2⟩ := plainRow_rel hr h2
    have key : ∀ (kd : Kd) (s : Sc), ks = kd :: ks' → r = s :: r' → u = kd.val s → lenK ks = (v :: l).length ∧ ∀ c kd, getK ks c = some kd → (u :: us)[c]? = some (kd.val (rc r c)) := by
      intro kd s e1 e2 e3
      subst e1; subst e2; subst e3
      refine ⟨by simp [lenK, q1], fun c kd' hk => ?_⟩
      cases c with
      | zero => simp only [getK, Option.some.injEq] at hk; subst hk; simp [rc]
      | succ c => simp only [getK] at hk; have := q2 c kd' hk; simpa [rc] using this
    cases v <;> simp only at h <;> (try (cases h; done))
    · simp only [Option.some.injEq, Prod.mk.injEq] at h; exact key _ _ h.1.symm h.2.symm h1.of_int
    · simp only [Option.some.injEq, Prod.mk.injEq] at h; exact key _ _ h.1.symm h.2.symm h1.of_bool
    · simp only [Option.some.injEq, Prod.mk.injEq] at h; exact key _ _ h.1.symm h.2.symm h1.of_str
theorem freeze_rel {ok' lv' : Nat → Prop} (k : Nat) {ks : List Kd} {r : Row} {v : AV} {u : Value} (h : AVR ok lv w z v u) (hm : ∀ (a : AV) (x : Value), AVR ok (fun j => lv j ∧ j ≠ k) w z a x → AVR ok' lv' w z a x)
    (hv : ∀ c b, z.ρ k = .pointer (some ⟨b, 0, none⟩) → AVR ok' lv' w z (.vcel ks [r] 0 c) (.pointer (some ⟨b, c, none⟩))) : AVR ok' lv' w z (freeze1 k ks r v) u := by
  have gen : ∀ x : AV, AVR ok lv w z x u → AVR ok' lv' w z (if x.hits k then .top else x) u := by
    intro x hx
    cases e2 : x.hits k with
    | true => simp [AVR]
    | false => simp only [Bool.false_eq_true, if_false]; exact hm x u (AVR.unhit k x u hx e2)
  cases v with
  | box j c =>
    simp only [freeze1]
    by_cases x : k = j
    · subst x
      simp only [AVR] at h
      obtain ⟨_, b, hb, rfl⟩ := h
      rw [if_pos rfl]
      exact hv c b hb
    · rw [if_neg x]
      exact hm _ _ (AVR.unhit k _ _ h (by simp [AV.hits, x]))
  | _ => simp only [freeze1]; exact gen _ h
theorem freezeA_rel {ok' lv' : Nat → Prop} (k : Nat) {ks : List Kd} {r : Row} (hm : ∀ (a : AV) (x : Value), AVR ok (fun j => lv j ∧ j ≠ k) w z a x → AVR ok' lv' w z a x)
    (hv : ∀ c b, z.ρ k = .pointer (some ⟨b, 0, none⟩) → AVR ok' lv' w z (.vcel ks [r] 0 c) (.pointer (some ⟨b, c, none⟩))) : ∀ {l : List AV} {vs : List Value}, AVRs ok lv w z l vs → AVRs ok' lv' w z (freezeA k ks r l) vs
  | [], vs, h => by simpa [freezeA, AVRs] using h
  | v :: l, vs, h => by
    simp only [AVRs] at h
    obtain ⟨u, us, rfl, h1, h2⟩ := h
    simp only [freezeA, AVRs]
    exact ⟨u, us, rfl, freeze_rel k h1 hm hv, freezeA_rel k hm hv h2⟩
theorem lookH_freeze (k : Nat) (ks : List Kd) (r : Row) : ∀ (hp : List (Option Entry)) (j : Nat), lookH (freezeH k ks r hp) j = (lookH hp j).map fun e => match e with | .box l => .box (freezeA k ks r l) | e => e
  | [], j => by cases j <;> simp [freezeH, lookH]
  | none :: l, 0 => by simp [freezeH, lookH]
  | none :: l, j + 1 => by simp [freezeH, lookH, lookH_freeze k ks r l j]
  | some (.box _) :: l, 0 => by simp [freezeH, lookH]
  | some (.box _) :: l, j + 1 => by simp [freezeH, lookH, lookH_freeze k ks r l j]
  | some (.rows _ _ _) :: l, 0 => by simp [freezeH, lookH]
  | some (.rows _ _ _) :: l, j + 1 => by simp [freezeH, lookH, lookH_freeze k ks r l j]
  | some (.arr _ _) :: l, 0 => by simp [freezeH, lookH]
  | some (.vnest _ _ _) :: l, 0 => by simp [freezeH, lookH]
  | some (.nest _ _ _ _) :: l, 0 => by simp [freezeH, lookH]
  | some (.arr _ _) :: l, j + 1 => by simp [freezeH, lookH, lookH_freeze k ks r l j]
  | some (.vnest _ _ _) :: l, j + 1 => by simp [freezeH, lookH, lookH_freeze k ks r l j]
  | some (.nest _ _ _ _) :: l, j + 1 => by simp [freezeH, lookH, lookH_freeze k ks r l j]
theorem length_freeze (k : Nat) (ks : List Kd) (r : Row) : ∀ (hp : List (Option Entry)), (freezeH k ks r hp).length = hp.length
  | [] => rfl
  | none :: l => by simp [freezeH, length_freeze k ks r l]
  | some (.box _) :: l => by simp [freezeH, length_freeze k ks r l]
  | some (.rows _ _ _) :: l => by simp [freezeH, length_freeze k ks r l]
  | some (.arr _ _) :: l => by simp [freezeH, length_freeze k ks r l]
  | some (.vnest _ _ _) :: l => by simp [freezeH, length_freeze k ks r l]
  | some (.nest _ _ _ _) :: l => by simp [freezeH, length_freeze k ks r l]

theorem Rel.freeze (h : Rel X tm hp z a w) (k : Nat) (l : List AV) (ks : List Kd) (r : Row) (hk : lookH hp k = some (.box l)) (hpl : plainRow l = some (ks, r)) (hm : X.m ≤ k) :
    Rel X (freezeT k ks r tm) (setH (freezeH k ks r hp) k none) z a w := by
  have hlt := lookH_lt hk
  have hlv0 := live_of hk
  have hlive : ∀ j, live (setH (freezeH k ks r hp) k none) j ↔ live hp j ∧ j ≠ k := by
    intro j; unfold live; rw [lookH_set, length_freeze, lookH_freeze]
    by_cases x : j = k
    · subst x; simp [hlt]
    · simp [x]
  have hok : ∀ b, okB X hp z w b → okB X (setH (freezeH k ks r hp) k none) z w b := fun b hb => ⟨hb.1, hb.2.1, fun j hj => hb.2.2 j ((hlive j).1 hj).1⟩
  have hmono : ∀ (v : AV) (x : Value), AVR (okB X hp z w) (fun j => live hp j ∧ j ≠ k) w z v x → AVR (okB X (setH (freezeH k ks r hp) k none) z w) (live (setH (freezeH k ks r hp) k none)) w z v x :=
    fun v x hv => AVR.mono hok (fun _ _ => rfl) (fun j hj => ⟨(hlive j).2 hj, rfl, rfl, rfl⟩) v x hv
  have hview : ∀ c b, z.ρ k = .pointer (some ⟨b, 0, none⟩) → AVR (okB X (setH (freezeH k ks r hp) k none) z w) (live (setH (freezeH k ks r hp) k none)) w z (.vcel ks [r] 0 c) (.pointer (some ⟨b, c, none⟩)) := by
    intro c b hb
    have hbb : z.bk k b := .inl (by rw [hb]; rfl)
    obtain ⟨b', cur, T, hb', hh, hone, ha, hz0⟩ := h.ens k _ hk
    rw [hb] at hb'
    simp only [Value.pointer.injEq, Option.some.injEq, Addr.mk.injEq, and_true] at hb'
    subst hb'
    simp only [AVR]
    refine ⟨by simp, b, 0, ⟨.inr ((h.own k b hlv0 hbb).2.2 hm), (h.own k b hlv0 hbb).1, fun j hj e => ?_⟩, by simp, fun c' kd hkd => ?_⟩
    · exact ((hlive j).1 hj).2 (h.dj j k b ((hlive j).1 hj).1 hlv0 e hbb)
    · have := (plainRow_rel hpl ha).2 c' kd hkd
      rw [cell_of_row w b _ cur T (0, 0) hh]
      simpa [row] using this
  exact {
    tms := fun t => by
      rw [lookT_freeze]; exact freeze_rel k (h.tms t) hmono hview
    ens := fun j e3 he3 => by
      rw [lookH_set, length_freeze, lookH_freeze] at he3
      by_cases x : j = k
      · subst x; simp [hlt] at he3
      · simp only [x, false_and, if_false] at he3
        cases hj : lookH hp j with
        | none => rw [hj] at he3; simp at he3
        | some e4 =>
          rw [hj] at he3
          have hen := h.ens j e4 hj
          cases e4 with
          | box l =>
            simp only [Option.map_some, Option.some.injEq] at he3
            subst he3
            obtain ⟨b, cur, T, q1, q2, q3, q4, q5⟩ := hen
            exact ⟨b, cur, T, q1, q2, q3, freezeA_rel k hmono hview q4, q5⟩
          | rows e5 ks5 xs5 =>
            simp only [Option.map_some, Option.some.injEq] at he3
            subst he3
            exact hen
          | vnest e5 ks5 xss5 =>
            simp only [Option.map_some, Option.some.injEq] at he3
            subst he3
            obtain ⟨vs, q1, q2, q3, q4⟩ := hen
            refine ⟨vs, q1, q2, q3, fun i hi => ?_⟩
            obtain ⟨u, q5, q6⟩ := q4 i hi
            exact ⟨u, q5, q6.mono hok (fun _ _ => rfl)⟩
          | nest e5 f5 ks5 xss5 =>
            simp only [Option.map_some, Option.some.injEq] at he3
            subst he3
            exact hen.nest_still ⟨rfl, rfl, rfl⟩ (fun _ _ => rfl)
          | arr ks5 xs5 =>
            simp only [Option.map_some, Option.some.injEq] at he3
            subst he3
            exact hen
    dj := fun i j b hi hj => h.dj i j b ((hlive i).1 hi).1 ((hlive j).1 hj).1
    own := fun j b hj => h.own j b ((hlive j).1 hj).1
    io := fun j hj hl => h.io j hj ((hlive j).1 hl).1
    mm := by rw [length_set, length_freeze]; exact h.mm
    fr := h.fr, os := h.os, tape := h.tape, output := h.output, size := h.size, df := h.df }
/-- The variables that a closure holds. -/
theorem s_caps (hm : X.m = Γ.m) : ∀ (l : List Operand) {tm : List (Nat × AV)} {hp : List (Option Entry)} {C : List (Nat × AV) → List (Option Entry) → Prop}, Rel X tm hp z a w → stepFn Γ.m tm hp l C →
    ∃ tm' hp', Rel X tm' hp' z a w ∧ C tm' hp'
  | [], tm, hp, C, h, hs => by simp only [stepFn] at hs; exact ⟨tm, hp, h, hs⟩
  | x :: l, tm, hp, C, h, hs => by
    simp only [stepFn] at hs
    split at hs
    · rename_i k c he
      split at hs
      · rename_i l' hl
        split at hs
        · rename_i ks r hr
          split at hs
          · exact hs.elim
          · obtain ⟨h1, h2⟩ := hs
            exact s_caps hm l (h.freeze k l' ks r hl hr (by rw [hm]; exact h1)) h2
        · exact hs.elim
      · exact hs.elim
    · exact s_caps hm l h hs
    · exact hs.elim

theorem row_cut (xs : List Row) (l r i : Nat) (hi : i < ((xs.take r).drop l).length) : row ((xs.take r).drop l) i = row xs (l + i) := by
  simp only [List.length_drop, List.length_take] at hi
  simp only [row, List.getD_eq_getElem?_getD, List.getElem?_drop, List.getElem?_take]
  rw [if_pos (by omega)]

/-- A part of a slice that is only read. -/
theorem ViewR.cut {ks : List Kd} {xs : List Row} {ad : Option Addr} {len cap : Nat} (h : ViewR ok w ks xs (.slice ad len cap)) (l r : Nat) (h1 : l ≤ r) (h2 : r ≤ xs.length) :
    ViewR ok w ks ((xs.take r).drop l) (.slice (if cap = l then ad else ad.map (·.add (l * lenK ks))) (r - l) (cap - l)) := by
  obtain ⟨ad', cap', he, hc, h⟩ := h
  simp only [Value.slice.injEq] at he
  obtain ⟨rfl, rfl, rfl⟩ := he
  have hlen : ((xs.take r).drop l).length = r - l := by rw [List.length_drop, List.length_take]; omega
  refine ⟨_, _, by rw [hlen], by rw [hlen]; omega, ?_⟩
  rcases h with rfl | ⟨b, o, rfl, hb, h⟩
  · left; simp
  · by_cases hz : l = r
    · left; apply List.eq_nil_of_length_eq_zero; rw [hlen]; omega
    · right
      have : ¬ cap = l := by omega
      refine ⟨b, o + l * lenK ks, by simp [this, Addr.add_lit], hb, fun i c kd hi hk => ?_⟩
      rw [row_cut xs l r i hi]
      rw [hlen] at hi
      have := h (l + i) c kd (by omega) hk
      rw [Nat.add_mul] at this
      rw [← this]
      congr 2
      omega

theorem run_cut {t e : Nat} {i : TypeInfo} (hu : P.underlying t = some (.slice e)) (hi : P.info? e = some i) (ad : Option Addr) (len cap : Nat) (hlc : len ≤ cap) (lo hi' : Option Value) (l r : Nat)
    (h1 : lo = none ∧ l = 0 ∨ ∃ k, lo = some (.int k (l : Int))) (h2 : hi' = none ∧ r = len ∨ ∃ k, hi' = some (.int k (r : Int))) (hlr : l ≤ r) (hr : r ≤ len) :
    (Instr.sliceAt t (.slice ad len cap) lo hi' none).run P w = .ok (.slice (if cap = l then ad else ad.map (·.add (l * i.size))) (r - l) (cap - l)) w := by
  have hrc : r ≤ cap := by omega
  rcases h1 with ⟨rfl, rfl⟩ | ⟨k, rfl⟩ <;> rcases h2 with ⟨rfl, rfl⟩ | ⟨k', rfl⟩ <;>
    simp [Instr.sliceAt, Instr.slice, run_underlying hu, Instr.sliceBounds, Instr.sliceBound, asIntOf, run_sizeOf_of hi, hlr, hrc]

theorem optInt_rel {x : Option Operand} {d l : Int} (h : Rel X tm hp z a w) (hl : optInt (x.map (evalT tm)) d = some l) (h0 : 0 ≤ l) :
    (x.map a.eval = none ∧ l = d) ∨ ∃ k, x.map a.eval = some (.int k (l.toNat : Int)) := by
  cases x with
  | none => simp only [Option.map_none, optInt, Option.some.injEq] at hl; exact .inl ⟨rfl, hl.symm⟩
  | some x =>
    have hx := h.eval x
    simp only [Option.map_some] at hl ⊢
    generalize evalT tm x = v at hl hx
    unfold optInt at hl
    split at hl
    · cases ‹some v = none›
    · rename_i k i he
      simp only [Option.some.injEq] at he hl
      subst he; subst hl
      right
      exact ⟨k, by rw [hx.of_int]; congr 2; omega⟩
    · cases hl

theorem r_slice (hΓ : CxOk P Γ) (h : Rel X tm hp z a w) (hm : X.m = Γ.m) (t e esz eb : Nat) (ks' : List Kd) (x : Operand) (lo hi : Option Operand) (hT : Γ.τ t = .slice e esz eb ks')
    (hs : stepSlice Γ.m esz tm hp (evalT tm x) (lo.map (evalT tm)) (hi.map (evalT tm)) o.dst K)
    (ho : o.op = .slice t x lo hi none) (hv : ∀ k, evalT tm x ≠ .own k) : ResA P X hp z a w o fun v => K ⟨putT tm o.dst v, hp⟩ := by
  have _ := hm
  have hx := h.eval x
  have ht := hΓ.tab t
  rw [hT] at ht
  obtain ⟨i, hu, hie, hsz, _⟩ := ti_slice ht
  have hrun : ∀ (ad : Option Addr) (len cap l r : Nat), a.eval x = .slice ad len cap → len ≤ cap → (lo.map a.eval = none ∧ l = 0 ∨ ∃ k, lo.map a.eval = some (.int k (l : Int))) →
      (hi.map a.eval = none ∧ r = len ∨ ∃ k, hi.map a.eval = some (.int k (r : Int))) → l ≤ r → r ≤ len →
      ∀ w', (execOp a.eval o).run P w' = .ok (.value (.slice (if cap = l then ad else ad.map (·.add (l * esz))) (r - l) (cap - l))) w' := by
    intro ad len cap l r he hlc h1 h2 h3 h4 w'
    have := run_cut (P := P) (w := w') hu hie ad len cap hlc (lo.map a.eval) (hi.map a.eval) l r h1 h2 h3 h4
    rw [hsz] at this
    simp [execOp, ho, he, this]
  have bounds : ∀ (l r : Int) (len : Nat), optInt (lo.map (evalT tm)) 0 = some l → optInt (hi.map (evalT tm)) len = some r → (0 ≤ l ∧ l ≤ r ∧ r ≤ len) →
      (lo.map a.eval = none ∧ l.toNat = 0 ∨ ∃ k, lo.map a.eval = some (.int k (l.toNat : Int))) ∧ (hi.map a.eval = none ∧ r.toNat = len ∨ ∃ k, hi.map a.eval = some (.int k (r.toNat : Int))) ∧ l.toNat ≤ r.toNat ∧ r.toNat ≤ len := by
    intro l r len hl hr hb
    refine ⟨?_, ?_, by omega, by omega⟩
    · rcases optInt_rel h hl hb.1 with ⟨q1, q2⟩ | q
      · exact .inl ⟨q1, by omega⟩
      · exact .inr q
    · rcases optInt_rel h hr (by omega) with ⟨q1, q2⟩ | q
      · exact .inl ⟨q1, by omega⟩
      · exact .inr q
  generalize evalT tm x = vx at hs hx hv
  unfold stepSlice at hs
  split at hs
  · rename_i ks xs
    split at hs
    · rename_i l r hl hr
      split at hs
      · rename_i hk
        obtain ⟨hb, hs⟩ := hs
        rw [putC_eq] at hs
        simp only [AVR] at hx
        obtain ⟨b1, b2, b3, b4⟩ := bounds l r xs.length hl hr hb
        obtain ⟨ad, cap, he, hc, _⟩ := id hx
        refine ⟨_, _, hrun ad xs.length cap l.toNat r.toNat he hc b1 b2 b3 b4, ?_, hs⟩
        simp only [AVR]
        rw [he] at hx
        have := hx.cut l.toNat r.toNat b3 b4
        rwa [hk] at this
      · exact hs.elim
    · exact hs.elim
  · rename_i ks
    split at hs
    · rename_i l r hl hr
      obtain ⟨hb, hs⟩ := hs
      rw [putC_eq] at hs
      simp only [AVR] at hx
      obtain ⟨b1, b2, b3, b4⟩ := bounds l r 0 hl hr (by simpa using hb)
      refine ⟨_, _, hrun none 0 0 l.toNat r.toNat hx (Nat.le_refl _) b1 b2 b3 b4, ?_, hs⟩
      simp only [AVR]
      have q1 : l.toNat = 0 := by omega
      have q2 : r.toNat = 0 := by omega
      simp [q1, q2]
    · exact hs.elim
  · rename_i k; exact absurd rfl (hv k)
  · exact hs.elim

theorem s_slice (hΓ : CxOk P Γ) (h : Rel X tm hp z a w) (hm : X.m = Γ.m) (t e esz eb : Nat) (ks' : List Kd) (x : Operand) (lo hi : Option Operand) (hT : Γ.τ t = .slice e esz eb ks')
    (hs : stepSlice Γ.m esz tm hp (evalT tm x) (lo.map (evalT tm)) (hi.map (evalT tm)) o.dst K)
    (ho : o.op = .slice t x lo hi none) (hd : ∀ d, o.dst = some d → d < n) (hn : a.tmps.size = n) (hN : NxtS X n w K next) : o.wp P a w next Q := by
  have hx := h.eval x
  have ht := hΓ.tab t
  rw [hT] at ht
  obtain ⟨i, hu, hie, hsz, _⟩ := ti_slice ht
  have hrun : ∀ (ad : Option Addr) (len cap l r : Nat), a.eval x = .slice ad len cap → len ≤ cap → (lo.map a.eval = none ∧ l = 0 ∨ ∃ k, lo.map a.eval = some (.int k (l : Int))) →
      (hi.map a.eval = none ∧ r = len ∨ ∃ k, hi.map a.eval = some (.int k (r : Int))) → l ≤ r → r ≤ len →
      (execOp a.eval o).run P w = .ok (.value (.slice (if cap = l then ad else ad.map (·.add (l * esz))) (r - l) (cap - l))) w := by
    intro ad len cap l r he hlc h1 h2 h3 h4
    have := run_cut (P := P) (w := w) hu hie ad len cap hlc (lo.map a.eval) (hi.map a.eval) l r h1 h2 h3 h4
    rw [hsz] at this
    simp [execOp, ho, he, this]
  have bounds : ∀ (l r : Int) (len : Nat), optInt (lo.map (evalT tm)) 0 = some l → optInt (hi.map (evalT tm)) len = some r → (0 ≤ l ∧ l ≤ r ∧ r ≤ len) →
      (lo.map a.eval = none ∧ l.toNat = 0 ∨ ∃ k, lo.map a.eval = some (.int k (l.toNat : Int))) ∧ (hi.map a.eval = none ∧ r.toNat = len ∨ ∃ k, hi.map a.eval = some (.int k (r.toNat : Int))) ∧ l.toNat ≤ r.toNat ∧ r.toNat ≤ len := by
    intro l r len hl hr hb
    refine ⟨?_, ?_, by omega, by omega⟩
    · rcases optInt_rel h hl hb.1 with ⟨q1, q2⟩ | q
      · exact .inl ⟨q1, by omega⟩
      · exact .inr q
    · rcases optInt_rel h hr (by omega) with ⟨q1, q2⟩ | q
      · exact .inl ⟨q1, by omega⟩
      · exact .inr q
  generalize evalT tm x = vx at hs hx
  unfold stepSlice at hs
  split at hs
  · rename_i ks xs
    split at hs
    · rename_i l r hl hr
      split at hs
      · rename_i hk
        obtain ⟨hb, hs⟩ := hs
        rw [putC_eq] at hs
        simp only [AVR] at hx
        obtain ⟨b1, b2, b3, b4⟩ := bounds l r xs.length hl hr hb
        obtain ⟨ad, cap, he, hc, _⟩ := id hx
        refine finS (hrun ad xs.length cap l.toNat r.toNat he hc b1 b2 b3 b4) h ?_ hd hn hN hs
        simp only [AVR]
        rw [he] at hx
        have := hx.cut l.toNat r.toNat b3 b4
        rwa [hk] at this
      · exact hs.elim
    · exact hs.elim
  · rename_i ks
    split at hs
    · rename_i l r hl hr
      obtain ⟨hb, hs⟩ := hs
      rw [putC_eq] at hs
      simp only [AVR] at hx
      obtain ⟨b1, b2, b3, b4⟩ := bounds l r 0 hl hr (by simpa using hb)
      refine finS (hrun none 0 0 l.toNat r.toNat hx (Nat.le_refl _) b1 b2 b3 b4) h ?_ hd hn hN hs
      simp only [AVR]
      have q1 : l.toNat = 0 := by omega
      have q2 : r.toNat = 0 := by omega
      simp [q1, q2]
    · exact hs.elim
  · rename_i k
    split at hs
    · rename_i e' ks xs hlk
      split at hs
      · rename_i l r hl hr
        split at hs
        · rename_i hk
          obtain ⟨hmk, hb, hs⟩ := hs
          rw [putTH_eq] at hs
          obtain ⟨b1, b2, b3, b4⟩ := bounds l r xs.length hl hr hb
          have hR := h.thaw k e' ks xs hlk (by rw [hm]; exact hmk)
          simp only [AVR] at hx
          have hown := (h.ens k _ hlk).1
          have hlv0 := live_of hlk
          have hview : ViewR (okB X (setH (thawH k (.view ks xs) hp) k none) z w) w ks xs (a.eval x) := by
            rw [hx.2]
            refine own_view (m := 0) hown (fun b hb => ⟨.inr ((h.own k b hlv0 (.inl hb)).2.2 (by rw [hm]; exact hmk)), (h.own k b hlv0 (.inl hb)).1, fun j hj e => ?_⟩) rfl
            have hj' : live hp j ∧ j ≠ k := by
              unfold live at hj ⊢; rw [lookH_set, length_thaw, lookH_thaw] at hj
              by_cases x : j = k
              · subst x; simp [lookH_lt hlk] at hj
              · simp only [x, false_and, if_false] at hj
                exact ⟨by cases q : lookH hp j <;> simp [q] at hj ⊢, x⟩
            exact hj'.2 (h.dj j k b hj'.1 hlv0 e (.inl hb))
          obtain ⟨ad, cap, he, hc, _⟩ := id hview
          refine finS (hrun ad xs.length cap l.toNat r.toNat he hc b1 b2 b3 b4) hR ?_ hd hn hN hs
          simp only [AVR]
          rw [he] at hview
          have := hview.cut l.toNat r.toNat b3 b4
          rwa [hk] at this
        · exact hs.elim
      · exact hs.elim
    · exact hs.elim
  · exact hs.elim
end

end Go.Proofs.Ytkjbgdhpeidocaa.V
