/-
  A leaf of a tree is replaced by others, which are given.
-/
import Derived.Test.YtkjbgdhpeidocaaTp
set_option linter.unusedSimpArgs false
set_option linter.unusedVariables false
namespace Go.Proofs.Ytkjbgdhpeidocaa.V
open Go Go.RowKit
open Classical

theorem ex_b {β : Type} {R : Lv 3 (Bool × β) → Prop} {μ : Lv 3 (Bool × β) → Nat} {n : Nat} {st : Lv 3 (Bool × β) → St} {m : Nat} {tm : List (Nat × AV)} {hp : List (Option Entry)} (y : β)
    (h : R ⟨((lookH hp 0).isSome, y)⟩ ∧ μ ⟨((lookH hp 0).isSome, y)⟩ < n ∧ stLe m ⟨tm, hp⟩ (st ⟨((lookH hp 0).isSome, y)⟩)) :
    ∃ x, R x ∧ μ x < n ∧ lined false m (st x) ⟨tm, hp⟩ (fun σ => stLe m σ (st x)) := ⟨_, h⟩
theorem ex_b0 {β : Type} {R : Lv 3 (Bool × β) → Prop} {st : Lv 3 (Bool × β) → St} {m : Nat} {tm : List (Nat × AV)} {hp : List (Option Entry)} (y : β)
    (h : R ⟨((lookH hp 0).isSome, y)⟩ ∧ stLe m ⟨tm, hp⟩ (st ⟨((lookH hp 0).isSome, y)⟩)) :
    ∃ x, R x ∧ lined false m (st x) ⟨tm, hp⟩ (fun σ => stLe m σ (st x)) := ⟨_, h⟩
/-- What withLeaves is asked and answers. -/
def wRel (ds : List AV) (K : AV → Prop) : Prop := match ds with
  | [.agg [.vv js xss], .int .i64 pos, .int .i64 sk, .frn e f ks yss] => js = KItem ∧ e = 29 ∧ f = 49 ∧ ks = KItem ∧ (xss.length ≤ 1000 ∧ tot xss ≤ 10000 ∧ yss.length ≤ 10 ∧ tot yss ≤ 1000) ∧ (0 ≤ pos ∧ pos ≤ 10000 ∧ 1 ≤ sk ∧ sk ≤ 10) ∧
      ∀ zss : List (List Row), (zss.length ≤ xss.length + yss.length ∧ tot zss ≤ tot xss + tot yss) → K (.agg [.frn 29 49 KItem zss])
  | _ => False
theorem tot_one (xs : List Row) : tot [xs] = xs.length := by simp [tot]
theorem tot_two (xs ys : List Row) : tot [xs, ys] = xs.length + ys.length := by simp [tot]
theorem tot_nil : tot [] = 0 := rfl
set_option maxRecDepth 100000 in
set_option maxHeartbeats 16000000 in
theorem with_ok : SpcOk Try.prog 61 (.give 29 49 KItem wRel) := by
  refine gives_spc noTr [] trivial [.cell 8 26] Try.func61 rfl rfl rfl rfl (by kernel_rfl) ?_
  intro ds K hrel
  simp only [wRel] at hrel
  split at hrel
  case h_2 => exact hrel.elim
  rename_i js xss pos sk e f ks yss
  obtain ⟨rfl, rfl, rfl, rfl, ⟨h1, h2, h3, h4⟩, ⟨h5, h6, h7, h8⟩, hrel⟩ := hrel
  have hmono : ∀ i : Nat, tot (xss.take i) ≤ tot xss := fun i => tot_le xss i
  refine ⟨Nat.le_of_ble_eq_true rfl, fun k σ => match k with
    | 3 => some { α := Lv 3 (Bool × Nat × List (List Row)), R := fun ⟨(b, i, zss)⟩ => (match b with
                    | true => (i ≤ xss.length ∧ (i : Int) ≤ pos ∧ zss.length ≤ i ∧ tot zss ≤ tot (xss.take i))
                    | false => (i ≤ xss.length ∧ pos < i ∧ zss.length ≤ i + yss.length ∧ tot zss ≤ tot (xss.take i) + tot yss)),
                  μ := fun ⟨(_, i, _)⟩ => xss.length - i,
                  st := fun ⟨(b, i, zss)⟩ => (match b with
                    | true => upW σ [(10, .int .i64 i), (9, .own 3)] (setH σ.hp 3 (some (.nest 29 49 KItem zss)))
                    | false => ⟨[(10, .int .i64 i), (9, .own 3)] ++ ddT [3] σ.tm, setH (setH σ.hp 0 none) 3 (some (.nest 29 49 KItem zss))⟩) }
    | _ => none, ?_⟩
  repeat' (first | with_reducible refine And.intro ?_ ?_ | (with_reducible intro h; first | (exact absurd h (by decide)) | (guard_hyp h : true = true; clear h) | (guard_hyp h : false = false; clear h) | (have hq := (h : Lv 3 _); clear hq; obtain ⟨(_ | _), _, _⟩ := h) | skip) | with_reducible exact True.intro | ((with_reducible refine (id ?_ : @Eq Bool (nodupN _) true)); kernel_rfl) | ((with_reducible refine (id ?_ : @Eq Bool (apartN _ _) true)); kernel_rfl) | ((with_reducible refine (id ?_ : @Eq Bool (formL _ _) true)); kernel_rfl) | ((with_reducible refine (id ?_ : @Eq _ _ _)); exact rfl) | ((conv => whnf); first | done | with_reducible refine And.intro ?_ ?_ | (with_reducible intro h; first | (exact absurd h (by decide)) | (guard_hyp h : true = true; clear h) | (guard_hyp h : false = false; clear h) | (have hq := (h : Lv 3 _); clear hq; obtain ⟨(_ | _), _, _⟩ := h) | skip) | with_reducible exact True.intro | ((with_reducible refine (id ?_ : @Eq _ _ _)); exact rfl) | (refine ex_b (β := Nat × List (List Row)) ((by with_reducible assumption : Nat) + 1, ?_) ?_) | (refine ex_b0 (β := Nat × List (List Row)) (0, ?_) ?_) | (refine Exists.intro _ (Exists.intro [] (And.intro (hrel ?_ ?_) ?_))) | refine Exists.intro (⟨(false, ?_, ?_)⟩ : Lv 3 _) (And.intro ?_ (And.intro (?_ : (_ : Nat) < _) ?_)) | refine Exists.intro (⟨(true, ?_, ?_)⟩ : Lv 3 _) ?_ | refine Exists.intro _ (Exists.intro _ (And.intro hrel ?_)) | exact Or.inl rfl | exact Or.inr (And.intro rfl rfl) | (apply Exists.intro; refine And.intro ?_ ?_)) | exact Nat.le_of_ble_eq_true rfl)
  all_goals (try ((try (change _ = _)) <;> (try dsimp only at *) <;> (try simp only [decide_eq_true_eq, decide_eq_false_iff_not, Bool.not_eq_true', Bool.not_eq_false', Bool.and_eq_true, Bool.and_eq_false_iff, beq_iff_eq, bne_iff_ne, beq_eq_false_iff_ne, bne_eq_false_iff_eq, ne_eq, Decidable.not_not, bne_self_eq_false, Bool.false_eq_true, Bool.true_eq_false, Bool.not_true, Bool.not_false, not_true_eq_false, not_false_eq_true, Int.toNat_natCast, Nat.zero_add, Nat.reduceAdd, Nat.reduceMul, Nat.reduceDiv, Nat.mul_one, lenK_one, big, fill_len, marking_len, marks_len, nrms_len, List.length_set, List.length_append, List.length_map, List.length_replicate, List.length_cons, List.length_nil, Int.natCast_add, Int.natCast_one, Int.natCast_zero, tot_append, tot_one, List.nil_append] at *) <;> (repeat (with_reducible rename _ ∧ _ => hh; obtain ⟨_, _⟩ := hh)) <;> (first | omega | (refine fits_i64 ?_; omega) | (split <;> omega) | (have ht := tot_succ xss (by with_reducible assumption : Nat) (by omega); have hm := tot_le xss ((by with_reducible assumption : Nat) + 1); have hl := len_tot xss (by with_reducible assumption : Nat); omega) | (have ht := tot_end (xss := xss) (i := (by with_reducible assumption : Nat)) (by omega); omega) | (simp only [tot, List.length_nil, List.take_zero]; omega))))
end Go.Proofs.Ytkjbgdhpeidocaa.V
