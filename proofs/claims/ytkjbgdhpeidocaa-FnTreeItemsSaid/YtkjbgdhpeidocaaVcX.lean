/-
  A verified generator of verification conditions over the model's Code, part X: equality of structs of plain cells, out of what a look at the types finds.
-/
import Derived.Test.YtkjbgdhpeidocaaVcQ
set_option linter.unusedSimpArgs false
set_option linter.unusedVariables false
namespace Go.Proofs.Ytkjbgdhpeidocaa.V
open Go Go.RowKit

def eqFs (P : Program) (g : TypeId → Option (List Kd)) : List Field → Nat → Option (List Kd)
  | [], _ => some []
  | f :: r, off => if f.name = "_" then none else if f.offset = off then match g f.type with
    | some ks => match P.info? f.type with
      | some i => if i.size = lenK ks then (match eqFs P g r (off + lenK ks) with
        | some js => some (ks ++ js)
        | none => none) else none
      | none => none
    | none => none else none
def eqChk (P : Program) : Nat → TypeId → Option (List Kd)
  | 0, _ => none
  | d + 1, t => match P.underlying t with
    | some (.int k) => some [.int k]
    | some .bool => some [.bool]
    | some .string => some [.str]
    | some (.struct fs) => if P.stoodInHeld t then none else eqFs P (eqChk P d) fs.toList 0
    | _ => none
/-- Kinds told of a struct type are those found by looking. -/
def sameKds : List Kd → List Kd → Bool
  | [], [] => true
  | .int j :: a, .int k :: b => j == k && sameKds a b
  | .bool :: a, .bool :: b => sameKds a b
  | .str :: a, .str :: b => sameKds a b
  | _, _ => false
theorem sameKds_eq : ∀ {a b : List Kd}, sameKds a b = true → a = b
  | [], [], _ => rfl
  | .int j :: a, .int k :: b, h => by simp only [sameKds, Bool.and_eq_true, beq_iff_eq] at h; rw [h.1, sameKds_eq h.2]
  | .bool :: a, .bool :: b, h => by simp only [sameKds] at h; rw [sameKds_eq h]
  | .str :: a, .str :: b, h => by simp only [sameKds] at h; rw [sameKds_eq h]
  | [], _ :: _, h => by simp [sameKds] at h
  | _ :: _, [], h => by cases ‹Kd› <;> simp [sameKds] at h
  | .int _ :: _, .bool :: _, h => by simp [sameKds] at h
  | .int _ :: _, .str :: _, h => by simp [sameKds] at h
  | .bool :: _, .int _ :: _, h => by simp [sameKds] at h
  | .bool :: _, .str :: _, h => by simp [sameKds] at h
  | .str :: _, .int _ :: _, h => by simp [sameKds] at h
  | .str :: _, .bool :: _, h => by simp [sameKds] at h
def eqTyOk (P : Program) (t : TypeId) (ks : List Kd) : Bool := (match P.underlying t with | some (.struct _) => true | _ => false) && (match eqChk P 100 t with | some js => sameKds js ks | none => false) && !P.eqGuardType P.depth t

theorem lenK_append : ∀ (a b : List Kd), lenK (a ++ b) = lenK a + lenK b
  | [], b => by simp [lenK]
  | _ :: a, b => by simp [lenK, lenK_append a b]; omega
theorem rowVals_append : ∀ (a b : List Kd) (r : Row) (c : Nat), rowVals (a ++ b) r c = rowVals a r c ++ rowVals b r (c + lenK a)
  | [], b, r, c => by simp [rowVals, lenK]
  | k :: a, b, r, c => by
    simp only [List.cons_append, rowVals, lenK]
    rw [rowVals_append a b r (c + 1), show c + 1 + lenK a = c + (lenK a + 1) by omega]
theorem eqRow_cons (k : Kd) (ks : List Kd) (r s : Row) (c : Nat) : eqRow (k :: ks) r s c = (eqRow [k] r s c && eqRow ks r s (c + 1)) := by
  cases ks with
  | nil => cases k <;> simp [eqRow]
  | cons j ks => cases k <;> simp [eqRow]
theorem eqRow_append : ∀ (a b : List Kd) (r s : Row) (c : Nat), eqRow (a ++ b) r s c = (eqRow a r s c && eqRow b r s (c + lenK a))
  | [], b, r, s, c => by simp [eqRow, lenK]
  | k :: a, b, r, s, c => by
    rw [List.cons_append, eqRow_cons, eqRow_append a b r s (c + 1), eqRow_cons k a, Bool.and_assoc]
    simp only [lenK]
    rw [show c + 1 + lenK a = c + (lenK a + 1) by omega]

/-- Cells as a value of a type. -/
def pkV : Bool → List Value → Value
  | true, l => .agg l.toArray
  | false, l => l.headD undef
def aggT (P : Program) (t : TypeId) : Bool := match P.underlying t with | some d => isAggD d | none => false
section
variable {P : Program}
theorem eqChk_head {d : Nat} {t : TypeId} {ks : List Kd} (h : eqChk P d t = some ks) : ∃ D, P.underlying t = some D ∧ (isAggD D = false → lenK ks = 1) := by
  cases d with
  | zero => simp [eqChk] at h
  | succ d =>
    simp only [eqChk] at h
    split at h
    · rename_i k hu; cases h; exact ⟨_, hu, fun _ => rfl⟩
    · rename_i hu; cases h; exact ⟨_, hu, fun _ => rfl⟩
    · rename_i hu; cases h; exact ⟨_, hu, fun _ => rfl⟩
    · rename_i fs hu; exact ⟨_, hu, fun h => by simp [isAggD] at h⟩
    · cases h
theorem run_part_of (w : World) {t : TypeId} {D : TypeDesc} {i : TypeInfo} (hu : P.underlying t = some D) (hi : P.info? t = some i) {ks : List Kd} (hs : i.size = lenK ks) (hk : isAggD D = false → lenK ks = 1)
    (pre : List Value) (r : Row) (c : Nat) (post : List Value) : (part t (pre ++ rowVals ks r c ++ post).toArray pre.length).run P w = .ok (pkV (isAggD D) (rowVals ks r c)) w := by
  cases hD : isAggD D with
  | true =>
    simp only [part, Sem.run_bind, run_isAgg_of hu, hD, Result.andThen_ok, if_true, run_sizeOf_of hi, Sem.run_pure, pkV]
    congr 2
    apply Array.ext'
    have hl : (rowVals ks r c).length = i.size := by rw [rowVals_length, hs]
    simp only [List.extract_toArray, List.extract_eq_take_drop]
    rw [Nat.add_sub_cancel_left, List.append_assoc, List.drop_left, ← hl, List.take_left]
  | false =>
    have h1 := hk hD
    have hl : (rowVals ks r c).length = 1 := by rw [rowVals_length, h1]
    obtain ⟨v, hv⟩ := List.length_eq_one_iff.1 hl
    have e : (pre ++ rowVals ks r c ++ post).toArray[pre.length]? = some v := by
      rw [hv]
      simp
    rw [hv] at e ⊢
    simp only [part, Sem.run_bind, run_isAgg_of hu, hD, Result.andThen_ok, Bool.false_eq_true, if_false, e, Sem.run_pure, pkV, List.headD_cons]

theorem run_eqFs {d : Nat} (w : World) (IH : ∀ (t : TypeId) (ks : List Kd), eqChk P d t = some ks → ∀ (r s : Row) (c : Nat), (Op.equalIn d t (pkV (aggT P t) (rowVals ks r c)) (pkV (aggT P t) (rowVals ks s c))).run P w = .ok (eqRow ks r s c) w) :
    ∀ (fs : List Field) (ks : List Kd) (pre pre' : List Value) (r s : Row) (c : Nat), eqFs P (eqChk P d) fs pre.length = some ks → pre'.length = pre.length →
    (Op.eqFields d (pre ++ rowVals ks r c).toArray (pre' ++ rowVals ks s c).toArray fs).run P w = .ok (eqRow ks r s c) w
  | [], ks, pre, pre', r, s, c, h, _ => by
    simp only [eqFs, Option.some.injEq] at h
    subst h
    simp [Op.eqFields, eqRow]
  | f :: fs, ks, pre, pre', r, s, c, h, hl => by
    simp only [eqFs] at h
    split at h
    case isTrue => cases h
    rename_i hname
    split at h
    case isFalse => cases h
    rename_i hoff
    split at h
    case h_2 => cases h
    rename_i k1 hk1
    split at h
    case h_2 => cases h
    rename_i i hi
    split at h
    case isFalse => cases h
    rename_i hsz
    split at h
    case h_2 => cases h
    rename_i k2 hk2
    simp only [Option.some.injEq] at h
    subst h
    obtain ⟨D, hu, hD⟩ := eqChk_head hk1
    have ha : aggT P f.type = isAggD D := by simp [aggT, hu]
    have p1 := run_part_of w hu hi hsz hD pre r c (rowVals k2 r (c + lenK k1))
    have p2 := run_part_of w hu hi hsz hD pre' s c (rowVals k2 s (c + lenK k1))
    rw [hl] at p2
    have hq := IH f.type k1 hk1 r s c
    rw [ha] at hq
    have hlen : (pre ++ rowVals k1 r c).length = pre.length + lenK k1 := by rw [List.length_append, rowVals_length]
    have ih := run_eqFs w IH fs k2 (pre ++ rowVals k1 r c) (pre' ++ rowVals k1 s c) r s (c + lenK k1) (by rw [hlen]; exact hk2) (by rw [List.length_append, List.length_append, rowVals_length, rowVals_length, hl])
    rw [rowVals_append, rowVals_append, ← List.append_assoc, ← List.append_assoc, eqRow_append]
    simp only [Op.eqFields, ne_eq, hname, not_false_eq_true, if_true, Sem.run_bind, hoff, p1, p2, hq, Result.andThen_ok]
    cases eqRow k1 r s c with
    | true => simpa using ih
    | false => simp

theorem run_eqChk : ∀ (d : Nat) (t : TypeId) (ks : List Kd), eqChk P d t = some ks → ∀ (w : World) (r s : Row) (c : Nat), (Op.equalIn d t (pkV (aggT P t) (rowVals ks r c)) (pkV (aggT P t) (rowVals ks s c))).run P w = .ok (eqRow ks r s c) w
  | 0, _, _, h => by simp [eqChk] at h
  | d + 1, t, ks, h => by
    intro w r s c
    simp only [eqChk] at h
    split at h
    · rename_i k hu
      cases h
      simp only [aggT, hu, isAggD, pkV, rowVals, List.headD_cons, Kd.val, eqRow]
      exact run_equalIn_int w d t k k _ _ hu
    · rename_i hu
      cases h
      simp only [aggT, hu, isAggD, pkV, rowVals, List.headD_cons, Kd.val, eqRow]
      exact run_equalIn_bool' w d t _ _ hu
    · rename_i hu
      cases h
      simp only [aggT, hu, isAggD, pkV, rowVals, List.headD_cons, Kd.val, eqRow]
      rw [← toArray_beq]
      simp [Op.equalIn, run_underlying hu]
    · rename_i fs hu
      split at h
      · cases h
      · rename_i hst
        simp only [aggT, hu, isAggD, pkV]
        have hfo : P.fieldsOf t = fs := by simp [Program.fieldsOf, hu]
        rw [run_equalIn_struct w d t _ _ (by rw [hfo]; exact hu) (by simpa using hst), hfo]
        simpa using run_eqFs w (fun t ks h r s c => run_eqChk d t ks h w r s c) fs.toList ks [] [] r s c h rfl
    · cases h

theorem eqTyOk_ok {t : TypeId} {ks : List Kd} (h : eqTyOk P t ks = true) : EqOk P t ks := by
  simp only [eqTyOk, Bool.and_eq_true, Bool.not_eq_true'] at h
  obtain ⟨⟨h0, h1⟩, h2⟩ := h
  intro r s x y w
  have hag : aggT P t = true := by
    cases hu : P.underlying t with
    | none => rw [hu] at h0; simp at h0
    | some d => rw [hu] at h0; cases d <;> simp at h0; simp [aggT, hu, isAggD]
  cases hc : eqChk P 100 t with
  | none => rw [hc] at h1; simp at h1
  | some js =>
    rw [hc] at h1
    have := sameKds_eq h1
    subst this
    have mono : ∀ (d t ks), eqChk P d t = some ks → ∀ n, eqChk P (d + n) t = some ks := by
      intro d
      induction d with
      | zero => intro t ks h; simp [eqChk] at h
      | succ d ih =>
        intro t ks h n
        rw [show d + 1 + n = (d + n) + 1 by omega]
        simp only [eqChk] at h ⊢
        split at h
        · exact h
        · exact h
        · exact h
        · rename_i fs hu
          split at h
          · cases h
          · rename_i hst
            rw [if_neg hst]
            have gm : ∀ (fs : List Field) (off : Nat) (ks : List Kd), eqFs P (eqChk P d) fs off = some ks → eqFs P (eqChk P (d + n)) fs off = some ks := by
              intro fs
              induction fs with
              | nil => intro off ks h; exact h
              | cons f fs ihf =>
                intro off ks h
                simp only [eqFs] at h ⊢
                split at h
                case isTrue => cases h
                rename_i q1
                rw [if_neg q1]
                split at h
                case isFalse => cases h
                rename_i q2
                rw [if_pos q2]
                split at h
                case h_2 => cases h
                rename_i k1 hk1
                rw [ih _ _ hk1 n]
                simp only
                split at h
                case h_2 => cases h
                rename_i i hi
                split at h
                case isFalse => cases h
                rename_i q3
                rw [if_pos q3]
                split at h
                case h_2 => cases h
                rename_i k2 hk2
                rw [ihf _ _ hk2]
                exact h
            exact gm _ _ _ h
        · cases h
    have hq := run_eqChk 10000 t js (mono 100 t js hc 9900) w r s 0
    rw [hag] at hq
    refine ⟨run_eqGuard_agg w .eql t x y _ _ h2, run_eqGuard_agg w .neq t x y _ _ h2, ?_, ?_⟩
    · rw [run_eql_struct]
      simp only [pkV] at hq
      rw [hq]; rfl
    · rw [run_neq_struct]
      simp only [pkV] at hq
      rw [hq]; rfl
end

end Go.Proofs.Ytkjbgdhpeidocaa.V
