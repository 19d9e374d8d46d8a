/-
  A verified generator of verification conditions over the model's Code, part G: comparisons, addresses, loads.
-/
import Derived.Test.YtkjbgdhpeidocaaVcF
set_option linter.unusedSimpArgs false
set_option linter.unusedVariables false
namespace Go.Proofs.Ytkjbgdhpeidocaa.V
open Go Go.RowKit

/-- Equality of two structs of a type: what it comes to. -/
def EqOk (P : Program) (T : Nat) (ks : List Kd) : Prop := ∀ (r s : Row) (x y : Operand) (w : World),
  (eqGuard .eql T x y (.agg (rowVals ks r 0).toArray) (.agg (rowVals ks s 0).toArray)).run P w = .ok () w ∧ (eqGuard .neq T x y (.agg (rowVals ks r 0).toArray) (.agg (rowVals ks s 0).toArray)).run P w = .ok () w ∧
  (binOp .eql T (.agg (rowVals ks r 0).toArray) (.agg (rowVals ks s 0).toArray)).run P w = .ok (.bool (eqRow ks r s 0)) w ∧ (binOp .neq T (.agg (rowVals ks r 0).toArray) (.agg (rowVals ks s 0).toArray)).run P w = .ok (.bool (!eqRow ks r s 0)) w

def valsK : List Kd → Row → List Value
  | k :: ks, s :: r => k.val s :: valsK ks r
  | _, _ => []

section
variable {P : Program} {Γ : Cx} {X : Fx} {tm : List (Nat × AV)} {hp : List (Option Entry)} {z : Cz} {a : Act} {w w' : World} {n : Nat}
  {K : St → Prop} {next : Act → World → Prop} {Q : Exit → Act → World → Prop} {o : Oper} {ok lv : Nat → Prop}

theorem AV.sc_rel {k : Kd} {v : AV} {s : Sc} {u : Value} (h : v.sc k = some s) (hv : AVR ok lv w z v u) : u = k.val s := by
  cases v <;> cases k <;> simp [AV.sc] at h <;> simp only [AVR] at hv <;> (try subst h) <;> simp_all [Kd.val]
  all_goals (obtain ⟨rfl, rfl⟩ := h; rfl)
theorem scs_rel : ∀ {ks : List Kd} {as : List AV} {r : Row} {us : List Value}, scs ks as = some r → AVRs ok lv w z as us → us = valsK ks r ∧ r.length = lenK ks
  | [], [], r, us, h, hu => by simp only [scs, Option.some.injEq] at h; simp only [AVRs] at hu; subst h; subst hu; simp [valsK, lenK]
  | k :: ks, a :: as, r, us, h, hu => by
    simp only [scs] at h
    split at h
    · rename_i s hs
      split at h
      · rename_i r' hr
        simp only [Option.some.injEq] at h
        subst h
        simp only [AVRs] at hu
        obtain ⟨u, us', rfl, h1, h2⟩ := hu
        obtain ⟨h3, h4⟩ := scs_rel hr h2
        exact ⟨by rw [AV.sc_rel hs h1, h3]; rfl, by simp [lenK, h4]⟩
      · cases h
    · cases h
  | [], _ :: _, _, _, h, _ => by simp [scs] at h
  | _ :: _, [], _, _, h, _ => by simp [scs] at h
theorem valsK_one : ∀ (ks : List Kd) (r : Row), ∀ u ∈ valsK ks r, u.oneCell' = true
  | [], _, u, h => by simp [valsK] at h
  | _ :: _, [], u, h => by simp [valsK] at h
  | k :: ks, s :: r, u, h => by
    simp only [valsK, List.mem_cons] at h
    rcases h with rfl | h
    · exact Kd.val_one _ _
    · exact valsK_one ks r u h
theorem valsK_length : ∀ (ks : List Kd) (r : Row), r.length = lenK ks → (valsK ks r).length = lenK ks
  | [], _, _ => rfl
  | _ :: _, [], h => by simp [lenK] at h
  | k :: ks, s :: r, h => by simp only [valsK, lenK, List.length_cons] at h ⊢; rw [valsK_length ks r (by omega)]
/-- A whole row out of its cells. -/
theorem valsK_row : ∀ (ks : List Kd) (r : Row) (p : Row), r.length = lenK ks → valsK ks r = rowVals ks (p ++ r) p.length
  | [], _, _, _ => rfl
  | _ :: _, [], _, h => by simp [lenK] at h
  | k :: ks, s :: r, p, h => by
    simp only [List.length_cons, lenK] at h
    simp only [valsK, rowVals]
    have := valsK_row ks r (p ++ [s]) (by omega)
    simp only [List.append_assoc, List.singleton_append, List.length_append, List.length_singleton] at this
    rw [this]
    congr 2
    simp [rc]
theorem scs_row {ks : List Kd} {as : List AV} {r : Row} {us : List Value} (h : scs ks as = some r) (hu : AVRs ok lv w z as us) : us = rowVals ks r 0 := by
  obtain ⟨h1, h2⟩ := scs_rel h hu
  rw [h1]
  simpa using valsK_row ks r [] h2
end

theorem memN_mem {t : Nat} : ∀ {l : List Nat}, memN t l = true → t ∈ l
  | [], h => by simp [memN] at h
  | a :: r, h => by
    simp only [memN, Bool.or_eq_true, beq_iff_eq] at h
    rcases h with h | h
    · simp [h]
    · simp [memN_mem h]

structure CxOk (P : Program) (Γ : Cx) : Prop where
  tab : TabOk P Γ.τ
  eqs : ∀ t ks, Γ.eqs t = some ks → EqOk P t ks
  mixed : P.follows .mixedOrders = true

section
variable {P : Program} {Γ : Cx} {X : Fx} {tm : List (Nat × AV)} {hp : List (Option Entry)} {z : Cz} {a : Act} {w w' : World} {n : Nat}
  {K : St → Prop} {next : Act → World → Prop} {Q : Exit → Act → World → Prop} {o : Oper}

theorem toArray_beq (l m : List UInt8) : ((⟨l.toArray⟩ : ByteArray) == ⟨m.toArray⟩) = (l == m) := by
  show ((l.toArray : Array UInt8) == m.toArray) = (l == m)
  simp

/-- The rows that a slice value holds are its length. -/
theorem rowsH_len (h : Rel X tm hp z a w) {v : AV} {u : Value} {ks : List Kd} {xs : List Row} (hv : AVR (okB X hp z w) (live hp) w z v u)
    (hr : rowsH hp v = some (ks, xs)) : ∃ ad cap, u = .slice ad xs.length cap ∧ (ad = none → xs = []) := by
  cases v with
  | view ks' xs' =>
    simp only [rowsH, Option.some.injEq, Prod.mk.injEq] at hr
    obtain ⟨rfl, rfl⟩ := hr
    simp only [AVR] at hv
    obtain ⟨ad, cap, rfl, _, h⟩ := hv
    refine ⟨ad, cap, rfl, fun e => ?_⟩
    rcases h with h | ⟨b, o, h, _⟩
    · exact h
    · rw [e] at h; cases h
  | nil _ =>
    simp only [rowsH, Option.some.injEq, Prod.mk.injEq] at hr
    obtain ⟨rfl, rfl⟩ := hr
    simp only [AVR] at hv
    exact ⟨none, 0, by simp [hv], fun _ => rfl⟩
  | own k =>
    simp only [rowsH] at hr
    cases he : lookH hp k with
    | none => simp [he] at hr
    | some e =>
      cases e with
      | rows e ks' xs' =>
        simp only [he, Option.some.injEq, Prod.mk.injEq] at hr
        obtain ⟨rfl, rfl⟩ := hr
        simp only [AVR] at hv
        have hen := h.ens k _ he
        obtain ⟨ho, _, _⟩ := hen
        rcases ho.2 with ⟨h1, h2⟩ | ⟨g, cap, cur, h1, _⟩
        · refine ⟨none, 0, ?_, fun _ => List.length_eq_zero_iff.1 h2⟩
          rw [hv.2, h1, h2]
        · exact ⟨some ⟨g, 0, none⟩, cap, by rw [hv.2, h1], fun e => by cases e⟩
      | box l => simp [he] at hr
      | arr _ _ => simp [he] at hr
      | vnest _ _ _ => simp [he] at hr
      | nest _ _ _ _ => simp [he] at hr
  | _ => simp [rowsH] at hr

theorem r_bin {C : AV → Prop} (hΓ : CxOk P Γ) (h : Rel X tm hp z a w) (op : BinOp) (T yT : Nat) (x y : Operand) (hs : stepBin Γ op T hp (evalT tm x) (evalT tm y) C)
    (ho : o.op = .binOp op T x y yT) : ResA P X hp z a w o C := by
  have hx := h.eval x
  have hy := h.eval y
  have key : ∀ (v : AV) (u : Value), AVR (okB X hp z w) (live hp) w z v u → C v →
      (∀ w, (eqGuard op T x y (a.eval x) (a.eval y)).run P w = .ok () w) → (∀ w, (binOp op T (a.eval x) (a.eval y)).run P w = .ok u w) → ResA P X hp z a w o C := by
    intro v u hv hk hg hb
    refine ⟨u, v, fun w => ?_, hv, hk⟩
    simp [execOp, ho, hg, hb]
  generalize evalT tm x = vx at hs hx
  generalize evalT tm y = vy at hs hy
  unfold stepBin at hs
  split at hs
  · rename_i k p j q
    have ex := hx.of_int
    have ey := hy.of_int
    split at hs
    · refine key _ (.int k (shlop k p q)) (by simp only [AVR]) hs.2 ?_ ?_
      · intro w; simp [eqGuard]
      · intro w; rw [ex, ey]; simp [binOp, Op.shift, shlop]; omega
    · refine key _ (.int k (shrop k p q)) (by simp only [AVR]) hs.2 ?_ ?_
      · intro w; simp [eqGuard]
      · intro w; rw [ex, ey]; simp [binOp, Op.shift, shrop]; omega
    · split at hs
      · rename_i hk
        subst hk
        obtain ⟨v, u, hc, hv, hr⟩ := s_int (P := P) (w := w) (z := z) op k p q hs
        refine key v u (hv _ _) hc ?_ ?_
        · intro w; rw [ex, ey]; cases op <;> simp [eqGuard]
        · intro w; rw [ex, ey]; exact hr T w
      · exact hs.elim
  · have ex := hx.of_bool
    have ey := hy.of_bool
    split at hs
    · rename_i hT
      have hu : P.underlying T = some .bool := by
        have := hΓ.tab T
        rw [hT] at this
        simp only [checkTI, Bool.and_eq_true] at this
        revert this
        cases P.underlying T with
        | none => simp
        | some d => cases d <;> simp
      split at hs
      · refine key _ (.bool (_ == _)) (by simp only [AVR]; rfl) hs ?_ ?_
        · intro w; rw [ex, ey]; simp [eqGuard]
        · intro w; rw [ex, ey]; simp [binOp, Op.equal, Op.maxDepth, run_equalIn_bool w 9999 T _ _ hu]
      · refine key _ (.bool (_ != _)) (by simp only [AVR]; rfl) hs ?_ ?_
        · intro w; rw [ex, ey]; simp [eqGuard]
        · intro w; rw [ex, ey]; simp [binOp, Op.equal, Op.maxDepth, run_equalIn_bool w 9999 T _ _ hu, bne]
      · exact hs.elim
    · exact hs.elim
  · have ex := hx.of_str
    have ey := hy.of_str
    split at hs
    · refine key _ (.bool (_ == _)) (by simp only [AVR]; rfl) hs ?_ ?_
      · intro w; rw [ex, ey]; simp [eqGuard]
      · intro w; rw [ex, ey]; simp [binOp, Op.stringOp]
    · refine key _ (.bool (_ != _)) (by simp only [AVR]; rfl) hs ?_ ?_
      · intro w; rw [ex, ey]; simp [eqGuard]
      · intro w; rw [ex, ey]; simp [binOp, Op.stringOp, bne]
    · exact hs.elim
  · split at hs
    · rename_i ks hks
      have hq := hΓ.eqs T ks hks
      simp only [AVR] at hx hy
      obtain ⟨vs, ex, _, hvs⟩ := hx
      obtain ⟨us, ey, _, hus⟩ := hy
      split at hs
      · rename_i r hr
        split at hs
        · rename_i s hs'
          have e1 := scs_row hr hvs
          have e2 := scs_row hs' hus
          subst e1; subst e2
          split at hs
          · exact key _ (.bool _) (by simp only [AVR]; rfl) hs (by intro w; rw [ex, ey]; exact (hq r s x y w).1) (by intro w; rw [ex, ey]; exact (hq r s x y w).2.2.1)
          · exact key _ (.bool _) (by simp only [AVR]; rfl) hs (by intro w; rw [ex, ey]; exact (hq r s x y w).2.1) (by intro w; rw [ex, ey]; exact (hq r s x y w).2.2.2)
          · exact hs.elim
        · exact hs.elim
      · exact hs.elim
    · exact hs.elim
  · split at hs
    · rename_i hT
      split at hs
      · rename_i ks xs hr
        obtain ⟨ad, cap, ex, hnone⟩ := rowsH_len h hx hr
        simp only [AVR] at hy
        have hu : ∃ e, P.underlying T = some (.slice e) := by
          have := hΓ.tab T
          rw [hT] at this
          simp only [checkTI, Bool.and_eq_true] at this
          have := this.1.1
          revert this
          cases P.underlying T with
          | none => simp
          | some d => cases d <;> simp
        obtain ⟨e, hu⟩ := hu
        split at hs
        · refine key (.bool ad.isNone) (.bool ad.isNone) (by simp only [AVR]) (hs _ (fun e => hnone (by simpa using e))) ?_ ?_
          · intro w; rw [ex, hy]; simp [eqGuard]
          · intro w; rw [ex, hy]; exact Lib.run_eql_slice_nil w T e ad _ cap 0 0 hu
        · refine key (.bool (!ad.isNone)) (.bool (!ad.isNone)) (by simp only [AVR]) (hs _ (fun e => hnone (by simpa using e))) ?_ ?_
          · intro w; rw [ex, hy]; simp [eqGuard]
          · intro w; rw [ex, hy]; exact run_neq_slice_nil_any w T e ad _ cap 0 0 hu
        · exact hs.elim
      · exact hs.elim
    · exact hs.elim
  · exact hs.elim
theorem s_bin (hΓ : CxOk P Γ) (h : Rel X tm hp z a w) (op : BinOp) (T yT : Nat) (x y : Operand) (hs : stepBin Γ op T hp (evalT tm x) (evalT tm y) fun v => K ⟨putT tm o.dst v, hp⟩)
    (ho : o.op = .binOp op T x y yT) (hd : ∀ d, o.dst = some d → d < n) (hn : a.tmps.size = n) (hN : Nxt X n K next) : o.wp P a w next Q :=
  (r_bin hΓ h op T yT x y hs ho).res.fin h hd hn hN

end

end Go.Proofs.Ytkjbgdhpeidocaa.V
