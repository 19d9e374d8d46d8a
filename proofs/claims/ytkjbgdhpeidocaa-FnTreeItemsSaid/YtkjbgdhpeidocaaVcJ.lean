/-
  A verified generator of verification conditions over the model's Code, part J: stores, and slices that the call makes.
-/
import Derived.Test.YtkjbgdhpeidocaaVcI
set_option linter.unusedSimpArgs false
set_option linter.unusedVariables false
namespace Go.Proofs.Ytkjbgdhpeidocaa.V
open Go Go.RowKit

section
variable {P : Program} {Γ : Cx} {X : Fx} {tm : List (Nat × AV)} {hp : List (Option Entry)} {z : Cz} {a : Act} {w w' : World} {n : Nat}
  {K : St → Prop} {next : Act → World → Prop} {Q : Exit → Act → World → Prop} {o : Oper} {ok lv : Nat → Prop}


/-- Cells written into a row: what they come to in memory. -/
theorem flat_paste (ks : List Kd) (i : Nat) : ∀ (r : Row) (ks' : List Kd) (c : Nat) (xs : List Row), r.length = lenK ks' → (∀ j kd, getK ks' j = some kd → getK ks (c + j) = some kd) → i < xs.length →
    flat ks (xs.set i (pasteR (row xs i) c r)) = storeL (flat ks xs) (i * lenK ks + c) (valsK ks' r)
  | [], ks', c, xs, hr, _, hi => by
    cases ks' with
    | nil =>
      simp only [pasteR, valsK, storeL, row]
      congr 1
      rw [List.getD_eq_getElem?_getD, List.getElem?_eq_getElem hi]
      simp
    | cons _ _ => simp [lenK] at hr
  | s :: r, [], c, xs, hr, _, _ => by simp [lenK] at hr
  | s :: r, k :: ks', c, xs, hr, hk, hi => by
    have h0 := hk 0 k rfl
    simp only [Nat.add_zero] at h0
    have h1 := flat_set ks xs i c s k h0 hi
    have ih := flat_paste ks i r ks' (c + 1) (xs.set i (setR (row xs i) c s)) (by simpa [lenK] using hr)
      (fun j kd hj => by have := hk (j + 1) kd (by simpa [getK] using hj); rw [← this]; congr 1; omega) (by simpa using hi)
    have hrow : row (xs.set i (setR (row xs i) c s)) i = setR (row xs i) c s := by
      simp [row, hi]
    rw [hrow, List.set_set] at ih
    simp only [pasteR, valsK, storeL]
    rw [ih, h1]
    rfl

theorem getA_setA : ∀ (l : List AV) (c : Nat) (v : AV) (j : Nat), getA (setA l c v) j = if j = c ∧ c < l.length then v else getA l j
  | [], c, v, j => by simp [setA]
  | a :: l, 0, v, 0 => by simp [setA, getA]
  | a :: l, 0, v, j + 1 => by simp [setA, getA]
  | a :: l, c + 1, v, 0 => by simp [setA, getA]
  | a :: l, c + 1, v, j + 1 => by simp [setA, getA, getA_setA l c v j]
theorem AVRs.set : ∀ {l : List AV} {vs : List Value} (c : Nat) {v : AV} {u : Value}, AVRs ok lv w z l vs → AVR ok lv w z v u → AVRs ok lv w z (setA l c v) (vs.set c u)
  | [], vs, c, v, u, h, _ => by simp only [AVRs] at h; simp [h, setA, AVRs]
  | a :: l, vs, 0, v, u, h, hv => by
    simp only [AVRs] at h
    obtain ⟨x, xs, rfl, h1, h2⟩ := h
    simp only [setA, List.set_cons_zero, AVRs]
    exact ⟨_, _, rfl, hv, h2⟩
  | a :: l, vs, c + 1, v, u, h, hv => by
    simp only [AVRs] at h
    obtain ⟨x, xs, rfl, h1, h2⟩ := h
    simp only [setA, List.set_cons_succ, AVRs]
    exact ⟨_, _, rfl, h1, h2.set c hv⟩
theorem AVRs.putAt : ∀ {as : List AV} {us : List Value} {l : List AV} {vs : List Value} (c : Nat), AVRs ok lv w z l vs → AVRs ok lv w z as us → AVRs ok lv w z (putAt l c as) (storeL vs c us)
  | [], us, l, vs, c, h, hu => by simp only [AVRs] at hu; subst hu; simpa [V.putAt, storeL] using h
  | v :: as, us, l, vs, c, h, hu => by
    simp only [AVRs] at hu
    obtain ⟨u, us', rfl, h1, h2⟩ := hu
    simp only [V.putAt, storeL]
    exact AVRs.putAt (c + 1) (h.set c h1) h2

theorem getK_sub (ks : List Kd) : ∀ (c m j : Nat) (kd : Kd), getK (takeK m (dropK c ks)) j = some kd → getK ks (c + j) = some kd := by
  have h1 : ∀ (c : Nat) (ks : List Kd), dropK c ks = ks.drop c := by
    intro c
    induction c with
    | zero => intro ks; cases ks <;> rfl
    | succ c ih => intro ks; cases ks with
      | nil => rfl
      | cons k ks => simp [dropK, ih]
  have h2 : ∀ (c : Nat) (ks : List Kd), takeK c ks = ks.take c := by
    intro c
    induction c with
    | zero => intro ks; cases ks <;> rfl
    | succ c ih => intro ks; cases ks with
      | nil => rfl
      | cons k ks => simp [takeK, ih]
  intro c m j kd h
  rw [h1, h2, getK_eq, List.getElem?_take] at h
  rw [getK_eq]
  split at h
  · rwa [List.getElem?_drop] at h
  · cases h

theorem run_storeVar {t : Nat} {i : TypeInfo} {ad : Addr} {v : Value} (hi : P.info? t = some i) (hs : v.cells.size = i.size) (hr : (storeCells ad v.cells.toList).run P w = .ok () w') :
    (storeVar t ad v).run P w = .ok () w' := by
  simp [storeVar, run_sizeOf_of hi, hs, hr]

theorem ti_size {t : Nat} {ti : TI} (h : checkTI P t ti = true) (h3 : ti.known = true) : ∃ i, P.info? t = some i ∧ i.size = ti.size := by
  cases ti with
  | int k => simp only [checkTI, Bool.and_eq_true] at h; obtain ⟨i, a, b, _⟩ := zeroAt_plain h.2; exact ⟨i, a, b⟩
  | bool => simp only [checkTI, Bool.and_eq_true] at h; obtain ⟨i, a, b, _⟩ := zeroAt_plain h.2; exact ⟨i, a, b⟩
  | str => simp only [checkTI, Bool.and_eq_true] at h; obtain ⟨i, a, b, _⟩ := zeroAt_plain h.2; exact ⟨i, a, b⟩
  | slice e s b k => simp only [checkTI, Bool.and_eq_true] at h; obtain ⟨i, a, b, _⟩ := zeroAt_plain h.1.2; exact ⟨i, a, b⟩
  | struct o z => obtain ⟨_, i, _, _, a, b, _⟩ := ti_struct h; exact ⟨i, a, b⟩
  | array n e k => obtain ⟨_, _, i, _, _, _, _, _, _, a, b, _⟩ := ti_array h; exact ⟨i, a, b⟩
  | ptr =>
    simp only [checkTI, Bool.and_eq_true] at h
    have h2 := h.2
    cases hi : P.info? t with
    | none => rw [hi] at h2; simp at h2
    | some i => rw [hi] at h2; exact ⟨i, rfl, by simpa [TI.size] using h2⟩
  | other => simp [TI.known] at h3

theorem cells_one {v : Value} (h : v.oneCell' = true) : v.cells = #[v] := by cases v <;> first | rfl | simp [Value.oneCell'] at h
theorem Rel.rho_one (h : Rel X tm hp z a w) (k : Nat) (hk : live hp k) : (z.ρ k).oneCell' = true := by
  obtain ⟨e, he⟩ := live_get hk
  have := h.ens k e he
  cases e with
  | box l => obtain ⟨b, _, _, hr, _⟩ := this; rw [hr]; rfl
  | arr _ _ => obtain ⟨b, _, _, hr, _⟩ := this; rw [hr]; rfl
  | nest e f ks xss =>
    obtain ⟨vs, ho, _⟩ := this
    rcases ho.2 with ⟨h1, _⟩ | ⟨g, cap, cur, h1, _⟩
    · rw [h1]; rfl
    · rw [h1]; rfl
  | vnest e ks xss =>
    obtain ⟨vs, ho, _⟩ := this
    rcases ho.2 with ⟨h1, _⟩ | ⟨g, cap, cur, h1, _⟩
    · rw [h1]; rfl
    · rw [h1]; rfl
  | rows e ks xs =>
    obtain ⟨ho, _⟩ := this
    rcases ho.2 with ⟨q, _⟩ | ⟨g, cap, cur, q, _⟩ <;> rw [q] <;> rfl

theorem AV.cells_rel (hrho : ∀ k, lv k → (z.ρ k).oneCell' = true) {v : AV} {u : Value} (h : AVR ok lv w z v u) (ht : ∀ l, v ≠ .tup l) (htop : v ≠ .top) (harr : ∀ ks xs, v ≠ .arr ks xs) :
    AVRs ok lv w z v.cells u.cells.toList ∧ ∀ x ∈ u.cells.toList, x.oneCell' = true := by
  cases v <;> simp only [AVR] at h
  case top => exact absurd rfl htop
  case int => subst h; exact ⟨by simp [AV.cells, Value.cells, AVRs, AVR], by simp [Value.cells]; rfl⟩
  case bool => subst h; exact ⟨by simp [AV.cells, Value.cells, AVRs, AVR], by simp [Value.cells]; rfl⟩
  case str => subst h; exact ⟨by simp [AV.cells, Value.cells, AVRs, AVR], by simp [Value.cells]; rfl⟩
  case nil => subst h; exact ⟨by simp [AV.cells, Value.cells, AVRs, AVR], by simp [Value.cells]; rfl⟩
  case view ks xs =>
    have h' := h
    obtain ⟨ad, cap, rfl, _⟩ := h'
    exact ⟨by simp only [AV.cells, Value.cells, AVRs, AVR]; exact ⟨_, _, rfl, h, rfl⟩, by simp [Value.cells]; rfl⟩
  case own k =>
    have h1 := hrho k h.1
    rw [← h.2] at h1
    rw [cells_one h1]
    exact ⟨by simp only [AV.cells, AVRs, AVR]; exact ⟨_, _, rfl, h, rfl⟩, by simpa using h1⟩
  case box k c =>
    have h' := h
    obtain ⟨_, b, _, rfl⟩ := h'
    exact ⟨by simp only [AV.cells, Value.cells, AVRs, AVR]; exact ⟨_, _, rfl, h, rfl⟩, by simp [Value.cells]; rfl⟩
  case cel k i c =>
    have h' := h
    obtain ⟨_, _, b, _, rfl⟩ := h'
    exact ⟨by simp only [AV.cells, Value.cells, AVRs, AVR]; exact ⟨_, _, rfl, h, rfl⟩, by simp [Value.cells]; rfl⟩
  case vcel ks xs i c =>
    have h' := h
    obtain ⟨_, b, o, _, rfl, _⟩ := h'
    exact ⟨by simp only [AV.cells, Value.cells, AVRs, AVR]; exact ⟨_, _, rfl, h, rfl⟩, by simp [Value.cells]; rfl⟩
  case vv ks xss =>
    have h' := h
    obtain ⟨ad, cap, rfl, _⟩ := h'
    exact ⟨by simp only [AV.cells, Value.cells, AVRs, AVR]; exact ⟨_, _, rfl, h, rfl⟩, by simp [Value.cells]; rfl⟩
  case vvc ks xss i =>
    have h' := h
    obtain ⟨_, b, o, u, _, rfl, _⟩ := h'
    exact ⟨by simp only [AV.cells, Value.cells, AVRs, AVR]; exact ⟨_, _, rfl, h, rfl⟩, by simp [Value.cells]; rfl⟩
  case agg l =>
    obtain ⟨vs, rfl, h1, h2⟩ := h
    exact ⟨by simpa [AV.cells, Value.cells] using h2, by simpa [Value.cells] using h1⟩
  case arr ks xs => exact absurd rfl (harr ks xs)
  case tup l => exact absurd rfl (ht l)
  case fn f l =>
    have h' := h
    obtain ⟨vs, rfl, _⟩ := h'
    exact ⟨by simp only [AV.cells, Value.cells, AVRs, AVR]; exact ⟨_, _, rfl, h, rfl⟩, by simp [Value.cells]; rfl⟩

theorem s_store (hΓ : CxOk P Γ) (h : Rel X tm hp z a w) (t : Nat) (x y : Operand) {vx vy : AV} (hx : AVR (okB X hp z w) (live hp) w z vx (a.eval x)) (hy : AVR (okB X hp z w) (live hp) w z vy (a.eval y)) (hs : stepStore Γ t hp vx vy fun hp' => K ⟨putT tm o.dst .top, hp'⟩)
    (ho : o.op = .store t x y) (hd : ∀ d, o.dst = some d → d < n) (hn : a.tmps.size = n) (hN : Nxt X n K next) : o.wp P a w next Q := by
  have key : ∀ (ad : Addr) (w' : World) (hp' : List (Option Entry)) (i : TypeInfo), a.eval x = .pointer (some ad) → P.info? t = some i → (a.eval y).cells.size = i.size →
      (storeCells ad (a.eval y).cells.toList).run P w = .ok () w' → Rel X tm hp' z a w' → K ⟨putT tm o.dst .top, hp'⟩ → o.wp P a w next Q := by
    intro ad w' hp' i he hi hsz hr hR hk
    refine fin_skip (w' := w') ?_ hR hd hn hN hk
    simp [execOp, ho, Instr.storeAt, he, Instr.sureAddr, run_storeVar hi hsz hr]
  have hrho := h.rho_one
  unfold stepStore at hs
  split at hs
  case isFalse => exact hs.elim
  case isTrue hknown =>
  obtain ⟨i, hi, hisz⟩ := ti_size (hΓ.tab t) hknown
  have hcells : vy.stored = true → AVRs (okB X hp z w) (live hp) w z vy.cells (a.eval y).cells.toList ∧ ∀ u ∈ (a.eval y).cells.toList, u.oneCell' = true := by
    intro hst
    exact AV.cells_rel hrho hy (fun l e => by subst e; simp [AV.stored] at hst) (fun e => by subst e; simp [AV.stored] at hst) (fun ks xs e => by subst e; simp [AV.stored] at hst)
  split at hs
  · rename_i k c
    simp only [AVR] at hx
    obtain ⟨hlv, b, hb, hx⟩ := hx
    split at hs
    · rename_i l hl
      obtain ⟨b', cur, T, hb', hh, hone, ha, hz0⟩ := h.ens k _ hl
      rw [hb] at hb'
      simp only [Value.pointer.injEq, Option.some.injEq, Addr.mk.injEq, and_true] at hb'
      subst hb'
      have hlen := ha.length
      split at hs
      · rename_i hst
        obtain ⟨has, h1⟩ := hcells hst
        split at hs
        · rename_i hsz
          split at hs
          · rename_i hfit
            have hl2 := has.length
            rw [lenA_eq] at hsz hfit
            rw [lenA_eq] at hfit
            obtain ⟨w', cur', hr, hh', hc', hst⟩ := run_storeCells (P := P) b T (a.eval y).cells.toList c 0 cur w hh (by rw [hl2, ← Array.length_toList, hlen]; omega) h1
            refine key ⟨b, c, none⟩ w' _ i hx hi (by rw [← Array.length_toList, hl2, hisz, hsz]) hr (h.over k _ _ hl (hst.mono (fun b' e => .inl (by rw [hb]; simpa [blk] using e))) (fun ok lv h3 h4 => ?_)) hs
            rw [Nat.add_zero] at hc'
            have hblk : ∀ b', okB X hp z w b' → w'.heap[b']? = w.heap[b']? := fun b' hb' => hst.block b' hb'.2.1 (fun e => hb'.2.2 k hlv (.inl (by rw [hb]; simpa [blk] using e)))
            refine ⟨b, cur', T, hb, hh', ?_, ?_⟩
            · intro u hu
              rw [hc'] at hu
              rcases storeL_mem _ _ _ _ hu with hu | hu
              · exact hone u hu
              · exact h1 u hu
            · rw [hc']
              exact ⟨AVRs.mono h3 hblk (fun j hj => ⟨h4 j hj, rfl, rfl, rfl⟩) _ _ (AVRs.putAt c ha has), hz0⟩
          · exact hs.elim
        · exact hs.elim
      · exact hs.elim
    · exact hs.elim
  · rename_i k j c
    simp only [AVR] at hx
    obtain ⟨hlv, hj, b, hb, hx⟩ := hx
    have fit : ∀ (ks : List Kd) (xs : List Row) (m : Nat), j < xs.length → c + m ≤ lenK ks → j * lenK ks + c + m ≤ xs.length * lenK ks := by
      intro ks xs m h1 h2
      have h3 : (j + 1) * lenK ks ≤ xs.length * lenK ks := Nat.mul_le_mul_right _ h1
      rw [Nat.add_mul, Nat.one_mul] at h3
      omega
    split at hs
    · rename_i e ks xs hl
      obtain ⟨hown, hln, hwd⟩ := h.ens k _ hl
      rw [hln] at hj
      rw [hwd] at hx
      split at hs
      · rename_i hst
        obtain ⟨has, h1⟩ := hcells hst
        split at hs
        · rename_i r hr
          split at hs
          · rename_i hsz
            split at hs
            · rename_i hck
              rw [lenA_eq] at hsz hck
              obtain ⟨h2, h3⟩ := scs_rel hr has
              have hl2 := has.length
              have hfp := flat_paste ks j r _ c xs h3 (fun j' kd hj' => getK_sub ks c _ j' kd hj') hj
              rw [← h2] at hfp
              rcases hown.2 with ⟨q, h0⟩ | ⟨g, cap, cur, q, hb0, hg, hnc, hcm, hcs, htake⟩
              · omega
              · rw [q] at hb
                simp only [blk, Option.some.injEq] at hb
                subst hb
                have hf := fit ks xs _ hj hck
                have hcap : xs.length * lenK ks ≤ cap * lenK ks := Nat.mul_le_mul_right _ hnc
                obtain ⟨w', cur', hrun, hh', hc', hstp⟩ := run_storeCells (P := P) g e (a.eval y).cells.toList (j * lenK ks + c) 0 cur w hg (by rw [hl2, hcs]; omega) h1
                refine key _ w' _ i hx hi (by rw [← Array.length_toList, hl2, hisz, hsz]) hrun (h.over k _ _ hl (hstp.mono (fun b' e => .inl (by rw [q]; simpa [blk] using e))) (fun ok lv h4 h5 => ?_)) hs
                rw [Nat.add_zero] at hc'
                refine ⟨⟨by rw [flat_length], .inr ⟨g, cap, cur', by rw [q, List.length_set], hb0, hh', by rw [List.length_set]; exact hnc, hcm, ?_, ?_⟩⟩, by rw [hln, List.length_set], hwd⟩
                · rw [← Array.length_toList, hc', storeL_length, Array.length_toList, hcs]
                · rw [hc', storeL_take, List.length_set, htake, hfp]
            · exact hs.elim
          · exact hs.elim
        · exact hs.elim
      · exact hs.elim
    · rename_i ks xs hl
      obtain ⟨b', cur, T, hb', hh, hcur, hln, hwd⟩ := h.ens k _ hl
      rw [hb'] at hb
      simp only [blk, Option.some.injEq] at hb
      subst hb
      rw [hln] at hj
      rw [hwd] at hx
      have hcs : cur.size = xs.length * lenK ks := by rw [← Array.length_toList, hcur, flat_length]
      split at hs
      · rename_i hst
        obtain ⟨has, h1⟩ := hcells hst
        split at hs
        · rename_i r hr
          split at hs
          · rename_i hsz
            split at hs
            · rename_i hck
              rw [lenA_eq] at hsz hck
              obtain ⟨h2, h3⟩ := scs_rel hr has
              have hl2 := has.length
              have hfp := flat_paste ks j r _ c xs h3 (fun j' kd hj' => getK_sub ks c _ j' kd hj') hj
              rw [← h2] at hfp
              have hf := fit ks xs _ hj hck
              obtain ⟨w', cur', hrun, hh', hc', hstp⟩ := run_storeCells (P := P) b' T (a.eval y).cells.toList (j * lenK ks + c) 0 cur w hh (by rw [hl2, hcs]; omega) h1
              refine key _ w' _ i hx hi (by rw [← Array.length_toList, hl2, hisz, hsz]) hrun (h.over k _ _ hl (hstp.mono (fun b' e => .inl (by rw [hb']; simpa [blk] using e))) (fun ok lv h4 h5 => ?_)) hs
              rw [Nat.add_zero] at hc'
              exact ⟨b', cur', T, hb', hh', by rw [hc', hcur, hfp], by rw [hln, List.length_set], hwd⟩
            · exact hs.elim
          · exact hs.elim
        · exact hs.elim
      · split at hs
        · rename_i js ys _
          obtain ⟨hj0, hc0, rfl, hyl, hsz, hk⟩ := hs
          simp only [AVR] at hy
          subst hj0; subst hc0
          have hcl : (a.eval y).cells.toList = flat js ys := by rw [hy]; simp [Value.cells]
          obtain ⟨w', cur', hrun, hh', hc', hstp⟩ := run_storeCells (P := P) b' T (a.eval y).cells.toList (0 * lenK js + 0) 0 cur w hh (by rw [hcl, hcs, flat_length, hyl]; omega) (by rw [hcl]; exact flat_one _ _)
          refine key _ w' _ i hx hi (by rw [← Array.length_toList, hcl, hisz, hsz, flat_length]) hrun (h.over k _ _ hl (hstp.mono (fun b' e => .inl (by rw [hb']; simpa [blk] using e))) (fun ok lv h4 h5 => ?_)) hk
          refine ⟨b', cur', T, hb', hh', ?_, by rw [hln, hyl], hwd⟩
          rw [hc', hcl]
          have hall : ∀ (vs l : List Value) (p : List Value), vs.length = l.length → storeL (p ++ l) p.length vs = p ++ vs := by
            intro vs
            induction vs with
            | nil => intro l p hl; have : l = [] := List.length_eq_zero_iff.1 hl.symm; simp [this, storeL]
            | cons v vs ih =>
              intro l p hl
              cases l with
              | nil => simp at hl
              | cons x l =>
                simp only [storeL]
                have e : (p ++ x :: l).set p.length v = (p ++ [v]) ++ l := by simp
                rw [e]
                have := ih l (p ++ [v]) (by simpa using hl)
                simpa using this
          have := hall (flat js ys) cur.toList [] (by rw [hcur, flat_length, flat_length, hyl])
          simpa using this
        · exact hs.elim
    · exact hs.elim
  · exact hs.elim
end

end Go.Proofs.Ytkjbgdhpeidocaa.V
