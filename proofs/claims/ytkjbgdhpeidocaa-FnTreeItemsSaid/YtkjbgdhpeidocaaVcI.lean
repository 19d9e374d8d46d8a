/-
  A verified generator of verification conditions over the model's Code, part I: addresses, new variables, stores.
-/
import Derived.Test.YtkjbgdhpeidocaaVcH
set_option linter.unusedSimpArgs false
set_option linter.unusedVariables false
namespace Go.Proofs.Ytkjbgdhpeidocaa.V
open Go Go.RowKit

section
variable {P : Program} {Γ : Cx} {X : Fx} {tm : List (Nat × AV)} {hp : List (Option Entry)} {z : Cz} {a : Act} {w w' : World} {n : Nat}
  {K : St → Prop} {next : Act → World → Prop} {Q : Exit → Act → World → Prop} {o : Oper}

theorem field_at {fs : Array Field} : ∀ (offs : List Nat) (f g : Nat) {off : Nat}, fieldsAt P fs offs g = true → nthN offs f = some off →
    ∃ fd i, fs[g + f]? = some fd ∧ fd.offset = off ∧ P.info? fd.type = some i ∧ i.size ≠ 0
  | [], f, g, off, _, h => by cases f <;> simp [nthN] at h
  | x :: r, 0, g, off, h, h2 => by
    simp only [nthN, Option.some.injEq] at h2
    subst h2
    simp only [fieldsAt, Bool.and_eq_true] at h
    have h1 := h.1
    cases hf : fs[g]? with
    | none => rw [hf] at h1; simp at h1
    | some fd =>
      rw [hf] at h1
      simp only [Bool.and_eq_true, beq_iff_eq] at h1
      cases hi : P.info? fd.type with
      | none => rw [hi] at h1; simp at h1
      | some i =>
        rw [hi] at h1
        exact ⟨fd, i, by simp [hf], h1.1, hi, by simpa using h1.2⟩
  | x :: r, f + 1, g, off, h, h2 => by
    simp only [nthN] at h2
    simp only [fieldsAt, Bool.and_eq_true] at h
    obtain ⟨fd, i, h3, h4⟩ := field_at r f (g + 1) h.2 h2
    exact ⟨fd, i, by rw [← h3]; congr 1; omega, h4⟩

theorem r_fieldAddr {C : AV → Prop} (hΓ : CxOk P Γ) (h : Rel X tm hp z a w) (t f : Nat) (x : Operand) (hs : stepFieldAddr Γ t (evalT tm x) f C)
    (ho : o.op = .fieldAddr t x f) : ResA P X hp z a w o C := by
  have hx := h.eval x
  generalize evalT tm x = vx at hs hx
  unfold stepFieldAddr at hs
  split at hs
  · rename_i offs zr hT
    have ht := hΓ.tab t
    rw [hT] at ht
    obtain ⟨fs, i, hu, hf, _⟩ := ti_struct ht
    split at hs
    · rename_i off hoff
      obtain ⟨fd, ii, h1, h2, h3, h4⟩ := field_at offs f 0 hf hoff
      rw [Nat.zero_add] at h1
      have key : ∀ (b c : Nat) (v : AV), a.eval x = .pointer (some ⟨b, c, none⟩) → AVR (okB X hp z w) (live hp) w z v (.pointer (some ⟨b, c + off, none⟩)) →
          C v → ResA P X hp z a w o C := by
        intro b c v he hv hk
        refine ⟨.pointer (some ⟨b, c + off, none⟩), v, fun w' => ?_, hv, hk⟩
        simp [execOp, ho, Instr.fieldAt, run_underlying hu, h1, he, Instr.sureAddr, fieldPlace, run_sizeOf_of h3, h4, Addr.add_lit, h2]
      split at hs
      · rename_i k c
        simp only [AVR] at hx
        obtain ⟨hl, b, hb, hx⟩ := hx
        exact key b c _ hx (by simp only [AVR]; exact ⟨hl, b, hb, rfl⟩) hs
      · rename_i k j c
        simp only [AVR] at hx
        obtain ⟨hl, hj, b, hb, hx⟩ := hx
        exact key b _ _ hx (by simp only [AVR]; exact ⟨hl, hj, b, hb, by rw [Nat.add_assoc]⟩) hs
      · rename_i ks xs j c
        simp only [AVR] at hx
        obtain ⟨hj, b, o', hb, hx, hc⟩ := hx
        exact key b _ _ hx (by simp only [AVR]; exact ⟨hj, b, o', hb, by rw [Nat.add_assoc, Nat.add_assoc], hc⟩) hs
      · exact hs.elim
    · exact hs.elim
  · exact hs.elim

theorem s_fieldAddr (hΓ : CxOk P Γ) (h : Rel X tm hp z a w) (t f : Nat) (x : Operand) (hs : stepFieldAddr Γ t (evalT tm x) f fun v => K ⟨putT tm o.dst v, hp⟩)
    (ho : o.op = .fieldAddr t x f) (hd : ∀ d, o.dst = some d → d < n) (hn : a.tmps.size = n) (hN : Nxt X n K next) : o.wp P a w next Q :=
  (r_fieldAddr hΓ h t f x hs ho).res.fin h hd hn hN

theorem Rel.glok (h : Rel X tm hp z a w) {g : Nat} {ks : List Kd} {xs : List Row} (hg : glTab g = some (ks, xs)) :
    okB X hp z w g ∧ ∀ i c kd, i < xs.length → getK ks c = some kd → w.cell? ⟨g, i * lenK ks + c, none⟩ = some (kd.val (rc (row xs i) c)) := by
  obtain ⟨h1, h2, h3, h5⟩ := X.gl g ks xs hg
  refine ⟨⟨.inl h1, Nat.lt_of_lt_of_le h3 h.size, fun k hk e => ?_⟩, fun i c kd hi hk => (World.cell?_of_block (h.fr g h3 h2)).trans (h5 i c kd hi hk)⟩
  obtain ⟨_, q1, q2⟩ := h.own k g hk e
  rcases Nat.lt_or_ge k X.m with hm | hm
  · exact h2 (q1 hm)
  · rcases q2 hm with q | q
    · omega
    · exact h2 (X.gi g q)
theorem r_indexAddr {C : AV → Prop} (hΓ : CxOk P Γ) (h : Rel X tm hp z a w) (t : Nat) (x ix : Operand) (hs : stepIndexAddrG Γ t tm hp x (evalT tm ix) C)
    (ho : o.op = .indexAddr t x ix) : ResA P X hp z a w o C := by
  unfold stepIndexAddrG at hs
  split at hs
  · rename_i g
    have hy := h.eval ix
    generalize evalT tm ix = vy at hs hy
    unfold stepGl at hs
    split at hs
    case h_2 => exact hs.elim
    rename_i kd i
    have ei := hy.of_int
    have ht := hΓ.tab t
    split at hs
    case h_2 => exact hs.elim
    rename_i n' esz ks' hT
    rw [hT] at ht
    obtain ⟨e, ie, ii, hu, hie, hsz, hk0, hmod, hn1, _⟩ := ti_array ht
    split at hs
    case h_2 => exact hs.elim
    rename_i ks xs hg
    split at hs
    case isFalse => exact hs.elim
    rename_i hw
    obtain ⟨hb, hfit, hk⟩ := hs
    obtain ⟨q1, q2⟩ := h.glok hg
    have hi : i.toNat < xs.length := by omega
    refine ⟨.pointer (some ⟨g, i.toNat * esz, none⟩), .vcel ks xs i.toNat 0, fun w' => ?_, ?_, hk⟩
    · have hgl : a.eval (.global g) = .pointer (some ⟨g, 0, none⟩) := rfl
      simp [execOp, ho, hgl, Instr.indexAt, ei, asIntOf, run_underlying hu, Instr.sureAddr, hb, run_sizeOf_of hie, hsz, Addr.add_lit]
    · simp only [AVR]
      exact ⟨hi, g, 0, q1, by rw [hw]; simp, fun c' kd hk => by rw [Nat.zero_add]; exact q2 i.toNat c' kd hi hk⟩
  have hx := h.eval x
  have hy := h.eval ix
  generalize evalT tm x = vx at hs hx
  generalize evalT tm ix = vy at hs hy
  unfold stepIndexAddr at hs
  split at hs
  · rename_i kd i
    have ei := hy.of_int
    have ht := hΓ.tab t
    split at hs
    · rename_i e esz eb ks' hT
      rw [hT] at ht
      obtain ⟨ie, hu, hie, hsz, _⟩ := ti_slice ht
      have key : ∀ (b c len cap : Nat) (v : AV), a.eval x = .slice (some ⟨b, c, none⟩) len cap → (0 ≤ i ∧ i < len) →
          AVR (okB X hp z w) (live hp) w z v (.pointer (some ⟨b, c + i.toNat * esz, none⟩)) → C v → ResA P X hp z a w o C := by
        intro b c len cap v he hb hv hk
        refine ⟨.pointer (some ⟨b, c + i.toNat * esz, none⟩), v, fun w' => ?_, hv, hk⟩
        simp [execOp, ho, Instr.indexAt, ei, asIntOf, run_underlying hu, he, hb, run_sizeOf_of hie, hsz, Addr.add_lit]
      split at hs
      · rename_i ks xs
        split at hs
        · rename_i hlen
          obtain ⟨hb, hk⟩ := hs
          simp only [AVR] at hx
          obtain ⟨ad, cap, hx, _, hv⟩ := hx
          have hlt : i.toNat < xs.length := by omega
          rcases hv with hv | ⟨b, c, rfl, hok, hv⟩
          · subst hv; simp at hlt
          · refine key b c _ cap _ hx hb ?_ hk
            simp only [AVR]
            exact ⟨hlt, b, c, hok, by rw [hlen, Nat.add_zero], fun c' kd hk => hv i.toNat c' kd hlt hk⟩
        · exact hs.elim
      · rename_i ks xss
        split at hs
        · rename_i hlen
          subst hlen
          obtain ⟨hb, hk⟩ := hs
          simp only [AVR] at hx
          obtain ⟨ad, cap, hx, _, hv⟩ := hx
          have hlt : i.toNat < xss.length := by omega
          rcases hv with hv | ⟨b, c, rfl, hok, hv⟩
          · subst hv; simp at hlt
          · refine key b c _ cap _ hx hb ?_ hk
            simp only [AVR]
            obtain ⟨u, q1, q2⟩ := hv i.toNat hlt
            exact ⟨hlt, b, c, u, hok, by rw [Nat.mul_one], q1, q2⟩
        · exact hs.elim
      · rename_i k
        split at hs
        · rename_i e' ks xs hl
          split at hs
          · rename_i hlen
            obtain ⟨hb, hk⟩ := hs
            simp only [AVR] at hx
            obtain ⟨hlv, hx⟩ := hx
            obtain ⟨hown, hln, hwd⟩ := h.ens k _ hl
            have hlt : i.toNat < xs.length := by omega
            rcases hown.2 with ⟨_, h0⟩ | ⟨g, cap, cur, hv, _⟩
            · omega
            · rw [hv] at hx
              refine key g 0 _ cap _ hx hb ?_ hk
              simp only [AVR]
              exact ⟨hlv, by rw [hln]; exact hlt, g, by rw [hv]; rfl, by rw [hwd, hlen, Nat.add_zero, Nat.zero_add]⟩
          · exact hs.elim
        · rename_i e' f' ks xss hl
          split at hs
          · rename_i hlen
            subst hlen
            obtain ⟨hb, hk⟩ := hs
            simp only [AVR] at hx
            obtain ⟨hlv, hx⟩ := hx
            obtain ⟨vs, hown, hln, hwd, _⟩ := h.ens k _ hl
            have hlt : i.toNat < xss.length := by omega
            rcases hown.2 with ⟨_, h0⟩ | ⟨g, cap, cur, hv, _⟩
            · omega
            · rw [hv] at hx
              refine key g 0 _ cap _ hx hb ?_ hk
              simp only [AVR]
              exact ⟨hlv, by rw [hln]; exact hlt, g, by rw [hv]; rfl, by rw [hwd, Nat.add_zero, Nat.zero_add]⟩
          · exact hs.elim
        · exact hs.elim
      · exact hs.elim
    · rename_i n' esz ks hT
      rw [hT] at ht
      obtain ⟨e, ie, ii, hu, hie, hsz, hk0, hmod, hn1, _⟩ := ti_array ht
      split at hs
      · rename_i k j
        split at hs
        · rename_i js xs hl
          split at hs
          · rename_i hw
            obtain ⟨hb, hfit, hk⟩ := hs
            simp only [AVR] at hx
            obtain ⟨hlv, hj, b, hb', hx⟩ := hx
            obtain ⟨_, _, _, _, _, _, hln, hwd⟩ := h.ens k _ hl
            have hdiv : esz / lenK ks * lenK ks = esz := Nat.div_mul_cancel (Nat.dvd_of_mod_eq_zero hmod)
            refine ⟨.pointer (some ⟨b, j * (z.wd k).1 + 0 + i.toNat * esz, none⟩), .cel k (j + i.toNat * (esz / lenK ks)) 0, fun w' => ?_, ?_, hk⟩
            · simp [execOp, ho, Instr.indexAt, ei, asIntOf, run_underlying hu, hx, Instr.sureAddr, hb, run_sizeOf_of hie, hsz, Addr.add_lit]
            · simp only [AVR]
              have h1 : (i.toNat + 1) * (esz / lenK ks) ≤ n' * (esz / lenK ks) := Nat.mul_le_mul_right _ (by omega)
              rw [Nat.add_mul, Nat.one_mul] at h1
              refine ⟨hlv, ?_, b, hb', ?_⟩
              · rw [hln] at hj ⊢
                rcases Nat.eq_zero_or_pos (esz / lenK ks) with h0 | h0
                · rw [h0]; simpa using hj
                · omega
              · rw [hwd, hw, Nat.add_mul, Nat.mul_assoc, hdiv, Nat.add_zero, Nat.add_zero]
          · exact hs.elim
        · exact hs.elim
      · exact hs.elim
    · exact hs.elim
  · exact hs.elim

theorem s_indexAddr (hΓ : CxOk P Γ) (h : Rel X tm hp z a w) (t : Nat) (x ix : Operand) (hs : stepIndexAddrG Γ t tm hp x (evalT tm ix) fun v => K ⟨putT tm o.dst v, hp⟩)
    (ho : o.op = .indexAddr t x ix) (hd : ∀ d, o.dst = some d → d < n) (hn : a.tmps.size = n) (hN : Nxt X n K next) : o.wp P a w next Q :=
  (r_indexAddr hΓ h t x ix hs ho).res.fin h hd hn hN

theorem stp_alloc (w : World) (ob : Obj) : Stp (fun _ => False) w (w.alloc ob) :=
  ⟨rfl, rfl, rfl, by simp, fun b hb _ => Below.heap_alloc w ob b hb⟩

/-- A new variable in a new entry. -/
theorem fin_new {v : AV} {u : Value} {z' : Cz} {e : Entry} (hrun : (execOp a.eval o).run P w = .ok (.value u) w') (hR : Rel X tm (pushH hp e) z' a w')
    (hv : AVR (okB X (pushH hp e) z' w') (live (pushH hp e)) w' z' v u) (hd : ∀ d, o.dst = some d → d < n) (hn : a.tmps.size = n) (hN : Nxt X n K next)
    (hk : K ⟨putT tm o.dst v, pushH hp e⟩) : o.wp P a w next Q := fin hrun hR hv hd hn hN hk

theorem fin_newS {v : AV} {u : Value} {z' : Cz} {e : Entry} (hst : Stp (fun _ => False) w w') (hrun : (execOp a.eval o).run P w = .ok (.value u) w') (hR : Rel X tm (pushH hp e) z' a w')
    (hv : AVR (okB X (pushH hp e) z' w') (live (pushH hp e)) w' z' v u) (hd : ∀ d, o.dst = some d → d < n) (hn : a.tmps.size = n) (hN : NxtS X n w K next)
    (hk : K ⟨putT tm o.dst v, pushH hp e⟩) : o.wp P a w next Q := by
  unfold Oper.wp
  rw [hrun]
  show next _ _
  refine hN ⟨putT tm o.dst v, pushH hp e⟩ z' _ _ hk ?_ (by rw [size_put]; exact hn) hst
  exact hR.put o.dst (fun d e => by rw [hn]; exact hd d e) hv

theorem live_push (hp : List (Option Entry)) (e : Entry) : live (pushH hp e) (lenH hp) := by unfold live; rw [lookH_push]; simp

theorem new_box (h : Rel X tm hp z a w) (T : TypeId) (l : List AV) (vs : List Value) (hone : ∀ u ∈ vs, u.oneCell' = true)
    (hl : AVRs (okB X hp z w) (live hp) w z l vs) :
    Rel X tm (pushH hp (.box l)) (z.upd (lenH hp) (.pointer (some ⟨w.heap.size, 0, none⟩)) 0 (0, [])) a (w.alloc (.cells vs.toArray T)) := by
  refine h.push (stp_alloc w _) _ _ _ _ (fun b hb => ?_) (fun ok lv z' h1 h2 h3 _ h5 => ?_)
  · simp [blk] at hb; subst hb; simp
  · refine ⟨w.heap.size, vs.toArray, T, h3, heap_alloc_new w _, by simpa using hone, ?_, by rw [h5]⟩
    exact AVRs.mono h1 (fun b hb => Below.heap_alloc w _ b hb.2.1) h2 _ _ hl
theorem new_arr (h : Rel X tm hp z a w) (T : TypeId) (ks : List Kd) (xs : List Row) :
    Rel X tm (pushH hp (.arr ks xs)) (z.upd (lenH hp) (.pointer (some ⟨w.heap.size, 0, none⟩)) xs.length (lenK ks, [])) a (w.alloc (.cells (flat ks xs).toArray T)) := by
  refine h.push (stp_alloc w _) _ _ _ _ (fun b hb => ?_) (fun ok lv z' h1 h2 h3 h4 h5 => ?_)
  · simp [blk] at hb; subst hb; simp
  · exact ⟨w.heap.size, (flat ks xs).toArray, T, h3, heap_alloc_new w _, by simp, h4, h5⟩
theorem new_rows (h : Rel X tm hp z a w) {w' : World} {row : Option Nat} (e : Nat) (ks : List Kd) (xs : List Row) (v : Value)
    (hown : w'.ownsRow w.heap.size e (lenK ks) v xs.length (flat ks xs)) (hg : w.grownBy w' row) (hr : row = none) :
    Rel X tm (pushH hp (.rows e ks xs)) (z.upd (lenH hp) v xs.length (lenK ks, [])) a w' := by
  subst hr
  refine h.push ((Stp.of_grown hg).mono (fun b e => by cases e)) _ _ _ _ (fun b hb => ?_) (fun ok lv z' h1 h2 h3 h4 h5 => ?_)
  · exact hown.lt b (own_blk hown hb)
  · refine ⟨?_, h4, h5⟩
    rw [h3]
    refine ⟨hown.1, ?_⟩
    rcases hown.2 with q | ⟨g, cap, cur, q1, _, q3⟩
    · exact .inl q
    · exact .inr ⟨g, cap, cur, q1, Nat.zero_le _, q3⟩

theorem zval_one (v : AV) (h : v.zval ≠ .tuple #[]) : v.zval.oneCell' = true := by cases v <;> simp [AV.zval] at h ⊢ <;> rfl

theorem zeroOk_rel {ok lv : Nat → Prop} : ∀ (l : List AV), zeroOk l = true → AVRs ok lv w z l (l.map AV.zval) ∧ ∀ u ∈ l.map AV.zval, u.oneCell' = true
  | [], _ => by simp [AVRs]
  | v :: r, h => by
    have hr : zeroOk r = true := by cases v <;> simp_all [zeroOk]
    obtain ⟨h1, h2⟩ := zeroOk_rel (ok := ok) (lv := lv) r hr
    constructor
    · simp only [List.map_cons, AVRs]
      exact ⟨_, _, rfl, by cases v <;> simp_all [zeroOk, AVR, AV.zval], h1⟩
    · intro u hu
      simp only [List.map_cons, List.mem_cons] at hu
      rcases hu with rfl | hu
      · cases v <;> simp_all [zeroOk, AV.zval] <;> rfl
      · exact h2 u hu

theorem zero_of {t : Nat} {ti : TI} {e : Entry} (ht : checkTI P t ti = true) (hz : ti.zero = some e) (hzo : entryOk e = true) :
    ∃ i zv, P.info? t = some i ∧ i.zero = some zv ∧ (∃ vs : List Value, zv.cells = vs.toArray ∧ match e with
      | .box l => (∀ u ∈ vs, u.oneCell' = true) ∧ ∀ (ok lv : Nat → Prop) (w : World) (z : Cz), AVRs ok lv w z l vs
      | .arr ks xs => vs = flat ks xs ∧ 0 < xs.length
      | .rows _ _ _ => False | .vnest _ _ _ => False | .nest _ _ _ _ => False) := by
  cases ti with
  | int k =>
    simp only [TI.zero, Option.some.injEq] at hz
    subst hz
    simp only [checkTI, Bool.and_eq_true] at ht
    obtain ⟨i, h1, _, h2⟩ := zeroAt_plain ht.2
    exact ⟨i, _, h1, h2, [.int k 0], by simp [Value.cells], by simp; rfl, fun _ _ _ _ => by simp [AVRs, AVR]⟩
  | bool =>
    simp only [TI.zero, Option.some.injEq] at hz
    subst hz
    simp only [checkTI, Bool.and_eq_true] at ht
    obtain ⟨i, h1, _, h2⟩ := zeroAt_plain ht.2
    exact ⟨i, _, h1, h2, [.bool false], by simp [Value.cells], by simp; rfl, fun _ _ _ _ => by simp [AVRs, AVR]⟩
  | str =>
    simp only [TI.zero, Option.some.injEq] at hz
    subst hz
    simp only [checkTI, Bool.and_eq_true] at ht
    obtain ⟨i, h1, _, h2⟩ := zeroAt_plain ht.2
    exact ⟨i, _, h1, h2, [.string ⟨#[]⟩], by simp [Value.cells], by simp; rfl, fun _ _ _ _ => by simp [AVRs, AVR]⟩
  | slice e' esz eb ks =>
    simp only [TI.zero, Option.some.injEq] at hz
    subst hz
    simp only [checkTI, Bool.and_eq_true] at ht
    obtain ⟨i, h1, _, h2⟩ := zeroAt_plain ht.1.2
    exact ⟨i, _, h1, h2, [.slice none 0 0], by simp [Value.cells], by simp; rfl, fun _ _ _ _ => by simp [AVRs, AVR]⟩
  | struct offs zr =>
    simp only [TI.zero, Option.some.injEq] at hz
    subst hz
    obtain ⟨fs, i, _, _, h1, _, h2⟩ := ti_struct ht
    simp only [entryOk] at hzo
    exact ⟨i, _, h1, h2, zr.map AV.zval, by simp [Value.cells], fun u hu => (zeroOk_rel (ok := fun _ => True) (lv := fun _ => True) (w := default) (z := ⟨fun _ => .nilFunc, fun _ => 0, fun _ => (0, [])⟩) zr hzo).2 u hu, fun ok lv w z => (zeroOk_rel zr hzo).1⟩
  | array n esz ks =>
    simp only [TI.zero, Option.some.injEq] at hz
    subst hz
    obtain ⟨e, ie, i, hu, hie, hsz, hk0, hmod, hn1, h1, _, h2⟩ := ti_array ht
    refine ⟨i, _, h1, h2, _, by simp only [Value.cells], rfl, ?_⟩
    rw [List.length_replicate]
    refine Nat.div_pos ?_ (by omega)
    have h1 := Nat.le_of_dvd hn1.2 (Nat.dvd_of_mod_eq_zero hmod)
    have h2 : 1 * esz ≤ n * esz := Nat.mul_le_mul_right _ (by omega)
    omega
  | ptr => simp [TI.zero] at hz
  | other => simp [TI.zero] at hz

theorem s_alloc (hΓ : CxOk P Γ) (h : Rel X tm hp z a w) (t : Nat) (e : Entry) (hz : (Γ.τ t).zero = some e) (hzo : entryOk e = true)
    (hs : K ⟨putT tm o.dst (firstPlace (lenH hp) e), pushH hp e⟩)
    (ho : o.op = .alloc t) (hd : ∀ d, o.dst = some d → d < n) (hn : a.tmps.size = n) (hN : NxtS X n w K next) : o.wp P a w next Q := by
  obtain ⟨i, zv, hi, hz2, vs, hvs, hm⟩ := zero_of (hΓ.tab t) hz hzo
  have hrun : (execOp a.eval o).run P w = .ok (.value (.pointer (some ⟨w.heap.size, 0, none⟩))) (w.alloc (.cells vs.toArray t)) := by
    simp [execOp, ho, Instr.alloc, zeroValue, typeInfo, hi, hz2, newVar, newRow, hvs]
  cases e with
  | box l =>
    simp only at hm
    refine fin_newS (stp_alloc w _) hrun (new_box h t l vs hm.1 (hm.2 _ _ _ _)) ?_ hd hn hN hs
    simp only [firstPlace, AVR]
    exact ⟨live_push hp _, w.heap.size, by simp [Cz.upd], rfl⟩
  | arr ks xs =>
    simp only at hm
    obtain ⟨rfl, hpos⟩ := hm
    refine fin_newS (stp_alloc w _) hrun (new_arr h t ks xs) ?_ hd hn hN hs
    simp only [firstPlace, AVR]
    exact ⟨live_push hp _, by simpa [Cz.upd] using hpos, w.heap.size, by simp [Cz.upd, blk], by simp⟩
  | rows _ _ _ => simp only at hm
  | vnest _ _ _ => simp only at hm
  | nest _ _ _ _ => simp only at hm

theorem s_box_struct (hΓ : CxOk P Γ) (h : Rel X tm hp z a w) (t : Nat) (x : Operand) (l : List AV) (hl : evalT tm x = .agg l)
    (hs : K ⟨putT tm o.dst (.box (lenH hp) 0), pushH hp (.box l)⟩)
    (ho : o.op = .box t x) (hd : ∀ d, o.dst = some d → d < n) (hn : a.tmps.size = n) (hN : NxtS X n w K next) : o.wp P a w next Q := by
  have hx := h.eval x
  rw [hl] at hx
  simp only [AVR] at hx
  obtain ⟨vs, hx, hone, hr⟩ := hx
  have hrun : (execOp a.eval o).run P w = .ok (.value (.pointer (some ⟨w.heap.size, 0, none⟩))) (w.alloc (.cells vs.toArray t)) := by
    simp [execOp, ho, Instr.box, hx, newVar, newRow, Value.cells]
  refine fin_newS (stp_alloc w _) hrun (new_box h t l vs hone hr) ?_ hd hn hN hs
  simp only [AVR]
  exact ⟨live_push hp _, w.heap.size, by simp [Cz.upd], rfl⟩
theorem s_box_int (h : Rel X tm hp z a w) (t : Nat) (x : Operand) (k : IntKind) (m : Int) (hl : evalT tm x = .int k m)
    (hs : K ⟨putT tm o.dst (.box (lenH hp) 0), pushH hp (.box [.int k m])⟩)
    (ho : o.op = .box t x) (hd : ∀ d, o.dst = some d → d < n) (hn : a.tmps.size = n) (hN : NxtS X n w K next) : o.wp P a w next Q := by
  have hx := h.eval x
  rw [hl] at hx
  have hx := hx.of_int
  have hrun : (execOp a.eval o).run P w = .ok (.value (.pointer (some ⟨w.heap.size, 0, none⟩))) (w.alloc (.cells [Value.int k m].toArray t)) := by
    simp [execOp, ho, Instr.box, hx, newVar, newRow, Value.cells]
  refine fin_newS (stp_alloc w _) hrun (new_box h t [.int k m] [.int k m] (by simp; rfl) (by simp [AVRs, AVR])) ?_ hd hn hN hs
  simp only [AVR]
  exact ⟨live_push hp _, w.heap.size, by simp [Cz.upd], rfl⟩
theorem s_box_arr (h : Rel X tm hp z a w) (t : Nat) (x : Operand) (ks : List Kd) (xs : List Row) (hl : evalT tm x = .arr ks xs) (hpos : 0 < xs.length)
    (hs : K ⟨putT tm o.dst (.cel (lenH hp) 0 0), pushH hp (.arr ks xs)⟩)
    (ho : o.op = .box t x) (hd : ∀ d, o.dst = some d → d < n) (hn : a.tmps.size = n) (hN : NxtS X n w K next) : o.wp P a w next Q := by
  have hx := h.eval x
  rw [hl] at hx
  simp only [AVR] at hx
  have hrun : (execOp a.eval o).run P w = .ok (.value (.pointer (some ⟨w.heap.size, 0, none⟩))) (w.alloc (.cells (flat ks xs).toArray t)) := by
    simp [execOp, ho, Instr.box, hx, newVar, newRow, Value.cells]
  refine fin_newS (stp_alloc w _) hrun (new_arr h t ks xs) ?_ hd hn hN hs
  simp only [AVR]
  exact ⟨live_push hp _, by simpa [Cz.upd] using hpos, w.heap.size, by simp [Cz.upd, blk], by simp⟩
end

end Go.Proofs.Ytkjbgdhpeidocaa.V
