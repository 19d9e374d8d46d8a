/-
  A verified generator of verification conditions over the model's Code, part D: the relation between an abstract state and the model's frame and memory, and how it is carried over the elementary changes.
-/
import Derived.Test.YtkjbgdhpeidocaaVcC
set_option linter.unusedSimpArgs false
set_option linter.unusedVariables false
namespace Go.Proofs.Ytkjbgdhpeidocaa.V
open Go Go.RowKit

def putT (tm : List (Nat × AV)) (dst : Option Nat) (v : AV) : List (Nat × AV) :=
  match dst with | some d => (d, v) :: tm | none => tm

def live (hp : List (Option Entry)) (k : Nat) : Prop := (lookH hp k).isSome = true

/-- What stays fixed while a call runs: the memory at its beginning, the blocks that may be read, the blocks that were handed over, how many, and their values. -/
def GlAt (w : World) (V I : Nat → Prop) : Prop :=
  ∀ g ks xs, glTab g = some (ks, xs) → V g ∧ ¬ I g ∧ g < w.heap.size ∧ ∀ i c kd, i < xs.length → getK ks c = some kd → w.cell? ⟨g, i * lenK ks + c, none⟩ = some (kd.val (rc (row xs i) c))
structure Fx where
  w0 : World
  V : Nat → Prop
  I : Nat → Prop
  m : Nat
  ρ0 : Nat → Value
  gl : GlAt w0 V I
  G : Nat → Prop
  gi : ∀ b, G b → I b
/-- A block that is new since the call began, or was given to it. -/
def Fx.nw (X : Fx) (b : Nat) : Prop := X.w0.heap.size ≤ b ∨ X.G b

def okB (X : Fx) (hp : List (Option Entry)) (z : Cz) (w : World) (b : Nat) : Prop :=
  (X.V b ∨ X.nw b) ∧ b < w.heap.size ∧ ∀ k, live hp k → ¬ z.bk k b

/-- Slices of our own, one behind the other. -/
def Inns (w : World) (f : Nat) (ks : List Kd) : List (List Row) → List Value → Prop
  | [], vs => vs = []
  | xs :: xss, vs => ∃ u us, vs = u :: us ∧ w.ownsRow 0 f (lenK ks) u xs.length (flat ks xs) ∧ Inns w f ks xss us
def EnR (ok lv : Nat → Prop) (w : World) (z : Cz) (k : Nat) : Entry → Prop
  | .box l => ∃ b cur T, z.ρ k = .pointer (some ⟨b, 0, none⟩) ∧ w.heap[b]? = some (.cells cur T (0, 0)) ∧
      (∀ u ∈ cur.toList, u.oneCell' = true) ∧ AVRs ok lv w z l cur.toList ∧ (z.wd k).2 = []
  | .rows e ks xs => w.ownsRow 0 e (lenK ks) (z.ρ k) xs.length (flat ks xs) ∧ z.len k = xs.length ∧ z.wd k = (lenK ks, [])
  | .arr ks xs => ∃ b cur T, z.ρ k = .pointer (some ⟨b, 0, none⟩) ∧ w.heap[b]? = some (.cells cur T (0, 0)) ∧
      cur.toList = flat ks xs ∧ z.len k = xs.length ∧ z.wd k = (lenK ks, [])
  | .vnest e ks xss => ∃ vs : List Value, w.ownsRow 0 e 1 (z.ρ k) xss.length vs ∧ z.len k = xss.length ∧ z.wd k = (1, []) ∧
      ∀ i, i < xss.length → ∃ u, vs[i]? = some u ∧ ViewR ok w ks (xss.getD i []) u
  | .nest e f ks xss => ∃ vs : List Value, w.ownsRow 0 e 1 (z.ρ k) xss.length vs ∧ z.len k = xss.length ∧ z.wd k = (1, vs) ∧ Inns w f ks xss vs ∧ (z.bs k).Nodup

structure Rel (X : Fx) (tm : List (Nat × AV)) (hp : List (Option Entry)) (z : Cz) (a : Act) (w : World) : Prop where
  tms : ∀ t, AVR (okB X hp z w) (live hp) w z (lookT tm t) (a.tmps.getD t undef)
  ens : ∀ k e, lookH hp k = some e → EnR (okB X hp z w) (live hp) w z k e
  dj : ∀ j k b, live hp j → live hp k → z.bk j b → z.bk k b → j = k
  own : ∀ k b, live hp k → z.bk k b → b < w.heap.size ∧ (k < X.m → X.I b) ∧ (X.m ≤ k → X.nw b)
  io : ∀ k, k < X.m → live hp k → z.ρ k = X.ρ0 k
  mm : X.m ≤ hp.length
  fr : ∀ b, b < X.w0.heap.size → ¬ X.I b → w.heap[b]? = X.w0.heap[b]?
  os : w.os = X.w0.os
  tape : w.tape = X.w0.tape
  output : w.output = X.w0.output
  size : X.w0.heap.size ≤ w.heap.size
  df : a.defers = []

def RelS (X : Fx) (σ : St) (z : Cz) (a : Act) (w : World) : Prop := Rel X σ.tm σ.hp z a w

/-- The memory has grown, or changed at the blocks of S alone. -/
structure Stp (S : Nat → Prop) (w w' : World) : Prop where
  os : w'.os = w.os
  tape : w'.tape = w.tape
  output : w'.output = w.output
  size : w.heap.size ≤ w'.heap.size
  block : ∀ b, b < w.heap.size → ¬ S b → w'.heap[b]? = w.heap[b]?

theorem Stp.of_grown {w w' : World} {row : Option Nat} (h : w.grownBy w' row) : Stp (fun b => row = some b) w w' :=
  ⟨h.os, h.tape, h.output, h.size, fun b hb hn => h.block b hb (fun e => hn e.symm)⟩
theorem Stp.mono {S S' : Nat → Prop} {w w' : World} (h : Stp S w w') (hs : ∀ b, S b → S' b) : Stp S' w w' :=
  ⟨h.os, h.tape, h.output, h.size, fun b hb hn => h.block b hb (fun e => hn (hs b e))⟩
theorem Stp.refl (S : Nat → Prop) (w : World) : Stp S w w := ⟨rfl, rfl, rfl, Nat.le_refl _, fun _ _ _ => rfl⟩
theorem Stp.trans {S : Nat → Prop} {a b c : World} (h : Stp S a b) (k : Stp S b c) : Stp S a c :=
  ⟨k.os.trans h.os, k.tape.trans h.tape, k.output.trans h.output, Nat.le_trans h.size k.size,
   fun i hi hn => (k.block i (Nat.lt_of_lt_of_le hi h.size) hn).trans (h.block i hi hn)⟩

theorem live_none {hp : List (Option Entry)} {k : Nat} : ¬ live hp k ↔ lookH hp k = none := by
  unfold live; cases lookH hp k <;> simp
theorem live_of {hp : List (Option Entry)} {k : Nat} {e : Entry} (h : lookH hp k = some e) : live hp k := by simp [live, h]
theorem live_get {hp : List (Option Entry)} {k : Nat} (h : live hp k) : ∃ e, lookH hp k = some e := by
  unfold live at h; exact Option.isSome_iff_exists.1 h

theorem lookH_lt : ∀ {hp : List (Option Entry)} {k : Nat} {e : Entry}, lookH hp k = some e → k < hp.length
  | [], k, e, h => by cases k <;> simp [lookH] at h
  | _ :: _, 0, _, _ => by simp
  | _ :: r, k + 1, e, h => by simp only [lookH] at h; have := lookH_lt h; simpa using this
theorem lookH_push : ∀ (hp : List (Option Entry)) (e : Entry) (k : Nat), lookH (pushH hp e) k = if k = lenH hp then some e else lookH hp k
  | [], e, 0 => by simp [pushH, lookH, lenH]
  | [], e, k + 1 => by simp [pushH, lookH, lenH]
  | x :: r, e, 0 => by simp [pushH, lookH, lenH]
  | x :: r, e, k + 1 => by simp [pushH, lookH, lenH, lookH_push r e k]
theorem lookH_big {hp : List (Option Entry)} {k : Nat} (h : hp.length ≤ k) : lookH hp k = none := by
  cases e : lookH hp k with
  | none => rfl
  | some x => have := lookH_lt e; omega
theorem lookH_set : ∀ (hp : List (Option Entry)) (k : Nat) (x : Option Entry) (j : Nat), lookH (setH hp k x) j = if j = k ∧ k < hp.length then x else lookH hp j
  | [], k, x, j => by simp [setH]
  | y :: r, 0, x, 0 => by simp [setH, lookH]
  | y :: r, 0, x, j + 1 => by simp [setH, lookH]
  | y :: r, k + 1, x, 0 => by simp [setH, lookH]
  | y :: r, k + 1, x, j + 1 => by simp [setH, lookH, lookH_set r k x j]
theorem length_set : ∀ (hp : List (Option Entry)) (k : Nat) (x : Option Entry), (setH hp k x).length = hp.length
  | [], _, _ => rfl
  | _ :: _, 0, _ => rfl
  | _ :: r, k + 1, x => by simp [setH, length_set r k x]
theorem length_push : ∀ (hp : List (Option Entry)) (e : Entry), (pushH hp e).length = hp.length + 1
  | [], _ => rfl
  | _ :: r, e => by simp [pushH, length_push r e]

def Cz.upd (z : Cz) (k : Nat) (v : Value) (n : Nat) (d : Nat × List Value) : Cz :=
  { ρ := fun j => if j = k then v else z.ρ j, len := fun j => if j = k then n else z.len j, wd := fun j => if j = k then d else z.wd j }

theorem heap_of_own {w w' : World} {base e s n : Nat} {v : Value} {xs : List Value} (h : w.ownsRow base e s v n xs)
    (hb : ∀ b, blk v = some b → w'.heap[b]? = w.heap[b]?) : w'.ownsRow base e s v n xs := by
  refine ⟨h.1, ?_⟩
  rcases h.2 with h2 | ⟨g, cap, cur, rfl, h3, h4, r⟩
  · exact .inl h2
  · exact .inr ⟨g, cap, cur, rfl, h3, by rw [hb g rfl]; exact h4, r⟩

theorem Inns.still {w w' : World} {f : Nat} {ks : List Kd} : ∀ {xss : List (List Row)} {vs : List Value}, Inns w f ks xss vs → (∀ b, ∀ v ∈ vs, blk v = some b → w'.heap[b]? = w.heap[b]?) → Inns w' f ks xss vs
  | [], vs, h, _ => by simpa only [Inns] using h
  | xs :: xss, vs, h, hb => by
    simp only [Inns] at h ⊢
    obtain ⟨u, us, rfl, h1, h2⟩ := h
    exact ⟨u, us, rfl, heap_of_own h1 (fun b hb' => hb b u (by simp) hb'), h2.still (fun b v hv hb' => hb b v (by simp [hv]) hb')⟩
theorem Inns.length {w : World} {f : Nat} {ks : List Kd} : ∀ {xss : List (List Row)} {vs : List Value}, Inns w f ks xss vs → vs.length = xss.length
  | [], vs, h => by simp only [Inns] at h; simp [h]
  | xs :: xss, vs, h => by
    simp only [Inns] at h
    obtain ⟨u, us, rfl, h1, h2⟩ := h
    simp [h2.length]
theorem Inns.get {w : World} {f : Nat} {ks : List Kd} : ∀ {xss : List (List Row)} {vs : List Value} (i : Nat), Inns w f ks xss vs → i < xss.length →
    ∃ u, vs[i]? = some u ∧ w.ownsRow 0 f (lenK ks) u (xss.getD i []).length (flat ks (xss.getD i []))
  | [], vs, i, _, hi => by simp at hi
  | xs :: xss, vs, 0, h, _ => by
    simp only [Inns] at h
    obtain ⟨u, us, rfl, h1, h2⟩ := h
    exact ⟨u, by simp, by simpa using h1⟩
  | xs :: xss, vs, i + 1, h, hi => by
    simp only [Inns] at h
    obtain ⟨u, us, rfl, h1, h2⟩ := h
    obtain ⟨u', q1, q2⟩ := h2.get i (by simpa using hi)
    exact ⟨u', by simpa using q1, by simpa using q2⟩
theorem Inns.set {w : World} {f : Nat} {ks : List Kd} {xs : List Row} {v : Value} : ∀ {xss : List (List Row)} {vs : List Value} (i : Nat), Inns w f ks xss vs → w.ownsRow 0 f (lenK ks) v xs.length (flat ks xs) →
    Inns w f ks (xss.set i xs) (vs.set i v)
  | [], vs, i, h, _ => by simp only [Inns] at h; simp [h, Inns]
  | ys :: xss, vs, 0, h, hv => by
    simp only [Inns] at h
    obtain ⟨u, us, rfl, h1, h2⟩ := h
    simp only [List.set_cons_zero, Inns]
    exact ⟨v, us, rfl, hv, h2⟩
  | ys :: xss, vs, i + 1, h, hv => by
    simp only [Inns] at h
    obtain ⟨u, us, rfl, h1, h2⟩ := h
    simp only [List.set_cons_succ, Inns]
    exact ⟨u, _, rfl, h1, h2.set i hv⟩
theorem Inns.append {w : World} {f : Nat} {ks : List Kd} : ∀ {xss yss : List (List Row)} {vs us : List Value}, Inns w f ks xss vs → Inns w f ks yss us → Inns w f ks (xss ++ yss) (vs ++ us)
  | [], yss, vs, us, h, h' => by simp only [Inns] at h; subst h; simpa using h'
  | xs :: xss, yss, vs, us, h, h' => by
    simp only [Inns] at h
    obtain ⟨u, us', rfl, h1, h2⟩ := h
    simp only [List.cons_append, Inns]
    exact ⟨u, _, rfl, h1, h2.append h'⟩
theorem Inns.nils (w : World) (f : Nat) (ks : List Kd) : ∀ n : Nat, Inns w f ks (List.replicate n []) (List.replicate n (.slice none 0 0))
  | 0 => by simp [Inns]
  | n + 1 => by
    simp only [List.replicate_succ, Inns]
    exact ⟨_, _, rfl, World.ownsRow_nil w 0 f (lenK ks), Inns.nils w f ks n⟩
theorem EnR.nest_still {ok lv ok' lv' : Nat → Prop} {w w' : World} {z z' : Cz} {k e f : Nat} {ks : List Kd} {xss : List (List Row)} (h : EnR ok lv w z k (.nest e f ks xss))
    (hk : z'.ρ k = z.ρ k ∧ z'.len k = z.len k ∧ z'.wd k = z.wd k) (hb : ∀ b, z.bk k b → w'.heap[b]? = w.heap[b]?) : EnR ok' lv' w' z' k (.nest e f ks xss) := by
  obtain ⟨vs, ho, hl, hw, hi, hn⟩ := h
  exact ⟨vs, by rw [hk.1]; exact heap_of_own ho (fun b h => hb b (.inl h)), hk.2.1.trans hl, hk.2.2.trans hw, hi.still (fun b v hv hb' => hb b (.inr ⟨v, by rw [hw]; exact hv, hb'⟩)), by rw [Cz.bs_congr hk.1 hk.2.2]; exact hn⟩
theorem EnR.mono {ok ok' lv lv' : Nat → Prop} {w w' : World} {z z' : Cz} {k : Nat} {e : Entry} (h : EnR ok lv w z k e)
    (h1 : ∀ b, ok b → ok' b) (h2 : ∀ b, ok b → w'.heap[b]? = w.heap[b]?)
    (h3 : ∀ k, lv k → lv' k ∧ z'.ρ k = z.ρ k ∧ z'.len k = z.len k ∧ z'.wd k = z.wd k)
    (hk : z'.ρ k = z.ρ k ∧ z'.len k = z.len k ∧ z'.wd k = z.wd k) (hb : ∀ b, z.bk k b → w'.heap[b]? = w.heap[b]?) : EnR ok' lv' w' z' k e := by
  cases e with
  | box l =>
    obtain ⟨b, cur, T, hr, hh, ho, ha, hz⟩ := h
    exact ⟨b, cur, T, hk.1.trans hr, by rw [hb b (.inl (by rw [hr]; rfl))]; exact hh, ho, AVRs.mono h1 h2 h3 _ _ ha, by rw [hk.2.2]; exact hz⟩
  | rows e ks xs =>
    obtain ⟨ho, hl, hw⟩ := h
    exact ⟨by rw [hk.1]; exact heap_of_own ho (fun b h => hb b (.inl h)), hk.2.1.trans hl, hk.2.2.trans hw⟩
  | arr ks xs =>
    obtain ⟨b, cur, T, hr, hh, hc, hl, hw⟩ := h
    exact ⟨b, cur, T, hk.1.trans hr, by rw [hb b (.inl (by rw [hr]; rfl))]; exact hh, hc, hk.2.1.trans hl, hk.2.2.trans hw⟩
  | vnest e ks xss =>
    obtain ⟨vs, ho, hl, hw, hv⟩ := h
    refine ⟨vs, by rw [hk.1]; exact heap_of_own ho (fun b h => hb b (.inl h)), hk.2.1.trans hl, hk.2.2.trans hw, fun i hi => ?_⟩
    obtain ⟨u, q1, q2⟩ := hv i hi
    exact ⟨u, q1, q2.mono h1 h2⟩
  | nest e f ks xss => exact h.nest_still hk hb

theorem EnR.nodup {ok lv : Nat → Prop} {w : World} {z : Cz} {k : Nat} {e : Entry} (h : EnR ok lv w z k e) : (z.bs k).Nodup := by
  have one : (z.wd k).2 = [] → (z.bs k).Nodup := fun q => by rw [Cz.bs_nil q]; cases blk (z.ρ k) <;> simp
  cases e with
  | box l => obtain ⟨_, _, _, _, _, _, _, q⟩ := h; exact one q
  | rows e ks xs => exact one (by rw [h.2.2])
  | arr ks xs => obtain ⟨_, _, _, _, _, _, _, q⟩ := h; exact one (by rw [q])
  | vnest e ks xss => obtain ⟨_, _, _, q, _⟩ := h; exact one (by rw [q])
  | nest e f ks xss => obtain ⟨_, _, _, _, _, q⟩ := h; exact q

section
variable {X : Fx} {tm : List (Nat × AV)} {hp : List (Option Entry)} {z : Cz} {a : Act} {w : World}

theorem getD_put (a : Act) (d : Nat) (v : Value) (t : Nat) (hd : d < a.tmps.size) : (a.put (some d) v).tmps.getD t undef = if d = t then v else a.tmps.getD t undef := by
  simp only [Act.put, Array.getD_eq_getD_getElem?]
  rw [Array.getElem?_setIfInBounds]
  by_cases h : d = t
  · subst h; simp [hd]
  · simp [h]

theorem Rel.put (h : Rel X tm hp z a w) (dst : Option Nat) (hd : ∀ d, dst = some d → d < a.tmps.size) {v : AV} {u : Value}
    (hv : AVR (okB X hp z w) (live hp) w z v u) : Rel X (putT tm dst v) hp z (a.put dst u) w := by
  cases dst with
  | none => exact { h with df := h.df }
  | some d =>
    refine { h with tms := fun t => ?_, df := h.df }
    rw [getD_put a d u t (hd d rfl)]
    simp only [putT, lookT_cons]
    by_cases e : d = t
    · simp only [e, if_true]; exact hv
    · simp only [e, if_false]; exact h.tms t

/-- The memory changes at no block that can be read and at no block of an entry. -/
theorem Rel.world (h : Rel X tm hp z a w) {w' : World} (s : Stp (fun _ => False) w w') : Rel X tm hp z a w' := by
  have hok : ∀ b, okB X hp z w b → okB X hp z w' b := fun b hb => ⟨hb.1, Nat.lt_of_lt_of_le hb.2.1 s.size, hb.2.2⟩
  have hbl : ∀ b, okB X hp z w b → w'.heap[b]? = w.heap[b]? := fun b hb => s.block b hb.2.1 (fun x => x)
  have hlv : ∀ k, live hp k → live hp k ∧ z.ρ k = z.ρ k ∧ z.len k = z.len k ∧ z.wd k = z.wd k := fun k hk => ⟨hk, rfl, rfl, rfl⟩
  exact {
    tms := fun t => AVR.mono hok hbl hlv _ _ (h.tms t)
    ens := fun k e he => (h.ens k e he).mono hok hbl hlv ⟨rfl, rfl, rfl⟩ (fun b hb => s.block b (h.own k b (live_of he) hb).1 (fun x => x))
    dj := h.dj
    own := fun k b hk hb => ⟨Nat.lt_of_lt_of_le (h.own k b hk hb).1 s.size, (h.own k b hk hb).2⟩
    io := h.io
    mm := h.mm
    fr := fun b hb hi => (s.block b (Nat.lt_of_lt_of_le hb h.size) (fun x => x)).trans (h.fr b hb hi)
    os := s.os.trans h.os
    tape := s.tape.trans h.tape
    output := s.output.trans h.output
    size := Nat.le_trans h.size s.size
    df := h.df }

/-- A new entry, its blocks new. -/
theorem Rel.pushN (h : Rel X tm hp z a w) {w' : World} (s : Stp (fun _ => False) w w') (e : Entry) (v : Value) (n : Nat) (d : Nat × List Value)
    (hv : ∀ b, (blk v = some b ∨ ∃ u ∈ d.2, blk u = some b) → w.heap.size ≤ b ∧ b < w'.heap.size)
    (he : ∀ (ok lv : Nat → Prop) (z' : Cz), (∀ b, okB X hp z w b → ok b) → (∀ k, live hp k → lv k ∧ z'.ρ k = z.ρ k ∧ z'.len k = z.len k ∧ z'.wd k = z.wd k) →
      z'.ρ (lenH hp) = v → z'.len (lenH hp) = n → z'.wd (lenH hp) = d → EnR ok lv w' z' (lenH hp) e) :
    Rel X tm (pushH hp e) (z.upd (lenH hp) v n d) a w' := by
  have hlive : ∀ k, live (pushH hp e) k ↔ k = lenH hp ∨ live hp k := by
    intro k; unfold live; rw [lookH_push]; by_cases x : k = lenH hp <;> simp [x]
  have hne : ∀ k, live hp k → k ≠ lenH hp := by
    intro k hk e'; obtain ⟨x, hx⟩ := live_get hk; have := lookH_lt hx; rw [lenH_eq] at e'; omega
  have hz : ∀ k, live hp k → (z.upd (lenH hp) v n d).ρ k = z.ρ k ∧ (z.upd (lenH hp) v n d).len k = z.len k ∧ (z.upd (lenH hp) v n d).wd k = z.wd k := by
    intro k hk; have := hne k hk; simp [Cz.upd, this]
  have hzb : ∀ k b, live hp k → ((z.upd (lenH hp) v n d).bk k b ↔ z.bk k b) := fun k b hk => Cz.bk_congr (hz k hk).1 (hz k hk).2.2
  have hok : ∀ b, okB X hp z w b → okB X (pushH hp e) (z.upd (lenH hp) v n d) w' b := by
    intro b hb
    refine ⟨hb.1, Nat.lt_of_lt_of_le hb.2.1 s.size, fun k hk => ?_⟩
    rcases (hlive k).1 hk with rfl | hk
    · intro e'
      simp only [Cz.bk, Cz.upd, if_true] at e'
      have := (hv b e').1; have := hb.2.1; omega
    · rw [hzb k b hk]; exact hb.2.2 k hk
  have hbl : ∀ b, okB X hp z w b → w'.heap[b]? = w.heap[b]? := fun b hb => s.block b hb.2.1 (fun x => x)
  have hlv : ∀ k, live hp k → live (pushH hp e) k ∧ (z.upd (lenH hp) v n d).ρ k = z.ρ k ∧ (z.upd (lenH hp) v n d).len k = z.len k ∧ (z.upd (lenH hp) v n d).wd k = z.wd k :=
    fun k hk => ⟨(hlive k).2 (.inr hk), hz k hk⟩
  have hnew : ∀ b, (blk v = some b ∨ ∃ u ∈ d.2, blk u = some b) → X.nw b := fun b hb => .inl (Nat.le_trans h.size (hv b hb).1)
  exact {
    tms := fun t => AVR.mono hok hbl hlv _ _ (h.tms t)
    ens := fun k e' he' => by
      rw [lookH_push] at he'
      by_cases x : k = lenH hp
      · subst x
        simp only [if_true, Option.some.injEq] at he'
        subst he'
        exact he _ _ _ hok hlv (by simp [Cz.upd]) (by simp [Cz.upd]) (by simp [Cz.upd])
      · simp only [x, if_false] at he'
        exact (h.ens k e' he').mono hok hbl hlv (hz k (live_of he')) (fun b hb => s.block b (h.own k b (live_of he') hb).1 (fun x => x))
    dj := fun j k b hj hk hbj hbk => by
      rcases (hlive j).1 hj with rfl | hj' <;> rcases (hlive k).1 hk with rfl | hk'
      · rfl
      · rw [hzb k b hk'] at hbk
        simp only [Cz.bk, Cz.upd, if_true] at hbj
        have := (hv b hbj).1; have := (h.own k b hk' hbk).1; omega
      · rw [hzb j b hj'] at hbj
        simp only [Cz.bk, Cz.upd, if_true] at hbk
        have := (hv b hbk).1; have := (h.own j b hj' hbj).1; omega
      · rw [hzb k b hk'] at hbk
        rw [hzb j b hj'] at hbj
        exact h.dj j k b hj' hk' hbj hbk
    own := fun k b hk hb => by
      rcases (hlive k).1 hk with rfl | hk'
      · simp only [Cz.bk, Cz.upd, if_true] at hb
        exact ⟨(hv b hb).2, fun hm => by have := h.mm; rw [lenH_eq] at hm; omega, fun _ => hnew b hb⟩
      · rw [hzb k b hk'] at hb
        exact ⟨Nat.lt_of_lt_of_le (h.own k b hk' hb).1 s.size, (h.own k b hk' hb).2⟩
    io := fun k hm hk => by
      rcases (hlive k).1 hk with rfl | hk'
      · have := h.mm; rw [lenH_eq] at hm; omega
      · rw [(hz k hk').1]; exact h.io k hm hk'
    mm := by rw [length_push]; have := h.mm; omega
    fr := fun b hb hi => (s.block b (Nat.lt_of_lt_of_le hb h.size) (fun x => x)).trans (h.fr b hb hi)
    os := s.os.trans h.os
    tape := s.tape.trans h.tape
    output := s.output.trans h.output
    size := Nat.le_trans h.size s.size
    df := h.df }

/-- A new entry, its block new (or none). -/
theorem Rel.push (h : Rel X tm hp z a w) {w' : World} (s : Stp (fun _ => False) w w') (e : Entry) (v : Value) (n d : Nat)
    (hv : ∀ b, blk v = some b → w.heap.size ≤ b ∧ b < w'.heap.size)
    (he : ∀ (ok lv : Nat → Prop) (z' : Cz), (∀ b, okB X hp z w b → ok b) → (∀ k, live hp k → lv k ∧ z'.ρ k = z.ρ k ∧ z'.len k = z.len k ∧ z'.wd k = z.wd k) →
      z'.ρ (lenH hp) = v → z'.len (lenH hp) = n → z'.wd (lenH hp) = (d, []) → EnR ok lv w' z' (lenH hp) e) :
    Rel X tm (pushH hp e) (z.upd (lenH hp) v n (d, [])) a w' :=
  h.pushN s e v n (d, []) (fun b hb => hv b (by simpa using hb)) he

/-- An entry's contents change, its value stays. -/
theorem Rel.over (h : Rel X tm hp z a w) {w' : World} (k : Nat) (e e' : Entry) (hk : lookH hp k = some e)
    (s : Stp (fun b => z.bk k b) w w')
    (he : ∀ (ok lv : Nat → Prop), (∀ b, okB X hp z w b → ok b) → (∀ j, live hp j → lv j) → EnR ok lv w' z k e') :
    Rel X tm (setH hp k (some e')) z a w' := by
  have hlt := lookH_lt hk
  have hlive : ∀ j, live (setH hp k (some e')) j ↔ live hp j := by
    intro j; unfold live; rw [lookH_set]
    by_cases x : j = k
    · subst x; simp [hlt, hk]
    · simp [x]
  have hnb : ∀ b, okB X hp z w b → ¬ z.bk k b := fun b hb e => hb.2.2 k (live_of hk) e
  have hok : ∀ b, okB X hp z w b → okB X (setH hp k (some e')) z w' b :=
    fun b hb => ⟨hb.1, Nat.lt_of_lt_of_le hb.2.1 s.size, fun j hj => hb.2.2 j ((hlive j).1 hj)⟩
  have hbl : ∀ b, okB X hp z w b → w'.heap[b]? = w.heap[b]? := fun b hb => s.block b hb.2.1 (hnb b hb)
  have hlv : ∀ j, live hp j → live (setH hp k (some e')) j ∧ z.ρ j = z.ρ j ∧ z.len j = z.len j ∧ z.wd j = z.wd j := fun j hj => ⟨(hlive j).2 hj, rfl, rfl, rfl⟩
  exact {
    tms := fun t => AVR.mono hok hbl hlv _ _ (h.tms t)
    ens := fun j e2 he2 => by
      rw [lookH_set] at he2
      by_cases x : j = k
      · subst x
        simp only [hlt, and_self, if_true, Option.some.injEq] at he2
        subst he2
        exact he _ _ hok (fun j hj => (hlive j).2 hj)
      · simp only [x, false_and, if_false] at he2
        refine (h.ens j e2 he2).mono hok hbl hlv ⟨rfl, rfl, rfl⟩ (fun b hb => s.block b (h.own j b (live_of he2) hb).1 (fun e3 => ?_))
        exact x (h.dj j k b (live_of he2) (live_of hk) hb e3)
    dj := fun i j b hi hj => h.dj i j b ((hlive i).1 hi) ((hlive j).1 hj)
    own := fun j b hj hb => ⟨Nat.lt_of_lt_of_le (h.own j b ((hlive j).1 hj) hb).1 s.size, (h.own j b ((hlive j).1 hj) hb).2⟩
    io := fun j hm hj => h.io j hm ((hlive j).1 hj)
    mm := by rw [length_set]; exact h.mm
    fr := fun b hb hi => by
      refine (s.block b (Nat.lt_of_lt_of_le hb h.size) (fun e3 => ?_)).trans (h.fr b hb hi)
      obtain ⟨_, h1, h2⟩ := h.own k b (live_of hk) e3
      rcases Nat.lt_or_ge k X.m with hm | hm
      · exact hi (h1 hm)
      · rcases h2 hm with q | q
        · omega
        · exact hi (X.gi b q)
    os := s.os.trans h.os
    tape := s.tape.trans h.tape
    output := s.output.trans h.output
    size := Nat.le_trans h.size s.size
    df := h.df }
end

end Go.Proofs.Ytkjbgdhpeidocaa.V
