/-
  A verified generator of verification conditions over the model's Code, part U: regions, loops, all of a function's code.
-/
import Derived.Test.YtkjbgdhpeidocaaVcV
import Derived.OrdersHeld
import Derived.Scope
set_option linter.unusedSimpArgs false
set_option linter.unusedVariables false
namespace Go.Proofs.Ytkjbgdhpeidocaa.V
open Go Go.RowKit

def fstsT : TrL → List Nat
  | .nil => []
  | .cons i _ r => i :: fstsT r
mutual
/-- An order of a region that draws is one of it. -/
def trOk (ops : Array Oper) : Nat → Array Bool → Tr → Bool
  | _, listed, .done => (Region.ready .any ops listed).isEmpty
  | 0, _, _ => false
  | f + 1, listed, .take i t => Region.free .any ops listed i && (Region.ready .any ops listed).contains i && trOk ops f (listed.setIfInBounds i true) t
  | f + 1, listed, .all l => !(fstsT l).isEmpty && (Region.ready .any ops listed == fstsT l) && trOks ops f listed l
def trOks (ops : Array Oper) : Nat → Array Bool → TrL → Bool
  | _, _, .nil => true
  | f, listed, .cons i t r => trOk ops f (listed.setIfInBounds i true) t && trOks ops f listed r
end

def codeOk (n : Nat) (tr : Nat → Option (Bool × Tr)) : Code → Bool
  | .region id ops d => dstsOk n ops.toList && (!d || (match tr id with
    | none => Region.lexB .any ops
    | some (_, t) => Region.noSelect ops && trOk ops ops.size (Array.replicate ops.size false) t))
  | .seq a b => codeOk n tr a && codeOk n tr b
  | .cond _ a b => codeOk n tr a && codeOk n tr b
  | .block _ a => codeOk n tr a
  | .loop a => codeOk n tr a
  | .scope a => codeOk n tr a
  | _ => true

section
variable {P : Program} {Γ : Cx} {X : Fx} {tm : List (Nat × AV)} {hp : List (Option Entry)} {z : Cz} {a : Act} {w w' : World} {n : Nat}
  {K : St → Prop} {next : Act → World → Prop} {Q : Exit → Act → World → Prop} {o : Oper} {ok lv : Nat → Prop}

theorem s_ops (hΓ : CxOk P Γ) (hct : CtOk P Γ) (hm : X.m = Γ.m) (ops : Array Oper) (hQ : ∀ σ z a w, K σ → Rel X σ.tm σ.hp z a w → a.tmps.size = n → Q .normal a w) :
    ∀ (l : List Oper) (σ : St) (z : Cz) (a : Act) (w : World), dstsOk n l = true → vcOps Γ ops.toList l σ K → Rel X σ.tm σ.hp z a w → a.tmps.size = n → wpList P ops Q l a w
  | [], σ, z, a, w, _, hs, h, hn => by simp only [vcOps] at hs; exact hQ σ z a w hs h hn
  | o :: r, ⟨tm, hp⟩, z, a, w, hok, hs, h, hn => by
    simp only [dstsOk, Bool.and_eq_true] at hok
    obtain ⟨hd0, hok⟩ := hok
    have hd : ∀ d, o.dst = some d → d < n := fun d e => by rw [e] at hd0; simpa using hd0
    have hnext : Nxt X n (fun σ' => vcOps Γ ops.toList r σ' K) (wpList P ops Q r) := fun σ z a w hk hR hn => s_ops hΓ hct hm ops hQ r σ z a w hok hk hR hn
    simp only [vcOps] at hs
    simp only [wpList]
    split at hs
    · rename_i hg
      rw [if_pos (by simp [Region.wanted, hg])]
      exact .inl (s_op hΓ hct hm h hs hd hn hnext)
    · rename_i j want hg
      split at hs
      case h_2 => exact hs.elim
      rename_i t hj
      split at hs
      case h_3 => exact hs.elim
      case h_2 hb =>
        have hy := yielded_none h hj hb
        rw [if_neg (by simp [Region.wanted, hg, hy])]
        rw [putC_eq] at hs
        exact s_ops hΓ hct hm ops hQ r _ z _ w hok hs (h.put o.dst (fun d e => by rw [hn]; exact hd d e) (by simp [AVR, AVRs, undef])) (by rw [size_put]; exact hn)
      rename_i b hb
      have hy := yielded_of h hj hb
      have hw : Region.wanted o (yielded ops a.tmps) = (b == want) := by simp [Region.wanted, hg, hy]
      rw [hw]
      have skip : ∀ b', lookT tm t = .bool b' → putC ((t, .bool b') :: tm) hp o.dst (.tup []) (fun σ' => vcOps Γ ops.toList r σ' K) → wpList P ops Q r (a.put o.dst undef) w := by
        intro b' hb' hp'
        rw [putC_eq] at hp'
        refine s_ops hΓ hct hm ops hQ r _ z _ w hok hp' ?_ (by rw [size_put]; exact hn)
        exact (h.lit hb').put o.dst (fun d e => by rw [hn]; exact hd d e) (by simp [AVR, AVRs, undef])
      cases want with
      | true =>
        obtain ⟨h1, h2⟩ := hs
        cases b with
        | true => rw [if_pos (by simp)]; exact .inl (s_op hΓ hct hm (h.lit hb) (h1 rfl) hd hn hnext)
        | false => rw [if_neg (by simp)]; exact skip false hb (h2 rfl)
      | false =>
        obtain ⟨h1, h2⟩ := hs
        cases b with
        | false => rw [if_pos (by simp)]; exact .inl (s_op hΓ hct hm (h.lit hb) (h1 rfl) hd hn hnext)
        | true => rw [if_neg (by simp)]; exact skip true hb (h2 rfl)

open Classical in
noncomputable def zLe (z : Cz) (h g : List (Option Entry)) : Cz :=
  { ρ := fun k => if live h k then z.ρ k else .slice none 0 0, len := fun k => if live h k then z.len k else 0,
    wd := fun k => if live h k then z.wd k else (match lookH g k with | some (.rows _ ks _) => (lenK ks, []) | some (.vnest _ _ _) => (1, []) | some (.nest _ _ _ _) => (1, []) | _ => (0, [])) }

theorem zLe_live {h g : List (Option Entry)} {k : Nat} (hk : live h k) : (zLe z h g).ρ k = z.ρ k ∧ (zLe z h g).len k = z.len k ∧ (zLe z h g).wd k = z.wd k := by simp [zLe, hk]
theorem zLe_dead {h g : List (Option Entry)} {k : Nat} (hk : ¬ live h k) : (zLe z h g).ρ k = .slice none 0 0 ∧ (zLe z h g).len k = 0 := by simp [zLe, hk]

theorem zLe_bk {h g : List (Option Entry)} {k b : Nat} (hk : live h k) : (zLe z h g).bk k b ↔ z.bk k b := Cz.bk_congr (zLe_live hk).1 (zLe_live hk).2.2
theorem zLe_nbk {h g : List (Option Entry)} {k b : Nat} (hk : ¬ live h k) : ¬ (zLe z h g).bk k b := by
  have h1 : (zLe z h g).ρ k = .slice none 0 0 := (zLe_dead hk).1
  have h2 : ((zLe z h g).wd k).2 = [] := by simp only [zLe, hk, if_false]; split <;> rfl
  simp [Cz.bk, h1, h2, blk]

theorem av_le (hR : Rel X tm hp z a w) (hm : X.m = Γ.m) {g : List (Option Entry)} (hdead : ∀ k, live g k → ¬ live hp k → True) {v b : AV} {u : Value} (hv : AVR (okB X hp z w) (live hp) w z v u) (hle : avLe Γ.m hp g v b) :
    AVR (okB X g (zLe z hp g) w) (live g) w (zLe z hp g) b u := by
  have hokB : ∀ b, okB X hp z w b → okB X g (zLe z hp g) w b := by
    intro b hb
    refine ⟨hb.1, hb.2.1, fun k hk => ?_⟩
    by_cases hl : live hp k
    · rw [zLe_bk hl]; exact hb.2.2 k hl
    · exact zLe_nbk hl
  cases b <;> simp only [avLe] at hle <;> (try (exact hle.elim))
  case top => simp [AVR]
  case int k m => cases v <;> simp at hle; obtain ⟨rfl, rfl⟩ := hle; simpa [AVR] using hv
  case bool x => cases v <;> simp at hle; subst hle; simpa [AVR] using hv
  case str x => cases v <;> simp at hle; subst hle; simpa [AVR] using hv
  case nil ks => cases v <;> simp at hle; simpa [AVR] using hv
  case view ks xs =>
    cases v <;> simp at hle
    case view js ys => obtain ⟨rfl, rfl⟩ := hle; simp only [AVR] at hv ⊢; exact hv.mono hokB (fun _ _ => rfl)
    case nil js => obtain ⟨rfl, rfl⟩ := hle; simp only [AVR] at hv ⊢; exact ⟨none, 0, by simp [hv], by simp, .inl rfl⟩
    case own k =>
      split at hle
      · rename_i e js ys hl
        obtain ⟨hdd, hmk, rfl, rfl⟩ := hle
        simp only [AVR] at hv ⊢
        obtain ⟨hlv, rfl⟩ := hv
        obtain ⟨ho, _⟩ := hR.ens k _ hl
        refine own_view (m := 0) ho (fun b hb => ?_) rfl
        have hb : z.bk k b := .inl hb
        obtain ⟨o1, _, o3⟩ := hR.own k b hlv hb
        refine ⟨.inr (o3 (by rw [hm]; exact hmk)), o1, fun j hj e => ?_⟩
        by_cases hlj : live hp j
        · rw [zLe_bk hlj] at e
          have := hR.dj j k b hlj hlv e hb
          subst this
          unfold live at hj
          rw [hdd] at hj
          simp at hj
        · exact zLe_nbk hlj e
      · exact hle.elim
  case vv ks xss =>
    cases v <;> simp at hle
    case vv js yss => obtain ⟨rfl, rfl⟩ := hle; simp only [AVR] at hv ⊢; exact hv.mono hokB (fun _ _ => rfl)
    case nil js => subst hle; simp only [AVR] at hv ⊢; exact ⟨none, 0, by simp [hv], by simp, .inl rfl⟩
  case vvc ks xss i =>
    cases v <;> simp at hle
    case vvc js yss j => obtain ⟨rfl, rfl, rfl⟩ := hle; simp only [AVR] at hv ⊢; exact hv.mono hokB (fun _ _ => rfl)
  case own k =>
    cases v <;> simp at hle
    case own j =>
      obtain ⟨rfl, h1, h2⟩ := hle
      simp only [AVR] at hv ⊢
      exact ⟨h1, by rw [(zLe_live hv.1).1]; exact hv.2⟩
    case nil ks =>
      obtain ⟨h1, h2, h3⟩ := hle
      simp only [AVR] at hv ⊢
      refine ⟨h3, ?_⟩
      rw [(zLe_dead (by unfold live; rw [h1]; simp)).1]; exact hv
  case box k c =>
    cases v <;> simp at hle
    obtain ⟨rfl, rfl, h1, h2⟩ := hle
    simp only [AVR] at hv ⊢
    exact ⟨h1, by rw [(zLe_live hv.1).1]; exact hv.2⟩
  case cel k i c =>
    cases v <;> simp at hle
    obtain ⟨rfl, rfl, rfl, h1, h2⟩ := hle
    simp only [AVR] at hv ⊢
    obtain ⟨q1, q2, q3⟩ := zLe_live (z := z) (g := g) hv.1
    exact ⟨h1, by rw [q2]; exact hv.2.1, by rw [q1, q3]; exact hv.2.2⟩
  case arr ks xs => cases v <;> simp at hle; obtain ⟨rfl, rfl⟩ := hle; simpa [AVR] using hv
  case vcel ks xs i c =>
    cases v <;> simp at hle
    obtain ⟨rfl, rfl, rfl, rfl⟩ := hle
    simp only [AVR] at hv ⊢
    obtain ⟨q1, b, o, q2, q3⟩ := hv
    exact ⟨q1, b, o, hokB b q2, q3⟩
theorem avs_le (hR : Rel X tm hp z a w) (hm : X.m = Γ.m) {g : List (Option Entry)} : ∀ {l s : List AV} {us : List Value}, AVRs (okB X hp z w) (live hp) w z l us → avsLe Γ.m hp g l s →
    AVRs (okB X g (zLe z hp g) w) (live g) w (zLe z hp g) s us
  | [], [], us, hv, _ => by simpa only [AVRs] using hv
  | v :: l, b :: s, us, hv, hle => by
    simp only [avsLe] at hle
    simp only [AVRs] at hv ⊢
    obtain ⟨u, us', rfl, h1, h2⟩ := hv
    exact ⟨u, us', rfl, av_le hR hm (fun _ _ _ => trivial) h1 hle.1, avs_le hR hm h2 hle.2⟩
  | [], _ :: _, _, _, hle => by simp [avsLe] at hle
  | _ :: _, [], _, _, hle => by simp [avsLe] at hle

theorem tm_le (hR : Rel X tm hp z a w) (hm : X.m = Γ.m) {g : List (Option Entry)} : ∀ {um : List (Nat × AV)}, tmLe Γ.m hp g tm um → ∀ t, AVR (okB X g (zLe z hp g) w) (live g) w (zLe z hp g) (lookT um t) (a.tmps.getD t undef)
  | [], _, t => by simp [lookT, AVR]
  | (s, v) :: r, hle, t => by
    simp only [tmLe] at hle
    obtain ⟨h1, h2⟩ := hle
    simp only [lookT_cons]
    by_cases e : s = t
    · subst e
      simp only [if_true]
      have hv := hR.tms s
      cases v with
      | agg m =>
        simp only at h1
        split at h1
        · rename_i l he
          rw [he] at hv
          simp only [AVR] at hv ⊢
          obtain ⟨vs, q1, q2, q3⟩ := hv
          exact ⟨vs, q1, q2, avs_le hR hm q3 h1⟩
        · exact h1.elim
      | fn f m =>
        simp only at h1
        split at h1
        · rename_i e l he
          obtain ⟨rfl, h1⟩ := h1
          rw [he] at hv
          simp only [AVR] at hv ⊢
          obtain ⟨vs, q1, q3⟩ := hv
          exact ⟨vs, q1, avs_le hR hm q3 h1⟩
        · exact h1.elim
      | _ => exact av_le hR hm (fun _ _ _ => trivial) hv h1
    · simp only [e, if_false]; exact tm_le hR hm h2 t

theorem hp_le {m : Nat} {h g : List (Option Entry)} : ∀ {l s : List (Option Entry)} {i : Nat}, hpLe m h g i l s → ∀ k b, lookH s k = some b → enLe m h g (i + k) (lookH l k) (some b)
  | l, [], i, _, k, b, hb => by cases k <;> simp [lookH] at hb
  | [], x :: s, i, hle, 0, b, hb => by simp only [hpLe] at hle; simp only [lookH] at hb ⊢; subst hb; exact hle.1
  | [], x :: s, i, hle, k + 1, b, hb => by
    simp only [hpLe] at hle
    simp only [lookH] at hb
    have := hp_le hle.2 k b hb
    have e : i + 1 + k = i + (k + 1) := by omega
    rw [e] at this
    simpa [lookH] using this
  | y :: l, x :: s, i, hle, 0, b, hb => by simp only [hpLe] at hle; simp only [lookH] at hb ⊢; subst hb; exact hle.1
  | y :: l, x :: s, i, hle, k + 1, b, hb => by
    simp only [hpLe] at hle
    simp only [lookH] at hb
    have := hp_le hle.2 k b hb
    have e : i + 1 + k = i + (k + 1) := by omega
    rw [e] at this
    simpa [lookH] using this

theorem st_le (hR : Rel X tm hp z a w) (hm : X.m = Γ.m) {um : List (Nat × AV)} {g : List (Option Entry)} (hle : stLe Γ.m ⟨tm, hp⟩ ⟨um, g⟩) : Rel X um g (zLe z hp g) a w := by
  simp only [stLe] at hle
  obtain ⟨⟨hlen, htm⟩, hhp⟩ := hle
  have hokB : ∀ b, okB X hp z w b → okB X g (zLe z hp g) w b := by
    intro b hb
    refine ⟨hb.1, hb.2.1, fun k hk => ?_⟩
    by_cases hl : live hp k
    · rw [zLe_bk hl]; exact hb.2.2 k hl
    · exact zLe_nbk hl
  have hblk : ∀ k b, (zLe z hp g).bk k b → live hp k ∧ z.bk k b := by
    intro k b hb
    by_cases hl : live hp k
    · rw [zLe_bk hl] at hb; exact ⟨hl, hb⟩
    · exact absurd hb (zLe_nbk hl)
  exact {
    tms := tm_le hR hm htm
    ens := fun k b hb => by
      have h1 := hp_le hhp k b hb
      rw [Nat.zero_add] at h1
      cases b with
      | box s =>
        simp only [enLe] at h1
        split at h1
        · rename_i l he
          obtain ⟨b, cur, T, q1, q2, q3, q4, q5⟩ := hR.ens k _ he
          exact ⟨b, cur, T, by rw [(zLe_live (live_of he)).1]; exact q1, q2, q3, avs_le hR hm q4 h1, by rw [(zLe_live (live_of he)).2.2]; exact q5⟩
        · exact h1.elim
      | rows e ks xs =>
        simp only [enLe] at h1
        split at h1
        · rename_i f js ys he
          obtain ⟨rfl, rfl, rfl⟩ := h1
          obtain ⟨q1, q2, q3⟩ := hR.ens k _ he
          obtain ⟨z1, z2, z3⟩ := zLe_live (z := z) (g := g) (live_of he)
          exact ⟨by rw [z1]; exact q1, by rw [z2]; exact q2, by rw [z3]; exact q3⟩
        · rename_i he
          obtain ⟨_, rfl⟩ := h1
          have hd : ¬ live hp k := live_none.2 he
          obtain ⟨z1, z2⟩ := zLe_dead (z := z) (g := g) hd
          exact ⟨by rw [z1]; exact World.ownsRow_nil w 0 e (lenK ks), by rw [z2]; rfl, by simp [zLe, hd, hb]⟩
        · exact h1.elim
      | vnest e ks xss =>
        simp only [enLe] at h1
        split at h1
        · rename_i f js yss he
          obtain ⟨rfl, rfl, rfl⟩ := h1
          obtain ⟨vs, q1, q2, q3, q4⟩ := hR.ens k _ he
          obtain ⟨z1, z2, z3⟩ := zLe_live (z := z) (g := g) (live_of he)
          refine ⟨vs, by rw [z1]; exact q1, by rw [z2]; exact q2, by rw [z3]; exact q3, fun i hi => ?_⟩
          obtain ⟨u, q5, q6⟩ := q4 i hi
          exact ⟨u, q5, q6.mono hokB (fun _ _ => rfl)⟩
        · rename_i he
          obtain ⟨_, rfl⟩ := h1
          have hd : ¬ live hp k := live_none.2 he
          obtain ⟨z1, z2⟩ := zLe_dead (z := z) (g := g) hd
          exact ⟨[], by rw [z1]; exact World.ownsRow_nil w 0 e 1, by rw [z2]; rfl, by simp [zLe, hd, hb], fun i hi => by simp at hi⟩
        · exact h1.elim
      | nest e f ks xss =>
        simp only [enLe] at h1
        split at h1
        · rename_i e' f' js yss he
          obtain ⟨rfl, rfl, rfl, rfl⟩ := h1
          exact (hR.ens k _ he).nest_still (zLe_live (z := z) (g := g) (live_of he)) (fun _ _ => rfl)
        · rename_i he
          obtain ⟨_, rfl⟩ := h1
          have hd : ¬ live hp k := live_none.2 he
          obtain ⟨z1, z2⟩ := zLe_dead (z := z) (g := g) hd
          have z3 : (zLe z hp g).wd k = (1, []) := by simp [zLe, hd, hb]
          exact ⟨[], by rw [z1]; exact World.ownsRow_nil w 0 e 1, by rw [z2]; rfl, z3, by simp [Inns], by rw [Cz.bs, z1, z3]; exact List.nodup_nil⟩
        · exact h1.elim
      | arr ks xs =>
        simp only [enLe] at h1
        split at h1
        · rename_i js ys he
          obtain ⟨rfl, rfl⟩ := h1
          obtain ⟨b, cur, T, q1, q2, q3, q4, q5⟩ := hR.ens k _ he
          obtain ⟨z1, z2, z3⟩ := zLe_live (z := z) (g := g) (live_of he)
          exact ⟨b, cur, T, by rw [z1]; exact q1, q2, q3, by rw [z2]; exact q4, by rw [z3]; exact q5⟩
        · exact h1.elim
    dj := fun i j b _ _ hi hj => hR.dj i j b (hblk i b hi).1 (hblk j b hj).1 (hblk i b hi).2 (hblk j b hj).2
    own := fun k b _ hb => hR.own k b (hblk k b hb).1 (hblk k b hb).2
    io := fun k hk hlk => by
      obtain ⟨b, hb⟩ := live_get hlk
      have h1 := hp_le hhp k b hb
      rw [Nat.zero_add] at h1
      have hl : live hp k := by
        cases he : lookH hp k with
        | some e => exact live_of he
        | none =>
          rw [he] at h1
          cases b <;> simp only [enLe] at h1 <;> first | exact h1.elim | (have := h1.1; rw [hm] at hk; omega)
      rw [(zLe_live hl).1]; exact hR.io k hk hl
    mm := by rw [hm, ← lenH_eq]; exact hlen
    fr := hR.fr, os := hR.os, tape := hR.tape, output := hR.output, size := hR.size, df := hR.df }

/-! Entries exchanged. -/
theorem swN_eq (i j k : Nat) : swN i j k = if k = i then j else if k = j then i else k := by
  unfold swN
  by_cases e : k = i
  · subst e; simp
  · have : Nat.beq k i = false := by rw [← Bool.not_eq_true, Nat.beq_eq]; exact e
    rw [this, if_neg e]
    by_cases e2 : k = j
    · subst e2; simp
    · have : Nat.beq k j = false := by rw [← Bool.not_eq_true, Nat.beq_eq]; exact e2
      rw [this, if_neg e2]
theorem swN_swN (i j k : Nat) : swN i j (swN i j k) = k := by
  rw [swN_eq, swN_eq]
  by_cases h1 : k = i
  · subst h1
    by_cases h2 : j = k
    · subst h2; simp
    · simp [h2]
  · by_cases h2 : k = j
    · subst h2; simp [h1]
    · simp [h1, h2]
def swZ (i j : Nat) (z : Cz) : Cz := { ρ := fun k => z.ρ (swN i j k), len := fun k => z.len (swN i j k), wd := fun k => z.wd (swN i j k) }
section
variable {lv' : Nat → Prop} {ok' : Nat → Prop}
mutual
theorem avr_sw {i j : Nat} (h1 : ∀ b, ok b → ok' b) (h2 : ∀ k, lv k → lv' (swN i j k)) : ∀ (v : AV) (u : Value), AVR ok lv w z v u → AVR ok' lv' w (swZ i j z) (v.sw i j) u
  | .top, _, _ => by simp [AVR, AV.sw]
  | .int _ _, _, h => by simpa [AVR, AV.sw] using h
  | .bool _, _, h => by simpa [AVR, AV.sw] using h
  | .str _, _, h => by simpa [AVR, AV.sw] using h
  | .nil _, _, h => by simpa [AVR, AV.sw] using h
  | .view _ _, _, h => by simp only [AVR, AV.sw] at h ⊢; exact h.mono h1 (fun _ _ => rfl)
  | .own k, _, h => by
    simp only [AVR, AV.sw] at h ⊢
    exact ⟨h2 k h.1, by simp only [swZ]; rw [swN_swN]; exact h.2⟩
  | .box k c, _, h => by
    simp only [AVR, AV.sw] at h ⊢
    exact ⟨h2 k h.1, by simp only [swZ]; rw [swN_swN]; exact h.2⟩
  | .cel k r c, _, h => by
    simp only [AVR, AV.sw] at h ⊢
    exact ⟨h2 k h.1, by simp only [swZ]; rw [swN_swN]; exact h.2⟩
  | .vcel ks xs r c, _, h => by
    simp only [AVR, AV.sw] at h ⊢
    obtain ⟨hi, b, o, hb, hv, h⟩ := h
    exact ⟨hi, b, o, h1 b hb, hv, h⟩
  | .vv _ _, _, h => by simp only [AVR, AV.sw] at h ⊢; exact h.mono h1 (fun _ _ => rfl)
  | .vvc _ _ _, _, h => by simp only [AVR, AV.sw] at h ⊢; exact h.mono h1 (fun _ _ => rfl)
  | .agg l, _, h => by
    simp only [AVR, AV.sw] at h ⊢
    obtain ⟨vs, hv, ho, h⟩ := h
    exact ⟨vs, hv, ho, avrs_sw h1 h2 l vs h⟩
  | .arr _ _, _, h => by simpa [AVR, AV.sw] using h
  | .tup l, _, h => by
    simp only [AVR, AV.sw] at h ⊢
    obtain ⟨vs, hv, h⟩ := h
    exact ⟨vs, hv, avrs_sw h1 h2 l vs h⟩
  | .fn f l, _, h => by
    simp only [AVR, AV.sw] at h ⊢
    obtain ⟨vs, hv, h⟩ := h
    exact ⟨vs, hv, avrs_sw h1 h2 l vs h⟩
  | .fr _ _ _, _, h => by simp [AVR] at h
  | .bx _, _, h => by simp [AVR] at h
  | .pa _ _, _, h => by simp [AVR] at h
  | .frn _ _ _ _, _, h => by simp [AVR] at h
theorem avrs_sw {i j : Nat} (h1 : ∀ b, ok b → ok' b) (h2 : ∀ k, lv k → lv' (swN i j k)) : ∀ (l : List AV) (us : List Value), AVRs ok lv w z l us → AVRs ok' lv' w (swZ i j z) (AV.sw.swL i j l) us
  | [], _, h => by simpa [AVRs, AV.sw.swL] using h
  | v :: l, us, h => by
    simp only [AVRs, AV.sw.swL] at h ⊢
    obtain ⟨u, us', hv, ha, hl⟩ := h
    exact ⟨u, us', hv, avr_sw h1 h2 v u ha, avrs_sw h1 h2 l us' hl⟩
end
end
theorem lookT_sw (i j : Nat) : ∀ (tm : List (Nat × AV)) (t : Nat), lookT (swT i j tm) t = (lookT tm t).sw i j
  | [], t => by simp [lookT, swT, AV.sw]
  | (s, v) :: r, t => by
    simp only [lookT_cons, swT]
    by_cases e : s = t
    · simp [e]
    · simp [e, lookT_sw i j r t]
theorem lookH_sws (i j : Nat) : ∀ (hp : List (Option Entry)) (k : Nat), lookH (swHs i j hp) k = swE i j (lookH hp k)
  | [], k => by cases k <;> simp [lookH, swHs, swE]
  | e :: r, 0 => by simp [lookH, swHs]
  | e :: r, k + 1 => by simp [lookH, swHs, lookH_sws i j r k]
theorem swHs_len (i j : Nat) : ∀ (hp : List (Option Entry)), (swHs i j hp).length = hp.length
  | [] => rfl
  | e :: r => by simp [swHs, swHs_len i j r]
theorem setH_len' : ∀ (hp : List (Option Entry)) (k : Nat) (x : Option Entry), (setH hp k x).length = hp.length
  | [], _, _ => rfl
  | _ :: r, 0, x => rfl
  | e :: r, k + 1, x => by simp [setH, setH_len' r k x]
theorem lookH_setH' : ∀ (hp : List (Option Entry)) (k l : Nat) (x : Option Entry), k < hp.length → lookH (setH hp k x) l = if l = k then x else lookH hp l
  | [], k, _, _, h => by simp at h
  | e :: r, 0, 0, x, _ => by simp [setH, lookH]
  | e :: r, 0, l + 1, x, _ => by simp [setH, lookH]
  | e :: r, k + 1, 0, x, _ => by simp [setH, lookH]
  | e :: r, k + 1, l + 1, x, h => by
    have := lookH_setH' r k l x (by simpa using h)
    simp [setH, lookH, this]
theorem lookH_sw {i j : Nat} (hi : i < hp.length) (hj : j < hp.length) (k : Nat) : lookH (swH i j hp) k = swE i j (lookH hp (swN i j k)) := by
  unfold swH
  rw [lookH_setH' _ _ _ _ (by rw [setH_len', swHs_len]; exact hj), lookH_setH' _ _ _ _ (by rw [swHs_len]; exact hi), lookH_sws, lookH_sws, lookH_sws, swN_eq]
  by_cases e1 : k = j
  · subst e1
    rw [if_pos rfl]
    by_cases e2 : k = i
    · subst e2; simp
    · rw [if_neg e2, if_pos rfl]
  · rw [if_neg e1]
    by_cases e2 : k = i
    · subst e2; simp
    · rw [if_neg e2, if_neg e2, if_neg e1]
theorem rel_sw {i j : Nat} (hi : i < hp.length) (hj : j < hp.length) (mi : X.m ≤ i) (mj : X.m ≤ j) (hR : Rel X tm hp z a w) : Rel X (swT i j tm) (swH i j hp) (swZ i j z) a w := by
  have hlv : ∀ k, live (swH i j hp) k ↔ live hp (swN i j k) := by
    intro k
    unfold live
    rw [lookH_sw hi hj]
    cases lookH hp (swN i j k) with
    | none => simp [swE]
    | some e => cases e <;> simp [swE]
  have hlv2 : ∀ k, live hp k → live (swH i j hp) (swN i j k) := fun k hk => by rw [hlv, swN_swN]; exact hk
  have hok : ∀ b, okB X hp z w b → okB X (swH i j hp) (swZ i j z) w b := fun b hb => ⟨hb.1, hb.2.1, fun k hk => hb.2.2 _ ((hlv k).1 hk)⟩
  have hlow : ∀ k, k < X.m → swN i j k = k := fun k hk => by rw [swN_eq, if_neg (by omega), if_neg (by omega)]
  have hhigh : ∀ k, X.m ≤ k → X.m ≤ swN i j k := fun k hk => by rw [swN_eq]; split <;> (try split) <;> omega
  exact {
    tms := fun t => by rw [lookT_sw]; exact avr_sw hok hlv2 _ _ (hR.tms t)
    ens := fun k e he => by
      rw [lookH_sw hi hj] at he
      cases he0 : lookH hp (swN i j k) with
      | none => rw [he0] at he; simp [swE] at he
      | some e0 =>
        rw [he0] at he
        have h0 := hR.ens _ _ he0
        cases e0 with
        | box l =>
          simp only [swE, Option.some.injEq] at he
          subst he
          obtain ⟨b, cur, T, q1, q2, q3, q4, q5⟩ := h0
          exact ⟨b, cur, T, q1, q2, q3, avrs_sw hok hlv2 _ _ q4, q5⟩
        | rows e ks xs => simp only [swE, Option.some.injEq] at he; subst he; exact h0
        | arr ks xs => simp only [swE, Option.some.injEq] at he; subst he; exact h0
        | nest e f ks xss => simp only [swE, Option.some.injEq] at he; subst he; exact h0
        | vnest e ks xss =>
          simp only [swE, Option.some.injEq] at he; subst he
          obtain ⟨vs, q1, q2, q3, q4⟩ := h0
          refine ⟨vs, q1, q2, q3, fun i hi => ?_⟩
          obtain ⟨u, q5, q6⟩ := q4 i hi
          exact ⟨u, q5, q6.mono hok (fun _ _ => rfl)⟩
    dj := fun k l b hk hl h1 h2 => by
      have := hR.dj _ _ b ((hlv k).1 hk) ((hlv l).1 hl) h1 h2
      have e := congrArg (swN i j) this
      rwa [swN_swN, swN_swN] at e
    own := fun k b hk hb => by
      obtain ⟨o1, o2, o3⟩ := hR.own _ b ((hlv k).1 hk) hb
      exact ⟨o1, fun h => o2 (by rw [hlow k h]; exact h), fun h => o3 (hhigh k h)⟩
    io := fun k hk hl => by
      have h1 := (hlv k).1 hl
      show z.ρ (swN i j k) = _
      rw [hlow k hk] at h1 ⊢
      exact hR.io k hk h1
    mm := by unfold swH; rw [setH_len', setH_len', swHs_len]; exact hR.mm
    fr := hR.fr, os := hR.os, tape := hR.tape, output := hR.output, size := hR.size, df := hR.df }
section
variable {m : Nat}
variable {KK : List (Nat × AV) → List (Option Entry) → Prop}
theorem try_sw (hm : X.m ≤ m) (i j : Nat) (hR : Rel X tm hp z a w) (h : trySwK m i j tm hp KK) : ∃ tm' hp' z', Rel X tm' hp' z' a w ∧ KK tm' hp' := by
  simp only [trySwK] at h
  split at h
  · rename_i hc
    simp only [Bool.and_eq_true, Nat.blt_eq, lenH_eq] at hc
    obtain ⟨h1, h2, h3, h4⟩ := hc
    have h1 := Nat.le_of_ble_eq_true h1
    have h2 := Nat.le_of_ble_eq_true h2
    simp only [forceT_eq, forceH_eq] at h
    exact ⟨_, _, _, rel_sw h3 h4 (Nat.le_trans hm h1) (Nat.le_trans hm h2) hR, h⟩
  · exact ⟨_, _, z, hR, h⟩
theorem line_v (hm : X.m ≤ m) (b v : AV) (hR : Rel X tm hp z a w) (h : lineVK m b v tm hp KK) : ∃ tm' hp' z', Rel X tm' hp' z' a w ∧ KK tm' hp' := by
  unfold lineVK at h
  split at h
  · split at h
    · exact ⟨_, _, z, hR, h⟩
    · exact try_sw hm _ _ hR h
  · split at h
    · exact ⟨_, _, z, hR, h⟩
    · exact try_sw hm _ _ hR h
  · exact ⟨_, _, z, hR, h⟩
theorem line_t (hm : X.m ≤ m) : ∀ (um tm : List (Nat × AV)) (hp : List (Option Entry)) (z : Cz), Rel X tm hp z a w → lineTK m um tm hp KK → ∃ tm' hp' z', Rel X tm' hp' z' a w ∧ KK tm' hp'
  | [], _, _, z, hR, h => ⟨_, _, z, hR, h⟩
  | (t, v) :: r, tm, hp, z, hR, h => by
    simp only [lineTK] at h
    obtain ⟨tm1, hp1, z1, h1, h2⟩ := line_v hm v (lookT tm t) hR h
    exact line_t hm r _ _ z1 h1 h2
theorem line_b (hm : X.m ≤ m) (i : Nat) : ∀ (l : List AV) (c : Nat) (tm : List (Nat × AV)) (hp : List (Option Entry)) (z : Cz), Rel X tm hp z a w → lineBK m i l c tm hp KK → ∃ tm' hp' z', Rel X tm' hp' z' a w ∧ KK tm' hp'
  | [], _, _, _, z, hR, h => ⟨_, _, z, hR, h⟩
  | v :: r, c, tm, hp, z, hR, h => by
    simp only [lineBK] at h
    split at h
    · rename_i l hl
      obtain ⟨tm1, hp1, z1, h1, h2⟩ := line_v hm v (getA l c) hR h
      exact line_b hm i r _ _ _ z1 h1 h2
    · exact ⟨_, _, z, hR, h⟩
theorem line_h (hm : X.m ≤ m) : ∀ (i : Nat) (g : List (Option Entry)) (tm : List (Nat × AV)) (hp : List (Option Entry)) (z : Cz), Rel X tm hp z a w → lineHK m i g tm hp KK → ∃ tm' hp' z', Rel X tm' hp' z' a w ∧ KK tm' hp'
  | _, [], _, _, z, hR, h => ⟨_, _, z, hR, h⟩
  | i, some (.box n) :: r, tm, hp, z, hR, h => by
    simp only [lineHK] at h
    obtain ⟨tm1, hp1, z1, h1, h2⟩ := line_b hm i n 0 tm hp z hR h
    exact line_h hm (i + 1) r _ _ z1 h1 h2
  | i, some (.rows _ _ _) :: r, tm, hp, z, hR, h => by simp only [lineHK] at h; exact line_h hm (i + 1) r _ _ z hR h
  | i, some (.arr _ _) :: r, tm, hp, z, hR, h => by simp only [lineHK] at h; exact line_h hm (i + 1) r _ _ z hR h
  | i, some (.vnest _ _ _) :: r, tm, hp, z, hR, h => by simp only [lineHK] at h; exact line_h hm (i + 1) r _ _ z hR h
  | i, some (.nest _ _ _ _) :: r, tm, hp, z, hR, h => by simp only [lineHK] at h; exact line_h hm (i + 1) r _ _ z hR h
  | i, none :: r, tm, hp, z, hR, h => by simp only [lineHK] at h; exact line_h hm (i + 1) r _ _ z hR h
end

section
variable {m : Nat}
theorem lookT_pick (tm : List (Nat × AV)) : ∀ (um : List (Nat × AV)) (t : Nat), lookT (pickT tm um) t = lookT tm t ∨ lookT (pickT tm um) t = .top
  | [], t => .inr rfl
  | (s, v) :: r, t => by
    simp only [pickT, lookT_cons]
    by_cases e : s = t
    · subst e; rw [if_pos rfl]; exact .inl rfl
    · rw [if_neg e]; exact lookT_pick tm r t
theorem rel_pick (um : List (Nat × AV)) (hR : Rel X tm hp z a w) : Rel X (pickT tm um) hp z a w := by
  refine { hR with tms := fun t => ?_ }
  rcases lookT_pick tm um t with h | h
  · rw [h]; exact hR.tms t
  · rw [h]; simp [AVR]
theorem line_dn (hm : X.m ≤ m) (sw : Bool) (τ σ : St) (K : St → Prop) (z : Cz) (hR : Rel X σ.tm σ.hp z a w) (h : lined sw m τ σ K) : ∃ σ' z', Rel X σ'.tm σ'.hp z' a w ∧ K σ' := by
  cases sw with
  | false => exact ⟨σ, z, hR, h⟩
  | true =>
    obtain ⟨um, g⟩ := τ
    simp only [lined, forceT_eq, forceH_eq] at h
    obtain ⟨tm1, hp1, z1, h1, h2⟩ := line_t hm um _ _ z (rel_pick um hR) h
    obtain ⟨tm2, hp2, z2, h3, h4⟩ := line_h hm 0 g _ _ z1 h1 h2
    exact ⟨⟨tm2, hp2⟩, z2, h3, h4⟩
end

/-! Regions that draw, with all their orders. -/
theorem wpAnyH_mono {ops : Array Oper} {md : Region.Mode} {S S' : World → Prop} (hS : ∀ w, S w → S' w) : ∀ (fuel : Nat) (listed : Array Bool) (a : Act) (w : World), wpAnyH P md ops Q S fuel listed a w → wpAnyH P md ops Q S' fuel listed a w
  | 0, _, _, _, h => h
  | fuel + 1, _, _, _, h => ⟨h.1, fun i hi => wpOp_mono (fun a' w' h' => ⟨hS _ h'.1, wpAnyH_mono hS fuel _ a' w' h'.2⟩) (h.2 i hi)⟩
theorem nthO_eq : ∀ (l : List Oper) (i : Nat), nthO l i = l[i]?
  | [], i => by cases i <;> rfl
  | _ :: _, 0 => rfl
  | _ :: r, i + 1 => by simp [nthO, nthO_eq r]
/-- One operation of a region that draws, with its guard: it comes up, or it is passed over. -/
theorem one_rel (ops : Array Oper) (step : List (Nat × AV) → List (Option Entry) → (St → Prop) → Prop) (σ : St) (h : Rel X σ.tm σ.hp z a w) (hn : a.tmps.size = n) (hd : ∀ d, o.dst = some d → d < n)
    (hs : vcOne Γ ops.toList o step K σ) :
    (∃ tm, Region.wanted o (yielded ops a.tmps) = true ∧ Rel X tm σ.hp z a w ∧ step tm σ.hp K) ∨
    (∃ σ', Region.wanted o (yielded ops a.tmps) = false ∧ K σ' ∧ Rel X σ'.tm σ'.hp z (a.put o.dst undef) w) := by
  obtain ⟨tm, hp⟩ := σ
  simp only [vcOne] at hs
  simp only at h
  split at hs
  · rename_i hg
    exact .inl ⟨tm, by simp [Region.wanted, hg], h, hs⟩
  · rename_i j want hg
    split at hs
    case h_2 => exact hs.elim
    rename_i t hj
    split at hs
    case h_3 => exact hs.elim
    case h_2 hb =>
      have hy := yielded_none h hj hb
      rw [putC_eq] at hs
      exact .inr ⟨_, by simp [Region.wanted, hg, hy], hs, h.put o.dst (fun d e => by rw [hn]; exact hd d e) (by simp [AVR, AVRs, undef])⟩
    rename_i b hb
    have hy := yielded_of h hj hb
    have hw : Region.wanted o (yielded ops a.tmps) = (b == want) := by simp [Region.wanted, hg, hy]
    rw [hw]
    have skip : ∀ b', lookT tm t = .bool b' → putC ((t, .bool b') :: tm) hp o.dst (.tup []) K → ∃ σ', K σ' ∧ Rel X σ'.tm σ'.hp z (a.put o.dst undef) w := by
      intro b' hb' hp'
      rw [putC_eq] at hp'
      exact ⟨_, hp', (h.lit hb').put o.dst (fun d e => by rw [hn]; exact hd d e) (by simp [AVR, AVRs, undef])⟩
    cases want with
    | true =>
      obtain ⟨h1, h2⟩ := hs
      cases b with
      | true => exact .inl ⟨_, rfl, h.lit hb, h1 rfl⟩
      | false => obtain ⟨σ', q1, q2⟩ := skip false hb (h2 rfl); exact .inr ⟨σ', rfl, q1, q2⟩
    | false =>
      obtain ⟨h1, h2⟩ := hs
      cases b with
      | false => exact .inl ⟨_, rfl, h.lit hb, h1 rfl⟩
      | true => obtain ⟨σ', q1, q2⟩ := skip true hb (h2 rfl); exact .inr ⟨σ', rfl, q1, q2⟩

theorem dsts_at {n : Nat} : ∀ {l : List Oper} {i : Nat} {o : Oper}, dstsOk n l = true → l[i]? = some o → ∀ d, o.dst = some d → d < n
  | [], i, o, _, h, _, _ => by simp at h
  | x :: r, 0, o, h, hi, d, hd => by
    simp at hi
    subst hi
    simp only [dstsOk, Bool.and_eq_true] at h
    have := h.1
    rw [hd] at this
    simpa using this
  | x :: r, i + 1, o, h, hi, d, hd => by
    simp only [dstsOk, Bool.and_eq_true] at h
    exact dsts_at h.2 (by simpa using hi) d hd
theorem isPure_reads {op : Op} (h : isPure op = true ∨ isLoad op = true) : readsOnly op = true := by
  cases op <;> simp [isPure, isLoad] at h <;> rfl
theorem isPure_call {op : Op} (h : isPure op = true ∨ isLoad op = true) : ∀ c, op = .call c → c.callee = .builtin .len := by
  intro c hc
  subst hc
  simp only [isPure, isLoad, Bool.false_eq_true, or_false] at h
  split at h
  · assumption
  · cases h

/-- A cut of a slice that is only read answers alike in every world. -/
theorem r_cut (hΓ : CxOk P Γ) (hm : X.m = Γ.m) (h : Rel X tm hp z a w) (hc : isCut o ⟨tm, hp⟩ = true) {all : List Oper} {K : St → Prop} (hs : vcOne Γ all o (stepOp Γ o) K ⟨tm, hp⟩) :
    o.guard = none ∧ ResA P X hp z a w o fun v => K ⟨putT tm o.dst v, hp⟩ := by
  unfold isCut at hc
  simp only at hc
  split at hc
  case h_2 => cases hc
  rename_i hg
  refine ⟨hg, ?_⟩
  split at hc
  case h_2 => cases hc
  rename_i t x lo hi ho
  split at hc
  case h_2 => cases hc
  rename_i ks xs he
  simp only [vcOne, hg] at hs
  unfold stepOp at hs
  rw [ho] at hs
  simp only at hs
  split at hs
  · rename_i e esz eb js hT
    exact r_slice hΓ h hm t e esz eb js x lo hi hT hs ho (fun k => by rw [he]; intro q; cases q)
  · exact hs.elim
/-- What is known all through a region that draws. -/
structure TrH (P : Program) (Γ : Cx) (X : Fx) (n : Nat) (ops : Array Oper) (K : St → Prop) (Q : Exit → Act → World → Prop) : Prop where
  hΓ : CxOk P Γ
  hct : CtOk P Γ
  hm : X.m = Γ.m
  hsel : Region.noSelect ops = true
  hok : dstsOk n ops.toList = true
  hQ : ∀ σ z a w, K σ → Rel X σ.tm σ.hp z a w → a.tmps.size = n → Q .normal a w
  hQp : ∀ c a w, ¬ Q (.panic c) a w
mutual
theorem s_tr {ops : Array Oper} (H : TrH P Γ X n ops K Q) : ∀ (t : Tr) (fuel : Nat) (listed : Array Bool) (σ : St) (z : Cz) (a : Act) (w : World), trOk ops fuel listed t = true → vcD Γ ops.toList false K t σ → Rel X σ.tm σ.hp z a w → a.tmps.size = n →
    wpAny P .any ops Q fuel listed a w
  | .done, fuel, listed, σ, z, a, w, hk, hs, h, hn => by
    have hr : Region.ready .any ops listed = [] := by cases fuel <;> simpa [trOk] using hk
    simp only [vcD] at hs
    exact wpAny_done hr (H.hQ σ z a w hs h hn) fuel
  | .take i t, 0, listed, σ, z, a, w, hk, hs, h, hn => by simp [trOk] at hk
  | .take i t, fuel + 1, listed, σ, z, a, w, hk, hs, h, hn => by
    simp only [trOk, Bool.and_eq_true] at hk
    obtain ⟨⟨k1, k2⟩, k3⟩ := hk
    simp only [vcD, nthO_eq, Bool.false_and, Bool.or_false] at hs
    split at hs
    case h_2 => exact hs.elim
    rename_i o ho
    have ho' : ops[i]? = some o := by simpa using ho
    have hd := dsts_at H.hok ho
    split at hs
    case isFalse =>
      split at hs
      case isFalse => exact hs.elim
      rename_i hcut
      obtain ⟨tm, hp⟩ := σ
      obtain ⟨hg, u, v, h1, h2, h3⟩ := r_cut H.hΓ H.hm h hcut hs
      refine wpAny_take ho' H.hsel k1 k2 (fun c a w hq => absurd hq (H.hQp c _ w)) (v := u) (.inl ⟨by simp [Region.wanted, hg], h1⟩) ?_
      exact s_tr H t fuel _ _ z _ w k3 h3 (Rel.put h o.dst (fun d e => by rw [hn]; exact hd d e) h2) (by rw [size_put]; exact hn)
    rename_i hp'
    rcases one_rel ops (stepOp Γ o) σ h hn hd hs with ⟨tm, hw, h', hs'⟩ | ⟨σ', hw, hs', h'⟩
    · obtain ⟨u, v, h1, h2, h3⟩ := r_pure H.hΓ H.hm h' hs' (isPure_call (.inl hp')) (isPure_reads (.inl hp')) (by cases hoo : o.op <;> rw [hoo] at hp' <;> simp [isPure] at hp' <;> rfl)
      refine wpAny_take ho' H.hsel k1 k2 (fun c a w hq => absurd hq (H.hQp c _ w)) (v := u) (.inl ⟨hw, h1⟩) ?_
      exact s_tr H t fuel _ _ z _ w k3 h3 (h'.put o.dst (fun d e => by rw [hn]; exact hd d e) h2) (by rw [size_put]; exact hn)
    · refine wpAny_take ho' H.hsel k1 k2 (fun c a w hq => absurd hq (H.hQp c _ w)) (v := undef) (.inr ⟨hw, rfl⟩) ?_
      exact s_tr H t fuel _ σ' z _ w k3 hs' h' (by rw [size_put]; exact hn)
  | .all l, 0, listed, σ, z, a, w, hk, hs, h, hn => by simp [trOk] at hk
  | .all l, fuel + 1, listed, σ, z, a, w, hk, hs, h, hn => by
    simp only [trOk, Bool.and_eq_true, beq_iff_eq] at hk
    obtain ⟨⟨k1, k2⟩, k3⟩ := hk
    simp only [vcD] at hs
    exact wpAny_all k2 (by intro e; rw [e] at k1; simp at k1) (s_trs H l fuel listed σ z a w k3 hs h hn)
theorem s_trs {ops : Array Oper} (H : TrH P Γ X n ops K Q) : ∀ (l : TrL) (fuel : Nat) (listed : Array Bool) (σ : St) (z : Cz) (a : Act) (w : World), trOks ops fuel listed l = true → vcDs Γ ops.toList false K l σ → Rel X σ.tm σ.hp z a w → a.tmps.size = n →
    ∀ i ∈ fstsT l, wpOp P ops Q i (wpAny P .any ops Q fuel (listed.setIfInBounds i true)) a w
  | .nil, _, _, _, _, _, _, _, _, _, _ => by intro i hi; simp [fstsT] at hi
  | .cons i t r, fuel, listed, σ, z, a, w, hk, hs, h, hn => by
    intro j hj
    simp only [trOks, Bool.and_eq_true] at hk
    simp only [vcDs] at hs
    obtain ⟨hs1, hs2⟩ := hs
    simp only [fstsT, List.mem_cons] at hj
    by_cases hji : j = i
    · subst hji
      simp only [nthO_eq] at hs1
      split at hs1
      case h_2 => exact hs1.elim
      rename_i o ho
      have ho' : ops[j]? = some o := by simpa using ho
      have hd := dsts_at H.hok ho
      unfold wpOp
      simp only [ho']
      rcases one_rel ops (stepOp Γ o) σ h hn hd hs1 with ⟨tm, hw, h', hs'⟩ | ⟨σ', hw, hs', h'⟩
      · rw [if_pos hw]
        exact .inl (s_op H.hΓ H.hct H.hm h' hs' hd hn (fun σ' z' a' w' q1 q2 q3 => s_tr H t fuel _ σ' z' a' w' hk.1 q1 q2 q3))
      · rw [if_neg (by simp [hw])]
        exact s_tr H t fuel _ σ' z _ w hk.1 hs' h' (by rw [size_put]; exact hn)
    · exact s_trs H r fuel listed σ z a w hk.2 hs2 h hn j (hj.resolve_left hji)
end
mutual
/-- The same where nothing that was there is written: loads may be taken first. -/
theorem s_trH {ops : Array Oper} (H : TrH P Γ X n ops K Q) : ∀ (t : Tr) (fuel : Nat) (listed : Array Bool) (σ : St) (z : Cz) (a : Act) (w : World), trOk ops fuel listed t = true → vcD Γ ops.toList true K t σ → Rel X σ.tm σ.hp z a w → a.tmps.size = n →
    wpAnyH P .any ops Q (Stp (fun _ => False) w) fuel listed a w
  | .done, fuel, listed, σ, z, a, w, hk, hs, h, hn => by
    have hr : Region.ready .any ops listed = [] := by cases fuel <;> simpa [trOk] using hk
    simp only [vcD] at hs
    exact wpAnyH_done hr (H.hQ σ z a w hs h hn) fuel
  | .take i t, 0, listed, σ, z, a, w, hk, hs, h, hn => by simp [trOk] at hk
  | .take i t, fuel + 1, listed, σ, z, a, w, hk, hs, h, hn => by
    simp only [trOk, Bool.and_eq_true] at hk
    obtain ⟨⟨k1, k2⟩, k3⟩ := hk
    simp only [vcD, nthO_eq, Bool.true_and] at hs
    split at hs
    case h_2 => exact hs.elim
    rename_i o ho
    have ho' : ops[i]? = some o := by simpa using ho
    have hd := dsts_at H.hok ho
    split at hs
    case isFalse =>
      split at hs
      case isFalse => exact hs.elim
      rename_i hcut
      obtain ⟨tm, hp⟩ := σ
      obtain ⟨hg, u, v, h1, h2, h3⟩ := r_cut H.hΓ H.hm h hcut hs
      refine wpAnyH_take ho' H.hsel k1 k2 (fun c a w hq => absurd hq (H.hQp c _ w)) (v := u) (.inl ⟨by simp [Region.wanted, hg], fun w' _ => h1 w'⟩) (Stp.refl _ w) ?_
      exact s_trH H t fuel _ _ z _ w k3 h3 (Rel.put h o.dst (fun d e => by rw [hn]; exact hd d e) h2) (by rw [size_put]; exact hn)
    rename_i hp'
    have hp' : isPure o.op = true ∨ isLoad o.op = true := by simpa using hp'
    rcases one_rel ops (stepOp Γ o) σ h hn hd hs with ⟨tm, hw, h', hs'⟩ | ⟨σ', hw, hs', h'⟩
    · obtain ⟨u, v, h1, h2, h3⟩ := r_op H.hΓ H.hm h' hs' (isPure_call hp') (isPure_reads hp')
      refine wpAnyH_take ho' H.hsel k1 k2 (fun c a w hq => absurd hq (H.hQp c _ w)) (v := u) (.inl ⟨hw, h1⟩) (Stp.refl _ w) ?_
      exact s_trH H t fuel _ _ z _ w k3 h3 (h'.put o.dst (fun d e => by rw [hn]; exact hd d e) h2) (by rw [size_put]; exact hn)
    · refine wpAnyH_take ho' H.hsel k1 k2 (fun c a w hq => absurd hq (H.hQp c _ w)) (v := undef) (.inr ⟨hw, rfl⟩) (Stp.refl _ w) ?_
      exact s_trH H t fuel _ σ' z _ w k3 hs' h' (by rw [size_put]; exact hn)
  | .all l, 0, listed, σ, z, a, w, hk, hs, h, hn => by simp [trOk] at hk
  | .all l, fuel + 1, listed, σ, z, a, w, hk, hs, h, hn => by
    simp only [trOk, Bool.and_eq_true, beq_iff_eq] at hk
    obtain ⟨⟨k1, k2⟩, k3⟩ := hk
    simp only [vcD] at hs
    exact wpAnyH_all k2 (by intro e; rw [e] at k1; simp at k1) (s_trsH H l fuel listed σ z a w k3 hs h hn)
theorem s_trsH {ops : Array Oper} (H : TrH P Γ X n ops K Q) : ∀ (l : TrL) (fuel : Nat) (listed : Array Bool) (σ : St) (z : Cz) (a : Act) (w : World), trOks ops fuel listed l = true → vcDs Γ ops.toList true K l σ → Rel X σ.tm σ.hp z a w → a.tmps.size = n →
    ∀ i ∈ fstsT l, wpOp P ops Q i (fun a' w' => Stp (fun _ => False) w w' ∧ wpAnyH P .any ops Q (Stp (fun _ => False) w) fuel (listed.setIfInBounds i true) a' w') a w
  | .nil, _, _, _, _, _, _, _, _, _, _ => by intro i hi; simp [fstsT] at hi
  | .cons i t r, fuel, listed, σ, z, a, w, hk, hs, h, hn => by
    intro j hj
    simp only [trOks, Bool.and_eq_true] at hk
    simp only [vcDs] at hs
    obtain ⟨hs1, hs2⟩ := hs
    simp only [fstsT, List.mem_cons] at hj
    by_cases hji : j = i
    · subst hji
      simp only [nthO_eq] at hs1
      split at hs1
      case h_2 => exact hs1.elim
      rename_i o ho
      have ho' : ops[j]? = some o := by simpa using ho
      have hd := dsts_at H.hok ho
      unfold wpOp
      simp only [ho']
      rcases one_rel ops (stepGrow Γ o) σ h hn hd hs1 with ⟨tm, hw, h', hs'⟩ | ⟨σ', hw, hs', h'⟩
      · rw [if_pos hw]
        exact .inl (s_grow H.hΓ H.hct H.hm h' hs' hd hn (fun σ' z' a' w' q1 q2 q3 q4 => ⟨q4, wpAnyH_mono (fun w2 q5 => q4.trans q5) fuel _ a' w' (s_trH H t fuel _ σ' z' a' w' hk.1 q1 q2 q3)⟩))
      · rw [if_neg (by simp [hw])]
        exact ⟨Stp.refl _ w, s_trH H t fuel _ σ' z _ w hk.1 hs' h' (by rw [size_put]; exact hn)⟩
    · exact s_trsH H r fuel listed σ z a w hk.2 hs2 h hn j (hj.resolve_left hji)
end
theorem s_drawn {ops : Array Oper} (H : TrH P Γ X n ops K Q) (id : Nat) (c : Bool) (t : Tr) (σ : St) (z : Cz) (a : Act) (w : World) (hk : trOk ops ops.size (Array.replicate ops.size false) t = true) (hs : vcD Γ ops.toList c K t σ) (h : Rel X σ.tm σ.hp z a w) (hn : a.tmps.size = n) :
    (Code.region id ops true).wp P Q a w := by
  have h' : Rel X σ.tm σ.hp z a { w with drawn := w.drawn + 1 } := h.world ⟨rfl, rfl, rfl, Nat.le_refl _, fun _ _ _ => rfl⟩
  cases c with
  | false => exact wp_region_any H.hΓ.mixed (s_tr H t _ _ σ z a _ hk hs h' hn)
  | true => exact wp_region_held H.hΓ.mixed (s_trH H t _ _ σ z a _ hk hs h' hn)

/-- What stands behind a piece of code. -/
def Post (X : Fx) (n : Nat) (Q : Exit → St → Prop) : Exit → Act → World → Prop := fun e a w => ∃ σ z, Q e σ ∧ Rel X σ.tm σ.hp z a w ∧ a.tmps.size = n

theorem s_vcg (hΓ : CxOk P Γ) (hct : CtOk P Γ) (hm : X.m = Γ.m) : ∀ (c : Code) (Q : Exit → St → Prop) (σ : St) (z : Cz) (a : Act) (w : World), codeOk n Γ.tr c = true → vcg Γ c Q σ → Rel X σ.tm σ.hp z a w → a.tmps.size = n →
    c.wp P (Post X n Q) a w := by
  intro c
  induction c with
  | skip => intro Q σ z a w _ hs h hn; simp only [vcg] at hs; exact wp_skip ⟨σ, z, hs, h, hn⟩
  | region id ops draw =>
    intro Q σ z a w hok hs h hn
    simp only [codeOk, Bool.and_eq_true] at hok
    obtain ⟨hok, hlex⟩ := hok
    cases draw with
    | true =>
      simp only [vcg] at hs
      simp only [Bool.not_true, Bool.false_or] at hlex
      cases htr : Γ.tr id with
      | none =>
        rw [htr] at hs hlex
        exact s_quiet (K := fun σ' => Q .normal σ') hΓ hct hm id ops hlex (fun σ z a w hk hR hn => ⟨σ, z, hk, hR, hn⟩) σ z a w hok hs h hn
      | some q =>
        obtain ⟨c, t⟩ := q
        rw [htr] at hs hlex
        simp only [Bool.and_eq_true] at hlex
        refine wp_mono (Q := fun e a w => match e with | .panic _ => False | e => Post X n Q e a w) ?_ (fun e a w hq => by cases e <;> first | exact hq | exact (hq : False).elim)
        exact s_drawn (K := fun σ' => Q .normal σ') ⟨hΓ, hct, hm, hlex.1, hok, fun σ z a w hk hR hn => ⟨σ, z, hk, hR, hn⟩, fun _ _ _ hq => hq⟩ id c t σ z a w hlex.2 hs h hn
    | false =>
      simp only [vcg] at hs
      refine wp_region_list ?_
      refine s_ops (K := fun σ' => Q .normal σ') hΓ hct hm ops (fun σ z a w hk hR hn => ⟨σ, z, hk, hR, hn⟩) ops.toList σ z a w hok hs h hn
  | seq x y ihx ihy =>
    intro Q σ z a w hok hs h hn
    simp only [codeOk, Bool.and_eq_true] at hok
    simp only [vcg] at hs
    split at hs
    · refine wp_seq (wp_mono (ihx _ σ z a w hok.1 hs h hn) ?_)
      rintro e a w ⟨σ', z', hq, hR, hn⟩
      cases e with
      | normal => exact ihy Q σ' z' a w hok.2 hq hR hn
      | _ => exact ⟨σ', z', hq, hR, hn⟩
    · simp only [forceT_eq] at hs
      split at hs
      case h_2 => exact hs.elim
      rename_i A hA
      obtain ⟨hs, hrest⟩ := hs
      refine wp_seq (wp_mono (ihx _ σ z a w hok.1 hs h hn) ?_)
      rintro e a w ⟨σ', z', hq, hR, hn⟩
      cases e with
      | normal =>
        obtain ⟨y, hy, hle⟩ := hq
        obtain ⟨σ2, z2, hR2, hle⟩ := line_dn (m := Γ.m) (by rw [hm]; exact Nat.le_refl _) A.sw (A.st y) σ' _ z' hR hle
        obtain ⟨tm2, hp2⟩ := σ2
        have hst : ∃ z3, Rel X (A.st y).tm (A.st y).hp z3 a w := by
          generalize A.st y = τ at hle
          obtain ⟨um, g⟩ := τ
          exact ⟨_, st_le hR2 hm hle⟩
        obtain ⟨z3, hR3⟩ := hst
        exact ihy Q (A.st y) z3 a w hok.2 (hrest y hy) hR3 hn
      | _ => exact ⟨σ', z', hq, hR, hn⟩
  | cond c x y ihx ihy =>
    intro Q σ z a w hok hs h hn
    obtain ⟨tm, hp⟩ := σ
    simp only [codeOk, Bool.and_eq_true] at hok
    simp only [vcg] at hs
    have hc := h.eval c
    split at hs
    · rename_i t he
      simp only at hc
      rw [he] at hc
      have hc := hc.of_bool
      cases t with
      | true => exact wp_cond_true hc (ihx Q _ z a w hok.1 (hs.1 rfl) h hn)
      | false => exact wp_cond_false hc (ihy Q _ z a w hok.2 (hs.2 rfl) h hn)
    · exact hs.elim
  | block id x ih =>
    intro Q σ z a w hok hs h hn
    simp only [vcg] at hs
    refine wp_block (wp_mono (ih _ σ z a w hok hs h hn) ?_)
    rintro e a w ⟨σ', z', hq, hR, hn⟩
    cases e with
    | exit id' =>
      simp only [Exit.inBlock]
      simp only at hq
      by_cases e : id' = id
      · rw [if_pos e] at hq ⊢; exact ⟨σ', z', hq, hR, hn⟩
      · rw [if_neg e] at hq ⊢; exact ⟨σ', z', hq, hR, hn⟩
    | _ => exact ⟨σ', z', hq, hR, hn⟩
  | loop x ih =>
    intro Q σ z a w hok hs h hn
    simp only [vcg, forceT_eq] at hs
    split at hs
    case h_2 => exact hs.elim
    rename_i A hA
    obtain ⟨⟨x0, hx0, hle⟩, hround⟩ := hs
    have hle' : ∀ (σ : St) (z : Cz) (a : Act) (w : World) (y : A.α), Rel X σ.tm σ.hp z a w → lined A.sw Γ.m (A.st y) σ (fun σ => stLe Γ.m σ (A.st y)) → ∃ z', Rel X (A.st y).tm (A.st y).hp z' a w := by
      intro σ0 z0 a w y hR0 hle
      obtain ⟨σ, z, hR, hle⟩ := line_dn (m := Γ.m) (by rw [hm]; exact Nat.le_refl _) A.sw (A.st y) σ0 _ z0 hR0 hle
      obtain ⟨tm, hp⟩ := σ
      generalize hst : A.st y = τ at hle
      obtain ⟨um, g⟩ := τ
      exact ⟨_, st_le hR hm hle⟩
    let I : Act → World → Prop := fun a w => ∃ y z, A.R y ∧ Rel X (A.st y).tm (A.st y).hp z a w ∧ a.tmps.size = n
    let M : Act → World → Nat → Prop := fun a w m => ∃ y z, A.R y ∧ Rel X (A.st y).tm (A.st y).hp z a w ∧ a.tmps.size = n ∧ A.μ y = m
    have hex : ∀ a w, I a w → ∃ m, M a w m := fun a w ⟨y, z, h1, h2, h3⟩ => ⟨A.μ y, y, z, h1, h2, h3, rfl⟩
    have hmin : ∀ a w, I a w → ∃ m, M a w m ∧ ∀ m', M a w m' → m ≤ m' := by
      intro a w hI
      obtain ⟨m, hm⟩ := hex a w hI
      induction m using Nat.strongRecOn with
      | _ m ihm =>
        by_cases hc : ∃ m', M a w m' ∧ m' < m
        · obtain ⟨m', h1, h2⟩ := hc
          exact ihm m' h2 h1
        · exact ⟨m, hm, fun m' h1 => Nat.le_of_not_lt (fun h2 => hc ⟨m', h1, h2⟩)⟩
    let μ : Act → World → Nat := fun a w => @dite _ (I a w) (Classical.propDecidable _) (fun h => (hmin a w h).choose) (fun _ => 0)
    have hμ : ∀ a w (h : I a w), M a w (μ a w) ∧ ∀ m', M a w m' → μ a w ≤ m' := by
      intro a w h
      have : μ a w = (hmin a w h).choose := by
        show @dite _ (I a w) (Classical.propDecidable _) _ _ = _
        rw [dif_pos h]
      rw [this]; exact (hmin a w h).choose_spec
    obtain ⟨z0, hR0⟩ := hle' σ z a w x0 h hle
    refine wp_loop I μ ⟨x0, z0, hx0, hR0, hn⟩ ?_
    intro a w hI
    obtain ⟨⟨y, z, hy, hR, hn, hmy⟩, _⟩ := hμ a w hI
    refine wp_mono (ih _ (A.st y) z a w hok (hround y hy) hR hn) ?_
    rintro e a' w' ⟨σ', z', hq, hR', hn'⟩
    cases e with
    | normal =>
      obtain ⟨y', hy', hlt, hle2⟩ := hq
      obtain ⟨z2, hR2⟩ := hle' σ' z' a' w' y' hR' hle2
      have hI' : I a' w' := ⟨y', z2, hy', hR2, hn'⟩
      refine ⟨hI', ?_⟩
      have := (hμ a' w' hI').2 (A.μ y') ⟨y', z2, hy', hR2, hn', rfl⟩
      omega
    | _ => exact ⟨σ', z', hq, hR', hn'⟩
  | exit id => intro Q σ z a w _ hs h hn; simp only [vcg] at hs; exact wp_exit ⟨σ, z, hs, h, hn⟩
  | ret => intro Q σ z a w _ hs h hn; simp only [vcg] at hs; exact wp_ret ⟨σ, z, hs, h, hn⟩
  | rangeFunc => intro Q σ z a w _ hs; simp [vcg] at hs
  | scope x ih =>
    intro Q σ z a w hok hs h hn
    simp only [vcg] at hs
    refine wp_scope_straight (wp_mono (ih _ σ z a w hok hs h hn) ?_)
    rintro e a w ⟨σ', z', hq, hR, hn⟩
    cases e with
    | goto l => exact hq.elim
    | _ => exact ⟨σ', z', hq, hR, hn⟩
  | label l => intro Q σ z a w _ hs h hn; simp only [vcg] at hs; exact wp_label ⟨σ, z, hs, h, hn⟩
  | goto => intro Q σ z a w _ hs; simp [vcg] at hs
  | refuse => intro Q σ z a w _ hs; simp [vcg] at hs
end

end Go.Proofs.Ytkjbgdhpeidocaa.V
