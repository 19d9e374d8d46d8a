/-
  A verified generator of verification conditions over the model's Code, part O: values as they pass from a caller to a callee and back.
-/
import Derived.Test.YtkjbgdhpeidocaaVcN
set_option linter.unusedSimpArgs false
set_option linter.unusedVariables false
namespace Go.Proofs.Ytkjbgdhpeidocaa.V
open Go Go.RowKit

def dz : Cz := ⟨fun _ => .nilFunc, fun _ => 0, fun _ => (0, [])⟩

/-- A value that stands by itself: what it means, and the blocks that it hands over. -/
def D1 (ok : Nat → Prop) (w : World) (d : AV) (v : Value) (B : List Nat) : Prop :=
  match d with
  | .fr e ks xs => w.ownsRow 0 e (lenK ks) v xs.length (flat ks xs) ∧ B = (blk v).toList
  | .frn e f ks xss => ∃ vs : List Value, w.ownsRow 0 e 1 v xss.length vs ∧ Inns w f ks xss vs ∧ B = (v :: vs).filterMap blk ∧ B.Nodup
  | .vv ks xss => NestR ok w ks xss v ∧ B = []
  | .top => B = []
  | .int k n => v = .int k n ∧ B = []
  | .bool b => v = .bool b ∧ B = []
  | .str l => v = .string ⟨l.toArray⟩ ∧ B = []
  | .view ks xs => ViewR ok w ks xs v ∧ B = []
  | .vcel ks xs i c => (i < xs.length ∧ ∃ b o, ok b ∧ v = .pointer (some ⟨b, o + (i * lenK ks + c), none⟩) ∧
      ∀ c' kd, getK ks c' = some kd → w.cell? ⟨b, o + (i * lenK ks + c'), none⟩ = some (kd.val (rc (row xs i) c'))) ∧ B = []
  | _ => False
def D1s (ok : Nat → Prop) (w : World) : List AV → List Value → List Nat → Prop
  | [], vs, B => vs = [] ∧ B = []
  | d :: l, vs, B => ∃ u us B1 B2, vs = u :: us ∧ B = B1 ++ B2 ∧ D1 ok w d u B1 ∧ D1s ok w l us B2
def D2 (ok : Nat → Prop) (w : World) (d : AV) (v : Value) (B : List Nat) : Prop :=
  match d with
  | .bx l => ∃ b cur T, v = .pointer (some ⟨b, 0, none⟩) ∧ w.heap[b]? = some (.cells cur T (0, 0)) ∧ (∀ u ∈ cur.toList, u.oneCell' = true) ∧ D1s ok w l cur.toList [] ∧ out2.viewsL l = true ∧ B = [b]
  | .pa ks xs => ∃ b cur T, v = .pointer (some ⟨b, 0, none⟩) ∧ w.heap[b]? = some (.cells cur T (0, 0)) ∧ cur.toList = flat ks xs ∧ 0 < xs.length ∧ B = [b]
  | .agg l => ∃ vs : List Value, v = .agg vs.toArray ∧ (∀ u ∈ vs, u.oneCell' = true) ∧ D1s ok w l vs B
  | .fn f l => ∃ vs : List Value, v = .func (.func f) #[] vs.toArray ∧ D1s ok w l vs B
  | .arr ks xs => v = .agg (flat ks xs).toArray ∧ B = []
  | d => D1 ok w d v B
def D2s (ok : Nat → Prop) (w : World) : List AV → List Value → List Nat → Prop
  | [], vs, B => vs = [] ∧ B = []
  | d :: l, vs, B => ∃ u us B1 B2, vs = u :: us ∧ B = B1 ++ B2 ∧ D2 ok w d u B1 ∧ D2s ok w l us B2
def D3 (ok : Nat → Prop) (w : World) (d : AV) (v : Value) (B : List Nat) : Prop :=
  match d with
  | .tup l => ∃ vs : List Value, v = .tuple vs.toArray ∧ D2s ok w l vs B
  | d => D2 ok w d v B

structure Core (ok : Nat → Prop) (hp : List (Option Entry)) (z : Cz) (w : World) (S : Nat → Prop) : Prop where
  ens : ∀ k e, lookH hp k = some e → EnR ok (live hp) w z k e
  dj : ∀ j k b, live hp j → live hp k → z.bk j b → z.bk k b → j = k
  own : ∀ k b, live hp k → z.bk k b → S b

structure Ext (hp : List (Option Entry)) (z : Cz) (hp' : List (Option Entry)) (z' : Cz) : Prop where
  up : ∀ k, live hp k → live hp' k ∧ z'.ρ k = z.ρ k ∧ z'.len k = z.len k ∧ z'.wd k = z.wd k
  len : hp.length ≤ hp'.length
  down : ∀ k, k < hp.length → lookH hp' k = lookH hp k

theorem Ext.refl (hp : List (Option Entry)) (z : Cz) : Ext hp z hp z := ⟨fun _ h => ⟨h, rfl, rfl, rfl⟩, Nat.le_refl _, fun _ _ => rfl⟩
theorem Ext.trans {hp hp' hp'' : List (Option Entry)} {z z' z'' : Cz} (h : Ext hp z hp' z') (k : Ext hp' z' hp'' z'') : Ext hp z hp'' z'' :=
  ⟨fun j hj => by
    obtain ⟨a, b, c, d⟩ := h.up j hj
    obtain ⟨a', b', c', d'⟩ := k.up j a
    exact ⟨a', b'.trans b, c'.trans c, d'.trans d⟩, Nat.le_trans h.len k.len, fun j hj => (k.down j (Nat.lt_of_lt_of_le hj h.len)).trans (h.down j hj)⟩

section
variable {ok : Nat → Prop} {hp : List (Option Entry)} {z : Cz} {w : World} {S : Nat → Prop}

theorem Ext.push (hp : List (Option Entry)) (z : Cz) (e : Entry) (v : Value) (n : Nat) (d : Nat × List Value) : Ext hp z (pushH hp e) (z.upd (lenH hp) v n d) := by
  refine ⟨fun k hk => ?_, by rw [length_push]; omega, fun k hk => ?_⟩
  · have hne : k ≠ lenH hp := by
      intro e'; obtain ⟨x, hx⟩ := live_get hk; have := lookH_lt hx; rw [lenH_eq] at e'; omega
    refine ⟨?_, by simp [Cz.upd, hne], by simp [Cz.upd, hne], by simp [Cz.upd, hne]⟩
    unfold live at hk ⊢; rw [lookH_push, if_neg hne]; exact hk
  · rw [lookH_push, if_neg (by rw [lenH_eq]; omega)]

theorem Core.pushN (h : Core ok hp z w S) (e : Entry) (v : Value) (n : Nat) (d : Nat × List Value) (B : List Nat) (hb : ∀ b, (blk v = some b ∨ ∃ u ∈ d.2, blk u = some b) → b ∈ B ∧ ¬ S b)
    (he : ∀ (lv : Nat → Prop) (z' : Cz), (∀ k, live hp k → lv k ∧ z'.ρ k = z.ρ k ∧ z'.len k = z.len k ∧ z'.wd k = z.wd k) → z'.ρ (lenH hp) = v → z'.len (lenH hp) = n → z'.wd (lenH hp) = d →
      EnR ok lv w z' (lenH hp) e) : Core ok (pushH hp e) (z.upd (lenH hp) v n d) w (fun b => S b ∨ b ∈ B) := by
  have hx := Ext.push hp z e v n d
  have hlive : ∀ k, live (pushH hp e) k ↔ k = lenH hp ∨ live hp k := by
    intro k; unfold live; rw [lookH_push]; by_cases x : k = lenH hp <;> simp [x]
  have hz : ∀ k b, live hp k → ((z.upd (lenH hp) v n d).bk k b ↔ z.bk k b) := fun k b hk => Cz.bk_congr (hx.up k hk).2.1 (hx.up k hk).2.2.2
  have hnew : (z.upd (lenH hp) v n d).ρ (lenH hp) = v := by simp [Cz.upd]
  have hnewb : ∀ b, (z.upd (lenH hp) v n d).bk (lenH hp) b ↔ (blk v = some b ∨ ∃ u ∈ d.2, blk u = some b) := by intro b; simp [Cz.bk, Cz.upd]
  refine ⟨fun k e' he' => ?_, fun j k b hj hk hbj hbk => ?_, fun k b hk hb' => ?_⟩
  · rw [lookH_push] at he'
    by_cases x : k = lenH hp
    · subst x
      simp only [if_true, Option.some.injEq] at he'
      subst he'
      exact he _ _ hx.up hnew (by simp [Cz.upd]) (by simp [Cz.upd])
    · simp only [x, if_false] at he'
      exact (h.ens k e' he').mono (fun _ x => x) (fun _ _ => rfl) hx.up (hx.up k (live_of he')).2 (fun _ _ => rfl)
  · rcases (hlive j).1 hj with rfl | hj' <;> rcases (hlive k).1 hk with rfl | hk'
    · rfl
    · rw [hnewb] at hbj; rw [hz k b hk'] at hbk
      exact absurd (h.own k b hk' hbk) (hb b hbj).2
    · rw [hnewb] at hbk; rw [hz j b hj'] at hbj
      exact absurd (h.own j b hj' hbj) (hb b hbk).2
    · rw [hz k b hk'] at hbk; rw [hz j b hj'] at hbj
      exact h.dj j k b hj' hk' hbj hbk
  · rcases (hlive k).1 hk with rfl | hk'
    · rw [hnewb] at hb'; exact .inr (hb b hb').1
    · rw [hz k b hk'] at hb'; exact .inl (h.own k b hk' hb')

theorem Core.push (h : Core ok hp z w S) (e : Entry) (v : Value) (n d : Nat) (B : List Nat) (hb : ∀ b, blk v = some b → b ∈ B ∧ ¬ S b)
    (he : ∀ (lv : Nat → Prop) (z' : Cz), (∀ k, live hp k → lv k ∧ z'.ρ k = z.ρ k ∧ z'.len k = z.len k ∧ z'.wd k = z.wd k) → z'.ρ (lenH hp) = v → z'.len (lenH hp) = n → z'.wd (lenH hp) = (d, []) →
      EnR ok lv w z' (lenH hp) e) : Core ok (pushH hp e) (z.upd (lenH hp) v n (d, [])) w (fun b => S b ∨ b ∈ B) :=
  h.pushN e v n (d, []) B (fun b q => hb b (by simpa using q)) he

theorem D1.plain {d : AV} {v : Value} {B : List Nat} {lv : Nat → Prop} (h : D1 ok w d v B) (hf : ∀ e ks xs, d ≠ .fr e ks xs) (hf2 : ∀ e f ks xss, d ≠ .frn e f ks xss) : AVR ok lv w z d v ∧ B = [] := by
  cases d <;> simp only [D1] at h
  case fr e ks xs => exact absurd rfl (hf e ks xs)
  case frn e f ks xss => exact absurd rfl (hf2 e f ks xss)
  case top => exact ⟨by simp [AVR], h⟩
  all_goals exact ⟨by simpa only [AVR] using h.1, h.2⟩

/-- What a step of laying values into a state comes to. -/
def Laid (ok : Nat → Prop) (w : World) (hp : List (Option Entry)) (z : Cz) (S : Nat → Prop) (B : List Nat) (r : AV × List (Option Entry)) (v : Value) : Prop :=
  ∃ z', Ext hp z r.2 z' ∧ Core ok r.2 z' w (fun b => S b ∨ b ∈ B) ∧ AVR ok (live r.2) w z' r.1 v
def Laids (ok : Nat → Prop) (w : World) (hp : List (Option Entry)) (z : Cz) (S : Nat → Prop) (B : List Nat) (r : List AV × List (Option Entry)) (vs : List Value) : Prop :=
  ∃ z', Ext hp z r.2 z' ∧ Core ok r.2 z' w (fun b => S b ∨ b ∈ B) ∧ AVRs ok (live r.2) w z' r.1 vs

theorem mat1_laid (h : Core ok hp z w S) {d : AV} {v : Value} {B : List Nat} (hd : D1 ok w d v B) (hB : ∀ b ∈ B, ¬ S b) : Laid ok w hp z S B (mat1 hp d) v := by
  by_cases hf : ∃ e ks xs, d = .fr e ks xs
  · obtain ⟨e, ks, xs, rfl⟩ := hf
    simp only [D1] at hd
    obtain ⟨ho, rfl⟩ := hd
    refine ⟨z.upd (lenH hp) v xs.length (lenK ks, []), Ext.push _ _ _ _ _ _, h.push _ _ _ _ _ (fun b hb => ?_) (fun lv z' h1 h2 h3 h4 => ⟨by rw [h2]; exact ho, h3, h4⟩), ?_⟩
    · have : b ∈ (blk v).toList := by rw [hb]; simp
      exact ⟨this, hB b this⟩
    · simp only [mat1, AVR]; exact ⟨live_push hp _, by simp [Cz.upd]⟩
  by_cases hf2 : ∃ e f ks xss, d = .frn e f ks xss
  · obtain ⟨e, f, ks, xss, rfl⟩ := hf2
    simp only [D1] at hd
    obtain ⟨vs, ho, hi, rfl, hn⟩ := hd
    refine ⟨z.upd (lenH hp) v xss.length (1, vs), Ext.push _ _ _ _ _ _, h.pushN _ _ _ _ _ (fun b hb => ?_) (fun lv z' h1 h2 h3 h4 => ⟨vs, by rw [h2]; exact ho, h3, h4, hi, by rw [Cz.bs, h2, h4]; exact hn⟩), ?_⟩
    · have : b ∈ (v :: vs).filterMap blk := by
        rw [List.mem_filterMap]
        rcases hb with hb | ⟨u, hu, hb⟩
        · exact ⟨v, by simp, hb⟩
        · exact ⟨u, by simp only [List.mem_cons]; exact .inr hu, hb⟩
      exact ⟨this, hB b this⟩
    · simp only [mat1, AVR]; exact ⟨live_push hp _, by simp [Cz.upd]⟩
  · obtain ⟨h1, rfl⟩ := hd.plain (z := z) (lv := live hp) (fun e ks xs x => hf ⟨e, ks, xs, x⟩) (fun e f ks xs x => hf2 ⟨e, f, ks, xs, x⟩)
    have e1 : mat1 hp d = (d, hp) := by cases d <;> first | rfl | exact absurd ⟨_, _, _, rfl⟩ hf | exact absurd ⟨_, _, _, _, rfl⟩ hf2
    rw [e1]
    exact ⟨z, Ext.refl _ _, by simpa using h, h1⟩

theorem matL_laid : ∀ {l : List AV} {vs : List Value} {B : List Nat} {hp : List (Option Entry)} {z : Cz} {S : Nat → Prop}, Core ok hp z w S → D1s ok w l vs B → (∀ b ∈ B, ¬ S b) → B.Nodup → Laids ok w hp z S B (matL hp l) vs
  | [], vs, B, hp, z, S, h, hd, _, _ => by
    simp only [D1s] at hd
    obtain ⟨rfl, rfl⟩ := hd
    exact ⟨z, Ext.refl _ _, by simpa [matL] using h, by simp [matL, AVRs]⟩
  | d :: l, vs, B, hp, z, S, h, hd, hB, hn => by
    simp only [D1s] at hd
    obtain ⟨u, us, B1, B2, rfl, rfl, h1, h2⟩ := hd
    rw [List.nodup_append] at hn
    obtain ⟨z1, e1, c1, a1⟩ := mat1_laid h h1 (fun b hb => hB b (List.mem_append_left _ hb))
    obtain ⟨z2, e2, c2, a2⟩ := matL_laid c1 h2 (fun b hb hm => by
      rcases hm with q | q
      · exact hB b (List.mem_append_right _ hb) q
      · exact hn.2.2 b q b hb rfl) hn.2.1
    refine ⟨z2, e1.trans e2, by simpa [matL, or_assoc] using c2, ?_⟩
    simp only [matL, AVRs]
    exact ⟨u, us, rfl, AVR.mono (fun _ x => x) (fun _ _ => rfl) e2.up _ _ a1, a2⟩

theorem D1s.plain : ∀ {l : List AV} {vs : List Value} {B : List Nat} {lv : Nat → Prop}, D1s ok w l vs B → out2.viewsL l = true → AVRs ok lv w z l vs ∧ B = []
  | [], vs, B, lv, h, _ => by simp only [D1s] at h; exact ⟨by simpa [AVRs] using h.1, h.2⟩
  | d :: l, vs, B, lv, h, hv => by
    simp only [D1s] at h
    obtain ⟨u, us, B1, B2, rfl, rfl, h1, h2⟩ := h
    have hv2 : out2.viewsL l = true ∧ (∀ e ks xs, d ≠ .fr e ks xs) ∧ ∀ e f ks xss, d ≠ .frn e f ks xss := by cases d <;> simp_all [out2.viewsL]
    obtain ⟨p1, rfl⟩ := h1.plain (z := z) (lv := lv) hv2.2.1 hv2.2.2
    obtain ⟨p2, rfl⟩ := D1s.plain (lv := lv) h2 hv2.1
    exact ⟨by simp only [AVRs]; exact ⟨u, us, rfl, p1, p2⟩, rfl⟩

theorem mat2_laid (h : Core ok hp z w S) {d : AV} {v : Value} {B : List Nat} (hd : D2 ok w d v B) (hB : ∀ b ∈ B, ¬ S b) (hn : B.Nodup) : Laid ok w hp z S B (mat2 hp d) v := by
  have other : D1 ok w d v B → mat2 hp d = mat1 hp d → Laid ok w hp z S B (mat2 hp d) v := fun h1 h2 => by rw [h2]; exact mat1_laid h h1 hB
  cases d
  case bx l =>
    simp only [D2] at hd
    obtain ⟨b, cur, T, rfl, hh, hone, h1, h2, rfl⟩ := hd
    refine ⟨z.upd (lenH hp) (.pointer (some ⟨b, 0, none⟩)) 0 (0, []), Ext.push _ _ _ _ _ _, h.push _ _ _ _ _ (fun b' hb => ?_) (fun lv z' q1 q2 q3 q4 => ⟨b, cur, T, q2, hh, hone, (D1s.plain h1 h2).1, by rw [q4]⟩), ?_⟩
    · simp [blk] at hb; subst hb; exact ⟨by simp, hB b (by simp)⟩
    · simp only [mat2, AVR]; exact ⟨live_push hp _, b, by simp [Cz.upd], rfl⟩
  case pa ks xs =>
    simp only [D2] at hd
    obtain ⟨b, cur, T, rfl, hh, h1, h2, rfl⟩ := hd
    refine ⟨z.upd (lenH hp) (.pointer (some ⟨b, 0, none⟩)) xs.length (lenK ks, []), Ext.push _ _ _ _ _ _, h.push _ _ _ _ _ (fun b' hb => ?_) (fun lv z' q1 q2 q3 q4 => ⟨b, cur, T, q2, hh, h1, q3, q4⟩), ?_⟩
    · simp [blk] at hb; subst hb; exact ⟨by simp, hB b (by simp)⟩
    · simp only [mat2, AVR]; exact ⟨live_push hp _, by simpa [Cz.upd] using h2, b, by simp [Cz.upd, blk], by simp⟩
  case agg l =>
    simp only [D2] at hd
    obtain ⟨vs, rfl, hone, h1⟩ := hd
    obtain ⟨z1, e1, c1, a1⟩ := matL_laid h h1 hB hn
    refine ⟨z1, e1, c1, ?_⟩
    simp only [mat2, AVR]
    exact ⟨vs, rfl, hone, a1⟩
  case fn f l =>
    simp only [D2] at hd
    obtain ⟨vs, rfl, h1⟩ := hd
    obtain ⟨z1, e1, c1, a1⟩ := matL_laid h h1 hB hn
    refine ⟨z1, e1, c1, ?_⟩
    simp only [mat2, AVR]
    exact ⟨vs, rfl, a1⟩
  case arr ks xs =>
    simp only [D2] at hd
    obtain ⟨rfl, rfl⟩ := hd
    exact ⟨z, Ext.refl _ _, by simpa [mat2, mat1] using h, by simp [mat2, mat1, AVR]⟩
  all_goals exact other (by simpa only [D2] using hd) rfl

theorem matL2_laid : ∀ {l : List AV} {vs : List Value} {B : List Nat} {hp : List (Option Entry)} {z : Cz} {S : Nat → Prop}, Core ok hp z w S → D2s ok w l vs B → (∀ b ∈ B, ¬ S b) → B.Nodup → Laids ok w hp z S B (matL2 hp l) vs
  | [], vs, B, hp, z, S, h, hd, _, _ => by
    simp only [D2s] at hd
    obtain ⟨rfl, rfl⟩ := hd
    exact ⟨z, Ext.refl _ _, by simpa [matL2] using h, by simp [matL2, AVRs]⟩
  | d :: l, vs, B, hp, z, S, h, hd, hB, hn => by
    simp only [D2s] at hd
    obtain ⟨u, us, B1, B2, rfl, rfl, h1, h2⟩ := hd
    rw [List.nodup_append] at hn
    obtain ⟨z1, e1, c1, a1⟩ := mat2_laid h h1 (fun b hb => hB b (List.mem_append_left _ hb)) hn.1
    obtain ⟨z2, e2, c2, a2⟩ := matL2_laid c1 h2 (fun b hb hm => by
      rcases hm with q | q
      · exact hB b (List.mem_append_right _ hb) q
      · exact hn.2.2 b q b hb rfl) hn.2.1
    refine ⟨z2, e1.trans e2, by simpa [matL2, or_assoc] using c2, ?_⟩
    simp only [matL2, AVRs]
    exact ⟨u, us, rfl, AVR.mono (fun _ x => x) (fun _ _ => rfl) e2.up _ _ a1, a2⟩

theorem mat3_laid (h : Core ok hp z w S) {d : AV} {v : Value} {B : List Nat} (hd : D3 ok w d v B) (hB : ∀ b ∈ B, ¬ S b) (hn : B.Nodup) : Laid ok w hp z S B (mat3 hp d) v := by
  have other : D2 ok w d v B → mat3 hp d = mat2 hp d → Laid ok w hp z S B (mat3 hp d) v := fun h1 h2 => by rw [h2]; exact mat2_laid h h1 hB hn
  cases d
  case tup l =>
    simp only [D3] at hd
    obtain ⟨vs, rfl, h1⟩ := hd
    obtain ⟨z1, e1, c1, a1⟩ := matL2_laid h h1 hB hn
    exact ⟨z1, e1, c1, by simp only [mat3, AVR]; exact ⟨vs, rfl, a1⟩⟩
  all_goals exact other (by simpa only [D3] using hd) rfl
end

end Go.Proofs.Ytkjbgdhpeidocaa.V
