/-
  A verified generator of verification conditions over the model's Code, part B: the generator, a function from Code into Prop.
-/
import Derived.Test.YtkjbgdhpeidocaaVcA
set_option linter.unusedSimpArgs false
set_option linter.unusedVariables false
namespace Go.Proofs.Ytkjbgdhpeidocaa.V
open Go

/-- The package tables that the program only reads, by their blocks: what they hold. -/
def glTab : Nat → Option (List Kd × List Row) := fun _ => none

/-- A callee's contract on deep values: what it gives to whoever comes behind. -/
structure Ct where
  io : List Bool
  rel : List AV → (AV → List AV → Prop) → Prop

/-- A loop's annotation. -/
structure Ann where
  α : Type
  R : α → Prop
  μ : α → Nat
  st : α → St
  sw : Bool := false

/-! An order of a region that draws: what is taken first, where it parts. -/
mutual
inductive Tr where
  | done
  | take (i : Nat) (t : Tr)
  | all (l : TrL)
inductive TrL where
  | nil
  | cons (i : Nat) (t : Tr) (r : TrL)
end

/-- What is told of a function that is met by a rule of its own: it takes rows out of a slice in place; it writes all cells of a slice of slices that stands in a struct; it makes room in a nil slice. -/
inductive Spc where
  | del (e : Nat) (ks : List Kd)
  | mark (e f : Nat) (ks : List Kd) (pre : Int → List (List Row) → Prop) (M : Int → List (List Row) → Int × List (List Row))
  | grow (e eb : Nat) (ks : List Kd)
  | give (e f : Nat) (ks : List Kd) (rel : List AV → (AV → Prop) → Prop)

structure Cx where
  m : Nat
  τ : Nat → TI
  eqs : Nat → Option (List Kd)
  ct : Nat → Option Ct
  inv : Nat → St → Option Ann
  tr : Nat → Option (Bool × Tr)
  cuts : List Nat
  del : Nat → Option Spc

def constAV : Value → AV
  | .int k n => .int k n
  | .bool b => .bool b
  | .string s => .str s.data.toList
  | .slice none 0 0 => .nil []
  | _ => .top

def evalT (tm : List (Nat × AV)) : Operand → AV
  | .tmp t => lookT tm t
  | .const v => constAV v
  | .func f => .fn f []
  | .global _ => .top

def lenH : List (Option Entry) → Nat
  | [] => 0
  | _ :: r => lenH r + 1
def pushH : List (Option Entry) → Entry → List (Option Entry)
  | [], e => [some e]
  | x :: r, e => x :: pushH r e

def killT (k : Nat) : List (Nat × AV) → List (Nat × AV)
  | [] => []
  | (t, v) :: r => (t, if v.hits k then .top else v) :: killT k r
def killA (k : Nat) : List AV → List AV
  | [] => []
  | v :: r => (if v.hits k then .top else v) :: killA k r
def killH (k : Nat) : List (Option Entry) → List (Option Entry)
  | [] => []
  | some (.box l) :: r => some (.box (killA k l)) :: killH k r
  | e :: r => e :: killH k r

/-- Every value that is the slice of entry k read as plain data, and the entry given up. -/
def thaw1 (k : Nat) (v' : AV) : AV → AV
  | .own j => if k = j then v' else .own j
  | v => if v.hits k then .top else v
def thawT (k : Nat) (v' : AV) : List (Nat × AV) → List (Nat × AV)
  | [] => []
  | (t, v) :: r => (t, thaw1 k v' v) :: thawT k v' r
def thawA (k : Nat) (v' : AV) : List AV → List AV
  | [] => []
  | v :: r => thaw1 k v' v :: thawA k v' r
def thawH (k : Nat) (v' : AV) : List (Option Entry) → List (Option Entry)
  | [] => []
  | some (.box l) :: r => some (.box (thawA k v' l)) :: thawH k v' r
  | e :: r => e :: thawH k v' r

/-- The plain rows that a slice value holds. -/
def rowsH (hp : List (Option Entry)) : AV → Option (List Kd × List Row)
  | .view ks xs => some (ks, xs)
  | .nil ks => some (ks, [])
  | .own k => match lookH hp k with
    | some (.rows _ ks xs) => some (ks, xs)
    | _ => none
  | _ => none

/-- The slices that a slice of slices holds. -/
def nestH (hp : List (Option Entry)) : AV → Option (List Kd × List (List Row))
  | .vv ks xss => some (ks, xss)
  | .own k => match lookH hp k with
    | some (.vnest _ ks xss) => some (ks, xss)
    | some (.nest _ _ ks xss) => some (ks, xss)
    | _ => none
  | _ => none

/-- Slots and entries without the entries of a list. -/
def killsT : List Nat → List (Nat × AV) → List (Nat × AV)
  | [], tm => tm
  | k :: r, tm => killT k (killsT r tm)
def killsH : List Nat → List (Option Entry) → List (Option Entry)
  | [], hp => hp
  | k :: r, hp => setH (killH k (killsH r hp)) k none

/-- Continuations that look at a value before they hand it on: nothing but the order of evaluation. -/
def forceL : List AV → (List AV → Prop) → Prop
  | [], K => K []
  | .int k n :: r, K => forceL r fun r => K (.int k n :: r)
  | .bool b :: r, K => forceL r fun r => K (.bool b :: r)
  | .str l :: r, K => forceL r fun r => K (.str l :: r)
  | .nil ks :: r, K => forceL r fun r => K (.nil ks :: r)
  | .view ks xs :: r, K => forceL r fun r => K (.view ks xs :: r)
  | .vv ks xss :: r, K => forceL r fun r => K (.vv ks xss :: r)
  | .own k :: r, K => forceL r fun r => K (.own k :: r)
  | v :: r, K => forceL r fun r => K (v :: r)
def force (v : AV) (K : AV → Prop) : Prop :=
  match v with
  | .top => K .top
  | .int k n => K (.int k n)
  | .bool b => K (.bool b)
  | .str l => K (.str l)
  | .nil ks => K (.nil ks)
  | .view ks xs => K (.view ks xs)
  | .own k => K (.own k)
  | .box k c => K (.box k c)
  | .cel k i c => K (.cel k i c)
  | .vcel ks xs i c => K (.vcel ks xs i c)
  | .agg l => forceL l fun l => K (.agg l)
  | .arr ks xs => K (.arr ks xs)
  | .tup l => forceL l fun l => K (.tup l)
  | .fn f l => forceL l fun l => K (.fn f l)
  | .fr e ks xs => K (.fr e ks xs)
  | .bx l => forceL l fun l => K (.bx l)
  | .pa ks xs => K (.pa ks xs)
  | .vv ks xss => K (.vv ks xss)
  | .vvc ks xss i => K (.vvc ks xss i)
  | .frn e f ks xss => K (.frn e f ks xss)
def forceH : List (Option Entry) → (List (Option Entry) → Prop) → Prop
  | [], K => K []
  | none :: r, K => forceH r fun r => K (none :: r)
  | some (.box l) :: r, K => forceL l fun l => forceH r fun r => K (some (.box l) :: r)
  | some (.rows e ks xs) :: r, K => forceH r fun r => K (some (.rows e ks xs) :: r)
  | some (.arr ks xs) :: r, K => forceH r fun r => K (some (.arr ks xs) :: r)
  | some (.vnest e ks xss) :: r, K => forceH r fun r => K (some (.vnest e ks xss) :: r)
  | some (.nest e f ks xss) :: r, K => forceH r fun r => K (some (.nest e f ks xss) :: r)
def forceT : List (Nat × AV) → (List (Nat × AV) → Prop) → Prop
  | [], K => K []
  | (t, v) :: r, K => force v fun v => forceT r fun r => K ((t, v) :: r)

/-- A value laid into a slot. -/
def putC (tm : List (Nat × AV)) (hp : List (Option Entry)) (dst : Option Nat) (v : AV) (K : St → Prop) : Prop :=
  match dst with
  | some d => force v fun v => K ⟨(d, v) :: tm, hp⟩
  | none => K ⟨tm, hp⟩
/-- The same with the entries anew. -/
def putH (tm : List (Nat × AV)) (hp : List (Option Entry)) (dst : Option Nat) (v : AV) (K : St → Prop) : Prop :=
  match dst with
  | some d => force v fun v => forceH hp fun hp => K ⟨(d, v) :: tm, hp⟩
  | none => forceH hp fun hp => K ⟨tm, hp⟩
/-- The same with slots and entries anew. -/
def putTH (tm : List (Nat × AV)) (hp : List (Option Entry)) (dst : Option Nat) (v : AV) (K : St → Prop) : Prop :=
  match dst with
  | some d => force v fun v => forceH hp fun hp => forceT tm fun tm => K ⟨(d, v) :: tm, hp⟩
  | none => forceH hp fun hp => forceT tm fun tm => K ⟨tm, hp⟩

def stepInt (op : BinOp) (k : IntKind) (a b : Int) (K : AV → Prop) : Prop :=
  match op with
  | .add => Fits k (a + b) ∧ K (.int k (a + b))
  | .sub => Fits k (a - b) ∧ K (.int k (a - b))
  | .mul => Fits k (a * b) ∧ K (.int k (a * b))
  | .quo => b ≠ 0 ∧ Fits k (a.tdiv b) ∧ K (.int k (a.tdiv b))
  | .rem => b ≠ 0 ∧ K (.int k (a.tmod b))
  | .and => K (.int k (bitop .and k a b))
  | .or => K (.int k (bitop .or k a b))
  | .xor => K (.int k (bitop .xor k a b))
  | .andNot => K (.int k (bitop .andNot k a b))
  | .eql => K (.bool (a == b))
  | .neq => K (.bool (a != b))
  | .lss => K (.bool (decide (a < b)))
  | .leq => K (.bool (decide (a ≤ b)))
  | .gtr => K (.bool (decide (b < a)))
  | .geq => K (.bool (decide (b ≤ a)))
  | _ => False

def memN (t : Nat) : List Nat → Bool
  | [] => false
  | a :: r => a == t || memN t r

/-- Two rows of kinds ks, from column c on, compared. -/
def eqRow : List Kd → Row → Row → Nat → Bool
  | [], _, _, _ => true
  | [.int _], r, s, c => (rc r c).int == (rc s c).int
  | [.bool], r, s, c => (rc r c).bool == (rc s c).bool
  | [.str], r, s, c => (rc r c).str == (rc s c).str
  | .int _ :: ks, r, s, c => (rc r c).int == (rc s c).int && eqRow ks r s (c + 1)
  | .bool :: ks, r, s, c => (rc r c).bool == (rc s c).bool && eqRow ks r s (c + 1)
  | .str :: ks, r, s, c => (rc r c).str == (rc s c).str && eqRow ks r s (c + 1)
def stepBin (Γ : Cx) (op : BinOp) (T : Nat) (hp : List (Option Entry)) (x y : AV) (K : AV → Prop) : Prop :=
  match x, y with
  | .int k a, .int j b =>
    match op with
    | .shl => 0 ≤ b ∧ K (.int k (shlop k a b))
    | .shr => 0 ≤ b ∧ K (.int k (shrop k a b))
    | _ => if k = j then stepInt op k a b K else False
  | .bool a, .bool b =>
    match Γ.τ T with
    | .bool => (match op with
      | .eql => K (.bool (a == b))
      | .neq => K (.bool (a != b))
      | _ => False)
    | _ => False
  | .str a, .str b =>
    match op with
    | .eql => K (.bool (a == b))
    | .neq => K (.bool (a != b))
    | _ => False
  | .agg l, .agg m => match Γ.eqs T with
    | some ks => match scs ks l with
      | some r => match scs ks m with
        | some s => match op with
          | .eql => K (.bool (eqRow ks r s 0))
          | .neq => K (.bool (!eqRow ks r s 0))
          | _ => False
        | none => False
      | none => False
    | none => False
  | v, .nil _ =>
    match Γ.τ T with
    | .slice _ _ _ _ => (match rowsH hp v with
      | some (_, xs) => match op with
        | .eql => ∀ b : Bool, (b = true → xs = []) → K (.bool b)
        | .neq => ∀ b : Bool, (b = false → xs = []) → K (.bool b)
        | _ => False
      | none => False)
    | _ => False
  | _, _ => False

/-- What a variable of a type holds at first, and whether it is an array. -/
def TI.zero : TI → Option Entry
  | .int k => some (.box [.int k 0])
  | .bool => some (.box [.bool false])
  | .str => some (.box [.str []])
  | .slice _ _ _ ks => some (.box [.nil ks])
  | .struct _ z => some (.box z)
  | .array n esz ks => some (.arr ks (List.replicate (n * esz / lenK ks) (zeroRow ks)))
  | _ => none

def firstPlace (k : Nat) : Entry → AV
  | .box _ => .box k 0
  | _ => .cel k 0 0

def stepLoad (Γ : Cx) (t : Nat) (hp : List (Option Entry)) (a : AV) (K : AV → Prop) : Prop :=
  match a with
  | .box k c => match lookH hp k with
    | some (.box l) => match Γ.τ t with
      | .struct _ z => if c + lenA z ≤ lenA l then K (.agg (takeA (lenA z) (dropA c l))) else False
      | .array _ _ _ => False
      | .other => False
      | _ => if c < lenA l then K (getA l c) else False
    | _ => False
  | .cel k i c => match lookH hp k with
    | some (.rows _ ks xs) => match Γ.τ t with
      | .struct _ z => if c + lenA z ≤ lenK ks then K (.agg (rowAVs ks (row xs i) c (lenA z))) else False
      | .array _ _ _ => False
      | .other => False
      | _ => match getK ks c with
        | some kd => K (kd.av (rc (row xs i) c))
        | none => False
    | some (.arr ks xs) => match Γ.τ t with
      | .struct _ z => if c + lenA z ≤ lenK ks then K (.agg (rowAVs ks (row xs i) c (lenA z))) else False
      | .array n esz _ => i = 0 ∧ c = 0 ∧ n * esz = xs.length * lenK ks ∧ K (.arr ks xs)
      | .other => False
      | _ => match getK ks c with
        | some kd => K (kd.av (rc (row xs i) c))
        | none => False
    | _ => False
  | .vcel ks xs i c => match Γ.τ t with
    | .struct _ z => if c + lenA z ≤ lenK ks then K (.agg (rowAVs ks (row xs i) c (lenA z))) else False
    | .array _ _ _ => False
    | .other => False
    | _ => match getK ks c with
      | some kd => K (kd.av (rc (row xs i) c))
      | none => False
  | .vvc ks xss i => match Γ.τ t with
    | .slice _ _ _ _ => K (.view ks (xss.getD i []))
    | _ => False
  | _ => False

def dropK : Nat → List Kd → List Kd
  | 0, l => l
  | _ + 1, [] => []
  | n + 1, _ :: r => dropK n r
def takeK : Nat → List Kd → List Kd
  | 0, _ => []
  | _ + 1, [] => []
  | n + 1, a :: r => a :: takeK n r

def TI.size : TI → Nat
  | .struct _ z => lenA z
  | .array n esz _ => n * esz
  | _ => 1

def AV.stored : AV → Bool
  | .top => false
  | .tup _ => false
  | .arr _ _ => false
  | _ => true
def TI.known : TI → Bool
  | .other => false
  | _ => true

def stepStore (Γ : Cx) (t : Nat) (hp : List (Option Entry)) (a v : AV) (K : List (Option Entry) → Prop) : Prop :=
  if (Γ.τ t).known then
  match a with
  | .box k c => match lookH hp k with
    | some (.box l) => if v.stored then (if lenA v.cells = (Γ.τ t).size then (if c + lenA v.cells ≤ lenA l then K (setH hp k (some (.box (putAt l c v.cells)))) else False) else False) else False
    | _ => False
  | .cel k i c => match lookH hp k with
    | some (.rows e ks xs) => if v.stored then (match scs (takeK (Γ.τ t).size (dropK c ks)) v.cells with
      | some r => if lenA v.cells = (Γ.τ t).size then (if c + lenA v.cells ≤ lenK ks then K (setH hp k (some (.rows e ks (xs.set i (pasteR (row xs i) c r))))) else False) else False
      | none => False) else False
    | some (.arr ks xs) => if v.stored then (match scs (takeK (Γ.τ t).size (dropK c ks)) v.cells with
        | some r => if lenA v.cells = (Γ.τ t).size then (if c + lenA v.cells ≤ lenK ks then K (setH hp k (some (.arr ks (xs.set i (pasteR (row xs i) c r))))) else False) else False
        | none => False)
      else (match v with
        | .arr js ys => i = 0 ∧ c = 0 ∧ js = ks ∧ ys.length = xs.length ∧ (Γ.τ t).size = ys.length * lenK ks ∧ K (setH hp k (some (.arr ks ys)))
        | _ => False)
    | _ => False
  | _ => False
  else False

def stepIndexAddr (Γ : Cx) (t : Nat) (hp : List (Option Entry)) (x ix : AV) (K : AV → Prop) : Prop :=
  match ix with
  | .int _ i => match Γ.τ t with
    | .slice _ esz _ _ => match x with
      | .view ks xs => if lenK ks = esz then (0 ≤ i ∧ i < xs.length) ∧ K (.vcel ks xs i.toNat 0) else False
      | .vv ks xss => if esz = 1 then (0 ≤ i ∧ i < xss.length) ∧ K (.vvc ks xss i.toNat) else False
      | .own k => match lookH hp k with
        | some (.rows _ ks xs) => if lenK ks = esz then (0 ≤ i ∧ i < xs.length) ∧ K (.cel k i.toNat 0) else False
        | some (.nest _ _ _ xss) => if esz = 1 then (0 ≤ i ∧ i < xss.length) ∧ K (.cel k i.toNat 0) else False
        | _ => False
      | _ => False
    | .array n esz ks => match x with
      | .cel k j 0 => match lookH hp k with
        | some (.arr js xs) => if lenK js = lenK ks then (0 ≤ i ∧ i < n) ∧ j + n * (esz / lenK ks) ≤ xs.length ∧ K (.cel k (j + i.toNat * (esz / lenK ks)) 0) else False
        | _ => False
      | _ => False
    | _ => False
  | _ => False

/-- A cell of a package table. -/
def stepGl (Γ : Cx) (t g : Nat) (ix : AV) (K : AV → Prop) : Prop :=
  match ix with
  | .int _ i => match Γ.τ t with
    | .array n esz _ => match glTab g with
      | some (ks, xs) => if lenK ks = esz then (0 ≤ i ∧ i < n) ∧ n ≤ xs.length ∧ K (.vcel ks xs i.toNat 0) else False
      | none => False
    | _ => False
  | _ => False
def stepIndexAddrG (Γ : Cx) (t : Nat) (tm : List (Nat × AV)) (hp : List (Option Entry)) (x : Operand) (ix : AV) (K : AV → Prop) : Prop :=
  match x with
  | .global g => stepGl Γ t g ix K
  | x => stepIndexAddr Γ t hp (evalT tm x) ix K

def nthN : List Nat → Nat → Option Nat
  | [], _ => none
  | a :: _, 0 => some a
  | _ :: r, k + 1 => nthN r k

def stepFieldAddr (Γ : Cx) (t : Nat) (a : AV) (f : Nat) (K : AV → Prop) : Prop :=
  match Γ.τ t with
  | .struct offs _ => match nthN offs f with
    | some o => match a with
      | .box k c => K (.box k (c + o))
      | .cel k i c => K (.cel k i (c + o))
      | .vcel ks xs i c => K (.vcel ks xs i (c + o))
      | _ => False
    | none => False
  | _ => False

def partRows (ks : List Kd) : List (Nat × AV) → Nat → Option (List Row)
  | [], _ => some []
  | (i, v) :: r, n =>
    if i = n then
      match scs ks v.cells with
      | some x => match partRows ks r (n + 1) with
        | some xs => some (x :: xs)
        | none => none
      | none => none
    else none
def evalParts (tm : List (Nat × AV)) : List (Nat × Operand) → List (Nat × AV)
  | [] => []
  | (i, x) :: r => (i, evalT tm x) :: evalParts tm r
def lenP : List Row → Nat
  | [] => 0
  | _ :: r => lenP r + 1

def stepAppend (m : Nat) (tm : List (Nat × AV)) (hp : List (Option Entry)) (e eb : Nat) (ks : List Kd) (s x : AV) (dst : Option Nat) (K : St → Prop) : Prop :=
  match rowsH hp x with
  | some (js, ys) => if lenK ks = 0 then False else if eb = 0 then False else js = ks ∧ match s with
    | .nil _ => ys.length * eb ≤ 140737488355328 ∧ putH tm (pushH hp (.rows e ks ys)) dst (.own (lenH hp)) K
    | .own k => match lookH hp k with
      | some (.rows e' ks' xs) => m ≤ k ∧ e' = e ∧ ks' = ks ∧ (xs.length + ys.length) * eb ≤ 140737488355328 ∧
        (x.hits k = false) ∧ putTH (killT k tm) (setH (killH k hp) k (some (.rows e ks (xs ++ ys)))) dst (.own k) K
      | _ => False
    | _ => False
  | none => False

/-- A slice of slices appended to another one: both given up for the new one. -/
def stepAppN (m : Nat) (tm : List (Nat × AV)) (hp : List (Option Entry)) (e eb : Nat) (s x : AV) (dst : Option Nat) (K : St → Prop) : Prop :=
  if eb = 0 then False else match x with
  | .own j => match lookH hp j with
    | some (.nest e2 f ks yss) => match s with
      | .nil _ => m ≤ j ∧ e2 = e ∧ yss.length * eb ≤ 140737488355328 ∧ putTH (killsT [j] tm) (pushH (killsH [j] hp) (.nest e f ks yss)) dst (.own (lenH hp)) K
      | .own k => match lookH hp k with
        | some (.nest e1 f1 js xss) => m ≤ j ∧ m ≤ k ∧ Nat.beq k j = false ∧ e2 = e ∧ e1 = e ∧ f1 = f ∧ js = ks ∧ (xss.length + yss.length) * eb ≤ 140737488355328 ∧
          putTH (killsT [k, j] tm) (setH (killsH [k, j] hp) k (some (.nest e f ks (xss ++ yss)))) dst (.own k) K
        | _ => False
      | _ => False
    | _ => False
  | _ => False

/-- The parts of a slice of slices that is written out: slices of our own, given up. -/
def stepParts (m : Nat) (hp : List (Option Entry)) (f : Nat) (ks : List Kd) : List (Nat × AV) → Nat → (List Nat → List (List Row) → Prop) → Prop
  | [], _, K => K [] []
  | (i, v) :: r, n, K => if i = n then (match v with
    | .own j => match lookH hp j with
      | some (.rows f' ks' xs) => m ≤ j ∧ f' = f ∧ ks' = ks ∧ stepParts m hp f ks r (n + 1) fun js xss => K (j :: js) (xs :: xss)
      | _ => False
    | _ => False) else False
def lenX : List (List Row) → Nat
  | [] => 0
  | _ :: r => lenX r + 1
def memN' (t : Nat) : List Nat → Bool
  | [] => false
  | a :: r => a == t || memN' t r
def nodupN' : List Nat → Bool
  | [] => true
  | a :: r => !memN' a r && nodupN' r
def stepBuildN (Γ : Cx) (e n : Nat) (parts : List (Nat × AV)) (tm : List (Nat × AV)) (hp : List (Option Entry)) (dst : Option Nat) (K : St → Prop) : Prop :=
  match Γ.τ e with
  | .slice f _ _ ks => n ≤ 16777216 ∧ stepParts Γ.m hp f ks parts 0 fun js xss => lenX xss = n ∧ nodupN' js = true ∧
      putTH (killsT js tm) (pushH (killsH js hp) (.nest e f ks xss)) dst (.own (lenH hp)) K
  | _ => False
/-- A slice of our own laid into a cell of a slice of slices of our own: it is given up. -/
def stepStoreN (m : Nat) (tm : List (Nat × AV)) (hp : List (Option Entry)) (k i j : Nat) (dst : Option Nat) (K : St → Prop) : Prop :=
  match lookH hp k with
  | some (.nest e f ks xss) => match lookH hp j with
    | some (.rows f' ks' xs) => m ≤ k ∧ m ≤ j ∧ f' = f ∧ ks' = ks ∧ putTH (killsT [j] tm) (setH (killsH [j] hp) k (some (.nest e f ks (xss.set i xs)))) dst .top K
    | _ => False
  | _ => False
def isNest (hp : List (Option Entry)) (k : Nat) : Bool := match lookH hp k with
  | some (.nest _ _ _ _) => true
  | _ => false

def optInt : Option AV → Int → Option Int
  | none, d => some d
  | some (.int _ i), _ => some i
  | some _, _ => none

def stepSlice (m esz : Nat) (tm : List (Nat × AV)) (hp : List (Option Entry)) (x : AV) (lo hi : Option AV) (dst : Option Nat) (K : St → Prop) : Prop :=
  match x with
  | .view ks xs => match optInt lo 0, optInt hi xs.length with
    | some l, some h => if lenK ks = esz then (0 ≤ l ∧ l ≤ h ∧ h ≤ xs.length) ∧ putC tm hp dst (.view ks ((xs.take h.toNat).drop l.toNat)) K else False
    | _, _ => False
  | .nil ks => match optInt lo 0, optInt hi 0 with
    | some l, some h => (0 ≤ l ∧ l ≤ h ∧ h ≤ 0) ∧ putC tm hp dst (.nil ks) K
    | _, _ => False
  | .own k => match lookH hp k with
    | some (.rows _ ks xs) => match optInt lo 0, optInt hi xs.length with
      | some l, some h => if lenK ks = esz then m ≤ k ∧ (0 ≤ l ∧ l ≤ h ∧ h ≤ xs.length) ∧
        putTH (thawT k (.view ks xs) tm) (setH (thawH k (.view ks xs) hp) k none) dst (.view ks ((xs.take h.toNat).drop l.toNat)) K else False
      | _, _ => False
    | _ => False
  | _ => False

/-- A value as a callee sees it: cells. -/
def deep1H (hp : List (Option Entry)) : AV → AV
  | .own k => match lookH hp k with
    | some (.rows _ ks xs) => .view ks xs
    | some (.nest _ _ ks xss) => .vv ks xss
    | some (.vnest _ ks xss) => .vv ks xss
    | _ => .top
  | .nil ks => .view ks []
  | .int k n => .int k n
  | .bool b => .bool b
  | .str l => .str l
  | .view ks xs => .view ks xs
  | .vcel ks xs i c => .vcel ks xs i c
  | .vv ks xss => .vv ks xss
  | _ => .top
def deepLH (hp : List (Option Entry)) : List AV → List AV
  | [] => []
  | v :: r => deep1H hp v :: deepLH hp r
/-- Cells that own nothing. -/
def plainL : List AV → Bool
  | [] => true
  | .int _ _ :: r => plainL r
  | .bool _ :: r => plainL r
  | .str _ :: r => plainL r
  | .view _ _ :: r => plainL r
  | .nil _ :: r => plainL r
  | .top :: r => plainL r
  | _ => false
def deep2H (hp : List (Option Entry)) (io : Bool) : AV → AV
  | .box k c => if c = 0 then (match lookH hp k with
    | some (.box l) => if plainL l then .bx (deepLH hp l) else .top
    | _ => .top) else .top
  | .cel k i c => if c = 0 then (if i = 0 then (match lookH hp k with
    | some (.arr ks xs) => .pa ks xs
    | _ => .top) else .top) else .top
  | .agg l => .agg (deepLH hp l)
  | .fn f l => .fn f (deepLH hp l)
  | .arr ks xs => .arr ks xs
  | .own k => match lookH hp k with
    | some (.rows e ks xs) => if io then .fr e ks xs else .view ks xs
    | some (.nest _ _ ks xss) => .vv ks xss
    | some (.vnest _ ks xss) => .vv ks xss
    | _ => .top
  | v => deep1H hp v
def deepsH (hp : List (Option Entry)) : List Bool → List AV → List AV
  | _, [] => []
  | [], v :: r => deep2H hp false v :: deepsH hp [] r
  | b :: bs, v :: r => deep2H hp b v :: deepsH hp bs r

/-- The entries that a deep value hands over, and those that it only shows. -/
def ids2 (v d : AV) : List Nat :=
  match d, v with
  | .bx _, .box k _ => [k]
  | .pa _ _, .cel k _ _ => [k]
  | .fr _ _ _, .own k => [k]
  | _, _ => []
def idsL2 : List AV → List AV → List Nat
  | v :: r, d :: s => ids2 v d ++ idsL2 r s
  | _, _ => []
def shown1 : AV → List Nat
  | .own k => [k]
  | _ => []
def shownL : List AV → List Nat
  | [] => []
  | v :: r => shown1 v ++ shownL r
def shown2 (v d : AV) : List Nat :=
  match d, v with
  | .fr _ _ _, _ => []
  | _, .own k => [k]
  | _, .agg l => shownL l
  | _, .fn _ l => shownL l
  | _, _ => []
def shownL2 : List AV → List AV → List Nat
  | v :: r, d :: s => shown2 v d ++ shownL2 r s
  | _, _ => []
def nodupN : List Nat → Bool
  | [] => true
  | a :: r => !memN a r && nodupN r
def apartN : List Nat → List Nat → Bool
  | [], _ => true
  | a :: r, s => !memN a s && apartN r s

/-- No part of a value is a slice that is only read. -/
def viewFreeL : List AV → Bool
  | [] => true
  | .view _ _ :: _ => false
  | .vcel _ _ _ _ :: _ => false
  | .vv _ _ :: _ => false
  | .vvc _ _ _ :: _ => false
  | _ :: r => viewFreeL r
def viewFree2 : AV → Bool
  | .view _ _ => false
  | .vcel _ _ _ _ => false
  | .vv _ _ => false
  | .vvc _ _ _ => false
  | .agg l => viewFreeL l
  | .fn _ l => viewFreeL l
  | .bx l => viewFreeL l
  | _ => true
def viewFreeL2 : List AV → Bool
  | [] => true
  | v :: r => viewFree2 v && viewFreeL2 r
def viewFree : AV → Bool
  | .tup l => viewFreeL2 l
  | v => viewFree2 v

/-- What is handed back is laid into the caller's state: fresh rows become entries. -/
def mat1 (hp : List (Option Entry)) : AV → AV × List (Option Entry)
  | .fr e ks xs => (.own (lenH hp), pushH hp (.rows e ks xs))
  | .frn e f ks xss => (.own (lenH hp), pushH hp (.nest e f ks xss))
  | v => (v, hp)
def matL (hp : List (Option Entry)) : List AV → List AV × List (Option Entry)
  | [] => ([], hp)
  | v :: r => ((mat1 hp v).1 :: (matL (mat1 hp v).2 r).1, (matL (mat1 hp v).2 r).2)
def mat2 (hp : List (Option Entry)) : AV → AV × List (Option Entry)
  | .agg l => (.agg (matL hp l).1, (matL hp l).2)
  | .fn f l => (.fn f (matL hp l).1, (matL hp l).2)
  | .bx l => (.box (lenH hp) 0, pushH hp (.box l))
  | .pa ks xs => (.cel (lenH hp) 0 0, pushH hp (.arr ks xs))
  | v => mat1 hp v
def matL2 (hp : List (Option Entry)) : List AV → List AV × List (Option Entry)
  | [] => ([], hp)
  | v :: r => ((mat2 hp v).1 :: (matL2 (mat2 hp v).2 r).1, (matL2 (mat2 hp v).2 r).2)
def mat3 (hp : List (Option Entry)) : AV → AV × List (Option Entry)
  | .tup l => (.tup (matL2 hp l).1, (matL2 hp l).2)
  | v => mat2 hp v

/-- The arguments as they read behind the call: those that were handed over as the callee says, the others as before. -/
def handed : AV → Bool
  | .bx _ => true
  | .pa _ _ => true
  | .fr _ _ _ => true
  | _ => false
def mergeIo : List AV → List AV → List AV
  | [], _ => []
  | d :: ds, io => if handed d then (match io with
      | c :: cs => c :: mergeIo ds cs
      | [] => d :: mergeIo ds []) else d :: mergeIo ds io

/-- No place that was handed over holds a slice that is only read. -/
def ioFree : List AV → Bool
  | [] => true
  | c :: r => (if handed c then viewFree2 c else true) && ioFree r

/-- What is handed back for a place is of its form. -/
def shapeL : List AV → List AV → Prop
  | [], _ => True
  | .fr _ ks xs :: ds, c :: cs => (match c with
    | .fr _ js ys => lenK js = lenK ks ∧ ys.length = xs.length
    | _ => False) ∧ shapeL ds cs
  | .pa ks xs :: ds, c :: cs => (match c with
    | .pa js ys => lenK js = lenK ks ∧ ys.length = xs.length
    | _ => False) ∧ shapeL ds cs
  | .bx _ :: ds, c :: cs => (match c with
    | .bx _ => True
    | _ => False) ∧ shapeL ds cs
  | _ :: ds, _ :: cs => shapeL ds cs
  | _ :: _, [] => False

/-- What a call has left in the places that were handed over. -/
def ioPut1 (hp : List (Option Entry)) (v c : AV) : List (Option Entry) :=
  match v, c with
  | .own k, .fr e ks xs => setH hp k (some (.rows e ks xs))
  | .box k _, .bx l => setH hp k (some (.box l))
  | .cel k _ _, .pa ks xs => setH hp k (some (.arr ks xs))
  | _, _ => hp
def ioPut (hp : List (Option Entry)) : List AV → List AV → List (Option Entry)
  | v :: vs, c :: cs => ioPut (ioPut1 hp v c) vs cs
  | _, _ => hp

def evals (tm : List (Nat × AV)) : List Operand → List AV
  | [] => []
  | x :: r => evalT tm x :: evals tm r

def stepCall (Γ : Cx) (tm : List (Nat × AV)) (hp : List (Option Entry)) (f : Nat) (args : List AV) (dst : Option Nat) (K : St → Prop) : Prop :=
  match Γ.ct f with
  | some C => (nodupN (idsL2 args (deepsH hp C.io args)) = true ∧ apartN (idsL2 args (deepsH hp C.io args)) (shownL2 args (deepsH hp C.io args)) = true) ∧
      C.rel (deepsH hp C.io args) fun r io =>
      (shownL2 args (deepsH hp C.io args) = [] ∨ (viewFree r = true ∧ ioFree (mergeIo (deepsH hp C.io args) io) = true)) ∧ shapeL (deepsH hp C.io args) (mergeIo (deepsH hp C.io args) io) ∧
      putH tm (mat3 (ioPut hp args (mergeIo (deepsH hp C.io args) io)) r).2 dst (mat3 (ioPut hp args (mergeIo (deepsH hp C.io args) io)) r).1 K
  | none => False

/-- What a state hands back: cells. -/
def out1 (m : Nat) (hp : List (Option Entry)) (v r : AV) : Prop :=
  match r with
  | .top => True
  | .int k n => match v with
    | .int j l => j = k ∧ l = n
    | _ => False
  | .bool x => match v with
    | .bool y => y = x
    | _ => False
  | .str x => match v with
    | .str y => y = x
    | _ => False
  | .view ks xs => match v with
    | .view js ys => js = ks ∧ ys = xs
    | .nil _ => xs = []
    | .own k => match lookH hp k with
      | some (.rows _ js ys) => m ≤ k ∧ js = ks ∧ ys = xs
      | _ => False
    | _ => False
  | .fr e ks xs => match v with
    | .own k => match lookH hp k with
      | some (.rows f js ys) => m ≤ k ∧ f = e ∧ js = ks ∧ ys = xs
      | _ => False
    | .nil _ => xs = []
    | _ => False
  | .vv ks xss => match v with
    | .vv js yss => js = ks ∧ yss = xss
    | .nil _ => xss = []
    | .own k => match lookH hp k with
      | some (.nest _ _ js yss) => m ≤ k ∧ js = ks ∧ yss = xss
      | some (.vnest _ js yss) => m ≤ k ∧ js = ks ∧ yss = xss
      | _ => False
    | _ => False
  | .frn e f ks xss => match v with
    | .own k => match lookH hp k with
      | some (.nest e' f' js yss) => m ≤ k ∧ e' = e ∧ f' = f ∧ js = ks ∧ yss = xss
      | _ => False
    | .nil _ => xss = []
    | _ => False
  | _ => False
def outL (m : Nat) (hp : List (Option Entry)) : List AV → List AV → Prop
  | [], [] => True
  | v :: l, r :: s => out1 m hp v r ∧ outL m hp l s
  | _, _ => False
def out2 (m : Nat) (hp : List (Option Entry)) (v r : AV) : Prop :=
  match r with
  | .agg s => match v with
    | .agg l => outL m hp l s
    | _ => False
  | .arr ks xs => match v with
    | .arr js ys => js = ks ∧ ys = xs
    | _ => False
  | .bx s => match v with
    | .box k c => match lookH hp k with
      | some (.box l) => c = 0 ∧ m ≤ k ∧ plainL l = true ∧ viewsL s = true ∧ outL m hp l s
      | _ => False
    | _ => False
  | r => out1 m hp v r
where viewsL : List AV → Bool
  | [] => true
  | .fr _ _ _ :: _ => false
  | .frn _ _ _ _ :: _ => false
  | _ :: r => viewsL r
def outL2 (m : Nat) (hp : List (Option Entry)) : List AV → List AV → Prop
  | [], [] => True
  | v :: l, r :: s => out2 m hp v r ∧ outL2 m hp l s
  | _, _ => False
def out3 (m : Nat) (hp : List (Option Entry)) (vs : List AV) (r : AV) : Prop :=
  match vs with
  | [v] => out2 m hp v r
  | vs => match r with
    | .tup s => outL2 m hp vs s
    | _ => False
def oids1 (v r : AV) : List Nat :=
  match r, v with
  | .fr _ _ _, .own k => [k]
  | .frn _ _ _ _, .own k => [k]
  | _, _ => []
def oidsL : List AV → List AV → List Nat
  | v :: l, r :: s => oids1 v r ++ oidsL l s
  | _, _ => []
def oids2 (v r : AV) : List Nat :=
  match r, v with
  | .agg s, .agg l => oidsL l s
  | .bx _, .box k _ => [k]
  | r, v => oids1 v r
def oidsL2 : List AV → List AV → List Nat
  | v :: l, r :: s => oids2 v r ++ oidsL2 l s
  | _, _ => []
def oids3 (vs : List AV) (r : AV) : List Nat :=
  match vs with
  | [v] => oids2 v r
  | vs => match r with
    | .tup s => oidsL2 vs s
    | _ => []
def oshown1 (v r : AV) : List Nat :=
  match r, v with
  | .view _ _, .own k => [k]
  | .vv _ _, .own k => [k]
  | _, _ => []
def oshownL : List AV → List AV → List Nat
  | v :: l, r :: s => oshown1 v r ++ oshownL l s
  | _, _ => []
def oshown2 (v r : AV) : List Nat :=
  match r, v with
  | .agg s, .agg l => oshownL l s
  | r, v => oshown1 v r
def oshownL2 : List AV → List AV → List Nat
  | v :: l, r :: s => oshown2 v r ++ oshownL2 l s
  | _, _ => []
def oshown3 (vs : List AV) (r : AV) : List Nat :=
  match vs with
  | [v] => oshown2 v r
  | vs => match r with
    | .tup s => oshownL2 vs s
    | _ => []
/-- What stands at the end in the entry of a handed place. -/
def ioLe1 (hp : List (Option Entry)) (k : Nat) (c : AV) : Prop :=
  match c with
  | .bx s => match lookH hp k with
    | some (.box l) => plainL l = true ∧ out2.viewsL s = true ∧ outL 0 hp l s
    | _ => False
  | .pa ks xs => match lookH hp k with
    | some (.arr js ys) => js = ks ∧ ys = xs ∧ 0 < xs.length
    | _ => False
  | .fr e ks xs => match lookH hp k with
    | some (.rows f js ys) => f = e ∧ js = ks ∧ ys = xs
    | _ => False
  | _ => True
def ioLeL2 (hp : List (Option Entry)) : Nat → List AV → Prop
  | _, [] => True
  | k, c :: r => if handed c then ioLe1 hp k c ∧ ioLeL2 hp (k + 1) r else ioLeL2 hp k r

def formL : List AV → List AV → Bool
  | d :: ds, c :: cs => (handed d == handed c) && formL ds cs
  | _, _ => true
/-- What may be an argument: no fresh rows within a struct. -/
def argsOk : List AV → Bool
  | [] => true
  | .agg l :: r => out2.viewsL l && argsOk r
  | .fn _ l :: r => out2.viewsL l && argsOk r
  | .frn _ _ _ _ :: _ => false
  | _ :: r => argsOk r
def paramsT : Nat → List AV → List (Nat × AV)
  | _, [] => []
  | i, v :: r => (i, v) :: paramsT (i + 1) r
/-- A function's state at its beginning. -/
def initSt (ds : List AV) : St := ⟨paramsT 0 (matL2 [] ds).1, (matL2 [] ds).2⟩

/-- The values that a function hands back. -/
def resV (Γ : Cx) (tm : List (Nat × AV)) (hp : List (Option Entry)) : List ResultVar → (List AV → Prop) → Prop
  | [], K => K []
  | .tmp t :: r, K => resV Γ tm hp r fun l => K (lookT tm t :: l)
  | .cell t ty :: r, K => stepLoad Γ ty hp (lookT tm t) fun v => resV Γ tm hp r fun l => K (v :: l)
/-- What a function hands back, held against its contract. -/
def ends (Γ : Cx) (res : List ResultVar) (ds : List AV) (K : AV → List AV → Prop) (σ : St) : Prop :=
  match σ with
  | ⟨tm, hp⟩ => resV Γ tm hp res fun vs => ∃ r io, K r io ∧ out3 Γ.m hp vs r ∧ nodupN (oids3 vs r) = true ∧
      apartN (oids3 vs r) (oshown3 vs r) = true ∧ formL ds (mergeIo ds io) = true ∧ ioLeL2 hp 0 (mergeIo ds io)

def minAV (op : Bool) : AV → AV → AV
  | .int k a, .int _ b => .int k (if op then min a b else max a b)
  | _, _ => .top
def foldMin (op : Bool) : AV → List AV → AV
  | v, [] => v
  | v, x :: r => foldMin op (minAV op v x) r
def allInt : List AV → Bool
  | [] => true
  | .int .i64 _ :: r => allInt r
  | _ => false

def stepBuiltin (Γ : Cx) (b : Builtin) (tys : List Nat) (args : List AV) (tm : List (Nat × AV)) (hp : List (Option Entry)) (dst : Option Nat) (K : St → Prop) : Prop :=
  match b, tys, args with
  | .len, t :: _, x :: _ => match Γ.τ t with
    | .slice _ _ _ _ => match rowsH hp x with
      | some (_, xs) => putC tm hp dst (.int .i64 xs.length) K
      | none => match nestH hp x with
        | some (_, xss) => putC tm hp dst (.int .i64 xss.length) K
        | none => False
    | .str => match x with
      | .str l => putC tm hp dst (.int .i64 l.length) K
      | _ => False
    | .array n _ _ => putC tm hp dst (.int .i64 n) K
    | _ => False
  | .append, t :: u :: _, s :: x :: _ => match Γ.τ t with
    | .slice e _ eb ks => if t = u then (match ks with
      | [] => (match Γ.τ e with
        | .slice _ _ _ _ => stepAppN Γ.m tm hp e eb s x dst K
        | _ => False)
      | ks => stepAppend Γ.m tm hp e eb ks s x dst K) else False
    | _ => False
  | .min, _, x :: r => if allInt (x :: r) then putC tm hp dst (foldMin true x r) K else False
  | .max, _, x :: r => if allInt (x :: r) then putC tm hp dst (foldMin false x r) K else False
  | _, _, _ => False

def stepMake (Γ : Cx) (t : Nat) (l c : AV) (tm : List (Nat × AV)) (hp : List (Option Entry)) (dst : Option Nat) (K : St → Prop) : Prop :=
  match Γ.τ t, l, c with
  | .slice e _ eb ks, .int .i64 n, .int .i64 m =>
    if lenK ks = 0 then (match Γ.τ e with
      | .slice f _ _ js => if eb = 0 then False else (n = m ∧ 0 ≤ n ∧ n * eb ≤ 140737488355328) ∧ putH tm (pushH hp (.nest e f js (List.replicate n.toNat []))) dst (.own (lenH hp)) K
      | _ => False)
    else if eb = 0 then False else (n = m ∧ 0 ≤ n ∧ n * eb ≤ 140737488355328) ∧ putH tm (pushH hp (.rows e ks (List.replicate n.toNat (zeroRow ks)))) dst (.own (lenH hp)) K
  | _, _, _ => False

/-- Where the field behind field f begins. -/
def nextOff (offs : List Nat) (tot f : Nat) : Nat := match nthN offs (f + 1) with
  | some o => o
  | none => tot
def buildAt (offs : List Nat) (tot : Nat) : List AV → List (Nat × AV) → Option (List AV)
  | z, [] => some z
  | z, (f, v) :: r => match nthN offs f with
    | some o => if v.stored then (if o + lenA v.cells = nextOff offs tot f then (if o + lenA v.cells ≤ lenA z then buildAt offs tot (putAt z o v.cells) r else none) else none) else none
    | none => none
def stepField (Γ : Cx) (t : Nat) (x : AV) (f : Nat) (K : AV → Prop) : Prop :=
  match Γ.τ t with
  | .struct offs zr => match x with
    | .agg l => match nthN offs f with
      | some o => if nextOff offs (lenA zr) f ≤ lenA l then (if nextOff offs (lenA zr) f = o + 1 then K (getA l o) else K (.agg (takeA (nextOff offs (lenA zr) f - o) (dropA o l)))) else False
      | none => False
    | _ => False
  | _ => False
def byteAt (l : List UInt8) (i : Nat) : Int := ((l.getD i 0).toNat : Int)
def stepIndex (Γ : Cx) (t : Nat) (x ix : AV) (K : AV → Prop) : Prop :=
  match ix with
  | .int _ i => match Γ.τ t with
    | .str => match x with
      | .str l => (0 ≤ i ∧ i < l.length) ∧ K (.int .u8 (byteAt l i.toNat))
      | _ => False
    | _ => False
  | _ => False

/-- Plain cells as a row. -/
def plainRow : List AV → Option (List Kd × Row)
  | [] => some ([], [])
  | v :: r => match plainRow r with
    | some (ks, s) => match v with
      | .int k n => some (.int k :: ks, .i n :: s)
      | .bool b => some (.bool :: ks, .b b :: s)
      | .str l => some (.str :: ks, .s l :: s)
      | _ => none
    | none => none
/-- Every pointer into box k read as a pointer to what is only read, and the box given up. -/
def freeze1 (k : Nat) (ks : List Kd) (r : Row) : AV → AV
  | .box j c => if k = j then .vcel ks [r] 0 c else .box j c
  | v => if v.hits k then .top else v
def freezeT (k : Nat) (ks : List Kd) (r : Row) : List (Nat × AV) → List (Nat × AV)
  | [] => []
  | (t, v) :: l => (t, freeze1 k ks r v) :: freezeT k ks r l
def freezeA (k : Nat) (ks : List Kd) (r : Row) : List AV → List AV
  | [] => []
  | v :: l => freeze1 k ks r v :: freezeA k ks r l
def freezeH (k : Nat) (ks : List Kd) (r : Row) : List (Option Entry) → List (Option Entry)
  | [] => []
  | some (.box l) :: h => some (.box (freezeA k ks r l)) :: freezeH k ks r h
  | e :: h => e :: freezeH k ks r h
def stepFn (m : Nat) (tm : List (Nat × AV)) (hp : List (Option Entry)) : List Operand → (List (Nat × AV) → List (Option Entry) → Prop) → Prop
  | [], K => K tm hp
  | x :: r, K => match evalT tm x with
    | .box k _ => match lookH hp k with
      | some (.box l) => match plainRow l with
        | some (ks, s) => if lenK ks = 0 then False else m ≤ k ∧ stepFn m (freezeT k ks s tm) (setH (freezeH k ks s hp) k none) r K
        | none => False
      | _ => False
    | .vcel _ _ _ _ => stepFn m tm hp r K
    | _ => False

def zeroOk : List AV → Bool
  | [] => true
  | .int _ _ :: r => zeroOk r
  | .bool _ :: r => zeroOk r
  | .str _ :: r => zeroOk r
  | .nil _ :: r => zeroOk r
  | _ => false
def entryOk : Entry → Bool
  | .box l => zeroOk l
  | _ => true

/-- A nil slice gets the kinds of its type. -/
def retype (ti : TI) : AV → AV
  | .nil _ => match ti with
    | .slice _ _ _ ks => .nil ks
    | _ => .nil []
  | v => v
def retypes (τ : Nat → TI) : List Nat → List AV → List AV
  | t :: ts, v :: r => retype (τ t) v :: retypes τ ts r
  | _, r => r

/-- Slices of entries ks given up: they are only read from here on. -/
def thawAll (m : Nat) : List Nat → List (Nat × AV) → List (Option Entry) → (List (Nat × AV) → List (Option Entry) → Prop) → Prop
  | [], tm, hp, K => K tm hp
  | k :: r, tm, hp, K => match lookH hp k with
    | some (.rows _ ks xs) => m ≤ k ∧ thawAll m r (thawT k (.view ks xs) tm) (setH (thawH k (.view ks xs) hp) k none) K
    | none => thawAll m r tm hp K
    | _ => False
def appA : List AV → List AV → List AV
  | [], m => m
  | a :: l, m => a :: appA l m

/-- A call that takes rows out of a slice in place: the slice shown is given up, the answer is what is left of it. -/
def stepDel (m : Nat) (D : Option Spc) (tm : List (Nat × AV)) (hp : List (Option Entry)) (args : List AV) (dst : Option Nat) (K : St → Prop) : Prop :=
  match D with
  | some (.mark e f ks pre M) => match args with
    | [.agg [.own k], .int .i64 n] => match lookH hp k with
      | some (.nest e' f' ks' xss) => m ≤ k ∧ e' = e ∧ f' = f ∧ ks' = ks ∧ pre n xss ∧ putH tm (setH hp k (some (.nest e f ks (M n xss).2))) dst (.int .i64 (M n xss).1) K
      | _ => False
    | _ => False
  | some (.give e f ks rel) => match args with
    | [a1, a2, a3, .own j] => match lookH hp j with
      | some (.nest e' f' ks' yss) => m ≤ j ∧ e' = e ∧ f' = f ∧ ks' = ks ∧ apartN [j] (shownL2 [a1, a2, a3] (deepsH hp [] [a1, a2, a3])) = true ∧ idsL2 [a1, a2, a3] (deepsH hp [] [a1, a2, a3]) = [] ∧
        rel (appA (deepsH hp [] [a1, a2, a3]) [.frn e f ks yss]) fun r => match r with
          | .agg [.frn e2 f2 ks2 zss] => e2 = e ∧ f2 = f ∧ ks2 = ks ∧ putTH (killsT [j] tm) (pushH (killsH [j] hp) (.nest e f ks zss)) dst (.agg [.own (lenH hp)]) K
          | _ => False
      | _ => False
    | _ => False
  | some (.grow e eb ks) => match args with
    | [.nil _, .int .i64 n] => (0 ≤ n ∧ n * eb ≤ 140737488355328) ∧ putH tm (pushH hp (.rows e ks [])) dst (.own (lenH hp)) K
    | _ => False
  | some (.del e ks) => match args with
    | [.own k, .int .i64 i, .int .i64 j] => match lookH hp k with
      | some (.rows e' ks' xs) => m ≤ k ∧ e' = e ∧ ks' = ks ∧ (0 ≤ i ∧ i < j ∧ j ≤ xs.length) ∧
        putTH (killT k tm) (setH (killH k hp) k (some (.rows e ks (xs.take i.toNat ++ xs.drop j.toNat)))) dst (.own k) K
      | _ => False
    | _ => False
  | none => False
/-- A call: where places are handed over, slices that are shown beside them are given up first. -/
def stepCall' (Γ : Cx) (tm : List (Nat × AV)) (hp : List (Option Entry)) (tys : List Nat) (x : Operand) (al : List Operand) (f : Nat) (caps : List AV) (dst : Option Nat) (K : St → Prop) : Prop :=
  match Γ.ct f with
  | some C =>
    match idsL2 (appA (retypes Γ.τ tys (evals tm al)) caps) (deepsH hp C.io (appA (retypes Γ.τ tys (evals tm al)) caps)) with
    | [] => stepCall Γ tm hp f (appA (retypes Γ.τ tys (evals tm al)) caps) dst K
    | _ :: _ => match shownL2 (appA (retypes Γ.τ tys (evals tm al)) caps) (deepsH hp C.io (appA (retypes Γ.τ tys (evals tm al)) caps)) with
      | [] => stepCall Γ tm hp f (appA (retypes Γ.τ tys (evals tm al)) caps) dst K
      | l => thawAll Γ.m l tm hp fun tm hp => forceH hp fun hp => forceT tm fun tm => match evalT tm x with
        | .fn f caps => stepCall Γ tm hp f (appA (retypes Γ.τ tys (evals tm al)) caps) dst K
        | _ => False
  | none => stepDel Γ.m (Γ.del f) tm hp (appA (retypes Γ.τ tys (evals tm al)) caps) dst K

def stepOp (Γ : Cx) (o : Oper) (tm : List (Nat × AV)) (hp : List (Option Entry)) (K : St → Prop) : Prop :=
  match o.op with
  | .move x => putC tm hp o.dst (retype (Γ.τ o.type) (evalT tm x)) K
  | .assign x => putC tm hp o.dst (retype (Γ.τ o.type) (evalT tm x)) K
  | .pick c a b => match evalT tm c with
    | .bool t => (t = true → putC tm hp o.dst (evalT tm a) K) ∧ (t = false → putC tm hp o.dst (evalT tm b) K)
    | _ => False
  | .alloc t => match (Γ.τ t).zero with
    | some e => if entryOk e then putH tm (pushH hp e) o.dst (firstPlace (lenH hp) e) K else False
    | none => False
  | .box t x => match Γ.τ t, evalT tm x with
    | .struct _ z, .agg l => if lenA l = lenA z then putH tm (pushH hp (.box l)) o.dst (.box (lenH hp) 0) K else False
    | .array _ _ _, .arr ks xs => 0 < xs.length ∧ putH tm (pushH hp (.arr ks xs)) o.dst (.cel (lenH hp) 0 0) K
    | .int _, .int k n => putH tm (pushH hp (.box [.int k n])) o.dst (.box (lenH hp) 0) K
    | _, _ => False
  | .load t a => stepLoad Γ t hp (evalT tm a) fun v => putC tm hp o.dst v K
  | .store t a v => match evalT tm a, evalT tm v with
    | .cel k i c, .own j => (match isNest hp k with
      | true => c = 0 ∧ (Γ.τ t).size = 1 ∧ (Γ.τ t).known = true ∧ stepStoreN Γ.m tm hp k i j o.dst K
      | false => stepStore Γ t hp (.cel k i c) (.own j) fun hp => putH tm hp o.dst .top K)
    | a, v => stepStore Γ t hp a v fun hp => putH tm hp o.dst .top K
  | .nilCheck x => match evalT tm x with
    | .box k c => putC tm hp o.dst (.box k c) K
    | .cel k i c => putC tm hp o.dst (.cel k i c) K
    | _ => False
  | .binOp op T x y _ => stepBin Γ op T hp (evalT tm x) (evalT tm y) fun v => putC tm hp o.dst v K
  | .unOp .not _ x => match evalT tm x with
    | .bool b => putC tm hp o.dst (.bool !b) K
    | _ => False
  | .unOp .neg _ x => match evalT tm x with
    | .int k n => Fits k (0 - n) ∧ putC tm hp o.dst (.int k (0 - n)) K
    | _ => False
  | .convert s t x => match Γ.τ s, Γ.τ t, evalT tm x with
    | .int _, .int k, .int _ n => Fits k n ∧ putC tm hp o.dst (.int k n) K
    | _, _, _ => False
  | .makeSlice t l c => stepMake Γ t (evalT tm l) (evalT tm c) tm hp o.dst K
  | .slice t x lo hi none => match Γ.τ t with
    | .slice _ esz _ _ => stepSlice Γ.m esz tm hp (evalT tm x) (lo.map (evalT tm)) (hi.map (evalT tm)) o.dst K
    | _ => False
  | .fieldAddr t x f => stepFieldAddr Γ t (evalT tm x) f fun v => putC tm hp o.dst v K
  | .indexAddr t x ix => stepIndexAddrG Γ t tm hp x (evalT tm ix) fun v => putC tm hp o.dst v K
  | .buildSlice t n parts => match Γ.τ t with
    | .slice e _ _ [] => stepBuildN Γ e n (evalParts tm parts.toList) tm hp o.dst K
    | .slice e _ _ ks => match partRows ks (evalParts tm parts.toList) 0 with
      | some xs => if lenP xs = n then (if lenK ks = 0 then False else if n * lenK ks ≤ 16777216 then putH tm (pushH hp (.rows e ks xs)) o.dst (.own (lenH hp)) K else False) else False
      | none => False
    | _ => False
  | .extract x i => match evalT tm x with
    | .tup l => if i < lenA l then putC tm hp o.dst (getA l i) K else False
    | _ => False
  | .makeFunc (.func f) first caps => if first.size = 0 then stepFn Γ.m tm hp caps.toList fun tm hp => putTH tm hp o.dst (.fn f (evals tm caps.toList)) K else False
  | .call c => match c.callee with
    | .builtin b => stepBuiltin Γ b c.argTypes.toList (evals tm c.args.toList) tm hp o.dst K
    | .value x => match evalT tm x with
      | .fn f caps => stepCall' Γ tm hp c.argTypes.toList x c.args.toList f caps o.dst K
      | _ => False
    | _ => False
  | .build t parts => match Γ.τ t with
    | .struct offs z => if zeroOk z then (match buildAt offs (lenA z) z (evalParts tm parts.toList) with
      | some l => putC tm hp o.dst (.agg l) K
      | none => False) else False
    | .array n esz ks => (match parts.toList with
      | [] => putC tm hp o.dst (.arr ks (List.replicate (n * esz / lenK ks) (zeroRow ks))) K
      | _ => False)
    | _ => False
  | .field t x f => stepField Γ t (evalT tm x) f fun v => putC tm hp o.dst v K
  | .index t x ix => stepIndex Γ t (evalT tm x) (evalT tm ix) fun v => putC tm hp o.dst v K
  | _ => False

/-- The tmp on which operation j of a region leaves its answer. -/
def dstOf (ops : List Oper) (j : Nat) : Option Nat :=
  match ops, j with
  | [], _ => none
  | o :: _, 0 => o.dst
  | _ :: r, j + 1 => dstOf r j

def vcOps (Γ : Cx) (all : List Oper) : List Oper → St → (St → Prop) → Prop
  | [], σ, K => K σ
  | o :: r, ⟨tm, hp⟩, K =>
    match o.guard with
    | none => stepOp Γ o tm hp fun σ' => vcOps Γ all r σ' K
    | some (j, want) => match dstOf all j with
      | some t => match lookT tm t with
        | .bool b => match want with
          | true => (b = true → stepOp Γ o ((t, .bool true) :: tm) hp fun σ' => vcOps Γ all r σ' K) ∧
            (b = false → putC ((t, .bool false) :: tm) hp o.dst (.tup []) fun σ' => vcOps Γ all r σ' K)
          | false => (b = false → stepOp Γ o ((t, .bool false) :: tm) hp fun σ' => vcOps Γ all r σ' K) ∧
            (b = true → putC ((t, .bool true) :: tm) hp o.dst (.tup []) fun σ' => vcOps Γ all r σ' K)
        | .tup [] => putC tm hp o.dst (.tup []) fun σ' => vcOps Γ all r σ' K
        | _ => False
      | none => False

/-- A value of which nothing is left open. -/
def isDetL : List AV → Bool
  | [] => true
  | .int _ _ :: r => isDetL r
  | .bool _ :: r => isDetL r
  | .str _ :: r => isDetL r
  | _ => false
def isDet : AV → Bool
  | .int _ _ => true
  | .bool _ => true
  | .str _ => true
  | .agg l => isDetL l
  | _ => false

def stepCallQ (Γ : Cx) (hp : List (Option Entry)) (f : Nat) (args : List AV) (K : AV → Prop) : Prop :=
  match Γ.ct f with
  | some C => idsL2 args (deepsH hp C.io args) = [] ∧ ∃ r, C.rel (deepsH hp C.io args) (fun r' _ => r' = r) ∧ isDet r = true ∧ K r
  | none => False
/-- An operation that only reads. -/
def stepQ (Γ : Cx) (o : Oper) (tm : List (Nat × AV)) (hp : List (Option Entry)) (K : St → Prop) : Prop :=
  match o.op with
  | .move _ => stepOp Γ o tm hp K
  | .assign _ => stepOp Γ o tm hp K
  | .pick _ _ _ => stepOp Γ o tm hp K
  | .load _ _ => stepOp Γ o tm hp K
  | .nilCheck _ => stepOp Γ o tm hp K
  | .binOp _ _ _ _ _ => stepOp Γ o tm hp K
  | .unOp _ _ _ => stepOp Γ o tm hp K
  | .convert _ _ _ => stepOp Γ o tm hp K
  | .fieldAddr _ _ _ => stepOp Γ o tm hp K
  | .indexAddr _ _ _ => stepOp Γ o tm hp K
  | .extract _ _ => stepOp Γ o tm hp K
  | .build _ _ => stepOp Γ o tm hp K
  | .field _ _ _ => stepOp Γ o tm hp K
  | .index _ _ _ => stepOp Γ o tm hp K
  | .slice _ x _ _ none => match evalT tm x with
    | .view _ _ => stepOp Γ o tm hp K
    | .nil _ => stepOp Γ o tm hp K
    | _ => False
  | .call c => match c.callee with
    | .builtin .len => stepOp Γ o tm hp K
    | .value x => match evalT tm x with
      | .fn f caps => stepCallQ Γ hp f (appA (retypes Γ.τ c.argTypes.toList (evals tm c.args.toList)) caps) fun v => putC tm hp o.dst v K
      | _ => False
    | _ => False
  | _ => False
def vcQ (Γ : Cx) (all : List Oper) : List Oper → St → (St → Prop) → Prop
  | [], σ, K => K σ
  | o :: r, ⟨tm, hp⟩, K =>
    match o.guard with
    | none => stepQ Γ o tm hp fun σ' => vcQ Γ all r σ' K
    | some (j, want) => match dstOf all j with
      | some t => match lookT tm t with
        | .bool b => match want with
          | true => (b = true → stepQ Γ o ((t, .bool true) :: tm) hp fun σ' => vcQ Γ all r σ' K) ∧
            (b = false → putC ((t, .bool false) :: tm) hp o.dst (.tup []) fun σ' => vcQ Γ all r σ' K)
          | false => (b = false → stepQ Γ o ((t, .bool false) :: tm) hp fun σ' => vcQ Γ all r σ' K) ∧
            (b = true → putC ((t, .bool true) :: tm) hp o.dst (.tup []) fun σ' => vcQ Γ all r σ' K)
        | .tup [] => putC tm hp o.dst (.tup []) fun σ' => vcQ Γ all r σ' K
        | _ => False
      | none => False

def avLe (m : Nat) (h g : List (Option Entry)) (a b : AV) : Prop :=
  match b with
  | .top => True
  | .int k n => match a with
    | .int j l => j = k ∧ l = n
    | _ => False
  | .bool x => match a with
    | .bool y => y = x
    | _ => False
  | .str x => match a with
    | .str y => y = x
    | _ => False
  | .nil _ => match a with
    | .nil _ => True
    | _ => False
  | .view ks xs => match a with
    | .view js ys => js = ks ∧ ys = xs
    | .nil js => js = ks ∧ xs = []
    | .own k => match lookH h k with
      | some (.rows _ js ys) => (lookH g k).isNone = true ∧ m ≤ k ∧ js = ks ∧ ys = xs
      | _ => False
    | _ => False
  | .own k => match a with
    | .own j => j = k ∧ (lookH g k).isSome = true ∧ (lookH h k).isSome = true
    | .nil _ => (lookH h k).isNone = true ∧ m ≤ k ∧ (lookH g k).isSome = true
    | _ => False
  | .box k c => match a with
    | .box j d => j = k ∧ d = c ∧ (lookH g k).isSome = true ∧ (lookH h k).isSome = true
    | _ => False
  | .cel k i c => match a with
    | .cel j l d => j = k ∧ l = i ∧ d = c ∧ (lookH g k).isSome = true ∧ (lookH h k).isSome = true
    | _ => False
  | .arr ks xs => match a with
    | .arr js ys => js = ks ∧ ys = xs
    | _ => False
  | .vcel ks xs i c => match a with
    | .vcel js ys j d => js = ks ∧ ys = xs ∧ j = i ∧ d = c
    | _ => False
  | .vv ks xss => match a with
    | .vv js yss => js = ks ∧ yss = xss
    | .nil _ => xss = []
    | _ => False
  | .vvc ks xss i => match a with
    | .vvc js yss j => js = ks ∧ yss = xss ∧ j = i
    | _ => False
  | _ => False
def avsLe (m : Nat) (h g : List (Option Entry)) : List AV → List AV → Prop
  | [], [] => True
  | a :: l, b :: n => avLe m h g a b ∧ avsLe m h g l n
  | _, _ => False
def tmLe (m : Nat) (h g : List (Option Entry)) (tm : List (Nat × AV)) : List (Nat × AV) → Prop
  | [] => True
  | (t, v) :: r => (match v with
    | .agg n => (match lookT tm t with
      | .agg l => avsLe m h g l n
      | _ => False)
    | .fn f n => (match lookT tm t with
      | .fn e l => e = f ∧ avsLe m h g l n
      | _ => False)
    | v => avLe m h g (lookT tm t) v) ∧ tmLe m h g tm r
def enLe (m : Nat) (h g : List (Option Entry)) (i : Nat) (a : Option Entry) (b : Option Entry) : Prop :=
  match b with
  | none => True
  | some (.box n) => match a with
    | some (.box l) => avsLe m h g l n
    | _ => False
  | some (.rows e ks xs) => match a with
    | some (.rows f js ys) => f = e ∧ js = ks ∧ ys = xs
    | none => m ≤ i ∧ xs = []
    | _ => False
  | some (.arr ks xs) => match a with
    | some (.arr js ys) => js = ks ∧ ys = xs
    | _ => False
  | some (.vnest e ks xss) => match a with
    | some (.vnest f js yss) => f = e ∧ js = ks ∧ yss = xss
    | none => m ≤ i ∧ xss = []
    | _ => False
  | some (.nest e f ks xss) => match a with
    | some (.nest e' f' js yss) => e' = e ∧ f' = f ∧ js = ks ∧ yss = xss
    | none => m ≤ i ∧ xss = []
    | _ => False
def hpLe (m : Nat) (h g : List (Option Entry)) (i : Nat) : List (Option Entry) → List (Option Entry) → Prop
  | _, [] => True
  | [], b :: n => enLe m h g i none b ∧ hpLe m h g (i + 1) [] n
  | a :: l, b :: n => enLe m h g i a b ∧ hpLe m h g (i + 1) l n
def stLe (m : Nat) : St → St → Prop
  | ⟨tm, h⟩, ⟨um, g⟩ => (m ≤ lenH g ∧ tmLe m h g tm um) ∧ hpLe m h g 0 h g

/-! Entries exchanged: what a loop names by one number may stand under another one at the end of a round. -/
def swN (i j k : Nat) : Nat := match Nat.beq k i with
  | true => j
  | false => match Nat.beq k j with
    | true => i
    | false => k
def AV.sw (i j : Nat) : AV → AV
  | .own k => .own (swN i j k)
  | .box k c => .box (swN i j k) c
  | .cel k r c => .cel (swN i j k) r c
  | .agg l => .agg (swL l)
  | .tup l => .tup (swL l)
  | .fn f l => .fn f (swL l)
  | v => v
where swL : List AV → List AV
  | [] => []
  | a :: r => a.sw i j :: swL r
def swT (i j : Nat) : List (Nat × AV) → List (Nat × AV)
  | [] => []
  | (t, v) :: r => (t, v.sw i j) :: swT i j r
def swE (i j : Nat) : Option Entry → Option Entry
  | some (.box l) => some (.box (AV.sw.swL i j l))
  | e => e
def swHs (i j : Nat) : List (Option Entry) → List (Option Entry)
  | [] => []
  | e :: r => swE i j e :: swHs i j r
def swH (i j : Nat) (hp : List (Option Entry)) : List (Option Entry) := setH (setH (swHs i j hp) i (lookH (swHs i j hp) j)) j (lookH (swHs i j hp) i)
def trySwK (m i j : Nat) (tm : List (Nat × AV)) (hp : List (Option Entry)) (K : List (Nat × AV) → List (Option Entry) → Prop) : Prop := match Nat.ble m i && (Nat.ble m j && (Nat.blt i (lenH hp) && Nat.blt j (lenH hp))) with
  | true => forceT (swT i j tm) fun tm => forceH (swH i j hp) fun hp => K tm hp
  | false => K tm hp
def lineVK (m : Nat) (b a : AV) (tm : List (Nat × AV)) (hp : List (Option Entry)) (K : List (Nat × AV) → List (Option Entry) → Prop) : Prop := match b, a with
  | .own k, .own j => (match Nat.beq j k with
    | true => K tm hp
    | false => trySwK m j k tm hp K)
  | .box k _, .box j _ => (match Nat.beq j k with
    | true => K tm hp
    | false => trySwK m j k tm hp K)
  | _, _ => K tm hp
def lineTK (m : Nat) : List (Nat × AV) → List (Nat × AV) → List (Option Entry) → (List (Nat × AV) → List (Option Entry) → Prop) → Prop
  | [], tm, hp, K => K tm hp
  | (t, v) :: r, tm, hp, K => lineVK m v (lookT tm t) tm hp fun tm hp => lineTK m r tm hp K
def lineBK (m i : Nat) : List AV → Nat → List (Nat × AV) → List (Option Entry) → (List (Nat × AV) → List (Option Entry) → Prop) → Prop
  | [], _, tm, hp, K => K tm hp
  | v :: r, c, tm, hp, K => match lookH hp i with
    | some (.box l) => lineVK m v (getA l c) tm hp fun tm hp => lineBK m i r (c + 1) tm hp K
    | _ => K tm hp
def lineHK (m : Nat) : Nat → List (Option Entry) → List (Nat × AV) → List (Option Entry) → (List (Nat × AV) → List (Option Entry) → Prop) → Prop
  | _, [], tm, hp, K => K tm hp
  | i, some (.box n) :: r, tm, hp, K => lineBK m i n 0 tm hp fun tm hp => lineHK m (i + 1) r tm hp K
  | i, _ :: r, tm, hp, K => lineHK m (i + 1) r tm hp K

/-- The slots that another state names, alone. -/
def pickT (tm : List (Nat × AV)) : List (Nat × AV) → List (Nat × AV)
  | [] => []
  | (t, _) :: r => (t, lookT tm t) :: pickT tm r
/-- A state brought into line with another one: slices and boxes under the numbers that the other one gives them. -/
def lined (sw : Bool) (m : Nat) (τ σ : St) (K : St → Prop) : Prop := match sw with
  | false => K σ
  | true => match τ with
    | ⟨um, g⟩ => forceT (pickT σ.tm um) fun tm => forceH σ.hp fun hp => lineTK m um tm hp fun tm hp => lineHK m 0 g tm hp fun tm hp => K ⟨tm, hp⟩

/-- The first region of a piece of code: a loop is named by the first region of its body. -/
def firstRegion : Code → Nat
  | .region id _ _ => id
  | .seq a _ => firstRegion a
  | .cond _ a _ => firstRegion a
  | .block _ a => firstRegion a
  | .loop a => firstRegion a
  | .scope a => firstRegion a
  | _ => 0

def memB (t : Nat) : List Nat → Bool
  | [] => false
  | a :: r => match Nat.beq a t with
    | true => true
    | false => memB t r
/-- Is there a cut before a piece of code? -/
def cutAt : List Nat → Code → Bool
  | [], _ => false
  | k :: r, b => memB (firstRegion b) (k :: r)

/-- The slots that a piece of code writes. -/
def dstsL : List Oper → List Nat → List Nat
  | [], l => l
  | o :: r, l => match o.dst with
    | some d => d :: dstsL r l
    | none => dstsL r l
def writesC : Code → List Nat → List Nat
  | .region _ ops _, l => dstsL ops.toList l
  | .seq a b, l => writesC a (writesC b l)
  | .cond _ a b, l => writesC a (writesC b l)
  | .block _ a, l => writesC a l
  | .loop a, l => writesC a l
  | .scope a, l => writesC a l
  | _, l => l
/-- A lower slot is the same slice. -/
def lowT (t k : Nat) : List (Nat × AV) → Bool
  | [] => false
  | (s, .own j) :: r => (Nat.blt s t && (j == k)) || lowT t k r
  | _ :: r => lowT t k r
def dropT (ws : List Nat) (all : List (Nat × AV)) : List (Nat × AV) → List (Nat × AV)
  | [] => []
  | (t, v) :: r => match memN t ws with
    | true => dropT ws all r
    | false => match v with
      | .tup _ => dropT ws all r
      | .own k => match lowT t k all with
        | true => dropT ws all r
        | false => (t, .own k) :: dropT ws all r
      | v => (t, v) :: dropT ws all r
/-- One operation of a region that draws, with its guard. -/
def vcOne (Γ : Cx) (all : List Oper) (o : Oper) (step : List (Nat × AV) → List (Option Entry) → (St → Prop) → Prop) (K : St → Prop) : St → Prop
  | ⟨tm, hp⟩ => match o.guard with
    | none => step tm hp K
    | some (j, want) => match dstOf all j with
      | some t => match lookT tm t with
        | .bool b => match want with
          | true => (b = true → step ((t, .bool true) :: tm) hp K) ∧ (b = false → putC ((t, .bool false) :: tm) hp o.dst (.tup []) K)
          | false => (b = false → step ((t, .bool false) :: tm) hp K) ∧ (b = true → putC ((t, .bool true) :: tm) hp o.dst (.tup []) K)
        | .tup [] => putC tm hp o.dst (.tup []) K
        | _ => False
      | none => False
def nthO : List Oper → Nat → Option Oper
  | [], _ => none
  | o :: _, 0 => some o
  | _ :: r, k + 1 => nthO r k
/-- What may be taken first whatever else is done: it looks at slots alone. -/
def isPure : Op → Bool
  | .move _ => true
  | .assign _ => true
  | .pick _ _ _ => true
  | .nilCheck _ => true
  | .binOp _ _ _ _ _ => true
  | .unOp _ _ _ => true
  | .convert _ _ _ => true
  | .fieldAddr _ _ _ => true
  | .indexAddr _ _ _ => true
  | .extract _ _ => true
  | .build _ _ => true
  | .field _ _ _ => true
  | .index _ _ _ => true
  | .call c => match c.callee with
    | .builtin .len => true
    | _ => false
  | _ => false
def isLoad : Op → Bool
  | .load _ _ => true
  | _ => false
/-- A cut of a slice that is only read. -/
def isCut (o : Oper) : St → Bool
  | ⟨tm, _⟩ => match o.guard with
    | none => (match o.op with
      | .slice _ x _ _ none => (match evalT tm x with
        | .view _ _ => true
        | _ => false)
      | _ => false)
    | some _ => false
/-- What leaves all memory as it was, but for what is new. -/
def grows : Op → Bool
  | .alloc _ => true
  | .box _ _ => true
  | .makeSlice _ _ _ => true
  | .buildSlice _ _ _ => true
  | .slice _ _ _ _ _ => true
  | _ => false
def stepGrow (Γ : Cx) (o : Oper) (tm : List (Nat × AV)) (hp : List (Option Entry)) (K : St → Prop) : Prop :=
  match o.op with
  | .call c => match c.callee with
    | .value x => match evalT tm x with
      | .fn f caps => match Γ.ct f with
        | some C => idsL2 (appA (retypes Γ.τ c.argTypes.toList (evals tm c.args.toList)) caps) (deepsH hp C.io (appA (retypes Γ.τ c.argTypes.toList (evals tm c.args.toList)) caps)) = [] ∧ stepOp Γ o tm hp K
        | none => False
      | _ => False
    | _ => False
  | op => if isPure op || isLoad op || grows op then stepOp Γ o tm hp K else False
mutual
def vcD (Γ : Cx) (all : List Oper) (calm : Bool) (K : St → Prop) : Tr → St → Prop
  | .done, σ => K σ
  | .take i t, σ => match nthO all i with
    | some o => if isPure o.op || (calm && isLoad o.op) then vcOne Γ all o (stepOp Γ o) (vcD Γ all calm K t) σ else if isCut o σ then vcOne Γ all o (stepOp Γ o) (vcD Γ all calm K t) σ else False
    | none => False
  | .all l, σ => vcDs Γ all calm K l σ
def vcDs (Γ : Cx) (all : List Oper) (calm : Bool) (K : St → Prop) : TrL → St → Prop
  | .nil, _ => True
  | .cons i t r, σ => (match nthO all i with
    | some o => vcOne Γ all o (match calm with | true => stepGrow Γ o | false => stepOp Γ o) (vcD Γ all calm K t) σ
    | none => False) ∧ vcDs Γ all calm K r σ
end

def vcg (Γ : Cx) : Code → (Exit → St → Prop) → St → Prop
  | .skip, Q, σ => Q .normal σ
  | .region _ ops false, Q, σ => vcOps Γ ops.toList ops.toList σ fun σ' => Q .normal σ'
  | .region id ops true, Q, σ => match Γ.tr id with
    | none => vcQ Γ ops.toList ops.toList σ fun σ' => Q .normal σ'
    | some (c, t) => vcD Γ ops.toList c (fun σ' => Q .normal σ') t σ
  | .seq a b, Q, σ => match cutAt Γ.cuts b with
    | false => vcg Γ a (fun e σ' => match e with
      | .normal => vcg Γ b Q σ'
      | e => Q e σ') σ
    | true => forceT (dropT (writesC a []) σ.tm σ.tm) fun tm => match Γ.inv (1000 + firstRegion b) ⟨tm, σ.hp⟩ with
      | some A => vcg Γ a (fun e σ' => match e with
        | .normal => ∃ x, A.R x ∧ lined A.sw Γ.m (A.st x) σ' (fun σ' => stLe Γ.m σ' (A.st x))
        | e => Q e σ') σ ∧ ∀ x, A.R x → vcg Γ b Q (A.st x)
      | none => False
  | .cond c a b, Q, ⟨tm, hp⟩ => match evalT tm c with
    | .bool t => (t = true → vcg Γ a Q ⟨tm, hp⟩) ∧ (t = false → vcg Γ b Q ⟨tm, hp⟩)
    | _ => False
  | .block id a, Q, σ => vcg Γ a (fun e σ' => match e with
    | .exit id' => if id' = id then Q .normal σ' else Q (.exit id') σ'
    | e => Q e σ') σ
  | .loop a, Q, σ => forceT (dropT (writesC a []) σ.tm σ.tm) fun tm => match Γ.inv (firstRegion a) ⟨tm, σ.hp⟩ with
    | some A => (∃ x, A.R x ∧ lined A.sw Γ.m (A.st x) σ (fun σ => stLe Γ.m σ (A.st x))) ∧ ∀ x, A.R x → vcg Γ a (fun e σ' => match e with
      | .normal => ∃ y, A.R y ∧ A.μ y < A.μ x ∧ lined A.sw Γ.m (A.st y) σ' (fun σ' => stLe Γ.m σ' (A.st y))
      | e => Q e σ') (A.st x)
    | none => False
  | .exit id, Q, σ => Q (.exit id) σ
  | .ret, Q, σ => Q .ret σ
  | .label _, Q, σ => Q .normal σ
  | .scope a, Q, σ => vcg Γ a (fun e σ' => match e with
    | .goto _ => False
    | e => Q e σ') σ
  | _, _, _ => False

end Go.Proofs.Ytkjbgdhpeidocaa.V
