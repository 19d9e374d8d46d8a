/-
  A verified generator of verification conditions over the model's Code, part A: abstract values, abstract states, and the generator itself as a function into Prop. Nothing of any program stands here.
-/
import Derived.WalkKit
import Derived.WalkSpells
set_option linter.unusedSimpArgs false
set_option linter.unusedVariables false
namespace Go.Proofs.Ytkjbgdhpeidocaa.V
open Go

/-- The kind of one plain cell. -/
inductive Kd where
  | int (k : IntKind)
  | bool
  | str

/-- What one plain cell holds. -/
inductive Sc where
  | i (n : Int)
  | b (b : Bool)
  | s (l : List UInt8)

def Sc.int : Sc → Int | .i x => x | _ => 0
def Sc.bool : Sc → Bool | .b x => x | _ => false
def Sc.str : Sc → List UInt8 | .s x => x | _ => []
@[simp] theorem Sc.int_i (n : Int) : (Sc.i n).int = n := rfl
@[simp] theorem Sc.bool_b (x : Bool) : (Sc.b x).bool = x := rfl
@[simp] theorem Sc.str_s (l : List UInt8) : (Sc.s l).str = l := rfl

/-- A row: the plain cells of one element. -/
abbrev Row := List Sc
def rc (r : Row) (c : Nat) : Sc := r.getD c (.i 0)
/-- Row i of a list of rows. -/
def row (xs : List Row) (i : Nat) : Row := xs.getD i []

inductive AV where
  | top
  | int (k : IntKind) (n : Int)
  | bool (b : Bool)
  | str (l : List UInt8)
  | nil (ks : List Kd)
  | view (ks : List Kd) (xs : List Row)
  | own (k : Nat)
  | box (k c : Nat)
  | cel (k i c : Nat)
  | vcel (ks : List Kd) (xs : List Row) (i c : Nat)
  | agg (l : List AV)
  | arr (ks : List Kd) (xs : List Row)
  | tup (l : List AV)
  | fn (f : Nat) (caps : List AV)
  | fr (e : Nat) (ks : List Kd) (xs : List Row)
  | bx (l : List AV)
  | pa (ks : List Kd) (xs : List Row)
  | vv (ks : List Kd) (xss : List (List Row))
  | vvc (ks : List Kd) (xss : List (List Row)) (i : Nat)
  | frn (e f : Nat) (ks : List Kd) (xss : List (List Row))

inductive Entry where
  | box (l : List AV)
  | rows (e : Nat) (ks : List Kd) (xs : List Row)
  | arr (ks : List Kd) (xs : List Row)
  | vnest (e : Nat) (ks : List Kd) (xss : List (List Row))
  | nest (e f : Nat) (ks : List Kd) (xss : List (List Row))

structure St where
  tm : List (Nat × AV)
  hp : List (Option Entry)

/-- What the generator is told of a type. -/
inductive TI where
  | int (k : IntKind)
  | bool
  | str
  | slice (e esz eb : Nat) (ks : List Kd)
  | struct (offs : List Nat) (zero : List AV)
  | array (n esz : Nat) (ks : List Kd)
  | ptr
  | other

def lookT : List (Nat × AV) → Nat → AV
  | [], _ => .top
  | (s, v) :: r, t => match Nat.beq s t with
    | true => v
    | false => lookT r t
theorem lookT_cons (s : Nat) (v : AV) (r : List (Nat × AV)) (t : Nat) : lookT ((s, v) :: r) t = if s = t then v else lookT r t := by
  simp only [lookT]
  by_cases e : s = t
  · subst e; simp
  · have : Nat.beq s t = false := by rw [← Bool.not_eq_true, Nat.beq_eq]; exact e
    rw [this, if_neg e]
def lookH : List (Option Entry) → Nat → Option Entry
  | [], _ => none
  | e :: _, 0 => e
  | _ :: r, k + 1 => lookH r k
def setH : List (Option Entry) → Nat → Option Entry → List (Option Entry)
  | [], _, _ => []
  | _ :: r, 0, x => x :: r
  | e :: r, k + 1, x => e :: setH r k x
def getA : List AV → Nat → AV
  | [], _ => .top
  | a :: _, 0 => a
  | _ :: r, k + 1 => getA r k
def setA : List AV → Nat → AV → List AV
  | [], _, _ => []
  | _ :: r, 0, x => x :: r
  | a :: r, k + 1, x => a :: setA r k x
def takeA : Nat → List AV → List AV
  | 0, _ => []
  | _ + 1, [] => []
  | n + 1, a :: r => a :: takeA n r
def dropA : Nat → List AV → List AV
  | 0, l => l
  | _ + 1, [] => []
  | n + 1, _ :: r => dropA n r
def putAt : List AV → Nat → List AV → List AV
  | l, _, [] => l
  | l, c, v :: vs => putAt (setA l c v) (c + 1) vs
def lenA : List AV → Nat
  | [] => 0
  | _ :: r => lenA r + 1
def lenK : List Kd → Nat
  | [] => 0
  | _ :: r => lenK r + 1
def getK : List Kd → Nat → Option Kd
  | [], _ => none
  | a :: _, 0 => some a
  | _ :: r, k + 1 => getK r k

/-- A tmp that names an entry, however deep. -/
def AV.hits (k : Nat) : AV → Bool
  | .own j => k == j
  | .box j _ => k == j
  | .cel j _ _ => k == j
  | .agg l => hitsL l
  | .tup l => hitsL l
  | .fn _ l => hitsL l
  | _ => false
where hitsL : List AV → Bool
  | [] => false
  | a :: r => a.hits k || hitsL r

def Kd.av (k : Kd) (s : Sc) : AV :=
  match k with
  | .int k => .int k s.int
  | .bool => .bool s.bool
  | .str => .str s.str
def Kd.zero : Kd → Sc
  | .int _ => .i 0
  | .bool => .b false
  | .str => .s []
def zeroRow : List Kd → Row
  | [] => []
  | k :: r => k.zero :: zeroRow r
/-- n cells of a row from column c on, of the kinds ks. -/
def rowAVs : List Kd → Row → Nat → Nat → List AV
  | _, _, _, 0 => []
  | ks, r, c, n + 1 =>
    match getK ks c with
    | some k => k.av (rc r c) :: rowAVs ks r (c + 1) n
    | none => .top :: rowAVs ks r (c + 1) n
/-- A cell's value as what a row holds, if its kind fits. -/
def AV.sc (k : Kd) : AV → Option Sc
  | .int j n => match k with
    | .int k => if j = k then some (.i n) else none
    | _ => none
  | .bool b => match k with
    | .bool => some (.b b)
    | _ => none
  | .str l => match k with
    | .str => some (.s l)
    | _ => none
  | _ => none
def scs : List Kd → List AV → Option Row
  | [], [] => some []
  | k :: ks, a :: as =>
    match a.sc k with
    | some s => match scs ks as with
      | some r => some (s :: r)
      | none => none
    | none => none
  | _, _ => none
def setR : Row → Nat → Sc → Row
  | [], 0, s => [s]
  | [], c + 1, s => .i 0 :: setR [] c s
  | _ :: r, 0, s => s :: r
  | a :: r, c + 1, s => a :: setR r c s
/-- Cells written into a row from column c on. -/
def pasteR : Row → Nat → Row → Row
  | r, _, [] => r
  | r, c, s :: ss => pasteR (setR r c s) (c + 1) ss

def AV.cells : AV → List AV
  | .agg l => l
  | v => [v]

/-- n fits the integer kind k. -/
structure Fits (k : IntKind) (n : Int) : Prop where
  lo : k.min ≤ n
  hi : n ≤ k.max

def bitop (op : BinOp) (k : IntKind) (x y : Int) : Int :=
  let a := BitVec.ofInt k.bits x
  let b := BitVec.ofInt k.bits y
  match op with
  | .and => k.wrap (a &&& b).toNat
  | .or => k.wrap (a ||| b).toNat
  | .xor => k.wrap (a ^^^ b).toNat
  | _ => k.wrap (a &&& ~~~b).toNat
def shlop (k : IntKind) (x y : Int) : Int := k.wrap (x * 2 ^ min y.toNat k.bits)
def shrop (k : IntKind) (x y : Int) : Int := x.fdiv (2 ^ min y.toNat k.bits)

/-- Equality of two aggregates of plain cells. -/
def eqAVs : List AV → List AV → Option Bool
  | [], [] => some true
  | .int _ a :: r, .int _ b :: s => (eqAVs r s).map fun e => a == b && e
  | .bool a :: r, .bool b :: s => (eqAVs r s).map fun e => a == b && e
  | .str a :: r, .str b :: s => (eqAVs r s).map fun e => a == b && e
  | _, _ => none

end Go.Proofs.Ytkjbgdhpeidocaa.V
