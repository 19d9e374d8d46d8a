/-
  The type table of this translation, and its proof.
-/
import Derived.Test.YtfchlcghildiaaaVcY
import Derived.Test.YtfchlcghildiaaaVcX
import Derived.KernelRfl
import Derived.Test.YtfchlcghildiaaaProg
namespace Go.Proofs.Ytfchlcghildiaaa.V
open Go

def tau : Nat → TI := fun t => match t with
  | 2 => .int .i64
  | 3 => .int .i64
  | 4 => .bool
  | 5 => .int .u8
  | 6 => .int .u8
  | 7 => .struct [0, 1, 2, 3] [.int .i64 0, .int .i64 0, .bool false, .int .u8 0]
  | 8 => .struct [0, 1, 2, 3] [.int .i64 0, .int .i64 0, .bool false, .int .u8 0]
  | 9 => .str
  | 10 => .str
  | 11 => .str
  | 12 => .int .u64
  | 13 => .struct [0, 1] [.str [], .int .u64 0]
  | 14 => .struct [0, 1] [.str [], .int .u64 0]
  | 15 => .ptr
  | 16 => .ptr
  | 17 => .ptr
  | 21 => .int .i32
  | 22 => .slice 89 4 32 [.int .i64, .bool, .int .i64, .int .i64]
  | 23 => .struct [0, 1] [.nil [.int .i64, .bool, .int .i64, .int .i64], .int .i64 0]
  | 24 => .struct [0, 1] [.nil [.int .i64, .bool, .int .i64, .int .i64], .int .i64 0]
  | 27 => .slice 42 4 32 [.int .i64, .bool, .int .i64, .int .i64]
  | 28 => .struct [0, 1] [.nil [.int .i64, .bool, .int .i64, .int .i64], .int .i64 0]
  | 29 => .struct [0, 1] [.nil [.int .i64, .bool, .int .i64, .int .i64], .int .i64 0]
  | 36 => .slice 5 1 1 [.int .u8]
  | 41 => .struct [0, 1, 2, 3] [.int .i64 0, .bool false, .int .i64 0, .int .i64 0]
  | 42 => .struct [0, 1, 2, 3] [.int .i64 0, .bool false, .int .i64 0, .int .i64 0]
  | 43 => .slice 77 4 40 [.int .i64, .int .i64, .int .i64, .str]
  | 46 => .slice 55 4 40 [.int .i64, .int .i64, .int .i64, .str]
  | 51 => .slice 53 3 32 [.int .i64, .int .i64, .str]
  | 52 => .struct [0, 1, 2] [.int .i64 0, .int .i64 0, .str []]
  | 53 => .struct [0, 1, 2] [.int .i64 0, .int .i64 0, .str []]
  | 54 => .struct [0, 1] [.int .i64 0, .int .i64 0, .int .i64 0, .str []]
  | 55 => .struct [0, 1] [.int .i64 0, .int .i64 0, .int .i64 0, .str []]
  | 59 => .slice 75 3 32 [.int .i64, .int .i64, .str]
  | 70 => .ptr
  | 73 => .slice 3 1 8 [.int .i64]
  | 75 => .struct [0, 1, 2] [.int .i64 0, .int .i64 0, .str []]
  | 76 => .struct [0, 1] [.int .i64 0, .int .i64 0, .int .i64 0, .str []]
  | 77 => .struct [0, 1] [.int .i64 0, .int .i64 0, .int .i64 0, .str []]
  | 89 => .struct [0, 1, 2, 3] [.int .i64 0, .bool false, .int .i64 0, .int .i64 0]
  | 96 => .struct [0, 1] [.nil [.int .u8], .int .i64 0]
  | 97 => .struct [0, 1] [.nil [.int .u8], .int .i64 0]
  | 107 => .slice 9 1 16 [.str]
  | 115 => .int .u32
  | 116 => .int .u8
  | 117 => .int .u8
  | 119 => .ptr
  | 120 => .int .i32
  | 121 => .int .i32
  | _ => .other

set_option maxRecDepth 100000 in
theorem tab : TabOk Try.prog tau := by
  intro t
  unfold tau
  split <;> kernel_rfl

def eqTys : Nat → Option (List Kd) := fun t => match t with
  | 41 => some [.int .i64, .bool, .int .i64, .int .i64]
  | 42 => some [.int .i64, .bool, .int .i64, .int .i64]
  | 52 => some [.int .i64, .int .i64, .str]
  | 53 => some [.int .i64, .int .i64, .str]
  | 54 => some [.int .i64, .int .i64, .int .i64, .str]
  | 55 => some [.int .i64, .int .i64, .int .i64, .str]
  | 75 => some [.int .i64, .int .i64, .str]
  | 76 => some [.int .i64, .int .i64, .int .i64, .str]
  | 77 => some [.int .i64, .int .i64, .int .i64, .str]
  | 89 => some [.int .i64, .bool, .int .i64, .int .i64]
  | _ => none

set_option maxRecDepth 100000 in
theorem eqTab : ∀ t ks, eqTys t = some ks → EqOk Try.prog t ks := by
  intro t ks h
  unfold eqTys at h
  split at h
  all_goals first
    | (cases h; done)
    | (simp only [Option.some.injEq] at h; subst h; exact eqTyOk_ok (by kernel_rfl))

end Go.Proofs.Ytfchlcghildiaaa.V
