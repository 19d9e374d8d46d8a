/-
  The type table of this translation, and its proof.
-/
import Derived.Test.YtlkjddbhcbnmkaaVcY
import Derived.Test.YtlkjddbhcbnmkaaVcX
import Derived.KernelRfl
import Derived.Test.YtlkjddbhcbnmkaaProg
namespace Go.Proofs.Ytlkjddbhcbnmkaa.V
open Go

def tau : Nat → TI := fun t => match t with
  | 2 => .int .i64
  | 3 => .int .i64
  | 4 => .bool
  | 5 => .int .u8
  | 6 => .int .u8
  | 7 => .struct [0, 1, 2, 3] [.int .i64 0, .int .i64 0, .bool false, .int .u8 0]
  | 8 => .struct [0, 1, 2, 3] [.int .i64 0, .int .i64 0, .bool false, .int .u8 0]
  | 9 => .str
  | 10 => .str
  | 11 => .str
  | 12 => .int .u64
  | 13 => .struct [0, 1] [.str [], .int .u64 0]
  | 14 => .struct [0, 1] [.str [], .int .u64 0]
  | 15 => .ptr
  | 16 => .ptr
  | 17 => .ptr
  | 21 => .int .i32
  | 22 => .slice 3 1 8 [.int .i64]
  | 23 => .struct [0, 1, 2] [.nil [.int .i64], .nil [.int .i64], .nil [.int .i64]]
  | 24 => .struct [0, 1, 2] [.nil [.int .i64], .nil [.int .i64], .nil [.int .i64]]
  | 27 => .struct [0, 1, 2] [.nil [.int .i64], .nil [.int .i64], .nil [.int .i64]]
  | 31 => .slice 71 5 40 [.bool, .int .i64, .int .i64, .int .i64, .int .i64]
  | 35 => .slice 69 5 40 [.bool, .int .i64, .int .i64, .int .i64, .int .i64]
  | 40 => .slice 5 1 1 [.int .u8]
  | 44 => .slice 84 2 16 [.int .i64, .int .i64]
  | 46 => .slice 56 2 16 [.int .i64, .int .i64]
  | 55 => .struct [0, 1] [.int .i64 0, .int .i64 0]
  | 56 => .struct [0, 1] [.int .i64 0, .int .i64 0]
  | 68 => .struct [0, 1, 2, 3, 4] [.bool false, .int .i64 0, .int .i64 0, .int .i64 0, .int .i64 0]
  | 69 => .struct [0, 1, 2, 3, 4] [.bool false, .int .i64 0, .int .i64 0, .int .i64 0, .int .i64 0]
  | 71 => .struct [0, 1, 2, 3, 4] [.bool false, .int .i64 0, .int .i64 0, .int .i64 0, .int .i64 0]
  | 73 => .array 8 1 [.bool]
  | 74 => .struct [0, 1, 2, 3] [.int .i64 0, .int .i64 0, .int .i64 0, .int .i64 0]
  | 75 => .struct [0, 1, 2, 3] [.int .i64 0, .int .i64 0, .int .i64 0, .int .i64 0]
  | 79 => .ptr
  | 84 => .struct [0, 1] [.int .i64 0, .int .i64 0]
  | 93 => .struct [0, 1] [.nil [.int .u8], .int .i64 0]
  | 94 => .struct [0, 1] [.nil [.int .u8], .int .i64 0]
  | 112 => .int .u32
  | 113 => .int .u8
  | 114 => .int .u8
  | 116 => .ptr
  | 117 => .int .i32
  | 118 => .int .i32
  | _ => .other

set_option maxRecDepth 100000 in
theorem tab : TabOk Try.prog tau := by
  intro t
  unfold tau
  split <;> kernel_rfl

def eqTys : Nat → Option (List Kd) := fun t => match t with
  | 55 => some [.int .i64, .int .i64]
  | 56 => some [.int .i64, .int .i64]
  | 68 => some [.bool, .int .i64, .int .i64, .int .i64, .int .i64]
  | 69 => some [.bool, .int .i64, .int .i64, .int .i64, .int .i64]
  | 71 => some [.bool, .int .i64, .int .i64, .int .i64, .int .i64]
  | 74 => some [.int .i64, .int .i64, .int .i64, .int .i64]
  | 75 => some [.int .i64, .int .i64, .int .i64, .int .i64]
  | 84 => some [.int .i64, .int .i64]
  | _ => none

set_option maxRecDepth 100000 in
theorem eqTab : ∀ t ks, eqTys t = some ks → EqOk Try.prog t ks := by
  intro t ks h
  unfold eqTys at h
  split at h
  all_goals first
    | (cases h; done)
    | (simp only [Option.some.injEq] at h; subst h; exact eqTyOk_ok (by kernel_rfl))

end Go.Proofs.Ytlkjddbhcbnmkaa.V
