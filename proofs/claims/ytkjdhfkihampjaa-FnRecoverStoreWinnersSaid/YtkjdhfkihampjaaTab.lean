/-
  The type table of this translation, and its proof.
-/
import Derived.Test.YtkjdhfkihampjaaVcY
import Derived.Test.YtkjdhfkihampjaaVcX
import Derived.KernelRfl
import Derived.Test.YtkjdhfkihampjaaProg
namespace Go.Proofs.Ytkjdhfkihampjaa.V
open Go

def tau : Nat → TI := fun t => match t with
  | 2 => .int .i64
  | 3 => .int .i64
  | 4 => .bool
  | 5 => .int .u8
  | 6 => .int .u8
  | 7 => .struct [0, 1, 2, 3] [.int .i64 0, .int .i64 0, .bool false, .int .u8 0]
  | 8 => .struct [0, 1, 2, 3] [.int .i64 0, .int .i64 0, .bool false, .int .u8 0]
  | 9 => .str
  | 10 => .str
  | 11 => .str
  | 12 => .int .u64
  | 13 => .struct [0, 1] [.str [], .int .u64 0]
  | 14 => .struct [0, 1] [.str [], .int .u64 0]
  | 15 => .ptr
  | 16 => .ptr
  | 17 => .ptr
  | 21 => .int .i32
  | 22 => .slice 3 1 8 [.int .i64]
  | 23 => .slice 63 5 40 [.bool, .int .i64, .int .i64, .int .i64, .int .i64]
  | 27 => .slice 39 5 40 [.bool, .int .i64, .int .i64, .int .i64, .int .i64]
  | 34 => .slice 5 1 1 [.int .u8]
  | 38 => .struct [0, 1, 2, 3, 4] [.bool false, .int .i64 0, .int .i64 0, .int .i64 0, .int .i64 0]
  | 39 => .struct [0, 1, 2, 3, 4] [.bool false, .int .i64 0, .int .i64 0, .int .i64 0, .int .i64 0]
  | 42 => .slice 50 2 16 [.int .i64, .int .i64]
  | 49 => .struct [0, 1] [.int .i64 0, .int .i64 0]
  | 50 => .struct [0, 1] [.int .i64 0, .int .i64 0]
  | 58 => .struct [0, 1, 2] [.nil [.int .i64], .nil [.int .i64], .nil [.int .i64]]
  | 59 => .struct [0, 1, 2] [.nil [.int .i64], .nil [.int .i64], .nil [.int .i64]]
  | 63 => .struct [0, 1, 2, 3, 4] [.bool false, .int .i64 0, .int .i64 0, .int .i64 0, .int .i64 0]
  | 67 => .ptr
  | 70 => .array 8 1 [.bool]
  | 71 => .struct [0, 1, 2, 3] [.int .i64 0, .int .i64 0, .int .i64 0, .int .i64 0]
  | 72 => .struct [0, 1, 2, 3] [.int .i64 0, .int .i64 0, .int .i64 0, .int .i64 0]
  | 90 => .struct [0, 1] [.nil [.int .u8], .int .i64 0]
  | 91 => .struct [0, 1] [.nil [.int .u8], .int .i64 0]
  | 103 => .int .u32
  | 104 => .int .u8
  | 105 => .int .u8
  | 107 => .ptr
  | 108 => .int .i32
  | 109 => .int .i32
  | _ => .other

set_option maxRecDepth 100000 in
theorem tab : TabOk Try.prog tau := by
  intro t
  unfold tau
  split <;> kernel_rfl

def eqTys : Nat → Option (List Kd) := fun t => match t with
  | 38 => some [.bool, .int .i64, .int .i64, .int .i64, .int .i64]
  | 39 => some [.bool, .int .i64, .int .i64, .int .i64, .int .i64]
  | 49 => some [.int .i64, .int .i64]
  | 50 => some [.int .i64, .int .i64]
  | 63 => some [.bool, .int .i64, .int .i64, .int .i64, .int .i64]
  | 71 => some [.int .i64, .int .i64, .int .i64, .int .i64]
  | 72 => some [.int .i64, .int .i64, .int .i64, .int .i64]
  | _ => none

set_option maxRecDepth 100000 in
theorem eqTab : ∀ t ks, eqTys t = some ks → EqOk Try.prog t ks := by
  intro t ks h
  unfold eqTys at h
  split at h
  all_goals first
    | (cases h; done)
    | (simp only [Option.some.injEq] at h; subst h; exact eqTyOk_ok (by kernel_rfl))

end Go.Proofs.Ytkjdhfkihampjaa.V
