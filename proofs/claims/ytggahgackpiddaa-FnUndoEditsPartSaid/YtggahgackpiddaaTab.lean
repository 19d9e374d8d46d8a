/-
  The type table of this translation, and its proof.
-/
import Derived.Test.YtggahgackpiddaaVcY
import Derived.Test.YtggahgackpiddaaVcX
import Derived.KernelRfl
import Derived.Test.YtggahgackpiddaaProg
namespace Go.Proofs.Ytggahgackpiddaa.V
open Go

def tau : Nat → TI := fun t => match t with
  | 2 => .int .i64
  | 3 => .int .i64
  | 4 => .bool
  | 5 => .int .u8
  | 6 => .int .u8
  | 7 => .struct [0, 1, 2, 3] [.int .i64 0, .int .i64 0, .bool false, .int .u8 0]
  | 8 => .struct [0, 1, 2, 3] [.int .i64 0, .int .i64 0, .bool false, .int .u8 0]
  | 9 => .str
  | 10 => .str
  | 11 => .str
  | 12 => .int .u64
  | 13 => .struct [0, 1] [.str [], .int .u64 0]
  | 14 => .struct [0, 1] [.str [], .int .u64 0]
  | 15 => .ptr
  | 16 => .ptr
  | 17 => .ptr
  | 21 => .int .i32
  | 22 => .slice 5 1 1 [.int .u8]
  | 23 => .slice 29 4 32 [.int .i64, .int .i64, .int .i64, .int .i64]
  | 28 => .struct [0, 1, 2, 3] [.int .i64 0, .int .i64 0, .int .i64 0, .int .i64 0]
  | 29 => .struct [0, 1, 2, 3] [.int .i64 0, .int .i64 0, .int .i64 0, .int .i64 0]
  | 31 => .slice 37 4 32 [.int .i64, .int .i64, .int .i64, .int .i64]
  | 36 => .slice 3 1 8 [.int .i64]
  | 37 => .struct [0, 1, 2, 3] [.int .i64 0, .int .i64 0, .int .i64 0, .int .i64 0]
  | 53 => .ptr
  | 66 => .array 6 1 [.bool]
  | 71 => .struct [0, 1] [.nil [.int .u8], .int .i64 0]
  | 72 => .struct [0, 1] [.nil [.int .u8], .int .i64 0]
  | 81 => .int .u32
  | 82 => .int .u8
  | 83 => .int .u8
  | 85 => .ptr
  | 86 => .int .i32
  | 87 => .int .i32
  | _ => .other

set_option maxRecDepth 100000 in
theorem tab : TabOk Try.prog tau := by
  intro t
  unfold tau
  split <;> kernel_rfl

def eqTys : Nat → Option (List Kd) := fun t => match t with
  | 28 => some [.int .i64, .int .i64, .int .i64, .int .i64]
  | 29 => some [.int .i64, .int .i64, .int .i64, .int .i64]
  | 37 => some [.int .i64, .int .i64, .int .i64, .int .i64]
  | _ => none

set_option maxRecDepth 100000 in
theorem eqTab : ∀ t ks, eqTys t = some ks → EqOk Try.prog t ks := by
  intro t ks h
  unfold eqTys at h
  split at h
  all_goals first
    | (cases h; done)
    | (simp only [Option.some.injEq] at h; subst h; exact eqTyOk_ok (by kernel_rfl))

end Go.Proofs.Ytggahgackpiddaa.V
