/-
  The type table of this translation, and its proof.
-/
import Derived.Test.YtmdlffhkhhionaaVcY
import Derived.Test.YtmdlffhkhhionaaVcX
import Derived.KernelRfl
import Derived.Test.YtmdlffhkhhionaaProg
namespace Go.Proofs.Ytmdlffhkhhionaa.V
open Go

def tau : Nat → TI := fun t => match t with
  | 2 => .int .i64
  | 3 => .int .i64
  | 4 => .bool
  | 5 => .int .u8
  | 6 => .int .u8
  | 7 => .struct [0, 1, 2, 3] [.int .i64 0, .int .i64 0, .bool false, .int .u8 0]
  | 8 => .struct [0, 1, 2, 3] [.int .i64 0, .int .i64 0, .bool false, .int .u8 0]
  | 9 => .str
  | 10 => .str
  | 11 => .str
  | 12 => .int .u64
  | 13 => .struct [0, 1] [.str [], .int .u64 0]
  | 14 => .struct [0, 1] [.str [], .int .u64 0]
  | 15 => .ptr
  | 16 => .ptr
  | 17 => .ptr
  | 21 => .int .i32
  | 22 => .slice 42 3 24 [.int .i64, .int .i64, .int .i64]
  | 25 => .slice 33 3 24 [.int .i64, .int .i64, .int .i64]
  | 29 => .slice 5 1 1 [.int .u8]
  | 32 => .struct [0, 1, 2] [.int .i64 0, .int .i64 0, .int .i64 0]
  | 33 => .struct [0, 1, 2] [.int .i64 0, .int .i64 0, .int .i64 0]
  | 34 => .slice 3 1 8 [.int .i64]
  | 42 => .struct [0, 1, 2] [.int .i64 0, .int .i64 0, .int .i64 0]
  | 43 => .array 8 1 [.bool]
  | 46 => .ptr
  | 51 => .array 8 8 [.bool]
  | 53 => .ptr
  | 54 => .ptr
  | 56 => .slice 66 2 16 [.int .i64, .int .i64]
  | 62 => .struct [0, 1] [.nil [.int .u8], .int .i64 0]
  | 63 => .struct [0, 1] [.nil [.int .u8], .int .i64 0]
  | 65 => .struct [0, 1] [.int .i64 0, .int .i64 0]
  | 66 => .struct [0, 1] [.int .i64 0, .int .i64 0]
  | 75 => .int .u32
  | 76 => .int .u8
  | 77 => .int .u8
  | 79 => .ptr
  | 80 => .int .i32
  | 81 => .int .i32
  | _ => .other

set_option maxRecDepth 100000 in
theorem tab : TabOk Try.prog tau := by
  intro t
  unfold tau
  split <;> kernel_rfl

def eqTys : Nat → Option (List Kd) := fun t => match t with
  | 32 => some [.int .i64, .int .i64, .int .i64]
  | 33 => some [.int .i64, .int .i64, .int .i64]
  | 42 => some [.int .i64, .int .i64, .int .i64]
  | 65 => some [.int .i64, .int .i64]
  | 66 => some [.int .i64, .int .i64]
  | _ => none

set_option maxRecDepth 100000 in
theorem eqTab : ∀ t ks, eqTys t = some ks → EqOk Try.prog t ks := by
  intro t ks h
  unfold eqTys at h
  split at h
  all_goals first
    | (cases h; done)
    | (simp only [Option.some.injEq] at h; subst h; exact eqTyOk_ok (by kernel_rfl))

end Go.Proofs.Ytmdlffhkhhionaa.V
