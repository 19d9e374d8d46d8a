/-
  The type table of this translation, and its proof.
-/
import Derived.Test.YtbppiknmlipmpaaVcY
import Derived.Test.YtbppiknmlipmpaaVcX
import Derived.KernelRfl
import Derived.Test.YtbppiknmlipmpaaProg
namespace Go.Proofs.Ytbppiknmlipmpaa.V
open Go

def tau : Nat → TI := fun t => match t with
  | 2 => .int .i64
  | 3 => .int .i64
  | 4 => .bool
  | 5 => .int .u8
  | 6 => .int .u8
  | 7 => .struct [0, 1, 2, 3] [.int .i64 0, .int .i64 0, .bool false, .int .u8 0]
  | 8 => .struct [0, 1, 2, 3] [.int .i64 0, .int .i64 0, .bool false, .int .u8 0]
  | 9 => .str
  | 10 => .str
  | 11 => .str
  | 12 => .int .u64
  | 13 => .struct [0, 1] [.str [], .int .u64 0]
  | 14 => .struct [0, 1] [.str [], .int .u64 0]
  | 15 => .ptr
  | 16 => .ptr
  | 17 => .ptr
  | 21 => .int .i32
  | 22 => .slice 56 2 16 [.int .i64, .int .i64]
  | 24 => .slice 54 2 16 [.int .i64, .int .i64]
  | 31 => .slice 5 1 1 [.int .u8]
  | 32 => .slice 41 2 16 [.int .i64, .int .i64]
  | 35 => .slice 3 1 8 [.int .i64]
  | 40 => .struct [0, 1] [.int .i64 0, .int .i64 0]
  | 41 => .struct [0, 1] [.int .i64 0, .int .i64 0]
  | 44 => .slice 71 2 16 [.int .i64, .int .i64]
  | 53 => .struct [0, 1] [.int .i64 0, .int .i64 0]
  | 54 => .struct [0, 1] [.int .i64 0, .int .i64 0]
  | 56 => .struct [0, 1] [.int .i64 0, .int .i64 0]
  | 60 => .ptr
  | 64 => .array 8 1 [.int .u8]
  | 65 => .array 8 1 [.int .u8]
  | 71 => .struct [0, 1] [.int .i64 0, .int .i64 0]
  | 76 => .struct [0, 1] [.nil [.int .u8], .int .i64 0]
  | 77 => .struct [0, 1] [.nil [.int .u8], .int .i64 0]
  | 87 => .int .u32
  | 88 => .int .u8
  | 89 => .int .u8
  | 91 => .ptr
  | 92 => .int .i32
  | 93 => .int .i32
  | _ => .other

set_option maxRecDepth 100000 in
theorem tab : TabOk Try.prog tau := by
  intro t
  unfold tau
  split <;> kernel_rfl

def eqTys : Nat → Option (List Kd) := fun t => match t with
  | 40 => some [.int .i64, .int .i64]
  | 41 => some [.int .i64, .int .i64]
  | 53 => some [.int .i64, .int .i64]
  | 54 => some [.int .i64, .int .i64]
  | 56 => some [.int .i64, .int .i64]
  | 71 => some [.int .i64, .int .i64]
  | _ => none

set_option maxRecDepth 100000 in
theorem eqTab : ∀ t ks, eqTys t = some ks → EqOk Try.prog t ks := by
  intro t ks h
  unfold eqTys at h
  split at h
  all_goals first
    | (cases h; done)
    | (simp only [Option.some.injEq] at h; subst h; exact eqTyOk_ok (by kernel_rfl))

end Go.Proofs.Ytbppiknmlipmpaa.V
