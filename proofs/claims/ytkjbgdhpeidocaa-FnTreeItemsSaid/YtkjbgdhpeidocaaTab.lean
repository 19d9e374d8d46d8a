/-
  The type table of this translation, and its proof.
-/
import Derived.Test.YtkjbgdhpeidocaaVcY
import Derived.Test.YtkjbgdhpeidocaaVcX
import Derived.KernelRfl
import Derived.Test.YtkjbgdhpeidocaaProg
namespace Go.Proofs.Ytkjbgdhpeidocaa.V
open Go

def tau : Nat → TI := fun t => match t with
  | 2 => .int .i64
  | 3 => .int .i64
  | 4 => .bool
  | 5 => .int .u8
  | 6 => .int .u8
  | 7 => .struct [0, 1, 2, 3] [.int .i64 0, .int .i64 0, .bool false, .int .u8 0]
  | 8 => .struct [0, 1, 2, 3] [.int .i64 0, .int .i64 0, .bool false, .int .u8 0]
  | 9 => .str
  | 10 => .str
  | 11 => .str
  | 12 => .int .u64
  | 13 => .struct [0, 1] [.str [], .int .u64 0]
  | 14 => .struct [0, 1] [.str [], .int .u64 0]
  | 15 => .ptr
  | 16 => .ptr
  | 17 => .ptr
  | 21 => .int .i32
  | 22 => .slice 53 2 16 [.int .i64, .int .i64]
  | 24 => .slice 29 1 24 []
  | 25 => .struct [0] [.nil []]
  | 26 => .struct [0] [.nil []]
  | 29 => .slice 49 2 16 [.int .i64, .int .i64]
  | 36 => .slice 22 1 24 []
  | 37 => .struct [0] [.nil []]
  | 38 => .struct [0] [.nil []]
  | 46 => .slice 5 1 1 [.int .u8]
  | 48 => .struct [0, 1] [.int .i64 0, .int .i64 0]
  | 49 => .struct [0, 1] [.int .i64 0, .int .i64 0]
  | 53 => .struct [0, 1] [.int .i64 0, .int .i64 0]
  | 63 => .ptr
  | 70 => .struct [0, 1] [.nil [.int .u8], .int .i64 0]
  | 71 => .struct [0, 1] [.nil [.int .u8], .int .i64 0]
  | 75 => .slice 3 1 8 [.int .i64]
  | 90 => .int .u32
  | 91 => .int .u8
  | 92 => .int .u8
  | 94 => .ptr
  | 95 => .int .i32
  | 96 => .int .i32
  | _ => .other

set_option maxRecDepth 100000 in
theorem tab : TabOk Try.prog tau := by
  intro t
  unfold tau
  split <;> kernel_rfl

def eqTys : Nat → Option (List Kd) := fun t => match t with
  | 48 => some [.int .i64, .int .i64]
  | 49 => some [.int .i64, .int .i64]
  | 53 => some [.int .i64, .int .i64]
  | _ => none

set_option maxRecDepth 100000 in
theorem eqTab : ∀ t ks, eqTys t = some ks → EqOk Try.prog t ks := by
  intro t ks h
  unfold eqTys at h
  split at h
  all_goals first
    | (cases h; done)
    | (simp only [Option.some.injEq] at h; subst h; exact eqTyOk_ok (by kernel_rfl))

end Go.Proofs.Ytkjbgdhpeidocaa.V
