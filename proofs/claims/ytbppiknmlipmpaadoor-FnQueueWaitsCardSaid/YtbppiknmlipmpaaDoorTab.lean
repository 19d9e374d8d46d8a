/-
  The type table of this translation, and its proof.
-/
import Derived.Test.YtbppiknmlipmpaaDoorVcY
import Derived.Test.YtbppiknmlipmpaaDoorVcX
import Derived.KernelRfl
import Derived.Test.YtbppiknmlipmpaaDoorProg
namespace Go.Proofs.YtbppiknmlipmpaaDoor.V
open Go

def tau : Nat → TI := fun t => match t with
  | 2 => .int .i64
  | 3 => .int .i64
  | 4 => .bool
  | 5 => .int .u8
  | 6 => .int .u8
  | 7 => .struct [0, 1, 2, 3] [.int .i64 0, .int .i64 0, .bool false, .int .u8 0]
  | 8 => .struct [0, 1, 2, 3] [.int .i64 0, .int .i64 0, .bool false, .int .u8 0]
  | 9 => .str
  | 10 => .str
  | 11 => .str
  | 12 => .int .u64
  | 13 => .struct [0, 1] [.str [], .int .u64 0]
  | 14 => .struct [0, 1] [.str [], .int .u64 0]
  | 15 => .ptr
  | 16 => .ptr
  | 17 => .ptr
  | 21 => .int .i32
  | 22 => .slice 5 1 1 [.int .u8]
  | 23 => .slice 31 2 16 [.int .i64, .int .i64]
  | 30 => .struct [0, 1] [.int .i64 0, .int .i64 0]
  | 31 => .struct [0, 1] [.int .i64 0, .int .i64 0]
  | 34 => .slice 38 2 16 [.int .i64, .int .i64]
  | 37 => .struct [0, 1] [.int .i64 0, .int .i64 0]
  | 38 => .struct [0, 1] [.int .i64 0, .int .i64 0]
  | 39 => .slice 3 1 8 [.int .i64]
  | 41 => .slice 60 2 16 [.int .i64, .int .i64]
  | 47 => .ptr
  | 55 => .array 8 1 [.int .u8]
  | 56 => .array 8 1 [.int .u8]
  | 60 => .struct [0, 1] [.int .i64 0, .int .i64 0]
  | 63 => .struct [0, 1] [.nil [.int .u8], .int .i64 0]
  | 64 => .struct [0, 1] [.nil [.int .u8], .int .i64 0]
  | 70 => .array 6 1 [.int .u8]
  | 78 => .int .u32
  | 79 => .int .u8
  | 80 => .int .u8
  | 82 => .ptr
  | 83 => .int .i32
  | 84 => .int .i32
  | _ => .other

set_option maxRecDepth 100000 in
theorem tab : TabOk Tryd.prog tau := by
  intro t
  unfold tau
  split <;> kernel_rfl

def eqTys : Nat → Option (List Kd) := fun t => match t with
  | 30 => some [.int .i64, .int .i64]
  | 31 => some [.int .i64, .int .i64]
  | 37 => some [.int .i64, .int .i64]
  | 38 => some [.int .i64, .int .i64]
  | 60 => some [.int .i64, .int .i64]
  | _ => none

set_option maxRecDepth 100000 in
theorem eqTab : ∀ t ks, eqTys t = some ks → EqOk Tryd.prog t ks := by
  intro t ks h
  unfold eqTys at h
  split at h
  all_goals first
    | (cases h; done)
    | (simp only [Option.some.injEq] at h; subst h; exact eqTyOk_ok (by kernel_rfl))

end Go.Proofs.YtbppiknmlipmpaaDoor.V
