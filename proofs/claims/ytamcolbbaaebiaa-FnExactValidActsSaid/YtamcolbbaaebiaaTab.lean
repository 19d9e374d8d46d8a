/-
  The type table of this translation, and its proof.
-/
import Derived.Test.YtamcolbbaaebiaaVcY
import Derived.KernelRfl
import Derived.Test.YtamcolbbaaebiaaProg
namespace Go.Proofs.Ytamcolbbaaebiaa.V
open Go

def tau : Nat → TI := fun t => match t with
  | 2 => .int .i64
  | 3 => .int .i64
  | 4 => .bool
  | 5 => .int .u8
  | 6 => .int .u8
  | 7 => .struct [0, 1, 2, 3] [.int .i64 0, .int .i64 0, .bool false, .int .u8 0]
  | 8 => .struct [0, 1, 2, 3] [.int .i64 0, .int .i64 0, .bool false, .int .u8 0]
  | 9 => .str
  | 10 => .str
  | 11 => .str
  | 12 => .int .u64
  | 13 => .struct [0, 1] [.str [], .int .u64 0]
  | 14 => .struct [0, 1] [.str [], .int .u64 0]
  | 15 => .ptr
  | 16 => .ptr
  | 17 => .ptr
  | 21 => .int .i32
  | 22 => .slice 64 3 24 [.int .i64, .int .i64, .int .i64]
  | 25 => .slice 62 3 24 [.int .i64, .int .i64, .int .i64]
  | 29 => .slice 5 1 1 [.int .u8]
  | 32 => .slice 38 4 32 [.int .i64, .int .i64, .int .i64, .int .i64]
  | 37 => .struct [0, 1, 2, 3] [.int .i64 0, .int .i64 0, .int .i64 0, .int .i64 0]
  | 38 => .struct [0, 1, 2, 3] [.int .i64 0, .int .i64 0, .int .i64 0, .int .i64 0]
  | 39 => .slice 3 1 8 [.int .i64]
  | 40 => .struct [0, 1, 2] [.nil [.int .i64], .nil [.int .i64], .nil [.int .i64]]
  | 41 => .struct [0, 1, 2] [.nil [.int .i64], .nil [.int .i64], .nil [.int .i64]]
  | 44 => .struct [0, 1, 2] [.nil [.int .i64], .nil [.int .i64], .nil [.int .i64]]
  | 48 => .slice 53 4 32 [.int .i64, .int .i64, .int .i64, .int .i64]
  | 53 => .struct [0, 1, 2, 3] [.int .i64 0, .int .i64 0, .int .i64 0, .int .i64 0]
  | 61 => .struct [0, 1, 2] [.int .i64 0, .int .i64 0, .int .i64 0]
  | 62 => .struct [0, 1, 2] [.int .i64 0, .int .i64 0, .int .i64 0]
  | 64 => .struct [0, 1, 2] [.int .i64 0, .int .i64 0, .int .i64 0]
  | 65 => .array 8 1 [.bool]
  | 68 => .ptr
  | 81 => .struct [0, 1] [.nil [.int .u8], .int .i64 0]
  | 82 => .struct [0, 1] [.nil [.int .u8], .int .i64 0]
  | 92 => .int .u32
  | 93 => .int .u8
  | 94 => .int .u8
  | 96 => .ptr
  | 97 => .int .i32
  | 98 => .int .i32
  | _ => .other

set_option maxRecDepth 100000 in
theorem tab : TabOk Try.prog tau := by
  intro t
  unfold tau
  split <;> kernel_rfl

end Go.Proofs.Ytamcolbbaaebiaa.V
