/- What the layer of abstract values must know of the types of this program. -/
import Derived.Test.YtknkppbifpgkkaaChecked
import Derived.Test.YtknkppbifpgkkaaAbB
set_option linter.unusedVariables false
set_option linter.unusedSimpArgs false
namespace Go.Ab
open Go.Proofs
def tt : List (Nat × TI) := [
  (2, ⟨.int .i64, 1, 8, [.int .i64 0]⟩),
  (3, ⟨.int .i64, 1, 8, [.int .i64 0]⟩),
  (4, ⟨.bool, 1, 1, [.bool false]⟩),
  (5, ⟨.int .u8, 1, 1, [.int .u8 0]⟩),
  (6, ⟨.int .u8, 1, 1, [.int .u8 0]⟩),
  (7, ⟨.struct [(0, 2), (1, 3), (2, 4), (3, 6)], 4, 24, [.int .i64 0, .int .i64 0, .bool false, .int .u8 0]⟩),
  (8, ⟨.struct [(0, 2), (1, 3), (2, 4), (3, 6)], 4, 24, [.int .i64 0, .int .i64 0, .bool false, .int .u8 0]⟩),
  (9, ⟨.string, 1, 16, [.string ⟨#[]⟩]⟩),
  (10, ⟨.string, 1, 16, [.string ⟨#[]⟩]⟩),
  (11, ⟨.string, 1, 16, [.string ⟨#[]⟩]⟩),
  (12, ⟨.int .u64, 1, 8, [.int .u64 0]⟩),
  (13, ⟨.struct [(0, 9), (1, 12)], 2, 24, [.string ⟨#[]⟩, .int .u64 0]⟩),
  (14, ⟨.struct [(0, 9), (1, 12)], 2, 24, [.string ⟨#[]⟩, .int .u64 0]⟩),
  (15, ⟨.ptr 43, 1, 8, [.pointer none]⟩),
  (16, ⟨.ptr 46, 1, 8, [.pointer none]⟩),
  (17, ⟨.ptr 56, 1, 8, [.pointer none]⟩),
  (18, ⟨.struct [(0, 17)], 1, 8, [.pointer none]⟩),
  (19, ⟨.struct [(0, 17)], 1, 8, [.pointer none]⟩),
  (21, ⟨.int .i32, 1, 4, [.int .i32 0]⟩),
  (23, ⟨.int .i64, 1, 8, [.int .i64 0]⟩),
  (26, ⟨.slice 9, 1, 24, [.slice none 0 0]⟩),
  (31, ⟨.slice 3, 1, 24, [.slice none 0 0]⟩),
  (36, ⟨.slice 4, 1, 24, [.slice none 0 0]⟩),
  (42, ⟨.struct [(0, 17), (1, 17), (2, 17), (3, 9)], 4, 40, [.pointer none, .pointer none, .pointer none, .string ⟨#[]⟩]⟩),
  (43, ⟨.struct [(0, 17), (1, 17), (2, 17), (3, 9)], 4, 40, [.pointer none, .pointer none, .pointer none, .string ⟨#[]⟩]⟩),
  (44, ⟨.array 0 16, 0, 0, []⟩),
  (45, ⟨.struct [(0, 44)], 0, 0, []⟩),
  (46, ⟨.struct [(0, 44)], 0, 0, []⟩),
  (48, ⟨.int .u32, 1, 4, [.int .u32 0]⟩),
  (49, ⟨.int .u8, 1, 1, [.int .u8 0]⟩),
  (50, ⟨.int .u8, 1, 1, [.int .u8 0]⟩),
  (52, ⟨.ptr 5, 1, 8, [.pointer none]⟩),
  (53, ⟨.int .i32, 1, 4, [.int .i32 0]⟩),
  (54, ⟨.int .i32, 1, 4, [.int .i32 0]⟩),
  (55, ⟨.struct [(0, 12), (1, 12), (2, 48), (3, 49), (4, 5), (5, 5), (6, 50), (7, 51), (8, 52), (9, 53), (10, 54)], 11, 48, [.int .u64 0, .int .u64 0, .int .u32 0, .int .u8 0, .int .u8 0, .int .u8 0, .int .u8 0, .nilFunc, .pointer none, .int .i32 0, .int .i32 0]⟩),
  (56, ⟨.struct [(0, 12), (1, 12), (2, 48), (3, 49), (4, 5), (5, 5), (6, 50), (7, 51), (8, 52), (9, 53), (10, 54)], 11, 48, [.int .u64 0, .int .u64 0, .int .u32 0, .int .u8 0, .int .u8 0, .int .u8 0, .int .u8 0, .nilFunc, .pointer none, .int .i32 0, .int .i32 0]⟩)]
theorem good : TyGood Try.prog tt := by
  unfold tt
  simp only [TyGood]
  refine ⟨?_, ?_, ?_, ?_, ?_, ?_, ?_, ?_, ?_, ?_, ?_, ?_, ?_, ?_, ?_, ?_, ?_, ?_, ?_, ?_, ?_, ?_, ?_, ?_, ?_, ?_, ?_, ?_, ?_, ?_, ?_, ?_, ?_, ?_, ?_, ?_, trivial⟩
  all_goals exact ⟨by kernel_rfl, by kernel_rfl⟩
end Go.Ab
