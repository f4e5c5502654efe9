/- What the layer of abstract values must know of the types of this program. -/
import Derived.Test.YtmpmphkpplgbkaaChecked
import Derived.Test.YtmpmphkpplgbkaaAbB
set_option linter.unusedVariables false
set_option linter.unusedSimpArgs false
namespace Go.Ab
open Go.Proofs
def tt : List (Nat × TI) := [
  (2, ⟨.int .i64, 1, 8, [.int .i64 0]⟩),
  (3, ⟨.int .i64, 1, 8, [.int .i64 0]⟩),
  (4, ⟨.bool, 1, 1, [.bool false]⟩),
  (5, ⟨.int .u8, 1, 1, [.int .u8 0]⟩),
  (6, ⟨.int .u8, 1, 1, [.int .u8 0]⟩),
  (7, ⟨.struct [(0, 2), (1, 3), (2, 4), (3, 6)], 4, 24, [.int .i64 0, .int .i64 0, .bool false, .int .u8 0]⟩),
  (8, ⟨.struct [(0, 2), (1, 3), (2, 4), (3, 6)], 4, 24, [.int .i64 0, .int .i64 0, .bool false, .int .u8 0]⟩),
  (9, ⟨.string, 1, 16, [.string ⟨#[]⟩]⟩),
  (10, ⟨.string, 1, 16, [.string ⟨#[]⟩]⟩),
  (11, ⟨.string, 1, 16, [.string ⟨#[]⟩]⟩),
  (12, ⟨.int .u64, 1, 8, [.int .u64 0]⟩),
  (13, ⟨.struct [(0, 9), (1, 12)], 2, 24, [.string ⟨#[]⟩, .int .u64 0]⟩),
  (14, ⟨.struct [(0, 9), (1, 12)], 2, 24, [.string ⟨#[]⟩, .int .u64 0]⟩),
  (15, ⟨.ptr 121, 1, 8, [.pointer none]⟩),
  (16, ⟨.ptr 124, 1, 8, [.pointer none]⟩),
  (17, ⟨.ptr 134, 1, 8, [.pointer none]⟩),
  (18, ⟨.struct [(0, 17)], 1, 8, [.pointer none]⟩),
  (19, ⟨.struct [(0, 17)], 1, 8, [.pointer none]⟩),
  (21, ⟨.int .i32, 1, 4, [.int .i32 0]⟩),
  (22, ⟨.int .i64, 1, 8, [.int .i64 0]⟩),
  (23, ⟨.int .i64, 1, 8, [.int .i64 0]⟩),
  (24, ⟨.int .i64, 1, 8, [.int .i64 0]⟩),
  (25, ⟨.slice 28, 1, 24, [.slice none 0 0]⟩),
  (26, ⟨.slice 9, 1, 24, [.slice none 0 0]⟩),
  (27, ⟨.struct [(0, 24), (1, 3), (2, 9), (3, 25), (4, 26)], 5, 80, [.int .i64 0, .int .i64 0, .string ⟨#[]⟩, .slice none 0 0, .slice none 0 0]⟩),
  (28, ⟨.struct [(0, 24), (1, 3), (2, 9), (3, 25), (4, 26)], 5, 80, [.int .i64 0, .int .i64 0, .string ⟨#[]⟩, .slice none 0 0, .slice none 0 0]⟩),
  (29, ⟨.slice 31, 1, 24, [.slice none 0 0]⟩),
  (30, ⟨.struct [(0, 22), (1, 23), (2, 9), (3, 9), (4, 28), (9, 29), (10, 3)], 11, 160, [.int .i64 0, .int .i64 0, .string ⟨#[]⟩, .string ⟨#[]⟩, .int .i64 0, .int .i64 0, .string ⟨#[]⟩, .slice none 0 0, .slice none 0 0, .slice none 0 0, .int .i64 0]⟩),
  (31, ⟨.struct [(0, 22), (1, 23), (2, 9), (3, 9), (4, 28), (9, 29), (10, 3)], 11, 160, [.int .i64 0, .int .i64 0, .string ⟨#[]⟩, .string ⟨#[]⟩, .int .i64 0, .int .i64 0, .string ⟨#[]⟩, .slice none 0 0, .slice none 0 0, .slice none 0 0, .int .i64 0]⟩),
  (34, ⟨.int .i64, 1, 8, [.int .i64 0]⟩),
  (35, ⟨.struct [(0, 34), (1, 9), (2, 9), (3, 3)], 4, 48, [.int .i64 0, .string ⟨#[]⟩, .string ⟨#[]⟩, .int .i64 0]⟩),
  (36, ⟨.struct [(0, 34), (1, 9), (2, 9), (3, 3)], 4, 48, [.int .i64 0, .string ⟨#[]⟩, .string ⟨#[]⟩, .int .i64 0]⟩),
  (40, ⟨.slice 36, 1, 24, [.slice none 0 0]⟩),
  (47, ⟨.int .i64, 1, 8, [.int .i64 0]⟩),
  (50, ⟨.slice 96, 1, 24, [.slice none 0 0]⟩),
  (51, ⟨.slice 99, 1, 24, [.slice none 0 0]⟩),
  (52, ⟨.struct [(0, 50), (1, 51)], 2, 48, [.slice none 0 0, .slice none 0 0]⟩),
  (53, ⟨.struct [(0, 50), (1, 51)], 2, 48, [.slice none 0 0, .slice none 0 0]⟩),
  (65, ⟨.slice 4, 1, 24, [.slice none 0 0]⟩),
  (66, ⟨.struct [(0, 31), (11, 26), (12, 65), (13, 29)], 14, 232, [.int .i64 0, .int .i64 0, .string ⟨#[]⟩, .string ⟨#[]⟩, .int .i64 0, .int .i64 0, .string ⟨#[]⟩, .slice none 0 0, .slice none 0 0, .slice none 0 0, .int .i64 0, .slice none 0 0, .slice none 0 0, .slice none 0 0]⟩),
  (67, ⟨.struct [(0, 31), (11, 26), (12, 65), (13, 29)], 14, 232, [.int .i64 0, .int .i64 0, .string ⟨#[]⟩, .string ⟨#[]⟩, .int .i64 0, .int .i64 0, .string ⟨#[]⟩, .slice none 0 0, .slice none 0 0, .slice none 0 0, .int .i64 0, .slice none 0 0, .slice none 0 0, .slice none 0 0]⟩),
  (70, ⟨.ptr 72, 1, 8, [.pointer none]⟩),
  (71, ⟨.struct [(0, 40)], 1, 24, [.slice none 0 0]⟩),
  (72, ⟨.struct [(0, 40)], 1, 24, [.slice none 0 0]⟩),
  (95, ⟨.struct [(0, 9), (1, 31), (12, 3)], 13, 184, [.string ⟨#[]⟩, .int .i64 0, .int .i64 0, .string ⟨#[]⟩, .string ⟨#[]⟩, .int .i64 0, .int .i64 0, .string ⟨#[]⟩, .slice none 0 0, .slice none 0 0, .slice none 0 0, .int .i64 0, .int .i64 0]⟩),
  (96, ⟨.struct [(0, 9), (1, 31), (12, 3)], 13, 184, [.string ⟨#[]⟩, .int .i64 0, .int .i64 0, .string ⟨#[]⟩, .string ⟨#[]⟩, .int .i64 0, .int .i64 0, .string ⟨#[]⟩, .slice none 0 0, .slice none 0 0, .slice none 0 0, .int .i64 0, .int .i64 0]⟩),
  (98, ⟨.struct [(0, 9), (1, 26), (2, 53), (4, 3)], 5, 96, [.string ⟨#[]⟩, .slice none 0 0, .slice none 0 0, .slice none 0 0, .int .i64 0]⟩),
  (99, ⟨.struct [(0, 9), (1, 26), (2, 53), (4, 3)], 5, 96, [.string ⟨#[]⟩, .slice none 0 0, .slice none 0 0, .slice none 0 0, .int .i64 0]⟩),
  (116, ⟨.int .u64, 1, 8, [.int .u64 0]⟩),
  (120, ⟨.struct [(0, 17), (1, 17), (2, 17), (3, 9)], 4, 40, [.pointer none, .pointer none, .pointer none, .string ⟨#[]⟩]⟩),
  (121, ⟨.struct [(0, 17), (1, 17), (2, 17), (3, 9)], 4, 40, [.pointer none, .pointer none, .pointer none, .string ⟨#[]⟩]⟩),
  (122, ⟨.array 0 16, 0, 0, []⟩),
  (123, ⟨.struct [(0, 122)], 0, 0, []⟩),
  (124, ⟨.struct [(0, 122)], 0, 0, []⟩),
  (126, ⟨.int .u32, 1, 4, [.int .u32 0]⟩),
  (127, ⟨.int .u8, 1, 1, [.int .u8 0]⟩),
  (128, ⟨.int .u8, 1, 1, [.int .u8 0]⟩),
  (130, ⟨.ptr 5, 1, 8, [.pointer none]⟩),
  (131, ⟨.int .i32, 1, 4, [.int .i32 0]⟩),
  (132, ⟨.int .i32, 1, 4, [.int .i32 0]⟩),
  (133, ⟨.struct [(0, 12), (1, 12), (2, 126), (3, 127), (4, 5), (5, 5), (6, 128), (7, 129), (8, 130), (9, 131), (10, 132)], 11, 48, [.int .u64 0, .int .u64 0, .int .u32 0, .int .u8 0, .int .u8 0, .int .u8 0, .int .u8 0, .nilFunc, .pointer none, .int .i32 0, .int .i32 0]⟩),
  (134, ⟨.struct [(0, 12), (1, 12), (2, 126), (3, 127), (4, 5), (5, 5), (6, 128), (7, 129), (8, 130), (9, 131), (10, 132)], 11, 48, [.int .u64 0, .int .u64 0, .int .u32 0, .int .u8 0, .int .u8 0, .int .u8 0, .int .u8 0, .nilFunc, .pointer none, .int .i32 0, .int .i32 0]⟩)]
theorem good : TyGood Try.prog tt := by
  unfold tt
  simp only [TyGood]
  refine ⟨?_, ?_, ?_, ?_, ?_, ?_, ?_, ?_, ?_, ?_, ?_, ?_, ?_, ?_, ?_, ?_, ?_, ?_, ?_, ?_, ?_, ?_, ?_, ?_, ?_, ?_, ?_, ?_, ?_, ?_, ?_, ?_, ?_, ?_, ?_, ?_, ?_, ?_, ?_, ?_, ?_, ?_, ?_, ?_, ?_, ?_, ?_, ?_, ?_, ?_, ?_, ?_, ?_, ?_, ?_, ?_, ?_, ?_, ?_, ?_, ?_, ?_, trivial⟩
  all_goals exact ⟨by kernel_rfl, by kernel_rfl⟩
end Go.Ab
