/- The seat's types and functions, as the engine asks for them: printed by tab.py out of the translation; the kernel holds each against the program. -/
import Derived.Test.YtgfdpojpcpgddaaDoorEng
import Derived.Test.YtgfdpojpcpgddaaDoorProg
import Derived.KernelRfl
namespace Go.Proofs.YtgfdpojpcpgddaaDoor.Eng
open Go
def tabList : List (Nat × TI) := [
  (2, ⟨.int .i64, 1, [.int .i64 0], 8⟩),
  (3, ⟨.int .i64, 1, [.int .i64 0], 8⟩),
  (4, ⟨.bool, 1, [.bool false], 1⟩),
  (5, ⟨.int .u8, 1, [.int .u8 0], 1⟩),
  (6, ⟨.int .u8, 1, [.int .u8 0], 1⟩),
  (7, ⟨.struct #[⟨ "x", 2, 0, false, "", "runtime", 0⟩, ⟨ "y", 3, 1, false, "", "runtime", 8⟩, ⟨ "signed", 4, 2, false, "", "runtime", 16⟩, ⟨ "code", 6, 3, false, "", "runtime", 17⟩], 4, [.int .i64 0, .int .i64 0, .bool false, .int .u8 0], 24⟩),
  (8, ⟨.struct #[⟨ "x", 2, 0, false, "", "runtime", 0⟩, ⟨ "y", 3, 1, false, "", "runtime", 8⟩, ⟨ "signed", 4, 2, false, "", "runtime", 16⟩, ⟨ "code", 6, 3, false, "", "runtime", 17⟩], 4, [.int .i64 0, .int .i64 0, .bool false, .int .u8 0], 24⟩),
  (9, ⟨.string, 1, [.string ⟨#[]⟩], 16⟩),
  (10, ⟨.string, 1, [.string ⟨#[]⟩], 16⟩),
  (11, ⟨.string, 1, [.string ⟨#[]⟩], 16⟩),
  (12, ⟨.int .u64, 1, [.int .u64 0], 8⟩),
  (13, ⟨.struct #[⟨ "msg", 9, 0, false, "", "runtime", 0⟩, ⟨ "addr", 12, 1, false, "", "runtime", 16⟩], 2, [.string ⟨#[]⟩, .int .u64 0], 24⟩),
  (14, ⟨.struct #[⟨ "msg", 9, 0, false, "", "runtime", 0⟩, ⟨ "addr", 12, 1, false, "", "runtime", 16⟩], 2, [.string ⟨#[]⟩, .int .u64 0], 24⟩),
  (15, ⟨.pointer 97, 1, [.pointer none], 8⟩),
  (16, ⟨.pointer 100, 1, [.pointer none], 8⟩),
  (17, ⟨.pointer 109, 1, [.pointer none], 8⟩),
  (18, ⟨.struct #[⟨ "typ", 17, 0, false, "", "internal/runtime/maps", 0⟩], 1, [.pointer none], 8⟩),
  (19, ⟨.struct #[⟨ "typ", 17, 0, false, "", "internal/runtime/maps", 0⟩], 1, [.pointer none], 8⟩),
  (21, ⟨.int .i32, 1, [.int .i32 0], 4⟩),
  (22, ⟨.slice 5, 1, [.slice none 0 0], 24⟩),
  (23, ⟨.slice 3, 1, [.slice none 0 0], 24⟩),
  (25, ⟨.pointer 65, 1, [.pointer none], 8⟩),
  (26, ⟨.int .i64, 1, [.int .i64 0], 8⟩),
  (29, ⟨.pointer 59, 1, [.pointer none], 8⟩),
  (37, ⟨.slice 43, 1, [.slice none 0 0], 24⟩),
  (42, ⟨.struct #[⟨ "Do", 3, 0, false, "", "", 0⟩, ⟨ "At", 3, 1, false, "", "", 8⟩, ⟨ "N", 3, 2, false, "", "", 16⟩, ⟨ "Byte", 5, 3, false, "", "", 24⟩, ⟨ "Short", 4, 4, false, "", "", 25⟩, ⟨ "Kept", 23, 5, false, "", "", 32⟩], 6, [.int .i64 0, .int .i64 0, .int .i64 0, .int .u8 0, .bool false, .slice none 0 0], 56⟩),
  (43, ⟨.struct #[⟨ "Do", 3, 0, false, "", "", 0⟩, ⟨ "At", 3, 1, false, "", "", 8⟩, ⟨ "N", 3, 2, false, "", "", 16⟩, ⟨ "Byte", 5, 3, false, "", "", 24⟩, ⟨ "Short", 4, 4, false, "", "", 25⟩, ⟨ "Kept", 23, 5, false, "", "", 32⟩], 6, [.int .i64 0, .int .i64 0, .int .i64 0, .int .u8 0, .bool false, .slice none 0 0], 56⟩),
  (57, ⟨.slice 74, 1, [.slice none 0 0], 24⟩),
  (58, ⟨.struct #[⟨ "V", 57, 0, false, "", "", 0⟩, ⟨ "Done", 3, 1, false, "", "", 24⟩, ⟨ "Left", 3, 2, false, "", "", 32⟩, ⟨ "Gone", 4, 3, false, "", "", 40⟩], 4, [.slice none 0 0, .int .i64 0, .int .i64 0, .bool false], 48⟩),
  (59, ⟨.struct #[⟨ "V", 57, 0, false, "", "", 0⟩, ⟨ "Done", 3, 1, false, "", "", 24⟩, ⟨ "Left", 3, 2, false, "", "", 32⟩, ⟨ "Gone", 4, 3, false, "", "", 40⟩], 4, [.slice none 0 0, .int .i64 0, .int .i64 0, .bool false], 48⟩),
  (63, ⟨.slice 73, 1, [.slice none 0 0], 24⟩),
  (64, ⟨.struct #[⟨ "cells", 63, 0, false, "", "larch/disk", 0⟩, ⟨ "moves", 3, 1, false, "", "larch/disk", 24⟩, ⟨ "trip", 3, 2, false, "", "larch/disk", 32⟩, ⟨ "gone", 4, 3, false, "", "larch/disk", 40⟩], 4, [.slice none 0 0, .int .i64 0, .int .i64 0, .bool false], 48⟩),
  (65, ⟨.struct #[⟨ "cells", 63, 0, false, "", "larch/disk", 0⟩, ⟨ "moves", 3, 1, false, "", "larch/disk", 24⟩, ⟨ "trip", 3, 2, false, "", "larch/disk", 32⟩, ⟨ "gone", 4, 3, false, "", "larch/disk", 40⟩], 4, [.slice none 0 0, .int .i64 0, .int .i64 0, .bool false], 48⟩),
  (67, ⟨.array 256 5, 256, List.replicate 256 (.int .u8 0), 256⟩),
  (68, ⟨.array 256 5, 256, List.replicate 256 (.int .u8 0), 256⟩),
  (69, ⟨.slice 68, 1, [.slice none 0 0], 24⟩),
  (70, ⟨.struct #[⟨ "wait", 69, 0, false, "", "larch/disk", 0⟩], 1, [.slice none 0 0], 24⟩),
  (71, ⟨.struct #[⟨ "wait", 69, 0, false, "", "larch/disk", 0⟩], 1, [.slice none 0 0], 24⟩),
  (72, ⟨.struct #[⟨ "cache", 71, 0, true, "", "larch/disk", 0⟩, ⟨ "sure", 68, 1, false, "", "larch/disk", 24⟩], 257, [.slice none 0 0, .int .u8 0, .int .u8 0, .int .u8 0, .int .u8 0, .int .u8 0, .int .u8 0, .int .u8 0, .int .u8 0, .int .u8 0, .int .u8 0, .int .u8 0, .int .u8 0, .int .u8 0, .int .u8 0, .int .u8 0, .int .u8 0, .int .u8 0, .int .u8 0, .int .u8 0, .int .u8 0, .int .u8 0, .int .u8 0, .int .u8 0, .int .u8 0, .int .u8 0, .int .u8 0, .int .u8 0, .int .u8 0, .int .u8 0, .int .u8 0, .int .u8 0, .int .u8 0, .int .u8 0, .int .u8 0, .int .u8 0, .int .u8 0, .int .u8 0, .int .u8 0, .int .u8 0, .int .u8 0, .int .u8 0, .int .u8 0, .int .u8 0, .int .u8 0, .int .u8 0, .int .u8 0, .int .u8 0, .int .u8 0, .int .u8 0, .int .u8 0, .int .u8 0, .int .u8 0, .int .u8 0, .int .u8 0, .int .u8 0, .int .u8 0, .int .u8 0, .int .u8 0, .int .u8 0, .int .u8 0, .int .u8 0, .int .u8 0, .int .u8 0, .int .u8 0, .int .u8 0, .int .u8 0, .int .u8 0, .int .u8 0, .int .u8 0, .int .u8 0, .int .u8 0, .int .u8 0, .int .u8 0, .int .u8 0, .int .u8 0, .int .u8 0, .int .u8 0, .int .u8 0, .int .u8 0, .int .u8 0, .int .u8 0, .int .u8 0, .int .u8 0, .int .u8 0, .int .u8 0, .int .u8 0, .int .u8 0, .int .u8 0, .int .u8 0, .int .u8 0, .int .u8 0, .int .u8 0, .int .u8 0, .int .u8 0, .int .u8 0, .int .u8 0, .int .u8 0, .int .u8 0, .int .u8 0, .int .u8 0, .int .u8 0, .int .u8 0, .int .u8 0, .int .u8 0, .int .u8 0, .int .u8 0, .int .u8 0, .int .u8 0, .int .u8 0, .int .u8 0, .int .u8 0, .int .u8 0, .int .u8 0, .int .u8 0, .int .u8 0, .int .u8 0, .int .u8 0, .int .u8 0, .int .u8 0, .int .u8 0, .int .u8 0, .int .u8 0, .int .u8 0, .int .u8 0, .int .u8 0, .int .u8 0, .int .u8 0, .int .u8 0, .int .u8 0, .int .u8 0, .int .u8 0, .int .u8 0, .int .u8 0, .int .u8 0, .int .u8 0, .int .u8 0, .int .u8 0, .int .u8 0, .int .u8 0, .int .u8 0, .int .u8 0, .int .u8 0, .int .u8 0, .int .u8 0, .int .u8 0, .int .u8 0, .int .u8 0, .int .u8 0, .int .u8 0, .int .u8 0, .int .u8 0, .int .u8 0, .int .u8 0, .int .u8 0, .int .u8 0, .int .u8 0, .int .u8 0, .int .u8 0, .int .u8 0, .int .u8 0, .int .u8 0, .int .u8 0, .int .u8 0, .int .u8 0, .int .u8 0, .int .u8 0, .int .u8 0, .int .u8 0, .int .u8 0, .int .u8 0, .int .u8 0, .int .u8 0, .int .u8 0, .int .u8 0, .int .u8 0, .int .u8 0, .int .u8 0, .int .u8 0, .int .u8 0, .int .u8 0, .int .u8 0, .int .u8 0, .int .u8 0, .int .u8 0, .int .u8 0, .int .u8 0, .int .u8 0, .int .u8 0, .int .u8 0, .int .u8 0, .int .u8 0, .int .u8 0, .int .u8 0, .int .u8 0, .int .u8 0, .int .u8 0, .int .u8 0, .int .u8 0, .int .u8 0, .int .u8 0, .int .u8 0, .int .u8 0, .int .u8 0, .int .u8 0, .int .u8 0, .int .u8 0, .int .u8 0, .int .u8 0, .int .u8 0, .int .u8 0, .int .u8 0, .int .u8 0, .int .u8 0, .int .u8 0, .int .u8 0, .int .u8 0, .int .u8 0, .int .u8 0, .int .u8 0, .int .u8 0, .int .u8 0, .int .u8 0, .int .u8 0, .int .u8 0, .int .u8 0, .int .u8 0, .int .u8 0, .int .u8 0, .int .u8 0, .int .u8 0, .int .u8 0, .int .u8 0, .int .u8 0, .int .u8 0, .int .u8 0, .int .u8 0, .int .u8 0, .int .u8 0, .int .u8 0, .int .u8 0, .int .u8 0, .int .u8 0, .int .u8 0, .int .u8 0, .int .u8 0, .int .u8 0, .int .u8 0, .int .u8 0, .int .u8 0, .int .u8 0, .int .u8 0, .int .u8 0, .int .u8 0, .int .u8 0, .int .u8 0, .int .u8 0], 280⟩),
  (73, ⟨.struct #[⟨ "cache", 71, 0, true, "", "larch/disk", 0⟩, ⟨ "sure", 68, 1, false, "", "larch/disk", 24⟩], 257, [.slice none 0 0, .int .u8 0, .int .u8 0, .int .u8 0, .int .u8 0, .int .u8 0, .int .u8 0, .int .u8 0, .int .u8 0, .int .u8 0, .int .u8 0, .int .u8 0, .int .u8 0, .int .u8 0, .int .u8 0, .int .u8 0, .int .u8 0, .int .u8 0, .int .u8 0, .int .u8 0, .int .u8 0, .int .u8 0, .int .u8 0, .int .u8 0, .int .u8 0, .int .u8 0, .int .u8 0, .int .u8 0, .int .u8 0, .int .u8 0, .int .u8 0, .int .u8 0, .int .u8 0, .int .u8 0, .int .u8 0, .int .u8 0, .int .u8 0, .int .u8 0, .int .u8 0, .int .u8 0, .int .u8 0, .int .u8 0, .int .u8 0, .int .u8 0, .int .u8 0, .int .u8 0, .int .u8 0, .int .u8 0, .int .u8 0, .int .u8 0, .int .u8 0, .int .u8 0, .int .u8 0, .int .u8 0, .int .u8 0, .int .u8 0, .int .u8 0, .int .u8 0, .int .u8 0, .int .u8 0, .int .u8 0, .int .u8 0, .int .u8 0, .int .u8 0, .int .u8 0, .int .u8 0, .int .u8 0, .int .u8 0, .int .u8 0, .int .u8 0, .int .u8 0, .int .u8 0, .int .u8 0, .int .u8 0, .int .u8 0, .int .u8 0, .int .u8 0, .int .u8 0, .int .u8 0, .int .u8 0, .int .u8 0, .int .u8 0, .int .u8 0, .int .u8 0, .int .u8 0, .int .u8 0, .int .u8 0, .int .u8 0, .int .u8 0, .int .u8 0, .int .u8 0, .int .u8 0, .int .u8 0, .int .u8 0, .int .u8 0, .int .u8 0, .int .u8 0, .int .u8 0, .int .u8 0, .int .u8 0, .int .u8 0, .int .u8 0, .int .u8 0, .int .u8 0, .int .u8 0, .int .u8 0, .int .u8 0, .int .u8 0, .int .u8 0, .int .u8 0, .int .u8 0, .int .u8 0, .int .u8 0, .int .u8 0, .int .u8 0, .int .u8 0, .int .u8 0, .int .u8 0, .int .u8 0, .int .u8 0, .int .u8 0, .int .u8 0, .int .u8 0, .int .u8 0, .int .u8 0, .int .u8 0, .int .u8 0, .int .u8 0, .int .u8 0, .int .u8 0, .int .u8 0, .int .u8 0, .int .u8 0, .int .u8 0, .int .u8 0, .int .u8 0, .int .u8 0, .int .u8 0, .int .u8 0, .int .u8 0, .int .u8 0, .int .u8 0, .int .u8 0, .int .u8 0, .int .u8 0, .int .u8 0, .int .u8 0, .int .u8 0, .int .u8 0, .int .u8 0, .int .u8 0, .int .u8 0, .int .u8 0, .int .u8 0, .int .u8 0, .int .u8 0, .int .u8 0, .int .u8 0, .int .u8 0, .int .u8 0, .int .u8 0, .int .u8 0, .int .u8 0, .int .u8 0, .int .u8 0, .int .u8 0, .int .u8 0, .int .u8 0, .int .u8 0, .int .u8 0, .int .u8 0, .int .u8 0, .int .u8 0, .int .u8 0, .int .u8 0, .int .u8 0, .int .u8 0, .int .u8 0, .int .u8 0, .int .u8 0, .int .u8 0, .int .u8 0, .int .u8 0, .int .u8 0, .int .u8 0, .int .u8 0, .int .u8 0, .int .u8 0, .int .u8 0, .int .u8 0, .int .u8 0, .int .u8 0, .int .u8 0, .int .u8 0, .int .u8 0, .int .u8 0, .int .u8 0, .int .u8 0, .int .u8 0, .int .u8 0, .int .u8 0, .int .u8 0, .int .u8 0, .int .u8 0, .int .u8 0, .int .u8 0, .int .u8 0, .int .u8 0, .int .u8 0, .int .u8 0, .int .u8 0, .int .u8 0, .int .u8 0, .int .u8 0, .int .u8 0, .int .u8 0, .int .u8 0, .int .u8 0, .int .u8 0, .int .u8 0, .int .u8 0, .int .u8 0, .int .u8 0, .int .u8 0, .int .u8 0, .int .u8 0, .int .u8 0, .int .u8 0, .int .u8 0, .int .u8 0, .int .u8 0, .int .u8 0, .int .u8 0, .int .u8 0, .int .u8 0, .int .u8 0, .int .u8 0, .int .u8 0, .int .u8 0, .int .u8 0, .int .u8 0, .int .u8 0, .int .u8 0, .int .u8 0, .int .u8 0, .int .u8 0, .int .u8 0, .int .u8 0, .int .u8 0, .int .u8 0, .int .u8 0, .int .u8 0, .int .u8 0, .int .u8 0, .int .u8 0, .int .u8 0, .int .u8 0], 280⟩),
  (74, ⟨.slice 9, 1, [.slice none 0 0], 24⟩),
  (75, ⟨.int .i8, 1, [.int .i8 0], 1⟩),
  (76, ⟨.int .i8, 1, [.int .i8 0], 1⟩),
  (77, ⟨.struct #[⟨ "buf", 22, 0, false, "", "bytes", 0⟩, ⟨ "off", 3, 1, false, "", "bytes", 24⟩, ⟨ "lastRead", 76, 2, false, "", "bytes", 32⟩], 3, [.slice none 0 0, .int .i64 0, .int .i8 0], 40⟩),
  (78, ⟨.struct #[⟨ "buf", 22, 0, false, "", "bytes", 0⟩, ⟨ "off", 3, 1, false, "", "bytes", 24⟩, ⟨ "lastRead", 76, 2, false, "", "bytes", 32⟩], 3, [.slice none 0 0, .int .i64 0, .int .i8 0], 40⟩),
  (84, ⟨.int .u64, 1, [.int .u64 0], 8⟩),
  (85, ⟨.pointer 73, 1, [.pointer none], 8⟩),
  (89, ⟨.pointer 78, 1, [.pointer none], 8⟩),
  (93, ⟨.pointer 71, 1, [.pointer none], 8⟩),
  (95, ⟨.pointer 111, 1, [.pointer none], 8⟩),
  (96, ⟨.struct #[⟨ "_interface", 17, 0, false, "", "runtime", 0⟩, ⟨ "concrete", 17, 1, false, "", "runtime", 8⟩, ⟨ "asserted", 17, 2, false, "", "runtime", 16⟩, ⟨ "missingMethod", 9, 3, false, "", "runtime", 24⟩], 4, [.pointer none, .pointer none, .pointer none, .string ⟨#[]⟩], 40⟩),
  (97, ⟨.struct #[⟨ "_interface", 17, 0, false, "", "runtime", 0⟩, ⟨ "concrete", 17, 1, false, "", "runtime", 8⟩, ⟨ "asserted", 17, 2, false, "", "runtime", 16⟩, ⟨ "missingMethod", 9, 3, false, "", "runtime", 24⟩], 4, [.pointer none, .pointer none, .pointer none, .string ⟨#[]⟩], 40⟩),
  (98, ⟨.array 0 16, 0, [], 0⟩),
  (99, ⟨.struct #[⟨ "_", 98, 0, false, "", "runtime", 0⟩], 0, [], 0⟩),
  (100, ⟨.struct #[⟨ "_", 98, 0, false, "", "runtime", 0⟩], 0, [], 0⟩),
  (101, ⟨.int .u32, 1, [.int .u32 0], 4⟩),
  (102, ⟨.int .u8, 1, [.int .u8 0], 1⟩),
  (103, ⟨.int .u8, 1, [.int .u8 0], 1⟩),
  (105, ⟨.pointer 5, 1, [.pointer none], 8⟩),
  (106, ⟨.int .i32, 1, [.int .i32 0], 4⟩),
  (107, ⟨.int .i32, 1, [.int .i32 0], 4⟩),
  (108, ⟨.struct #[⟨ "Size_", 12, 0, false, "", "", 0⟩, ⟨ "PtrBytes", 12, 1, false, "", "", 8⟩, ⟨ "Hash", 101, 2, false, "", "", 16⟩, ⟨ "TFlag", 102, 3, false, "", "", 20⟩, ⟨ "Align_", 5, 4, false, "", "", 21⟩, ⟨ "FieldAlign_", 5, 5, false, "", "", 22⟩, ⟨ "Kind_", 103, 6, false, "", "", 23⟩, ⟨ "Equal", 104, 7, false, "", "", 24⟩, ⟨ "GCData", 105, 8, false, "", "", 32⟩, ⟨ "Str", 106, 9, false, "", "", 40⟩, ⟨ "PtrToThis", 107, 10, false, "", "", 44⟩], 11, [.int .u64 0, .int .u64 0, .int .u32 0, .int .u8 0, .int .u8 0, .int .u8 0, .int .u8 0, .nilFunc, .pointer none, .int .i32 0, .int .i32 0], 48⟩),
  (109, ⟨.struct #[⟨ "Size_", 12, 0, false, "", "", 0⟩, ⟨ "PtrBytes", 12, 1, false, "", "", 8⟩, ⟨ "Hash", 101, 2, false, "", "", 16⟩, ⟨ "TFlag", 102, 3, false, "", "", 20⟩, ⟨ "Align_", 5, 4, false, "", "", 21⟩, ⟨ "FieldAlign_", 5, 5, false, "", "", 22⟩, ⟨ "Kind_", 103, 6, false, "", "", 23⟩, ⟨ "Equal", 104, 7, false, "", "", 24⟩, ⟨ "GCData", 105, 8, false, "", "", 32⟩, ⟨ "Str", 106, 9, false, "", "", 40⟩, ⟨ "PtrToThis", 107, 10, false, "", "", 44⟩], 11, [.int .u64 0, .int .u64 0, .int .u32 0, .int .u8 0, .int .u8 0, .int .u8 0, .int .u8 0, .nilFunc, .pointer none, .int .i32 0, .int .i32 0], 48⟩),
  (110, ⟨.struct #[⟨ "s", 9, 0, false, "", "errors", 0⟩], 1, [.string ⟨#[]⟩], 16⟩),
  (111, ⟨.struct #[⟨ "s", 9, 0, false, "", "errors", 0⟩], 1, [.string ⟨#[]⟩], 16⟩)]
def fnList : List Nat := [3, 4, 5, 6, 7, 8, 9, 10, 11, 12, 13, 14, 15, 16, 17, 18, 19, 20, 21, 22, 23, 24, 25, 26, 27, 28, 29, 30, 31, 32, 33, 34, 35, 36, 37, 38, 39, 40, 41, 42, 43, 44, 45, 46, 47, 48, 49, 50, 51, 52, 53, 54]
def T : Tab := lkT tabList
def F : FuncId → Bool := lkF fnList
theorem tabRows : tabList.map (fun p => tabOf Tryd.prog p.1) = tabList.map (fun p => some p.2) := by kernel_rfl
theorem fnRows : fnList.all (fnOk Tryd.prog) = true := by kernel_rfl
theorem ok : TabOk Tryd.prog T F := tabOk_of tabRows fnRows
end Go.Proofs.YtgfdpojpcpgddaaDoor.Eng
