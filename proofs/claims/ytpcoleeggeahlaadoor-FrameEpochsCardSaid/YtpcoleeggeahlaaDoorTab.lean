/- The seat's types and functions, as the engine asks for them: printed by tab.py out of the translation; the kernel holds each against the program. -/
import Derived.Test.YtpcoleeggeahlaaDoorEng
import Derived.Test.YtpcoleeggeahlaaDoorProg
import Derived.KernelRfl
namespace Go.Proofs.YtpcoleeggeahlaaDoor.Eng
open Go
def tabList : List (Nat × TI) := [
  (2, ⟨.int .i64, 1, [.int .i64 0], 8⟩),
  (3, ⟨.int .i64, 1, [.int .i64 0], 8⟩),
  (4, ⟨.bool, 1, [.bool false], 1⟩),
  (5, ⟨.int .u8, 1, [.int .u8 0], 1⟩),
  (6, ⟨.int .u8, 1, [.int .u8 0], 1⟩),
  (7, ⟨.struct #[⟨ "x", 2, 0, false, "", "runtime", 0⟩, ⟨ "y", 3, 1, false, "", "runtime", 8⟩, ⟨ "signed", 4, 2, false, "", "runtime", 16⟩, ⟨ "code", 6, 3, false, "", "runtime", 17⟩], 4, [.int .i64 0, .int .i64 0, .bool false, .int .u8 0], 24⟩),
  (8, ⟨.struct #[⟨ "x", 2, 0, false, "", "runtime", 0⟩, ⟨ "y", 3, 1, false, "", "runtime", 8⟩, ⟨ "signed", 4, 2, false, "", "runtime", 16⟩, ⟨ "code", 6, 3, false, "", "runtime", 17⟩], 4, [.int .i64 0, .int .i64 0, .bool false, .int .u8 0], 24⟩),
  (9, ⟨.string, 1, [.string ⟨#[]⟩], 16⟩),
  (10, ⟨.string, 1, [.string ⟨#[]⟩], 16⟩),
  (11, ⟨.string, 1, [.string ⟨#[]⟩], 16⟩),
  (12, ⟨.int .u64, 1, [.int .u64 0], 8⟩),
  (13, ⟨.struct #[⟨ "msg", 9, 0, false, "", "runtime", 0⟩, ⟨ "addr", 12, 1, false, "", "runtime", 16⟩], 2, [.string ⟨#[]⟩, .int .u64 0], 24⟩),
  (14, ⟨.struct #[⟨ "msg", 9, 0, false, "", "runtime", 0⟩, ⟨ "addr", 12, 1, false, "", "runtime", 16⟩], 2, [.string ⟨#[]⟩, .int .u64 0], 24⟩),
  (15, ⟨.pointer 65, 1, [.pointer none], 8⟩),
  (16, ⟨.pointer 68, 1, [.pointer none], 8⟩),
  (17, ⟨.pointer 77, 1, [.pointer none], 8⟩),
  (18, ⟨.struct #[⟨ "typ", 17, 0, false, "", "internal/runtime/maps", 0⟩], 1, [.pointer none], 8⟩),
  (19, ⟨.struct #[⟨ "typ", 17, 0, false, "", "internal/runtime/maps", 0⟩], 1, [.pointer none], 8⟩),
  (21, ⟨.int .i32, 1, [.int .i32 0], 4⟩),
  (22, ⟨.struct #[⟨ "Epoch", 3, 0, false, "", "", 0⟩, ⟨ "Data", 9, 1, false, "", "", 8⟩], 2, [.int .i64 0, .string ⟨#[]⟩], 24⟩),
  (23, ⟨.struct #[⟨ "Epoch", 3, 0, false, "", "", 0⟩, ⟨ "Data", 9, 1, false, "", "", 8⟩], 2, [.int .i64 0, .string ⟨#[]⟩], 24⟩),
  (25, ⟨.slice 5, 1, [.slice none 0 0], 24⟩),
  (26, ⟨.int .i64, 1, [.int .i64 0], 8⟩),
  (32, ⟨.slice 23, 1, [.slice none 0 0], 24⟩),
  (46, ⟨.int .u64, 1, [.int .u64 0], 8⟩),
  (53, ⟨.int .u32, 1, [.int .u32 0], 4⟩),
  (55, ⟨.int .u64, 1, [.int .u64 0], 8⟩),
  (56, ⟨.slice 3, 1, [.slice none 0 0], 24⟩),
  (59, ⟨.slice 25, 1, [.slice none 0 0], 24⟩),
  (62, ⟨.array 16 53, 16, List.replicate 16 (.int .u32 0), 64⟩),
  (64, ⟨.struct #[⟨ "_interface", 17, 0, false, "", "runtime", 0⟩, ⟨ "concrete", 17, 1, false, "", "runtime", 8⟩, ⟨ "asserted", 17, 2, false, "", "runtime", 16⟩, ⟨ "missingMethod", 9, 3, false, "", "runtime", 24⟩], 4, [.pointer none, .pointer none, .pointer none, .string ⟨#[]⟩], 40⟩),
  (65, ⟨.struct #[⟨ "_interface", 17, 0, false, "", "runtime", 0⟩, ⟨ "concrete", 17, 1, false, "", "runtime", 8⟩, ⟨ "asserted", 17, 2, false, "", "runtime", 16⟩, ⟨ "missingMethod", 9, 3, false, "", "runtime", 24⟩], 4, [.pointer none, .pointer none, .pointer none, .string ⟨#[]⟩], 40⟩),
  (66, ⟨.array 0 16, 0, [], 0⟩),
  (67, ⟨.struct #[⟨ "_", 66, 0, false, "", "runtime", 0⟩], 0, [], 0⟩),
  (68, ⟨.struct #[⟨ "_", 66, 0, false, "", "runtime", 0⟩], 0, [], 0⟩),
  (70, ⟨.int .u8, 1, [.int .u8 0], 1⟩),
  (71, ⟨.int .u8, 1, [.int .u8 0], 1⟩),
  (73, ⟨.pointer 5, 1, [.pointer none], 8⟩),
  (74, ⟨.int .i32, 1, [.int .i32 0], 4⟩),
  (75, ⟨.int .i32, 1, [.int .i32 0], 4⟩),
  (76, ⟨.struct #[⟨ "Size_", 12, 0, false, "", "", 0⟩, ⟨ "PtrBytes", 12, 1, false, "", "", 8⟩, ⟨ "Hash", 53, 2, false, "", "", 16⟩, ⟨ "TFlag", 70, 3, false, "", "", 20⟩, ⟨ "Align_", 5, 4, false, "", "", 21⟩, ⟨ "FieldAlign_", 5, 5, false, "", "", 22⟩, ⟨ "Kind_", 71, 6, false, "", "", 23⟩, ⟨ "Equal", 72, 7, false, "", "", 24⟩, ⟨ "GCData", 73, 8, false, "", "", 32⟩, ⟨ "Str", 74, 9, false, "", "", 40⟩, ⟨ "PtrToThis", 75, 10, false, "", "", 44⟩], 11, [.int .u64 0, .int .u64 0, .int .u32 0, .int .u8 0, .int .u8 0, .int .u8 0, .int .u8 0, .nilFunc, .pointer none, .int .i32 0, .int .i32 0], 48⟩),
  (77, ⟨.struct #[⟨ "Size_", 12, 0, false, "", "", 0⟩, ⟨ "PtrBytes", 12, 1, false, "", "", 8⟩, ⟨ "Hash", 53, 2, false, "", "", 16⟩, ⟨ "TFlag", 70, 3, false, "", "", 20⟩, ⟨ "Align_", 5, 4, false, "", "", 21⟩, ⟨ "FieldAlign_", 5, 5, false, "", "", 22⟩, ⟨ "Kind_", 71, 6, false, "", "", 23⟩, ⟨ "Equal", 72, 7, false, "", "", 24⟩, ⟨ "GCData", 73, 8, false, "", "", 32⟩, ⟨ "Str", 74, 9, false, "", "", 40⟩, ⟨ "PtrToThis", 75, 10, false, "", "", 44⟩], 11, [.int .u64 0, .int .u64 0, .int .u32 0, .int .u8 0, .int .u8 0, .int .u8 0, .int .u8 0, .nilFunc, .pointer none, .int .i32 0, .int .i32 0], 48⟩)]
def fnList : List Nat := [3, 4, 5, 6, 7, 8, 9, 10, 11, 12, 13, 14, 15, 16, 17, 18, 19, 20, 21, 22, 23, 24, 25, 26, 27, 28, 29, 30, 31]
def T : Tab := lkT tabList
def F : FuncId → Bool := lkF fnList
theorem tabRows : tabList.map (fun p => tabOf Tryd.prog p.1) = tabList.map (fun p => some p.2) := by kernel_rfl
theorem fnRows : fnList.all (fnOk Tryd.prog) = true := by kernel_rfl
theorem ok : TabOk Tryd.prog T F := tabOk_of tabRows fnRows
end Go.Proofs.YtpcoleeggeahlaaDoor.Eng
