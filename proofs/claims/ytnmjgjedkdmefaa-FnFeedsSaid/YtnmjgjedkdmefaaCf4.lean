/- The types of the seat, as a table that is checked against the program. -/
import Derived.Test.YtnmjgjedkdmefaaAbD
import Derived.Test.YtnmjgjedkdmefaaFB
import Derived.KernelRfl
import Derived.Test.YtnmjgjedkdmefaaProg
set_option linter.unusedVariables false
set_option linter.unusedSimpArgs false
namespace Go.Ab
open Go.Proofs
def tys : List (Nat × TI) := [
  (2, ⟨.int .i64, 1, [.int .i64 0], 8⟩),
  (3, ⟨.int .i64, 1, [.int .i64 0], 8⟩),
  (25, ⟨.slice 5, 1, [.slice none 0 0], 24⟩),
  (29, ⟨.struct [(0, 24), (1, 25), (2, 4), (3, 2)], 4, [.slice none 0 0, .slice none 0 0, .bool false, .int .i64 0], 64⟩),
  (77, ⟨.struct [(0, 75), (4, 2), (5, 2), (6, 4), (7, 2), (8, 2), (9, 2), (10, 4), (11, 4), (12, 4), (13, 64), (14, 2), (15, 2), (16, 2), (17, 58), (18, 2), (19, 2)], 20, [.int .i64 0, .int .i64 0, .slice none 0 0, .slice none 0 0, .int .i64 0, .int .i64 0, .bool false, .int .i64 0, .int .i64 0, .int .i64 0, .bool false, .bool false, .bool false, .slice none 0 0, .int .i64 0, .int .i64 0, .int .i64 0, .slice none 0 0, .int .i64 0, .int .i64 0], 208⟩),
  (4, ⟨.bool, 1, [.bool false], 1⟩),
  (33, ⟨.struct [(0, 2), (1, 2), (2, 2), (3, 2), (4, 2), (5, 2), (6, 2)], 7, [.int .i64 0, .int .i64 0, .int .i64 0, .int .i64 0, .int .i64 0, .int .i64 0, .int .i64 0], 56⟩),
  (5, ⟨.int .u8, 1, [.int .u8 0], 1⟩),
  (58, ⟨.slice 2, 1, [.slice none 0 0], 24⟩),
  (31, ⟨.struct [(0, 2), (1, 4), (2, 25), (3, 25), (4, 29)], 8, [.int .i64 0, .bool false, .slice none 0 0, .slice none 0 0, .slice none 0 0, .slice none 0 0, .bool false, .int .i64 0], 128⟩),
  (24, ⟨.slice 25, 1, [.slice none 0 0], 24⟩),
  (75, ⟨.struct [(0, 2), (1, 2), (2, 73), (3, 73)], 4, [.int .i64 0, .int .i64 0, .slice none 0 0, .slice none 0 0], 64⟩),
  (73, ⟨.slice 190, 1, [.slice none 0 0], 24⟩),
  (72, ⟨.struct [(0, 2), (1, 2), (2, 4), (3, 58)], 4, [.int .i64 0, .int .i64 0, .bool false, .slice none 0 0], 48⟩),
  (84, ⟨.struct [(0, 79), (27, 33), (34, 29)], 38, [.int .i64 0, .int .i64 0, .int .i64 0, .int .i64 0, .int .i64 0, .bool false, .slice none 0 0, .int .i64 0, .int .i64 0, .slice none 0 0, .slice none 0 0, .int .i64 0, .int .i64 0, .bool false, .int .i64 0, .int .i64 0, .int .i64 0, .bool false, .bool false, .bool false, .slice none 0 0, .int .i64 0, .int .i64 0, .int .i64 0, .slice none 0 0, .int .i64 0, .int .i64 0, .int .i64 0, .int .i64 0, .int .i64 0, .int .i64 0, .int .i64 0, .int .i64 0, .int .i64 0, .slice none 0 0, .slice none 0 0, .bool false, .int .i64 0], 400⟩),
  (79, ⟨.struct [(0, 71), (3, 72), (7, 77)], 27, [.int .i64 0, .int .i64 0, .int .i64 0, .int .i64 0, .int .i64 0, .bool false, .slice none 0 0, .int .i64 0, .int .i64 0, .slice none 0 0, .slice none 0 0, .int .i64 0, .int .i64 0, .bool false, .int .i64 0, .int .i64 0, .int .i64 0, .bool false, .bool false, .bool false, .slice none 0 0, .int .i64 0, .int .i64 0, .int .i64 0, .slice none 0 0, .int .i64 0, .int .i64 0], 280⟩),
  (64, ⟨.slice 4, 1, [.slice none 0 0], 24⟩),
  (71, ⟨.struct [(0, 2), (1, 2), (2, 2)], 3, [.int .i64 0, .int .i64 0, .int .i64 0], 24⟩),
  (86, ⟨.struct [(0, 2), (1, 4), (2, 25), (3, 84)], 41, [.int .i64 0, .bool false, .slice none 0 0, .int .i64 0, .int .i64 0, .int .i64 0, .int .i64 0, .int .i64 0, .bool false, .slice none 0 0, .int .i64 0, .int .i64 0, .slice none 0 0, .slice none 0 0, .int .i64 0, .int .i64 0, .bool false, .int .i64 0, .int .i64 0, .int .i64 0, .bool false, .bool false, .bool false, .slice none 0 0, .int .i64 0, .int .i64 0, .int .i64 0, .slice none 0 0, .int .i64 0, .int .i64 0, .int .i64 0, .int .i64 0, .int .i64 0, .int .i64 0, .int .i64 0, .int .i64 0, .int .i64 0, .slice none 0 0, .slice none 0 0, .bool false, .int .i64 0], 440⟩),
  (146, ⟨.struct [(0, 33), (7, 29), (11, 25)], 12, [.int .i64 0, .int .i64 0, .int .i64 0, .int .i64 0, .int .i64 0, .int .i64 0, .int .i64 0, .slice none 0 0, .slice none 0 0, .bool false, .int .i64 0, .slice none 0 0], 144⟩),
  (190, ⟨.struct [(0, 2), (1, 2)], 2, [.int .i64 0, .int .i64 0], 16⟩),
  (99, ⟨.ptr, 1, [.pointer none], 8⟩),
  (226, ⟨.int .u64, 1, [.int .u64 0], 8⟩),
  (27, ⟨.struct [(0, 24), (1, 25), (2, 4), (3, 2)], 4, [.slice none 0 0, .slice none 0 0, .bool false, .int .i64 0], 64⟩),
  (100, ⟨.ptr, 1, [.pointer none], 8⟩),
  (108, ⟨.ptr, 1, [.pointer none], 8⟩),
  (179, ⟨.ptr, 1, [.pointer none], 8⟩),
  (92, ⟨.struct [(0, 68), (27, 23), (34, 27)], 38, [.int .i64 0, .int .i64 0, .int .i64 0, .int .i64 0, .int .i64 0, .bool false, .slice none 0 0, .int .i64 0, .int .i64 0, .slice none 0 0, .slice none 0 0, .int .i64 0, .int .i64 0, .bool false, .int .i64 0, .int .i64 0, .int .i64 0, .bool false, .bool false, .bool false, .slice none 0 0, .int .i64 0, .int .i64 0, .int .i64 0, .slice none 0 0, .int .i64 0, .int .i64 0, .int .i64 0, .int .i64 0, .int .i64 0, .int .i64 0, .int .i64 0, .int .i64 0, .int .i64 0, .slice none 0 0, .slice none 0 0, .bool false, .int .i64 0], 400⟩),
  (66, ⟨.struct [(0, 63), (4, 2), (5, 2), (6, 4), (7, 2), (8, 2), (9, 2), (10, 4), (11, 4), (12, 4), (13, 64), (14, 2), (15, 2), (16, 2), (17, 58), (18, 2), (19, 2)], 20, [.int .i64 0, .int .i64 0, .slice none 0 0, .slice none 0 0, .int .i64 0, .int .i64 0, .bool false, .int .i64 0, .int .i64 0, .int .i64 0, .bool false, .bool false, .bool false, .slice none 0 0, .int .i64 0, .int .i64 0, .int .i64 0, .slice none 0 0, .int .i64 0, .int .i64 0], 208⟩),
  (23, ⟨.struct [(0, 2), (1, 2), (2, 2), (3, 2), (4, 2), (5, 2), (6, 2)], 7, [.int .i64 0, .int .i64 0, .int .i64 0, .int .i64 0, .int .i64 0, .int .i64 0, .int .i64 0], 56⟩),
  (68, ⟨.struct [(0, 57), (3, 60), (7, 66)], 27, [.int .i64 0, .int .i64 0, .int .i64 0, .int .i64 0, .int .i64 0, .bool false, .slice none 0 0, .int .i64 0, .int .i64 0, .slice none 0 0, .slice none 0 0, .int .i64 0, .int .i64 0, .bool false, .int .i64 0, .int .i64 0, .int .i64 0, .bool false, .bool false, .bool false, .slice none 0 0, .int .i64 0, .int .i64 0, .int .i64 0, .slice none 0 0, .int .i64 0, .int .i64 0], 280⟩),
  (220, ⟨.int .u64, 1, [.int .u64 0], 8⟩),
  (9, ⟨.str, 1, [.string .empty], 16⟩),
  (161, ⟨.ptr, 1, [.pointer none], 8⟩),
  (61, ⟨.slice 209, 1, [.slice none 0 0], 24⟩),
  (63, ⟨.struct [(0, 2), (1, 2), (2, 61), (3, 61)], 4, [.int .i64 0, .int .i64 0, .slice none 0 0, .slice none 0 0], 64⟩),
  (223, ⟨.int .u32, 1, [.int .u32 0], 4⟩),
  (60, ⟨.struct [(0, 2), (1, 2), (2, 4), (3, 58)], 4, [.int .i64 0, .int .i64 0, .bool false, .slice none 0 0], 48⟩),
  (53, ⟨.struct [(0, 2), (1, 2)], 2, [.int .i64 0, .int .i64 0], 16⟩),
  (149, ⟨.struct [(0, 25), (1, 2)], 2, [.slice none 0 0, .int .i64 0], 32⟩),
  (57, ⟨.struct [(0, 2), (1, 2), (2, 2)], 3, [.int .i64 0, .int .i64 0, .int .i64 0], 24⟩),
  (121, ⟨.ptr, 1, [.pointer none], 8⟩),
  (159, ⟨.ptr, 1, [.pointer none], 8⟩),
  (209, ⟨.struct [(0, 2), (1, 2)], 2, [.int .i64 0, .int .i64 0], 16⟩),
  (165, ⟨.func, 1, [.nilFunc], 8⟩),
  (185, ⟨.ptr, 1, [.pointer none], 8⟩),
  (191, ⟨.func, 1, [.nilFunc], 8⟩),
  (135, ⟨.ptr, 1, [.pointer none], 8⟩),
  (182, ⟨.func, 1, [.nilFunc], 8⟩),
  (8, ⟨.struct [(0, 2), (1, 3), (2, 4), (3, 6)], 4, [.int .i64 0, .int .i64 0, .bool false, .int .u8 0], 24⟩),
  (10, ⟨.str, 1, [.string .empty], 16⟩),
  (11, ⟨.str, 1, [.string .empty], 16⟩),
  (14, ⟨.struct [(0, 9), (1, 12)], 2, [.string .empty, .int .u64 0], 24⟩),
  (15, ⟨.ptr, 1, [.pointer none], 8⟩),
  (16, ⟨.ptr, 1, [.pointer none], 8⟩),
  (19, ⟨.struct [(0, 17)], 1, [.pointer none], 8⟩),
  (43, ⟨.func, 1, [.nilFunc], 8⟩),
  (157, ⟨.ptr, 1, [.pointer none], 8⟩),
  (217, ⟨.ptr, 1, [.pointer none], 8⟩),
  (17, ⟨.ptr, 1, [.pointer none], 8⟩),
  (6, ⟨.int .u8, 1, [.int .u8 0], 1⟩),
  (12, ⟨.int .u64, 1, [.int .u64 0], 8⟩)]
noncomputable def CT : Cfg := ⟨Try.prog, tyOf tys, 0, [33, 71, 190], fun _ => true, false⟩
theorem tys_ok : tys.all (fun p => tyB Try.prog p.1 p.2) = true := by kernel_rfl
@[simp] theorem sz2 : (CT.ty 2).size = 1 := rfl
@[simp] theorem by2 : (CT.ty 2).bytes = 8 := rfl
@[simp] theorem ze2 : (CT.ty 2).zero = [.int .i64 0] := rfl
@[simp] theorem sz3 : (CT.ty 3).size = 1 := rfl
@[simp] theorem by3 : (CT.ty 3).bytes = 8 := rfl
@[simp] theorem ze3 : (CT.ty 3).zero = [.int .i64 0] := rfl
@[simp] theorem sz25 : (CT.ty 25).size = 1 := rfl
@[simp] theorem by25 : (CT.ty 25).bytes = 24 := rfl
@[simp] theorem ze25 : (CT.ty 25).zero = [.slice none 0 0] := rfl
@[simp] theorem sz29 : (CT.ty 29).size = 4 := rfl
@[simp] theorem by29 : (CT.ty 29).bytes = 64 := rfl
@[simp] theorem ze29 : (CT.ty 29).zero = [.slice none 0 0, .slice none 0 0, .bool false, .int .i64 0] := rfl
@[simp] theorem sz77 : (CT.ty 77).size = 20 := rfl
@[simp] theorem by77 : (CT.ty 77).bytes = 208 := rfl
@[simp] theorem ze77 : (CT.ty 77).zero = [.int .i64 0, .int .i64 0, .slice none 0 0, .slice none 0 0, .int .i64 0, .int .i64 0, .bool false, .int .i64 0, .int .i64 0, .int .i64 0, .bool false, .bool false, .bool false, .slice none 0 0, .int .i64 0, .int .i64 0, .int .i64 0, .slice none 0 0, .int .i64 0, .int .i64 0] := rfl
@[simp] theorem sz4 : (CT.ty 4).size = 1 := rfl
@[simp] theorem by4 : (CT.ty 4).bytes = 1 := rfl
@[simp] theorem ze4 : (CT.ty 4).zero = [.bool false] := rfl
@[simp] theorem sz33 : (CT.ty 33).size = 7 := rfl
@[simp] theorem by33 : (CT.ty 33).bytes = 56 := rfl
@[simp] theorem ze33 : (CT.ty 33).zero = [.int .i64 0, .int .i64 0, .int .i64 0, .int .i64 0, .int .i64 0, .int .i64 0, .int .i64 0] := rfl
@[simp] theorem sz5 : (CT.ty 5).size = 1 := rfl
@[simp] theorem by5 : (CT.ty 5).bytes = 1 := rfl
@[simp] theorem ze5 : (CT.ty 5).zero = [.int .u8 0] := rfl
@[simp] theorem sz58 : (CT.ty 58).size = 1 := rfl
@[simp] theorem by58 : (CT.ty 58).bytes = 24 := rfl
@[simp] theorem ze58 : (CT.ty 58).zero = [.slice none 0 0] := rfl
@[simp] theorem sz31 : (CT.ty 31).size = 8 := rfl
@[simp] theorem by31 : (CT.ty 31).bytes = 128 := rfl
@[simp] theorem ze31 : (CT.ty 31).zero = [.int .i64 0, .bool false, .slice none 0 0, .slice none 0 0, .slice none 0 0, .slice none 0 0, .bool false, .int .i64 0] := rfl
@[simp] theorem sz24 : (CT.ty 24).size = 1 := rfl
@[simp] theorem by24 : (CT.ty 24).bytes = 24 := rfl
@[simp] theorem ze24 : (CT.ty 24).zero = [.slice none 0 0] := rfl
@[simp] theorem sz75 : (CT.ty 75).size = 4 := rfl
@[simp] theorem by75 : (CT.ty 75).bytes = 64 := rfl
@[simp] theorem ze75 : (CT.ty 75).zero = [.int .i64 0, .int .i64 0, .slice none 0 0, .slice none 0 0] := rfl
@[simp] theorem sz73 : (CT.ty 73).size = 1 := rfl
@[simp] theorem by73 : (CT.ty 73).bytes = 24 := rfl
@[simp] theorem ze73 : (CT.ty 73).zero = [.slice none 0 0] := rfl
@[simp] theorem sz72 : (CT.ty 72).size = 4 := rfl
@[simp] theorem by72 : (CT.ty 72).bytes = 48 := rfl
@[simp] theorem ze72 : (CT.ty 72).zero = [.int .i64 0, .int .i64 0, .bool false, .slice none 0 0] := rfl
@[simp] theorem sz84 : (CT.ty 84).size = 38 := rfl
@[simp] theorem by84 : (CT.ty 84).bytes = 400 := rfl
@[simp] theorem ze84 : (CT.ty 84).zero = [.int .i64 0, .int .i64 0, .int .i64 0, .int .i64 0, .int .i64 0, .bool false, .slice none 0 0, .int .i64 0, .int .i64 0, .slice none 0 0, .slice none 0 0, .int .i64 0, .int .i64 0, .bool false, .int .i64 0, .int .i64 0, .int .i64 0, .bool false, .bool false, .bool false, .slice none 0 0, .int .i64 0, .int .i64 0, .int .i64 0, .slice none 0 0, .int .i64 0, .int .i64 0, .int .i64 0, .int .i64 0, .int .i64 0, .int .i64 0, .int .i64 0, .int .i64 0, .int .i64 0, .slice none 0 0, .slice none 0 0, .bool false, .int .i64 0] := rfl
@[simp] theorem sz79 : (CT.ty 79).size = 27 := rfl
@[simp] theorem by79 : (CT.ty 79).bytes = 280 := rfl
@[simp] theorem ze79 : (CT.ty 79).zero = [.int .i64 0, .int .i64 0, .int .i64 0, .int .i64 0, .int .i64 0, .bool false, .slice none 0 0, .int .i64 0, .int .i64 0, .slice none 0 0, .slice none 0 0, .int .i64 0, .int .i64 0, .bool false, .int .i64 0, .int .i64 0, .int .i64 0, .bool false, .bool false, .bool false, .slice none 0 0, .int .i64 0, .int .i64 0, .int .i64 0, .slice none 0 0, .int .i64 0, .int .i64 0] := rfl
@[simp] theorem sz64 : (CT.ty 64).size = 1 := rfl
@[simp] theorem by64 : (CT.ty 64).bytes = 24 := rfl
@[simp] theorem ze64 : (CT.ty 64).zero = [.slice none 0 0] := rfl
@[simp] theorem sz71 : (CT.ty 71).size = 3 := rfl
@[simp] theorem by71 : (CT.ty 71).bytes = 24 := rfl
@[simp] theorem ze71 : (CT.ty 71).zero = [.int .i64 0, .int .i64 0, .int .i64 0] := rfl
@[simp] theorem sz86 : (CT.ty 86).size = 41 := rfl
@[simp] theorem by86 : (CT.ty 86).bytes = 440 := rfl
@[simp] theorem ze86 : (CT.ty 86).zero = [.int .i64 0, .bool false, .slice none 0 0, .int .i64 0, .int .i64 0, .int .i64 0, .int .i64 0, .int .i64 0, .bool false, .slice none 0 0, .int .i64 0, .int .i64 0, .slice none 0 0, .slice none 0 0, .int .i64 0, .int .i64 0, .bool false, .int .i64 0, .int .i64 0, .int .i64 0, .bool false, .bool false, .bool false, .slice none 0 0, .int .i64 0, .int .i64 0, .int .i64 0, .slice none 0 0, .int .i64 0, .int .i64 0, .int .i64 0, .int .i64 0, .int .i64 0, .int .i64 0, .int .i64 0, .int .i64 0, .int .i64 0, .slice none 0 0, .slice none 0 0, .bool false, .int .i64 0] := rfl
@[simp] theorem sz146 : (CT.ty 146).size = 12 := rfl
@[simp] theorem by146 : (CT.ty 146).bytes = 144 := rfl
@[simp] theorem ze146 : (CT.ty 146).zero = [.int .i64 0, .int .i64 0, .int .i64 0, .int .i64 0, .int .i64 0, .int .i64 0, .int .i64 0, .slice none 0 0, .slice none 0 0, .bool false, .int .i64 0, .slice none 0 0] := rfl
@[simp] theorem sz190 : (CT.ty 190).size = 2 := rfl
@[simp] theorem by190 : (CT.ty 190).bytes = 16 := rfl
@[simp] theorem ze190 : (CT.ty 190).zero = [.int .i64 0, .int .i64 0] := rfl
@[simp] theorem sz99 : (CT.ty 99).size = 1 := rfl
@[simp] theorem by99 : (CT.ty 99).bytes = 8 := rfl
@[simp] theorem ze99 : (CT.ty 99).zero = [.pointer none] := rfl
@[simp] theorem sz226 : (CT.ty 226).size = 1 := rfl
@[simp] theorem by226 : (CT.ty 226).bytes = 8 := rfl
@[simp] theorem ze226 : (CT.ty 226).zero = [.int .u64 0] := rfl
@[simp] theorem sz27 : (CT.ty 27).size = 4 := rfl
@[simp] theorem by27 : (CT.ty 27).bytes = 64 := rfl
@[simp] theorem ze27 : (CT.ty 27).zero = [.slice none 0 0, .slice none 0 0, .bool false, .int .i64 0] := rfl
@[simp] theorem sz100 : (CT.ty 100).size = 1 := rfl
@[simp] theorem by100 : (CT.ty 100).bytes = 8 := rfl
@[simp] theorem ze100 : (CT.ty 100).zero = [.pointer none] := rfl
@[simp] theorem sz108 : (CT.ty 108).size = 1 := rfl
@[simp] theorem by108 : (CT.ty 108).bytes = 8 := rfl
@[simp] theorem ze108 : (CT.ty 108).zero = [.pointer none] := rfl
@[simp] theorem sz179 : (CT.ty 179).size = 1 := rfl
@[simp] theorem by179 : (CT.ty 179).bytes = 8 := rfl
@[simp] theorem ze179 : (CT.ty 179).zero = [.pointer none] := rfl
@[simp] theorem sz92 : (CT.ty 92).size = 38 := rfl
@[simp] theorem by92 : (CT.ty 92).bytes = 400 := rfl
@[simp] theorem ze92 : (CT.ty 92).zero = [.int .i64 0, .int .i64 0, .int .i64 0, .int .i64 0, .int .i64 0, .bool false, .slice none 0 0, .int .i64 0, .int .i64 0, .slice none 0 0, .slice none 0 0, .int .i64 0, .int .i64 0, .bool false, .int .i64 0, .int .i64 0, .int .i64 0, .bool false, .bool false, .bool false, .slice none 0 0, .int .i64 0, .int .i64 0, .int .i64 0, .slice none 0 0, .int .i64 0, .int .i64 0, .int .i64 0, .int .i64 0, .int .i64 0, .int .i64 0, .int .i64 0, .int .i64 0, .int .i64 0, .slice none 0 0, .slice none 0 0, .bool false, .int .i64 0] := rfl
@[simp] theorem sz66 : (CT.ty 66).size = 20 := rfl
@[simp] theorem by66 : (CT.ty 66).bytes = 208 := rfl
@[simp] theorem ze66 : (CT.ty 66).zero = [.int .i64 0, .int .i64 0, .slice none 0 0, .slice none 0 0, .int .i64 0, .int .i64 0, .bool false, .int .i64 0, .int .i64 0, .int .i64 0, .bool false, .bool false, .bool false, .slice none 0 0, .int .i64 0, .int .i64 0, .int .i64 0, .slice none 0 0, .int .i64 0, .int .i64 0] := rfl
@[simp] theorem sz23 : (CT.ty 23).size = 7 := rfl
@[simp] theorem by23 : (CT.ty 23).bytes = 56 := rfl
@[simp] theorem ze23 : (CT.ty 23).zero = [.int .i64 0, .int .i64 0, .int .i64 0, .int .i64 0, .int .i64 0, .int .i64 0, .int .i64 0] := rfl
@[simp] theorem sz68 : (CT.ty 68).size = 27 := rfl
@[simp] theorem by68 : (CT.ty 68).bytes = 280 := rfl
@[simp] theorem ze68 : (CT.ty 68).zero = [.int .i64 0, .int .i64 0, .int .i64 0, .int .i64 0, .int .i64 0, .bool false, .slice none 0 0, .int .i64 0, .int .i64 0, .slice none 0 0, .slice none 0 0, .int .i64 0, .int .i64 0, .bool false, .int .i64 0, .int .i64 0, .int .i64 0, .bool false, .bool false, .bool false, .slice none 0 0, .int .i64 0, .int .i64 0, .int .i64 0, .slice none 0 0, .int .i64 0, .int .i64 0] := rfl
@[simp] theorem sz220 : (CT.ty 220).size = 1 := rfl
@[simp] theorem by220 : (CT.ty 220).bytes = 8 := rfl
@[simp] theorem ze220 : (CT.ty 220).zero = [.int .u64 0] := rfl
@[simp] theorem sz9 : (CT.ty 9).size = 1 := rfl
@[simp] theorem by9 : (CT.ty 9).bytes = 16 := rfl
@[simp] theorem ze9 : (CT.ty 9).zero = [.string .empty] := rfl
@[simp] theorem sz161 : (CT.ty 161).size = 1 := rfl
@[simp] theorem by161 : (CT.ty 161).bytes = 8 := rfl
@[simp] theorem ze161 : (CT.ty 161).zero = [.pointer none] := rfl
@[simp] theorem sz61 : (CT.ty 61).size = 1 := rfl
@[simp] theorem by61 : (CT.ty 61).bytes = 24 := rfl
@[simp] theorem ze61 : (CT.ty 61).zero = [.slice none 0 0] := rfl
@[simp] theorem sz63 : (CT.ty 63).size = 4 := rfl
@[simp] theorem by63 : (CT.ty 63).bytes = 64 := rfl
@[simp] theorem ze63 : (CT.ty 63).zero = [.int .i64 0, .int .i64 0, .slice none 0 0, .slice none 0 0] := rfl
@[simp] theorem sz223 : (CT.ty 223).size = 1 := rfl
@[simp] theorem by223 : (CT.ty 223).bytes = 4 := rfl
@[simp] theorem ze223 : (CT.ty 223).zero = [.int .u32 0] := rfl
@[simp] theorem sz60 : (CT.ty 60).size = 4 := rfl
@[simp] theorem by60 : (CT.ty 60).bytes = 48 := rfl
@[simp] theorem ze60 : (CT.ty 60).zero = [.int .i64 0, .int .i64 0, .bool false, .slice none 0 0] := rfl
@[simp] theorem sz53 : (CT.ty 53).size = 2 := rfl
@[simp] theorem by53 : (CT.ty 53).bytes = 16 := rfl
@[simp] theorem ze53 : (CT.ty 53).zero = [.int .i64 0, .int .i64 0] := rfl
@[simp] theorem sz149 : (CT.ty 149).size = 2 := rfl
@[simp] theorem by149 : (CT.ty 149).bytes = 32 := rfl
@[simp] theorem ze149 : (CT.ty 149).zero = [.slice none 0 0, .int .i64 0] := rfl
@[simp] theorem sz57 : (CT.ty 57).size = 3 := rfl
@[simp] theorem by57 : (CT.ty 57).bytes = 24 := rfl
@[simp] theorem ze57 : (CT.ty 57).zero = [.int .i64 0, .int .i64 0, .int .i64 0] := rfl
@[simp] theorem sz121 : (CT.ty 121).size = 1 := rfl
@[simp] theorem by121 : (CT.ty 121).bytes = 8 := rfl
@[simp] theorem ze121 : (CT.ty 121).zero = [.pointer none] := rfl
@[simp] theorem sz159 : (CT.ty 159).size = 1 := rfl
@[simp] theorem by159 : (CT.ty 159).bytes = 8 := rfl
@[simp] theorem ze159 : (CT.ty 159).zero = [.pointer none] := rfl
@[simp] theorem sz209 : (CT.ty 209).size = 2 := rfl
@[simp] theorem by209 : (CT.ty 209).bytes = 16 := rfl
@[simp] theorem ze209 : (CT.ty 209).zero = [.int .i64 0, .int .i64 0] := rfl
@[simp] theorem sz165 : (CT.ty 165).size = 1 := rfl
@[simp] theorem by165 : (CT.ty 165).bytes = 8 := rfl
@[simp] theorem ze165 : (CT.ty 165).zero = [.nilFunc] := rfl
@[simp] theorem sz185 : (CT.ty 185).size = 1 := rfl
@[simp] theorem by185 : (CT.ty 185).bytes = 8 := rfl
@[simp] theorem ze185 : (CT.ty 185).zero = [.pointer none] := rfl
@[simp] theorem sz191 : (CT.ty 191).size = 1 := rfl
@[simp] theorem by191 : (CT.ty 191).bytes = 8 := rfl
@[simp] theorem ze191 : (CT.ty 191).zero = [.nilFunc] := rfl
@[simp] theorem sz135 : (CT.ty 135).size = 1 := rfl
@[simp] theorem by135 : (CT.ty 135).bytes = 8 := rfl
@[simp] theorem ze135 : (CT.ty 135).zero = [.pointer none] := rfl
@[simp] theorem sz182 : (CT.ty 182).size = 1 := rfl
@[simp] theorem by182 : (CT.ty 182).bytes = 8 := rfl
@[simp] theorem ze182 : (CT.ty 182).zero = [.nilFunc] := rfl
@[simp] theorem sz8 : (CT.ty 8).size = 4 := rfl
@[simp] theorem by8 : (CT.ty 8).bytes = 24 := rfl
@[simp] theorem ze8 : (CT.ty 8).zero = [.int .i64 0, .int .i64 0, .bool false, .int .u8 0] := rfl
@[simp] theorem sz10 : (CT.ty 10).size = 1 := rfl
@[simp] theorem by10 : (CT.ty 10).bytes = 16 := rfl
@[simp] theorem ze10 : (CT.ty 10).zero = [.string .empty] := rfl
@[simp] theorem sz11 : (CT.ty 11).size = 1 := rfl
@[simp] theorem by11 : (CT.ty 11).bytes = 16 := rfl
@[simp] theorem ze11 : (CT.ty 11).zero = [.string .empty] := rfl
@[simp] theorem sz14 : (CT.ty 14).size = 2 := rfl
@[simp] theorem by14 : (CT.ty 14).bytes = 24 := rfl
@[simp] theorem ze14 : (CT.ty 14).zero = [.string .empty, .int .u64 0] := rfl
@[simp] theorem sz15 : (CT.ty 15).size = 1 := rfl
@[simp] theorem by15 : (CT.ty 15).bytes = 8 := rfl
@[simp] theorem ze15 : (CT.ty 15).zero = [.pointer none] := rfl
@[simp] theorem sz16 : (CT.ty 16).size = 1 := rfl
@[simp] theorem by16 : (CT.ty 16).bytes = 8 := rfl
@[simp] theorem ze16 : (CT.ty 16).zero = [.pointer none] := rfl
@[simp] theorem sz19 : (CT.ty 19).size = 1 := rfl
@[simp] theorem by19 : (CT.ty 19).bytes = 8 := rfl
@[simp] theorem ze19 : (CT.ty 19).zero = [.pointer none] := rfl
@[simp] theorem sz43 : (CT.ty 43).size = 1 := rfl
@[simp] theorem by43 : (CT.ty 43).bytes = 8 := rfl
@[simp] theorem ze43 : (CT.ty 43).zero = [.nilFunc] := rfl
@[simp] theorem sz157 : (CT.ty 157).size = 1 := rfl
@[simp] theorem by157 : (CT.ty 157).bytes = 8 := rfl
@[simp] theorem ze157 : (CT.ty 157).zero = [.pointer none] := rfl
@[simp] theorem sz217 : (CT.ty 217).size = 1 := rfl
@[simp] theorem by217 : (CT.ty 217).bytes = 8 := rfl
@[simp] theorem ze217 : (CT.ty 217).zero = [.pointer none] := rfl
@[simp] theorem sz17 : (CT.ty 17).size = 1 := rfl
@[simp] theorem by17 : (CT.ty 17).bytes = 8 := rfl
@[simp] theorem ze17 : (CT.ty 17).zero = [.pointer none] := rfl
@[simp] theorem sz6 : (CT.ty 6).size = 1 := rfl
@[simp] theorem by6 : (CT.ty 6).bytes = 1 := rfl
@[simp] theorem ze6 : (CT.ty 6).zero = [.int .u8 0] := rfl
@[simp] theorem sz12 : (CT.ty 12).size = 1 := rfl
@[simp] theorem by12 : (CT.ty 12).bytes = 8 := rfl
@[simp] theorem ze12 : (CT.ty 12).zero = [.int .u64 0] := rfl
theorem CT_ok : CfgOK CT where
  ty := tyOf_fits tys_ok
  mixed := by kernel_rfl
  eqs := eqs_ok (tyOf_fits tys_ok) (by kernel_rfl)
end Go.Ab
