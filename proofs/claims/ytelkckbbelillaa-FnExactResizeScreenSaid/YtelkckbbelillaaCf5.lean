/- The types of the seat, as a table that is checked against the program. -/
import Derived.Test.YtelkckbbelillaaAbD
import Derived.Test.YtelkckbbelillaaFB
import Derived.KernelRfl
import Derived.Test.YtelkckbbelillaaProg
set_option linter.unusedVariables false
set_option linter.unusedSimpArgs false
namespace Go.Ab
open Go.Proofs
def tys : List (Nat × TI) := [
  (2, ⟨.int .i64, 1, [.int .i64 0], 8⟩),
  (3, ⟨.int .i64, 1, [.int .i64 0], 8⟩),
  (60, ⟨.struct [(0, 58), (4, 2), (5, 2), (6, 4), (7, 2), (8, 2), (9, 2), (10, 4), (11, 4), (12, 4), (13, 24), (14, 2), (15, 2), (16, 2), (17, 40), (18, 2), (19, 2)], 20, [.int .i64 0, .int .i64 0, .slice none 0 0, .slice none 0 0, .int .i64 0, .int .i64 0, .bool false, .int .i64 0, .int .i64 0, .int .i64 0, .bool false, .bool false, .bool false, .slice none 0 0, .int .i64 0, .int .i64 0, .int .i64 0, .slice none 0 0, .int .i64 0, .int .i64 0], 208⟩),
  (56, ⟨.slice 148, 1, [.slice none 0 0], 24⟩),
  (58, ⟨.struct [(0, 2), (1, 2), (2, 56), (3, 56)], 4, [.int .i64 0, .int .i64 0, .slice none 0 0, .slice none 0 0], 64⟩),
  (4, ⟨.bool, 1, [.bool false], 1⟩),
  (40, ⟨.slice 2, 1, [.slice none 0 0], 24⟩),
  (62, ⟨.struct [(0, 54), (3, 55), (7, 60)], 27, [.int .i64 0, .int .i64 0, .int .i64 0, .int .i64 0, .int .i64 0, .bool false, .slice none 0 0, .int .i64 0, .int .i64 0, .slice none 0 0, .slice none 0 0, .int .i64 0, .int .i64 0, .bool false, .int .i64 0, .int .i64 0, .int .i64 0, .bool false, .bool false, .bool false, .slice none 0 0, .int .i64 0, .int .i64 0, .int .i64 0, .slice none 0 0, .int .i64 0, .int .i64 0], 280⟩),
  (84, ⟨.struct [(0, 62), (27, 79), (34, 82)], 38, [.int .i64 0, .int .i64 0, .int .i64 0, .int .i64 0, .int .i64 0, .bool false, .slice none 0 0, .int .i64 0, .int .i64 0, .slice none 0 0, .slice none 0 0, .int .i64 0, .int .i64 0, .bool false, .int .i64 0, .int .i64 0, .int .i64 0, .bool false, .bool false, .bool false, .slice none 0 0, .int .i64 0, .int .i64 0, .int .i64 0, .slice none 0 0, .int .i64 0, .int .i64 0, .int .i64 0, .int .i64 0, .int .i64 0, .int .i64 0, .int .i64 0, .int .i64 0, .int .i64 0, .slice none 0 0, .slice none 0 0, .bool false, .int .i64 0], 400⟩),
  (23, ⟨.slice 84, 1, [.slice none 0 0], 24⟩),
  (24, ⟨.slice 4, 1, [.slice none 0 0], 24⟩),
  (22, ⟨.slice 5, 1, [.slice none 0 0], 24⟩),
  (54, ⟨.struct [(0, 2), (1, 2), (2, 2)], 3, [.int .i64 0, .int .i64 0, .int .i64 0], 24⟩),
  (55, ⟨.struct [(0, 2), (1, 2), (2, 4), (3, 40)], 4, [.int .i64 0, .int .i64 0, .bool false, .slice none 0 0], 48⟩),
  (33, ⟨.struct [(0, 2), (1, 4), (2, 22), (3, 31)], 13, [.int .i64 0, .bool false, .slice none 0 0, .slice none 0 0, .slice none 0 0, .int .i64 0, .int .i64 0, .int .i64 0, .slice none 0 0, .slice none 0 0, .slice none 0 0, .bool false, .int .i64 0], 200⟩),
  (69, ⟨.struct [(0, 2), (1, 60)], 21, [.int .i64 0, .int .i64 0, .int .i64 0, .slice none 0 0, .slice none 0 0, .int .i64 0, .int .i64 0, .bool false, .int .i64 0, .int .i64 0, .int .i64 0, .bool false, .bool false, .bool false, .slice none 0 0, .int .i64 0, .int .i64 0, .int .i64 0, .slice none 0 0, .int .i64 0, .int .i64 0], 216⟩),
  (31, ⟨.struct [(0, 23), (1, 24), (2, 2), (3, 2), (4, 2), (5, 25), (6, 26), (7, 29)], 10, [.slice none 0 0, .slice none 0 0, .int .i64 0, .int .i64 0, .int .i64 0, .slice none 0 0, .slice none 0 0, .slice none 0 0, .bool false, .int .i64 0], 160⟩),
  (79, ⟨.struct [(0, 2), (1, 2), (2, 2), (3, 2), (4, 2), (5, 2), (6, 2)], 7, [.int .i64 0, .int .i64 0, .int .i64 0, .int .i64 0, .int .i64 0, .int .i64 0, .int .i64 0], 56⟩),
  (148, ⟨.struct [(0, 2), (1, 2)], 2, [.int .i64 0, .int .i64 0], 16⟩),
  (9, ⟨.str, 1, [.string .empty], 16⟩),
  (215, ⟨.int .u64, 1, [.int .u64 0], 8⟩),
  (47, ⟨.struct [(0, 45), (4, 2), (5, 2), (6, 4), (7, 2), (8, 2), (9, 2), (10, 4), (11, 4), (12, 4), (13, 24), (14, 2), (15, 2), (16, 2), (17, 40), (18, 2), (19, 2)], 20, [.int .i64 0, .int .i64 0, .slice none 0 0, .slice none 0 0, .int .i64 0, .int .i64 0, .bool false, .int .i64 0, .int .i64 0, .int .i64 0, .bool false, .bool false, .bool false, .slice none 0 0, .int .i64 0, .int .i64 0, .int .i64 0, .slice none 0 0, .int .i64 0, .int .i64 0], 208⟩),
  (52, ⟨.struct [(0, 2), (1, 9)], 2, [.int .i64 0, .string .empty], 24⟩),
  (25, ⟨.slice 172, 1, [.slice none 0 0], 24⟩),
  (181, ⟨.int .u64, 1, [.int .u64 0], 8⟩),
  (29, ⟨.struct [(0, 27), (1, 4), (2, 2)], 3, [.slice none 0 0, .bool false, .int .i64 0], 40⟩),
  (82, ⟨.struct [(0, 80), (1, 22), (2, 4), (3, 2)], 4, [.slice none 0 0, .slice none 0 0, .bool false, .int .i64 0], 64⟩),
  (5, ⟨.int .u8, 1, [.int .u8 0], 1⟩),
  (27, ⟨.slice 201, 1, [.slice none 0 0], 24⟩),
  (172, ⟨.struct [(0, 2), (1, 2), (2, 170)], 4, [.int .i64 0, .int .i64 0, .int .i64 0, .int .i64 0], 32⟩),
  (112, ⟨.ptr, 1, [.pointer none], 8⟩),
  (26, ⟨.slice 9, 1, [.slice none 0 0], 24⟩),
  (80, ⟨.slice 22, 1, [.slice none 0 0], 24⟩),
  (49, ⟨.struct [(0, 39), (3, 42), (7, 47)], 27, [.int .i64 0, .int .i64 0, .int .i64 0, .int .i64 0, .int .i64 0, .bool false, .slice none 0 0, .int .i64 0, .int .i64 0, .slice none 0 0, .slice none 0 0, .int .i64 0, .int .i64 0, .bool false, .int .i64 0, .int .i64 0, .int .i64 0, .bool false, .bool false, .bool false, .slice none 0 0, .int .i64 0, .int .i64 0, .int .i64 0, .slice none 0 0, .int .i64 0, .int .i64 0], 280⟩),
  (170, ⟨.struct [(0, 2), (1, 2)], 2, [.int .i64 0, .int .i64 0], 16⟩),
  (201, ⟨.struct [(0, 2), (1, 2)], 2, [.int .i64 0, .int .i64 0], 16⟩),
  (43, ⟨.slice 186, 1, [.slice none 0 0], 24⟩),
  (45, ⟨.struct [(0, 2), (1, 2), (2, 43), (3, 43)], 4, [.int .i64 0, .int .i64 0, .slice none 0 0, .slice none 0 0], 64⟩),
  (97, ⟨.ptr, 1, [.pointer none], 8⟩),
  (212, ⟨.int .u32, 1, [.int .u32 0], 4⟩),
  (42, ⟨.struct [(0, 2), (1, 2), (2, 4), (3, 40)], 4, [.int .i64 0, .int .i64 0, .bool false, .slice none 0 0], 48⟩),
  (99, ⟨.struct [(0, 97), (1, 22)], 2, [.pointer none, .slice none 0 0], 32⟩),
  (153, ⟨.ptr, 1, [.pointer none], 8⟩),
  (207, ⟨.slice 56, 1, [.slice none 0 0], 24⟩),
  (39, ⟨.struct [(0, 2), (1, 2), (2, 2)], 3, [.int .i64 0, .int .i64 0, .int .i64 0], 24⟩),
  (186, ⟨.struct [(0, 2), (1, 2)], 2, [.int .i64 0, .int .i64 0], 16⟩),
  (178, ⟨.func, 1, [.nilFunc], 8⟩),
  (187, ⟨.func, 1, [.nilFunc], 8⟩),
  (92, ⟨.ptr, 1, [.pointer none], 8⟩),
  (8, ⟨.struct [(0, 2), (1, 3), (2, 4), (3, 6)], 4, [.int .i64 0, .int .i64 0, .bool false, .int .u8 0], 24⟩),
  (10, ⟨.str, 1, [.string .empty], 16⟩),
  (11, ⟨.str, 1, [.string .empty], 16⟩),
  (14, ⟨.struct [(0, 9), (1, 12)], 2, [.string .empty, .int .u64 0], 24⟩),
  (15, ⟨.ptr, 1, [.pointer none], 8⟩),
  (16, ⟨.ptr, 1, [.pointer none], 8⟩),
  (19, ⟨.struct [(0, 17)], 1, [.pointer none], 8⟩),
  (141, ⟨.ptr, 1, [.pointer none], 8⟩),
  (143, ⟨.ptr, 1, [.pointer none], 8⟩),
  (203, ⟨.ptr, 1, [.pointer none], 8⟩),
  (17, ⟨.ptr, 1, [.pointer none], 8⟩),
  (150, ⟨.ptr, 1, [.pointer none], 8⟩),
  (6, ⟨.int .u8, 1, [.int .u8 0], 1⟩),
  (12, ⟨.int .u64, 1, [.int .u64 0], 8⟩)]
noncomputable def CT : Cfg := ⟨Try.prog, tyOf tys, 0, [54], fun _ => true⟩
theorem tys_ok : tys.all (fun p => tyB Try.prog p.1 p.2) = true := by kernel_rfl
@[simp] theorem sz2 : (CT.ty 2).size = 1 := rfl
@[simp] theorem by2 : (CT.ty 2).bytes = 8 := rfl
@[simp] theorem ze2 : (CT.ty 2).zero = [.int .i64 0] := rfl
@[simp] theorem sz3 : (CT.ty 3).size = 1 := rfl
@[simp] theorem by3 : (CT.ty 3).bytes = 8 := rfl
@[simp] theorem ze3 : (CT.ty 3).zero = [.int .i64 0] := rfl
@[simp] theorem sz60 : (CT.ty 60).size = 20 := rfl
@[simp] theorem by60 : (CT.ty 60).bytes = 208 := rfl
@[simp] theorem ze60 : (CT.ty 60).zero = [.int .i64 0, .int .i64 0, .slice none 0 0, .slice none 0 0, .int .i64 0, .int .i64 0, .bool false, .int .i64 0, .int .i64 0, .int .i64 0, .bool false, .bool false, .bool false, .slice none 0 0, .int .i64 0, .int .i64 0, .int .i64 0, .slice none 0 0, .int .i64 0, .int .i64 0] := rfl
@[simp] theorem sz56 : (CT.ty 56).size = 1 := rfl
@[simp] theorem by56 : (CT.ty 56).bytes = 24 := rfl
@[simp] theorem ze56 : (CT.ty 56).zero = [.slice none 0 0] := rfl
@[simp] theorem sz58 : (CT.ty 58).size = 4 := rfl
@[simp] theorem by58 : (CT.ty 58).bytes = 64 := rfl
@[simp] theorem ze58 : (CT.ty 58).zero = [.int .i64 0, .int .i64 0, .slice none 0 0, .slice none 0 0] := rfl
@[simp] theorem sz4 : (CT.ty 4).size = 1 := rfl
@[simp] theorem by4 : (CT.ty 4).bytes = 1 := rfl
@[simp] theorem ze4 : (CT.ty 4).zero = [.bool false] := rfl
@[simp] theorem sz40 : (CT.ty 40).size = 1 := rfl
@[simp] theorem by40 : (CT.ty 40).bytes = 24 := rfl
@[simp] theorem ze40 : (CT.ty 40).zero = [.slice none 0 0] := rfl
@[simp] theorem sz62 : (CT.ty 62).size = 27 := rfl
@[simp] theorem by62 : (CT.ty 62).bytes = 280 := rfl
@[simp] theorem ze62 : (CT.ty 62).zero = [.int .i64 0, .int .i64 0, .int .i64 0, .int .i64 0, .int .i64 0, .bool false, .slice none 0 0, .int .i64 0, .int .i64 0, .slice none 0 0, .slice none 0 0, .int .i64 0, .int .i64 0, .bool false, .int .i64 0, .int .i64 0, .int .i64 0, .bool false, .bool false, .bool false, .slice none 0 0, .int .i64 0, .int .i64 0, .int .i64 0, .slice none 0 0, .int .i64 0, .int .i64 0] := rfl
@[simp] theorem sz84 : (CT.ty 84).size = 38 := rfl
@[simp] theorem by84 : (CT.ty 84).bytes = 400 := rfl
@[simp] theorem ze84 : (CT.ty 84).zero = [.int .i64 0, .int .i64 0, .int .i64 0, .int .i64 0, .int .i64 0, .bool false, .slice none 0 0, .int .i64 0, .int .i64 0, .slice none 0 0, .slice none 0 0, .int .i64 0, .int .i64 0, .bool false, .int .i64 0, .int .i64 0, .int .i64 0, .bool false, .bool false, .bool false, .slice none 0 0, .int .i64 0, .int .i64 0, .int .i64 0, .slice none 0 0, .int .i64 0, .int .i64 0, .int .i64 0, .int .i64 0, .int .i64 0, .int .i64 0, .int .i64 0, .int .i64 0, .int .i64 0, .slice none 0 0, .slice none 0 0, .bool false, .int .i64 0] := rfl
@[simp] theorem sz23 : (CT.ty 23).size = 1 := rfl
@[simp] theorem by23 : (CT.ty 23).bytes = 24 := rfl
@[simp] theorem ze23 : (CT.ty 23).zero = [.slice none 0 0] := rfl
@[simp] theorem sz24 : (CT.ty 24).size = 1 := rfl
@[simp] theorem by24 : (CT.ty 24).bytes = 24 := rfl
@[simp] theorem ze24 : (CT.ty 24).zero = [.slice none 0 0] := rfl
@[simp] theorem sz22 : (CT.ty 22).size = 1 := rfl
@[simp] theorem by22 : (CT.ty 22).bytes = 24 := rfl
@[simp] theorem ze22 : (CT.ty 22).zero = [.slice none 0 0] := rfl
@[simp] theorem sz54 : (CT.ty 54).size = 3 := rfl
@[simp] theorem by54 : (CT.ty 54).bytes = 24 := rfl
@[simp] theorem ze54 : (CT.ty 54).zero = [.int .i64 0, .int .i64 0, .int .i64 0] := rfl
@[simp] theorem sz55 : (CT.ty 55).size = 4 := rfl
@[simp] theorem by55 : (CT.ty 55).bytes = 48 := rfl
@[simp] theorem ze55 : (CT.ty 55).zero = [.int .i64 0, .int .i64 0, .bool false, .slice none 0 0] := rfl
@[simp] theorem sz33 : (CT.ty 33).size = 13 := rfl
@[simp] theorem by33 : (CT.ty 33).bytes = 200 := rfl
@[simp] theorem ze33 : (CT.ty 33).zero = [.int .i64 0, .bool false, .slice none 0 0, .slice none 0 0, .slice none 0 0, .int .i64 0, .int .i64 0, .int .i64 0, .slice none 0 0, .slice none 0 0, .slice none 0 0, .bool false, .int .i64 0] := rfl
@[simp] theorem sz69 : (CT.ty 69).size = 21 := rfl
@[simp] theorem by69 : (CT.ty 69).bytes = 216 := rfl
@[simp] theorem ze69 : (CT.ty 69).zero = [.int .i64 0, .int .i64 0, .int .i64 0, .slice none 0 0, .slice none 0 0, .int .i64 0, .int .i64 0, .bool false, .int .i64 0, .int .i64 0, .int .i64 0, .bool false, .bool false, .bool false, .slice none 0 0, .int .i64 0, .int .i64 0, .int .i64 0, .slice none 0 0, .int .i64 0, .int .i64 0] := rfl
@[simp] theorem sz31 : (CT.ty 31).size = 10 := rfl
@[simp] theorem by31 : (CT.ty 31).bytes = 160 := rfl
@[simp] theorem ze31 : (CT.ty 31).zero = [.slice none 0 0, .slice none 0 0, .int .i64 0, .int .i64 0, .int .i64 0, .slice none 0 0, .slice none 0 0, .slice none 0 0, .bool false, .int .i64 0] := rfl
@[simp] theorem sz79 : (CT.ty 79).size = 7 := rfl
@[simp] theorem by79 : (CT.ty 79).bytes = 56 := rfl
@[simp] theorem ze79 : (CT.ty 79).zero = [.int .i64 0, .int .i64 0, .int .i64 0, .int .i64 0, .int .i64 0, .int .i64 0, .int .i64 0] := rfl
@[simp] theorem sz148 : (CT.ty 148).size = 2 := rfl
@[simp] theorem by148 : (CT.ty 148).bytes = 16 := rfl
@[simp] theorem ze148 : (CT.ty 148).zero = [.int .i64 0, .int .i64 0] := rfl
@[simp] theorem sz9 : (CT.ty 9).size = 1 := rfl
@[simp] theorem by9 : (CT.ty 9).bytes = 16 := rfl
@[simp] theorem ze9 : (CT.ty 9).zero = [.string .empty] := rfl
@[simp] theorem sz215 : (CT.ty 215).size = 1 := rfl
@[simp] theorem by215 : (CT.ty 215).bytes = 8 := rfl
@[simp] theorem ze215 : (CT.ty 215).zero = [.int .u64 0] := rfl
@[simp] theorem sz47 : (CT.ty 47).size = 20 := rfl
@[simp] theorem by47 : (CT.ty 47).bytes = 208 := rfl
@[simp] theorem ze47 : (CT.ty 47).zero = [.int .i64 0, .int .i64 0, .slice none 0 0, .slice none 0 0, .int .i64 0, .int .i64 0, .bool false, .int .i64 0, .int .i64 0, .int .i64 0, .bool false, .bool false, .bool false, .slice none 0 0, .int .i64 0, .int .i64 0, .int .i64 0, .slice none 0 0, .int .i64 0, .int .i64 0] := rfl
@[simp] theorem sz52 : (CT.ty 52).size = 2 := rfl
@[simp] theorem by52 : (CT.ty 52).bytes = 24 := rfl
@[simp] theorem ze52 : (CT.ty 52).zero = [.int .i64 0, .string .empty] := rfl
@[simp] theorem sz25 : (CT.ty 25).size = 1 := rfl
@[simp] theorem by25 : (CT.ty 25).bytes = 24 := rfl
@[simp] theorem ze25 : (CT.ty 25).zero = [.slice none 0 0] := rfl
@[simp] theorem sz181 : (CT.ty 181).size = 1 := rfl
@[simp] theorem by181 : (CT.ty 181).bytes = 8 := rfl
@[simp] theorem ze181 : (CT.ty 181).zero = [.int .u64 0] := rfl
@[simp] theorem sz29 : (CT.ty 29).size = 3 := rfl
@[simp] theorem by29 : (CT.ty 29).bytes = 40 := rfl
@[simp] theorem ze29 : (CT.ty 29).zero = [.slice none 0 0, .bool false, .int .i64 0] := rfl
@[simp] theorem sz82 : (CT.ty 82).size = 4 := rfl
@[simp] theorem by82 : (CT.ty 82).bytes = 64 := rfl
@[simp] theorem ze82 : (CT.ty 82).zero = [.slice none 0 0, .slice none 0 0, .bool false, .int .i64 0] := rfl
@[simp] theorem sz5 : (CT.ty 5).size = 1 := rfl
@[simp] theorem by5 : (CT.ty 5).bytes = 1 := rfl
@[simp] theorem ze5 : (CT.ty 5).zero = [.int .u8 0] := rfl
@[simp] theorem sz27 : (CT.ty 27).size = 1 := rfl
@[simp] theorem by27 : (CT.ty 27).bytes = 24 := rfl
@[simp] theorem ze27 : (CT.ty 27).zero = [.slice none 0 0] := rfl
@[simp] theorem sz172 : (CT.ty 172).size = 4 := rfl
@[simp] theorem by172 : (CT.ty 172).bytes = 32 := rfl
@[simp] theorem ze172 : (CT.ty 172).zero = [.int .i64 0, .int .i64 0, .int .i64 0, .int .i64 0] := rfl
@[simp] theorem sz112 : (CT.ty 112).size = 1 := rfl
@[simp] theorem by112 : (CT.ty 112).bytes = 8 := rfl
@[simp] theorem ze112 : (CT.ty 112).zero = [.pointer none] := rfl
@[simp] theorem sz26 : (CT.ty 26).size = 1 := rfl
@[simp] theorem by26 : (CT.ty 26).bytes = 24 := rfl
@[simp] theorem ze26 : (CT.ty 26).zero = [.slice none 0 0] := rfl
@[simp] theorem sz80 : (CT.ty 80).size = 1 := rfl
@[simp] theorem by80 : (CT.ty 80).bytes = 24 := rfl
@[simp] theorem ze80 : (CT.ty 80).zero = [.slice none 0 0] := rfl
@[simp] theorem sz49 : (CT.ty 49).size = 27 := rfl
@[simp] theorem by49 : (CT.ty 49).bytes = 280 := rfl
@[simp] theorem ze49 : (CT.ty 49).zero = [.int .i64 0, .int .i64 0, .int .i64 0, .int .i64 0, .int .i64 0, .bool false, .slice none 0 0, .int .i64 0, .int .i64 0, .slice none 0 0, .slice none 0 0, .int .i64 0, .int .i64 0, .bool false, .int .i64 0, .int .i64 0, .int .i64 0, .bool false, .bool false, .bool false, .slice none 0 0, .int .i64 0, .int .i64 0, .int .i64 0, .slice none 0 0, .int .i64 0, .int .i64 0] := rfl
@[simp] theorem sz170 : (CT.ty 170).size = 2 := rfl
@[simp] theorem by170 : (CT.ty 170).bytes = 16 := rfl
@[simp] theorem ze170 : (CT.ty 170).zero = [.int .i64 0, .int .i64 0] := rfl
@[simp] theorem sz201 : (CT.ty 201).size = 2 := rfl
@[simp] theorem by201 : (CT.ty 201).bytes = 16 := rfl
@[simp] theorem ze201 : (CT.ty 201).zero = [.int .i64 0, .int .i64 0] := rfl
@[simp] theorem sz43 : (CT.ty 43).size = 1 := rfl
@[simp] theorem by43 : (CT.ty 43).bytes = 24 := rfl
@[simp] theorem ze43 : (CT.ty 43).zero = [.slice none 0 0] := rfl
@[simp] theorem sz45 : (CT.ty 45).size = 4 := rfl
@[simp] theorem by45 : (CT.ty 45).bytes = 64 := rfl
@[simp] theorem ze45 : (CT.ty 45).zero = [.int .i64 0, .int .i64 0, .slice none 0 0, .slice none 0 0] := rfl
@[simp] theorem sz97 : (CT.ty 97).size = 1 := rfl
@[simp] theorem by97 : (CT.ty 97).bytes = 8 := rfl
@[simp] theorem ze97 : (CT.ty 97).zero = [.pointer none] := rfl
@[simp] theorem sz212 : (CT.ty 212).size = 1 := rfl
@[simp] theorem by212 : (CT.ty 212).bytes = 4 := rfl
@[simp] theorem ze212 : (CT.ty 212).zero = [.int .u32 0] := rfl
@[simp] theorem sz42 : (CT.ty 42).size = 4 := rfl
@[simp] theorem by42 : (CT.ty 42).bytes = 48 := rfl
@[simp] theorem ze42 : (CT.ty 42).zero = [.int .i64 0, .int .i64 0, .bool false, .slice none 0 0] := rfl
@[simp] theorem sz99 : (CT.ty 99).size = 2 := rfl
@[simp] theorem by99 : (CT.ty 99).bytes = 32 := rfl
@[simp] theorem ze99 : (CT.ty 99).zero = [.pointer none, .slice none 0 0] := rfl
@[simp] theorem sz153 : (CT.ty 153).size = 1 := rfl
@[simp] theorem by153 : (CT.ty 153).bytes = 8 := rfl
@[simp] theorem ze153 : (CT.ty 153).zero = [.pointer none] := rfl
@[simp] theorem sz207 : (CT.ty 207).size = 1 := rfl
@[simp] theorem by207 : (CT.ty 207).bytes = 24 := rfl
@[simp] theorem ze207 : (CT.ty 207).zero = [.slice none 0 0] := rfl
@[simp] theorem sz39 : (CT.ty 39).size = 3 := rfl
@[simp] theorem by39 : (CT.ty 39).bytes = 24 := rfl
@[simp] theorem ze39 : (CT.ty 39).zero = [.int .i64 0, .int .i64 0, .int .i64 0] := rfl
@[simp] theorem sz186 : (CT.ty 186).size = 2 := rfl
@[simp] theorem by186 : (CT.ty 186).bytes = 16 := rfl
@[simp] theorem ze186 : (CT.ty 186).zero = [.int .i64 0, .int .i64 0] := rfl
@[simp] theorem sz178 : (CT.ty 178).size = 1 := rfl
@[simp] theorem by178 : (CT.ty 178).bytes = 8 := rfl
@[simp] theorem ze178 : (CT.ty 178).zero = [.nilFunc] := rfl
@[simp] theorem sz187 : (CT.ty 187).size = 1 := rfl
@[simp] theorem by187 : (CT.ty 187).bytes = 8 := rfl
@[simp] theorem ze187 : (CT.ty 187).zero = [.nilFunc] := rfl
@[simp] theorem sz92 : (CT.ty 92).size = 1 := rfl
@[simp] theorem by92 : (CT.ty 92).bytes = 8 := rfl
@[simp] theorem ze92 : (CT.ty 92).zero = [.pointer none] := rfl
@[simp] theorem sz8 : (CT.ty 8).size = 4 := rfl
@[simp] theorem by8 : (CT.ty 8).bytes = 24 := rfl
@[simp] theorem ze8 : (CT.ty 8).zero = [.int .i64 0, .int .i64 0, .bool false, .int .u8 0] := rfl
@[simp] theorem sz10 : (CT.ty 10).size = 1 := rfl
@[simp] theorem by10 : (CT.ty 10).bytes = 16 := rfl
@[simp] theorem ze10 : (CT.ty 10).zero = [.string .empty] := rfl
@[simp] theorem sz11 : (CT.ty 11).size = 1 := rfl
@[simp] theorem by11 : (CT.ty 11).bytes = 16 := rfl
@[simp] theorem ze11 : (CT.ty 11).zero = [.string .empty] := rfl
@[simp] theorem sz14 : (CT.ty 14).size = 2 := rfl
@[simp] theorem by14 : (CT.ty 14).bytes = 24 := rfl
@[simp] theorem ze14 : (CT.ty 14).zero = [.string .empty, .int .u64 0] := rfl
@[simp] theorem sz15 : (CT.ty 15).size = 1 := rfl
@[simp] theorem by15 : (CT.ty 15).bytes = 8 := rfl
@[simp] theorem ze15 : (CT.ty 15).zero = [.pointer none] := rfl
@[simp] theorem sz16 : (CT.ty 16).size = 1 := rfl
@[simp] theorem by16 : (CT.ty 16).bytes = 8 := rfl
@[simp] theorem ze16 : (CT.ty 16).zero = [.pointer none] := rfl
@[simp] theorem sz19 : (CT.ty 19).size = 1 := rfl
@[simp] theorem by19 : (CT.ty 19).bytes = 8 := rfl
@[simp] theorem ze19 : (CT.ty 19).zero = [.pointer none] := rfl
@[simp] theorem sz141 : (CT.ty 141).size = 1 := rfl
@[simp] theorem by141 : (CT.ty 141).bytes = 8 := rfl
@[simp] theorem ze141 : (CT.ty 141).zero = [.pointer none] := rfl
@[simp] theorem sz143 : (CT.ty 143).size = 1 := rfl
@[simp] theorem by143 : (CT.ty 143).bytes = 8 := rfl
@[simp] theorem ze143 : (CT.ty 143).zero = [.pointer none] := rfl
@[simp] theorem sz203 : (CT.ty 203).size = 1 := rfl
@[simp] theorem by203 : (CT.ty 203).bytes = 8 := rfl
@[simp] theorem ze203 : (CT.ty 203).zero = [.pointer none] := rfl
@[simp] theorem sz17 : (CT.ty 17).size = 1 := rfl
@[simp] theorem by17 : (CT.ty 17).bytes = 8 := rfl
@[simp] theorem ze17 : (CT.ty 17).zero = [.pointer none] := rfl
@[simp] theorem sz150 : (CT.ty 150).size = 1 := rfl
@[simp] theorem by150 : (CT.ty 150).bytes = 8 := rfl
@[simp] theorem ze150 : (CT.ty 150).zero = [.pointer none] := rfl
@[simp] theorem sz6 : (CT.ty 6).size = 1 := rfl
@[simp] theorem by6 : (CT.ty 6).bytes = 1 := rfl
@[simp] theorem ze6 : (CT.ty 6).zero = [.int .u8 0] := rfl
@[simp] theorem sz12 : (CT.ty 12).size = 1 := rfl
@[simp] theorem by12 : (CT.ty 12).bytes = 8 := rfl
@[simp] theorem ze12 : (CT.ty 12).zero = [.int .u64 0] := rfl
theorem CT_ok : CfgOK CT where
  ty := tyOf_fits tys_ok
  mixed := by kernel_rfl
  eqs := eqs_ok (tyOf_fits tys_ok) (by kernel_rfl)
end Go.Ab

