/- The types of the seat, as a table that is checked against the program. -/
import Derived.Test.YtnmjgjedkdmefaaGreatAbD
import Derived.Test.YtnmjgjedkdmefaaGreatFB
import Derived.KernelRfl
import Derived.Test.YtnmjgjedkdmefaaGreatProg
set_option linter.unusedVariables false
set_option linter.unusedSimpArgs false
namespace Go.Ab
open Go.Proofs
def tys : List (Nat × TI) := [
  (2, ⟨.int .i64, 1, [.int .i64 0], 8⟩),
  (3, ⟨.int .i64, 1, [.int .i64 0], 8⟩),
  (51, ⟨.struct [(0, 49), (4, 2), (5, 2), (6, 4), (7, 2), (8, 2), (9, 2), (10, 4), (11, 4), (12, 4), (13, 30), (14, 2), (15, 2), (16, 2), (17, 24), (18, 2), (19, 2)], 20, [.int .i64 0, .int .i64 0, .slice none 0 0, .slice none 0 0, .int .i64 0, .int .i64 0, .bool false, .int .i64 0, .int .i64 0, .int .i64 0, .bool false, .bool false, .bool false, .slice none 0 0, .int .i64 0, .int .i64 0, .int .i64 0, .slice none 0 0, .int .i64 0, .int .i64 0], 208⟩),
  (4, ⟨.bool, 1, [.bool false], 1⟩),
  (24, ⟨.slice 2, 1, [.slice none 0 0], 24⟩),
  (49, ⟨.struct [(0, 2), (1, 2), (2, 47), (3, 47)], 4, [.int .i64 0, .int .i64 0, .slice none 0 0, .slice none 0 0], 64⟩),
  (54, ⟨.struct [(0, 2), (1, 2), (2, 2), (3, 2), (4, 2), (5, 2), (6, 2)], 7, [.int .i64 0, .int .i64 0, .int .i64 0, .int .i64 0, .int .i64 0, .int .i64 0, .int .i64 0], 56⟩),
  (45, ⟨.struct [(0, 2), (1, 2), (2, 2)], 3, [.int .i64 0, .int .i64 0, .int .i64 0], 24⟩),
  (46, ⟨.struct [(0, 2), (1, 2), (2, 4), (3, 24)], 4, [.int .i64 0, .int .i64 0, .bool false, .slice none 0 0], 48⟩),
  (47, ⟨.slice 131, 1, [.slice none 0 0], 24⟩),
  (55, ⟨.struct [(0, 37), (1, 38), (2, 4), (3, 2)], 4, [.slice none 0 0, .slice none 0 0, .bool false, .int .i64 0], 64⟩),
  (38, ⟨.slice 5, 1, [.slice none 0 0], 24⟩),
  (37, ⟨.slice 38, 1, [.slice none 0 0], 24⟩),
  (57, ⟨.struct [(0, 53), (27, 54), (34, 55)], 38, [.int .i64 0, .int .i64 0, .int .i64 0, .int .i64 0, .int .i64 0, .bool false, .slice none 0 0, .int .i64 0, .int .i64 0, .slice none 0 0, .slice none 0 0, .int .i64 0, .int .i64 0, .bool false, .int .i64 0, .int .i64 0, .int .i64 0, .bool false, .bool false, .bool false, .slice none 0 0, .int .i64 0, .int .i64 0, .int .i64 0, .slice none 0 0, .int .i64 0, .int .i64 0, .int .i64 0, .int .i64 0, .int .i64 0, .int .i64 0, .int .i64 0, .int .i64 0, .int .i64 0, .slice none 0 0, .slice none 0 0, .bool false, .int .i64 0], 400⟩),
  (53, ⟨.struct [(0, 45), (3, 46), (7, 51)], 27, [.int .i64 0, .int .i64 0, .int .i64 0, .int .i64 0, .int .i64 0, .bool false, .slice none 0 0, .int .i64 0, .int .i64 0, .slice none 0 0, .slice none 0 0, .int .i64 0, .int .i64 0, .bool false, .int .i64 0, .int .i64 0, .int .i64 0, .bool false, .bool false, .bool false, .slice none 0 0, .int .i64 0, .int .i64 0, .int .i64 0, .slice none 0 0, .int .i64 0, .int .i64 0], 280⟩),
  (131, ⟨.struct [(0, 2), (1, 2)], 2, [.int .i64 0, .int .i64 0], 16⟩),
  (30, ⟨.slice 4, 1, [.slice none 0 0], 24⟩),
  (32, ⟨.struct [(0, 29), (4, 2), (5, 2), (6, 4), (7, 2), (8, 2), (9, 2), (10, 4), (11, 4), (12, 4), (13, 30), (14, 2), (15, 2), (16, 2), (17, 24), (18, 2), (19, 2)], 20, [.int .i64 0, .int .i64 0, .slice none 0 0, .slice none 0 0, .int .i64 0, .int .i64 0, .bool false, .int .i64 0, .int .i64 0, .int .i64 0, .bool false, .bool false, .bool false, .slice none 0 0, .int .i64 0, .int .i64 0, .int .i64 0, .slice none 0 0, .int .i64 0, .int .i64 0], 208⟩),
  (42, ⟨.struct [(0, 34), (27, 36), (34, 40)], 38, [.int .i64 0, .int .i64 0, .int .i64 0, .int .i64 0, .int .i64 0, .bool false, .slice none 0 0, .int .i64 0, .int .i64 0, .slice none 0 0, .slice none 0 0, .int .i64 0, .int .i64 0, .bool false, .int .i64 0, .int .i64 0, .int .i64 0, .bool false, .bool false, .bool false, .slice none 0 0, .int .i64 0, .int .i64 0, .int .i64 0, .slice none 0 0, .int .i64 0, .int .i64 0, .int .i64 0, .int .i64 0, .int .i64 0, .int .i64 0, .int .i64 0, .int .i64 0, .int .i64 0, .slice none 0 0, .slice none 0 0, .bool false, .int .i64 0], 400⟩),
  (109, ⟨.ptr, 1, [.pointer none], 8⟩),
  (27, ⟨.slice 140, 1, [.slice none 0 0], 24⟩),
  (29, ⟨.struct [(0, 2), (1, 2), (2, 27), (3, 27)], 4, [.int .i64 0, .int .i64 0, .slice none 0 0, .slice none 0 0], 64⟩),
  (40, ⟨.struct [(0, 37), (1, 38), (2, 4), (3, 2)], 4, [.slice none 0 0, .slice none 0 0, .bool false, .int .i64 0], 64⟩),
  (26, ⟨.struct [(0, 2), (1, 2), (2, 4), (3, 24)], 4, [.int .i64 0, .int .i64 0, .bool false, .slice none 0 0], 48⟩),
  (34, ⟨.struct [(0, 23), (3, 26), (7, 32)], 27, [.int .i64 0, .int .i64 0, .int .i64 0, .int .i64 0, .int .i64 0, .bool false, .slice none 0 0, .int .i64 0, .int .i64 0, .slice none 0 0, .slice none 0 0, .int .i64 0, .int .i64 0, .bool false, .int .i64 0, .int .i64 0, .int .i64 0, .bool false, .bool false, .bool false, .slice none 0 0, .int .i64 0, .int .i64 0, .int .i64 0, .slice none 0 0, .int .i64 0, .int .i64 0], 280⟩),
  (36, ⟨.struct [(0, 2), (1, 2), (2, 2), (3, 2), (4, 2), (5, 2), (6, 2)], 7, [.int .i64 0, .int .i64 0, .int .i64 0, .int .i64 0, .int .i64 0, .int .i64 0, .int .i64 0], 56⟩),
  (9, ⟨.str, 1, [.string .empty], 16⟩),
  (5, ⟨.int .u8, 1, [.int .u8 0], 1⟩),
  (23, ⟨.struct [(0, 2), (1, 2), (2, 2)], 3, [.int .i64 0, .int .i64 0, .int .i64 0], 24⟩),
  (82, ⟨.ptr, 1, [.pointer none], 8⟩),
  (83, ⟨.ptr, 1, [.pointer none], 8⟩),
  (140, ⟨.struct [(0, 2), (1, 2)], 2, [.int .i64 0, .int .i64 0], 16⟩),
  (115, ⟨.func, 1, [.nilFunc], 8⟩),
  (124, ⟨.ptr, 1, [.pointer none], 8⟩),
  (132, ⟨.func, 1, [.nilFunc], 8⟩),
  (8, ⟨.struct [(0, 2), (1, 3), (2, 4), (3, 6)], 4, [.int .i64 0, .int .i64 0, .bool false, .int .u8 0], 24⟩),
  (10, ⟨.str, 1, [.string .empty], 16⟩),
  (11, ⟨.str, 1, [.string .empty], 16⟩),
  (14, ⟨.struct [(0, 9), (1, 12)], 2, [.string .empty, .int .u64 0], 24⟩),
  (15, ⟨.ptr, 1, [.pointer none], 8⟩),
  (16, ⟨.ptr, 1, [.pointer none], 8⟩),
  (19, ⟨.struct [(0, 17)], 1, [.pointer none], 8⟩),
  (64, ⟨.ptr, 1, [.pointer none], 8⟩),
  (80, ⟨.ptr, 1, [.pointer none], 8⟩),
  (105, ⟨.ptr, 1, [.pointer none], 8⟩),
  (107, ⟨.ptr, 1, [.pointer none], 8⟩),
  (145, ⟨.ptr, 1, [.pointer none], 8⟩),
  (17, ⟨.ptr, 1, [.pointer none], 8⟩),
  (6, ⟨.int .u8, 1, [.int .u8 0], 1⟩),
  (12, ⟨.int .u64, 1, [.int .u64 0], 8⟩)]
noncomputable def CT : Cfg := ⟨Tryz.prog, tyOf tys, 0, [45], fun _ => true⟩
theorem tys_ok : tys.all (fun p => tyB Tryz.prog p.1 p.2) = true := by kernel_rfl
@[simp] theorem sz2 : (CT.ty 2).size = 1 := rfl
@[simp] theorem by2 : (CT.ty 2).bytes = 8 := rfl
@[simp] theorem ze2 : (CT.ty 2).zero = [.int .i64 0] := rfl
@[simp] theorem sz3 : (CT.ty 3).size = 1 := rfl
@[simp] theorem by3 : (CT.ty 3).bytes = 8 := rfl
@[simp] theorem ze3 : (CT.ty 3).zero = [.int .i64 0] := rfl
@[simp] theorem sz51 : (CT.ty 51).size = 20 := rfl
@[simp] theorem by51 : (CT.ty 51).bytes = 208 := rfl
@[simp] theorem ze51 : (CT.ty 51).zero = [.int .i64 0, .int .i64 0, .slice none 0 0, .slice none 0 0, .int .i64 0, .int .i64 0, .bool false, .int .i64 0, .int .i64 0, .int .i64 0, .bool false, .bool false, .bool false, .slice none 0 0, .int .i64 0, .int .i64 0, .int .i64 0, .slice none 0 0, .int .i64 0, .int .i64 0] := rfl
@[simp] theorem sz4 : (CT.ty 4).size = 1 := rfl
@[simp] theorem by4 : (CT.ty 4).bytes = 1 := rfl
@[simp] theorem ze4 : (CT.ty 4).zero = [.bool false] := rfl
@[simp] theorem sz24 : (CT.ty 24).size = 1 := rfl
@[simp] theorem by24 : (CT.ty 24).bytes = 24 := rfl
@[simp] theorem ze24 : (CT.ty 24).zero = [.slice none 0 0] := rfl
@[simp] theorem sz49 : (CT.ty 49).size = 4 := rfl
@[simp] theorem by49 : (CT.ty 49).bytes = 64 := rfl
@[simp] theorem ze49 : (CT.ty 49).zero = [.int .i64 0, .int .i64 0, .slice none 0 0, .slice none 0 0] := rfl
@[simp] theorem sz54 : (CT.ty 54).size = 7 := rfl
@[simp] theorem by54 : (CT.ty 54).bytes = 56 := rfl
@[simp] theorem ze54 : (CT.ty 54).zero = [.int .i64 0, .int .i64 0, .int .i64 0, .int .i64 0, .int .i64 0, .int .i64 0, .int .i64 0] := rfl
@[simp] theorem sz45 : (CT.ty 45).size = 3 := rfl
@[simp] theorem by45 : (CT.ty 45).bytes = 24 := rfl
@[simp] theorem ze45 : (CT.ty 45).zero = [.int .i64 0, .int .i64 0, .int .i64 0] := rfl
@[simp] theorem sz46 : (CT.ty 46).size = 4 := rfl
@[simp] theorem by46 : (CT.ty 46).bytes = 48 := rfl
@[simp] theorem ze46 : (CT.ty 46).zero = [.int .i64 0, .int .i64 0, .bool false, .slice none 0 0] := rfl
@[simp] theorem sz47 : (CT.ty 47).size = 1 := rfl
@[simp] theorem by47 : (CT.ty 47).bytes = 24 := rfl
@[simp] theorem ze47 : (CT.ty 47).zero = [.slice none 0 0] := rfl
@[simp] theorem sz55 : (CT.ty 55).size = 4 := rfl
@[simp] theorem by55 : (CT.ty 55).bytes = 64 := rfl
@[simp] theorem ze55 : (CT.ty 55).zero = [.slice none 0 0, .slice none 0 0, .bool false, .int .i64 0] := rfl
@[simp] theorem sz38 : (CT.ty 38).size = 1 := rfl
@[simp] theorem by38 : (CT.ty 38).bytes = 24 := rfl
@[simp] theorem ze38 : (CT.ty 38).zero = [.slice none 0 0] := rfl
@[simp] theorem sz37 : (CT.ty 37).size = 1 := rfl
@[simp] theorem by37 : (CT.ty 37).bytes = 24 := rfl
@[simp] theorem ze37 : (CT.ty 37).zero = [.slice none 0 0] := rfl
@[simp] theorem sz57 : (CT.ty 57).size = 38 := rfl
@[simp] theorem by57 : (CT.ty 57).bytes = 400 := rfl
@[simp] theorem ze57 : (CT.ty 57).zero = [.int .i64 0, .int .i64 0, .int .i64 0, .int .i64 0, .int .i64 0, .bool false, .slice none 0 0, .int .i64 0, .int .i64 0, .slice none 0 0, .slice none 0 0, .int .i64 0, .int .i64 0, .bool false, .int .i64 0, .int .i64 0, .int .i64 0, .bool false, .bool false, .bool false, .slice none 0 0, .int .i64 0, .int .i64 0, .int .i64 0, .slice none 0 0, .int .i64 0, .int .i64 0, .int .i64 0, .int .i64 0, .int .i64 0, .int .i64 0, .int .i64 0, .int .i64 0, .int .i64 0, .slice none 0 0, .slice none 0 0, .bool false, .int .i64 0] := rfl
@[simp] theorem sz53 : (CT.ty 53).size = 27 := rfl
@[simp] theorem by53 : (CT.ty 53).bytes = 280 := rfl
@[simp] theorem ze53 : (CT.ty 53).zero = [.int .i64 0, .int .i64 0, .int .i64 0, .int .i64 0, .int .i64 0, .bool false, .slice none 0 0, .int .i64 0, .int .i64 0, .slice none 0 0, .slice none 0 0, .int .i64 0, .int .i64 0, .bool false, .int .i64 0, .int .i64 0, .int .i64 0, .bool false, .bool false, .bool false, .slice none 0 0, .int .i64 0, .int .i64 0, .int .i64 0, .slice none 0 0, .int .i64 0, .int .i64 0] := rfl
@[simp] theorem sz131 : (CT.ty 131).size = 2 := rfl
@[simp] theorem by131 : (CT.ty 131).bytes = 16 := rfl
@[simp] theorem ze131 : (CT.ty 131).zero = [.int .i64 0, .int .i64 0] := rfl
@[simp] theorem sz30 : (CT.ty 30).size = 1 := rfl
@[simp] theorem by30 : (CT.ty 30).bytes = 24 := rfl
@[simp] theorem ze30 : (CT.ty 30).zero = [.slice none 0 0] := rfl
@[simp] theorem sz32 : (CT.ty 32).size = 20 := rfl
@[simp] theorem by32 : (CT.ty 32).bytes = 208 := rfl
@[simp] theorem ze32 : (CT.ty 32).zero = [.int .i64 0, .int .i64 0, .slice none 0 0, .slice none 0 0, .int .i64 0, .int .i64 0, .bool false, .int .i64 0, .int .i64 0, .int .i64 0, .bool false, .bool false, .bool false, .slice none 0 0, .int .i64 0, .int .i64 0, .int .i64 0, .slice none 0 0, .int .i64 0, .int .i64 0] := rfl
@[simp] theorem sz42 : (CT.ty 42).size = 38 := rfl
@[simp] theorem by42 : (CT.ty 42).bytes = 400 := rfl
@[simp] theorem ze42 : (CT.ty 42).zero = [.int .i64 0, .int .i64 0, .int .i64 0, .int .i64 0, .int .i64 0, .bool false, .slice none 0 0, .int .i64 0, .int .i64 0, .slice none 0 0, .slice none 0 0, .int .i64 0, .int .i64 0, .bool false, .int .i64 0, .int .i64 0, .int .i64 0, .bool false, .bool false, .bool false, .slice none 0 0, .int .i64 0, .int .i64 0, .int .i64 0, .slice none 0 0, .int .i64 0, .int .i64 0, .int .i64 0, .int .i64 0, .int .i64 0, .int .i64 0, .int .i64 0, .int .i64 0, .int .i64 0, .slice none 0 0, .slice none 0 0, .bool false, .int .i64 0] := rfl
@[simp] theorem sz109 : (CT.ty 109).size = 1 := rfl
@[simp] theorem by109 : (CT.ty 109).bytes = 8 := rfl
@[simp] theorem ze109 : (CT.ty 109).zero = [.pointer none] := rfl
@[simp] theorem sz27 : (CT.ty 27).size = 1 := rfl
@[simp] theorem by27 : (CT.ty 27).bytes = 24 := rfl
@[simp] theorem ze27 : (CT.ty 27).zero = [.slice none 0 0] := rfl
@[simp] theorem sz29 : (CT.ty 29).size = 4 := rfl
@[simp] theorem by29 : (CT.ty 29).bytes = 64 := rfl
@[simp] theorem ze29 : (CT.ty 29).zero = [.int .i64 0, .int .i64 0, .slice none 0 0, .slice none 0 0] := rfl
@[simp] theorem sz40 : (CT.ty 40).size = 4 := rfl
@[simp] theorem by40 : (CT.ty 40).bytes = 64 := rfl
@[simp] theorem ze40 : (CT.ty 40).zero = [.slice none 0 0, .slice none 0 0, .bool false, .int .i64 0] := rfl
@[simp] theorem sz26 : (CT.ty 26).size = 4 := rfl
@[simp] theorem by26 : (CT.ty 26).bytes = 48 := rfl
@[simp] theorem ze26 : (CT.ty 26).zero = [.int .i64 0, .int .i64 0, .bool false, .slice none 0 0] := rfl
@[simp] theorem sz34 : (CT.ty 34).size = 27 := rfl
@[simp] theorem by34 : (CT.ty 34).bytes = 280 := rfl
@[simp] theorem ze34 : (CT.ty 34).zero = [.int .i64 0, .int .i64 0, .int .i64 0, .int .i64 0, .int .i64 0, .bool false, .slice none 0 0, .int .i64 0, .int .i64 0, .slice none 0 0, .slice none 0 0, .int .i64 0, .int .i64 0, .bool false, .int .i64 0, .int .i64 0, .int .i64 0, .bool false, .bool false, .bool false, .slice none 0 0, .int .i64 0, .int .i64 0, .int .i64 0, .slice none 0 0, .int .i64 0, .int .i64 0] := rfl
@[simp] theorem sz36 : (CT.ty 36).size = 7 := rfl
@[simp] theorem by36 : (CT.ty 36).bytes = 56 := rfl
@[simp] theorem ze36 : (CT.ty 36).zero = [.int .i64 0, .int .i64 0, .int .i64 0, .int .i64 0, .int .i64 0, .int .i64 0, .int .i64 0] := rfl
@[simp] theorem sz9 : (CT.ty 9).size = 1 := rfl
@[simp] theorem by9 : (CT.ty 9).bytes = 16 := rfl
@[simp] theorem ze9 : (CT.ty 9).zero = [.string .empty] := rfl
@[simp] theorem sz5 : (CT.ty 5).size = 1 := rfl
@[simp] theorem by5 : (CT.ty 5).bytes = 1 := rfl
@[simp] theorem ze5 : (CT.ty 5).zero = [.int .u8 0] := rfl
@[simp] theorem sz23 : (CT.ty 23).size = 3 := rfl
@[simp] theorem by23 : (CT.ty 23).bytes = 24 := rfl
@[simp] theorem ze23 : (CT.ty 23).zero = [.int .i64 0, .int .i64 0, .int .i64 0] := rfl
@[simp] theorem sz82 : (CT.ty 82).size = 1 := rfl
@[simp] theorem by82 : (CT.ty 82).bytes = 8 := rfl
@[simp] theorem ze82 : (CT.ty 82).zero = [.pointer none] := rfl
@[simp] theorem sz83 : (CT.ty 83).size = 1 := rfl
@[simp] theorem by83 : (CT.ty 83).bytes = 8 := rfl
@[simp] theorem ze83 : (CT.ty 83).zero = [.pointer none] := rfl
@[simp] theorem sz140 : (CT.ty 140).size = 2 := rfl
@[simp] theorem by140 : (CT.ty 140).bytes = 16 := rfl
@[simp] theorem ze140 : (CT.ty 140).zero = [.int .i64 0, .int .i64 0] := rfl
@[simp] theorem sz115 : (CT.ty 115).size = 1 := rfl
@[simp] theorem by115 : (CT.ty 115).bytes = 8 := rfl
@[simp] theorem ze115 : (CT.ty 115).zero = [.nilFunc] := rfl
@[simp] theorem sz124 : (CT.ty 124).size = 1 := rfl
@[simp] theorem by124 : (CT.ty 124).bytes = 8 := rfl
@[simp] theorem ze124 : (CT.ty 124).zero = [.pointer none] := rfl
@[simp] theorem sz132 : (CT.ty 132).size = 1 := rfl
@[simp] theorem by132 : (CT.ty 132).bytes = 8 := rfl
@[simp] theorem ze132 : (CT.ty 132).zero = [.nilFunc] := rfl
@[simp] theorem sz8 : (CT.ty 8).size = 4 := rfl
@[simp] theorem by8 : (CT.ty 8).bytes = 24 := rfl
@[simp] theorem ze8 : (CT.ty 8).zero = [.int .i64 0, .int .i64 0, .bool false, .int .u8 0] := rfl
@[simp] theorem sz10 : (CT.ty 10).size = 1 := rfl
@[simp] theorem by10 : (CT.ty 10).bytes = 16 := rfl
@[simp] theorem ze10 : (CT.ty 10).zero = [.string .empty] := rfl
@[simp] theorem sz11 : (CT.ty 11).size = 1 := rfl
@[simp] theorem by11 : (CT.ty 11).bytes = 16 := rfl
@[simp] theorem ze11 : (CT.ty 11).zero = [.string .empty] := rfl
@[simp] theorem sz14 : (CT.ty 14).size = 2 := rfl
@[simp] theorem by14 : (CT.ty 14).bytes = 24 := rfl
@[simp] theorem ze14 : (CT.ty 14).zero = [.string .empty, .int .u64 0] := rfl
@[simp] theorem sz15 : (CT.ty 15).size = 1 := rfl
@[simp] theorem by15 : (CT.ty 15).bytes = 8 := rfl
@[simp] theorem ze15 : (CT.ty 15).zero = [.pointer none] := rfl
@[simp] theorem sz16 : (CT.ty 16).size = 1 := rfl
@[simp] theorem by16 : (CT.ty 16).bytes = 8 := rfl
@[simp] theorem ze16 : (CT.ty 16).zero = [.pointer none] := rfl
@[simp] theorem sz19 : (CT.ty 19).size = 1 := rfl
@[simp] theorem by19 : (CT.ty 19).bytes = 8 := rfl
@[simp] theorem ze19 : (CT.ty 19).zero = [.pointer none] := rfl
@[simp] theorem sz64 : (CT.ty 64).size = 1 := rfl
@[simp] theorem by64 : (CT.ty 64).bytes = 8 := rfl
@[simp] theorem ze64 : (CT.ty 64).zero = [.pointer none] := rfl
@[simp] theorem sz80 : (CT.ty 80).size = 1 := rfl
@[simp] theorem by80 : (CT.ty 80).bytes = 8 := rfl
@[simp] theorem ze80 : (CT.ty 80).zero = [.pointer none] := rfl
@[simp] theorem sz105 : (CT.ty 105).size = 1 := rfl
@[simp] theorem by105 : (CT.ty 105).bytes = 8 := rfl
@[simp] theorem ze105 : (CT.ty 105).zero = [.pointer none] := rfl
@[simp] theorem sz107 : (CT.ty 107).size = 1 := rfl
@[simp] theorem by107 : (CT.ty 107).bytes = 8 := rfl
@[simp] theorem ze107 : (CT.ty 107).zero = [.pointer none] := rfl
@[simp] theorem sz145 : (CT.ty 145).size = 1 := rfl
@[simp] theorem by145 : (CT.ty 145).bytes = 8 := rfl
@[simp] theorem ze145 : (CT.ty 145).zero = [.pointer none] := rfl
@[simp] theorem sz17 : (CT.ty 17).size = 1 := rfl
@[simp] theorem by17 : (CT.ty 17).bytes = 8 := rfl
@[simp] theorem ze17 : (CT.ty 17).zero = [.pointer none] := rfl
@[simp] theorem sz6 : (CT.ty 6).size = 1 := rfl
@[simp] theorem by6 : (CT.ty 6).bytes = 1 := rfl
@[simp] theorem ze6 : (CT.ty 6).zero = [.int .u8 0] := rfl
@[simp] theorem sz12 : (CT.ty 12).size = 1 := rfl
@[simp] theorem by12 : (CT.ty 12).bytes = 8 := rfl
@[simp] theorem ze12 : (CT.ty 12).zero = [.int .u64 0] := rfl
theorem CT_ok : CfgOK CT where
  ty := tyOf_fits tys_ok
  mixed := by kernel_rfl
  eqs := eqs_ok (tyOf_fits tys_ok) (by kernel_rfl)
end Go.Ab

