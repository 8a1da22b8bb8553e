/- The types of the seat, as a table that is checked against the program. -/
import Derived.Test.YtciokegejemdcaaDoorAbD
import Derived.Test.YtciokegejemdcaaDoorFB
import Derived.KernelRfl
import Derived.Test.YtciokegejemdcaaDoorProg
set_option linter.unusedVariables false
set_option linter.unusedSimpArgs false
namespace Go.Ab
open Go.Proofs
def tys : List (Nat × TI) := [
  (2, ⟨.int .i64, 1, [.int .i64 0], 8⟩),
  (3, ⟨.int .i64, 1, [.int .i64 0], 8⟩),
  (38, ⟨.struct [(0, 36), (4, 2), (5, 2), (6, 4), (7, 2), (8, 2), (9, 2), (10, 4), (11, 4), (12, 4), (13, 25), (14, 2), (15, 2), (16, 2), (17, 26), (18, 2), (19, 2)], 20, [.int .i64 0, .int .i64 0, .slice none 0 0, .slice none 0 0, .int .i64 0, .int .i64 0, .bool false, .int .i64 0, .int .i64 0, .int .i64 0, .bool false, .bool false, .bool false, .slice none 0 0, .int .i64 0, .int .i64 0, .int .i64 0, .slice none 0 0, .int .i64 0, .int .i64 0], 208⟩),
  (4, ⟨.bool, 1, [.bool false], 1⟩),
  (9, ⟨.str, 1, [.string .empty], 16⟩),
  (36, ⟨.struct [(0, 2), (1, 2), (2, 34), (3, 34)], 4, [.int .i64 0, .int .i64 0, .slice none 0 0, .slice none 0 0], 64⟩),
  (30, ⟨.slice 5, 1, [.slice none 0 0], 24⟩),
  (115, ⟨.int .u32, 1, [.int .u32 0], 4⟩),
  (34, ⟨.slice 72, 1, [.slice none 0 0], 24⟩),
  (32, ⟨.struct [(0, 2), (1, 30)], 2, [.int .i64 0, .slice none 0 0], 32⟩),
  (5, ⟨.int .u8, 1, [.int .u8 0], 1⟩),
  (107, ⟨.int .u64, 1, [.int .u64 0], 8⟩),
  (26, ⟨.slice 2, 1, [.slice none 0 0], 24⟩),
  (72, ⟨.struct [(0, 2), (1, 2)], 2, [.int .i64 0, .int .i64 0], 16⟩),
  (28, ⟨.struct [(0, 24), (4, 2), (5, 2), (6, 4), (7, 2), (8, 2), (9, 2), (10, 4), (11, 4), (12, 4), (13, 25), (14, 2), (15, 2), (16, 2), (17, 26), (18, 2), (19, 2)], 20, [.int .i64 0, .int .i64 0, .slice none 0 0, .slice none 0 0, .int .i64 0, .int .i64 0, .bool false, .int .i64 0, .int .i64 0, .int .i64 0, .bool false, .bool false, .bool false, .slice none 0 0, .int .i64 0, .int .i64 0, .int .i64 0, .slice none 0 0, .int .i64 0, .int .i64 0], 208⟩),
  (25, ⟨.slice 4, 1, [.slice none 0 0], 24⟩),
  (49, ⟨.ptr, 1, [.pointer none], 8⟩),
  (104, ⟨.int .u64, 1, [.int .u64 0], 8⟩),
  (79, ⟨.ptr, 1, [.pointer none], 8⟩),
  (22, ⟨.slice 92, 1, [.slice none 0 0], 24⟩),
  (24, ⟨.struct [(0, 2), (1, 2), (2, 22), (3, 22)], 4, [.int .i64 0, .int .i64 0, .slice none 0 0, .slice none 0 0], 64⟩),
  (57, ⟨.struct [(0, 30)], 1, [.slice none 0 0], 24⟩),
  (67, ⟨.ptr, 1, [.pointer none], 8⟩),
  (92, ⟨.struct [(0, 2), (1, 2)], 2, [.int .i64 0, .int .i64 0], 16⟩),
  (93, ⟨.func, 1, [.nilFunc], 8⟩),
  (89, ⟨.func, 1, [.nilFunc], 8⟩),
  (81, ⟨.ptr, 1, [.pointer none], 8⟩),
  (8, ⟨.struct [(0, 2), (1, 3), (2, 4), (3, 6)], 4, [.int .i64 0, .int .i64 0, .bool false, .int .u8 0], 24⟩),
  (10, ⟨.str, 1, [.string .empty], 16⟩),
  (11, ⟨.str, 1, [.string .empty], 16⟩),
  (14, ⟨.struct [(0, 9), (1, 12)], 2, [.string .empty, .int .u64 0], 24⟩),
  (15, ⟨.ptr, 1, [.pointer none], 8⟩),
  (16, ⟨.ptr, 1, [.pointer none], 8⟩),
  (19, ⟨.struct [(0, 17)], 1, [.pointer none], 8⟩),
  (17, ⟨.ptr, 1, [.pointer none], 8⟩),
  (130, ⟨.int .u8, 1, [.int .u8 0], 1⟩),
  (6, ⟨.int .u8, 1, [.int .u8 0], 1⟩),
  (12, ⟨.int .u64, 1, [.int .u64 0], 8⟩)]
noncomputable def CT : Cfg := ⟨Tryd.prog, tyOf tys, 0, [], fun _ => true, false⟩
theorem tys_ok : tys.all (fun p => tyB Tryd.prog p.1 p.2) = true := by kernel_rfl
@[simp] theorem sz2 : (CT.ty 2).size = 1 := rfl
@[simp] theorem by2 : (CT.ty 2).bytes = 8 := rfl
@[simp] theorem ze2 : (CT.ty 2).zero = [.int .i64 0] := rfl
@[simp] theorem sz3 : (CT.ty 3).size = 1 := rfl
@[simp] theorem by3 : (CT.ty 3).bytes = 8 := rfl
@[simp] theorem ze3 : (CT.ty 3).zero = [.int .i64 0] := rfl
@[simp] theorem sz38 : (CT.ty 38).size = 20 := rfl
@[simp] theorem by38 : (CT.ty 38).bytes = 208 := rfl
@[simp] theorem ze38 : (CT.ty 38).zero = [.int .i64 0, .int .i64 0, .slice none 0 0, .slice none 0 0, .int .i64 0, .int .i64 0, .bool false, .int .i64 0, .int .i64 0, .int .i64 0, .bool false, .bool false, .bool false, .slice none 0 0, .int .i64 0, .int .i64 0, .int .i64 0, .slice none 0 0, .int .i64 0, .int .i64 0] := rfl
@[simp] theorem sz4 : (CT.ty 4).size = 1 := rfl
@[simp] theorem by4 : (CT.ty 4).bytes = 1 := rfl
@[simp] theorem ze4 : (CT.ty 4).zero = [.bool false] := rfl
@[simp] theorem sz9 : (CT.ty 9).size = 1 := rfl
@[simp] theorem by9 : (CT.ty 9).bytes = 16 := rfl
@[simp] theorem ze9 : (CT.ty 9).zero = [.string .empty] := rfl
@[simp] theorem sz36 : (CT.ty 36).size = 4 := rfl
@[simp] theorem by36 : (CT.ty 36).bytes = 64 := rfl
@[simp] theorem ze36 : (CT.ty 36).zero = [.int .i64 0, .int .i64 0, .slice none 0 0, .slice none 0 0] := rfl
@[simp] theorem sz30 : (CT.ty 30).size = 1 := rfl
@[simp] theorem by30 : (CT.ty 30).bytes = 24 := rfl
@[simp] theorem ze30 : (CT.ty 30).zero = [.slice none 0 0] := rfl
@[simp] theorem sz115 : (CT.ty 115).size = 1 := rfl
@[simp] theorem by115 : (CT.ty 115).bytes = 4 := rfl
@[simp] theorem ze115 : (CT.ty 115).zero = [.int .u32 0] := rfl
@[simp] theorem sz34 : (CT.ty 34).size = 1 := rfl
@[simp] theorem by34 : (CT.ty 34).bytes = 24 := rfl
@[simp] theorem ze34 : (CT.ty 34).zero = [.slice none 0 0] := rfl
@[simp] theorem sz32 : (CT.ty 32).size = 2 := rfl
@[simp] theorem by32 : (CT.ty 32).bytes = 32 := rfl
@[simp] theorem ze32 : (CT.ty 32).zero = [.int .i64 0, .slice none 0 0] := rfl
@[simp] theorem sz5 : (CT.ty 5).size = 1 := rfl
@[simp] theorem by5 : (CT.ty 5).bytes = 1 := rfl
@[simp] theorem ze5 : (CT.ty 5).zero = [.int .u8 0] := rfl
@[simp] theorem sz107 : (CT.ty 107).size = 1 := rfl
@[simp] theorem by107 : (CT.ty 107).bytes = 8 := rfl
@[simp] theorem ze107 : (CT.ty 107).zero = [.int .u64 0] := rfl
@[simp] theorem sz26 : (CT.ty 26).size = 1 := rfl
@[simp] theorem by26 : (CT.ty 26).bytes = 24 := rfl
@[simp] theorem ze26 : (CT.ty 26).zero = [.slice none 0 0] := rfl
@[simp] theorem sz72 : (CT.ty 72).size = 2 := rfl
@[simp] theorem by72 : (CT.ty 72).bytes = 16 := rfl
@[simp] theorem ze72 : (CT.ty 72).zero = [.int .i64 0, .int .i64 0] := rfl
@[simp] theorem sz28 : (CT.ty 28).size = 20 := rfl
@[simp] theorem by28 : (CT.ty 28).bytes = 208 := rfl
@[simp] theorem ze28 : (CT.ty 28).zero = [.int .i64 0, .int .i64 0, .slice none 0 0, .slice none 0 0, .int .i64 0, .int .i64 0, .bool false, .int .i64 0, .int .i64 0, .int .i64 0, .bool false, .bool false, .bool false, .slice none 0 0, .int .i64 0, .int .i64 0, .int .i64 0, .slice none 0 0, .int .i64 0, .int .i64 0] := rfl
@[simp] theorem sz25 : (CT.ty 25).size = 1 := rfl
@[simp] theorem by25 : (CT.ty 25).bytes = 24 := rfl
@[simp] theorem ze25 : (CT.ty 25).zero = [.slice none 0 0] := rfl
@[simp] theorem sz49 : (CT.ty 49).size = 1 := rfl
@[simp] theorem by49 : (CT.ty 49).bytes = 8 := rfl
@[simp] theorem ze49 : (CT.ty 49).zero = [.pointer none] := rfl
@[simp] theorem sz104 : (CT.ty 104).size = 1 := rfl
@[simp] theorem by104 : (CT.ty 104).bytes = 8 := rfl
@[simp] theorem ze104 : (CT.ty 104).zero = [.int .u64 0] := rfl
@[simp] theorem sz79 : (CT.ty 79).size = 1 := rfl
@[simp] theorem by79 : (CT.ty 79).bytes = 8 := rfl
@[simp] theorem ze79 : (CT.ty 79).zero = [.pointer none] := rfl
@[simp] theorem sz22 : (CT.ty 22).size = 1 := rfl
@[simp] theorem by22 : (CT.ty 22).bytes = 24 := rfl
@[simp] theorem ze22 : (CT.ty 22).zero = [.slice none 0 0] := rfl
@[simp] theorem sz24 : (CT.ty 24).size = 4 := rfl
@[simp] theorem by24 : (CT.ty 24).bytes = 64 := rfl
@[simp] theorem ze24 : (CT.ty 24).zero = [.int .i64 0, .int .i64 0, .slice none 0 0, .slice none 0 0] := rfl
@[simp] theorem sz57 : (CT.ty 57).size = 1 := rfl
@[simp] theorem by57 : (CT.ty 57).bytes = 24 := rfl
@[simp] theorem ze57 : (CT.ty 57).zero = [.slice none 0 0] := rfl
@[simp] theorem sz67 : (CT.ty 67).size = 1 := rfl
@[simp] theorem by67 : (CT.ty 67).bytes = 8 := rfl
@[simp] theorem ze67 : (CT.ty 67).zero = [.pointer none] := rfl
@[simp] theorem sz92 : (CT.ty 92).size = 2 := rfl
@[simp] theorem by92 : (CT.ty 92).bytes = 16 := rfl
@[simp] theorem ze92 : (CT.ty 92).zero = [.int .i64 0, .int .i64 0] := rfl
@[simp] theorem sz93 : (CT.ty 93).size = 1 := rfl
@[simp] theorem by93 : (CT.ty 93).bytes = 8 := rfl
@[simp] theorem ze93 : (CT.ty 93).zero = [.nilFunc] := rfl
@[simp] theorem sz89 : (CT.ty 89).size = 1 := rfl
@[simp] theorem by89 : (CT.ty 89).bytes = 8 := rfl
@[simp] theorem ze89 : (CT.ty 89).zero = [.nilFunc] := rfl
@[simp] theorem sz81 : (CT.ty 81).size = 1 := rfl
@[simp] theorem by81 : (CT.ty 81).bytes = 8 := rfl
@[simp] theorem ze81 : (CT.ty 81).zero = [.pointer none] := rfl
@[simp] theorem sz8 : (CT.ty 8).size = 4 := rfl
@[simp] theorem by8 : (CT.ty 8).bytes = 24 := rfl
@[simp] theorem ze8 : (CT.ty 8).zero = [.int .i64 0, .int .i64 0, .bool false, .int .u8 0] := rfl
@[simp] theorem sz10 : (CT.ty 10).size = 1 := rfl
@[simp] theorem by10 : (CT.ty 10).bytes = 16 := rfl
@[simp] theorem ze10 : (CT.ty 10).zero = [.string .empty] := rfl
@[simp] theorem sz11 : (CT.ty 11).size = 1 := rfl
@[simp] theorem by11 : (CT.ty 11).bytes = 16 := rfl
@[simp] theorem ze11 : (CT.ty 11).zero = [.string .empty] := rfl
@[simp] theorem sz14 : (CT.ty 14).size = 2 := rfl
@[simp] theorem by14 : (CT.ty 14).bytes = 24 := rfl
@[simp] theorem ze14 : (CT.ty 14).zero = [.string .empty, .int .u64 0] := rfl
@[simp] theorem sz15 : (CT.ty 15).size = 1 := rfl
@[simp] theorem by15 : (CT.ty 15).bytes = 8 := rfl
@[simp] theorem ze15 : (CT.ty 15).zero = [.pointer none] := rfl
@[simp] theorem sz16 : (CT.ty 16).size = 1 := rfl
@[simp] theorem by16 : (CT.ty 16).bytes = 8 := rfl
@[simp] theorem ze16 : (CT.ty 16).zero = [.pointer none] := rfl
@[simp] theorem sz19 : (CT.ty 19).size = 1 := rfl
@[simp] theorem by19 : (CT.ty 19).bytes = 8 := rfl
@[simp] theorem ze19 : (CT.ty 19).zero = [.pointer none] := rfl
@[simp] theorem sz17 : (CT.ty 17).size = 1 := rfl
@[simp] theorem by17 : (CT.ty 17).bytes = 8 := rfl
@[simp] theorem ze17 : (CT.ty 17).zero = [.pointer none] := rfl
@[simp] theorem sz130 : (CT.ty 130).size = 1 := rfl
@[simp] theorem by130 : (CT.ty 130).bytes = 1 := rfl
@[simp] theorem ze130 : (CT.ty 130).zero = [.int .u8 0] := rfl
@[simp] theorem sz6 : (CT.ty 6).size = 1 := rfl
@[simp] theorem by6 : (CT.ty 6).bytes = 1 := rfl
@[simp] theorem ze6 : (CT.ty 6).zero = [.int .u8 0] := rfl
@[simp] theorem sz12 : (CT.ty 12).size = 1 := rfl
@[simp] theorem by12 : (CT.ty 12).bytes = 8 := rfl
@[simp] theorem ze12 : (CT.ty 12).zero = [.int .u64 0] := rfl
theorem CT_ok : CfgOK CT where
  ty := tyOf_fits tys_ok
  mixed := by kernel_rfl
  eqs := eqs_ok (tyOf_fits tys_ok) (by kernel_rfl)
end Go.Ab
