/- The types of the seat, as a table that is checked against the program. -/
import Derived.Test.YtglkdfidjalkbaaAbD
import Derived.Test.YtglkdfidjalkbaaFB
import Derived.KernelRfl
import Derived.Test.YtglkdfidjalkbaaProg
set_option linter.unusedVariables false
set_option linter.unusedSimpArgs false
namespace Go.Ab
open Go.Proofs
def tys : List (Nat × TI) := [
  (2, ⟨.int .i64, 1, [.int .i64 0], 8⟩),
  (30, ⟨.struct [(0, 2), (1, 2), (2, 28), (3, 28)], 4, [.int .i64 0, .int .i64 0, .slice none 0 0, .slice none 0 0], 64⟩),
  (28, ⟨.slice 35, 1, [.slice none 0 0], 24⟩),
  (3, ⟨.int .i64, 1, [.int .i64 0], 8⟩),
  (32, ⟨.struct [(0, 2), (1, 30)], 5, [.int .i64 0, .int .i64 0, .int .i64 0, .slice none 0 0, .slice none 0 0], 72⟩),
  (70, ⟨.struct [(0, 30), (4, 2), (5, 2), (6, 4), (7, 2), (8, 2), (9, 2), (10, 4), (11, 4), (12, 4), (13, 63), (14, 2), (15, 2), (16, 2), (17, 64), (18, 2), (19, 2)], 20, [.int .i64 0, .int .i64 0, .slice none 0 0, .slice none 0 0, .int .i64 0, .int .i64 0, .bool false, .int .i64 0, .int .i64 0, .int .i64 0, .bool false, .bool false, .bool false, .slice none 0 0, .int .i64 0, .int .i64 0, .int .i64 0, .slice none 0 0, .int .i64 0, .int .i64 0], 208⟩),
  (35, ⟨.struct [(0, 2), (1, 2)], 2, [.int .i64 0, .int .i64 0], 16⟩),
  (4, ⟨.bool, 1, [.bool false], 1⟩),
  (64, ⟨.slice 2, 1, [.slice none 0 0], 24⟩),
  (24, ⟨.struct [(0, 2), (1, 2), (2, 22), (3, 22)], 4, [.int .i64 0, .int .i64 0, .slice none 0 0, .slice none 0 0], 64⟩),
  (81, ⟨.ptr, 1, [.pointer none], 8⟩),
  (42, ⟨.slice 5, 1, [.slice none 0 0], 24⟩),
  (95, ⟨.ptr, 1, [.pointer none], 8⟩),
  (66, ⟨.struct [(0, 24), (4, 2), (5, 2), (6, 4), (7, 2), (8, 2), (9, 2), (10, 4), (11, 4), (12, 4), (13, 63), (14, 2), (15, 2), (16, 2), (17, 64), (18, 2), (19, 2)], 20, [.int .i64 0, .int .i64 0, .slice none 0 0, .slice none 0 0, .int .i64 0, .int .i64 0, .bool false, .int .i64 0, .int .i64 0, .int .i64 0, .bool false, .bool false, .bool false, .slice none 0 0, .int .i64 0, .int .i64 0, .int .i64 0, .slice none 0 0, .int .i64 0, .int .i64 0], 208⟩),
  (154, ⟨.int .u64, 1, [.int .u64 0], 8⟩),
  (75, ⟨.struct [(0, 2), (1, 9)], 2, [.int .i64 0, .string .empty], 24⟩),
  (63, ⟨.slice 4, 1, [.slice none 0 0], 24⟩),
  (148, ⟨.int .u64, 1, [.int .u64 0], 8⟩),
  (115, ⟨.ptr, 1, [.pointer none], 8⟩),
  (5, ⟨.int .u8, 1, [.int .u8 0], 1⟩),
  (9, ⟨.str, 1, [.string .empty], 16⟩),
  (145, ⟨.slice 28, 1, [.slice none 0 0], 24⟩),
  (22, ⟨.slice 26, 1, [.slice none 0 0], 24⟩),
  (26, ⟨.struct [(0, 2), (1, 2)], 2, [.int .i64 0, .int .i64 0], 16⟩),
  (151, ⟨.int .u32, 1, [.int .u32 0], 4⟩),
  (127, ⟨.struct [(0, 42), (1, 2)], 2, [.slice none 0 0, .int .i64 0], 32⟩),
  (90, ⟨.func, 1, [.nilFunc], 8⟩),
  (92, ⟨.func, 1, [.nilFunc], 8⟩),
  (105, ⟨.func, 1, [.nilFunc], 8⟩),
  (85, ⟨.ptr, 1, [.pointer none], 8⟩),
  (102, ⟨.func, 1, [.nilFunc], 8⟩),
  (8, ⟨.struct [(0, 2), (1, 3), (2, 4), (3, 6)], 4, [.int .i64 0, .int .i64 0, .bool false, .int .u8 0], 24⟩),
  (10, ⟨.str, 1, [.string .empty], 16⟩),
  (11, ⟨.str, 1, [.string .empty], 16⟩),
  (14, ⟨.struct [(0, 9), (1, 12)], 2, [.string .empty, .int .u64 0], 24⟩),
  (15, ⟨.ptr, 1, [.pointer none], 8⟩),
  (16, ⟨.ptr, 1, [.pointer none], 8⟩),
  (19, ⟨.struct [(0, 17)], 1, [.pointer none], 8⟩),
  (17, ⟨.ptr, 1, [.pointer none], 8⟩),
  (6, ⟨.int .u8, 1, [.int .u8 0], 1⟩),
  (12, ⟨.int .u64, 1, [.int .u64 0], 8⟩)]
noncomputable def CT : Cfg := ⟨Try.prog, tyOf tys, 0, [35], fun _ => true⟩
theorem tys_ok : tys.all (fun p => tyB Try.prog p.1 p.2) = true := by kernel_rfl
@[simp] theorem sz2 : (CT.ty 2).size = 1 := rfl
@[simp] theorem by2 : (CT.ty 2).bytes = 8 := rfl
@[simp] theorem ze2 : (CT.ty 2).zero = [.int .i64 0] := rfl
@[simp] theorem sz30 : (CT.ty 30).size = 4 := rfl
@[simp] theorem by30 : (CT.ty 30).bytes = 64 := rfl
@[simp] theorem ze30 : (CT.ty 30).zero = [.int .i64 0, .int .i64 0, .slice none 0 0, .slice none 0 0] := rfl
@[simp] theorem sz28 : (CT.ty 28).size = 1 := rfl
@[simp] theorem by28 : (CT.ty 28).bytes = 24 := rfl
@[simp] theorem ze28 : (CT.ty 28).zero = [.slice none 0 0] := rfl
@[simp] theorem sz3 : (CT.ty 3).size = 1 := rfl
@[simp] theorem by3 : (CT.ty 3).bytes = 8 := rfl
@[simp] theorem ze3 : (CT.ty 3).zero = [.int .i64 0] := rfl
@[simp] theorem sz32 : (CT.ty 32).size = 5 := rfl
@[simp] theorem by32 : (CT.ty 32).bytes = 72 := rfl
@[simp] theorem ze32 : (CT.ty 32).zero = [.int .i64 0, .int .i64 0, .int .i64 0, .slice none 0 0, .slice none 0 0] := rfl
@[simp] theorem sz70 : (CT.ty 70).size = 20 := rfl
@[simp] theorem by70 : (CT.ty 70).bytes = 208 := rfl
@[simp] theorem ze70 : (CT.ty 70).zero = [.int .i64 0, .int .i64 0, .slice none 0 0, .slice none 0 0, .int .i64 0, .int .i64 0, .bool false, .int .i64 0, .int .i64 0, .int .i64 0, .bool false, .bool false, .bool false, .slice none 0 0, .int .i64 0, .int .i64 0, .int .i64 0, .slice none 0 0, .int .i64 0, .int .i64 0] := rfl
@[simp] theorem sz35 : (CT.ty 35).size = 2 := rfl
@[simp] theorem by35 : (CT.ty 35).bytes = 16 := rfl
@[simp] theorem ze35 : (CT.ty 35).zero = [.int .i64 0, .int .i64 0] := rfl
@[simp] theorem sz4 : (CT.ty 4).size = 1 := rfl
@[simp] theorem by4 : (CT.ty 4).bytes = 1 := rfl
@[simp] theorem ze4 : (CT.ty 4).zero = [.bool false] := rfl
@[simp] theorem sz64 : (CT.ty 64).size = 1 := rfl
@[simp] theorem by64 : (CT.ty 64).bytes = 24 := rfl
@[simp] theorem ze64 : (CT.ty 64).zero = [.slice none 0 0] := rfl
@[simp] theorem sz24 : (CT.ty 24).size = 4 := rfl
@[simp] theorem by24 : (CT.ty 24).bytes = 64 := rfl
@[simp] theorem ze24 : (CT.ty 24).zero = [.int .i64 0, .int .i64 0, .slice none 0 0, .slice none 0 0] := rfl
@[simp] theorem sz81 : (CT.ty 81).size = 1 := rfl
@[simp] theorem by81 : (CT.ty 81).bytes = 8 := rfl
@[simp] theorem ze81 : (CT.ty 81).zero = [.pointer none] := rfl
@[simp] theorem sz42 : (CT.ty 42).size = 1 := rfl
@[simp] theorem by42 : (CT.ty 42).bytes = 24 := rfl
@[simp] theorem ze42 : (CT.ty 42).zero = [.slice none 0 0] := rfl
@[simp] theorem sz95 : (CT.ty 95).size = 1 := rfl
@[simp] theorem by95 : (CT.ty 95).bytes = 8 := rfl
@[simp] theorem ze95 : (CT.ty 95).zero = [.pointer none] := rfl
@[simp] theorem sz66 : (CT.ty 66).size = 20 := rfl
@[simp] theorem by66 : (CT.ty 66).bytes = 208 := rfl
@[simp] theorem ze66 : (CT.ty 66).zero = [.int .i64 0, .int .i64 0, .slice none 0 0, .slice none 0 0, .int .i64 0, .int .i64 0, .bool false, .int .i64 0, .int .i64 0, .int .i64 0, .bool false, .bool false, .bool false, .slice none 0 0, .int .i64 0, .int .i64 0, .int .i64 0, .slice none 0 0, .int .i64 0, .int .i64 0] := rfl
@[simp] theorem sz154 : (CT.ty 154).size = 1 := rfl
@[simp] theorem by154 : (CT.ty 154).bytes = 8 := rfl
@[simp] theorem ze154 : (CT.ty 154).zero = [.int .u64 0] := rfl
@[simp] theorem sz75 : (CT.ty 75).size = 2 := rfl
@[simp] theorem by75 : (CT.ty 75).bytes = 24 := rfl
@[simp] theorem ze75 : (CT.ty 75).zero = [.int .i64 0, .string .empty] := rfl
@[simp] theorem sz63 : (CT.ty 63).size = 1 := rfl
@[simp] theorem by63 : (CT.ty 63).bytes = 24 := rfl
@[simp] theorem ze63 : (CT.ty 63).zero = [.slice none 0 0] := rfl
@[simp] theorem sz148 : (CT.ty 148).size = 1 := rfl
@[simp] theorem by148 : (CT.ty 148).bytes = 8 := rfl
@[simp] theorem ze148 : (CT.ty 148).zero = [.int .u64 0] := rfl
@[simp] theorem sz115 : (CT.ty 115).size = 1 := rfl
@[simp] theorem by115 : (CT.ty 115).bytes = 8 := rfl
@[simp] theorem ze115 : (CT.ty 115).zero = [.pointer none] := rfl
@[simp] theorem sz5 : (CT.ty 5).size = 1 := rfl
@[simp] theorem by5 : (CT.ty 5).bytes = 1 := rfl
@[simp] theorem ze5 : (CT.ty 5).zero = [.int .u8 0] := rfl
@[simp] theorem sz9 : (CT.ty 9).size = 1 := rfl
@[simp] theorem by9 : (CT.ty 9).bytes = 16 := rfl
@[simp] theorem ze9 : (CT.ty 9).zero = [.string .empty] := rfl
@[simp] theorem sz145 : (CT.ty 145).size = 1 := rfl
@[simp] theorem by145 : (CT.ty 145).bytes = 24 := rfl
@[simp] theorem ze145 : (CT.ty 145).zero = [.slice none 0 0] := rfl
@[simp] theorem sz22 : (CT.ty 22).size = 1 := rfl
@[simp] theorem by22 : (CT.ty 22).bytes = 24 := rfl
@[simp] theorem ze22 : (CT.ty 22).zero = [.slice none 0 0] := rfl
@[simp] theorem sz26 : (CT.ty 26).size = 2 := rfl
@[simp] theorem by26 : (CT.ty 26).bytes = 16 := rfl
@[simp] theorem ze26 : (CT.ty 26).zero = [.int .i64 0, .int .i64 0] := rfl
@[simp] theorem sz151 : (CT.ty 151).size = 1 := rfl
@[simp] theorem by151 : (CT.ty 151).bytes = 4 := rfl
@[simp] theorem ze151 : (CT.ty 151).zero = [.int .u32 0] := rfl
@[simp] theorem sz127 : (CT.ty 127).size = 2 := rfl
@[simp] theorem by127 : (CT.ty 127).bytes = 32 := rfl
@[simp] theorem ze127 : (CT.ty 127).zero = [.slice none 0 0, .int .i64 0] := rfl
@[simp] theorem sz90 : (CT.ty 90).size = 1 := rfl
@[simp] theorem by90 : (CT.ty 90).bytes = 8 := rfl
@[simp] theorem ze90 : (CT.ty 90).zero = [.nilFunc] := rfl
@[simp] theorem sz92 : (CT.ty 92).size = 1 := rfl
@[simp] theorem by92 : (CT.ty 92).bytes = 8 := rfl
@[simp] theorem ze92 : (CT.ty 92).zero = [.nilFunc] := rfl
@[simp] theorem sz105 : (CT.ty 105).size = 1 := rfl
@[simp] theorem by105 : (CT.ty 105).bytes = 8 := rfl
@[simp] theorem ze105 : (CT.ty 105).zero = [.nilFunc] := rfl
@[simp] theorem sz85 : (CT.ty 85).size = 1 := rfl
@[simp] theorem by85 : (CT.ty 85).bytes = 8 := rfl
@[simp] theorem ze85 : (CT.ty 85).zero = [.pointer none] := rfl
@[simp] theorem sz102 : (CT.ty 102).size = 1 := rfl
@[simp] theorem by102 : (CT.ty 102).bytes = 8 := rfl
@[simp] theorem ze102 : (CT.ty 102).zero = [.nilFunc] := rfl
@[simp] theorem sz8 : (CT.ty 8).size = 4 := rfl
@[simp] theorem by8 : (CT.ty 8).bytes = 24 := rfl
@[simp] theorem ze8 : (CT.ty 8).zero = [.int .i64 0, .int .i64 0, .bool false, .int .u8 0] := rfl
@[simp] theorem sz10 : (CT.ty 10).size = 1 := rfl
@[simp] theorem by10 : (CT.ty 10).bytes = 16 := rfl
@[simp] theorem ze10 : (CT.ty 10).zero = [.string .empty] := rfl
@[simp] theorem sz11 : (CT.ty 11).size = 1 := rfl
@[simp] theorem by11 : (CT.ty 11).bytes = 16 := rfl
@[simp] theorem ze11 : (CT.ty 11).zero = [.string .empty] := rfl
@[simp] theorem sz14 : (CT.ty 14).size = 2 := rfl
@[simp] theorem by14 : (CT.ty 14).bytes = 24 := rfl
@[simp] theorem ze14 : (CT.ty 14).zero = [.string .empty, .int .u64 0] := rfl
@[simp] theorem sz15 : (CT.ty 15).size = 1 := rfl
@[simp] theorem by15 : (CT.ty 15).bytes = 8 := rfl
@[simp] theorem ze15 : (CT.ty 15).zero = [.pointer none] := rfl
@[simp] theorem sz16 : (CT.ty 16).size = 1 := rfl
@[simp] theorem by16 : (CT.ty 16).bytes = 8 := rfl
@[simp] theorem ze16 : (CT.ty 16).zero = [.pointer none] := rfl
@[simp] theorem sz19 : (CT.ty 19).size = 1 := rfl
@[simp] theorem by19 : (CT.ty 19).bytes = 8 := rfl
@[simp] theorem ze19 : (CT.ty 19).zero = [.pointer none] := rfl
@[simp] theorem sz17 : (CT.ty 17).size = 1 := rfl
@[simp] theorem by17 : (CT.ty 17).bytes = 8 := rfl
@[simp] theorem ze17 : (CT.ty 17).zero = [.pointer none] := rfl
@[simp] theorem sz6 : (CT.ty 6).size = 1 := rfl
@[simp] theorem by6 : (CT.ty 6).bytes = 1 := rfl
@[simp] theorem ze6 : (CT.ty 6).zero = [.int .u8 0] := rfl
@[simp] theorem sz12 : (CT.ty 12).size = 1 := rfl
@[simp] theorem by12 : (CT.ty 12).bytes = 8 := rfl
@[simp] theorem ze12 : (CT.ty 12).zero = [.int .u64 0] := rfl
theorem CT_ok : CfgOK CT where
  ty := tyOf_fits tys_ok
  mixed := by kernel_rfl
  eqs := eqs_ok (tyOf_fits tys_ok) (by kernel_rfl)
end Go.Ab

