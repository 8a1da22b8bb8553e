/- The types of the seat, as a table that is checked against the program. -/
import Derived.Test.YtcfjcghbinnngaaAbD
import Derived.Test.YtcfjcghbinnngaaFB
import Derived.KernelRfl
import Derived.Test.YtcfjcghbinnngaaProg
set_option linter.unusedVariables false
set_option linter.unusedSimpArgs false
namespace Go.Ab
open Go.Proofs
def tys : List (Nat × TI) := [
  (2, ⟨.int .i64, 1, [.int .i64 0], 8⟩),
  (22, ⟨.slice 5, 1, [.slice none 0 0], 24⟩),
  (3, ⟨.int .i64, 1, [.int .i64 0], 8⟩),
  (31, ⟨.struct [(0, 29), (1, 22), (2, 4), (3, 2)], 4, [.slice none 0 0, .slice none 0 0, .bool false, .int .i64 0], 64⟩),
  (5, ⟨.int .u8, 1, [.int .u8 0], 1⟩),
  (25, ⟨.struct [(0, 2), (1, 2), (2, 2), (3, 2), (4, 2), (5, 2), (6, 2)], 7, [.int .i64 0, .int .i64 0, .int .i64 0, .int .i64 0, .int .i64 0, .int .i64 0, .int .i64 0], 56⟩),
  (34, ⟨.struct [(0, 2), (1, 4), (2, 22), (3, 22), (4, 31)], 8, [.int .i64 0, .bool false, .slice none 0 0, .slice none 0 0, .slice none 0 0, .slice none 0 0, .bool false, .int .i64 0], 128⟩),
  (29, ⟨.slice 22, 1, [.slice none 0 0], 24⟩),
  (75, ⟨.struct [(0, 25), (7, 31), (11, 22)], 12, [.int .i64 0, .int .i64 0, .int .i64 0, .int .i64 0, .int .i64 0, .int .i64 0, .int .i64 0, .slice none 0 0, .slice none 0 0, .bool false, .int .i64 0, .slice none 0 0], 144⟩),
  (4, ⟨.bool, 1, [.bool false], 1⟩),
  (65, ⟨.ptr, 1, [.pointer none], 8⟩),
  (83, ⟨.ptr, 1, [.pointer none], 8⟩),
  (66, ⟨.ptr, 1, [.pointer none], 8⟩),
  (42, ⟨.struct [(0, 29), (1, 22), (2, 4), (3, 2)], 4, [.slice none 0 0, .slice none 0 0, .bool false, .int .i64 0], 64⟩),
  (41, ⟨.struct [(0, 2), (1, 2), (2, 2), (3, 2), (4, 2), (5, 2), (6, 2)], 7, [.int .i64 0, .int .i64 0, .int .i64 0, .int .i64 0, .int .i64 0, .int .i64 0, .int .i64 0], 56⟩),
  (72, ⟨.slice 2, 1, [.slice none 0 0], 24⟩),
  (9, ⟨.str, 1, [.string .empty], 16⟩),
  (27, ⟨.struct [(0, 2), (1, 25)], 8, [.int .i64 0, .int .i64 0, .int .i64 0, .int .i64 0, .int .i64 0, .int .i64 0, .int .i64 0, .int .i64 0], 64⟩),
  (39, ⟨.struct [(0, 2), (1, 2)], 2, [.int .i64 0, .int .i64 0], 16⟩),
  (87, ⟨.func, 1, [.nilFunc], 8⟩),
  (8, ⟨.struct [(0, 2), (1, 3), (2, 4), (3, 6)], 4, [.int .i64 0, .int .i64 0, .bool false, .int .u8 0], 24⟩),
  (10, ⟨.str, 1, [.string .empty], 16⟩),
  (11, ⟨.str, 1, [.string .empty], 16⟩),
  (14, ⟨.struct [(0, 9), (1, 12)], 2, [.string .empty, .int .u64 0], 24⟩),
  (15, ⟨.ptr, 1, [.pointer none], 8⟩),
  (16, ⟨.ptr, 1, [.pointer none], 8⟩),
  (19, ⟨.struct [(0, 17)], 1, [.pointer none], 8⟩),
  (17, ⟨.ptr, 1, [.pointer none], 8⟩),
  (6, ⟨.int .u8, 1, [.int .u8 0], 1⟩),
  (12, ⟨.int .u64, 1, [.int .u64 0], 8⟩)]
noncomputable def CT : Cfg := ⟨Try.prog, tyOf tys, 0, [], fun _ => true, false⟩
theorem tys_ok : tys.all (fun p => tyB Try.prog p.1 p.2) = true := by kernel_rfl
@[simp] theorem sz2 : (CT.ty 2).size = 1 := rfl
@[simp] theorem by2 : (CT.ty 2).bytes = 8 := rfl
@[simp] theorem ze2 : (CT.ty 2).zero = [.int .i64 0] := rfl
@[simp] theorem sz22 : (CT.ty 22).size = 1 := rfl
@[simp] theorem by22 : (CT.ty 22).bytes = 24 := rfl
@[simp] theorem ze22 : (CT.ty 22).zero = [.slice none 0 0] := rfl
@[simp] theorem sz3 : (CT.ty 3).size = 1 := rfl
@[simp] theorem by3 : (CT.ty 3).bytes = 8 := rfl
@[simp] theorem ze3 : (CT.ty 3).zero = [.int .i64 0] := rfl
@[simp] theorem sz31 : (CT.ty 31).size = 4 := rfl
@[simp] theorem by31 : (CT.ty 31).bytes = 64 := rfl
@[simp] theorem ze31 : (CT.ty 31).zero = [.slice none 0 0, .slice none 0 0, .bool false, .int .i64 0] := rfl
@[simp] theorem sz5 : (CT.ty 5).size = 1 := rfl
@[simp] theorem by5 : (CT.ty 5).bytes = 1 := rfl
@[simp] theorem ze5 : (CT.ty 5).zero = [.int .u8 0] := rfl
@[simp] theorem sz25 : (CT.ty 25).size = 7 := rfl
@[simp] theorem by25 : (CT.ty 25).bytes = 56 := rfl
@[simp] theorem ze25 : (CT.ty 25).zero = [.int .i64 0, .int .i64 0, .int .i64 0, .int .i64 0, .int .i64 0, .int .i64 0, .int .i64 0] := rfl
@[simp] theorem sz34 : (CT.ty 34).size = 8 := rfl
@[simp] theorem by34 : (CT.ty 34).bytes = 128 := rfl
@[simp] theorem ze34 : (CT.ty 34).zero = [.int .i64 0, .bool false, .slice none 0 0, .slice none 0 0, .slice none 0 0, .slice none 0 0, .bool false, .int .i64 0] := rfl
@[simp] theorem sz29 : (CT.ty 29).size = 1 := rfl
@[simp] theorem by29 : (CT.ty 29).bytes = 24 := rfl
@[simp] theorem ze29 : (CT.ty 29).zero = [.slice none 0 0] := rfl
@[simp] theorem sz75 : (CT.ty 75).size = 12 := rfl
@[simp] theorem by75 : (CT.ty 75).bytes = 144 := rfl
@[simp] theorem ze75 : (CT.ty 75).zero = [.int .i64 0, .int .i64 0, .int .i64 0, .int .i64 0, .int .i64 0, .int .i64 0, .int .i64 0, .slice none 0 0, .slice none 0 0, .bool false, .int .i64 0, .slice none 0 0] := rfl
@[simp] theorem sz4 : (CT.ty 4).size = 1 := rfl
@[simp] theorem by4 : (CT.ty 4).bytes = 1 := rfl
@[simp] theorem ze4 : (CT.ty 4).zero = [.bool false] := rfl
@[simp] theorem sz65 : (CT.ty 65).size = 1 := rfl
@[simp] theorem by65 : (CT.ty 65).bytes = 8 := rfl
@[simp] theorem ze65 : (CT.ty 65).zero = [.pointer none] := rfl
@[simp] theorem sz83 : (CT.ty 83).size = 1 := rfl
@[simp] theorem by83 : (CT.ty 83).bytes = 8 := rfl
@[simp] theorem ze83 : (CT.ty 83).zero = [.pointer none] := rfl
@[simp] theorem sz66 : (CT.ty 66).size = 1 := rfl
@[simp] theorem by66 : (CT.ty 66).bytes = 8 := rfl
@[simp] theorem ze66 : (CT.ty 66).zero = [.pointer none] := rfl
@[simp] theorem sz42 : (CT.ty 42).size = 4 := rfl
@[simp] theorem by42 : (CT.ty 42).bytes = 64 := rfl
@[simp] theorem ze42 : (CT.ty 42).zero = [.slice none 0 0, .slice none 0 0, .bool false, .int .i64 0] := rfl
@[simp] theorem sz41 : (CT.ty 41).size = 7 := rfl
@[simp] theorem by41 : (CT.ty 41).bytes = 56 := rfl
@[simp] theorem ze41 : (CT.ty 41).zero = [.int .i64 0, .int .i64 0, .int .i64 0, .int .i64 0, .int .i64 0, .int .i64 0, .int .i64 0] := rfl
@[simp] theorem sz72 : (CT.ty 72).size = 1 := rfl
@[simp] theorem by72 : (CT.ty 72).bytes = 24 := rfl
@[simp] theorem ze72 : (CT.ty 72).zero = [.slice none 0 0] := rfl
@[simp] theorem sz9 : (CT.ty 9).size = 1 := rfl
@[simp] theorem by9 : (CT.ty 9).bytes = 16 := rfl
@[simp] theorem ze9 : (CT.ty 9).zero = [.string .empty] := rfl
@[simp] theorem sz27 : (CT.ty 27).size = 8 := rfl
@[simp] theorem by27 : (CT.ty 27).bytes = 64 := rfl
@[simp] theorem ze27 : (CT.ty 27).zero = [.int .i64 0, .int .i64 0, .int .i64 0, .int .i64 0, .int .i64 0, .int .i64 0, .int .i64 0, .int .i64 0] := rfl
@[simp] theorem sz39 : (CT.ty 39).size = 2 := rfl
@[simp] theorem by39 : (CT.ty 39).bytes = 16 := rfl
@[simp] theorem ze39 : (CT.ty 39).zero = [.int .i64 0, .int .i64 0] := rfl
@[simp] theorem sz87 : (CT.ty 87).size = 1 := rfl
@[simp] theorem by87 : (CT.ty 87).bytes = 8 := rfl
@[simp] theorem ze87 : (CT.ty 87).zero = [.nilFunc] := rfl
@[simp] theorem sz8 : (CT.ty 8).size = 4 := rfl
@[simp] theorem by8 : (CT.ty 8).bytes = 24 := rfl
@[simp] theorem ze8 : (CT.ty 8).zero = [.int .i64 0, .int .i64 0, .bool false, .int .u8 0] := rfl
@[simp] theorem sz10 : (CT.ty 10).size = 1 := rfl
@[simp] theorem by10 : (CT.ty 10).bytes = 16 := rfl
@[simp] theorem ze10 : (CT.ty 10).zero = [.string .empty] := rfl
@[simp] theorem sz11 : (CT.ty 11).size = 1 := rfl
@[simp] theorem by11 : (CT.ty 11).bytes = 16 := rfl
@[simp] theorem ze11 : (CT.ty 11).zero = [.string .empty] := rfl
@[simp] theorem sz14 : (CT.ty 14).size = 2 := rfl
@[simp] theorem by14 : (CT.ty 14).bytes = 24 := rfl
@[simp] theorem ze14 : (CT.ty 14).zero = [.string .empty, .int .u64 0] := rfl
@[simp] theorem sz15 : (CT.ty 15).size = 1 := rfl
@[simp] theorem by15 : (CT.ty 15).bytes = 8 := rfl
@[simp] theorem ze15 : (CT.ty 15).zero = [.pointer none] := rfl
@[simp] theorem sz16 : (CT.ty 16).size = 1 := rfl
@[simp] theorem by16 : (CT.ty 16).bytes = 8 := rfl
@[simp] theorem ze16 : (CT.ty 16).zero = [.pointer none] := rfl
@[simp] theorem sz19 : (CT.ty 19).size = 1 := rfl
@[simp] theorem by19 : (CT.ty 19).bytes = 8 := rfl
@[simp] theorem ze19 : (CT.ty 19).zero = [.pointer none] := rfl
@[simp] theorem sz17 : (CT.ty 17).size = 1 := rfl
@[simp] theorem by17 : (CT.ty 17).bytes = 8 := rfl
@[simp] theorem ze17 : (CT.ty 17).zero = [.pointer none] := rfl
@[simp] theorem sz6 : (CT.ty 6).size = 1 := rfl
@[simp] theorem by6 : (CT.ty 6).bytes = 1 := rfl
@[simp] theorem ze6 : (CT.ty 6).zero = [.int .u8 0] := rfl
@[simp] theorem sz12 : (CT.ty 12).size = 1 := rfl
@[simp] theorem by12 : (CT.ty 12).bytes = 8 := rfl
@[simp] theorem ze12 : (CT.ty 12).zero = [.int .u64 0] := rfl
theorem CT_ok : CfgOK CT where
  ty := tyOf_fits tys_ok
  mixed := by kernel_rfl
  eqs := eqs_ok (tyOf_fits tys_ok) (by kernel_rfl)
end Go.Ab
