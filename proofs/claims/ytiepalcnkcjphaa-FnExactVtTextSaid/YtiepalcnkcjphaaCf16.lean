/- The types of the seat, as a table that is checked against the program. -/
import Derived.Test.YtiepalcnkcjphaaAbD
import Derived.Test.YtiepalcnkcjphaaFB
import Derived.KernelRfl
import Derived.Test.YtiepalcnkcjphaaProg
set_option linter.unusedVariables false
set_option linter.unusedSimpArgs false
namespace Go.Ab
open Go.Proofs
def tys : List (Nat × TI) := [
  (2, ⟨.int .i64, 1, [.int .i64 0], 8⟩),
  (3, ⟨.int .i64, 1, [.int .i64 0], 8⟩),
  (45, ⟨.struct [(0, 43), (4, 2), (5, 2), (6, 4), (7, 2), (8, 2), (9, 2), (10, 4), (11, 4), (12, 4), (13, 30), (14, 2), (15, 2), (16, 2), (17, 24), (18, 2), (19, 2)], 20, [.int .i64 0, .int .i64 0, .slice none 0 0, .slice none 0 0, .int .i64 0, .int .i64 0, .bool false, .int .i64 0, .int .i64 0, .int .i64 0, .bool false, .bool false, .bool false, .slice none 0 0, .int .i64 0, .int .i64 0, .int .i64 0, .slice none 0 0, .int .i64 0, .int .i64 0], 208⟩),
  (4, ⟨.bool, 1, [.bool false], 1⟩),
  (24, ⟨.slice 2, 1, [.slice none 0 0], 24⟩),
  (43, ⟨.struct [(0, 2), (1, 2), (2, 41), (3, 41)], 4, [.int .i64 0, .int .i64 0, .slice none 0 0, .slice none 0 0], 64⟩),
  (41, ⟨.slice 92, 1, [.slice none 0 0], 24⟩),
  (39, ⟨.struct [(0, 2), (1, 2), (2, 2)], 3, [.int .i64 0, .int .i64 0, .int .i64 0], 24⟩),
  (40, ⟨.struct [(0, 2), (1, 2), (2, 4), (3, 24)], 4, [.int .i64 0, .int .i64 0, .bool false, .slice none 0 0], 48⟩),
  (47, ⟨.struct [(0, 39), (3, 40), (7, 45)], 27, [.int .i64 0, .int .i64 0, .int .i64 0, .int .i64 0, .int .i64 0, .bool false, .slice none 0 0, .int .i64 0, .int .i64 0, .slice none 0 0, .slice none 0 0, .int .i64 0, .int .i64 0, .bool false, .int .i64 0, .int .i64 0, .int .i64 0, .bool false, .bool false, .bool false, .slice none 0 0, .int .i64 0, .int .i64 0, .int .i64 0, .slice none 0 0, .int .i64 0, .int .i64 0], 280⟩),
  (92, ⟨.struct [(0, 2), (1, 2)], 2, [.int .i64 0, .int .i64 0], 16⟩),
  (30, ⟨.slice 4, 1, [.slice none 0 0], 24⟩),
  (32, ⟨.struct [(0, 29), (4, 2), (5, 2), (6, 4), (7, 2), (8, 2), (9, 2), (10, 4), (11, 4), (12, 4), (13, 30), (14, 2), (15, 2), (16, 2), (17, 24), (18, 2), (19, 2)], 20, [.int .i64 0, .int .i64 0, .slice none 0 0, .slice none 0 0, .int .i64 0, .int .i64 0, .bool false, .int .i64 0, .int .i64 0, .int .i64 0, .bool false, .bool false, .bool false, .slice none 0 0, .int .i64 0, .int .i64 0, .int .i64 0, .slice none 0 0, .int .i64 0, .int .i64 0], 208⟩),
  (37, ⟨.struct [(0, 2), (1, 9)], 2, [.int .i64 0, .string .empty], 24⟩),
  (9, ⟨.str, 1, [.string .empty], 16⟩),
  (62, ⟨.slice 5, 1, [.slice none 0 0], 24⟩),
  (34, ⟨.struct [(0, 23), (3, 26), (7, 32)], 27, [.int .i64 0, .int .i64 0, .int .i64 0, .int .i64 0, .int .i64 0, .bool false, .slice none 0 0, .int .i64 0, .int .i64 0, .slice none 0 0, .slice none 0 0, .int .i64 0, .int .i64 0, .bool false, .int .i64 0, .int .i64 0, .int .i64 0, .bool false, .bool false, .bool false, .slice none 0 0, .int .i64 0, .int .i64 0, .int .i64 0, .slice none 0 0, .int .i64 0, .int .i64 0], 280⟩),
  (82, ⟨.ptr, 1, [.pointer none], 8⟩),
  (27, ⟨.slice 118, 1, [.slice none 0 0], 24⟩),
  (29, ⟨.struct [(0, 2), (1, 2), (2, 27), (3, 27)], 4, [.int .i64 0, .int .i64 0, .slice none 0 0, .slice none 0 0], 64⟩),
  (61, ⟨.ptr, 1, [.pointer none], 8⟩),
  (5, ⟨.int .u8, 1, [.int .u8 0], 1⟩),
  (26, ⟨.struct [(0, 2), (1, 2), (2, 4), (3, 24)], 4, [.int .i64 0, .int .i64 0, .bool false, .slice none 0 0], 48⟩),
  (64, ⟨.struct [(0, 61), (1, 62)], 2, [.pointer none, .slice none 0 0], 32⟩),
  (23, ⟨.struct [(0, 2), (1, 2), (2, 2)], 3, [.int .i64 0, .int .i64 0, .int .i64 0], 24⟩),
  (102, ⟨.ptr, 1, [.pointer none], 8⟩),
  (118, ⟨.struct [(0, 2), (1, 2)], 2, [.int .i64 0, .int .i64 0], 16⟩),
  (107, ⟨.func, 1, [.nilFunc], 8⟩),
  (120, ⟨.func, 1, [.nilFunc], 8⟩),
  (55, ⟨.ptr, 1, [.pointer none], 8⟩),
  (112, ⟨.int .u64, 1, [.int .u64 0], 8⟩),
  (8, ⟨.struct [(0, 2), (1, 3), (2, 4), (3, 6)], 4, [.int .i64 0, .int .i64 0, .bool false, .int .u8 0], 24⟩),
  (10, ⟨.str, 1, [.string .empty], 16⟩),
  (11, ⟨.str, 1, [.string .empty], 16⟩),
  (14, ⟨.struct [(0, 9), (1, 12)], 2, [.string .empty, .int .u64 0], 24⟩),
  (15, ⟨.ptr, 1, [.pointer none], 8⟩),
  (16, ⟨.ptr, 1, [.pointer none], 8⟩),
  (19, ⟨.struct [(0, 17)], 1, [.pointer none], 8⟩),
  (78, ⟨.ptr, 1, [.pointer none], 8⟩),
  (80, ⟨.ptr, 1, [.pointer none], 8⟩),
  (126, ⟨.ptr, 1, [.pointer none], 8⟩),
  (17, ⟨.ptr, 1, [.pointer none], 8⟩),
  (94, ⟨.ptr, 1, [.pointer none], 8⟩),
  (6, ⟨.int .u8, 1, [.int .u8 0], 1⟩),
  (12, ⟨.int .u64, 1, [.int .u64 0], 8⟩)]
noncomputable def CT : Cfg := ⟨Try.prog, tyOf tys, 0, [39], fun _ => true, false⟩
theorem tys_ok : tys.all (fun p => tyB Try.prog p.1 p.2) = true := by kernel_rfl
@[simp] theorem sz2 : (CT.ty 2).size = 1 := rfl
@[simp] theorem by2 : (CT.ty 2).bytes = 8 := rfl
@[simp] theorem ze2 : (CT.ty 2).zero = [.int .i64 0] := rfl
@[simp] theorem sz3 : (CT.ty 3).size = 1 := rfl
@[simp] theorem by3 : (CT.ty 3).bytes = 8 := rfl
@[simp] theorem ze3 : (CT.ty 3).zero = [.int .i64 0] := rfl
@[simp] theorem sz45 : (CT.ty 45).size = 20 := rfl
@[simp] theorem by45 : (CT.ty 45).bytes = 208 := rfl
@[simp] theorem ze45 : (CT.ty 45).zero = [.int .i64 0, .int .i64 0, .slice none 0 0, .slice none 0 0, .int .i64 0, .int .i64 0, .bool false, .int .i64 0, .int .i64 0, .int .i64 0, .bool false, .bool false, .bool false, .slice none 0 0, .int .i64 0, .int .i64 0, .int .i64 0, .slice none 0 0, .int .i64 0, .int .i64 0] := rfl
@[simp] theorem sz4 : (CT.ty 4).size = 1 := rfl
@[simp] theorem by4 : (CT.ty 4).bytes = 1 := rfl
@[simp] theorem ze4 : (CT.ty 4).zero = [.bool false] := rfl
@[simp] theorem sz24 : (CT.ty 24).size = 1 := rfl
@[simp] theorem by24 : (CT.ty 24).bytes = 24 := rfl
@[simp] theorem ze24 : (CT.ty 24).zero = [.slice none 0 0] := rfl
@[simp] theorem sz43 : (CT.ty 43).size = 4 := rfl
@[simp] theorem by43 : (CT.ty 43).bytes = 64 := rfl
@[simp] theorem ze43 : (CT.ty 43).zero = [.int .i64 0, .int .i64 0, .slice none 0 0, .slice none 0 0] := rfl
@[simp] theorem sz41 : (CT.ty 41).size = 1 := rfl
@[simp] theorem by41 : (CT.ty 41).bytes = 24 := rfl
@[simp] theorem ze41 : (CT.ty 41).zero = [.slice none 0 0] := rfl
@[simp] theorem sz39 : (CT.ty 39).size = 3 := rfl
@[simp] theorem by39 : (CT.ty 39).bytes = 24 := rfl
@[simp] theorem ze39 : (CT.ty 39).zero = [.int .i64 0, .int .i64 0, .int .i64 0] := rfl
@[simp] theorem sz40 : (CT.ty 40).size = 4 := rfl
@[simp] theorem by40 : (CT.ty 40).bytes = 48 := rfl
@[simp] theorem ze40 : (CT.ty 40).zero = [.int .i64 0, .int .i64 0, .bool false, .slice none 0 0] := rfl
@[simp] theorem sz47 : (CT.ty 47).size = 27 := rfl
@[simp] theorem by47 : (CT.ty 47).bytes = 280 := rfl
@[simp] theorem ze47 : (CT.ty 47).zero = [.int .i64 0, .int .i64 0, .int .i64 0, .int .i64 0, .int .i64 0, .bool false, .slice none 0 0, .int .i64 0, .int .i64 0, .slice none 0 0, .slice none 0 0, .int .i64 0, .int .i64 0, .bool false, .int .i64 0, .int .i64 0, .int .i64 0, .bool false, .bool false, .bool false, .slice none 0 0, .int .i64 0, .int .i64 0, .int .i64 0, .slice none 0 0, .int .i64 0, .int .i64 0] := rfl
@[simp] theorem sz92 : (CT.ty 92).size = 2 := rfl
@[simp] theorem by92 : (CT.ty 92).bytes = 16 := rfl
@[simp] theorem ze92 : (CT.ty 92).zero = [.int .i64 0, .int .i64 0] := rfl
@[simp] theorem sz30 : (CT.ty 30).size = 1 := rfl
@[simp] theorem by30 : (CT.ty 30).bytes = 24 := rfl
@[simp] theorem ze30 : (CT.ty 30).zero = [.slice none 0 0] := rfl
@[simp] theorem sz32 : (CT.ty 32).size = 20 := rfl
@[simp] theorem by32 : (CT.ty 32).bytes = 208 := rfl
@[simp] theorem ze32 : (CT.ty 32).zero = [.int .i64 0, .int .i64 0, .slice none 0 0, .slice none 0 0, .int .i64 0, .int .i64 0, .bool false, .int .i64 0, .int .i64 0, .int .i64 0, .bool false, .bool false, .bool false, .slice none 0 0, .int .i64 0, .int .i64 0, .int .i64 0, .slice none 0 0, .int .i64 0, .int .i64 0] := rfl
@[simp] theorem sz37 : (CT.ty 37).size = 2 := rfl
@[simp] theorem by37 : (CT.ty 37).bytes = 24 := rfl
@[simp] theorem ze37 : (CT.ty 37).zero = [.int .i64 0, .string .empty] := rfl
@[simp] theorem sz9 : (CT.ty 9).size = 1 := rfl
@[simp] theorem by9 : (CT.ty 9).bytes = 16 := rfl
@[simp] theorem ze9 : (CT.ty 9).zero = [.string .empty] := rfl
@[simp] theorem sz62 : (CT.ty 62).size = 1 := rfl
@[simp] theorem by62 : (CT.ty 62).bytes = 24 := rfl
@[simp] theorem ze62 : (CT.ty 62).zero = [.slice none 0 0] := rfl
@[simp] theorem sz34 : (CT.ty 34).size = 27 := rfl
@[simp] theorem by34 : (CT.ty 34).bytes = 280 := rfl
@[simp] theorem ze34 : (CT.ty 34).zero = [.int .i64 0, .int .i64 0, .int .i64 0, .int .i64 0, .int .i64 0, .bool false, .slice none 0 0, .int .i64 0, .int .i64 0, .slice none 0 0, .slice none 0 0, .int .i64 0, .int .i64 0, .bool false, .int .i64 0, .int .i64 0, .int .i64 0, .bool false, .bool false, .bool false, .slice none 0 0, .int .i64 0, .int .i64 0, .int .i64 0, .slice none 0 0, .int .i64 0, .int .i64 0] := rfl
@[simp] theorem sz82 : (CT.ty 82).size = 1 := rfl
@[simp] theorem by82 : (CT.ty 82).bytes = 8 := rfl
@[simp] theorem ze82 : (CT.ty 82).zero = [.pointer none] := rfl
@[simp] theorem sz27 : (CT.ty 27).size = 1 := rfl
@[simp] theorem by27 : (CT.ty 27).bytes = 24 := rfl
@[simp] theorem ze27 : (CT.ty 27).zero = [.slice none 0 0] := rfl
@[simp] theorem sz29 : (CT.ty 29).size = 4 := rfl
@[simp] theorem by29 : (CT.ty 29).bytes = 64 := rfl
@[simp] theorem ze29 : (CT.ty 29).zero = [.int .i64 0, .int .i64 0, .slice none 0 0, .slice none 0 0] := rfl
@[simp] theorem sz61 : (CT.ty 61).size = 1 := rfl
@[simp] theorem by61 : (CT.ty 61).bytes = 8 := rfl
@[simp] theorem ze61 : (CT.ty 61).zero = [.pointer none] := rfl
@[simp] theorem sz5 : (CT.ty 5).size = 1 := rfl
@[simp] theorem by5 : (CT.ty 5).bytes = 1 := rfl
@[simp] theorem ze5 : (CT.ty 5).zero = [.int .u8 0] := rfl
@[simp] theorem sz26 : (CT.ty 26).size = 4 := rfl
@[simp] theorem by26 : (CT.ty 26).bytes = 48 := rfl
@[simp] theorem ze26 : (CT.ty 26).zero = [.int .i64 0, .int .i64 0, .bool false, .slice none 0 0] := rfl
@[simp] theorem sz64 : (CT.ty 64).size = 2 := rfl
@[simp] theorem by64 : (CT.ty 64).bytes = 32 := rfl
@[simp] theorem ze64 : (CT.ty 64).zero = [.pointer none, .slice none 0 0] := rfl
@[simp] theorem sz23 : (CT.ty 23).size = 3 := rfl
@[simp] theorem by23 : (CT.ty 23).bytes = 24 := rfl
@[simp] theorem ze23 : (CT.ty 23).zero = [.int .i64 0, .int .i64 0, .int .i64 0] := rfl
@[simp] theorem sz102 : (CT.ty 102).size = 1 := rfl
@[simp] theorem by102 : (CT.ty 102).bytes = 8 := rfl
@[simp] theorem ze102 : (CT.ty 102).zero = [.pointer none] := rfl
@[simp] theorem sz118 : (CT.ty 118).size = 2 := rfl
@[simp] theorem by118 : (CT.ty 118).bytes = 16 := rfl
@[simp] theorem ze118 : (CT.ty 118).zero = [.int .i64 0, .int .i64 0] := rfl
@[simp] theorem sz107 : (CT.ty 107).size = 1 := rfl
@[simp] theorem by107 : (CT.ty 107).bytes = 8 := rfl
@[simp] theorem ze107 : (CT.ty 107).zero = [.nilFunc] := rfl
@[simp] theorem sz120 : (CT.ty 120).size = 1 := rfl
@[simp] theorem by120 : (CT.ty 120).bytes = 8 := rfl
@[simp] theorem ze120 : (CT.ty 120).zero = [.nilFunc] := rfl
@[simp] theorem sz55 : (CT.ty 55).size = 1 := rfl
@[simp] theorem by55 : (CT.ty 55).bytes = 8 := rfl
@[simp] theorem ze55 : (CT.ty 55).zero = [.pointer none] := rfl
@[simp] theorem sz112 : (CT.ty 112).size = 1 := rfl
@[simp] theorem by112 : (CT.ty 112).bytes = 8 := rfl
@[simp] theorem ze112 : (CT.ty 112).zero = [.int .u64 0] := rfl
@[simp] theorem sz8 : (CT.ty 8).size = 4 := rfl
@[simp] theorem by8 : (CT.ty 8).bytes = 24 := rfl
@[simp] theorem ze8 : (CT.ty 8).zero = [.int .i64 0, .int .i64 0, .bool false, .int .u8 0] := rfl
@[simp] theorem sz10 : (CT.ty 10).size = 1 := rfl
@[simp] theorem by10 : (CT.ty 10).bytes = 16 := rfl
@[simp] theorem ze10 : (CT.ty 10).zero = [.string .empty] := rfl
@[simp] theorem sz11 : (CT.ty 11).size = 1 := rfl
@[simp] theorem by11 : (CT.ty 11).bytes = 16 := rfl
@[simp] theorem ze11 : (CT.ty 11).zero = [.string .empty] := rfl
@[simp] theorem sz14 : (CT.ty 14).size = 2 := rfl
@[simp] theorem by14 : (CT.ty 14).bytes = 24 := rfl
@[simp] theorem ze14 : (CT.ty 14).zero = [.string .empty, .int .u64 0] := rfl
@[simp] theorem sz15 : (CT.ty 15).size = 1 := rfl
@[simp] theorem by15 : (CT.ty 15).bytes = 8 := rfl
@[simp] theorem ze15 : (CT.ty 15).zero = [.pointer none] := rfl
@[simp] theorem sz16 : (CT.ty 16).size = 1 := rfl
@[simp] theorem by16 : (CT.ty 16).bytes = 8 := rfl
@[simp] theorem ze16 : (CT.ty 16).zero = [.pointer none] := rfl
@[simp] theorem sz19 : (CT.ty 19).size = 1 := rfl
@[simp] theorem by19 : (CT.ty 19).bytes = 8 := rfl
@[simp] theorem ze19 : (CT.ty 19).zero = [.pointer none] := rfl
@[simp] theorem sz78 : (CT.ty 78).size = 1 := rfl
@[simp] theorem by78 : (CT.ty 78).bytes = 8 := rfl
@[simp] theorem ze78 : (CT.ty 78).zero = [.pointer none] := rfl
@[simp] theorem sz80 : (CT.ty 80).size = 1 := rfl
@[simp] theorem by80 : (CT.ty 80).bytes = 8 := rfl
@[simp] theorem ze80 : (CT.ty 80).zero = [.pointer none] := rfl
@[simp] theorem sz126 : (CT.ty 126).size = 1 := rfl
@[simp] theorem by126 : (CT.ty 126).bytes = 8 := rfl
@[simp] theorem ze126 : (CT.ty 126).zero = [.pointer none] := rfl
@[simp] theorem sz17 : (CT.ty 17).size = 1 := rfl
@[simp] theorem by17 : (CT.ty 17).bytes = 8 := rfl
@[simp] theorem ze17 : (CT.ty 17).zero = [.pointer none] := rfl
@[simp] theorem sz94 : (CT.ty 94).size = 1 := rfl
@[simp] theorem by94 : (CT.ty 94).bytes = 8 := rfl
@[simp] theorem ze94 : (CT.ty 94).zero = [.pointer none] := rfl
@[simp] theorem sz6 : (CT.ty 6).size = 1 := rfl
@[simp] theorem by6 : (CT.ty 6).bytes = 1 := rfl
@[simp] theorem ze6 : (CT.ty 6).zero = [.int .u8 0] := rfl
@[simp] theorem sz12 : (CT.ty 12).size = 1 := rfl
@[simp] theorem by12 : (CT.ty 12).bytes = 8 := rfl
@[simp] theorem ze12 : (CT.ty 12).zero = [.int .u64 0] := rfl
theorem CT_ok : CfgOK CT where
  ty := tyOf_fits tys_ok
  mixed := by kernel_rfl
  eqs := eqs_ok (tyOf_fits tys_ok) (by kernel_rfl)
end Go.Ab
