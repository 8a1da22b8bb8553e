/- The types of the seat, as a table that is checked against the program. -/
import Derived.Test.YtkfbpdbopkdnjaaAbD
import Derived.Test.YtkfbpdbopkdnjaaFB
import Derived.KernelRfl
import Derived.Test.YtkfbpdbopkdnjaaProg
set_option linter.unusedVariables false
set_option linter.unusedSimpArgs false
namespace Go.Ab
open Go.Proofs
def tys : List (Nat × TI) := [
  (2, ⟨.int .i64, 1, [.int .i64 0], 8⟩),
  (3, ⟨.int .i64, 1, [.int .i64 0], 8⟩),
  (22, ⟨.slice 5, 1, [.slice none 0 0], 24⟩),
  (28, ⟨.slice 2, 1, [.slice none 0 0], 24⟩),
  (40, ⟨.struct [(0, 2), (1, 2), (2, 4), (3, 28)], 4, [.int .i64 0, .int .i64 0, .bool false, .slice none 0 0], 48⟩),
  (107, ⟨.struct [(0, 83), (1, 22), (2, 4), (3, 2)], 4, [.slice none 0 0, .slice none 0 0, .bool false, .int .i64 0], 64⟩),
  (25, ⟨.struct [(0, 2), (1, 2), (2, 2)], 3, [.int .i64 0, .int .i64 0, .int .i64 0], 24⟩),
  (111, ⟨.struct [(0, 2), (1, 2), (2, 2), (3, 2), (4, 2), (5, 2), (6, 2)], 7, [.int .i64 0, .int .i64 0, .int .i64 0, .int .i64 0, .int .i64 0, .int .i64 0, .int .i64 0], 56⟩),
  (83, ⟨.slice 22, 1, [.slice none 0 0], 24⟩),
  (44, ⟨.struct [(0, 2), (1, 2), (2, 2), (3, 4), (4, 28)], 5, [.int .i64 0, .int .i64 0, .int .i64 0, .bool false, .slice none 0 0], 56⟩),
  (4, ⟨.bool, 1, [.bool false], 1⟩),
  (5, ⟨.int .u8, 1, [.int .u8 0], 1⟩),
  (174, ⟨.struct [(0, 2), (1, 2), (2, 2), (3, 4), (4, 22), (5, 2), (6, 111)], 13, [.int .i64 0, .int .i64 0, .int .i64 0, .bool false, .slice none 0 0, .int .i64 0, .int .i64 0, .int .i64 0, .int .i64 0, .int .i64 0, .int .i64 0, .int .i64 0, .int .i64 0], 120⟩),
  (87, ⟨.slice 174, 1, [.slice none 0 0], 24⟩),
  (72, ⟨.struct [(0, 70), (1, 4), (2, 2)], 3, [.slice none 0 0, .bool false, .int .i64 0], 40⟩),
  (109, ⟨.struct [(0, 2), (1, 4), (2, 22), (3, 22), (4, 107)], 8, [.int .i64 0, .bool false, .slice none 0 0, .slice none 0 0, .slice none 0 0, .slice none 0 0, .bool false, .int .i64 0], 128⟩),
  (70, ⟨.slice 165, 1, [.slice none 0 0], 24⟩),
  (46, ⟨.struct [(0, 2), (1, 44), (6, 40)], 10, [.int .i64 0, .int .i64 0, .int .i64 0, .int .i64 0, .bool false, .slice none 0 0, .int .i64 0, .int .i64 0, .bool false, .slice none 0 0], 112⟩),
  (124, ⟨.ptr, 1, [.pointer none], 8⟩),
  (35, ⟨.struct [(0, 2), (1, 22)], 2, [.int .i64 0, .slice none 0 0], 32⟩),
  (59, ⟨.struct [(0, 2), (1, 57), (2, 40)], 6, [.int .i64 0, .slice none 0 0, .int .i64 0, .int .i64 0, .bool false, .slice none 0 0], 80⟩),
  (74, ⟨.struct [(0, 2), (1, 22), (2, 2), (3, 72)], 6, [.int .i64 0, .slice none 0 0, .int .i64 0, .slice none 0 0, .bool false, .int .i64 0], 80⟩),
  (165, ⟨.struct [(0, 2), (1, 2)], 2, [.int .i64 0, .int .i64 0], 16⟩),
  (97, ⟨.struct [(0, 2), (1, 87)], 2, [.int .i64 0, .slice none 0 0], 32⟩),
  (9, ⟨.str, 1, [.string .empty], 16⟩),
  (181, ⟨.ptr, 1, [.pointer none], 8⟩),
  (30, ⟨.struct [(0, 2), (1, 28), (2, 25)], 5, [.int .i64 0, .slice none 0 0, .int .i64 0, .int .i64 0, .int .i64 0], 56⟩),
  (57, ⟨.slice 44, 1, [.slice none 0 0], 24⟩),
  (50, ⟨.struct [(0, 2), (1, 2), (2, 4), (3, 28)], 4, [.int .i64 0, .int .i64 0, .bool false, .slice none 0 0], 48⟩),
  (182, ⟨.ptr, 1, [.pointer none], 8⟩),
  (105, ⟨.struct [(0, 83), (1, 22), (2, 4), (3, 2)], 4, [.slice none 0 0, .slice none 0 0, .bool false, .int .i64 0], 64⟩),
  (68, ⟨.struct [(0, 66), (1, 4), (2, 2)], 3, [.slice none 0 0, .bool false, .int .i64 0], 40⟩),
  (82, ⟨.slice 172, 1, [.slice none 0 0], 24⟩),
  (103, ⟨.struct [(0, 2), (1, 2), (2, 2), (3, 2), (4, 2), (5, 2), (6, 2)], 7, [.int .i64 0, .int .i64 0, .int .i64 0, .int .i64 0, .int .i64 0, .int .i64 0, .int .i64 0], 56⟩),
  (172, ⟨.struct [(0, 2), (1, 2), (2, 2), (3, 4), (4, 22), (5, 2), (6, 103)], 13, [.int .i64 0, .int .i64 0, .int .i64 0, .bool false, .slice none 0 0, .int .i64 0, .int .i64 0, .int .i64 0, .int .i64 0, .int .i64 0, .int .i64 0, .int .i64 0, .int .i64 0], 120⟩),
  (208, ⟨.slice 9, 1, [.slice none 0 0], 24⟩),
  (66, ⟨.slice 197, 1, [.slice none 0 0], 24⟩),
  (192, ⟨.struct [(0, 22), (1, 2)], 2, [.slice none 0 0, .int .i64 0], 32⟩),
  (197, ⟨.struct [(0, 2), (1, 2)], 2, [.int .i64 0, .int .i64 0], 16⟩),
  (139, ⟨.func, 1, [.nilFunc], 8⟩),
  (166, ⟨.func, 1, [.nilFunc], 8⟩),
  (146, ⟨.ptr, 1, [.pointer none], 8⟩),
  (194, ⟨.int .u64, 1, [.int .u64 0], 8⟩),
  (8, ⟨.struct [(0, 2), (1, 3), (2, 4), (3, 6)], 4, [.int .i64 0, .int .i64 0, .bool false, .int .u8 0], 24⟩),
  (10, ⟨.str, 1, [.string .empty], 16⟩),
  (11, ⟨.str, 1, [.string .empty], 16⟩),
  (14, ⟨.struct [(0, 9), (1, 12)], 2, [.string .empty, .int .u64 0], 24⟩),
  (15, ⟨.ptr, 1, [.pointer none], 8⟩),
  (16, ⟨.ptr, 1, [.pointer none], 8⟩),
  (19, ⟨.struct [(0, 17)], 1, [.pointer none], 8⟩),
  (135, ⟨.ptr, 1, [.pointer none], 8⟩),
  (157, ⟨.ptr, 1, [.pointer none], 8⟩),
  (17, ⟨.ptr, 1, [.pointer none], 8⟩),
  (6, ⟨.int .u8, 1, [.int .u8 0], 1⟩),
  (12, ⟨.int .u64, 1, [.int .u64 0], 8⟩)]
noncomputable def CT : Cfg := ⟨Try.prog, tyOf tys, 0, [25], fun _ => true⟩
theorem tys_ok : tys.all (fun p => tyB Try.prog p.1 p.2) = true := by kernel_rfl
@[simp] theorem sz2 : (CT.ty 2).size = 1 := rfl
@[simp] theorem by2 : (CT.ty 2).bytes = 8 := rfl
@[simp] theorem ze2 : (CT.ty 2).zero = [.int .i64 0] := rfl
@[simp] theorem sz3 : (CT.ty 3).size = 1 := rfl
@[simp] theorem by3 : (CT.ty 3).bytes = 8 := rfl
@[simp] theorem ze3 : (CT.ty 3).zero = [.int .i64 0] := rfl
@[simp] theorem sz22 : (CT.ty 22).size = 1 := rfl
@[simp] theorem by22 : (CT.ty 22).bytes = 24 := rfl
@[simp] theorem ze22 : (CT.ty 22).zero = [.slice none 0 0] := rfl
@[simp] theorem sz28 : (CT.ty 28).size = 1 := rfl
@[simp] theorem by28 : (CT.ty 28).bytes = 24 := rfl
@[simp] theorem ze28 : (CT.ty 28).zero = [.slice none 0 0] := rfl
@[simp] theorem sz40 : (CT.ty 40).size = 4 := rfl
@[simp] theorem by40 : (CT.ty 40).bytes = 48 := rfl
@[simp] theorem ze40 : (CT.ty 40).zero = [.int .i64 0, .int .i64 0, .bool false, .slice none 0 0] := rfl
@[simp] theorem sz107 : (CT.ty 107).size = 4 := rfl
@[simp] theorem by107 : (CT.ty 107).bytes = 64 := rfl
@[simp] theorem ze107 : (CT.ty 107).zero = [.slice none 0 0, .slice none 0 0, .bool false, .int .i64 0] := rfl
@[simp] theorem sz25 : (CT.ty 25).size = 3 := rfl
@[simp] theorem by25 : (CT.ty 25).bytes = 24 := rfl
@[simp] theorem ze25 : (CT.ty 25).zero = [.int .i64 0, .int .i64 0, .int .i64 0] := rfl
@[simp] theorem sz111 : (CT.ty 111).size = 7 := rfl
@[simp] theorem by111 : (CT.ty 111).bytes = 56 := rfl
@[simp] theorem ze111 : (CT.ty 111).zero = [.int .i64 0, .int .i64 0, .int .i64 0, .int .i64 0, .int .i64 0, .int .i64 0, .int .i64 0] := rfl
@[simp] theorem sz83 : (CT.ty 83).size = 1 := rfl
@[simp] theorem by83 : (CT.ty 83).bytes = 24 := rfl
@[simp] theorem ze83 : (CT.ty 83).zero = [.slice none 0 0] := rfl
@[simp] theorem sz44 : (CT.ty 44).size = 5 := rfl
@[simp] theorem by44 : (CT.ty 44).bytes = 56 := rfl
@[simp] theorem ze44 : (CT.ty 44).zero = [.int .i64 0, .int .i64 0, .int .i64 0, .bool false, .slice none 0 0] := rfl
@[simp] theorem sz4 : (CT.ty 4).size = 1 := rfl
@[simp] theorem by4 : (CT.ty 4).bytes = 1 := rfl
@[simp] theorem ze4 : (CT.ty 4).zero = [.bool false] := rfl
@[simp] theorem sz5 : (CT.ty 5).size = 1 := rfl
@[simp] theorem by5 : (CT.ty 5).bytes = 1 := rfl
@[simp] theorem ze5 : (CT.ty 5).zero = [.int .u8 0] := rfl
@[simp] theorem sz174 : (CT.ty 174).size = 13 := rfl
@[simp] theorem by174 : (CT.ty 174).bytes = 120 := rfl
@[simp] theorem ze174 : (CT.ty 174).zero = [.int .i64 0, .int .i64 0, .int .i64 0, .bool false, .slice none 0 0, .int .i64 0, .int .i64 0, .int .i64 0, .int .i64 0, .int .i64 0, .int .i64 0, .int .i64 0, .int .i64 0] := rfl
@[simp] theorem sz87 : (CT.ty 87).size = 1 := rfl
@[simp] theorem by87 : (CT.ty 87).bytes = 24 := rfl
@[simp] theorem ze87 : (CT.ty 87).zero = [.slice none 0 0] := rfl
@[simp] theorem sz72 : (CT.ty 72).size = 3 := rfl
@[simp] theorem by72 : (CT.ty 72).bytes = 40 := rfl
@[simp] theorem ze72 : (CT.ty 72).zero = [.slice none 0 0, .bool false, .int .i64 0] := rfl
@[simp] theorem sz109 : (CT.ty 109).size = 8 := rfl
@[simp] theorem by109 : (CT.ty 109).bytes = 128 := rfl
@[simp] theorem ze109 : (CT.ty 109).zero = [.int .i64 0, .bool false, .slice none 0 0, .slice none 0 0, .slice none 0 0, .slice none 0 0, .bool false, .int .i64 0] := rfl
@[simp] theorem sz70 : (CT.ty 70).size = 1 := rfl
@[simp] theorem by70 : (CT.ty 70).bytes = 24 := rfl
@[simp] theorem ze70 : (CT.ty 70).zero = [.slice none 0 0] := rfl
@[simp] theorem sz46 : (CT.ty 46).size = 10 := rfl
@[simp] theorem by46 : (CT.ty 46).bytes = 112 := rfl
@[simp] theorem ze46 : (CT.ty 46).zero = [.int .i64 0, .int .i64 0, .int .i64 0, .int .i64 0, .bool false, .slice none 0 0, .int .i64 0, .int .i64 0, .bool false, .slice none 0 0] := rfl
@[simp] theorem sz124 : (CT.ty 124).size = 1 := rfl
@[simp] theorem by124 : (CT.ty 124).bytes = 8 := rfl
@[simp] theorem ze124 : (CT.ty 124).zero = [.pointer none] := rfl
@[simp] theorem sz35 : (CT.ty 35).size = 2 := rfl
@[simp] theorem by35 : (CT.ty 35).bytes = 32 := rfl
@[simp] theorem ze35 : (CT.ty 35).zero = [.int .i64 0, .slice none 0 0] := rfl
@[simp] theorem sz59 : (CT.ty 59).size = 6 := rfl
@[simp] theorem by59 : (CT.ty 59).bytes = 80 := rfl
@[simp] theorem ze59 : (CT.ty 59).zero = [.int .i64 0, .slice none 0 0, .int .i64 0, .int .i64 0, .bool false, .slice none 0 0] := rfl
@[simp] theorem sz74 : (CT.ty 74).size = 6 := rfl
@[simp] theorem by74 : (CT.ty 74).bytes = 80 := rfl
@[simp] theorem ze74 : (CT.ty 74).zero = [.int .i64 0, .slice none 0 0, .int .i64 0, .slice none 0 0, .bool false, .int .i64 0] := rfl
@[simp] theorem sz165 : (CT.ty 165).size = 2 := rfl
@[simp] theorem by165 : (CT.ty 165).bytes = 16 := rfl
@[simp] theorem ze165 : (CT.ty 165).zero = [.int .i64 0, .int .i64 0] := rfl
@[simp] theorem sz97 : (CT.ty 97).size = 2 := rfl
@[simp] theorem by97 : (CT.ty 97).bytes = 32 := rfl
@[simp] theorem ze97 : (CT.ty 97).zero = [.int .i64 0, .slice none 0 0] := rfl
@[simp] theorem sz9 : (CT.ty 9).size = 1 := rfl
@[simp] theorem by9 : (CT.ty 9).bytes = 16 := rfl
@[simp] theorem ze9 : (CT.ty 9).zero = [.string .empty] := rfl
@[simp] theorem sz181 : (CT.ty 181).size = 1 := rfl
@[simp] theorem by181 : (CT.ty 181).bytes = 8 := rfl
@[simp] theorem ze181 : (CT.ty 181).zero = [.pointer none] := rfl
@[simp] theorem sz30 : (CT.ty 30).size = 5 := rfl
@[simp] theorem by30 : (CT.ty 30).bytes = 56 := rfl
@[simp] theorem ze30 : (CT.ty 30).zero = [.int .i64 0, .slice none 0 0, .int .i64 0, .int .i64 0, .int .i64 0] := rfl
@[simp] theorem sz57 : (CT.ty 57).size = 1 := rfl
@[simp] theorem by57 : (CT.ty 57).bytes = 24 := rfl
@[simp] theorem ze57 : (CT.ty 57).zero = [.slice none 0 0] := rfl
@[simp] theorem sz50 : (CT.ty 50).size = 4 := rfl
@[simp] theorem by50 : (CT.ty 50).bytes = 48 := rfl
@[simp] theorem ze50 : (CT.ty 50).zero = [.int .i64 0, .int .i64 0, .bool false, .slice none 0 0] := rfl
@[simp] theorem sz182 : (CT.ty 182).size = 1 := rfl
@[simp] theorem by182 : (CT.ty 182).bytes = 8 := rfl
@[simp] theorem ze182 : (CT.ty 182).zero = [.pointer none] := rfl
@[simp] theorem sz105 : (CT.ty 105).size = 4 := rfl
@[simp] theorem by105 : (CT.ty 105).bytes = 64 := rfl
@[simp] theorem ze105 : (CT.ty 105).zero = [.slice none 0 0, .slice none 0 0, .bool false, .int .i64 0] := rfl
@[simp] theorem sz68 : (CT.ty 68).size = 3 := rfl
@[simp] theorem by68 : (CT.ty 68).bytes = 40 := rfl
@[simp] theorem ze68 : (CT.ty 68).zero = [.slice none 0 0, .bool false, .int .i64 0] := rfl
@[simp] theorem sz82 : (CT.ty 82).size = 1 := rfl
@[simp] theorem by82 : (CT.ty 82).bytes = 24 := rfl
@[simp] theorem ze82 : (CT.ty 82).zero = [.slice none 0 0] := rfl
@[simp] theorem sz103 : (CT.ty 103).size = 7 := rfl
@[simp] theorem by103 : (CT.ty 103).bytes = 56 := rfl
@[simp] theorem ze103 : (CT.ty 103).zero = [.int .i64 0, .int .i64 0, .int .i64 0, .int .i64 0, .int .i64 0, .int .i64 0, .int .i64 0] := rfl
@[simp] theorem sz172 : (CT.ty 172).size = 13 := rfl
@[simp] theorem by172 : (CT.ty 172).bytes = 120 := rfl
@[simp] theorem ze172 : (CT.ty 172).zero = [.int .i64 0, .int .i64 0, .int .i64 0, .bool false, .slice none 0 0, .int .i64 0, .int .i64 0, .int .i64 0, .int .i64 0, .int .i64 0, .int .i64 0, .int .i64 0, .int .i64 0] := rfl
@[simp] theorem sz208 : (CT.ty 208).size = 1 := rfl
@[simp] theorem by208 : (CT.ty 208).bytes = 24 := rfl
@[simp] theorem ze208 : (CT.ty 208).zero = [.slice none 0 0] := rfl
@[simp] theorem sz66 : (CT.ty 66).size = 1 := rfl
@[simp] theorem by66 : (CT.ty 66).bytes = 24 := rfl
@[simp] theorem ze66 : (CT.ty 66).zero = [.slice none 0 0] := rfl
@[simp] theorem sz192 : (CT.ty 192).size = 2 := rfl
@[simp] theorem by192 : (CT.ty 192).bytes = 32 := rfl
@[simp] theorem ze192 : (CT.ty 192).zero = [.slice none 0 0, .int .i64 0] := rfl
@[simp] theorem sz197 : (CT.ty 197).size = 2 := rfl
@[simp] theorem by197 : (CT.ty 197).bytes = 16 := rfl
@[simp] theorem ze197 : (CT.ty 197).zero = [.int .i64 0, .int .i64 0] := rfl
@[simp] theorem sz139 : (CT.ty 139).size = 1 := rfl
@[simp] theorem by139 : (CT.ty 139).bytes = 8 := rfl
@[simp] theorem ze139 : (CT.ty 139).zero = [.nilFunc] := rfl
@[simp] theorem sz166 : (CT.ty 166).size = 1 := rfl
@[simp] theorem by166 : (CT.ty 166).bytes = 8 := rfl
@[simp] theorem ze166 : (CT.ty 166).zero = [.nilFunc] := rfl
@[simp] theorem sz146 : (CT.ty 146).size = 1 := rfl
@[simp] theorem by146 : (CT.ty 146).bytes = 8 := rfl
@[simp] theorem ze146 : (CT.ty 146).zero = [.pointer none] := rfl
@[simp] theorem sz194 : (CT.ty 194).size = 1 := rfl
@[simp] theorem by194 : (CT.ty 194).bytes = 8 := rfl
@[simp] theorem ze194 : (CT.ty 194).zero = [.int .u64 0] := rfl
@[simp] theorem sz8 : (CT.ty 8).size = 4 := rfl
@[simp] theorem by8 : (CT.ty 8).bytes = 24 := rfl
@[simp] theorem ze8 : (CT.ty 8).zero = [.int .i64 0, .int .i64 0, .bool false, .int .u8 0] := rfl
@[simp] theorem sz10 : (CT.ty 10).size = 1 := rfl
@[simp] theorem by10 : (CT.ty 10).bytes = 16 := rfl
@[simp] theorem ze10 : (CT.ty 10).zero = [.string .empty] := rfl
@[simp] theorem sz11 : (CT.ty 11).size = 1 := rfl
@[simp] theorem by11 : (CT.ty 11).bytes = 16 := rfl
@[simp] theorem ze11 : (CT.ty 11).zero = [.string .empty] := rfl
@[simp] theorem sz14 : (CT.ty 14).size = 2 := rfl
@[simp] theorem by14 : (CT.ty 14).bytes = 24 := rfl
@[simp] theorem ze14 : (CT.ty 14).zero = [.string .empty, .int .u64 0] := rfl
@[simp] theorem sz15 : (CT.ty 15).size = 1 := rfl
@[simp] theorem by15 : (CT.ty 15).bytes = 8 := rfl
@[simp] theorem ze15 : (CT.ty 15).zero = [.pointer none] := rfl
@[simp] theorem sz16 : (CT.ty 16).size = 1 := rfl
@[simp] theorem by16 : (CT.ty 16).bytes = 8 := rfl
@[simp] theorem ze16 : (CT.ty 16).zero = [.pointer none] := rfl
@[simp] theorem sz19 : (CT.ty 19).size = 1 := rfl
@[simp] theorem by19 : (CT.ty 19).bytes = 8 := rfl
@[simp] theorem ze19 : (CT.ty 19).zero = [.pointer none] := rfl
@[simp] theorem sz135 : (CT.ty 135).size = 1 := rfl
@[simp] theorem by135 : (CT.ty 135).bytes = 8 := rfl
@[simp] theorem ze135 : (CT.ty 135).zero = [.pointer none] := rfl
@[simp] theorem sz157 : (CT.ty 157).size = 1 := rfl
@[simp] theorem by157 : (CT.ty 157).bytes = 8 := rfl
@[simp] theorem ze157 : (CT.ty 157).zero = [.pointer none] := rfl
@[simp] theorem sz17 : (CT.ty 17).size = 1 := rfl
@[simp] theorem by17 : (CT.ty 17).bytes = 8 := rfl
@[simp] theorem ze17 : (CT.ty 17).zero = [.pointer none] := rfl
@[simp] theorem sz6 : (CT.ty 6).size = 1 := rfl
@[simp] theorem by6 : (CT.ty 6).bytes = 1 := rfl
@[simp] theorem ze6 : (CT.ty 6).zero = [.int .u8 0] := rfl
@[simp] theorem sz12 : (CT.ty 12).size = 1 := rfl
@[simp] theorem by12 : (CT.ty 12).bytes = 8 := rfl
@[simp] theorem ze12 : (CT.ty 12).zero = [.int .u64 0] := rfl
theorem CT_ok : CfgOK CT where
  ty := tyOf_fits tys_ok
  mixed := by kernel_rfl
  eqs := eqs_ok (tyOf_fits tys_ok) (by kernel_rfl)
end Go.Ab

