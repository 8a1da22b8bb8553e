/- The types of the seat, as a table that is checked against the program. -/
import Derived.Test.YtkoahogalplhhaaAbD
import Derived.Test.YtkoahogalplhhaaFB
import Derived.KernelRfl
import Derived.Test.YtkoahogalplhhaaProg
set_option linter.unusedVariables false
set_option linter.unusedSimpArgs false
namespace Go.Ab
open Go.Proofs
def tys : List (Nat × TI) := [
  (2, ⟨.int .i64, 1, [.int .i64 0], 8⟩),
  (22, ⟨.slice 5, 1, [.slice none 0 0], 24⟩),
  (3, ⟨.int .i64, 1, [.int .i64 0], 8⟩),
  (45, ⟨.struct [(0, 2), (1, 2), (2, 2), (3, 2), (4, 2), (5, 2), (6, 2)], 7, [.int .i64 0, .int .i64 0, .int .i64 0, .int .i64 0, .int .i64 0, .int .i64 0, .int .i64 0], 56⟩),
  (64, ⟨.struct [(0, 2), (1, 2), (2, 2)], 3, [.int .i64 0, .int .i64 0, .int .i64 0], 24⟩),
  (35, ⟨.struct [(0, 30), (1, 22), (2, 4), (3, 2)], 4, [.slice none 0 0, .slice none 0 0, .bool false, .int .i64 0], 64⟩),
  (5, ⟨.int .u8, 1, [.int .u8 0], 1⟩),
  (43, ⟨.struct [(0, 2), (1, 22)], 2, [.int .i64 0, .slice none 0 0], 32⟩),
  (63, ⟨.slice 2, 1, [.slice none 0 0], 24⟩),
  (66, ⟨.struct [(0, 2), (1, 63), (2, 64)], 5, [.int .i64 0, .slice none 0 0, .int .i64 0, .int .i64 0, .int .i64 0], 56⟩),
  (30, ⟨.slice 22, 1, [.slice none 0 0], 24⟩),
  (4, ⟨.bool, 1, [.bool false], 1⟩),
  (56, ⟨.struct [(0, 2), (1, 2), (2, 2), (3, 4), (4, 22), (5, 2), (6, 45)], 13, [.int .i64 0, .int .i64 0, .int .i64 0, .bool false, .slice none 0 0, .int .i64 0, .int .i64 0, .int .i64 0, .int .i64 0, .int .i64 0, .int .i64 0, .int .i64 0, .int .i64 0], 120⟩),
  (24, ⟨.struct [(0, 2), (1, 2)], 2, [.int .i64 0, .int .i64 0], 16⟩),
  (146, ⟨.struct [(0, 45), (7, 35), (11, 22)], 12, [.int .i64 0, .int .i64 0, .int .i64 0, .int .i64 0, .int .i64 0, .int .i64 0, .int .i64 0, .slice none 0 0, .slice none 0 0, .bool false, .int .i64 0, .slice none 0 0], 144⟩),
  (32, ⟨.struct [(0, 30), (1, 22), (2, 4), (3, 2)], 4, [.slice none 0 0, .slice none 0 0, .bool false, .int .i64 0], 64⟩),
  (91, ⟨.struct [(0, 2), (1, 4), (2, 22), (3, 22), (4, 35)], 8, [.int .i64 0, .bool false, .slice none 0 0, .slice none 0 0, .slice none 0 0, .slice none 0 0, .bool false, .int .i64 0], 128⟩),
  (123, ⟨.ptr, 1, [.pointer none], 8⟩),
  (149, ⟨.ptr, 1, [.pointer none], 8⟩),
  (41, ⟨.struct [(0, 2), (1, 2), (2, 2), (3, 2), (4, 2), (5, 2), (6, 2)], 7, [.int .i64 0, .int .i64 0, .int .i64 0, .int .i64 0, .int .i64 0, .int .i64 0, .int .i64 0], 56⟩),
  (52, ⟨.struct [(0, 2), (1, 2), (2, 2), (3, 4), (4, 22), (5, 2), (6, 41)], 13, [.int .i64 0, .int .i64 0, .int .i64 0, .bool false, .slice none 0 0, .int .i64 0, .int .i64 0, .int .i64 0, .int .i64 0, .int .i64 0, .int .i64 0, .int .i64 0, .int .i64 0], 120⟩),
  (83, ⟨.struct [(0, 2), (1, 63)], 2, [.int .i64 0, .slice none 0 0], 32⟩),
  (62, ⟨.struct [(0, 2), (1, 2), (2, 2)], 3, [.int .i64 0, .int .i64 0, .int .i64 0], 24⟩),
  (9, ⟨.str, 1, [.string .empty], 16⟩),
  (108, ⟨.ptr, 1, [.pointer none], 8⟩),
  (98, ⟨.ptr, 1, [.pointer none], 8⟩),
  (141, ⟨.struct [(0, 22), (1, 2)], 2, [.slice none 0 0, .int .i64 0], 32⟩),
  (87, ⟨.struct [(0, 2), (1, 45)], 8, [.int .i64 0, .int .i64 0, .int .i64 0, .int .i64 0, .int .i64 0, .int .i64 0, .int .i64 0, .int .i64 0], 64⟩),
  (112, ⟨.ptr, 1, [.pointer none], 8⟩),
  (117, ⟨.ptr, 1, [.pointer none], 8⟩),
  (152, ⟨.func, 1, [.nilFunc], 8⟩),
  (144, ⟨.int .u64, 1, [.int .u64 0], 8⟩),
  (8, ⟨.struct [(0, 2), (1, 3), (2, 4), (3, 6)], 4, [.int .i64 0, .int .i64 0, .bool false, .int .u8 0], 24⟩),
  (10, ⟨.str, 1, [.string .empty], 16⟩),
  (11, ⟨.str, 1, [.string .empty], 16⟩),
  (14, ⟨.struct [(0, 9), (1, 12)], 2, [.string .empty, .int .u64 0], 24⟩),
  (15, ⟨.ptr, 1, [.pointer none], 8⟩),
  (16, ⟨.ptr, 1, [.pointer none], 8⟩),
  (19, ⟨.struct [(0, 17)], 1, [.pointer none], 8⟩),
  (28, ⟨.func, 1, [.nilFunc], 8⟩),
  (17, ⟨.ptr, 1, [.pointer none], 8⟩),
  (6, ⟨.int .u8, 1, [.int .u8 0], 1⟩),
  (12, ⟨.int .u64, 1, [.int .u64 0], 8⟩)]
noncomputable def CT : Cfg := ⟨Try.prog, tyOf tys, 0, [45, 64], fun _ => true⟩
theorem tys_ok : tys.all (fun p => tyB Try.prog p.1 p.2) = true := by kernel_rfl
@[simp] theorem sz2 : (CT.ty 2).size = 1 := rfl
@[simp] theorem by2 : (CT.ty 2).bytes = 8 := rfl
@[simp] theorem ze2 : (CT.ty 2).zero = [.int .i64 0] := rfl
@[simp] theorem sz22 : (CT.ty 22).size = 1 := rfl
@[simp] theorem by22 : (CT.ty 22).bytes = 24 := rfl
@[simp] theorem ze22 : (CT.ty 22).zero = [.slice none 0 0] := rfl
@[simp] theorem sz3 : (CT.ty 3).size = 1 := rfl
@[simp] theorem by3 : (CT.ty 3).bytes = 8 := rfl
@[simp] theorem ze3 : (CT.ty 3).zero = [.int .i64 0] := rfl
@[simp] theorem sz45 : (CT.ty 45).size = 7 := rfl
@[simp] theorem by45 : (CT.ty 45).bytes = 56 := rfl
@[simp] theorem ze45 : (CT.ty 45).zero = [.int .i64 0, .int .i64 0, .int .i64 0, .int .i64 0, .int .i64 0, .int .i64 0, .int .i64 0] := rfl
@[simp] theorem sz64 : (CT.ty 64).size = 3 := rfl
@[simp] theorem by64 : (CT.ty 64).bytes = 24 := rfl
@[simp] theorem ze64 : (CT.ty 64).zero = [.int .i64 0, .int .i64 0, .int .i64 0] := rfl
@[simp] theorem sz35 : (CT.ty 35).size = 4 := rfl
@[simp] theorem by35 : (CT.ty 35).bytes = 64 := rfl
@[simp] theorem ze35 : (CT.ty 35).zero = [.slice none 0 0, .slice none 0 0, .bool false, .int .i64 0] := rfl
@[simp] theorem sz5 : (CT.ty 5).size = 1 := rfl
@[simp] theorem by5 : (CT.ty 5).bytes = 1 := rfl
@[simp] theorem ze5 : (CT.ty 5).zero = [.int .u8 0] := rfl
@[simp] theorem sz43 : (CT.ty 43).size = 2 := rfl
@[simp] theorem by43 : (CT.ty 43).bytes = 32 := rfl
@[simp] theorem ze43 : (CT.ty 43).zero = [.int .i64 0, .slice none 0 0] := rfl
@[simp] theorem sz63 : (CT.ty 63).size = 1 := rfl
@[simp] theorem by63 : (CT.ty 63).bytes = 24 := rfl
@[simp] theorem ze63 : (CT.ty 63).zero = [.slice none 0 0] := rfl
@[simp] theorem sz66 : (CT.ty 66).size = 5 := rfl
@[simp] theorem by66 : (CT.ty 66).bytes = 56 := rfl
@[simp] theorem ze66 : (CT.ty 66).zero = [.int .i64 0, .slice none 0 0, .int .i64 0, .int .i64 0, .int .i64 0] := rfl
@[simp] theorem sz30 : (CT.ty 30).size = 1 := rfl
@[simp] theorem by30 : (CT.ty 30).bytes = 24 := rfl
@[simp] theorem ze30 : (CT.ty 30).zero = [.slice none 0 0] := rfl
@[simp] theorem sz4 : (CT.ty 4).size = 1 := rfl
@[simp] theorem by4 : (CT.ty 4).bytes = 1 := rfl
@[simp] theorem ze4 : (CT.ty 4).zero = [.bool false] := rfl
@[simp] theorem sz56 : (CT.ty 56).size = 13 := rfl
@[simp] theorem by56 : (CT.ty 56).bytes = 120 := rfl
@[simp] theorem ze56 : (CT.ty 56).zero = [.int .i64 0, .int .i64 0, .int .i64 0, .bool false, .slice none 0 0, .int .i64 0, .int .i64 0, .int .i64 0, .int .i64 0, .int .i64 0, .int .i64 0, .int .i64 0, .int .i64 0] := rfl
@[simp] theorem sz24 : (CT.ty 24).size = 2 := rfl
@[simp] theorem by24 : (CT.ty 24).bytes = 16 := rfl
@[simp] theorem ze24 : (CT.ty 24).zero = [.int .i64 0, .int .i64 0] := rfl
@[simp] theorem sz146 : (CT.ty 146).size = 12 := rfl
@[simp] theorem by146 : (CT.ty 146).bytes = 144 := rfl
@[simp] theorem ze146 : (CT.ty 146).zero = [.int .i64 0, .int .i64 0, .int .i64 0, .int .i64 0, .int .i64 0, .int .i64 0, .int .i64 0, .slice none 0 0, .slice none 0 0, .bool false, .int .i64 0, .slice none 0 0] := rfl
@[simp] theorem sz32 : (CT.ty 32).size = 4 := rfl
@[simp] theorem by32 : (CT.ty 32).bytes = 64 := rfl
@[simp] theorem ze32 : (CT.ty 32).zero = [.slice none 0 0, .slice none 0 0, .bool false, .int .i64 0] := rfl
@[simp] theorem sz91 : (CT.ty 91).size = 8 := rfl
@[simp] theorem by91 : (CT.ty 91).bytes = 128 := rfl
@[simp] theorem ze91 : (CT.ty 91).zero = [.int .i64 0, .bool false, .slice none 0 0, .slice none 0 0, .slice none 0 0, .slice none 0 0, .bool false, .int .i64 0] := rfl
@[simp] theorem sz123 : (CT.ty 123).size = 1 := rfl
@[simp] theorem by123 : (CT.ty 123).bytes = 8 := rfl
@[simp] theorem ze123 : (CT.ty 123).zero = [.pointer none] := rfl
@[simp] theorem sz149 : (CT.ty 149).size = 1 := rfl
@[simp] theorem by149 : (CT.ty 149).bytes = 8 := rfl
@[simp] theorem ze149 : (CT.ty 149).zero = [.pointer none] := rfl
@[simp] theorem sz41 : (CT.ty 41).size = 7 := rfl
@[simp] theorem by41 : (CT.ty 41).bytes = 56 := rfl
@[simp] theorem ze41 : (CT.ty 41).zero = [.int .i64 0, .int .i64 0, .int .i64 0, .int .i64 0, .int .i64 0, .int .i64 0, .int .i64 0] := rfl
@[simp] theorem sz52 : (CT.ty 52).size = 13 := rfl
@[simp] theorem by52 : (CT.ty 52).bytes = 120 := rfl
@[simp] theorem ze52 : (CT.ty 52).zero = [.int .i64 0, .int .i64 0, .int .i64 0, .bool false, .slice none 0 0, .int .i64 0, .int .i64 0, .int .i64 0, .int .i64 0, .int .i64 0, .int .i64 0, .int .i64 0, .int .i64 0] := rfl
@[simp] theorem sz83 : (CT.ty 83).size = 2 := rfl
@[simp] theorem by83 : (CT.ty 83).bytes = 32 := rfl
@[simp] theorem ze83 : (CT.ty 83).zero = [.int .i64 0, .slice none 0 0] := rfl
@[simp] theorem sz62 : (CT.ty 62).size = 3 := rfl
@[simp] theorem by62 : (CT.ty 62).bytes = 24 := rfl
@[simp] theorem ze62 : (CT.ty 62).zero = [.int .i64 0, .int .i64 0, .int .i64 0] := rfl
@[simp] theorem sz9 : (CT.ty 9).size = 1 := rfl
@[simp] theorem by9 : (CT.ty 9).bytes = 16 := rfl
@[simp] theorem ze9 : (CT.ty 9).zero = [.string .empty] := rfl
@[simp] theorem sz108 : (CT.ty 108).size = 1 := rfl
@[simp] theorem by108 : (CT.ty 108).bytes = 8 := rfl
@[simp] theorem ze108 : (CT.ty 108).zero = [.pointer none] := rfl
@[simp] theorem sz98 : (CT.ty 98).size = 1 := rfl
@[simp] theorem by98 : (CT.ty 98).bytes = 8 := rfl
@[simp] theorem ze98 : (CT.ty 98).zero = [.pointer none] := rfl
@[simp] theorem sz141 : (CT.ty 141).size = 2 := rfl
@[simp] theorem by141 : (CT.ty 141).bytes = 32 := rfl
@[simp] theorem ze141 : (CT.ty 141).zero = [.slice none 0 0, .int .i64 0] := rfl
@[simp] theorem sz87 : (CT.ty 87).size = 8 := rfl
@[simp] theorem by87 : (CT.ty 87).bytes = 64 := rfl
@[simp] theorem ze87 : (CT.ty 87).zero = [.int .i64 0, .int .i64 0, .int .i64 0, .int .i64 0, .int .i64 0, .int .i64 0, .int .i64 0, .int .i64 0] := rfl
@[simp] theorem sz112 : (CT.ty 112).size = 1 := rfl
@[simp] theorem by112 : (CT.ty 112).bytes = 8 := rfl
@[simp] theorem ze112 : (CT.ty 112).zero = [.pointer none] := rfl
@[simp] theorem sz117 : (CT.ty 117).size = 1 := rfl
@[simp] theorem by117 : (CT.ty 117).bytes = 8 := rfl
@[simp] theorem ze117 : (CT.ty 117).zero = [.pointer none] := rfl
@[simp] theorem sz152 : (CT.ty 152).size = 1 := rfl
@[simp] theorem by152 : (CT.ty 152).bytes = 8 := rfl
@[simp] theorem ze152 : (CT.ty 152).zero = [.nilFunc] := rfl
@[simp] theorem sz144 : (CT.ty 144).size = 1 := rfl
@[simp] theorem by144 : (CT.ty 144).bytes = 8 := rfl
@[simp] theorem ze144 : (CT.ty 144).zero = [.int .u64 0] := rfl
@[simp] theorem sz8 : (CT.ty 8).size = 4 := rfl
@[simp] theorem by8 : (CT.ty 8).bytes = 24 := rfl
@[simp] theorem ze8 : (CT.ty 8).zero = [.int .i64 0, .int .i64 0, .bool false, .int .u8 0] := rfl
@[simp] theorem sz10 : (CT.ty 10).size = 1 := rfl
@[simp] theorem by10 : (CT.ty 10).bytes = 16 := rfl
@[simp] theorem ze10 : (CT.ty 10).zero = [.string .empty] := rfl
@[simp] theorem sz11 : (CT.ty 11).size = 1 := rfl
@[simp] theorem by11 : (CT.ty 11).bytes = 16 := rfl
@[simp] theorem ze11 : (CT.ty 11).zero = [.string .empty] := rfl
@[simp] theorem sz14 : (CT.ty 14).size = 2 := rfl
@[simp] theorem by14 : (CT.ty 14).bytes = 24 := rfl
@[simp] theorem ze14 : (CT.ty 14).zero = [.string .empty, .int .u64 0] := rfl
@[simp] theorem sz15 : (CT.ty 15).size = 1 := rfl
@[simp] theorem by15 : (CT.ty 15).bytes = 8 := rfl
@[simp] theorem ze15 : (CT.ty 15).zero = [.pointer none] := rfl
@[simp] theorem sz16 : (CT.ty 16).size = 1 := rfl
@[simp] theorem by16 : (CT.ty 16).bytes = 8 := rfl
@[simp] theorem ze16 : (CT.ty 16).zero = [.pointer none] := rfl
@[simp] theorem sz19 : (CT.ty 19).size = 1 := rfl
@[simp] theorem by19 : (CT.ty 19).bytes = 8 := rfl
@[simp] theorem ze19 : (CT.ty 19).zero = [.pointer none] := rfl
@[simp] theorem sz28 : (CT.ty 28).size = 1 := rfl
@[simp] theorem by28 : (CT.ty 28).bytes = 8 := rfl
@[simp] theorem ze28 : (CT.ty 28).zero = [.nilFunc] := rfl
@[simp] theorem sz17 : (CT.ty 17).size = 1 := rfl
@[simp] theorem by17 : (CT.ty 17).bytes = 8 := rfl
@[simp] theorem ze17 : (CT.ty 17).zero = [.pointer none] := rfl
@[simp] theorem sz6 : (CT.ty 6).size = 1 := rfl
@[simp] theorem by6 : (CT.ty 6).bytes = 1 := rfl
@[simp] theorem ze6 : (CT.ty 6).zero = [.int .u8 0] := rfl
@[simp] theorem sz12 : (CT.ty 12).size = 1 := rfl
@[simp] theorem by12 : (CT.ty 12).bytes = 8 := rfl
@[simp] theorem ze12 : (CT.ty 12).zero = [.int .u64 0] := rfl
theorem CT_ok : CfgOK CT where
  ty := tyOf_fits tys_ok
  mixed := by kernel_rfl
  eqs := eqs_ok (tyOf_fits tys_ok) (by kernel_rfl)
end Go.Ab

