/- What the functions of the program answer, for all arguments that the theorems name as conditions. -/
import Derived.Test.YtelkckbbelillaaS5N1
namespace Go.Ab
open Go.Proofs
set_option linter.unusedSimpArgs false
set_option linter.unusedVariables false
set_option maxHeartbeats 4000000
set_option maxRecDepth 1000000

/-! ## A new console, without the question whether a box stayed -/
noncomputable def Y_impl_newConsole : List Value → Mem → Option VM
  | [t0, t1], m =>
    (alX m [.int .i64 0, .int .i64 0, .int .i64 0, .int .i64 0, .int .i64 0, .bool false, .slice none 0 0, .int .i64 0, .int .i64 0, .slice none 0 0, .slice none 0 0, .int .i64 0, .int .i64 0, .bool false, .int .i64 0, .int .i64 0, .int .i64 0, .bool false, .bool false, .bool false, .slice none 0 0, .int .i64 0, .int .i64 0, .int .i64 0, .slice none 0 0, .int .i64 0, .int .i64 0, .int .i64 0, .int .i64 0, .int .i64 0, .int .i64 0, .int .i64 0, .int .i64 0, .int .i64 0, .slice none 0 0, .slice none 0 0, .bool false, .int .i64 0]) |> bo fun r1 =>
    ((fcall Y_impl_newScreen) [t0, t1] r1.2) |> bo fun r2 =>
    (bldX [.int .i64 0, .int .i64 0, .int .i64 0, .int .i64 0, .int .i64 0, .bool false, .slice none 0 0, .int .i64 0, .int .i64 0, .slice none 0 0, .slice none 0 0, .int .i64 0, .int .i64 0, .bool false, .int .i64 0, .int .i64 0, .int .i64 0, .bool false, .bool false, .bool false, .slice none 0 0, .int .i64 0, .int .i64 0, .int .i64 0, .slice none 0 0, .int .i64 0, .int .i64 0] [(7, 20, r2.1)]) |> bo fun t8 =>
    (C_impl_usual [(.int .i64 511)] r2.2) |> bo fun r4 =>
    (bldX [.int .i64 0, .int .i64 0, .int .i64 0, .int .i64 0, .int .i64 0, .bool false, .slice none 0 0, .int .i64 0, .int .i64 0, .slice none 0 0, .slice none 0 0, .int .i64 0, .int .i64 0, .bool false, .int .i64 0, .int .i64 0, .int .i64 0, .bool false, .bool false, .bool false, .slice none 0 0, .int .i64 0, .int .i64 0, .int .i64 0, .slice none 0 0, .int .i64 0, .int .i64 0, .int .i64 0, .int .i64 0, .int .i64 0, .int .i64 0, .int .i64 0, .int .i64 0, .int .i64 0, .slice none 0 0, .slice none 0 0, .bool false, .int .i64 0] [(0, 27, t8), (27, 7, r4.1)]) |> bo fun t10 =>
    (stX r4.2 38 r1.1 t10) |> bo fun m6 =>
    (resP (some 38) m6 r1.1) |> bo fun c7 =>
    retK m.length m6 [t0, t1] c7
  | _, _ => none
theorem y_impl_newConsole : C_impl_newConsole = fcall Y_impl_newConsole := by
  rw [c_impl_newConsole]
  refine congrArg fcall (funext fun vs => funext fun m => ?_)
  match vs with
  | [t0, t1] =>
    simp only [X_impl_newConsole, Y_impl_newConsole, y_impl_newScreen]
  | [] => rfl
  | [_] => rfl
  | _ :: _ :: _ :: _ => rfl
noncomputable def Y_impl_NewMux : List Value → Mem → Option VM
  | [t0, t1], m =>
    (alX m [.int .i64 0, .bool false, .slice none 0 0, .slice none 0 0, .slice none 0 0, .int .i64 0, .int .i64 0, .int .i64 0, .slice none 0 0, .slice none 0 0, .slice none 0 0, .bool false, .int .i64 0]) |> bo fun r1 =>
    (C_impl_sizeOk [t0, t1] r1.2) |> bo fun r2 =>
    (uop .not r2.1) |> bo fun t8 =>
    brX t8
      (
        (bldX [.int .i64 0, .bool false, .slice none 0 0, .slice none 0 0, .slice none 0 0, .int .i64 0, .int .i64 0, .int .i64 0, .slice none 0 0, .slice none 0 0, .slice none 0 0, .bool false, .int .i64 0] [(0, 1, (.int .i64 3))]) |> bo fun t9 =>
        (stX r2.2 13 r1.1 t9) |> bo fun m5 =>
        (resP (some 13) m5 r1.1) |> bo fun c6 =>
        retK m.length m5 [t0, t1] c6)
      (
        ((fcall Y_impl_newConsole) [t0, t1] r2.2) |> bo fun r7 =>
        (bslX r7.2 1 38 [.int .i64 0, .int .i64 0, .int .i64 0, .int .i64 0, .int .i64 0, .bool false, .slice none 0 0, .int .i64 0, .int .i64 0, .slice none 0 0, .slice none 0 0, .int .i64 0, .int .i64 0, .bool false, .int .i64 0, .int .i64 0, .int .i64 0, .bool false, .bool false, .bool false, .slice none 0 0, .int .i64 0, .int .i64 0, .int .i64 0, .slice none 0 0, .int .i64 0, .int .i64 0, .int .i64 0, .int .i64 0, .int .i64 0, .int .i64 0, .int .i64 0, .int .i64 0, .int .i64 0, .slice none 0 0, .slice none 0 0, .bool false, .int .i64 0] [(0, 38, r7.1)]) |> bo fun r8 =>
        (bslX r8.2 1 1 [.bool false] [(0, 1, (.bool false))]) |> bo fun r9 =>
        (bldX [.slice none 0 0, .slice none 0 0, .int .i64 0, .int .i64 0, .int .i64 0, .slice none 0 0, .slice none 0 0, .slice none 0 0, .bool false, .int .i64 0] [(0, 1, r8.1), (1, 1, r9.1)]) |> bo fun t15 =>
        (bldX [.int .i64 0, .bool false, .slice none 0 0, .slice none 0 0, .slice none 0 0, .int .i64 0, .int .i64 0, .int .i64 0, .slice none 0 0, .slice none 0 0, .slice none 0 0, .bool false, .int .i64 0] [(3, 10, t15)]) |> bo fun t16 =>
        (stX r9.2 13 r1.1 t16) |> bo fun m12 =>
        (resP (some 13) m12 r1.1) |> bo fun c13 =>
        retK m.length m12 [t0, t1] c13)
  | _, _ => none
theorem y_impl_NewMux : C_impl_NewMux = fcall Y_impl_NewMux := by
  rw [c_impl_NewMux]
  refine congrArg fcall (funext fun vs => funext fun m => ?_)
  match vs with
  | [t0, t1] =>
    simp only [X_impl_NewMux, Y_impl_NewMux, y_impl_newConsole]
  | [] => rfl
  | [_] => rfl
  | _ :: _ :: _ :: _ => rfl
end Go.Ab
