/- Plain forms of functions, printed by gen.py. -/
import Derived.Test.YtciokegejemdcaaDoorCf15
import Derived.Test.YtciokegejemdcaaDoorFC
import Derived.Test.YtciokegejemdcaaDoorFD
set_option linter.unusedVariables false
set_option linter.unusedSimpArgs false
namespace Go.Ab
open Go.Proofs
set_option maxRecDepth 100000
set_option linter.unusedVariables false
noncomputable def cf_laws_szCellS : CallF := cfn
noncomputable def X_laws_szCellS : List Value → Mem → Option VM
 | [t0, t1], m =>
  (lenX t0) |> bo fun t7 =>
  (binX .sub .no t1 t7) |> bo fun t8 =>
  (binX .lss .no t8 (.int .i64 0)) |> bo fun t10 =>
  brX t10
   (
    retK m.length m [t0, t8] (.int .i64 (-1)))
   (
    retK m.length m [t0, t8] t8)
 | _, _ => none
noncomputable def C_laws_szCellS : List Value → Mem → Option VM := fcall X_laws_szCellS
@[simp] theorem c_laws_szCellS : C_laws_szCellS = fcall X_laws_szCellS := (rfl)
theorem cok_laws_szCellS : codeOk CT Tryd.f34 (Tryd.f34.body.get rfl) = true := by kernel_rfl
theorem xe_laws_szCellS (t0 t1 : Value) (m : Mem) : ex CT cf_laws_szCellS Tryd.f34 2 m.length [] (fun _ _ _ => none) 400 [.code (Tryd.f34.body.get rfl)] (argsT 0 [t0, t1]) m = X_laws_szCellS [t0, t1] m := by kernel_rfl
theorem okc_laws_szCellS : CallOK CT cf_laws_szCellS := cfn_ok
theorem ok_X_laws_szCellS : OkX CT 34 X_laws_szCellS := OkX.of_ex (cf := cf_laws_szCellS) (np := 2) (LL := []) (J := (fun _ _ _ _ => none)) CT_ok rfl Tryd.func34 rfl (Nat.le_of_ble_eq_true rfl) (by decide) cok_laws_szCellS okc_laws_szCellS (fun k => noLoops rfl) (fun args m r h => match args, h with
  | [t0, t1], h => ⟨rfl, (xe_laws_szCellS t0 t1 m).trans h⟩)
theorem ok_C_laws_szCellS : OkC CT 34 C_laws_szCellS := fcall_ok rfl ok_X_laws_szCellS
noncomputable def cf_laws_szGrid : CallF := cfc 34 C_laws_szCellS cfn
noncomputable def X_laws_szGrid : List Value → Mem → Option VM
 | [t0, t1], m =>
  (boxX m t0) |> bo fun r1 =>
  (fadX 2 r1.1) |> bo fun t5 =>
  (ld1 r1.2 t5) |> bo fun t6 =>
  (C_laws_szCellS [t6, t1] r1.2) |> bo fun r4 =>
  (binX .lss .no r4.1 (.int .i64 0)) |> bo fun t10 =>
  brX t10
   (
    retK m.length r4.2 [t0, r4.1] (.int .i64 (-1)))
   (
    (fadX 3 r1.1) |> bo fun t11 =>
    (ld1 r4.2 t11) |> bo fun t12 =>
    (C_laws_szCellS [t12, r4.1] r4.2) |> bo fun r8 =>
    (binX .lss .no r8.1 (.int .i64 0)) |> bo fun t16 =>
    brX t16
     (
      retK m.length r8.2 [t0, r8.1] (.int .i64 (-1)))
     (
      retK m.length r8.2 [t0, r8.1] r8.1))
 | _, _ => none
noncomputable def C_laws_szGrid : List Value → Mem → Option VM := fcall X_laws_szGrid
@[simp] theorem c_laws_szGrid : C_laws_szGrid = fcall X_laws_szGrid := (rfl)
theorem cok_laws_szGrid : codeOk CT Tryd.f13 (Tryd.f13.body.get rfl) = true := by kernel_rfl
theorem xe_laws_szGrid (t0 t1 : Value) (m : Mem) : ex CT cf_laws_szGrid Tryd.f13 2 m.length [] (fun _ _ _ => none) 400 [.code (Tryd.f13.body.get rfl)] (argsT 0 [t0, t1]) m = X_laws_szGrid [t0, t1] m := by kernel_rfl
theorem okc_laws_szGrid : CallOK CT cf_laws_szGrid := cfc_ok ok_C_laws_szCellS cfn_ok
theorem ok_X_laws_szGrid : OkX CT 13 X_laws_szGrid := OkX.of_ex (cf := cf_laws_szGrid) (np := 2) (LL := []) (J := (fun _ _ _ _ => none)) CT_ok rfl Tryd.func13 rfl (Nat.le_of_ble_eq_true rfl) (by decide) cok_laws_szGrid okc_laws_szGrid (fun k => noLoops rfl) (fun args m r h => match args, h with
  | [t0, t1], h => ⟨rfl, (xe_laws_szGrid t0 t1 m).trans h⟩)
theorem ok_C_laws_szGrid : OkC CT 13 C_laws_szGrid := fcall_ok rfl ok_X_laws_szGrid
noncomputable def cf_laws_szBoolS : CallF := cfn
noncomputable def X_laws_szBoolS : List Value → Mem → Option VM
 | [t0, t1], m =>
  (lenX t0) |> bo fun t7 =>
  (binX .sub .no t1 t7) |> bo fun t8 =>
  (binX .lss .no t8 (.int .i64 0)) |> bo fun t10 =>
  brX t10
   (
    retK m.length m [t0, t8] (.int .i64 (-1)))
   (
    retK m.length m [t0, t8] t8)
 | _, _ => none
noncomputable def C_laws_szBoolS : List Value → Mem → Option VM := fcall X_laws_szBoolS
@[simp] theorem c_laws_szBoolS : C_laws_szBoolS = fcall X_laws_szBoolS := (rfl)
theorem cok_laws_szBoolS : codeOk CT Tryd.f14 (Tryd.f14.body.get rfl) = true := by kernel_rfl
theorem xe_laws_szBoolS (t0 t1 : Value) (m : Mem) : ex CT cf_laws_szBoolS Tryd.f14 2 m.length [] (fun _ _ _ => none) 400 [.code (Tryd.f14.body.get rfl)] (argsT 0 [t0, t1]) m = X_laws_szBoolS [t0, t1] m := by kernel_rfl
theorem okc_laws_szBoolS : CallOK CT cf_laws_szBoolS := cfn_ok
theorem ok_X_laws_szBoolS : OkX CT 14 X_laws_szBoolS := OkX.of_ex (cf := cf_laws_szBoolS) (np := 2) (LL := []) (J := (fun _ _ _ _ => none)) CT_ok rfl Tryd.func14 rfl (Nat.le_of_ble_eq_true rfl) (by decide) cok_laws_szBoolS okc_laws_szBoolS (fun k => noLoops rfl) (fun args m r h => match args, h with
  | [t0, t1], h => ⟨rfl, (xe_laws_szBoolS t0 t1 m).trans h⟩)
theorem ok_C_laws_szBoolS : OkC CT 14 C_laws_szBoolS := fcall_ok rfl ok_X_laws_szBoolS
noncomputable def cf_laws_szInt64S : CallF := cfn
noncomputable def X_laws_szInt64S : List Value → Mem → Option VM
 | [t0, t1], m =>
  (lenX t0) |> bo fun t7 =>
  (binX .sub .no t1 t7) |> bo fun t8 =>
  (binX .lss .no t8 (.int .i64 0)) |> bo fun t10 =>
  brX t10
   (
    retK m.length m [t0, t8] (.int .i64 (-1)))
   (
    retK m.length m [t0, t8] t8)
 | _, _ => none
noncomputable def C_laws_szInt64S : List Value → Mem → Option VM := fcall X_laws_szInt64S
@[simp] theorem c_laws_szInt64S : C_laws_szInt64S = fcall X_laws_szInt64S := (rfl)
theorem cok_laws_szInt64S : codeOk CT Tryd.f15 (Tryd.f15.body.get rfl) = true := by kernel_rfl
theorem xe_laws_szInt64S (t0 t1 : Value) (m : Mem) : ex CT cf_laws_szInt64S Tryd.f15 2 m.length [] (fun _ _ _ => none) 400 [.code (Tryd.f15.body.get rfl)] (argsT 0 [t0, t1]) m = X_laws_szInt64S [t0, t1] m := by kernel_rfl
theorem okc_laws_szInt64S : CallOK CT cf_laws_szInt64S := cfn_ok
theorem ok_X_laws_szInt64S : OkX CT 15 X_laws_szInt64S := OkX.of_ex (cf := cf_laws_szInt64S) (np := 2) (LL := []) (J := (fun _ _ _ _ => none)) CT_ok rfl Tryd.func15 rfl (Nat.le_of_ble_eq_true rfl) (by decide) cok_laws_szInt64S okc_laws_szInt64S (fun k => noLoops rfl) (fun args m r h => match args, h with
  | [t0, t1], h => ⟨rfl, (xe_laws_szInt64S t0 t1 m).trans h⟩)
theorem ok_C_laws_szInt64S : OkC CT 15 C_laws_szInt64S := fcall_ok rfl ok_X_laws_szInt64S
noncomputable def cf_laws_szScreen : CallF := cfc 13 C_laws_szGrid (cfc 14 C_laws_szBoolS (cfc 15 C_laws_szInt64S cfn))
noncomputable def X_laws_szScreen : List Value → Mem → Option VM
 | [t0, t1], m =>
  (boxX m t0) |> bo fun r1 =>
  (fadX 0 r1.1) |> bo fun t5 =>
  (ldS r1.2 4 t5) |> bo fun t6 =>
  (C_laws_szGrid [t6, t1] r1.2) |> bo fun r4 =>
  (binX .lss .no r4.1 (.int .i64 0)) |> bo fun t10 =>
  brX t10
   (
    retK m.length r4.2 [t0, r4.1] (.int .i64 (-1)))
   (
    (fadX 13 r1.1) |> bo fun t11 =>
    (ld1 r4.2 t11) |> bo fun t12 =>
    (C_laws_szBoolS [t12, r4.1] r4.2) |> bo fun r8 =>
    (binX .lss .no r8.1 (.int .i64 0)) |> bo fun t16 =>
    brX t16
     (
      retK m.length r8.2 [t0, r8.1] (.int .i64 (-1)))
     (
      (fadX 17 r1.1) |> bo fun t17 =>
      (ld1 r8.2 t17) |> bo fun t18 =>
      (C_laws_szInt64S [t18, r8.1] r8.2) |> bo fun r12 =>
      (binX .lss .no r12.1 (.int .i64 0)) |> bo fun t22 =>
      brX t22
       (
        retK m.length r12.2 [t0, r12.1] (.int .i64 (-1)))
       (
        retK m.length r12.2 [t0, r12.1] r12.1)))
 | _, _ => none
noncomputable def C_laws_szScreen : List Value → Mem → Option VM := fcall X_laws_szScreen
@[simp] theorem c_laws_szScreen : C_laws_szScreen = fcall X_laws_szScreen := (rfl)
theorem cok_laws_szScreen : codeOk CT Tryd.f4 (Tryd.f4.body.get rfl) = true := by kernel_rfl
theorem xe_laws_szScreen (t0 t1 : Value) (m : Mem) : ex CT cf_laws_szScreen Tryd.f4 2 m.length [] (fun _ _ _ => none) 400 [.code (Tryd.f4.body.get rfl)] (argsT 0 [t0, t1]) m = X_laws_szScreen [t0, t1] m := by kernel_rfl
theorem okc_laws_szScreen : CallOK CT cf_laws_szScreen := cfc_ok ok_C_laws_szGrid (cfc_ok ok_C_laws_szBoolS (cfc_ok ok_C_laws_szInt64S cfn_ok))
theorem ok_X_laws_szScreen : OkX CT 4 X_laws_szScreen := OkX.of_ex (cf := cf_laws_szScreen) (np := 2) (LL := []) (J := (fun _ _ _ _ => none)) CT_ok rfl Tryd.func4 rfl (Nat.le_of_ble_eq_true rfl) (by decide) cok_laws_szScreen okc_laws_szScreen (fun k => noLoops rfl) (fun args m r h => match args, h with
  | [t0, t1], h => ⟨rfl, (xe_laws_szScreen t0 t1 m).trans h⟩)
theorem ok_C_laws_szScreen : OkC CT 4 C_laws_szScreen := fcall_ok rfl ok_X_laws_szScreen
noncomputable def cf_spec_l1In : CallF := cfn
noncomputable def X_spec_l1In : List Value → Mem → Option VM
 | [t0, t1, t2], m =>
  (binX .geq .no t0 t1) |> bo fun t9 =>
  (gd t9 true (some (t0, m)) m) |> bo fun r2 =>
  (gd t9 true (some (t2, r2.2)) r2.2) |> bo fun r3 =>
  (gd t9 true ((binX .leq .no r2.1 r3.1) |> bo fun v => some (v, r3.2)) r3.2) |> bo fun r4 =>
  (pickX t9 r4.1 (.bool false)) |> bo fun t14 =>
  retK m.length r4.2 [t0, t1, t2] t14
 | _, _ => none
noncomputable def C_spec_l1In : List Value → Mem → Option VM := fcall X_spec_l1In
@[simp] theorem c_spec_l1In : C_spec_l1In = fcall X_spec_l1In := (rfl)
theorem cok_spec_l1In : codeOk CT Tryd.f17 (Tryd.f17.body.get rfl) = true := by kernel_rfl
theorem xe_spec_l1In (t0 t1 t2 : Value) (m : Mem) : ex CT cf_spec_l1In Tryd.f17 3 m.length [] (fun _ _ _ => none) 400 [.code (Tryd.f17.body.get rfl)] (argsT 0 [t0, t1, t2]) m = X_spec_l1In [t0, t1, t2] m := by kernel_rfl
theorem okc_spec_l1In : CallOK CT cf_spec_l1In := cfn_ok
theorem ok_X_spec_l1In : OkX CT 17 X_spec_l1In := OkX.of_ex (cf := cf_spec_l1In) (np := 3) (LL := []) (J := (fun _ _ _ _ => none)) CT_ok rfl Tryd.func17 rfl (Nat.le_of_ble_eq_true rfl) (by decide) cok_spec_l1In okc_spec_l1In (fun k => noLoops rfl) (fun args m r h => match args, h with
  | [t0, t1, t2], h => ⟨rfl, (xe_spec_l1In t0 t1 t2 m).trans h⟩)
theorem ok_C_spec_l1In : OkC CT 17 C_spec_l1In := fcall_ok rfl ok_X_spec_l1In
noncomputable def cf_spec_l3Size : CallF := cfc 17 C_spec_l1In cfn
noncomputable def X_spec_l3Size : List Value → Mem → Option VM
 | [t0, t1], m =>
  (C_spec_l1In [t0, (.int .i64 1), (.int .i64 6)] m) |> bo fun r1 =>
  (gd r1.1 true (some (t1, r1.2)) r1.2) |> bo fun r2 =>
  (gd r1.1 true ((C_spec_l1In [r2.1, (.int .i64 2), (.int .i64 12)] r2.2) |> bo fun r => some (r.1, r.2)) r2.2) |> bo fun r3 =>
  (pickX r1.1 r3.1 (.bool false)) |> bo fun t10 =>
  retK m.length r3.2 [t0, t1] t10
 | _, _ => none
noncomputable def C_spec_l3Size : List Value → Mem → Option VM := fcall X_spec_l3Size
@[simp] theorem c_spec_l3Size : C_spec_l3Size = fcall X_spec_l3Size := (rfl)
theorem cok_spec_l3Size : codeOk CT Tryd.f54 (Tryd.f54.body.get rfl) = true := by kernel_rfl
theorem xe_spec_l3Size (t0 t1 : Value) (m : Mem) : ex CT cf_spec_l3Size Tryd.f54 2 m.length [] (fun _ _ _ => none) 400 [.code (Tryd.f54.body.get rfl)] (argsT 0 [t0, t1]) m = X_spec_l3Size [t0, t1] m := by kernel_rfl
theorem okc_spec_l3Size : CallOK CT cf_spec_l3Size := cfc_ok ok_C_spec_l1In cfn_ok
theorem ok_X_spec_l3Size : OkX CT 54 X_spec_l3Size := OkX.of_ex (cf := cf_spec_l3Size) (np := 2) (LL := []) (J := (fun _ _ _ _ => none)) CT_ok rfl Tryd.func54 rfl (Nat.le_of_ble_eq_true rfl) (by decide) cok_spec_l3Size okc_spec_l3Size (fun k => noLoops rfl) (fun args m r h => match args, h with
  | [t0, t1], h => ⟨rfl, (xe_spec_l3Size t0 t1 m).trans h⟩)
theorem ok_C_spec_l3Size : OkC CT 54 C_spec_l3Size := fcall_ok rfl ok_X_spec_l3Size
noncomputable def cf_spec_l1Char : CallF := cfc 17 C_spec_l1In cfn
noncomputable def X_spec_l1Char : List Value → Mem → Option VM
 | [t0], m =>
  (C_spec_l1In [t0, (.int .i64 0), (.int .i64 55295)] m) |> bo fun r1 =>
  (gd r1.1 false (some (t0, r1.2)) r1.2) |> bo fun r2 =>
  (gd r1.1 false ((C_spec_l1In [r2.1, (.int .i64 57344), (.int .i64 65535)] r2.2) |> bo fun r => some (r.1, r.2)) r2.2) |> bo fun r3 =>
  (pickX r1.1 (.bool true) r3.1) |> bo fun t8 =>
  retK m.length r3.2 [t0] t8
 | _, _ => none
noncomputable def C_spec_l1Char : List Value → Mem → Option VM := fcall X_spec_l1Char
@[simp] theorem c_spec_l1Char : C_spec_l1Char = fcall X_spec_l1Char := (rfl)
theorem cok_spec_l1Char : codeOk CT Tryd.f83 (Tryd.f83.body.get rfl) = true := by kernel_rfl
theorem xe_spec_l1Char (t0 : Value) (m : Mem) : ex CT cf_spec_l1Char Tryd.f83 1 m.length [] (fun _ _ _ => none) 400 [.code (Tryd.f83.body.get rfl)] (argsT 0 [t0]) m = X_spec_l1Char [t0] m := by kernel_rfl
theorem okc_spec_l1Char : CallOK CT cf_spec_l1Char := cfc_ok ok_C_spec_l1In cfn_ok
theorem ok_X_spec_l1Char : OkX CT 83 X_spec_l1Char := OkX.of_ex (cf := cf_spec_l1Char) (np := 1) (LL := []) (J := (fun _ _ _ _ => none)) CT_ok rfl Tryd.func83 rfl (Nat.le_of_ble_eq_true rfl) (by decide) cok_spec_l1Char okc_spec_l1Char (fun k => noLoops rfl) (fun args m r h => match args, h with
  | [t0], h => ⟨rfl, (xe_spec_l1Char t0 m).trans h⟩)
theorem ok_C_spec_l1Char : OkC CT 83 C_spec_l1Char := fcall_ok rfl ok_X_spec_l1Char
noncomputable def cf_spec_l3Cell : CallF := cfc 17 C_spec_l1In (cfc 83 C_spec_l1Char cfn)
noncomputable def X_spec_l3Cell : List Value → Mem → Option VM
 | [t0], m =>
  (nilX t0) |> bo fun t4 =>
  (fadX 0 t4) |> bo fun t5 =>
  (ld1 m t5) |> bo fun t6 =>
  (C_spec_l1Char [t6] m) |> bo fun r4 =>
  (gd r4.1 true (some (t0, r4.2)) r4.2) |> bo fun r5 =>
  (gd r4.1 true ((nilX r5.1) |> bo fun v => some (v, r5.2)) r5.2) |> bo fun r6 =>
  (gd r4.1 true ((fadX 0 r6.1) |> bo fun v => some (v, r6.2)) r6.2) |> bo fun r7 =>
  (gd r4.1 true ((ld1 r7.2 r7.1) |> bo fun v => some (v, r7.2)) r7.2) |> bo fun r8 =>
  (gd r4.1 true ((binX .geq .no r8.1 (.int .i64 32)) |> bo fun v => some (v, r8.2)) r8.2) |> bo fun r9 =>
  (pickX r4.1 r9.1 (.bool false)) |> bo fun t14 =>
  (gd t14 true (some (t0, r9.2)) r9.2) |> bo fun r11 =>
  (gd t14 true ((nilX r11.1) |> bo fun v => some (v, r11.2)) r11.2) |> bo fun r12 =>
  (gd t14 true ((fadX 0 r12.1) |> bo fun v => some (v, r12.2)) r12.2) |> bo fun r13 =>
  (gd t14 true ((ld1 r13.2 r13.1) |> bo fun v => some (v, r13.2)) r13.2) |> bo fun r14 =>
  (gd t14 true ((binX .neq .no r14.1 (.int .i64 127)) |> bo fun v => some (v, r14.2)) r14.2) |> bo fun r15 =>
  (pickX t14 r15.1 (.bool false)) |> bo fun t21 =>
  (gd t21 true (some (t0, r15.2)) r15.2) |> bo fun r17 =>
  (gd t21 true ((nilX r17.1) |> bo fun v => some (v, r17.2)) r17.2) |> bo fun r18 =>
  (gd t21 true ((fadX 1 r18.1) |> bo fun v => some (v, r18.2)) r18.2) |> bo fun r19 =>
  (gd t21 true ((ld1 r19.2 r19.1) |> bo fun v => some (v, r19.2)) r19.2) |> bo fun r20 =>
  (gd t21 true ((C_spec_l1In [r20.1, (.int .i64 0), (.int .i64 31)] r20.2) |> bo fun r => some (r.1, r.2)) r20.2) |> bo fun r21 =>
  (pickX t21 r21.1 (.bool false)) |> bo fun t28 =>
  retK m.length r21.2 [t0] t28
 | _, _ => none
noncomputable def C_spec_l3Cell : List Value → Mem → Option VM := fcall X_spec_l3Cell
@[simp] theorem c_spec_l3Cell : C_spec_l3Cell = fcall X_spec_l3Cell := (rfl)
theorem cok_spec_l3Cell : codeOk CT Tryd.f78 (Tryd.f78.body.get rfl) = true := by kernel_rfl
theorem xe_spec_l3Cell (t0 : Value) (m : Mem) : ex CT cf_spec_l3Cell Tryd.f78 1 m.length [] (fun _ _ _ => none) 400 [.code (Tryd.f78.body.get rfl)] (argsT 0 [t0]) m = X_spec_l3Cell [t0] m := by kernel_rfl
theorem okc_spec_l3Cell : CallOK CT cf_spec_l3Cell := cfc_ok ok_C_spec_l1In (cfc_ok ok_C_spec_l1Char cfn_ok)
theorem ok_X_spec_l3Cell : OkX CT 78 X_spec_l3Cell := OkX.of_ex (cf := cf_spec_l3Cell) (np := 1) (LL := []) (J := (fun _ _ _ _ => none)) CT_ok rfl Tryd.func78 rfl (Nat.le_of_ble_eq_true rfl) (by decide) cok_spec_l3Cell okc_spec_l3Cell (fun k => noLoops rfl) (fun args m r h => match args, h with
  | [t0], h => ⟨rfl, (xe_spec_l3Cell t0 m).trans h⟩)
theorem ok_C_spec_l3Cell : OkC CT 78 C_spec_l3Cell := fcall_ok rfl ok_X_spec_l3Cell
noncomputable def cf_spec_l3Cells : CallF := cfc 78 C_spec_l3Cell cfn
noncomputable def L_spec_l3Cells (k : Nat) : Nat → Nat → List Value → Mem → Option VM
 | q + 1, 0, [t0, t3], m =>
  (lenX t0) |> bo fun t6 =>
  (binX .lss .no t3 t6) |> bo fun t7 =>
  brX t7
   (
    (ixaX 2 t0 t3) |> bo fun t12 =>
    (C_spec_l3Cell [t12] m) |> bo fun r4 =>
    (uop .not r4.1) |> bo fun t14 =>
    brX t14
     (
      retK k r4.2 [t0] (.bool false))
     (
      (binX .add .no t3 (.int .i64 1)) |> bo fun t9 =>
      cutK k r4.2 [t0] [t0, t9] (L_spec_l3Cells k q 0)))
   (
    retK k m [t0] (.bool true))
 | _, _, _, _ => none
noncomputable def J_spec_l3Cells (k q l : Nat) : List Value → Mem → Option VM := cond (Nat.beq l 2) (L_spec_l3Cells k q 0) (fun _ _ => none)
def LL_spec_l3Cells : List (Nat × List Tmp) := [(2, [0, 3])]
noncomputable def X_spec_l3Cells : List Value → Mem → Option VM
 | [t0], m =>
  cutK m.length m [t0] [t0, (.int .i64 0)] (L_spec_l3Cells m.length QQ 0)
 | _, _ => none
noncomputable def C_spec_l3Cells : List Value → Mem → Option VM := fcall X_spec_l3Cells
@[simp] theorem c_spec_l3Cells : C_spec_l3Cells = fcall X_spec_l3Cells := (rfl)
theorem cok_spec_l3Cells : codeOk CT Tryd.f55 (Tryd.f55.body.get rfl) = true := by kernel_rfl
theorem xe_spec_l3Cells (t0 : Value) (m : Mem) : ex CT cf_spec_l3Cells Tryd.f55 1 m.length LL_spec_l3Cells (J_spec_l3Cells m.length QQ) 400 [.code (Tryd.f55.body.get rfl)] (argsT 0 [t0]) m = X_spec_l3Cells [t0] m := by kernel_rfl
theorem okc_spec_l3Cells : CallOK CT cf_spec_l3Cells := cfc_ok ok_C_spec_l3Cell cfn_ok
theorem le_spec_l3Cells_0 (k q : Nat) (t0 t3 : Value) (m : Mem) : ex CT cf_spec_l3Cells Tryd.f55 1 k LL_spec_l3Cells (J_spec_l3Cells k q) 400 (atLoop Tryd.f55 0) [(0, t0), (3, t3)] m = J_spec_l3Cells k (q + 1) 2 [t0, t3] m := by kernel_rfl
theorem gl_spec_l3Cells (k : Nat) : ∀ q i, i < 1 → GoodL CT k Tryd.f55 LL_spec_l3Cells (J_spec_l3Cells k q) (atLoop Tryd.f55 i)
 | 0, 0, _ => goodL_zero (l := 2) (by kernel_rfl) (fun vs m => by kernel_rfl)
 | 0, _ + 1, h => absurd h (by omega)
 | q + 1, 0, _ => goodL_succ (np := 1) (l := 2) (live := [0, 3]) (n := 1) CT_ok rfl okc_spec_l3Cells (c := (Tryd.f55.body.get rfl)) rfl cok_spec_l3Cells (by kernel_rfl) (gl_spec_l3Cells k q) (by kernel_rfl) rfl (fun vs m r hl h => match vs, hl with
  | [t0, t3], _ => (le_spec_l3Cells_0 k q t0 t3 m).trans h)
 | _ + 1, _ + 1, h => absurd h (by omega)
theorem ok_X_spec_l3Cells : OkX CT 55 X_spec_l3Cells := OkX.of_ex (cf := cf_spec_l3Cells) (np := 1) (LL := LL_spec_l3Cells) (J := (fun k => J_spec_l3Cells k QQ)) CT_ok rfl Tryd.func55 rfl (Nat.le_of_ble_eq_true rfl) (by decide) cok_spec_l3Cells okc_spec_l3Cells (fun k => allLoops rfl (by kernel_rfl) (gl_spec_l3Cells k QQ)) (fun args m r h => match args, h with
  | [t0], h => ⟨rfl, (xe_spec_l3Cells t0 m).trans h⟩)
theorem ok_C_spec_l3Cells : OkC CT 55 C_spec_l3Cells := fcall_ok rfl ok_X_spec_l3Cells
noncomputable def cf_spec_l3Fault : CallF := cfc 54 C_spec_l3Size (cfc 55 C_spec_l3Cells cfn)
noncomputable def X_spec_l3Fault : List Value → Mem → Option VM
 | [t0], m =>
  (nilX t0) |> bo fun t5 =>
  (fadX 0 t5) |> bo fun t6 =>
  (ld1 m t6) |> bo fun t7 =>
  (nilX t0) |> bo fun t9 =>
  (fadX 1 t9) |> bo fun t10 =>
  (ld1 m t10) |> bo fun t11 =>
  (C_spec_l3Size [t7, t11] m) |> bo fun r7 =>
  (uop .not r7.1) |> bo fun t13 =>
  brX t13
   (
    retK m.length r7.2 [t0] (.int .i64 3))
   (
    (nilX t0) |> bo fun t15 =>
    (fadX 3 t15) |> bo fun t16 =>
    (ld1 r7.2 t16) |> bo fun t17 =>
    (lenX t17) |> bo fun t18 =>
    (nilX t0) |> bo fun t20 =>
    (fadX 2 t20) |> bo fun t21 =>
    (ld1 r7.2 t21) |> bo fun t22 =>
    (lenX t22) |> bo fun t23 =>
    (nilX t0) |> bo fun t25 =>
    (fadX 0 t25) |> bo fun t26 =>
    (ld1 r7.2 t26) |> bo fun t27 =>
    (nilX t0) |> bo fun t29 =>
    (fadX 1 t29) |> bo fun t30 =>
    (ld1 r7.2 t30) |> bo fun t31 =>
    (binX .mul .no t27 t31) |> bo fun t32 =>
    (binX .neq .no t23 t32) |> bo fun t33 =>
    (gd t33 false (some (t18, r7.2)) r7.2) |> bo fun r25 =>
    (gd t33 false (some (t0, r25.2)) r25.2) |> bo fun r26 =>
    (gd t33 false ((nilX r26.1) |> bo fun v => some (v, r26.2)) r26.2) |> bo fun r27 =>
    (gd t33 false ((fadX 1 r27.1) |> bo fun v => some (v, r27.2)) r27.2) |> bo fun r28 =>
    (gd t33 false ((ld1 r28.2 r28.1) |> bo fun v => some (v, r28.2)) r28.2) |> bo fun r29 =>
    (gd t33 false ((binX .mul .no (.int .i64 5) r29.1) |> bo fun v => some (v, r29.2)) r29.2) |> bo fun r30 =>
    (gd t33 false ((binX .gtr .no r25.1 r30.1) |> bo fun v => some (v, r30.2)) r30.2) |> bo fun r31 =>
    (pickX t33 (.bool true) r31.1) |> bo fun t42 =>
    (gd t42 false (some (t18, r31.2)) r31.2) |> bo fun r33 =>
    (gd t42 false (some (t0, r33.2)) r33.2) |> bo fun r34 =>
    (gd t42 false ((nilX r34.1) |> bo fun v => some (v, r34.2)) r34.2) |> bo fun r35 =>
    (gd t42 false ((fadX 1 r35.1) |> bo fun v => some (v, r35.2)) r35.2) |> bo fun r36 =>
    (gd t42 false ((ld1 r36.2 r36.1) |> bo fun v => some (v, r36.2)) r36.2) |> bo fun r37 =>
    (gd t42 false ((binX .rem .no r33.1 r37.1) |> bo fun v => some (v, r37.2)) r37.2) |> bo fun r38 =>
    (gd t42 false ((binX .neq .no r38.1 (.int .i64 0)) |> bo fun v => some (v, r38.2)) r38.2) |> bo fun r39 =>
    (pickX t42 (.bool true) r39.1) |> bo fun t51 =>
    brX t51
     (
      retK m.length r39.2 [t0] (.int .i64 1))
     (
      (nilX t0) |> bo fun t53 =>
      (fadX 2 t53) |> bo fun t54 =>
      (ld1 r39.2 t54) |> bo fun t55 =>
      (C_spec_l3Cells [t55] r39.2) |> bo fun r44 =>
      (uop .not r44.1) |> bo fun t57 =>
      (gd t57 false (some (t0, r44.2)) r44.2) |> bo fun r46 =>
      (gd t57 false ((nilX r46.1) |> bo fun v => some (v, r46.2)) r46.2) |> bo fun r47 =>
      (gd t57 false ((fadX 3 r47.1) |> bo fun v => some (v, r47.2)) r47.2) |> bo fun r48 =>
      (gd t57 false ((ld1 r48.2 r48.1) |> bo fun v => some (v, r48.2)) r48.2) |> bo fun r49 =>
      (gd t57 false ((C_spec_l3Cells [r49.1] r49.2) |> bo fun r => some (r.1, r.2)) r49.2) |> bo fun r50 =>
      (gd t57 false ((uop .not r50.1) |> bo fun v => some (v, r50.2)) r50.2) |> bo fun r51 =>
      (pickX t57 (.bool true) r51.1) |> bo fun t65 =>
      brX t65
       (
        retK m.length r51.2 [t0] (.int .i64 3))
       (
        retK m.length r51.2 [t0] (.int .i64 0))))
 | _, _ => none
noncomputable def C_spec_l3Fault : List Value → Mem → Option VM := fcall X_spec_l3Fault
@[simp] theorem c_spec_l3Fault : C_spec_l3Fault = fcall X_spec_l3Fault := (rfl)
theorem cok_spec_l3Fault : codeOk CT Tryd.f35 (Tryd.f35.body.get rfl) = true := by kernel_rfl
theorem xe_spec_l3Fault (t0 : Value) (m : Mem) : ex CT cf_spec_l3Fault Tryd.f35 1 m.length [] (fun _ _ _ => none) 400 [.code (Tryd.f35.body.get rfl)] (argsT 0 [t0]) m = X_spec_l3Fault [t0] m := by kernel_rfl
theorem okc_spec_l3Fault : CallOK CT cf_spec_l3Fault := cfc_ok ok_C_spec_l3Size (cfc_ok ok_C_spec_l3Cells cfn_ok)
theorem ok_X_spec_l3Fault : OkX CT 35 X_spec_l3Fault := OkX.of_ex (cf := cf_spec_l3Fault) (np := 1) (LL := []) (J := (fun _ _ _ _ => none)) CT_ok rfl Tryd.func35 rfl (Nat.le_of_ble_eq_true rfl) (by decide) cok_spec_l3Fault okc_spec_l3Fault (fun k => noLoops rfl) (fun args m r h => match args, h with
  | [t0], h => ⟨rfl, (xe_spec_l3Fault t0 m).trans h⟩)
theorem ok_C_spec_l3Fault : OkC CT 35 C_spec_l3Fault := fcall_ok rfl ok_X_spec_l3Fault
noncomputable def cf_spec_l3Place : CallF := cfc 17 C_spec_l1In cfn
noncomputable def X_spec_l3Place : List Value → Mem → Option VM
 | [t0, t1, t2], m =>
  (nilX t0) |> bo fun t9 =>
  (fadX 0 t9) |> bo fun t10 =>
  (ld1 m t10) |> bo fun t11 =>
  (binX .sub .no t11 (.int .i64 1)) |> bo fun t12 =>
  (C_spec_l1In [t1, (.int .i64 0), t12] m) |> bo fun r5 =>
  (gd r5.1 true (some (t2, r5.2)) r5.2) |> bo fun r6 =>
  (gd r5.1 true (some (t0, r6.2)) r6.2) |> bo fun r7 =>
  (gd r5.1 true ((nilX r7.1) |> bo fun v => some (v, r7.2)) r7.2) |> bo fun r8 =>
  (gd r5.1 true ((fadX 1 r8.1) |> bo fun v => some (v, r8.2)) r8.2) |> bo fun r9 =>
  (gd r5.1 true ((ld1 r9.2 r9.1) |> bo fun v => some (v, r9.2)) r9.2) |> bo fun r10 =>
  (gd r5.1 true ((binX .sub .no r10.1 (.int .i64 1)) |> bo fun v => some (v, r10.2)) r10.2) |> bo fun r11 =>
  (gd r5.1 true ((C_spec_l1In [r6.1, (.int .i64 0), r11.1] r11.2) |> bo fun r => some (r.1, r.2)) r11.2) |> bo fun r12 =>
  (pickX r5.1 r12.1 (.bool false)) |> bo fun t22 =>
  retK m.length r12.2 [t0, t1, t2] t22
 | _, _ => none
noncomputable def C_spec_l3Place : List Value → Mem → Option VM := fcall X_spec_l3Place
@[simp] theorem c_spec_l3Place : C_spec_l3Place = fcall X_spec_l3Place := (rfl)
theorem cok_spec_l3Place : codeOk CT Tryd.f56 (Tryd.f56.body.get rfl) = true := by kernel_rfl
theorem xe_spec_l3Place (t0 t1 t2 : Value) (m : Mem) : ex CT cf_spec_l3Place Tryd.f56 3 m.length [] (fun _ _ _ => none) 400 [.code (Tryd.f56.body.get rfl)] (argsT 0 [t0, t1, t2]) m = X_spec_l3Place [t0, t1, t2] m := by kernel_rfl
theorem okc_spec_l3Place : CallOK CT cf_spec_l3Place := cfc_ok ok_C_spec_l1In cfn_ok
theorem ok_X_spec_l3Place : OkX CT 56 X_spec_l3Place := OkX.of_ex (cf := cf_spec_l3Place) (np := 3) (LL := []) (J := (fun _ _ _ _ => none)) CT_ok rfl Tryd.func56 rfl (Nat.le_of_ble_eq_true rfl) (by decide) cok_spec_l3Place okc_spec_l3Place (fun k => noLoops rfl) (fun args m r h => match args, h with
  | [t0, t1, t2], h => ⟨rfl, (xe_spec_l3Place t0 t1 t2 m).trans h⟩)
theorem ok_C_spec_l3Place : OkC CT 56 C_spec_l3Place := fcall_ok rfl ok_X_spec_l3Place
noncomputable def cf_spec_l3Attr : CallF := cfc 17 C_spec_l1In cfn
noncomputable def X_spec_l3Attr : List Value → Mem → Option VM
 | [t0], m =>
  (C_spec_l1In [t0, (.int .i64 0), (.int .i64 31)] m) |> bo fun r1 =>
  retK m.length r1.2 [t0] r1.1
 | _, _ => none
noncomputable def C_spec_l3Attr : List Value → Mem → Option VM := fcall X_spec_l3Attr
@[simp] theorem c_spec_l3Attr : C_spec_l3Attr = fcall X_spec_l3Attr := (rfl)
theorem cok_spec_l3Attr : codeOk CT Tryd.f57 (Tryd.f57.body.get rfl) = true := by kernel_rfl
theorem xe_spec_l3Attr (t0 : Value) (m : Mem) : ex CT cf_spec_l3Attr Tryd.f57 1 m.length [] (fun _ _ _ => none) 400 [.code (Tryd.f57.body.get rfl)] (argsT 0 [t0]) m = X_spec_l3Attr [t0] m := by kernel_rfl
theorem okc_spec_l3Attr : CallOK CT cf_spec_l3Attr := cfc_ok ok_C_spec_l1In cfn_ok
theorem ok_X_spec_l3Attr : OkX CT 57 X_spec_l3Attr := OkX.of_ex (cf := cf_spec_l3Attr) (np := 1) (LL := []) (J := (fun _ _ _ _ => none)) CT_ok rfl Tryd.func57 rfl (Nat.le_of_ble_eq_true rfl) (by decide) cok_spec_l3Attr okc_spec_l3Attr (fun k => noLoops rfl) (fun args m r h => match args, h with
  | [t0], h => ⟨rfl, (xe_spec_l3Attr t0 m).trans h⟩)
theorem ok_C_spec_l3Attr : OkC CT 57 C_spec_l3Attr := fcall_ok rfl ok_X_spec_l3Attr
noncomputable def cf_spec_l2Table : CallF := cfc 17 C_spec_l1In cfn
noncomputable def X_spec_l2Table : List Value → Mem → Option VM
 | [t0], m =>
  (C_spec_l1In [t0, (.int .i64 1), (.int .i64 3)] m) |> bo fun r1 =>
  retK m.length r1.2 [t0] r1.1
 | _, _ => none
noncomputable def C_spec_l2Table : List Value → Mem → Option VM := fcall X_spec_l2Table
@[simp] theorem c_spec_l2Table : C_spec_l2Table = fcall X_spec_l2Table := (rfl)
theorem cok_spec_l2Table : codeOk CT Tryd.f58 (Tryd.f58.body.get rfl) = true := by kernel_rfl
theorem xe_spec_l2Table (t0 : Value) (m : Mem) : ex CT cf_spec_l2Table Tryd.f58 1 m.length [] (fun _ _ _ => none) 400 [.code (Tryd.f58.body.get rfl)] (argsT 0 [t0]) m = X_spec_l2Table [t0] m := by kernel_rfl
theorem okc_spec_l2Table : CallOK CT cf_spec_l2Table := cfc_ok ok_C_spec_l1In cfn_ok
theorem ok_X_spec_l2Table : OkX CT 58 X_spec_l2Table := OkX.of_ex (cf := cf_spec_l2Table) (np := 1) (LL := []) (J := (fun _ _ _ _ => none)) CT_ok rfl Tryd.func58 rfl (Nat.le_of_ble_eq_true rfl) (by decide) cok_spec_l2Table okc_spec_l2Table (fun k => noLoops rfl) (fun args m r h => match args, h with
  | [t0], h => ⟨rfl, (xe_spec_l2Table t0 m).trans h⟩)
theorem ok_C_spec_l2Table : OkC CT 58 C_spec_l2Table := fcall_ok rfl ok_X_spec_l2Table
noncomputable def cf_spec_l5Ranges : CallF := cfc 17 C_spec_l1In (cfc 56 C_spec_l3Place (cfc 57 C_spec_l3Attr (cfc 58 C_spec_l2Table cfn)))
noncomputable def X_spec_l5Ranges : List Value → Mem → Option VM
 | [t0], m =>
  (nilX t0) |> bo fun t4 =>
  (fadX 0 t4) |> bo fun t5 =>
  (nilX t0) |> bo fun t7 =>
  (fadX 4 t7) |> bo fun t8 =>
  (ld1 m t8) |> bo fun t9 =>
  (nilX t0) |> bo fun t11 =>
  (fadX 5 t11) |> bo fun t12 =>
  (ld1 m t12) |> bo fun t13 =>
  (C_spec_l3Place [t5, t9, t13] m) |> bo fun r9 =>
  (uop .not r9.1) |> bo fun t15 =>
  (gd t15 false (some (t0, r9.2)) r9.2) |> bo fun r11 =>
  (gd t15 false ((nilX r11.1) |> bo fun v => some (v, r11.2)) r11.2) |> bo fun r12 =>
  (gd t15 false ((fadX 7 r12.1) |> bo fun v => some (v, r12.2)) r12.2) |> bo fun r13 =>
  (gd t15 false ((ld1 r13.2 r13.1) |> bo fun v => some (v, r13.2)) r13.2) |> bo fun r14 =>
  (gd t15 false ((C_spec_l3Attr [r14.1] r14.2) |> bo fun r => some (r.1, r.2)) r14.2) |> bo fun r15 =>
  (gd t15 false ((uop .not r15.1) |> bo fun v => some (v, r15.2)) r15.2) |> bo fun r16 =>
  (pickX t15 (.bool true) r16.1) |> bo fun t23 =>
  (gd t23 false (some (t0, r16.2)) r16.2) |> bo fun r18 =>
  (gd t23 false ((nilX r18.1) |> bo fun v => some (v, r18.2)) r18.2) |> bo fun r19 =>
  (gd t23 false ((fadX 14 r19.1) |> bo fun v => some (v, r19.2)) r19.2) |> bo fun r20 =>
  (gd t23 false ((ld1 r20.2 r20.1) |> bo fun v => some (v, r20.2)) r20.2) |> bo fun r21 =>
  (gd t23 false ((C_spec_l1In [r21.1, (.int .i64 0), (.int .i64 5)] r21.2) |> bo fun r => some (r.1, r.2)) r21.2) |> bo fun r22 =>
  (gd t23 false ((uop .not r22.1) |> bo fun v => some (v, r22.2)) r22.2) |> bo fun r23 =>
  (pickX t23 (.bool true) r23.1) |> bo fun t31 =>
  (gd t31 false (some (t0, r23.2)) r23.2) |> bo fun r25 =>
  (gd t31 false ((nilX r25.1) |> bo fun v => some (v, r25.2)) r25.2) |> bo fun r26 =>
  (gd t31 false ((fadX 15 r26.1) |> bo fun v => some (v, r26.2)) r26.2) |> bo fun r27 =>
  (gd t31 false ((ld1 r27.2 r27.1) |> bo fun v => some (v, r27.2)) r27.2) |> bo fun r28 =>
  (gd t31 false ((C_spec_l1In [r28.1, (.int .i64 0), (.int .i64 11)] r28.2) |> bo fun r => some (r.1, r.2)) r28.2) |> bo fun r29 =>
  (gd t31 false ((uop .not r29.1) |> bo fun v => some (v, r29.2)) r29.2) |> bo fun r30 =>
  (pickX t31 (.bool true) r30.1) |> bo fun t39 =>
  (gd t39 false (some (t0, r30.2)) r30.2) |> bo fun r32 =>
  (gd t39 false ((nilX r32.1) |> bo fun v => some (v, r32.2)) r32.2) |> bo fun r33 =>
  (gd t39 false ((fadX 16 r33.1) |> bo fun v => some (v, r33.2)) r33.2) |> bo fun r34 =>
  (gd t39 false ((ld1 r34.2 r34.1) |> bo fun v => some (v, r34.2)) r34.2) |> bo fun r35 =>
  (gd t39 false ((C_spec_l3Attr [r35.1] r35.2) |> bo fun r => some (r.1, r.2)) r35.2) |> bo fun r36 =>
  (gd t39 false ((uop .not r36.1) |> bo fun v => some (v, r36.2)) r36.2) |> bo fun r37 =>
  (pickX t39 (.bool true) r37.1) |> bo fun t47 =>
  brX t47
   (
    retK m.length r37.2 [t0] (.bool false))
   (
    (nilX t0) |> bo fun t49 =>
    (fadX 17 t49) |> bo fun t50 =>
    (ld1 r37.2 t50) |> bo fun t51 =>
    (lenX t51) |> bo fun t52 =>
    (binX .neq .no t52 (.int .i64 2)) |> bo fun t53 =>
    (gd t53 false (some (t0, r37.2)) r37.2) |> bo fun r44 =>
    (gd t53 false ((nilX r44.1) |> bo fun v => some (v, r44.2)) r44.2) |> bo fun r45 =>
    (gd t53 false ((fadX 17 r45.1) |> bo fun v => some (v, r45.2)) r45.2) |> bo fun r46 =>
    (gd t53 false ((ld1 r46.2 r46.1) |> bo fun v => some (v, r46.2)) r46.2) |> bo fun r47 =>
    (gd t53 false ((ixaX 1 r47.1 (.int .i64 0)) |> bo fun v => some (v, r47.2)) r47.2) |> bo fun r48 =>
    (gd t53 false ((ld1 r48.2 r48.1) |> bo fun v => some (v, r48.2)) r48.2) |> bo fun r49 =>
    (gd t53 false ((C_spec_l2Table [r49.1] r49.2) |> bo fun r => some (r.1, r.2)) r49.2) |> bo fun r50 =>
    (gd t53 false ((uop .not r50.1) |> bo fun v => some (v, r50.2)) r50.2) |> bo fun r51 =>
    (pickX t53 (.bool true) r51.1) |> bo fun t63 =>
    (gd t63 false (some (t0, r51.2)) r51.2) |> bo fun r53 =>
    (gd t63 false ((nilX r53.1) |> bo fun v => some (v, r53.2)) r53.2) |> bo fun r54 =>
    (gd t63 false ((fadX 17 r54.1) |> bo fun v => some (v, r54.2)) r54.2) |> bo fun r55 =>
    (gd t63 false ((ld1 r55.2 r55.1) |> bo fun v => some (v, r55.2)) r55.2) |> bo fun r56 =>
    (gd t63 false ((ixaX 1 r56.1 (.int .i64 1)) |> bo fun v => some (v, r56.2)) r56.2) |> bo fun r57 =>
    (gd t63 false ((ld1 r57.2 r57.1) |> bo fun v => some (v, r57.2)) r57.2) |> bo fun r58 =>
    (gd t63 false ((C_spec_l2Table [r58.1] r58.2) |> bo fun r => some (r.1, r.2)) r58.2) |> bo fun r59 =>
    (gd t63 false ((uop .not r59.1) |> bo fun v => some (v, r59.2)) r59.2) |> bo fun r60 =>
    (pickX t63 (.bool true) r60.1) |> bo fun t73 =>
    brX t73
     (
      retK m.length r60.2 [t0] (.bool false))
     (
      (nilX t0) |> bo fun t75 =>
      (fadX 18 t75) |> bo fun t76 =>
      (ld1 r60.2 t76) |> bo fun t77 =>
      (C_spec_l1In [t77, (.int .i64 0), (.int .i64 1)] r60.2) |> bo fun r65 =>
      (gd r65.1 true (some (t0, r65.2)) r65.2) |> bo fun r66 =>
      (gd r65.1 true ((nilX r66.1) |> bo fun v => some (v, r66.2)) r66.2) |> bo fun r67 =>
      (gd r65.1 true ((fadX 19 r67.1) |> bo fun v => some (v, r67.2)) r67.2) |> bo fun r68 =>
      (gd r65.1 true ((ld1 r68.2 r68.1) |> bo fun v => some (v, r68.2)) r68.2) |> bo fun r69 =>
      (gd r65.1 true ((C_spec_l1In [r69.1, (.int .i64 0), (.int .i64 999)] r69.2) |> bo fun r => some (r.1, r.2)) r69.2) |> bo fun r70 =>
      (pickX r65.1 r70.1 (.bool false)) |> bo fun t85 =>
      retK m.length r70.2 [t0] t85))
 | _, _ => none
noncomputable def C_spec_l5Ranges : List Value → Mem → Option VM := fcall X_spec_l5Ranges
@[simp] theorem c_spec_l5Ranges : C_spec_l5Ranges = fcall X_spec_l5Ranges := (rfl)
theorem cok_spec_l5Ranges : codeOk CT Tryd.f36 (Tryd.f36.body.get rfl) = true := by kernel_rfl
theorem xe_spec_l5Ranges (t0 : Value) (m : Mem) : ex CT cf_spec_l5Ranges Tryd.f36 1 m.length [] (fun _ _ _ => none) 400 [.code (Tryd.f36.body.get rfl)] (argsT 0 [t0]) m = X_spec_l5Ranges [t0] m := by kernel_rfl
theorem okc_spec_l5Ranges : CallOK CT cf_spec_l5Ranges := cfc_ok ok_C_spec_l1In (cfc_ok ok_C_spec_l3Place (cfc_ok ok_C_spec_l3Attr (cfc_ok ok_C_spec_l2Table cfn_ok)))
theorem ok_X_spec_l5Ranges : OkX CT 36 X_spec_l5Ranges := OkX.of_ex (cf := cf_spec_l5Ranges) (np := 1) (LL := []) (J := (fun _ _ _ _ => none)) CT_ok rfl Tryd.func36 rfl (Nat.le_of_ble_eq_true rfl) (by decide) cok_spec_l5Ranges okc_spec_l5Ranges (fun k => noLoops rfl) (fun args m r h => match args, h with
  | [t0], h => ⟨rfl, (xe_spec_l5Ranges t0 m).trans h⟩)
theorem ok_C_spec_l5Ranges : OkC CT 36 C_spec_l5Ranges := fcall_ok rfl ok_X_spec_l5Ranges
noncomputable def cf_spec_l5Region : CallF := cfn
noncomputable def X_spec_l5Region : List Value → Mem → Option VM
 | [t0, t1, t2], m =>
  (binX .geq .no t0 (.int .i64 0)) |> bo fun t8 =>
  (gd t8 true (some (t1, m)) m) |> bo fun r2 =>
  (gd t8 true (some (t2, r2.2)) r2.2) |> bo fun r3 =>
  (gd t8 true ((binX .lss .no r2.1 r3.1) |> bo fun v => some (v, r3.2)) r3.2) |> bo fun r4 =>
  (pickX t8 r4.1 (.bool false)) |> bo fun t13 =>
  (gd t13 true (some (t0, r4.2)) r4.2) |> bo fun r6 =>
  (gd t13 true (some (t1, r6.2)) r6.2) |> bo fun r7 =>
  (gd t13 true ((binX .lss .no r6.1 r7.1) |> bo fun v => some (v, r7.2)) r7.2) |> bo fun r8 =>
  (gd t13 true (some (r8.1, r8.2)) r8.2) |> bo fun r9 =>
  (gd r9.1 false (some (t0, r9.2)) r9.2) |> bo fun r10 =>
  (gd r9.1 false ((binX .eql .no r10.1 (.int .i64 0)) |> bo fun v => some (v, r10.2)) r10.2) |> bo fun r11 =>
  (gd r9.1 false (some (r11.1, r11.2)) r11.2) |> bo fun r12 =>
  (gd r12.1 true (some (t1, r12.2)) r12.2) |> bo fun r13 =>
  (gd r12.1 true (some (t2, r13.2)) r13.2) |> bo fun r14 =>
  (gd r12.1 true ((binX .sub .no r14.1 (.int .i64 1)) |> bo fun v => some (v, r14.2)) r14.2) |> bo fun r15 =>
  (gd r12.1 true ((binX .eql .no r13.1 r15.1) |> bo fun v => some (v, r15.2)) r15.2) |> bo fun r16 =>
  (gd r9.1 false ((pickX r12.1 r16.1 (.bool false)) |> bo fun v => some (v, r16.2)) r16.2) |> bo fun r17 =>
  (gd t13 true ((pickX r9.1 (.bool true) r17.1) |> bo fun v => some (v, r17.2)) r17.2) |> bo fun r18 =>
  (pickX t13 r18.1 (.bool false)) |> bo fun t28 =>
  retK m.length r18.2 [t0, t1, t2] t28
 | _, _ => none
noncomputable def C_spec_l5Region : List Value → Mem → Option VM := fcall X_spec_l5Region
@[simp] theorem c_spec_l5Region : C_spec_l5Region = fcall X_spec_l5Region := (rfl)
theorem cok_spec_l5Region : codeOk CT Tryd.f59 (Tryd.f59.body.get rfl) = true := by kernel_rfl
theorem xe_spec_l5Region (t0 t1 t2 : Value) (m : Mem) : ex CT cf_spec_l5Region Tryd.f59 3 m.length [] (fun _ _ _ => none) 400 [.code (Tryd.f59.body.get rfl)] (argsT 0 [t0, t1, t2]) m = X_spec_l5Region [t0, t1, t2] m := by kernel_rfl
theorem okc_spec_l5Region : CallOK CT cf_spec_l5Region := cfn_ok
theorem ok_X_spec_l5Region : OkX CT 59 X_spec_l5Region := OkX.of_ex (cf := cf_spec_l5Region) (np := 3) (LL := []) (J := (fun _ _ _ _ => none)) CT_ok rfl Tryd.func59 rfl (Nat.le_of_ble_eq_true rfl) (by decide) cok_spec_l5Region okc_spec_l5Region (fun k => noLoops rfl) (fun args m r h => match args, h with
  | [t0, t1, t2], h => ⟨rfl, (xe_spec_l5Region t0 t1 t2 m).trans h⟩)
theorem ok_C_spec_l5Region : OkC CT 59 C_spec_l5Region := fcall_ok rfl ok_X_spec_l5Region
noncomputable def cf_spec_l5Form : CallF := cfc 17 C_spec_l1In (cfc 59 C_spec_l5Region cfn)
noncomputable def X_spec_l5Form : List Value → Mem → Option VM
 | [t0], m =>
  (nilX t0) |> bo fun t4 =>
  (fadX 8 t4) |> bo fun t5 =>
  (ld1 m t5) |> bo fun t6 =>
  (nilX t0) |> bo fun t8 =>
  (fadX 9 t8) |> bo fun t9 =>
  (ld1 m t9) |> bo fun t10 =>
  (nilX t0) |> bo fun t12 =>
  (fadX 0 t12) |> bo fun t13 =>
  (fadX 0 t13) |> bo fun t14 =>
  (ld1 m t14) |> bo fun t15 =>
  (C_spec_l5Region [t6, t10, t15] m) |> bo fun r11 =>
  (uop .not r11.1) |> bo fun t17 =>
  (gd t17 false (some (t0, r11.2)) r11.2) |> bo fun r13 =>
  (gd t17 false ((nilX r13.1) |> bo fun v => some (v, r13.2)) r13.2) |> bo fun r14 =>
  (gd t17 false ((fadX 13 r14.1) |> bo fun v => some (v, r14.2)) r14.2) |> bo fun r15 =>
  (gd t17 false ((ld1 r15.2 r15.1) |> bo fun v => some (v, r15.2)) r15.2) |> bo fun r16 =>
  (gd t17 false ((lenX r16.1) |> bo fun v => some (v, r16.2)) r16.2) |> bo fun r17 =>
  (gd t17 false (some (t0, r17.2)) r17.2) |> bo fun r18 =>
  (gd t17 false ((nilX r18.1) |> bo fun v => some (v, r18.2)) r18.2) |> bo fun r19 =>
  (gd t17 false ((fadX 0 r19.1) |> bo fun v => some (v, r19.2)) r19.2) |> bo fun r20 =>
  (gd t17 false ((fadX 1 r20.1) |> bo fun v => some (v, r20.2)) r20.2) |> bo fun r21 =>
  (gd t17 false ((ld1 r21.2 r21.1) |> bo fun v => some (v, r21.2)) r21.2) |> bo fun r22 =>
  (gd t17 false ((binX .neq .no r17.1 r22.1) |> bo fun v => some (v, r22.2)) r22.2) |> bo fun r23 =>
  (pickX t17 (.bool true) r23.1) |> bo fun t30 =>
  brX t30
   (
    retK m.length r23.2 [t0] (.bool false))
   (
    (nilX t0) |> bo fun t32 =>
    (fadX 6 t32) |> bo fun t33 =>
    (ld1 r23.2 t33) |> bo fun t34 =>
    (gd t34 true (some (t0, r23.2)) r23.2) |> bo fun r28 =>
    (gd t34 true ((nilX r28.1) |> bo fun v => some (v, r28.2)) r28.2) |> bo fun r29 =>
    (gd t34 true ((fadX 11 r29.1) |> bo fun v => some (v, r29.2)) r29.2) |> bo fun r30 =>
    (gd t34 true ((ld1 r30.2 r30.1) |> bo fun v => some (v, r30.2)) r30.2) |> bo fun r31 =>
    (gd t34 true ((uop .not r31.1) |> bo fun v => some (v, r31.2)) r31.2) |> bo fun r32 =>
    (gd t34 true (some (r32.1, r32.2)) r32.2) |> bo fun r33 =>
    (gd r33.1 false (some (t0, r33.2)) r33.2) |> bo fun r34 =>
    (gd r33.1 false ((nilX r34.1) |> bo fun v => some (v, r34.2)) r34.2) |> bo fun r35 =>
    (gd r33.1 false ((fadX 5 r35.1) |> bo fun v => some (v, r35.2)) r35.2) |> bo fun r36 =>
    (gd r33.1 false ((ld1 r36.2 r36.1) |> bo fun v => some (v, r36.2)) r36.2) |> bo fun r37 =>
    (gd r33.1 false (some (t0, r37.2)) r37.2) |> bo fun r38 =>
    (gd r33.1 false ((nilX r38.1) |> bo fun v => some (v, r38.2)) r38.2) |> bo fun r39 =>
    (gd r33.1 false ((fadX 0 r39.1) |> bo fun v => some (v, r39.2)) r39.2) |> bo fun r40 =>
    (gd r33.1 false ((fadX 1 r40.1) |> bo fun v => some (v, r40.2)) r40.2) |> bo fun r41 =>
    (gd r33.1 false ((ld1 r41.2 r41.1) |> bo fun v => some (v, r41.2)) r41.2) |> bo fun r42 =>
    (gd r33.1 false ((binX .sub .no r42.1 (.int .i64 1)) |> bo fun v => some (v, r42.2)) r42.2) |> bo fun r43 =>
    (gd r33.1 false ((binX .neq .no r37.1 r43.1) |> bo fun v => some (v, r43.2)) r43.2) |> bo fun r44 =>
    (gd t34 true ((pickX r33.1 (.bool true) r44.1) |> bo fun v => some (v, r44.2)) r44.2) |> bo fun r45 =>
    (pickX t34 r45.1 (.bool false)) |> bo fun t54 =>
    brX t54
     (
      retK m.length r45.2 [t0] (.bool false))
     (
      (nilX t0) |> bo fun t56 =>
      (fadX 10 t56) |> bo fun t57 =>
      (ld1 r45.2 t57) |> bo fun t58 =>
      (uop .not t58) |> bo fun t59 =>
      (gd t59 false (some (t0, r45.2)) r45.2) |> bo fun r51 =>
      (gd t59 false ((nilX r51.1) |> bo fun v => some (v, r51.2)) r51.2) |> bo fun r52 =>
      (gd t59 false ((fadX 4 r52.1) |> bo fun v => some (v, r52.2)) r52.2) |> bo fun r53 =>
      (gd t59 false ((ld1 r53.2 r53.1) |> bo fun v => some (v, r53.2)) r53.2) |> bo fun r54 =>
      (gd t59 false (some (t0, r54.2)) r54.2) |> bo fun r55 =>
      (gd t59 false ((nilX r55.1) |> bo fun v => some (v, r55.2)) r55.2) |> bo fun r56 =>
      (gd t59 false ((fadX 8 r56.1) |> bo fun v => some (v, r56.2)) r56.2) |> bo fun r57 =>
      (gd t59 false ((ld1 r57.2 r57.1) |> bo fun v => some (v, r57.2)) r57.2) |> bo fun r58 =>
      (gd t59 false (some (t0, r58.2)) r58.2) |> bo fun r59 =>
      (gd t59 false ((nilX r59.1) |> bo fun v => some (v, r59.2)) r59.2) |> bo fun r60 =>
      (gd t59 false ((fadX 9 r60.1) |> bo fun v => some (v, r60.2)) r60.2) |> bo fun r61 =>
      (gd t59 false ((ld1 r61.2 r61.1) |> bo fun v => some (v, r61.2)) r61.2) |> bo fun r62 =>
      (gd t59 false ((C_spec_l1In [r54.1, r58.1, r62.1] r62.2) |> bo fun r => some (r.1, r.2)) r62.2) |> bo fun r63 =>
      (pickX t59 (.bool true) r63.1) |> bo fun t74 =>
      retK m.length r63.2 [t0] t74))
 | _, _ => none
noncomputable def C_spec_l5Form : List Value → Mem → Option VM := fcall X_spec_l5Form
@[simp] theorem c_spec_l5Form : C_spec_l5Form = fcall X_spec_l5Form := (rfl)
theorem cok_spec_l5Form : codeOk CT Tryd.f37 (Tryd.f37.body.get rfl) = true := by kernel_rfl
theorem xe_spec_l5Form (t0 : Value) (m : Mem) : ex CT cf_spec_l5Form Tryd.f37 1 m.length [] (fun _ _ _ => none) 400 [.code (Tryd.f37.body.get rfl)] (argsT 0 [t0]) m = X_spec_l5Form [t0] m := by kernel_rfl
theorem okc_spec_l5Form : CallOK CT cf_spec_l5Form := cfc_ok ok_C_spec_l1In (cfc_ok ok_C_spec_l5Region cfn_ok)
theorem ok_X_spec_l5Form : OkX CT 37 X_spec_l5Form := OkX.of_ex (cf := cf_spec_l5Form) (np := 1) (LL := []) (J := (fun _ _ _ _ => none)) CT_ok rfl Tryd.func37 rfl (Nat.le_of_ble_eq_true rfl) (by decide) cok_spec_l5Form okc_spec_l5Form (fun k => noLoops rfl) (fun args m r h => match args, h with
  | [t0], h => ⟨rfl, (xe_spec_l5Form t0 m).trans h⟩)
theorem ok_C_spec_l5Form : OkC CT 37 C_spec_l5Form := fcall_ok rfl ok_X_spec_l5Form
noncomputable def cf_spec_l5Fault : CallF := cfc 35 C_spec_l3Fault (cfc 36 C_spec_l5Ranges (cfc 37 C_spec_l5Form cfn))
noncomputable def X_spec_l5Fault : List Value → Mem → Option VM
 | [t0], m =>
  (nilX t0) |> bo fun t5 =>
  (fadX 0 t5) |> bo fun t6 =>
  (C_spec_l3Fault [t6] m) |> bo fun r3 =>
  (binX .neq .no r3.1 (.int .i64 0)) |> bo fun t9 =>
  brX t9
   (
    retK m.length r3.2 [t0] r3.1)
   (
    (C_spec_l5Ranges [t0] r3.2) |> bo fun r5 =>
    (uop .not r5.1) |> bo fun t13 =>
    brX t13
     (
      retK m.length r5.2 [t0] (.int .i64 3))
     (
      (C_spec_l5Form [t0] r5.2) |> bo fun r7 =>
      (uop .not r7.1) |> bo fun t16 =>
      brX t16
       (
        retK m.length r7.2 [t0] (.int .i64 1))
       (
        retK m.length r7.2 [t0] (.int .i64 0))))
 | _, _ => none
noncomputable def C_spec_l5Fault : List Value → Mem → Option VM := fcall X_spec_l5Fault
@[simp] theorem c_spec_l5Fault : C_spec_l5Fault = fcall X_spec_l5Fault := (rfl)
theorem cok_spec_l5Fault : codeOk CT Tryd.f16 (Tryd.f16.body.get rfl) = true := by kernel_rfl
theorem xe_spec_l5Fault (t0 : Value) (m : Mem) : ex CT cf_spec_l5Fault Tryd.f16 1 m.length [] (fun _ _ _ => none) 400 [.code (Tryd.f16.body.get rfl)] (argsT 0 [t0]) m = X_spec_l5Fault [t0] m := by kernel_rfl
theorem okc_spec_l5Fault : CallOK CT cf_spec_l5Fault := cfc_ok ok_C_spec_l3Fault (cfc_ok ok_C_spec_l5Ranges (cfc_ok ok_C_spec_l5Form cfn_ok))
theorem ok_X_spec_l5Fault : OkX CT 16 X_spec_l5Fault := OkX.of_ex (cf := cf_spec_l5Fault) (np := 1) (LL := []) (J := (fun _ _ _ _ => none)) CT_ok rfl Tryd.func16 rfl (Nat.le_of_ble_eq_true rfl) (by decide) cok_spec_l5Fault okc_spec_l5Fault (fun k => noLoops rfl) (fun args m r h => match args, h with
  | [t0], h => ⟨rfl, (xe_spec_l5Fault t0 m).trans h⟩)
theorem ok_C_spec_l5Fault : OkC CT 16 C_spec_l5Fault := fcall_ok rfl ok_X_spec_l5Fault
noncomputable def R_spec_l1Digits : Nat → List Value → Mem → Option VM
 | q + 1, [t0], m =>
  (binX .lss .no t0 (.int .i64 10)) |> bo fun t4 =>
  brX t4
   (
    (binX .add .no (.int .i64 48) t0) |> bo fun t6 =>
    (cvI .u8 t6) |> bo fun t7 =>
    (bslX m 1 1 [.int .u8 0] [(0, 1, t7)]) |> bo fun r4 =>
    (cvBS r4.2 r4.1) |> bo fun t9 =>
    retK m.length r4.2 [t0] t9)
   (
    (binX .quo .no t0 (.int .i64 10)) |> bo fun t11 =>
    ((fcall (R_spec_l1Digits q)) [t11] m) |> bo fun r7 =>
    (binX .rem .no t0 (.int .i64 10)) |> bo fun t14 =>
    (binX .add .no (.int .i64 48) t14) |> bo fun t15 =>
    (cvI .u8 t15) |> bo fun t16 =>
    (bslX r7.2 1 1 [.int .u8 0] [(0, 1, t16)]) |> bo fun r11 =>
    (cvBS r11.2 r11.1) |> bo fun t18 =>
    (binX .add .no r7.1 t18) |> bo fun t19 =>
    gP (stbL [((rdN r11.1), m, r7.2)])
     (
      retK m.length r11.2 [t0] t19))
 | _, _, _ => none
noncomputable def X_spec_l1Digits : List Value → Mem → Option VM := R_spec_l1Digits QQ
noncomputable def cf_spec_l1Digits (q : Nat) : CallF := cfc 60 (fcall (R_spec_l1Digits q)) (cfn)
noncomputable def C_spec_l1Digits : List Value → Mem → Option VM := fcall X_spec_l1Digits
@[simp] theorem c_spec_l1Digits : C_spec_l1Digits = fcall X_spec_l1Digits := (rfl)
theorem cok_spec_l1Digits : codeOk CT Tryd.f60 (Tryd.f60.body.get rfl) = true := by kernel_rfl
theorem xe_spec_l1Digits (q : Nat) (t0 : Value) (m : Mem) : ex CT (cf_spec_l1Digits q) Tryd.f60 1 m.length [] (fun _ _ _ => none) 400 [.code (Tryd.f60.body.get rfl)] (argsT 0 [t0]) m = R_spec_l1Digits (q + 1) [t0] m := by kernel_rfl
theorem ok_R_spec_l1Digits : ∀ q, OkX CT 60 (R_spec_l1Digits q)
 | 0 => fun args m v m' h => by cases h
 | q + 1 => OkX.of_ex (cf := cf_spec_l1Digits q) (np := 1) (LL := []) (J := fun _ _ _ _ => none) CT_ok rfl Tryd.func60 rfl (Nat.le_of_ble_eq_true rfl) (by decide) cok_spec_l1Digits (cfc_ok (fcall_ok rfl (ok_R_spec_l1Digits q)) (cfn_ok)) (fun k => noLoops rfl) (fun args m r h => match args, h with
  | [t0], h => ⟨rfl, (xe_spec_l1Digits q t0 m).trans h⟩)
theorem ok_X_spec_l1Digits : OkX CT 60 X_spec_l1Digits := ok_R_spec_l1Digits QQ
theorem ok_C_spec_l1Digits : OkC CT 60 C_spec_l1Digits := fcall_ok rfl ok_X_spec_l1Digits
noncomputable def cf_spec_l7Place : CallF := cfc 60 C_spec_l1Digits cfn
noncomputable def X_spec_l7Place : List Value → Mem → Option VM
 | [t0, t1], m =>
  (binX .add .no t0 (.int .i64 1)) |> bo fun t6 =>
  (C_spec_l1Digits [t6] m) |> bo fun r2 =>
  (binX .add .no (.string ⟨#[27, 91]⟩) r2.1) |> bo fun t8 =>
  (binX .add .no t8 (.string ⟨#[59]⟩)) |> bo fun t9 =>
  (binX .add .no t1 (.int .i64 1)) |> bo fun t11 =>
  (C_spec_l1Digits [t11] r2.2) |> bo fun r6 =>
  (binX .add .no t9 r6.1) |> bo fun t13 =>
  (binX .add .no t13 (.string ⟨#[72]⟩)) |> bo fun t14 =>
  (cvSB r6.2 t14) |> bo fun r9 =>
  retK m.length r9.2 [t0, t1] r9.1
 | _, _ => none
noncomputable def C_spec_l7Place : List Value → Mem → Option VM := fcall X_spec_l7Place
@[simp] theorem c_spec_l7Place : C_spec_l7Place = fcall X_spec_l7Place := (rfl)
theorem cok_spec_l7Place : codeOk CT Tryd.f38 (Tryd.f38.body.get rfl) = true := by kernel_rfl
theorem xe_spec_l7Place (t0 t1 : Value) (m : Mem) : ex CT cf_spec_l7Place Tryd.f38 2 m.length [] (fun _ _ _ => none) 400 [.code (Tryd.f38.body.get rfl)] (argsT 0 [t0, t1]) m = X_spec_l7Place [t0, t1] m := by kernel_rfl
theorem okc_spec_l7Place : CallOK CT cf_spec_l7Place := cfc_ok ok_C_spec_l1Digits cfn_ok
theorem ok_X_spec_l7Place : OkX CT 38 X_spec_l7Place := OkX.of_ex (cf := cf_spec_l7Place) (np := 2) (LL := []) (J := (fun _ _ _ _ => none)) CT_ok rfl Tryd.func38 rfl (Nat.le_of_ble_eq_true rfl) (by decide) cok_spec_l7Place okc_spec_l7Place (fun k => noLoops rfl) (fun args m r h => match args, h with
  | [t0, t1], h => ⟨rfl, (xe_spec_l7Place t0 t1 m).trans h⟩)
theorem ok_C_spec_l7Place : OkC CT 38 C_spec_l7Place := fcall_ok rfl ok_X_spec_l7Place
noncomputable def cf_spec_l3RowOf : CallF := cfn
noncomputable def X_spec_l3RowOf : List Value → Mem → Option VM
 | [t0, t1], m =>
  (bslX m 0 2 [.int .i64 0, .int .i64 0] []) |> bo fun r1 =>
  (nilX t0) |> bo fun t7 =>
  (fadX 2 t7) |> bo fun t8 =>
  (ld1 r1.2 t8) |> bo fun t9 =>
  (nilX t0) |> bo fun t12 =>
  (fadX 1 t12) |> bo fun t13 =>
  (ld1 r1.2 t13) |> bo fun t14 =>
  (binX .mul .no t1 t14) |> bo fun t15 =>
  (binX .add .no t1 (.int .i64 1)) |> bo fun t17 =>
  (nilX t0) |> bo fun t19 =>
  (fadX 1 t19) |> bo fun t20 =>
  (ld1 r1.2 t20) |> bo fun t21 =>
  (binX .mul .no t17 t21) |> bo fun t22 =>
  (slX r1.2 2 t9 (some t15) (some t22)) |> bo fun t23 =>
  (apL r1.2 2 16 r1.1 t23) |> bo fun r15 =>
  retK m.length r15.2 [t0, t1] r15.1
 | _, _ => none
noncomputable def C_spec_l3RowOf : List Value → Mem → Option VM := fcall X_spec_l3RowOf
@[simp] theorem c_spec_l3RowOf : C_spec_l3RowOf = fcall X_spec_l3RowOf := (rfl)
theorem cok_spec_l3RowOf : codeOk CT Tryd.f39 (Tryd.f39.body.get rfl) = true := by kernel_rfl
theorem xe_spec_l3RowOf (t0 t1 : Value) (m : Mem) : ex CT cf_spec_l3RowOf Tryd.f39 2 m.length [] (fun _ _ _ => none) 400 [.code (Tryd.f39.body.get rfl)] (argsT 0 [t0, t1]) m = X_spec_l3RowOf [t0, t1] m := by kernel_rfl
theorem okc_spec_l3RowOf : CallOK CT cf_spec_l3RowOf := cfn_ok
theorem ok_X_spec_l3RowOf : OkX CT 39 X_spec_l3RowOf := OkX.of_ex (cf := cf_spec_l3RowOf) (np := 2) (LL := []) (J := (fun _ _ _ _ => none)) CT_ok rfl Tryd.func39 rfl (Nat.le_of_ble_eq_true rfl) (by decide) cok_spec_l3RowOf okc_spec_l3RowOf (fun k => noLoops rfl) (fun args m r h => match args, h with
  | [t0, t1], h => ⟨rfl, (xe_spec_l3RowOf t0 t1 m).trans h⟩)
theorem ok_C_spec_l3RowOf : OkC CT 39 C_spec_l3RowOf := fcall_ok rfl ok_X_spec_l3RowOf
noncomputable def cf_spec_l7Attr : CallF := cfc 60 C_spec_l1Digits cfn
noncomputable def X_spec_l7Attr : List Value → Mem → Option VM
 | [t0], m =>
  (binX .rem .no t0 (.int .i64 8)) |> bo fun t5 =>
  (binX .add .no (.int .i64 30) t5) |> bo fun t6 =>
  (C_spec_l1Digits [t6] m) |> bo fun r3 =>
  (binX .add .no (.string ⟨#[27, 91, 48, 59]⟩) r3.1) |> bo fun t8 =>
  (binX .and .no t0 (.int .i64 8)) |> bo fun t10 =>
  (binX .neq .no t10 (.int .i64 0)) |> bo fun t11 =>
  brX t11
   (
    (binX .add .no t8 (.string ⟨#[59, 49]⟩)) |> bo fun t13 =>
    (binX .and .no t0 (.int .i64 16)) |> bo fun t15 =>
    (binX .neq .no t15 (.int .i64 0)) |> bo fun t16 =>
    brX t16
     (
      (binX .add .no t13 (.string ⟨#[59, 55]⟩)) |> bo fun t18 =>
      (binX .add .no t18 (.string ⟨#[109]⟩)) |> bo fun t20 =>
      (cvSB r3.2 t20) |> bo fun r12 =>
      retK m.length r12.2 [t0] r12.1)
     (
      (binX .add .no t13 (.string ⟨#[109]⟩)) |> bo fun t20 =>
      (cvSB r3.2 t20) |> bo fun r14 =>
      retK m.length r14.2 [t0] r14.1))
   (
    (binX .and .no t0 (.int .i64 16)) |> bo fun t15 =>
    (binX .neq .no t15 (.int .i64 0)) |> bo fun t16 =>
    brX t16
     (
      (binX .add .no t8 (.string ⟨#[59, 55]⟩)) |> bo fun t18 =>
      (binX .add .no t18 (.string ⟨#[109]⟩)) |> bo fun t20 =>
      (cvSB r3.2 t20) |> bo fun r19 =>
      retK m.length r19.2 [t0] r19.1)
     (
      (binX .add .no t8 (.string ⟨#[109]⟩)) |> bo fun t20 =>
      (cvSB r3.2 t20) |> bo fun r21 =>
      retK m.length r21.2 [t0] r21.1))
 | _, _ => none
noncomputable def C_spec_l7Attr : List Value → Mem → Option VM := fcall X_spec_l7Attr
@[simp] theorem c_spec_l7Attr : C_spec_l7Attr = fcall X_spec_l7Attr := (rfl)
theorem cok_spec_l7Attr : codeOk CT Tryd.f40 (Tryd.f40.body.get rfl) = true := by kernel_rfl
theorem xe_spec_l7Attr (t0 : Value) (m : Mem) : ex CT cf_spec_l7Attr Tryd.f40 1 m.length [] (fun _ _ _ => none) 400 [.code (Tryd.f40.body.get rfl)] (argsT 0 [t0]) m = X_spec_l7Attr [t0] m := by kernel_rfl
theorem okc_spec_l7Attr : CallOK CT cf_spec_l7Attr := cfc_ok ok_C_spec_l1Digits cfn_ok
theorem ok_X_spec_l7Attr : OkX CT 40 X_spec_l7Attr := OkX.of_ex (cf := cf_spec_l7Attr) (np := 1) (LL := []) (J := (fun _ _ _ _ => none)) CT_ok rfl Tryd.func40 rfl (Nat.le_of_ble_eq_true rfl) (by decide) cok_spec_l7Attr okc_spec_l7Attr (fun k => noLoops rfl) (fun args m r h => match args, h with
  | [t0], h => ⟨rfl, (xe_spec_l7Attr t0 m).trans h⟩)
theorem ok_C_spec_l7Attr : OkC CT 40 C_spec_l7Attr := fcall_ok rfl ok_X_spec_l7Attr
noncomputable def cf_spec_l1Encode : CallF := cfn
noncomputable def X_spec_l1Encode : List Value → Mem → Option VM
 | [t0], m =>
  (binX .lss .no t0 (.int .i64 128)) |> bo fun t4 =>
  brX t4
   (
    (cvI .u8 t0) |> bo fun t6 =>
    (bslX m 1 1 [.int .u8 0] [(0, 1, t6)]) |> bo fun r3 =>
    retK m.length r3.2 [t0] r3.1)
   (
    (binX .lss .no t0 (.int .i64 2048)) |> bo fun t9 =>
    brX t9
     (
      (binX .quo .no t0 (.int .i64 64)) |> bo fun t11 =>
      (binX .add .no (.int .i64 192) t11) |> bo fun t12 =>
      (cvI .u8 t12) |> bo fun t13 =>
      (binX .rem .no t0 (.int .i64 64)) |> bo fun t15 =>
      (binX .add .no (.int .i64 128) t15) |> bo fun t16 =>
      (cvI .u8 t16) |> bo fun t17 =>
      (bslX m 2 1 [.int .u8 0] [(0, 1, t13), (1, 1, t17)]) |> bo fun r11 =>
      retK m.length r11.2 [t0] r11.1)
     (
      (binX .quo .no t0 (.int .i64 4096)) |> bo fun t20 =>
      (binX .add .no (.int .i64 224) t20) |> bo fun t21 =>
      (cvI .u8 t21) |> bo fun t22 =>
      (binX .quo .no t0 (.int .i64 64)) |> bo fun t24 =>
      (binX .rem .no t24 (.int .i64 64)) |> bo fun t25 =>
      (binX .add .no (.int .i64 128) t25) |> bo fun t26 =>
      (cvI .u8 t26) |> bo fun t27 =>
      (binX .rem .no t0 (.int .i64 64)) |> bo fun t29 =>
      (binX .add .no (.int .i64 128) t29) |> bo fun t30 =>
      (cvI .u8 t30) |> bo fun t31 =>
      (bslX m 3 1 [.int .u8 0] [(0, 1, t22), (1, 1, t27), (2, 1, t31)]) |> bo fun r22 =>
      retK m.length r22.2 [t0] r22.1))
 | _, _ => none
noncomputable def C_spec_l1Encode : List Value → Mem → Option VM := fcall X_spec_l1Encode
@[simp] theorem c_spec_l1Encode : C_spec_l1Encode = fcall X_spec_l1Encode := (rfl)
theorem cok_spec_l1Encode : codeOk CT Tryd.f41 (Tryd.f41.body.get rfl) = true := by kernel_rfl
theorem xe_spec_l1Encode (t0 : Value) (m : Mem) : ex CT cf_spec_l1Encode Tryd.f41 1 m.length [] (fun _ _ _ => none) 400 [.code (Tryd.f41.body.get rfl)] (argsT 0 [t0]) m = X_spec_l1Encode [t0] m := by kernel_rfl
theorem okc_spec_l1Encode : CallOK CT cf_spec_l1Encode := cfn_ok
theorem ok_X_spec_l1Encode : OkX CT 41 X_spec_l1Encode := OkX.of_ex (cf := cf_spec_l1Encode) (np := 1) (LL := []) (J := (fun _ _ _ _ => none)) CT_ok rfl Tryd.func41 rfl (Nat.le_of_ble_eq_true rfl) (by decide) cok_spec_l1Encode okc_spec_l1Encode (fun k => noLoops rfl) (fun args m r h => match args, h with
  | [t0], h => ⟨rfl, (xe_spec_l1Encode t0 m).trans h⟩)
theorem ok_C_spec_l1Encode : OkC CT 41 C_spec_l1Encode := fcall_ok rfl ok_X_spec_l1Encode
noncomputable def cf_spec_l7Row : CallF := cfc 38 C_spec_l7Place (cfc 39 C_spec_l3RowOf (cfc 40 C_spec_l7Attr (cfc 41 C_spec_l1Encode cfn)))
noncomputable def L_spec_l7Row (k : Nat) : Nat → Nat → List Value → Mem → Option VM
 | q + 1, 0, [t5, t6, t7], m =>
  (lenX t6) |> bo fun t17 =>
  (binX .lss .no t7 t17) |> bo fun t18 =>
  brX t18
   (
    (binX .eql .no t7 (.int .i64 0)) |> bo fun t22 =>
    (gd t22 false (some (t6, m)) m) |> bo fun r4 =>
    (gd t22 false (some (t7, r4.2)) r4.2) |> bo fun r5 =>
    (gd t22 false ((ixaX 2 r4.1 r5.1) |> bo fun v => some (v, r5.2)) r5.2) |> bo fun r6 =>
    (gd t22 false ((fadX 1 r6.1) |> bo fun v => some (v, r6.2)) r6.2) |> bo fun r7 =>
    (gd t22 false ((ld1 r7.2 r7.1) |> bo fun v => some (v, r7.2)) r7.2) |> bo fun r8 =>
    (gd t22 false (some (t6, r8.2)) r8.2) |> bo fun r9 =>
    (gd t22 false (some (t7, r9.2)) r9.2) |> bo fun r10 =>
    (gd t22 false ((binX .sub .no r10.1 (.int .i64 1)) |> bo fun v => some (v, r10.2)) r10.2) |> bo fun r11 =>
    (gd t22 false ((ixaX 2 r9.1 r11.1) |> bo fun v => some (v, r11.2)) r11.2) |> bo fun r12 =>
    (gd t22 false ((fadX 1 r12.1) |> bo fun v => some (v, r12.2)) r12.2) |> bo fun r13 =>
    (gd t22 false ((ld1 r13.2 r13.1) |> bo fun v => some (v, r13.2)) r13.2) |> bo fun r14 =>
    (gd t22 false ((binX .neq .no r8.1 r14.1) |> bo fun v => some (v, r14.2)) r14.2) |> bo fun r15 =>
    (pickX t22 (.bool true) r15.1) |> bo fun t36 =>
    brX t36
     (
      (ixaX 2 t6 t7) |> bo fun t40 =>
      (fadX 1 t40) |> bo fun t41 =>
      (ld1 r15.2 t41) |> bo fun t42 =>
      (C_spec_l7Attr [t42] r15.2) |> bo fun r20 =>
      (apL r20.2 1 1 t5 r20.1) |> bo fun r21 =>
      (ixaX 2 t6 t7) |> bo fun t48 =>
      (fadX 0 t48) |> bo fun t49 =>
      (ld1 r21.2 t49) |> bo fun t50 =>
      (C_spec_l1Encode [t50] r21.2) |> bo fun r25 =>
      (apL r25.2 1 1 r21.1 r25.1) |> bo fun r26 =>
      (binX .add .no t7 (.int .i64 1)) |> bo fun t20 =>
      cutK k r26.2 [] [r26.1, t6, t20] (L_spec_l7Row k q 0))
     (
      (ixaX 2 t6 t7) |> bo fun t48 =>
      (fadX 0 t48) |> bo fun t49 =>
      (ld1 r15.2 t49) |> bo fun t50 =>
      (C_spec_l1Encode [t50] r15.2) |> bo fun r31 =>
      (apL r31.2 1 1 t5 r31.1) |> bo fun r32 =>
      (binX .add .no t7 (.int .i64 1)) |> bo fun t20 =>
      cutK k r32.2 [] [r32.1, t6, t20] (L_spec_l7Row k q 0)))
   (
    retK k m [] t5)
 | _, _, _, _ => none
noncomputable def J_spec_l7Row (k q l : Nat) : List Value → Mem → Option VM := cond (Nat.beq l 4) (L_spec_l7Row k q 0) (fun _ _ => none)
def LL_spec_l7Row : List (Nat × List Tmp) := [(4, [5, 6, 7])]
noncomputable def X_spec_l7Row : List Value → Mem → Option VM
 | [t0, t1], m =>
  (C_spec_l7Place [t1, (.int .i64 0)] m) |> bo fun r1 =>
  (nilX t0) |> bo fun t11 =>
  (fadX 0 t11) |> bo fun t12 =>
  (C_spec_l3RowOf [t12, t1] r1.2) |> bo fun r4 =>
  cutK m.length r4.2 [t0, t1] [r1.1, r4.1, (.int .i64 0)] (L_spec_l7Row m.length QQ 0)
 | _, _ => none
noncomputable def C_spec_l7Row : List Value → Mem → Option VM := fcall X_spec_l7Row
@[simp] theorem c_spec_l7Row : C_spec_l7Row = fcall X_spec_l7Row := (rfl)
theorem cok_spec_l7Row : codeOk CT Tryd.f18 (Tryd.f18.body.get rfl) = true := by kernel_rfl
theorem xe_spec_l7Row (t0 t1 : Value) (m : Mem) : ex CT cf_spec_l7Row Tryd.f18 2 m.length LL_spec_l7Row (J_spec_l7Row m.length QQ) 400 [.code (Tryd.f18.body.get rfl)] (argsT 0 [t0, t1]) m = X_spec_l7Row [t0, t1] m := by kernel_rfl
theorem okc_spec_l7Row : CallOK CT cf_spec_l7Row := cfc_ok ok_C_spec_l7Place (cfc_ok ok_C_spec_l3RowOf (cfc_ok ok_C_spec_l7Attr (cfc_ok ok_C_spec_l1Encode cfn_ok)))
theorem le_spec_l7Row_0 (k q : Nat) (t5 t6 t7 : Value) (m : Mem) : ex CT cf_spec_l7Row Tryd.f18 2 k LL_spec_l7Row (J_spec_l7Row k q) 400 (atLoop Tryd.f18 0) [(5, t5), (6, t6), (7, t7)] m = J_spec_l7Row k (q + 1) 4 [t5, t6, t7] m := by kernel_rfl
theorem gl_spec_l7Row (k : Nat) : ∀ q i, i < 1 → GoodL CT k Tryd.f18 LL_spec_l7Row (J_spec_l7Row k q) (atLoop Tryd.f18 i)
 | 0, 0, _ => goodL_zero (l := 4) (by kernel_rfl) (fun vs m => by kernel_rfl)
 | 0, _ + 1, h => absurd h (by omega)
 | q + 1, 0, _ => goodL_succ (np := 2) (l := 4) (live := [5, 6, 7]) (n := 1) CT_ok rfl okc_spec_l7Row (c := (Tryd.f18.body.get rfl)) rfl cok_spec_l7Row (by kernel_rfl) (gl_spec_l7Row k q) (by kernel_rfl) rfl (fun vs m r hl h => match vs, hl with
  | [t5, t6, t7], _ => (le_spec_l7Row_0 k q t5 t6 t7 m).trans h)
 | _ + 1, _ + 1, h => absurd h (by omega)
theorem ok_X_spec_l7Row : OkX CT 18 X_spec_l7Row := OkX.of_ex (cf := cf_spec_l7Row) (np := 2) (LL := LL_spec_l7Row) (J := (fun k => J_spec_l7Row k QQ)) CT_ok rfl Tryd.func18 rfl (Nat.le_of_ble_eq_true rfl) (by decide) cok_spec_l7Row okc_spec_l7Row (fun k => allLoops rfl (by kernel_rfl) (gl_spec_l7Row k QQ)) (fun args m r h => match args, h with
  | [t0, t1], h => ⟨rfl, (xe_spec_l7Row t0 t1 m).trans h⟩)
theorem ok_C_spec_l7Row : OkC CT 18 C_spec_l7Row := fcall_ok rfl ok_X_spec_l7Row
noncomputable def cf_spec_RowBytes : CallF := cfc 16 C_spec_l5Fault (cfc 17 C_spec_l1In (cfc 18 C_spec_l7Row cfn))
noncomputable def X_spec_RowBytes : List Value → Mem → Option VM
 | [t0, t1], m =>
  (boxX m t0) |> bo fun r1 =>
  (alX r1.2 [.int .i64 0, .slice none 0 0]) |> bo fun r2 =>
  (C_spec_l5Fault [r1.1] r2.2) |> bo fun r3 =>
  (binX .neq .no r3.1 (.int .i64 0)) |> bo fun t8 =>
  brX t8
   (
    (bldX [.int .i64 0, .slice none 0 0] [(0, 1, r3.1)]) |> bo fun t10 =>
    (stX r3.2 2 r2.1 t10) |> bo fun m6 =>
    (resP (some 2) m6 r2.1) |> bo fun c7 =>
    retK m.length m6 [t0, t1] c7)
   (
    (fadX 0 r1.1) |> bo fun t12 =>
    (fadX 0 t12) |> bo fun t13 =>
    (ld1 r3.2 t13) |> bo fun t14 =>
    (binX .sub .no t14 (.int .i64 1)) |> bo fun t15 =>
    (C_spec_l1In [t1, (.int .i64 0), t15] r3.2) |> bo fun r12 =>
    (uop .not r12.1) |> bo fun t17 =>
    brX t17
     (
      (bldX [.int .i64 0, .slice none 0 0] [(0, 1, (.int .i64 3))]) |> bo fun t18 =>
      (stX r12.2 2 r2.1 t18) |> bo fun m15 =>
      (resP (some 2) m15 r2.1) |> bo fun c16 =>
      retK m.length m15 [t0, t1] c16)
     (
      (C_spec_l7Row [r1.1, t1] r12.2) |> bo fun r17 =>
      (bldX [.int .i64 0, .slice none 0 0] [(1, 1, r17.1)]) |> bo fun t21 =>
      (stX r17.2 2 r2.1 t21) |> bo fun m19 =>
      (resP (some 2) m19 r2.1) |> bo fun c20 =>
      retK m.length m19 [t0, t1] c20))
 | _, _ => none
noncomputable def C_spec_RowBytes : List Value → Mem → Option VM := fcall X_spec_RowBytes
@[simp] theorem c_spec_RowBytes : C_spec_RowBytes = fcall X_spec_RowBytes := (rfl)
theorem cok_spec_RowBytes : codeOk CT Tryd.f5 (Tryd.f5.body.get rfl) = true := by kernel_rfl
theorem xe_spec_RowBytes (t0 t1 : Value) (m : Mem) : ex CT cf_spec_RowBytes Tryd.f5 2 m.length [] (fun _ _ _ => none) 400 [.code (Tryd.f5.body.get rfl)] (argsT 0 [t0, t1]) m = X_spec_RowBytes [t0, t1] m := by kernel_rfl
theorem okc_spec_RowBytes : CallOK CT cf_spec_RowBytes := cfc_ok ok_C_spec_l5Fault (cfc_ok ok_C_spec_l1In (cfc_ok ok_C_spec_l7Row cfn_ok))
theorem ok_X_spec_RowBytes : OkX CT 5 X_spec_RowBytes := OkX.of_ex (cf := cf_spec_RowBytes) (np := 2) (LL := []) (J := (fun _ _ _ _ => none)) CT_ok rfl Tryd.func5 rfl (Nat.le_of_ble_eq_true rfl) (by decide) cok_spec_RowBytes okc_spec_RowBytes (fun k => noLoops rfl) (fun args m r h => match args, h with
  | [t0, t1], h => ⟨rfl, (xe_spec_RowBytes t0 t1 m).trans h⟩)
theorem ok_C_spec_RowBytes : OkC CT 5 C_spec_RowBytes := fcall_ok rfl ok_X_spec_RowBytes
noncomputable def cf_laws_toCell : CallF := cfn
noncomputable def X_laws_toCell : List Value → Mem → Option VM
 | [t0], m =>
  (boxX m t0) |> bo fun r1 =>
  (alX r1.2 [.int .i64 0, .int .i64 0]) |> bo fun r2 =>
  (alX r2.2 [.int .i64 0, .int .i64 0]) |> bo fun r3 =>
  (fadX 0 r1.1) |> bo fun t4 =>
  (ld1 r3.2 t4) |> bo fun t5 =>
  (fadX 0 r3.1) |> bo fun t6 =>
  (stX r3.2 1 t6 t5) |> bo fun m7 =>
  (fadX 1 r1.1) |> bo fun t7 =>
  (ld1 m7 t7) |> bo fun t8 =>
  (fadX 1 r3.1) |> bo fun t9 =>
  (stX m7 1 t9 t8) |> bo fun m11 =>
  (ldS m11 2 r3.1) |> bo fun t10 =>
  (stX m11 2 r2.1 t10) |> bo fun m13 =>
  (resP (some 2) m13 r2.1) |> bo fun c14 =>
  retK m.length m13 [t0] c14
 | _, _ => none
noncomputable def C_laws_toCell : List Value → Mem → Option VM := fcall X_laws_toCell
@[simp] theorem c_laws_toCell : C_laws_toCell = fcall X_laws_toCell := (rfl)
theorem cok_laws_toCell : codeOk CT Tryd.f61 (Tryd.f61.body.get rfl) = true := by kernel_rfl
theorem xe_laws_toCell (t0 : Value) (m : Mem) : ex CT cf_laws_toCell Tryd.f61 1 m.length [] (fun _ _ _ => none) 400 [.code (Tryd.f61.body.get rfl)] (argsT 0 [t0]) m = X_laws_toCell [t0] m := by kernel_rfl
theorem okc_laws_toCell : CallOK CT cf_laws_toCell := cfn_ok
theorem ok_X_laws_toCell : OkX CT 61 X_laws_toCell := OkX.of_ex (cf := cf_laws_toCell) (np := 1) (LL := []) (J := (fun _ _ _ _ => none)) CT_ok rfl Tryd.func61 rfl (Nat.le_of_ble_eq_true rfl) (by decide) cok_laws_toCell okc_laws_toCell (fun k => noLoops rfl) (fun args m r h => match args, h with
  | [t0], h => ⟨rfl, (xe_laws_toCell t0 m).trans h⟩)
theorem ok_C_laws_toCell : OkC CT 61 C_laws_toCell := fcall_ok rfl ok_X_laws_toCell
noncomputable def cf_laws_toCellS : CallF := cfc 61 C_laws_toCell cfn
noncomputable def L_laws_toCellS (k : Nat) : Nat → Nat → List Value → Mem → Option VM
 | q + 1, 0, [t0, t3, t4], m =>
  (lenX t0) |> bo fun t10 =>
  (binX .lss .no t4 t10) |> bo fun t11 =>
  brX t11
   (
    (ixaX 2 t0 t4) |> bo fun t18 =>
    (ldS m 2 t18) |> bo fun t19 =>
    (C_laws_toCell [t19] m) |> bo fun r5 =>
    (ixaX 2 t3 t4) |> bo fun t21 =>
    (stX r5.2 2 t21 r5.1) |> bo fun m7 =>
    (binX .add .no t4 (.int .i64 1)) |> bo fun t13 =>
    cutK k m7 [t0] [t0, t3, t13] (L_laws_toCellS k q 0))
   (
    retK k m [t0] t3)
 | _, _, _, _ => none
noncomputable def J_laws_toCellS (k q l : Nat) : List Value → Mem → Option VM := cond (Nat.beq l 3) (L_laws_toCellS k q 0) (fun _ _ => none)
def LL_laws_toCellS : List (Nat × List Tmp) := [(3, [0, 3, 4])]
noncomputable def X_laws_toCellS : List Value → Mem → Option VM
 | [t0], m =>
  (lenX t0) |> bo fun t6 =>
  (mkX m 2 16 [.int .i64 0, .int .i64 0] t6 t6) |> bo fun r2 =>
  cutK m.length r2.2 [t0] [t0, r2.1, (.int .i64 0)] (L_laws_toCellS m.length QQ 0)
 | _, _ => none
noncomputable def C_laws_toCellS : List Value → Mem → Option VM := fcall X_laws_toCellS
@[simp] theorem c_laws_toCellS : C_laws_toCellS = fcall X_laws_toCellS := (rfl)
theorem cok_laws_toCellS : codeOk CT Tryd.f42 (Tryd.f42.body.get rfl) = true := by kernel_rfl
theorem xe_laws_toCellS (t0 : Value) (m : Mem) : ex CT cf_laws_toCellS Tryd.f42 1 m.length LL_laws_toCellS (J_laws_toCellS m.length QQ) 400 [.code (Tryd.f42.body.get rfl)] (argsT 0 [t0]) m = X_laws_toCellS [t0] m := by kernel_rfl
theorem okc_laws_toCellS : CallOK CT cf_laws_toCellS := cfc_ok ok_C_laws_toCell cfn_ok
theorem le_laws_toCellS_0 (k q : Nat) (t0 t3 t4 : Value) (m : Mem) : ex CT cf_laws_toCellS Tryd.f42 1 k LL_laws_toCellS (J_laws_toCellS k q) 400 (atLoop Tryd.f42 0) [(0, t0), (3, t3), (4, t4)] m = J_laws_toCellS k (q + 1) 3 [t0, t3, t4] m := by kernel_rfl
theorem gl_laws_toCellS (k : Nat) : ∀ q i, i < 1 → GoodL CT k Tryd.f42 LL_laws_toCellS (J_laws_toCellS k q) (atLoop Tryd.f42 i)
 | 0, 0, _ => goodL_zero (l := 3) (by kernel_rfl) (fun vs m => by kernel_rfl)
 | 0, _ + 1, h => absurd h (by omega)
 | q + 1, 0, _ => goodL_succ (np := 1) (l := 3) (live := [0, 3, 4]) (n := 1) CT_ok rfl okc_laws_toCellS (c := (Tryd.f42.body.get rfl)) rfl cok_laws_toCellS (by kernel_rfl) (gl_laws_toCellS k q) (by kernel_rfl) rfl (fun vs m r hl h => match vs, hl with
  | [t0, t3, t4], _ => (le_laws_toCellS_0 k q t0 t3 t4 m).trans h)
 | _ + 1, _ + 1, h => absurd h (by omega)
theorem ok_X_laws_toCellS : OkX CT 42 X_laws_toCellS := OkX.of_ex (cf := cf_laws_toCellS) (np := 1) (LL := LL_laws_toCellS) (J := (fun k => J_laws_toCellS k QQ)) CT_ok rfl Tryd.func42 rfl (Nat.le_of_ble_eq_true rfl) (by decide) cok_laws_toCellS okc_laws_toCellS (fun k => allLoops rfl (by kernel_rfl) (gl_laws_toCellS k QQ)) (fun args m r h => match args, h with
  | [t0], h => ⟨rfl, (xe_laws_toCellS t0 m).trans h⟩)
theorem ok_C_laws_toCellS : OkC CT 42 C_laws_toCellS := fcall_ok rfl ok_X_laws_toCellS
noncomputable def cf_laws_toGrid : CallF := cfc 42 C_laws_toCellS cfn
noncomputable def X_laws_toGrid : List Value → Mem → Option VM
 | [t0], m =>
  (boxX m t0) |> bo fun r1 =>
  (alX r1.2 [.int .i64 0, .int .i64 0, .slice none 0 0, .slice none 0 0]) |> bo fun r2 =>
  (alX r2.2 [.int .i64 0, .int .i64 0, .slice none 0 0, .slice none 0 0]) |> bo fun r3 =>
  (fadX 0 r1.1) |> bo fun t4 =>
  (ld1 r3.2 t4) |> bo fun t5 =>
  (fadX 0 r3.1) |> bo fun t6 =>
  (stX r3.2 1 t6 t5) |> bo fun m7 =>
  (fadX 1 r1.1) |> bo fun t7 =>
  (ld1 m7 t7) |> bo fun t8 =>
  (fadX 1 r3.1) |> bo fun t9 =>
  (stX m7 1 t9 t8) |> bo fun m11 =>
  (fadX 2 r1.1) |> bo fun t10 =>
  (ld1 m11 t10) |> bo fun t11 =>
  (C_laws_toCellS [t11] m11) |> bo fun r14 =>
  (fadX 2 r3.1) |> bo fun t13 =>
  (stX r14.2 1 t13 r14.1) |> bo fun m16 =>
  (fadX 3 r1.1) |> bo fun t14 =>
  (ld1 m16 t14) |> bo fun t15 =>
  (C_laws_toCellS [t15] m16) |> bo fun r19 =>
  (fadX 3 r3.1) |> bo fun t17 =>
  (stX r19.2 1 t17 r19.1) |> bo fun m21 =>
  (ldS m21 4 r3.1) |> bo fun t18 =>
  (stX m21 4 r2.1 t18) |> bo fun m23 =>
  (resP (some 4) m23 r2.1) |> bo fun c24 =>
  retK m.length m23 [t0] c24
 | _, _ => none
noncomputable def C_laws_toGrid : List Value → Mem → Option VM := fcall X_laws_toGrid
@[simp] theorem c_laws_toGrid : C_laws_toGrid = fcall X_laws_toGrid := (rfl)
theorem cok_laws_toGrid : codeOk CT Tryd.f19 (Tryd.f19.body.get rfl) = true := by kernel_rfl
theorem xe_laws_toGrid (t0 : Value) (m : Mem) : ex CT cf_laws_toGrid Tryd.f19 1 m.length [] (fun _ _ _ => none) 400 [.code (Tryd.f19.body.get rfl)] (argsT 0 [t0]) m = X_laws_toGrid [t0] m := by kernel_rfl
theorem okc_laws_toGrid : CallOK CT cf_laws_toGrid := cfc_ok ok_C_laws_toCellS cfn_ok
theorem ok_X_laws_toGrid : OkX CT 19 X_laws_toGrid := OkX.of_ex (cf := cf_laws_toGrid) (np := 1) (LL := []) (J := (fun _ _ _ _ => none)) CT_ok rfl Tryd.func19 rfl (Nat.le_of_ble_eq_true rfl) (by decide) cok_laws_toGrid okc_laws_toGrid (fun k => noLoops rfl) (fun args m r h => match args, h with
  | [t0], h => ⟨rfl, (xe_laws_toGrid t0 m).trans h⟩)
theorem ok_C_laws_toGrid : OkC CT 19 C_laws_toGrid := fcall_ok rfl ok_X_laws_toGrid
noncomputable def cf_laws_toBoolS : CallF := cfn
noncomputable def L_laws_toBoolS (k : Nat) : Nat → Nat → List Value → Mem → Option VM
 | q + 1, 0, [t0, t3, t4], m =>
  (lenX t0) |> bo fun t10 =>
  (binX .lss .no t4 t10) |> bo fun t11 =>
  brX t11
   (
    (ixaX 1 t0 t4) |> bo fun t18 =>
    (ld1 m t18) |> bo fun t19 =>
    (ixaX 1 t3 t4) |> bo fun t20 =>
    (stX m 1 t20 t19) |> bo fun m6 =>
    (binX .add .no t4 (.int .i64 1)) |> bo fun t13 =>
    cutK k m6 [t0] [t0, t3, t13] (L_laws_toBoolS k q 0))
   (
    retK k m [t0] t3)
 | _, _, _, _ => none
noncomputable def J_laws_toBoolS (k q l : Nat) : List Value → Mem → Option VM := cond (Nat.beq l 3) (L_laws_toBoolS k q 0) (fun _ _ => none)
def LL_laws_toBoolS : List (Nat × List Tmp) := [(3, [0, 3, 4])]
noncomputable def X_laws_toBoolS : List Value → Mem → Option VM
 | [t0], m =>
  (lenX t0) |> bo fun t6 =>
  (mkX m 1 1 [.bool false] t6 t6) |> bo fun r2 =>
  cutK m.length r2.2 [t0] [t0, r2.1, (.int .i64 0)] (L_laws_toBoolS m.length QQ 0)
 | _, _ => none
noncomputable def C_laws_toBoolS : List Value → Mem → Option VM := fcall X_laws_toBoolS
@[simp] theorem c_laws_toBoolS : C_laws_toBoolS = fcall X_laws_toBoolS := (rfl)
theorem cok_laws_toBoolS : codeOk CT Tryd.f20 (Tryd.f20.body.get rfl) = true := by kernel_rfl
theorem xe_laws_toBoolS (t0 : Value) (m : Mem) : ex CT cf_laws_toBoolS Tryd.f20 1 m.length LL_laws_toBoolS (J_laws_toBoolS m.length QQ) 400 [.code (Tryd.f20.body.get rfl)] (argsT 0 [t0]) m = X_laws_toBoolS [t0] m := by kernel_rfl
theorem okc_laws_toBoolS : CallOK CT cf_laws_toBoolS := cfn_ok
theorem le_laws_toBoolS_0 (k q : Nat) (t0 t3 t4 : Value) (m : Mem) : ex CT cf_laws_toBoolS Tryd.f20 1 k LL_laws_toBoolS (J_laws_toBoolS k q) 400 (atLoop Tryd.f20 0) [(0, t0), (3, t3), (4, t4)] m = J_laws_toBoolS k (q + 1) 3 [t0, t3, t4] m := by kernel_rfl
theorem gl_laws_toBoolS (k : Nat) : ∀ q i, i < 1 → GoodL CT k Tryd.f20 LL_laws_toBoolS (J_laws_toBoolS k q) (atLoop Tryd.f20 i)
 | 0, 0, _ => goodL_zero (l := 3) (by kernel_rfl) (fun vs m => by kernel_rfl)
 | 0, _ + 1, h => absurd h (by omega)
 | q + 1, 0, _ => goodL_succ (np := 1) (l := 3) (live := [0, 3, 4]) (n := 1) CT_ok rfl okc_laws_toBoolS (c := (Tryd.f20.body.get rfl)) rfl cok_laws_toBoolS (by kernel_rfl) (gl_laws_toBoolS k q) (by kernel_rfl) rfl (fun vs m r hl h => match vs, hl with
  | [t0, t3, t4], _ => (le_laws_toBoolS_0 k q t0 t3 t4 m).trans h)
 | _ + 1, _ + 1, h => absurd h (by omega)
theorem ok_X_laws_toBoolS : OkX CT 20 X_laws_toBoolS := OkX.of_ex (cf := cf_laws_toBoolS) (np := 1) (LL := LL_laws_toBoolS) (J := (fun k => J_laws_toBoolS k QQ)) CT_ok rfl Tryd.func20 rfl (Nat.le_of_ble_eq_true rfl) (by decide) cok_laws_toBoolS okc_laws_toBoolS (fun k => allLoops rfl (by kernel_rfl) (gl_laws_toBoolS k QQ)) (fun args m r h => match args, h with
  | [t0], h => ⟨rfl, (xe_laws_toBoolS t0 m).trans h⟩)
theorem ok_C_laws_toBoolS : OkC CT 20 C_laws_toBoolS := fcall_ok rfl ok_X_laws_toBoolS
noncomputable def cf_laws_toInt64S : CallF := cfn
noncomputable def L_laws_toInt64S (k : Nat) : Nat → Nat → List Value → Mem → Option VM
 | q + 1, 0, [t0, t3, t4], m =>
  (lenX t0) |> bo fun t10 =>
  (binX .lss .no t4 t10) |> bo fun t11 =>
  brX t11
   (
    (ixaX 1 t0 t4) |> bo fun t18 =>
    (ld1 m t18) |> bo fun t19 =>
    (ixaX 1 t3 t4) |> bo fun t20 =>
    (stX m 1 t20 t19) |> bo fun m6 =>
    (binX .add .no t4 (.int .i64 1)) |> bo fun t13 =>
    cutK k m6 [t0] [t0, t3, t13] (L_laws_toInt64S k q 0))
   (
    retK k m [t0] t3)
 | _, _, _, _ => none
noncomputable def J_laws_toInt64S (k q l : Nat) : List Value → Mem → Option VM := cond (Nat.beq l 3) (L_laws_toInt64S k q 0) (fun _ _ => none)
def LL_laws_toInt64S : List (Nat × List Tmp) := [(3, [0, 3, 4])]
noncomputable def X_laws_toInt64S : List Value → Mem → Option VM
 | [t0], m =>
  (lenX t0) |> bo fun t6 =>
  (mkX m 1 8 [.int .i64 0] t6 t6) |> bo fun r2 =>
  cutK m.length r2.2 [t0] [t0, r2.1, (.int .i64 0)] (L_laws_toInt64S m.length QQ 0)
 | _, _ => none
noncomputable def C_laws_toInt64S : List Value → Mem → Option VM := fcall X_laws_toInt64S
@[simp] theorem c_laws_toInt64S : C_laws_toInt64S = fcall X_laws_toInt64S := (rfl)
theorem cok_laws_toInt64S : codeOk CT Tryd.f21 (Tryd.f21.body.get rfl) = true := by kernel_rfl
theorem xe_laws_toInt64S (t0 : Value) (m : Mem) : ex CT cf_laws_toInt64S Tryd.f21 1 m.length LL_laws_toInt64S (J_laws_toInt64S m.length QQ) 400 [.code (Tryd.f21.body.get rfl)] (argsT 0 [t0]) m = X_laws_toInt64S [t0] m := by kernel_rfl
theorem okc_laws_toInt64S : CallOK CT cf_laws_toInt64S := cfn_ok
theorem le_laws_toInt64S_0 (k q : Nat) (t0 t3 t4 : Value) (m : Mem) : ex CT cf_laws_toInt64S Tryd.f21 1 k LL_laws_toInt64S (J_laws_toInt64S k q) 400 (atLoop Tryd.f21 0) [(0, t0), (3, t3), (4, t4)] m = J_laws_toInt64S k (q + 1) 3 [t0, t3, t4] m := by kernel_rfl
theorem gl_laws_toInt64S (k : Nat) : ∀ q i, i < 1 → GoodL CT k Tryd.f21 LL_laws_toInt64S (J_laws_toInt64S k q) (atLoop Tryd.f21 i)
 | 0, 0, _ => goodL_zero (l := 3) (by kernel_rfl) (fun vs m => by kernel_rfl)
 | 0, _ + 1, h => absurd h (by omega)
 | q + 1, 0, _ => goodL_succ (np := 1) (l := 3) (live := [0, 3, 4]) (n := 1) CT_ok rfl okc_laws_toInt64S (c := (Tryd.f21.body.get rfl)) rfl cok_laws_toInt64S (by kernel_rfl) (gl_laws_toInt64S k q) (by kernel_rfl) rfl (fun vs m r hl h => match vs, hl with
  | [t0, t3, t4], _ => (le_laws_toInt64S_0 k q t0 t3 t4 m).trans h)
 | _ + 1, _ + 1, h => absurd h (by omega)
theorem ok_X_laws_toInt64S : OkX CT 21 X_laws_toInt64S := OkX.of_ex (cf := cf_laws_toInt64S) (np := 1) (LL := LL_laws_toInt64S) (J := (fun k => J_laws_toInt64S k QQ)) CT_ok rfl Tryd.func21 rfl (Nat.le_of_ble_eq_true rfl) (by decide) cok_laws_toInt64S okc_laws_toInt64S (fun k => allLoops rfl (by kernel_rfl) (gl_laws_toInt64S k QQ)) (fun args m r h => match args, h with
  | [t0], h => ⟨rfl, (xe_laws_toInt64S t0 m).trans h⟩)
theorem ok_C_laws_toInt64S : OkC CT 21 C_laws_toInt64S := fcall_ok rfl ok_X_laws_toInt64S
noncomputable def cf_laws_toScreen : CallF := cfc 19 C_laws_toGrid (cfc 20 C_laws_toBoolS (cfc 21 C_laws_toInt64S cfn))
noncomputable def X_laws_toScreen : List Value → Mem → Option VM
 | [t0], m =>
  (boxX m t0) |> bo fun r1 =>
  (alX r1.2 [.int .i64 0, .int .i64 0, .slice none 0 0, .slice none 0 0, .int .i64 0, .int .i64 0, .bool false, .int .i64 0, .int .i64 0, .int .i64 0, .bool false, .bool false, .bool false, .slice none 0 0, .int .i64 0, .int .i64 0, .int .i64 0, .slice none 0 0, .int .i64 0, .int .i64 0]) |> bo fun r2 =>
  (alX r2.2 [.int .i64 0, .int .i64 0, .slice none 0 0, .slice none 0 0, .int .i64 0, .int .i64 0, .bool false, .int .i64 0, .int .i64 0, .int .i64 0, .bool false, .bool false, .bool false, .slice none 0 0, .int .i64 0, .int .i64 0, .int .i64 0, .slice none 0 0, .int .i64 0, .int .i64 0]) |> bo fun r3 =>
  (fadX 0 r1.1) |> bo fun t4 =>
  (ldS r3.2 4 t4) |> bo fun t5 =>
  (C_laws_toGrid [t5] r3.2) |> bo fun r6 =>
  (fadX 0 r3.1) |> bo fun t7 =>
  (stX r6.2 4 t7 r6.1) |> bo fun m8 =>
  (fadX 4 r1.1) |> bo fun t8 =>
  (ld1 m8 t8) |> bo fun t9 =>
  (fadX 4 r3.1) |> bo fun t10 =>
  (stX m8 1 t10 t9) |> bo fun m12 =>
  (fadX 5 r1.1) |> bo fun t11 =>
  (ld1 m12 t11) |> bo fun t12 =>
  (fadX 5 r3.1) |> bo fun t13 =>
  (stX m12 1 t13 t12) |> bo fun m16 =>
  (fadX 6 r1.1) |> bo fun t14 =>
  (ld1 m16 t14) |> bo fun t15 =>
  (fadX 6 r3.1) |> bo fun t16 =>
  (stX m16 1 t16 t15) |> bo fun m20 =>
  (fadX 7 r1.1) |> bo fun t17 =>
  (ld1 m20 t17) |> bo fun t18 =>
  (fadX 7 r3.1) |> bo fun t19 =>
  (stX m20 1 t19 t18) |> bo fun m24 =>
  (fadX 8 r1.1) |> bo fun t20 =>
  (ld1 m24 t20) |> bo fun t21 =>
  (fadX 8 r3.1) |> bo fun t22 =>
  (stX m24 1 t22 t21) |> bo fun m28 =>
  (fadX 9 r1.1) |> bo fun t23 =>
  (ld1 m28 t23) |> bo fun t24 =>
  (fadX 9 r3.1) |> bo fun t25 =>
  (stX m28 1 t25 t24) |> bo fun m32 =>
  (fadX 10 r1.1) |> bo fun t26 =>
  (ld1 m32 t26) |> bo fun t27 =>
  (fadX 10 r3.1) |> bo fun t28 =>
  (stX m32 1 t28 t27) |> bo fun m36 =>
  (fadX 11 r1.1) |> bo fun t29 =>
  (ld1 m36 t29) |> bo fun t30 =>
  (fadX 11 r3.1) |> bo fun t31 =>
  (stX m36 1 t31 t30) |> bo fun m40 =>
  (fadX 12 r1.1) |> bo fun t32 =>
  (ld1 m40 t32) |> bo fun t33 =>
  (fadX 12 r3.1) |> bo fun t34 =>
  (stX m40 1 t34 t33) |> bo fun m44 =>
  (fadX 13 r1.1) |> bo fun t35 =>
  (ld1 m44 t35) |> bo fun t36 =>
  (C_laws_toBoolS [t36] m44) |> bo fun r47 =>
  (fadX 13 r3.1) |> bo fun t38 =>
  (stX r47.2 1 t38 r47.1) |> bo fun m49 =>
  (fadX 14 r1.1) |> bo fun t39 =>
  (ld1 m49 t39) |> bo fun t40 =>
  (fadX 14 r3.1) |> bo fun t41 =>
  (stX m49 1 t41 t40) |> bo fun m53 =>
  (fadX 15 r1.1) |> bo fun t42 =>
  (ld1 m53 t42) |> bo fun t43 =>
  (fadX 15 r3.1) |> bo fun t44 =>
  (stX m53 1 t44 t43) |> bo fun m57 =>
  (fadX 16 r1.1) |> bo fun t45 =>
  (ld1 m57 t45) |> bo fun t46 =>
  (fadX 16 r3.1) |> bo fun t47 =>
  (stX m57 1 t47 t46) |> bo fun m61 =>
  (fadX 17 r1.1) |> bo fun t48 =>
  (ld1 m61 t48) |> bo fun t49 =>
  (C_laws_toInt64S [t49] m61) |> bo fun r64 =>
  (fadX 17 r3.1) |> bo fun t51 =>
  (stX r64.2 1 t51 r64.1) |> bo fun m66 =>
  (fadX 18 r1.1) |> bo fun t52 =>
  (ld1 m66 t52) |> bo fun t53 =>
  (fadX 18 r3.1) |> bo fun t54 =>
  (stX m66 1 t54 t53) |> bo fun m70 =>
  (fadX 19 r1.1) |> bo fun t55 =>
  (ld1 m70 t55) |> bo fun t56 =>
  (fadX 19 r3.1) |> bo fun t57 =>
  (stX m70 1 t57 t56) |> bo fun m74 =>
  (ldS m74 20 r3.1) |> bo fun t58 =>
  (stX m74 20 r2.1 t58) |> bo fun m76 =>
  (resP (some 20) m76 r2.1) |> bo fun c77 =>
  retK m.length m76 [t0] c77
 | _, _ => none
noncomputable def C_laws_toScreen : List Value → Mem → Option VM := fcall X_laws_toScreen
@[simp] theorem c_laws_toScreen : C_laws_toScreen = fcall X_laws_toScreen := (rfl)
theorem cok_laws_toScreen : codeOk CT Tryd.f6 (Tryd.f6.body.get rfl) = true := by kernel_rfl
theorem xe_laws_toScreen (t0 : Value) (m : Mem) : ex CT cf_laws_toScreen Tryd.f6 1 m.length [] (fun _ _ _ => none) 400 [.code (Tryd.f6.body.get rfl)] (argsT 0 [t0]) m = X_laws_toScreen [t0] m := by kernel_rfl
theorem okc_laws_toScreen : CallOK CT cf_laws_toScreen := cfc_ok ok_C_laws_toGrid (cfc_ok ok_C_laws_toBoolS (cfc_ok ok_C_laws_toInt64S cfn_ok))
theorem ok_X_laws_toScreen : OkX CT 6 X_laws_toScreen := OkX.of_ex (cf := cf_laws_toScreen) (np := 1) (LL := []) (J := (fun _ _ _ _ => none)) CT_ok rfl Tryd.func6 rfl (Nat.le_of_ble_eq_true rfl) (by decide) cok_laws_toScreen okc_laws_toScreen (fun k => noLoops rfl) (fun args m r h => match args, h with
  | [t0], h => ⟨rfl, (xe_laws_toScreen t0 m).trans h⟩)
theorem ok_C_laws_toScreen : OkC CT 6 C_laws_toScreen := fcall_ok rfl ok_X_laws_toScreen
noncomputable def cf_impl_first : CallF := cfn
noncomputable def L_impl_first (k : Nat) : Nat → Nat → List Value → Mem → Option VM
 | q + 1, 0, [t5, t6, t7], m =>
  (binX .lss .no t7 t6) |> bo fun t8 =>
  brX t8
   (
    (ixaX 1 t5 t7) |> bo fun t9 =>
    (ld1 m t9) |> bo fun t10 =>
    (binX .neq .no t10 (.int .i64 0)) |> bo fun t12 =>
    brX t12
     (
      retK k m [] t10)
     (
      (binX .add .no t7 (.int .i64 1)) |> bo fun t14 =>
      cutK k m [] [t5, t6, t14] (L_impl_first k q 0)))
   (
    retK k m [] (.int .i64 0))
 | _, _, _, _ => none
noncomputable def J_impl_first (k q l : Nat) : List Value → Mem → Option VM := cond (Nat.beq l 2) (L_impl_first k q 0) (fun _ _ => none)
def LL_impl_first : List (Nat × List Tmp) := [(2, [5, 6, 7])]
noncomputable def X_impl_first : List Value → Mem → Option VM
 | [t0], m =>
  (lenX t0) |> bo fun t6 =>
  cutK m.length m [t0] [t0, t6, (.int .i64 0)] (L_impl_first m.length QQ 0)
 | _, _ => none
noncomputable def C_impl_first : List Value → Mem → Option VM := fcall X_impl_first
@[simp] theorem c_impl_first : C_impl_first = fcall X_impl_first := (rfl)
theorem cok_impl_first : codeOk CT Tryd.f43 (Tryd.f43.body.get rfl) = true := by kernel_rfl
theorem xe_impl_first (t0 : Value) (m : Mem) : ex CT cf_impl_first Tryd.f43 1 m.length LL_impl_first (J_impl_first m.length QQ) 400 [.code (Tryd.f43.body.get rfl)] (argsT 0 [t0]) m = X_impl_first [t0] m := by kernel_rfl
theorem okc_impl_first : CallOK CT cf_impl_first := cfn_ok
theorem le_impl_first_0 (k q : Nat) (t5 t6 t7 : Value) (m : Mem) : ex CT cf_impl_first Tryd.f43 1 k LL_impl_first (J_impl_first k q) 400 (atLoop Tryd.f43 0) [(5, t5), (6, t6), (7, t7)] m = J_impl_first k (q + 1) 2 [t5, t6, t7] m := by kernel_rfl
theorem gl_impl_first (k : Nat) : ∀ q i, i < 1 → GoodL CT k Tryd.f43 LL_impl_first (J_impl_first k q) (atLoop Tryd.f43 i)
 | 0, 0, _ => goodL_zero (l := 2) (by kernel_rfl) (fun vs m => by kernel_rfl)
 | 0, _ + 1, h => absurd h (by omega)
 | q + 1, 0, _ => goodL_succ (np := 1) (l := 2) (live := [5, 6, 7]) (n := 1) CT_ok rfl okc_impl_first (c := (Tryd.f43.body.get rfl)) rfl cok_impl_first (by kernel_rfl) (gl_impl_first k q) (by kernel_rfl) rfl (fun vs m r hl h => match vs, hl with
  | [t5, t6, t7], _ => (le_impl_first_0 k q t5 t6 t7 m).trans h)
 | _ + 1, _ + 1, h => absurd h (by omega)
theorem ok_X_impl_first : OkX CT 43 X_impl_first := OkX.of_ex (cf := cf_impl_first) (np := 1) (LL := LL_impl_first) (J := (fun k => J_impl_first k QQ)) CT_ok rfl Tryd.func43 rfl (Nat.le_of_ble_eq_true rfl) (by decide) cok_impl_first okc_impl_first (fun k => allLoops rfl (by kernel_rfl) (gl_impl_first k QQ)) (fun args m r h => match args, h with
  | [t0], h => ⟨rfl, (xe_impl_first t0 m).trans h⟩)
theorem ok_C_impl_first : OkC CT 43 C_impl_first := fcall_ok rfl ok_X_impl_first
noncomputable def cf_impl_unless : CallF := cfn
noncomputable def X_impl_unless : List Value → Mem → Option VM
 | [t0, t1], m =>
  brX t0
   (
    retK m.length m [t0, t1] (.int .i64 0))
   (
    retK m.length m [t0, t1] t1)
 | _, _ => none
noncomputable def C_impl_unless : List Value → Mem → Option VM := fcall X_impl_unless
@[simp] theorem c_impl_unless : C_impl_unless = fcall X_impl_unless := (rfl)
theorem cok_impl_unless : codeOk CT Tryd.f45 (Tryd.f45.body.get rfl) = true := by kernel_rfl
theorem xe_impl_unless (t0 t1 : Value) (m : Mem) : ex CT cf_impl_unless Tryd.f45 2 m.length [] (fun _ _ _ => none) 400 [.code (Tryd.f45.body.get rfl)] (argsT 0 [t0, t1]) m = X_impl_unless [t0, t1] m := by kernel_rfl
theorem okc_impl_unless : CallOK CT cf_impl_unless := cfn_ok
theorem ok_X_impl_unless : OkX CT 45 X_impl_unless := OkX.of_ex (cf := cf_impl_unless) (np := 2) (LL := []) (J := (fun _ _ _ _ => none)) CT_ok rfl Tryd.func45 rfl (Nat.le_of_ble_eq_true rfl) (by decide) cok_impl_unless okc_impl_unless (fun k => noLoops rfl) (fun args m r h => match args, h with
  | [t0, t1], h => ⟨rfl, (xe_impl_unless t0 t1 m).trans h⟩)
theorem ok_C_impl_unless : OkC CT 45 C_impl_unless := fcall_ok rfl ok_X_impl_unless
noncomputable def cf_impl_in : CallF := cfn
noncomputable def X_impl_in : List Value → Mem → Option VM
 | [t0, t1, t2], m =>
  (binX .leq .no t1 t0) |> bo fun t9 =>
  (gd t9 true (some (t0, m)) m) |> bo fun r2 =>
  (gd t9 true (some (t2, r2.2)) r2.2) |> bo fun r3 =>
  (gd t9 true ((binX .leq .no r2.1 r3.1) |> bo fun v => some (v, r3.2)) r3.2) |> bo fun r4 =>
  (pickX t9 r4.1 (.bool false)) |> bo fun t14 =>
  retK m.length r4.2 [t0, t1, t2] t14
 | _, _ => none
noncomputable def C_impl_in : List Value → Mem → Option VM := fcall X_impl_in
@[simp] theorem c_impl_in : C_impl_in = fcall X_impl_in := (rfl)
theorem cok_impl_in : codeOk CT Tryd.f23 (Tryd.f23.body.get rfl) = true := by kernel_rfl
theorem xe_impl_in (t0 t1 t2 : Value) (m : Mem) : ex CT cf_impl_in Tryd.f23 3 m.length [] (fun _ _ _ => none) 400 [.code (Tryd.f23.body.get rfl)] (argsT 0 [t0, t1, t2]) m = X_impl_in [t0, t1, t2] m := by kernel_rfl
theorem okc_impl_in : CallOK CT cf_impl_in := cfn_ok
theorem ok_X_impl_in : OkX CT 23 X_impl_in := OkX.of_ex (cf := cf_impl_in) (np := 3) (LL := []) (J := (fun _ _ _ _ => none)) CT_ok rfl Tryd.func23 rfl (Nat.le_of_ble_eq_true rfl) (by decide) cok_impl_in okc_impl_in (fun k => noLoops rfl) (fun args m r h => match args, h with
  | [t0, t1, t2], h => ⟨rfl, (xe_impl_in t0 t1 t2 m).trans h⟩)
theorem ok_C_impl_in : OkC CT 23 C_impl_in := fcall_ok rfl ok_X_impl_in
noncomputable def cf_impl_sizeOk : CallF := cfc 23 C_impl_in cfn
noncomputable def X_impl_sizeOk : List Value → Mem → Option VM
 | [t0, t1], m =>
  (C_impl_in [t0, (.int .i64 1), (.int .i64 6)] m) |> bo fun r1 =>
  (gd r1.1 true (some (t1, r1.2)) r1.2) |> bo fun r2 =>
  (gd r1.1 true ((C_impl_in [r2.1, (.int .i64 2), (.int .i64 12)] r2.2) |> bo fun r => some (r.1, r.2)) r2.2) |> bo fun r3 =>
  (pickX r1.1 r3.1 (.bool false)) |> bo fun t10 =>
  retK m.length r3.2 [t0, t1] t10
 | _, _ => none
noncomputable def C_impl_sizeOk : List Value → Mem → Option VM := fcall X_impl_sizeOk
@[simp] theorem c_impl_sizeOk : C_impl_sizeOk = fcall X_impl_sizeOk := (rfl)
theorem cok_impl_sizeOk : codeOk CT Tryd.f62 (Tryd.f62.body.get rfl) = true := by kernel_rfl
theorem xe_impl_sizeOk (t0 t1 : Value) (m : Mem) : ex CT cf_impl_sizeOk Tryd.f62 2 m.length [] (fun _ _ _ => none) 400 [.code (Tryd.f62.body.get rfl)] (argsT 0 [t0, t1]) m = X_impl_sizeOk [t0, t1] m := by kernel_rfl
theorem okc_impl_sizeOk : CallOK CT cf_impl_sizeOk := cfc_ok ok_C_impl_in cfn_ok
theorem ok_X_impl_sizeOk : OkX CT 62 X_impl_sizeOk := OkX.of_ex (cf := cf_impl_sizeOk) (np := 2) (LL := []) (J := (fun _ _ _ _ => none)) CT_ok rfl Tryd.func62 rfl (Nat.le_of_ble_eq_true rfl) (by decide) cok_impl_sizeOk okc_impl_sizeOk (fun k => noLoops rfl) (fun args m r h => match args, h with
  | [t0, t1], h => ⟨rfl, (xe_impl_sizeOk t0 t1 m).trans h⟩)
theorem ok_C_impl_sizeOk : OkC CT 62 C_impl_sizeOk := fcall_ok rfl ok_X_impl_sizeOk
noncomputable def cf_impl_isAttr : CallF := cfc 23 C_impl_in cfn
noncomputable def X_impl_isAttr : List Value → Mem → Option VM
 | [t0], m =>
  (C_impl_in [t0, (.int .i64 0), (.int .i64 31)] m) |> bo fun r1 =>
  retK m.length r1.2 [t0] r1.1
 | _, _ => none
noncomputable def C_impl_isAttr : List Value → Mem → Option VM := fcall X_impl_isAttr
@[simp] theorem c_impl_isAttr : C_impl_isAttr = fcall X_impl_isAttr := (rfl)
theorem cok_impl_isAttr : codeOk CT Tryd.f66 (Tryd.f66.body.get rfl) = true := by kernel_rfl
theorem xe_impl_isAttr (t0 : Value) (m : Mem) : ex CT cf_impl_isAttr Tryd.f66 1 m.length [] (fun _ _ _ => none) 400 [.code (Tryd.f66.body.get rfl)] (argsT 0 [t0]) m = X_impl_isAttr [t0] m := by kernel_rfl
theorem okc_impl_isAttr : CallOK CT cf_impl_isAttr := cfc_ok ok_C_impl_in cfn_ok
theorem ok_X_impl_isAttr : OkX CT 66 X_impl_isAttr := OkX.of_ex (cf := cf_impl_isAttr) (np := 1) (LL := []) (J := (fun _ _ _ _ => none)) CT_ok rfl Tryd.func66 rfl (Nat.le_of_ble_eq_true rfl) (by decide) cok_impl_isAttr okc_impl_isAttr (fun k => noLoops rfl) (fun args m r h => match args, h with
  | [t0], h => ⟨rfl, (xe_impl_isAttr t0 m).trans h⟩)
theorem ok_C_impl_isAttr : OkC CT 66 C_impl_isAttr := fcall_ok rfl ok_X_impl_isAttr
noncomputable def cf_impl_isChar : CallF := cfc 23 C_impl_in cfn
noncomputable def X_impl_isChar : List Value → Mem → Option VM
 | [t0], m =>
  (C_impl_in [t0, (.int .i64 0), (.int .i64 65535)] m) |> bo fun r1 =>
  (gd r1.1 true (some (t0, r1.2)) r1.2) |> bo fun r2 =>
  (gd r1.1 true ((C_impl_in [r2.1, (.int .i64 55296), (.int .i64 57343)] r2.2) |> bo fun r => some (r.1, r.2)) r2.2) |> bo fun r3 =>
  (gd r1.1 true ((uop .not r3.1) |> bo fun v => some (v, r3.2)) r3.2) |> bo fun r4 =>
  (pickX r1.1 r4.1 (.bool false)) |> bo fun t9 =>
  retK m.length r4.2 [t0] t9
 | _, _ => none
noncomputable def C_impl_isChar : List Value → Mem → Option VM := fcall X_impl_isChar
@[simp] theorem c_impl_isChar : C_impl_isChar = fcall X_impl_isChar := (rfl)
theorem cok_impl_isChar : codeOk CT Tryd.f84 (Tryd.f84.body.get rfl) = true := by kernel_rfl
theorem xe_impl_isChar (t0 : Value) (m : Mem) : ex CT cf_impl_isChar Tryd.f84 1 m.length [] (fun _ _ _ => none) 400 [.code (Tryd.f84.body.get rfl)] (argsT 0 [t0]) m = X_impl_isChar [t0] m := by kernel_rfl
theorem okc_impl_isChar : CallOK CT cf_impl_isChar := cfc_ok ok_C_impl_in cfn_ok
theorem ok_X_impl_isChar : OkX CT 84 X_impl_isChar := OkX.of_ex (cf := cf_impl_isChar) (np := 1) (LL := []) (J := (fun _ _ _ _ => none)) CT_ok rfl Tryd.func84 rfl (Nat.le_of_ble_eq_true rfl) (by decide) cok_impl_isChar okc_impl_isChar (fun k => noLoops rfl) (fun args m r h => match args, h with
  | [t0], h => ⟨rfl, (xe_impl_isChar t0 m).trans h⟩)
theorem ok_C_impl_isChar : OkC CT 84 C_impl_isChar := fcall_ok rfl ok_X_impl_isChar
noncomputable def cf_impl_shows : CallF := cfc 84 C_impl_isChar cfn
noncomputable def X_impl_shows : List Value → Mem → Option VM
 | [t0], m =>
  (C_impl_isChar [t0] m) |> bo fun r1 =>
  (gd r1.1 true (some (t0, r1.2)) r1.2) |> bo fun r2 =>
  (gd r1.1 true ((binX .geq .no r2.1 (.int .i64 32)) |> bo fun v => some (v, r2.2)) r2.2) |> bo fun r3 =>
  (pickX r1.1 r3.1 (.bool false)) |> bo fun t8 =>
  (gd t8 true (some (t0, r3.2)) r3.2) |> bo fun r5 =>
  (gd t8 true ((binX .neq .no r5.1 (.int .i64 127)) |> bo fun v => some (v, r5.2)) r5.2) |> bo fun r6 =>
  (pickX t8 r6.1 (.bool false)) |> bo fun t12 =>
  retK m.length r6.2 [t0] t12
 | _, _ => none
noncomputable def C_impl_shows : List Value → Mem → Option VM := fcall X_impl_shows
@[simp] theorem c_impl_shows : C_impl_shows = fcall X_impl_shows := (rfl)
theorem cok_impl_shows : codeOk CT Tryd.f79 (Tryd.f79.body.get rfl) = true := by kernel_rfl
theorem xe_impl_shows (t0 : Value) (m : Mem) : ex CT cf_impl_shows Tryd.f79 1 m.length [] (fun _ _ _ => none) 400 [.code (Tryd.f79.body.get rfl)] (argsT 0 [t0]) m = X_impl_shows [t0] m := by kernel_rfl
theorem okc_impl_shows : CallOK CT cf_impl_shows := cfc_ok ok_C_impl_isChar cfn_ok
theorem ok_X_impl_shows : OkX CT 79 X_impl_shows := OkX.of_ex (cf := cf_impl_shows) (np := 1) (LL := []) (J := (fun _ _ _ _ => none)) CT_ok rfl Tryd.func79 rfl (Nat.le_of_ble_eq_true rfl) (by decide) cok_impl_shows okc_impl_shows (fun k => noLoops rfl) (fun args m r h => match args, h with
  | [t0], h => ⟨rfl, (xe_impl_shows t0 m).trans h⟩)
theorem ok_C_impl_shows : OkC CT 79 C_impl_shows := fcall_ok rfl ok_X_impl_shows
noncomputable def cf_impl_Cell_ok : CallF := cfc 66 C_impl_isAttr (cfc 79 C_impl_shows cfn)
noncomputable def X_impl_Cell_ok : List Value → Mem → Option VM
 | [t0], m =>
  (boxX m t0) |> bo fun r1 =>
  (fadX 0 r1.1) |> bo fun t3 =>
  (ld1 r1.2 t3) |> bo fun t4 =>
  (C_impl_shows [t4] r1.2) |> bo fun r4 =>
  (gd r4.1 true ((fadX 1 r1.1) |> bo fun v => some (v, r4.2)) r4.2) |> bo fun r5 =>
  (gd r4.1 true ((ld1 r5.2 r5.1) |> bo fun v => some (v, r5.2)) r5.2) |> bo fun r6 =>
  (gd r4.1 true ((C_impl_isAttr [r6.1] r6.2) |> bo fun r => some (r.1, r.2)) r6.2) |> bo fun r7 =>
  (pickX r4.1 r7.1 (.bool false)) |> bo fun t10 =>
  retK m.length r7.2 [t0] t10
 | _, _ => none
noncomputable def C_impl_Cell_ok : List Value → Mem → Option VM := fcall X_impl_Cell_ok
@[simp] theorem c_impl_Cell_ok : C_impl_Cell_ok = fcall X_impl_Cell_ok := (rfl)
theorem cok_impl_Cell_ok : codeOk CT Tryd.f64 (Tryd.f64.body.get rfl) = true := by kernel_rfl
theorem xe_impl_Cell_ok (t0 : Value) (m : Mem) : ex CT cf_impl_Cell_ok Tryd.f64 1 m.length [] (fun _ _ _ => none) 400 [.code (Tryd.f64.body.get rfl)] (argsT 0 [t0]) m = X_impl_Cell_ok [t0] m := by kernel_rfl
theorem okc_impl_Cell_ok : CallOK CT cf_impl_Cell_ok := cfc_ok ok_C_impl_isAttr (cfc_ok ok_C_impl_shows cfn_ok)
theorem ok_X_impl_Cell_ok : OkX CT 64 X_impl_Cell_ok := OkX.of_ex (cf := cf_impl_Cell_ok) (np := 1) (LL := []) (J := (fun _ _ _ _ => none)) CT_ok rfl Tryd.func64 rfl (Nat.le_of_ble_eq_true rfl) (by decide) cok_impl_Cell_ok okc_impl_Cell_ok (fun k => noLoops rfl) (fun args m r h => match args, h with
  | [t0], h => ⟨rfl, (xe_impl_Cell_ok t0 m).trans h⟩)
theorem ok_C_impl_Cell_ok : OkC CT 64 C_impl_Cell_ok := fcall_ok rfl ok_X_impl_Cell_ok
noncomputable def cf_impl_GridFault_1 : CallF := cfc 64 C_impl_Cell_ok cfn
noncomputable def X_impl_GridFault_1 : List Value → Mem → Option VM
 | [t0], m =>
  (boxX m t0) |> bo fun r1 =>
  (ldS r1.2 2 r1.1) |> bo fun t3 =>
  (C_impl_Cell_ok [t3] r1.2) |> bo fun r3 =>
  (uop .not r3.1) |> bo fun t5 =>
  retK m.length r3.2 [t0] t5
 | _, _ => none
noncomputable def C_impl_GridFault_1 : List Value → Mem → Option VM := fcall X_impl_GridFault_1
@[simp] theorem c_impl_GridFault_1 : C_impl_GridFault_1 = fcall X_impl_GridFault_1 := (rfl)
theorem cok_impl_GridFault_1 : codeOk CT Tryd.f63 (Tryd.f63.body.get rfl) = true := by kernel_rfl
theorem xe_impl_GridFault_1 (t0 : Value) (m : Mem) : ex CT cf_impl_GridFault_1 Tryd.f63 1 m.length [] (fun _ _ _ => none) 400 [.code (Tryd.f63.body.get rfl)] (argsT 0 [t0]) m = X_impl_GridFault_1 [t0] m := by kernel_rfl
theorem okc_impl_GridFault_1 : CallOK CT cf_impl_GridFault_1 := cfc_ok ok_C_impl_Cell_ok cfn_ok
theorem ok_X_impl_GridFault_1 : OkX CT 63 X_impl_GridFault_1 := OkX.of_ex (cf := cf_impl_GridFault_1) (np := 1) (LL := []) (J := (fun _ _ _ _ => none)) CT_ok rfl Tryd.func63 rfl (Nat.le_of_ble_eq_true rfl) (by decide) cok_impl_GridFault_1 okc_impl_GridFault_1 (fun k => noLoops rfl) (fun args m r h => match args, h with
  | [t0], h => ⟨rfl, (xe_impl_GridFault_1 t0 m).trans h⟩)
theorem ok_C_impl_GridFault_1 : OkC CT 63 C_impl_GridFault_1 := fcall_ok rfl ok_X_impl_GridFault_1
noncomputable def cf_slices_IndexFunc_impl_Cell_impl_Cell : CallF := cfc 63 C_impl_GridFault_1 cfn
noncomputable def L_slices_IndexFunc_impl_Cell_impl_Cell (k : Nat) : Nat → Nat → List Value → Mem → Option VM
 | q + 1, 0, [t0, t1, t7, t8], m =>
  (binX .lss .no t8 t7) |> bo fun t9 =>
  brX t9
   (
    (ixaX 2 t0 t8) |> bo fun t14 =>
    (ldS m 2 t14) |> bo fun t15 =>
    (callV cf_slices_IndexFunc_impl_Cell_impl_Cell t1 [t15] m) |> bo fun r4 =>
    brX r4.1
     (
      retK k r4.2 [t0, t1] t8)
     (
      (binX .add .no t8 (.int .i64 1)) |> bo fun t18 =>
      cutK k r4.2 [t0, t1] [t0, t1, t7, t18] (L_slices_IndexFunc_impl_Cell_impl_Cell k q 0)))
   (
    retK k m [t0, t1] (.int .i64 (-1)))
 | _, _, _, _ => none
noncomputable def J_slices_IndexFunc_impl_Cell_impl_Cell (k q l : Nat) : List Value → Mem → Option VM := cond (Nat.beq l 2) (L_slices_IndexFunc_impl_Cell_impl_Cell k q 0) (fun _ _ => none)
def LL_slices_IndexFunc_impl_Cell_impl_Cell : List (Nat × List Tmp) := [(2, [0, 1, 7, 8])]
noncomputable def X_slices_IndexFunc_impl_Cell_impl_Cell : List Value → Mem → Option VM
 | [t0, t1], m =>
  (lenX t0) |> bo fun t7 =>
  cutK m.length m [t0, t1] [t0, t1, t7, (.int .i64 0)] (L_slices_IndexFunc_impl_Cell_impl_Cell m.length QQ 0)
 | _, _ => none
noncomputable def C_slices_IndexFunc_impl_Cell_impl_Cell : List Value → Mem → Option VM := fcall X_slices_IndexFunc_impl_Cell_impl_Cell
@[simp] theorem c_slices_IndexFunc_impl_Cell_impl_Cell : C_slices_IndexFunc_impl_Cell_impl_Cell = fcall X_slices_IndexFunc_impl_Cell_impl_Cell := (rfl)
theorem cok_slices_IndexFunc_impl_Cell_impl_Cell : codeOk CT Tryd.f80 (Tryd.f80.body.get rfl) = true := by kernel_rfl
theorem xe_slices_IndexFunc_impl_Cell_impl_Cell (t0 t1 : Value) (m : Mem) : ex CT cf_slices_IndexFunc_impl_Cell_impl_Cell Tryd.f80 2 m.length LL_slices_IndexFunc_impl_Cell_impl_Cell (J_slices_IndexFunc_impl_Cell_impl_Cell m.length QQ) 400 [.code (Tryd.f80.body.get rfl)] (argsT 0 [t0, t1]) m = X_slices_IndexFunc_impl_Cell_impl_Cell [t0, t1] m := by kernel_rfl
theorem okc_slices_IndexFunc_impl_Cell_impl_Cell : CallOK CT cf_slices_IndexFunc_impl_Cell_impl_Cell := cfc_ok ok_C_impl_GridFault_1 cfn_ok
theorem le_slices_IndexFunc_impl_Cell_impl_Cell_0 (k q : Nat) (t0 t1 t7 t8 : Value) (m : Mem) : ex CT cf_slices_IndexFunc_impl_Cell_impl_Cell Tryd.f80 2 k LL_slices_IndexFunc_impl_Cell_impl_Cell (J_slices_IndexFunc_impl_Cell_impl_Cell k q) 400 (atLoop Tryd.f80 0) [(0, t0), (1, t1), (7, t7), (8, t8)] m = J_slices_IndexFunc_impl_Cell_impl_Cell k (q + 1) 2 [t0, t1, t7, t8] m := by kernel_rfl
theorem gl_slices_IndexFunc_impl_Cell_impl_Cell (k : Nat) : ∀ q i, i < 1 → GoodL CT k Tryd.f80 LL_slices_IndexFunc_impl_Cell_impl_Cell (J_slices_IndexFunc_impl_Cell_impl_Cell k q) (atLoop Tryd.f80 i)
 | 0, 0, _ => goodL_zero (l := 2) (by kernel_rfl) (fun vs m => by kernel_rfl)
 | 0, _ + 1, h => absurd h (by omega)
 | q + 1, 0, _ => goodL_succ (np := 2) (l := 2) (live := [0, 1, 7, 8]) (n := 1) CT_ok rfl okc_slices_IndexFunc_impl_Cell_impl_Cell (c := (Tryd.f80.body.get rfl)) rfl cok_slices_IndexFunc_impl_Cell_impl_Cell (by kernel_rfl) (gl_slices_IndexFunc_impl_Cell_impl_Cell k q) (by kernel_rfl) rfl (fun vs m r hl h => match vs, hl with
  | [t0, t1, t7, t8], _ => (le_slices_IndexFunc_impl_Cell_impl_Cell_0 k q t0 t1 t7 t8 m).trans h)
 | _ + 1, _ + 1, h => absurd h (by omega)
theorem ok_X_slices_IndexFunc_impl_Cell_impl_Cell : OkX CT 80 X_slices_IndexFunc_impl_Cell_impl_Cell := OkX.of_ex (cf := cf_slices_IndexFunc_impl_Cell_impl_Cell) (np := 2) (LL := LL_slices_IndexFunc_impl_Cell_impl_Cell) (J := (fun k => J_slices_IndexFunc_impl_Cell_impl_Cell k QQ)) CT_ok rfl Tryd.func80 rfl (Nat.le_of_ble_eq_true rfl) (by decide) cok_slices_IndexFunc_impl_Cell_impl_Cell okc_slices_IndexFunc_impl_Cell_impl_Cell (fun k => allLoops rfl (by kernel_rfl) (gl_slices_IndexFunc_impl_Cell_impl_Cell k QQ)) (fun args m r h => match args, h with
  | [t0, t1], h => ⟨rfl, (xe_slices_IndexFunc_impl_Cell_impl_Cell t0 t1 m).trans h⟩)
theorem ok_C_slices_IndexFunc_impl_Cell_impl_Cell : OkC CT 80 C_slices_IndexFunc_impl_Cell_impl_Cell := fcall_ok rfl ok_X_slices_IndexFunc_impl_Cell_impl_Cell
noncomputable def cf_slices_ContainsFunc_impl_Cell_impl_Cell : CallF := cfc 80 C_slices_IndexFunc_impl_Cell_impl_Cell cfn
noncomputable def X_slices_ContainsFunc_impl_Cell_impl_Cell : List Value → Mem → Option VM
 | [t0, t1], m =>
  (C_slices_IndexFunc_impl_Cell_impl_Cell [t0, t1] m) |> bo fun r1 =>
  (binX .geq .no r1.1 (.int .i64 0)) |> bo fun t8 =>
  retK m.length r1.2 [t0, t1] t8
 | _, _ => none
noncomputable def C_slices_ContainsFunc_impl_Cell_impl_Cell : List Value → Mem → Option VM := fcall X_slices_ContainsFunc_impl_Cell_impl_Cell
@[simp] theorem c_slices_ContainsFunc_impl_Cell_impl_Cell : C_slices_ContainsFunc_impl_Cell_impl_Cell = fcall X_slices_ContainsFunc_impl_Cell_impl_Cell := (rfl)
theorem cok_slices_ContainsFunc_impl_Cell_impl_Cell : codeOk CT Tryd.f65 (Tryd.f65.body.get rfl) = true := by kernel_rfl
theorem xe_slices_ContainsFunc_impl_Cell_impl_Cell (t0 t1 : Value) (m : Mem) : ex CT cf_slices_ContainsFunc_impl_Cell_impl_Cell Tryd.f65 2 m.length [] (fun _ _ _ => none) 400 [.code (Tryd.f65.body.get rfl)] (argsT 0 [t0, t1]) m = X_slices_ContainsFunc_impl_Cell_impl_Cell [t0, t1] m := by kernel_rfl
theorem okc_slices_ContainsFunc_impl_Cell_impl_Cell : CallOK CT cf_slices_ContainsFunc_impl_Cell_impl_Cell := cfc_ok ok_C_slices_IndexFunc_impl_Cell_impl_Cell cfn_ok
theorem ok_X_slices_ContainsFunc_impl_Cell_impl_Cell : OkX CT 65 X_slices_ContainsFunc_impl_Cell_impl_Cell := OkX.of_ex (cf := cf_slices_ContainsFunc_impl_Cell_impl_Cell) (np := 2) (LL := []) (J := (fun _ _ _ _ => none)) CT_ok rfl Tryd.func65 rfl (Nat.le_of_ble_eq_true rfl) (by decide) cok_slices_ContainsFunc_impl_Cell_impl_Cell okc_slices_ContainsFunc_impl_Cell_impl_Cell (fun k => noLoops rfl) (fun args m r h => match args, h with
  | [t0, t1], h => ⟨rfl, (xe_slices_ContainsFunc_impl_Cell_impl_Cell t0 t1 m).trans h⟩)
theorem ok_C_slices_ContainsFunc_impl_Cell_impl_Cell : OkC CT 65 C_slices_ContainsFunc_impl_Cell_impl_Cell := fcall_ok rfl ok_X_slices_ContainsFunc_impl_Cell_impl_Cell
noncomputable def cf_impl_GridFault : CallF := cfc 45 C_impl_unless (cfc 62 C_impl_sizeOk (cfc 65 C_slices_ContainsFunc_impl_Cell_impl_Cell cfn))
noncomputable def X_impl_GridFault : List Value → Mem → Option VM
 | [t0], m =>
  (boxX m t0) |> bo fun r1 =>
  (fadX 0 r1.1) |> bo fun t5 =>
  (ld1 r1.2 t5) |> bo fun t6 =>
  (fadX 1 r1.1) |> bo fun t7 =>
  (ld1 r1.2 t7) |> bo fun t8 =>
  (C_impl_sizeOk [t6, t8] r1.2) |> bo fun r6 =>
  (uop .not r6.1) |> bo fun t10 =>
  brX t10
   (
    retK m.length r6.2 [t0] (.int .i64 3))
   (
    (fadX 3 r1.1) |> bo fun t11 =>
    (ld1 r6.2 t11) |> bo fun t12 =>
    (lenX t12) |> bo fun t13 =>
    (fadX 2 r1.1) |> bo fun t14 =>
    (ld1 r6.2 t14) |> bo fun t15 =>
    (lenX t15) |> bo fun t16 =>
    (fadX 0 r1.1) |> bo fun t17 =>
    (ld1 r6.2 t17) |> bo fun t18 =>
    (fadX 1 r1.1) |> bo fun t19 =>
    (ld1 r6.2 t19) |> bo fun t20 =>
    (binX .mul .no t18 t20) |> bo fun t21 =>
    (binX .neq .no t16 t21) |> bo fun t22 =>
    (gd t22 false (some (t13, r6.2)) r6.2) |> bo fun r20 =>
    (gd t22 false ((fadX 1 r1.1) |> bo fun v => some (v, r20.2)) r20.2) |> bo fun r21 =>
    (gd t22 false ((ld1 r21.2 r21.1) |> bo fun v => some (v, r21.2)) r21.2) |> bo fun r22 =>
    (gd t22 false ((binX .mul .no (.int .i64 5) r22.1) |> bo fun v => some (v, r22.2)) r22.2) |> bo fun r23 =>
    (gd t22 false ((binX .gtr .no r20.1 r23.1) |> bo fun v => some (v, r23.2)) r23.2) |> bo fun r24 =>
    (pickX t22 (.bool true) r24.1) |> bo fun t29 =>
    (gd t29 false (some (t13, r24.2)) r24.2) |> bo fun r26 =>
    (gd t29 false ((fadX 1 r1.1) |> bo fun v => some (v, r26.2)) r26.2) |> bo fun r27 =>
    (gd t29 false ((ld1 r27.2 r27.1) |> bo fun v => some (v, r27.2)) r27.2) |> bo fun r28 =>
    (gd t29 false ((binX .rem .no r26.1 r28.1) |> bo fun v => some (v, r28.2)) r28.2) |> bo fun r29 =>
    (gd t29 false ((binX .neq .no r29.1 (.int .i64 0)) |> bo fun v => some (v, r29.2)) r29.2) |> bo fun r30 =>
    (pickX t29 (.bool true) r30.1) |> bo fun t36 =>
    brX t36
     (
      retK m.length r30.2 [t0] (.int .i64 1))
     (
      (fadX 2 r1.1) |> bo fun t37 =>
      (ld1 r30.2 t37) |> bo fun t38 =>
      (C_slices_ContainsFunc_impl_Cell_impl_Cell [t38, (.func (.func 63) #[] #[])] r30.2) |> bo fun r34 =>
      (uop .not r34.1) |> bo fun t41 =>
      (gd t41 true ((fadX 3 r1.1) |> bo fun v => some (v, r34.2)) r34.2) |> bo fun r36 =>
      (gd t41 true ((ld1 r36.2 r36.1) |> bo fun v => some (v, r36.2)) r36.2) |> bo fun r37 =>
      (gd t41 true (some ((.func (.func 63) #[] #[]), r37.2)) r37.2) |> bo fun r38 =>
      (gd t41 true ((C_slices_ContainsFunc_impl_Cell_impl_Cell [r37.1, r38.1] r38.2) |> bo fun r => some (r.1, r.2)) r38.2) |> bo fun r39 =>
      (gd t41 true ((uop .not r39.1) |> bo fun v => some (v, r39.2)) r39.2) |> bo fun r40 =>
      (pickX t41 r40.1 (.bool false)) |> bo fun t48 =>
      (C_impl_unless [t48, (.int .i64 3)] r40.2) |> bo fun r42 =>
      retK m.length r42.2 [t0] r42.1))
 | _, _ => none
noncomputable def C_impl_GridFault : List Value → Mem → Option VM := fcall X_impl_GridFault
@[simp] theorem c_impl_GridFault : C_impl_GridFault = fcall X_impl_GridFault := (rfl)
theorem cok_impl_GridFault : codeOk CT Tryd.f44 (Tryd.f44.body.get rfl) = true := by kernel_rfl
theorem xe_impl_GridFault (t0 : Value) (m : Mem) : ex CT cf_impl_GridFault Tryd.f44 1 m.length [] (fun _ _ _ => none) 400 [.code (Tryd.f44.body.get rfl)] (argsT 0 [t0]) m = X_impl_GridFault [t0] m := by kernel_rfl
theorem okc_impl_GridFault : CallOK CT cf_impl_GridFault := cfc_ok ok_C_impl_unless (cfc_ok ok_C_impl_sizeOk (cfc_ok ok_C_slices_ContainsFunc_impl_Cell_impl_Cell cfn_ok))
theorem ok_X_impl_GridFault : OkX CT 44 X_impl_GridFault := OkX.of_ex (cf := cf_impl_GridFault) (np := 1) (LL := []) (J := (fun _ _ _ _ => none)) CT_ok rfl Tryd.func44 rfl (Nat.le_of_ble_eq_true rfl) (by decide) cok_impl_GridFault okc_impl_GridFault (fun k => noLoops rfl) (fun args m r h => match args, h with
  | [t0], h => ⟨rfl, (xe_impl_GridFault t0 m).trans h⟩)
theorem ok_C_impl_GridFault : OkC CT 44 C_impl_GridFault := fcall_ok rfl ok_X_impl_GridFault
noncomputable def cf_impl_Screen_rangeOk_1 : CallF := cfc 23 C_impl_in cfn
noncomputable def X_impl_Screen_rangeOk_1 : List Value → Mem → Option VM
 | [t0], m =>
  (C_impl_in [t0, (.int .i64 1), (.int .i64 3)] m) |> bo fun r1 =>
  (uop .not r1.1) |> bo fun t5 =>
  retK m.length r1.2 [t0] t5
 | _, _ => none
noncomputable def C_impl_Screen_rangeOk_1 : List Value → Mem → Option VM := fcall X_impl_Screen_rangeOk_1
@[simp] theorem c_impl_Screen_rangeOk_1 : C_impl_Screen_rangeOk_1 = fcall X_impl_Screen_rangeOk_1 := (rfl)
theorem cok_impl_Screen_rangeOk_1 : codeOk CT Tryd.f68 (Tryd.f68.body.get rfl) = true := by kernel_rfl
theorem xe_impl_Screen_rangeOk_1 (t0 : Value) (m : Mem) : ex CT cf_impl_Screen_rangeOk_1 Tryd.f68 1 m.length [] (fun _ _ _ => none) 400 [.code (Tryd.f68.body.get rfl)] (argsT 0 [t0]) m = X_impl_Screen_rangeOk_1 [t0] m := by kernel_rfl
theorem okc_impl_Screen_rangeOk_1 : CallOK CT cf_impl_Screen_rangeOk_1 := cfc_ok ok_C_impl_in cfn_ok
theorem ok_X_impl_Screen_rangeOk_1 : OkX CT 68 X_impl_Screen_rangeOk_1 := OkX.of_ex (cf := cf_impl_Screen_rangeOk_1) (np := 1) (LL := []) (J := (fun _ _ _ _ => none)) CT_ok rfl Tryd.func68 rfl (Nat.le_of_ble_eq_true rfl) (by decide) cok_impl_Screen_rangeOk_1 okc_impl_Screen_rangeOk_1 (fun k => noLoops rfl) (fun args m r h => match args, h with
  | [t0], h => ⟨rfl, (xe_impl_Screen_rangeOk_1 t0 m).trans h⟩)
theorem ok_C_impl_Screen_rangeOk_1 : OkC CT 68 C_impl_Screen_rangeOk_1 := fcall_ok rfl ok_X_impl_Screen_rangeOk_1
noncomputable def cf_slices_IndexFunc_int64_int64 : CallF := cfc 68 C_impl_Screen_rangeOk_1 cfn
noncomputable def L_slices_IndexFunc_int64_int64 (k : Nat) : Nat → Nat → List Value → Mem → Option VM
 | q + 1, 0, [t0, t1, t7, t8], m =>
  (binX .lss .no t8 t7) |> bo fun t9 =>
  brX t9
   (
    (ixaX 1 t0 t8) |> bo fun t14 =>
    (ld1 m t14) |> bo fun t15 =>
    (callV cf_slices_IndexFunc_int64_int64 t1 [t15] m) |> bo fun r4 =>
    brX r4.1
     (
      retK k r4.2 [t0, t1] t8)
     (
      (binX .add .no t8 (.int .i64 1)) |> bo fun t18 =>
      cutK k r4.2 [t0, t1] [t0, t1, t7, t18] (L_slices_IndexFunc_int64_int64 k q 0)))
   (
    retK k m [t0, t1] (.int .i64 (-1)))
 | _, _, _, _ => none
noncomputable def J_slices_IndexFunc_int64_int64 (k q l : Nat) : List Value → Mem → Option VM := cond (Nat.beq l 2) (L_slices_IndexFunc_int64_int64 k q 0) (fun _ _ => none)
def LL_slices_IndexFunc_int64_int64 : List (Nat × List Tmp) := [(2, [0, 1, 7, 8])]
noncomputable def X_slices_IndexFunc_int64_int64 : List Value → Mem → Option VM
 | [t0, t1], m =>
  (lenX t0) |> bo fun t7 =>
  cutK m.length m [t0, t1] [t0, t1, t7, (.int .i64 0)] (L_slices_IndexFunc_int64_int64 m.length QQ 0)
 | _, _ => none
noncomputable def C_slices_IndexFunc_int64_int64 : List Value → Mem → Option VM := fcall X_slices_IndexFunc_int64_int64
@[simp] theorem c_slices_IndexFunc_int64_int64 : C_slices_IndexFunc_int64_int64 = fcall X_slices_IndexFunc_int64_int64 := (rfl)
theorem cok_slices_IndexFunc_int64_int64 : codeOk CT Tryd.f81 (Tryd.f81.body.get rfl) = true := by kernel_rfl
theorem xe_slices_IndexFunc_int64_int64 (t0 t1 : Value) (m : Mem) : ex CT cf_slices_IndexFunc_int64_int64 Tryd.f81 2 m.length LL_slices_IndexFunc_int64_int64 (J_slices_IndexFunc_int64_int64 m.length QQ) 400 [.code (Tryd.f81.body.get rfl)] (argsT 0 [t0, t1]) m = X_slices_IndexFunc_int64_int64 [t0, t1] m := by kernel_rfl
theorem okc_slices_IndexFunc_int64_int64 : CallOK CT cf_slices_IndexFunc_int64_int64 := cfc_ok ok_C_impl_Screen_rangeOk_1 cfn_ok
theorem le_slices_IndexFunc_int64_int64_0 (k q : Nat) (t0 t1 t7 t8 : Value) (m : Mem) : ex CT cf_slices_IndexFunc_int64_int64 Tryd.f81 2 k LL_slices_IndexFunc_int64_int64 (J_slices_IndexFunc_int64_int64 k q) 400 (atLoop Tryd.f81 0) [(0, t0), (1, t1), (7, t7), (8, t8)] m = J_slices_IndexFunc_int64_int64 k (q + 1) 2 [t0, t1, t7, t8] m := by kernel_rfl
theorem gl_slices_IndexFunc_int64_int64 (k : Nat) : ∀ q i, i < 1 → GoodL CT k Tryd.f81 LL_slices_IndexFunc_int64_int64 (J_slices_IndexFunc_int64_int64 k q) (atLoop Tryd.f81 i)
 | 0, 0, _ => goodL_zero (l := 2) (by kernel_rfl) (fun vs m => by kernel_rfl)
 | 0, _ + 1, h => absurd h (by omega)
 | q + 1, 0, _ => goodL_succ (np := 2) (l := 2) (live := [0, 1, 7, 8]) (n := 1) CT_ok rfl okc_slices_IndexFunc_int64_int64 (c := (Tryd.f81.body.get rfl)) rfl cok_slices_IndexFunc_int64_int64 (by kernel_rfl) (gl_slices_IndexFunc_int64_int64 k q) (by kernel_rfl) rfl (fun vs m r hl h => match vs, hl with
  | [t0, t1, t7, t8], _ => (le_slices_IndexFunc_int64_int64_0 k q t0 t1 t7 t8 m).trans h)
 | _ + 1, _ + 1, h => absurd h (by omega)
theorem ok_X_slices_IndexFunc_int64_int64 : OkX CT 81 X_slices_IndexFunc_int64_int64 := OkX.of_ex (cf := cf_slices_IndexFunc_int64_int64) (np := 2) (LL := LL_slices_IndexFunc_int64_int64) (J := (fun k => J_slices_IndexFunc_int64_int64 k QQ)) CT_ok rfl Tryd.func81 rfl (Nat.le_of_ble_eq_true rfl) (by decide) cok_slices_IndexFunc_int64_int64 okc_slices_IndexFunc_int64_int64 (fun k => allLoops rfl (by kernel_rfl) (gl_slices_IndexFunc_int64_int64 k QQ)) (fun args m r h => match args, h with
  | [t0, t1], h => ⟨rfl, (xe_slices_IndexFunc_int64_int64 t0 t1 m).trans h⟩)
theorem ok_C_slices_IndexFunc_int64_int64 : OkC CT 81 C_slices_IndexFunc_int64_int64 := fcall_ok rfl ok_X_slices_IndexFunc_int64_int64
noncomputable def cf_slices_ContainsFunc_int64_int64 : CallF := cfc 81 C_slices_IndexFunc_int64_int64 cfn
noncomputable def X_slices_ContainsFunc_int64_int64 : List Value → Mem → Option VM
 | [t0, t1], m =>
  (C_slices_IndexFunc_int64_int64 [t0, t1] m) |> bo fun r1 =>
  (binX .geq .no r1.1 (.int .i64 0)) |> bo fun t8 =>
  retK m.length r1.2 [t0, t1] t8
 | _, _ => none
noncomputable def C_slices_ContainsFunc_int64_int64 : List Value → Mem → Option VM := fcall X_slices_ContainsFunc_int64_int64
@[simp] theorem c_slices_ContainsFunc_int64_int64 : C_slices_ContainsFunc_int64_int64 = fcall X_slices_ContainsFunc_int64_int64 := (rfl)
theorem cok_slices_ContainsFunc_int64_int64 : codeOk CT Tryd.f67 (Tryd.f67.body.get rfl) = true := by kernel_rfl
theorem xe_slices_ContainsFunc_int64_int64 (t0 t1 : Value) (m : Mem) : ex CT cf_slices_ContainsFunc_int64_int64 Tryd.f67 2 m.length [] (fun _ _ _ => none) 400 [.code (Tryd.f67.body.get rfl)] (argsT 0 [t0, t1]) m = X_slices_ContainsFunc_int64_int64 [t0, t1] m := by kernel_rfl
theorem okc_slices_ContainsFunc_int64_int64 : CallOK CT cf_slices_ContainsFunc_int64_int64 := cfc_ok ok_C_slices_IndexFunc_int64_int64 cfn_ok
theorem ok_X_slices_ContainsFunc_int64_int64 : OkX CT 67 X_slices_ContainsFunc_int64_int64 := OkX.of_ex (cf := cf_slices_ContainsFunc_int64_int64) (np := 2) (LL := []) (J := (fun _ _ _ _ => none)) CT_ok rfl Tryd.func67 rfl (Nat.le_of_ble_eq_true rfl) (by decide) cok_slices_ContainsFunc_int64_int64 okc_slices_ContainsFunc_int64_int64 (fun k => noLoops rfl) (fun args m r h => match args, h with
  | [t0, t1], h => ⟨rfl, (xe_slices_ContainsFunc_int64_int64 t0 t1 m).trans h⟩)
theorem ok_C_slices_ContainsFunc_int64_int64 : OkC CT 67 C_slices_ContainsFunc_int64_int64 := fcall_ok rfl ok_X_slices_ContainsFunc_int64_int64
noncomputable def cf_impl_Grid_isPlace : CallF := cfc 23 C_impl_in cfn
noncomputable def X_impl_Grid_isPlace : List Value → Mem → Option VM
 | [t0, t1, t2], m =>
  (boxX m t0) |> bo fun r1 =>
  (fadX 0 r1.1) |> bo fun t8 =>
  (ld1 r1.2 t8) |> bo fun t9 =>
  (binX .sub .no t9 (.int .i64 1)) |> bo fun t10 =>
  (C_impl_in [t1, (.int .i64 0), t10] r1.2) |> bo fun r5 =>
  (gd r5.1 true (some (t2, r5.2)) r5.2) |> bo fun r6 =>
  (gd r5.1 true ((fadX 1 r1.1) |> bo fun v => some (v, r6.2)) r6.2) |> bo fun r7 =>
  (gd r5.1 true ((ld1 r7.2 r7.1) |> bo fun v => some (v, r7.2)) r7.2) |> bo fun r8 =>
  (gd r5.1 true ((binX .sub .no r8.1 (.int .i64 1)) |> bo fun v => some (v, r8.2)) r8.2) |> bo fun r9 =>
  (gd r5.1 true ((C_impl_in [r6.1, (.int .i64 0), r9.1] r9.2) |> bo fun r => some (r.1, r.2)) r9.2) |> bo fun r10 =>
  (pickX r5.1 r10.1 (.bool false)) |> bo fun t18 =>
  retK m.length r10.2 [t0, t1, t2] t18
 | _, _ => none
noncomputable def C_impl_Grid_isPlace : List Value → Mem → Option VM := fcall X_impl_Grid_isPlace
@[simp] theorem c_impl_Grid_isPlace : C_impl_Grid_isPlace = fcall X_impl_Grid_isPlace := (rfl)
theorem cok_impl_Grid_isPlace : codeOk CT Tryd.f69 (Tryd.f69.body.get rfl) = true := by kernel_rfl
theorem xe_impl_Grid_isPlace (t0 t1 t2 : Value) (m : Mem) : ex CT cf_impl_Grid_isPlace Tryd.f69 3 m.length [] (fun _ _ _ => none) 400 [.code (Tryd.f69.body.get rfl)] (argsT 0 [t0, t1, t2]) m = X_impl_Grid_isPlace [t0, t1, t2] m := by kernel_rfl
theorem okc_impl_Grid_isPlace : CallOK CT cf_impl_Grid_isPlace := cfc_ok ok_C_impl_in cfn_ok
theorem ok_X_impl_Grid_isPlace : OkX CT 69 X_impl_Grid_isPlace := OkX.of_ex (cf := cf_impl_Grid_isPlace) (np := 3) (LL := []) (J := (fun _ _ _ _ => none)) CT_ok rfl Tryd.func69 rfl (Nat.le_of_ble_eq_true rfl) (by decide) cok_impl_Grid_isPlace okc_impl_Grid_isPlace (fun k => noLoops rfl) (fun args m r h => match args, h with
  | [t0, t1, t2], h => ⟨rfl, (xe_impl_Grid_isPlace t0 t1 t2 m).trans h⟩)
theorem ok_C_impl_Grid_isPlace : OkC CT 69 C_impl_Grid_isPlace := fcall_ok rfl ok_X_impl_Grid_isPlace
noncomputable def cf_impl_Screen_rangeOk : CallF := cfc 23 C_impl_in (cfc 66 C_impl_isAttr (cfc 67 C_slices_ContainsFunc_int64_int64 (cfc 69 C_impl_Grid_isPlace cfn)))
noncomputable def X_impl_Screen_rangeOk : List Value → Mem → Option VM
 | [t0], m =>
  (nilX t0) |> bo fun t6 =>
  (fadX 14 t6) |> bo fun t7 =>
  (ld1 m t7) |> bo fun t8 =>
  (C_impl_in [t8, (.int .i64 0), (.int .i64 5)] m) |> bo fun r4 =>
  (gd r4.1 true (some (t0, r4.2)) r4.2) |> bo fun r5 =>
  (gd r4.1 true ((nilX r5.1) |> bo fun v => some (v, r5.2)) r5.2) |> bo fun r6 =>
  (gd r4.1 true ((fadX 15 r6.1) |> bo fun v => some (v, r6.2)) r6.2) |> bo fun r7 =>
  (gd r4.1 true ((ld1 r7.2 r7.1) |> bo fun v => some (v, r7.2)) r7.2) |> bo fun r8 =>
  (gd r4.1 true ((C_impl_in [r8.1, (.int .i64 0), (.int .i64 11)] r8.2) |> bo fun r => some (r.1, r.2)) r8.2) |> bo fun r9 =>
  (pickX r4.1 r9.1 (.bool false)) |> bo fun t16 =>
  (gd t16 true (some (t0, r9.2)) r9.2) |> bo fun r11 =>
  (gd t16 true ((nilX r11.1) |> bo fun v => some (v, r11.2)) r11.2) |> bo fun r12 =>
  (gd t16 true ((fadX 16 r12.1) |> bo fun v => some (v, r12.2)) r12.2) |> bo fun r13 =>
  (gd t16 true ((ld1 r13.2 r13.1) |> bo fun v => some (v, r13.2)) r13.2) |> bo fun r14 =>
  (gd t16 true ((C_impl_isAttr [r14.1] r14.2) |> bo fun r => some (r.1, r.2)) r14.2) |> bo fun r15 =>
  (pickX t16 r15.1 (.bool false)) |> bo fun t23 =>
  (nilX t0) |> bo fun t25 =>
  (fadX 17 t25) |> bo fun t26 =>
  (ld1 r15.2 t26) |> bo fun t27 =>
  (lenX t27) |> bo fun t28 =>
  (binX .eql .no t28 (.int .i64 2)) |> bo fun t29 =>
  (gd t29 true (some (t0, r15.2)) r15.2) |> bo fun r22 =>
  (gd t29 true ((nilX r22.1) |> bo fun v => some (v, r22.2)) r22.2) |> bo fun r23 =>
  (gd t29 true ((fadX 17 r23.1) |> bo fun v => some (v, r23.2)) r23.2) |> bo fun r24 =>
  (gd t29 true ((ld1 r24.2 r24.1) |> bo fun v => some (v, r24.2)) r24.2) |> bo fun r25 =>
  (gd t29 true ((C_slices_ContainsFunc_int64_int64 [r25.1, (.func (.func 68) #[] #[])] r25.2) |> bo fun r => some (r.1, r.2)) r25.2) |> bo fun r26 =>
  (gd t29 true ((uop .not r26.1) |> bo fun v => some (v, r26.2)) r26.2) |> bo fun r27 =>
  (pickX t29 r27.1 (.bool false)) |> bo fun t37 =>
  (nilX t0) |> bo fun t39 =>
  (fadX 0 t39) |> bo fun t40 =>
  (ldS r27.2 4 t40) |> bo fun t41 =>
  (nilX t0) |> bo fun t43 =>
  (fadX 4 t43) |> bo fun t44 =>
  (ld1 r27.2 t44) |> bo fun t45 =>
  (nilX t0) |> bo fun t47 =>
  (fadX 5 t47) |> bo fun t48 =>
  (ld1 r27.2 t48) |> bo fun t49 =>
  (C_impl_Grid_isPlace [t41, t45, t49] r27.2) |> bo fun r38 =>
  (gd r38.1 true (some (t0, r38.2)) r38.2) |> bo fun r39 =>
  (gd r38.1 true ((nilX r39.1) |> bo fun v => some (v, r39.2)) r39.2) |> bo fun r40 =>
  (gd r38.1 true ((fadX 7 r40.1) |> bo fun v => some (v, r40.2)) r40.2) |> bo fun r41 =>
  (gd r38.1 true ((ld1 r41.2 r41.1) |> bo fun v => some (v, r41.2)) r41.2) |> bo fun r42 =>
  (gd r38.1 true ((C_impl_isAttr [r42.1] r42.2) |> bo fun r => some (r.1, r.2)) r42.2) |> bo fun r43 =>
  (pickX r38.1 r43.1 (.bool false)) |> bo fun t57 =>
  (gd t57 true (some (t23, r43.2)) r43.2) |> bo fun r45 =>
  (pickX t57 r45.1 (.bool false)) |> bo fun t60 =>
  (gd t60 true (some (t37, r45.2)) r45.2) |> bo fun r47 =>
  (pickX t60 r47.1 (.bool false)) |> bo fun t63 =>
  (gd t63 true (some (t0, r47.2)) r47.2) |> bo fun r49 =>
  (gd t63 true ((nilX r49.1) |> bo fun v => some (v, r49.2)) r49.2) |> bo fun r50 =>
  (gd t63 true ((fadX 18 r50.1) |> bo fun v => some (v, r50.2)) r50.2) |> bo fun r51 =>
  (gd t63 true ((ld1 r51.2 r51.1) |> bo fun v => some (v, r51.2)) r51.2) |> bo fun r52 =>
  (gd t63 true ((C_impl_in [r52.1, (.int .i64 0), (.int .i64 1)] r52.2) |> bo fun r => some (r.1, r.2)) r52.2) |> bo fun r53 =>
  (pickX t63 r53.1 (.bool false)) |> bo fun t70 =>
  (gd t70 true (some (t0, r53.2)) r53.2) |> bo fun r55 =>
  (gd t70 true ((nilX r55.1) |> bo fun v => some (v, r55.2)) r55.2) |> bo fun r56 =>
  (gd t70 true ((fadX 19 r56.1) |> bo fun v => some (v, r56.2)) r56.2) |> bo fun r57 =>
  (gd t70 true ((ld1 r57.2 r57.1) |> bo fun v => some (v, r57.2)) r57.2) |> bo fun r58 =>
  (gd t70 true ((C_impl_in [r58.1, (.int .i64 0), (.int .i64 999)] r58.2) |> bo fun r => some (r.1, r.2)) r58.2) |> bo fun r59 =>
  (pickX t70 r59.1 (.bool false)) |> bo fun t77 =>
  retK m.length r59.2 [t0] t77
 | _, _ => none
noncomputable def C_impl_Screen_rangeOk : List Value → Mem → Option VM := fcall X_impl_Screen_rangeOk
@[simp] theorem c_impl_Screen_rangeOk : C_impl_Screen_rangeOk = fcall X_impl_Screen_rangeOk := (rfl)
theorem cok_impl_Screen_rangeOk : codeOk CT Tryd.f46 (Tryd.f46.body.get rfl) = true := by kernel_rfl
theorem xe_impl_Screen_rangeOk (t0 : Value) (m : Mem) : ex CT cf_impl_Screen_rangeOk Tryd.f46 1 m.length [] (fun _ _ _ => none) 400 [.code (Tryd.f46.body.get rfl)] (argsT 0 [t0]) m = X_impl_Screen_rangeOk [t0] m := by kernel_rfl
theorem okc_impl_Screen_rangeOk : CallOK CT cf_impl_Screen_rangeOk := cfc_ok ok_C_impl_in (cfc_ok ok_C_impl_isAttr (cfc_ok ok_C_slices_ContainsFunc_int64_int64 (cfc_ok ok_C_impl_Grid_isPlace cfn_ok)))
theorem ok_X_impl_Screen_rangeOk : OkX CT 46 X_impl_Screen_rangeOk := OkX.of_ex (cf := cf_impl_Screen_rangeOk) (np := 1) (LL := []) (J := (fun _ _ _ _ => none)) CT_ok rfl Tryd.func46 rfl (Nat.le_of_ble_eq_true rfl) (by decide) cok_impl_Screen_rangeOk okc_impl_Screen_rangeOk (fun k => noLoops rfl) (fun args m r h => match args, h with
  | [t0], h => ⟨rfl, (xe_impl_Screen_rangeOk t0 m).trans h⟩)
theorem ok_C_impl_Screen_rangeOk : OkC CT 46 C_impl_Screen_rangeOk := fcall_ok rfl ok_X_impl_Screen_rangeOk
noncomputable def cf_impl_Screen_last : CallF := cfn
noncomputable def X_impl_Screen_last : List Value → Mem → Option VM
 | [t0], m =>
  (nilX t0) |> bo fun t5 =>
  (fadX 0 t5) |> bo fun t6 =>
  (fadX 0 t6) |> bo fun t7 =>
  (ld1 m t7) |> bo fun t8 =>
  (binX .sub .no t8 (.int .i64 1)) |> bo fun t9 =>
  (nilX t0) |> bo fun t11 =>
  (fadX 0 t11) |> bo fun t12 =>
  (fadX 1 t12) |> bo fun t13 =>
  (ld1 m t13) |> bo fun t14 =>
  (binX .sub .no t14 (.int .i64 1)) |> bo fun t15 =>
  retK m.length m [t0] (.tuple #[t9, t15])
 | _, _ => none
noncomputable def C_impl_Screen_last : List Value → Mem → Option VM := fcall X_impl_Screen_last
@[simp] theorem c_impl_Screen_last : C_impl_Screen_last = fcall X_impl_Screen_last := (rfl)
theorem cok_impl_Screen_last : codeOk CT Tryd.f70 (Tryd.f70.body.get rfl) = true := by kernel_rfl
theorem xe_impl_Screen_last (t0 : Value) (m : Mem) : ex CT cf_impl_Screen_last Tryd.f70 1 m.length [] (fun _ _ _ => none) 400 [.code (Tryd.f70.body.get rfl)] (argsT 0 [t0]) m = X_impl_Screen_last [t0] m := by kernel_rfl
theorem okc_impl_Screen_last : CallOK CT cf_impl_Screen_last := cfn_ok
theorem ok_X_impl_Screen_last : OkX CT 70 X_impl_Screen_last := OkX.of_ex (cf := cf_impl_Screen_last) (np := 1) (LL := []) (J := (fun _ _ _ _ => none)) CT_ok rfl Tryd.func70 rfl (Nat.le_of_ble_eq_true rfl) (by decide) cok_impl_Screen_last okc_impl_Screen_last (fun k => noLoops rfl) (fun args m r h => match args, h with
  | [t0], h => ⟨rfl, (xe_impl_Screen_last t0 m).trans h⟩)
theorem ok_C_impl_Screen_last : OkC CT 70 C_impl_Screen_last := fcall_ok rfl ok_X_impl_Screen_last
noncomputable def cf_impl_Screen_isRegion : CallF := cfc 70 C_impl_Screen_last cfn
noncomputable def X_impl_Screen_isRegion : List Value → Mem → Option VM
 | [t0, t1, t2], m =>
  (C_impl_Screen_last [t0] m) |> bo fun r1 =>
  (extX 0 r1.1) |> bo fun t12 =>
  (extX 1 r1.1) |> bo fun t13 =>
  (binX .leq .no (.int .i64 0) t1) |> bo fun t15 =>
  (gd t15 true (some (t1, r1.2)) r1.2) |> bo fun r5 =>
  (gd t15 true (some (t2, r5.2)) r5.2) |> bo fun r6 =>
  (gd t15 true ((binX .lss .no r5.1 r6.1) |> bo fun v => some (v, r6.2)) r6.2) |> bo fun r7 =>
  (pickX t15 r7.1 (.bool false)) |> bo fun t20 =>
  (gd t20 true (some (t2, r7.2)) r7.2) |> bo fun r9 =>
  (gd t20 true (some (t12, r9.2)) r9.2) |> bo fun r10 =>
  (gd t20 true ((binX .leq .no r9.1 r10.1) |> bo fun v => some (v, r10.2)) r10.2) |> bo fun r11 =>
  (pickX t20 r11.1 (.bool false)) |> bo fun t25 =>
  (gd t25 false (some (t1, r11.2)) r11.2) |> bo fun r13 =>
  (gd t25 false ((binX .eql .no r13.1 (.int .i64 0)) |> bo fun v => some (v, r13.2)) r13.2) |> bo fun r14 =>
  (gd t25 false (some (r14.1, r14.2)) r14.2) |> bo fun r15 =>
  (gd r15.1 true (some (t2, r15.2)) r15.2) |> bo fun r16 =>
  (gd r15.1 true (some (t12, r16.2)) r16.2) |> bo fun r17 =>
  (gd r15.1 true ((binX .eql .no r16.1 r17.1) |> bo fun v => some (v, r17.2)) r17.2) |> bo fun r18 =>
  (gd t25 false ((pickX r15.1 r18.1 (.bool false)) |> bo fun v => some (v, r18.2)) r18.2) |> bo fun r19 =>
  (pickX t25 (.bool true) r19.1) |> bo fun t34 =>
  retK m.length r19.2 [t0, t1, t2] t34
 | _, _ => none
noncomputable def C_impl_Screen_isRegion : List Value → Mem → Option VM := fcall X_impl_Screen_isRegion
@[simp] theorem c_impl_Screen_isRegion : C_impl_Screen_isRegion = fcall X_impl_Screen_isRegion := (rfl)
theorem cok_impl_Screen_isRegion : codeOk CT Tryd.f71 (Tryd.f71.body.get rfl) = true := by kernel_rfl
theorem xe_impl_Screen_isRegion (t0 t1 t2 : Value) (m : Mem) : ex CT cf_impl_Screen_isRegion Tryd.f71 3 m.length [] (fun _ _ _ => none) 400 [.code (Tryd.f71.body.get rfl)] (argsT 0 [t0, t1, t2]) m = X_impl_Screen_isRegion [t0, t1, t2] m := by kernel_rfl
theorem okc_impl_Screen_isRegion : CallOK CT cf_impl_Screen_isRegion := cfc_ok ok_C_impl_Screen_last cfn_ok
theorem ok_X_impl_Screen_isRegion : OkX CT 71 X_impl_Screen_isRegion := OkX.of_ex (cf := cf_impl_Screen_isRegion) (np := 3) (LL := []) (J := (fun _ _ _ _ => none)) CT_ok rfl Tryd.func71 rfl (Nat.le_of_ble_eq_true rfl) (by decide) cok_impl_Screen_isRegion okc_impl_Screen_isRegion (fun k => noLoops rfl) (fun args m r h => match args, h with
  | [t0, t1, t2], h => ⟨rfl, (xe_impl_Screen_isRegion t0 t1 t2 m).trans h⟩)
theorem ok_C_impl_Screen_isRegion : OkC CT 71 C_impl_Screen_isRegion := fcall_ok rfl ok_X_impl_Screen_isRegion
noncomputable def cf_impl_Screen_inRegion : CallF := cfc 23 C_impl_in cfn
noncomputable def X_impl_Screen_inRegion : List Value → Mem → Option VM
 | [t0], m =>
  (nilX t0) |> bo fun t4 =>
  (fadX 4 t4) |> bo fun t5 =>
  (ld1 m t5) |> bo fun t6 =>
  (nilX t0) |> bo fun t8 =>
  (fadX 8 t8) |> bo fun t9 =>
  (ld1 m t9) |> bo fun t10 =>
  (nilX t0) |> bo fun t12 =>
  (fadX 9 t12) |> bo fun t13 =>
  (ld1 m t13) |> bo fun t14 =>
  (C_impl_in [t6, t10, t14] m) |> bo fun r10 =>
  retK m.length r10.2 [t0] r10.1
 | _, _ => none
noncomputable def C_impl_Screen_inRegion : List Value → Mem → Option VM := fcall X_impl_Screen_inRegion
@[simp] theorem c_impl_Screen_inRegion : C_impl_Screen_inRegion = fcall X_impl_Screen_inRegion := (rfl)
theorem cok_impl_Screen_inRegion : codeOk CT Tryd.f72 (Tryd.f72.body.get rfl) = true := by kernel_rfl
theorem xe_impl_Screen_inRegion (t0 : Value) (m : Mem) : ex CT cf_impl_Screen_inRegion Tryd.f72 1 m.length [] (fun _ _ _ => none) 400 [.code (Tryd.f72.body.get rfl)] (argsT 0 [t0]) m = X_impl_Screen_inRegion [t0] m := by kernel_rfl
theorem okc_impl_Screen_inRegion : CallOK CT cf_impl_Screen_inRegion := cfc_ok ok_C_impl_in cfn_ok
theorem ok_X_impl_Screen_inRegion : OkX CT 72 X_impl_Screen_inRegion := OkX.of_ex (cf := cf_impl_Screen_inRegion) (np := 1) (LL := []) (J := (fun _ _ _ _ => none)) CT_ok rfl Tryd.func72 rfl (Nat.le_of_ble_eq_true rfl) (by decide) cok_impl_Screen_inRegion okc_impl_Screen_inRegion (fun k => noLoops rfl) (fun args m r h => match args, h with
  | [t0], h => ⟨rfl, (xe_impl_Screen_inRegion t0 m).trans h⟩)
theorem ok_C_impl_Screen_inRegion : OkC CT 72 C_impl_Screen_inRegion := fcall_ok rfl ok_X_impl_Screen_inRegion
noncomputable def cf_impl_Screen_formOk : CallF := cfc 70 C_impl_Screen_last (cfc 71 C_impl_Screen_isRegion (cfc 72 C_impl_Screen_inRegion cfn))
noncomputable def X_impl_Screen_formOk : List Value → Mem → Option VM
 | [t0], m =>
  (C_impl_Screen_last [t0] m) |> bo fun r1 =>
  (extX 0 r1.1) |> bo fun t9 =>
  (extX 1 r1.1) |> bo fun t10 =>
  (nilX t0) |> bo fun t12 =>
  (fadX 6 t12) |> bo fun t13 =>
  (ld1 r1.2 t13) |> bo fun t14 =>
  (uop .not t14) |> bo fun t15 =>
  (gd t15 false (some (t0, r1.2)) r1.2) |> bo fun r8 =>
  (gd t15 false ((nilX r8.1) |> bo fun v => some (v, r8.2)) r8.2) |> bo fun r9 =>
  (gd t15 false ((fadX 5 r9.1) |> bo fun v => some (v, r9.2)) r9.2) |> bo fun r10 =>
  (gd t15 false ((ld1 r10.2 r10.1) |> bo fun v => some (v, r10.2)) r10.2) |> bo fun r11 =>
  (gd t15 false (some (t10, r11.2)) r11.2) |> bo fun r12 =>
  (gd t15 false ((binX .eql .no r11.1 r12.1) |> bo fun v => some (v, r12.2)) r12.2) |> bo fun r13 =>
  (gd t15 false (some (r13.1, r13.2)) r13.2) |> bo fun r14 =>
  (gd r14.1 true (some (t0, r14.2)) r14.2) |> bo fun r15 =>
  (gd r14.1 true ((nilX r15.1) |> bo fun v => some (v, r15.2)) r15.2) |> bo fun r16 =>
  (gd r14.1 true ((fadX 11 r16.1) |> bo fun v => some (v, r16.2)) r16.2) |> bo fun r17 =>
  (gd r14.1 true ((ld1 r17.2 r17.1) |> bo fun v => some (v, r17.2)) r17.2) |> bo fun r18 =>
  (gd t15 false ((pickX r14.1 r18.1 (.bool false)) |> bo fun v => some (v, r18.2)) r18.2) |> bo fun r19 =>
  (pickX t15 (.bool true) r19.1) |> bo fun t29 =>
  (nilX t0) |> bo fun t32 =>
  (fadX 8 t32) |> bo fun t33 =>
  (ld1 r19.2 t33) |> bo fun t34 =>
  (nilX t0) |> bo fun t36 =>
  (fadX 9 t36) |> bo fun t37 =>
  (ld1 r19.2 t37) |> bo fun t38 =>
  (C_impl_Screen_isRegion [t0, t34, t38] r19.2) |> bo fun r27 =>
  (gd r27.1 true (some (t0, r27.2)) r27.2) |> bo fun r28 =>
  (gd r27.1 true ((nilX r28.1) |> bo fun v => some (v, r28.2)) r28.2) |> bo fun r29 =>
  (gd r27.1 true ((fadX 13 r29.1) |> bo fun v => some (v, r29.2)) r29.2) |> bo fun r30 =>
  (gd r27.1 true ((ld1 r30.2 r30.1) |> bo fun v => some (v, r30.2)) r30.2) |> bo fun r31 =>
  (gd r27.1 true ((lenX r31.1) |> bo fun v => some (v, r31.2)) r31.2) |> bo fun r32 =>
  (gd r27.1 true (some (t0, r32.2)) r32.2) |> bo fun r33 =>
  (gd r27.1 true ((nilX r33.1) |> bo fun v => some (v, r33.2)) r33.2) |> bo fun r34 =>
  (gd r27.1 true ((fadX 0 r34.1) |> bo fun v => some (v, r34.2)) r34.2) |> bo fun r35 =>
  (gd r27.1 true ((fadX 1 r35.1) |> bo fun v => some (v, r35.2)) r35.2) |> bo fun r36 =>
  (gd r27.1 true ((ld1 r36.2 r36.1) |> bo fun v => some (v, r36.2)) r36.2) |> bo fun r37 =>
  (gd r27.1 true ((binX .eql .no r32.1 r37.1) |> bo fun v => some (v, r37.2)) r37.2) |> bo fun r38 =>
  (pickX r27.1 r38.1 (.bool false)) |> bo fun t52 =>
  (gd t52 true (some (t29, r38.2)) r38.2) |> bo fun r40 =>
  (pickX t52 r40.1 (.bool false)) |> bo fun t55 =>
  (gd t55 true (some (t0, r40.2)) r40.2) |> bo fun r42 =>
  (gd t55 true ((nilX r42.1) |> bo fun v => some (v, r42.2)) r42.2) |> bo fun r43 =>
  (gd t55 true ((fadX 10 r43.1) |> bo fun v => some (v, r43.2)) r43.2) |> bo fun r44 =>
  (gd t55 true ((ld1 r44.2 r44.1) |> bo fun v => some (v, r44.2)) r44.2) |> bo fun r45 =>
  (gd t55 true ((uop .not r45.1) |> bo fun v => some (v, r45.2)) r45.2) |> bo fun r46 =>
  (gd t55 true (some (r46.1, r46.2)) r46.2) |> bo fun r47 =>
  (gd r47.1 false (some (t0, r47.2)) r47.2) |> bo fun r48 =>
  (gd r47.1 false ((C_impl_Screen_inRegion [r48.1] r48.2) |> bo fun r => some (r.1, r.2)) r48.2) |> bo fun r49 =>
  (gd t55 true ((pickX r47.1 (.bool true) r49.1) |> bo fun v => some (v, r49.2)) r49.2) |> bo fun r50 =>
  (pickX t55 r50.1 (.bool false)) |> bo fun t66 =>
  retK m.length r50.2 [t0] t66
 | _, _ => none
noncomputable def C_impl_Screen_formOk : List Value → Mem → Option VM := fcall X_impl_Screen_formOk
@[simp] theorem c_impl_Screen_formOk : C_impl_Screen_formOk = fcall X_impl_Screen_formOk := (rfl)
theorem cok_impl_Screen_formOk : codeOk CT Tryd.f47 (Tryd.f47.body.get rfl) = true := by kernel_rfl
theorem xe_impl_Screen_formOk (t0 : Value) (m : Mem) : ex CT cf_impl_Screen_formOk Tryd.f47 1 m.length [] (fun _ _ _ => none) 400 [.code (Tryd.f47.body.get rfl)] (argsT 0 [t0]) m = X_impl_Screen_formOk [t0] m := by kernel_rfl
theorem okc_impl_Screen_formOk : CallOK CT cf_impl_Screen_formOk := cfc_ok ok_C_impl_Screen_last (cfc_ok ok_C_impl_Screen_isRegion (cfc_ok ok_C_impl_Screen_inRegion cfn_ok))
theorem ok_X_impl_Screen_formOk : OkX CT 47 X_impl_Screen_formOk := OkX.of_ex (cf := cf_impl_Screen_formOk) (np := 1) (LL := []) (J := (fun _ _ _ _ => none)) CT_ok rfl Tryd.func47 rfl (Nat.le_of_ble_eq_true rfl) (by decide) cok_impl_Screen_formOk okc_impl_Screen_formOk (fun k => noLoops rfl) (fun args m r h => match args, h with
  | [t0], h => ⟨rfl, (xe_impl_Screen_formOk t0 m).trans h⟩)
theorem ok_C_impl_Screen_formOk : OkC CT 47 C_impl_Screen_formOk := fcall_ok rfl ok_X_impl_Screen_formOk
noncomputable def cf_impl_ScreenFault : CallF := cfc 43 C_impl_first (cfc 44 C_impl_GridFault (cfc 45 C_impl_unless (cfc 46 C_impl_Screen_rangeOk (cfc 47 C_impl_Screen_formOk cfn))))
noncomputable def X_impl_ScreenFault : List Value → Mem → Option VM
 | [t0], m =>
  (boxX m t0) |> bo fun r1 =>
  (fadX 0 r1.1) |> bo fun t4 =>
  (ldS r1.2 4 t4) |> bo fun t5 =>
  (C_impl_GridFault [t5] r1.2) |> bo fun r4 =>
  (C_impl_Screen_rangeOk [r1.1] r4.2) |> bo fun r5 =>
  (C_impl_unless [r5.1, (.int .i64 3)] r5.2) |> bo fun r6 =>
  (bslX r6.2 2 1 [.int .i64 0] [(0, 1, r4.1), (1, 1, r6.1)]) |> bo fun r7 =>
  (C_impl_first [r7.1] r7.2) |> bo fun r8 =>
  (binX .neq .no r8.1 (.int .i64 0)) |> bo fun t12 =>
  brX t12
   (
    retK m.length r8.2 [t0] r8.1)
   (
    (C_impl_Screen_formOk [r1.1] r8.2) |> bo fun r10 =>
    (C_impl_unless [r10.1, (.int .i64 1)] r10.2) |> bo fun r11 =>
    retK m.length r11.2 [t0] r11.1)
 | _, _ => none
noncomputable def C_impl_ScreenFault : List Value → Mem → Option VM := fcall X_impl_ScreenFault
@[simp] theorem c_impl_ScreenFault : C_impl_ScreenFault = fcall X_impl_ScreenFault := (rfl)
theorem cok_impl_ScreenFault : codeOk CT Tryd.f22 (Tryd.f22.body.get rfl) = true := by kernel_rfl
theorem xe_impl_ScreenFault (t0 : Value) (m : Mem) : ex CT cf_impl_ScreenFault Tryd.f22 1 m.length [] (fun _ _ _ => none) 400 [.code (Tryd.f22.body.get rfl)] (argsT 0 [t0]) m = X_impl_ScreenFault [t0] m := by kernel_rfl
theorem okc_impl_ScreenFault : CallOK CT cf_impl_ScreenFault := cfc_ok ok_C_impl_first (cfc_ok ok_C_impl_GridFault (cfc_ok ok_C_impl_unless (cfc_ok ok_C_impl_Screen_rangeOk (cfc_ok ok_C_impl_Screen_formOk cfn_ok))))
theorem ok_X_impl_ScreenFault : OkX CT 22 X_impl_ScreenFault := OkX.of_ex (cf := cf_impl_ScreenFault) (np := 1) (LL := []) (J := (fun _ _ _ _ => none)) CT_ok rfl Tryd.func22 rfl (Nat.le_of_ble_eq_true rfl) (by decide) cok_impl_ScreenFault okc_impl_ScreenFault (fun k => noLoops rfl) (fun args m r h => match args, h with
  | [t0], h => ⟨rfl, (xe_impl_ScreenFault t0 m).trans h⟩)
theorem ok_C_impl_ScreenFault : OkC CT 22 C_impl_ScreenFault := fcall_ok rfl ok_X_impl_ScreenFault
noncomputable def cf_impl_put_text : CallF := cfn
noncomputable def X_impl_put_text : List Value → Mem → Option VM
 | [t0, t1], m =>
  (nilX t0) |> bo fun t6 =>
  (fadX 0 t6) |> bo fun t7 =>
  (ld1 m t7) |> bo fun t8 =>
  (apS m 1 1 t8 t1) |> bo fun r4 =>
  (nilX t0) |> bo fun t11 =>
  (fadX 0 t11) |> bo fun t12 =>
  (stX r4.2 1 t12 r4.1) |> bo fun m7 =>
  retK m.length m7 [t0, t1] (.tuple #[])
 | _, _ => none
noncomputable def C_impl_put_text : List Value → Mem → Option VM := rcall X_impl_put_text
@[simp] theorem c_impl_put_text : C_impl_put_text = rcall X_impl_put_text := (rfl)
theorem cok_impl_put_text : codeOk CT Tryd.f75 (Tryd.f75.body.get rfl) = true := by kernel_rfl
theorem xe_impl_put_text (t0 t1 : Value) (m : Mem) : ex CT cf_impl_put_text Tryd.f75 2 m.length [] (fun _ _ _ => none) 400 [.code (Tryd.f75.body.get rfl)] (argsT 0 [t0, t1]) m = X_impl_put_text [t0, t1] m := by kernel_rfl
theorem okc_impl_put_text : CallOK CT cf_impl_put_text := cfn_ok
theorem ok_X_impl_put_text : OkX CT 75 X_impl_put_text := OkX.of_ex (cf := cf_impl_put_text) (np := 2) (LL := []) (J := (fun _ _ _ _ => none)) CT_ok rfl Tryd.func75 rfl (Nat.le_of_ble_eq_true rfl) (by decide) cok_impl_put_text okc_impl_put_text (fun k => noLoops rfl) (fun args m r h => match args, h with
  | [t0, t1], h => ⟨rfl, (xe_impl_put_text t0 t1 m).trans h⟩)
theorem ok_C_impl_put_text : OkC CT 75 C_impl_put_text := rcall_ok rfl ok_X_impl_put_text
noncomputable def cf_impl_put_esc : CallF := cfc 75 C_impl_put_text cfn
noncomputable def X_impl_put_esc : List Value → Mem → Option VM
 | [t0, t1], m =>
  (binX .add .no (.string ⟨#[27]⟩) t1) |> bo fun t6 =>
  (C_impl_put_text [t0, t6] m) |> bo fun r2 =>
  retK m.length r2.2 [t0, t1] (.tuple #[])
 | _, _ => none
noncomputable def C_impl_put_esc : List Value → Mem → Option VM := rcall X_impl_put_esc
@[simp] theorem c_impl_put_esc : C_impl_put_esc = rcall X_impl_put_esc := (rfl)
theorem cok_impl_put_esc : codeOk CT Tryd.f73 (Tryd.f73.body.get rfl) = true := by kernel_rfl
theorem xe_impl_put_esc (t0 t1 : Value) (m : Mem) : ex CT cf_impl_put_esc Tryd.f73 2 m.length [] (fun _ _ _ => none) 400 [.code (Tryd.f73.body.get rfl)] (argsT 0 [t0, t1]) m = X_impl_put_esc [t0, t1] m := by kernel_rfl
theorem okc_impl_put_esc : CallOK CT cf_impl_put_esc := cfc_ok ok_C_impl_put_text cfn_ok
theorem ok_X_impl_put_esc : OkX CT 73 X_impl_put_esc := OkX.of_ex (cf := cf_impl_put_esc) (np := 2) (LL := []) (J := (fun _ _ _ _ => none)) CT_ok rfl Tryd.func73 rfl (Nat.le_of_ble_eq_true rfl) (by decide) cok_impl_put_esc okc_impl_put_esc (fun k => noLoops rfl) (fun args m r h => match args, h with
  | [t0, t1], h => ⟨rfl, (xe_impl_put_esc t0 t1 m).trans h⟩)
theorem ok_C_impl_put_esc : OkC CT 73 C_impl_put_esc := rcall_ok rfl ok_X_impl_put_esc
noncomputable def cf_internal_strconv_small : CallF := cfn
noncomputable def X_internal_strconv_small : List Value → Mem → Option VM
 | [t0], m =>
  (binX .lss .no t0 (.int .i64 10)) |> bo fun t4 =>
  brX t4
   (
    (binX .add .no t0 (.int .i64 1)) |> bo fun t7 =>
    (slsX (.string ⟨#[48, 49, 50, 51, 52, 53, 54, 55, 56, 57, 97, 98, 99, 100, 101, 102, 103, 104, 105, 106, 107, 108, 109, 110, 111, 112, 113, 114, 115, 116, 117, 118, 119, 120, 121, 122]⟩) (some t0) (some t7)) |> bo fun t8 =>
    retK m.length m [t0] t8)
   (
    (binX .mul .no t0 (.int .i64 2)) |> bo fun t10 =>
    (binX .mul .no t0 (.int .i64 2)) |> bo fun t12 =>
    (binX .add .no t12 (.int .i64 2)) |> bo fun t13 =>
    (slsX (.string ⟨#[48, 48, 48, 49, 48, 50, 48, 51, 48, 52, 48, 53, 48, 54, 48, 55, 48, 56, 48, 57, 49, 48, 49, 49, 49, 50, 49, 51, 49, 52, 49, 53, 49, 54, 49, 55, 49, 56, 49, 57, 50, 48, 50, 49, 50, 50, 50, 51, 50, 52, 50, 53, 50, 54, 50, 55, 50, 56, 50, 57, 51, 48, 51, 49, 51, 50, 51, 51, 51, 52, 51, 53, 51, 54, 51, 55, 51, 56, 51, 57, 52, 48, 52, 49, 52, 50, 52, 51, 52, 52, 52, 53, 52, 54, 52, 55, 52, 56, 52, 57, 53, 48, 53, 49, 53, 50, 53, 51, 53, 52, 53, 53, 53, 54, 53, 55, 53, 56, 53, 57, 54, 48, 54, 49, 54, 50, 54, 51, 54, 52, 54, 53, 54, 54, 54, 55, 54, 56, 54, 57, 55, 48, 55, 49, 55, 50, 55, 51, 55, 52, 55, 53, 55, 54, 55, 55, 55, 56, 55, 57, 56, 48, 56, 49, 56, 50, 56, 51, 56, 52, 56, 53, 56, 54, 56, 55, 56, 56, 56, 57, 57, 48, 57, 49, 57, 50, 57, 51, 57, 52, 57, 53, 57, 54, 57, 55, 57, 56, 57, 57]⟩) (some t10) (some t13)) |> bo fun t14 =>
    retK m.length m [t0] t14)
 | _, _ => none
noncomputable def C_internal_strconv_small : List Value → Mem → Option VM := fcall X_internal_strconv_small
@[simp] theorem c_internal_strconv_small : C_internal_strconv_small = fcall X_internal_strconv_small := (rfl)
theorem cok_internal_strconv_small : codeOk CT Tryd.f86 (Tryd.f86.body.get rfl) = true := by kernel_rfl
theorem xe_internal_strconv_small (t0 : Value) (m : Mem) : ex CT cf_internal_strconv_small Tryd.f86 1 m.length [] (fun _ _ _ => none) 400 [.code (Tryd.f86.body.get rfl)] (argsT 0 [t0]) m = X_internal_strconv_small [t0] m := by kernel_rfl
theorem okc_internal_strconv_small : CallOK CT cf_internal_strconv_small := cfn_ok
theorem ok_X_internal_strconv_small : OkX CT 86 X_internal_strconv_small := OkX.of_ex (cf := cf_internal_strconv_small) (np := 1) (LL := []) (J := (fun _ _ _ _ => none)) CT_ok rfl Tryd.func86 rfl (Nat.le_of_ble_eq_true rfl) (by decide) cok_internal_strconv_small okc_internal_strconv_small (fun k => noLoops rfl) (fun args m r h => match args, h with
  | [t0], h => ⟨rfl, (xe_internal_strconv_small t0 m).trans h⟩)
theorem ok_C_internal_strconv_small : OkC CT 86 C_internal_strconv_small := fcall_ok rfl ok_X_internal_strconv_small
noncomputable def cf_internal_strconv_log10Pow2 : CallF := cfn
noncomputable def X_internal_strconv_log10Pow2 : List Value → Mem → Option VM
 | [t0], m =>
  (binX .mul .no t0 (.int .i64 78913)) |> bo fun t4 =>
  (binX .shr .no t4 (.int .u64 18)) |> bo fun t5 =>
  retK m.length m [t0] t5
 | _, _ => none
noncomputable def C_internal_strconv_log10Pow2 : List Value → Mem → Option VM := fcall X_internal_strconv_log10Pow2
@[simp] theorem c_internal_strconv_log10Pow2 : C_internal_strconv_log10Pow2 = fcall X_internal_strconv_log10Pow2 := (rfl)
theorem cok_internal_strconv_log10Pow2 : codeOk CT Tryd.f90 (Tryd.f90.body.get rfl) = true := by kernel_rfl
theorem xe_internal_strconv_log10Pow2 (t0 : Value) (m : Mem) : ex CT cf_internal_strconv_log10Pow2 Tryd.f90 1 m.length [] (fun _ _ _ => none) 400 [.code (Tryd.f90.body.get rfl)] (argsT 0 [t0]) m = X_internal_strconv_log10Pow2 [t0] m := by kernel_rfl
theorem okc_internal_strconv_log10Pow2 : CallOK CT cf_internal_strconv_log10Pow2 := cfn_ok
theorem ok_X_internal_strconv_log10Pow2 : OkX CT 90 X_internal_strconv_log10Pow2 := OkX.of_ex (cf := cf_internal_strconv_log10Pow2) (np := 1) (LL := []) (J := (fun _ _ _ _ => none)) CT_ok rfl Tryd.func90 rfl (Nat.le_of_ble_eq_true rfl) (by decide) cok_internal_strconv_log10Pow2 okc_internal_strconv_log10Pow2 (fun k => noLoops rfl) (fun args m r h => match args, h with
  | [t0], h => ⟨rfl, (xe_internal_strconv_log10Pow2 t0 m).trans h⟩)
theorem ok_C_internal_strconv_log10Pow2 : OkC CT 90 C_internal_strconv_log10Pow2 := fcall_ok rfl ok_X_internal_strconv_log10Pow2
noncomputable def cf_math_bits_Len64 : CallF := cfn
noncomputable def X_math_bits_Len64 : List Value → Mem → Option VM
 | [t0], m =>
  (binX .geq .no t0 (.int .u64 4294967296)) |> bo fun t4 =>
  brX t4
   (
    (binX .shr .no t0 (.int .u64 32)) |> bo fun t6 =>
    (binX .geq .no t6 (.int .u64 65536)) |> bo fun t8 =>
    brX t8
     (
      (binX .shr .no t6 (.int .u64 16)) |> bo fun t10 =>
      (binX .add .no (.int .i64 32) (.int .i64 16)) |> bo fun t12 =>
      (binX .geq .no t10 (.int .u64 256)) |> bo fun t14 =>
      brX t14
       (
        (binX .shr .no t10 (.int .u64 8)) |> bo fun t16 =>
        (binX .add .no t12 (.int .i64 8)) |> bo fun t18 =>
        (cvI .u8 t16) |> bo fun t21 =>
        (ixsX (.string ⟨#[0, 1, 2, 2, 3, 3, 3, 3, 4, 4, 4, 4, 4, 4, 4, 4, 5, 5, 5, 5, 5, 5, 5, 5, 5, 5, 5, 5, 5, 5, 5, 5, 6, 6, 6, 6, 6, 6, 6, 6, 6, 6, 6, 6, 6, 6, 6, 6, 6, 6, 6, 6, 6, 6, 6, 6, 6, 6, 6, 6, 6, 6, 6, 6, 7, 7, 7, 7, 7, 7, 7, 7, 7, 7, 7, 7, 7, 7, 7, 7, 7, 7, 7, 7, 7, 7, 7, 7, 7, 7, 7, 7, 7, 7, 7, 7, 7, 7, 7, 7, 7, 7, 7, 7, 7, 7, 7, 7, 7, 7, 7, 7, 7, 7, 7, 7, 7, 7, 7, 7, 7, 7, 7, 7, 7, 7, 7, 7, 8, 8, 8, 8, 8, 8, 8, 8, 8, 8, 8, 8, 8, 8, 8, 8, 8, 8, 8, 8, 8, 8, 8, 8, 8, 8, 8, 8, 8, 8, 8, 8, 8, 8, 8, 8, 8, 8, 8, 8, 8, 8, 8, 8, 8, 8, 8, 8, 8, 8, 8, 8, 8, 8, 8, 8, 8, 8, 8, 8, 8, 8, 8, 8, 8, 8, 8, 8, 8, 8, 8, 8, 8, 8, 8, 8, 8, 8, 8, 8, 8, 8, 8, 8, 8, 8, 8, 8, 8, 8, 8, 8, 8, 8, 8, 8, 8, 8, 8, 8, 8, 8, 8, 8, 8, 8, 8, 8, 8, 8, 8, 8, 8, 8, 8, 8, 8, 8, 8, 8, 8, 8, 8, 8, 8, 8, 8, 8]⟩) t21) |> bo fun t22 =>
        (cvI .i64 t22) |> bo fun t23 =>
        (binX .add .no t18 t23) |> bo fun t24 =>
        retK m.length m [t16] t24)
       (
        (cvI .u8 t10) |> bo fun t21 =>
        (ixsX (.string ⟨#[0, 1, 2, 2, 3, 3, 3, 3, 4, 4, 4, 4, 4, 4, 4, 4, 5, 5, 5, 5, 5, 5, 5, 5, 5, 5, 5, 5, 5, 5, 5, 5, 6, 6, 6, 6, 6, 6, 6, 6, 6, 6, 6, 6, 6, 6, 6, 6, 6, 6, 6, 6, 6, 6, 6, 6, 6, 6, 6, 6, 6, 6, 6, 6, 7, 7, 7, 7, 7, 7, 7, 7, 7, 7, 7, 7, 7, 7, 7, 7, 7, 7, 7, 7, 7, 7, 7, 7, 7, 7, 7, 7, 7, 7, 7, 7, 7, 7, 7, 7, 7, 7, 7, 7, 7, 7, 7, 7, 7, 7, 7, 7, 7, 7, 7, 7, 7, 7, 7, 7, 7, 7, 7, 7, 7, 7, 7, 7, 8, 8, 8, 8, 8, 8, 8, 8, 8, 8, 8, 8, 8, 8, 8, 8, 8, 8, 8, 8, 8, 8, 8, 8, 8, 8, 8, 8, 8, 8, 8, 8, 8, 8, 8, 8, 8, 8, 8, 8, 8, 8, 8, 8, 8, 8, 8, 8, 8, 8, 8, 8, 8, 8, 8, 8, 8, 8, 8, 8, 8, 8, 8, 8, 8, 8, 8, 8, 8, 8, 8, 8, 8, 8, 8, 8, 8, 8, 8, 8, 8, 8, 8, 8, 8, 8, 8, 8, 8, 8, 8, 8, 8, 8, 8, 8, 8, 8, 8, 8, 8, 8, 8, 8, 8, 8, 8, 8, 8, 8, 8, 8, 8, 8, 8, 8, 8, 8, 8, 8, 8, 8, 8, 8, 8, 8, 8, 8]⟩) t21) |> bo fun t22 =>
        (cvI .i64 t22) |> bo fun t23 =>
        (binX .add .no t12 t23) |> bo fun t24 =>
        retK m.length m [t10] t24))
     (
      (binX .geq .no t6 (.int .u64 256)) |> bo fun t14 =>
      brX t14
       (
        (binX .shr .no t6 (.int .u64 8)) |> bo fun t16 =>
        (binX .add .no (.int .i64 32) (.int .i64 8)) |> bo fun t18 =>
        (cvI .u8 t16) |> bo fun t21 =>
        (ixsX (.string ⟨#[0, 1, 2, 2, 3, 3, 3, 3, 4, 4, 4, 4, 4, 4, 4, 4, 5, 5, 5, 5, 5, 5, 5, 5, 5, 5, 5, 5, 5, 5, 5, 5, 6, 6, 6, 6, 6, 6, 6, 6, 6, 6, 6, 6, 6, 6, 6, 6, 6, 6, 6, 6, 6, 6, 6, 6, 6, 6, 6, 6, 6, 6, 6, 6, 7, 7, 7, 7, 7, 7, 7, 7, 7, 7, 7, 7, 7, 7, 7, 7, 7, 7, 7, 7, 7, 7, 7, 7, 7, 7, 7, 7, 7, 7, 7, 7, 7, 7, 7, 7, 7, 7, 7, 7, 7, 7, 7, 7, 7, 7, 7, 7, 7, 7, 7, 7, 7, 7, 7, 7, 7, 7, 7, 7, 7, 7, 7, 7, 8, 8, 8, 8, 8, 8, 8, 8, 8, 8, 8, 8, 8, 8, 8, 8, 8, 8, 8, 8, 8, 8, 8, 8, 8, 8, 8, 8, 8, 8, 8, 8, 8, 8, 8, 8, 8, 8, 8, 8, 8, 8, 8, 8, 8, 8, 8, 8, 8, 8, 8, 8, 8, 8, 8, 8, 8, 8, 8, 8, 8, 8, 8, 8, 8, 8, 8, 8, 8, 8, 8, 8, 8, 8, 8, 8, 8, 8, 8, 8, 8, 8, 8, 8, 8, 8, 8, 8, 8, 8, 8, 8, 8, 8, 8, 8, 8, 8, 8, 8, 8, 8, 8, 8, 8, 8, 8, 8, 8, 8, 8, 8, 8, 8, 8, 8, 8, 8, 8, 8, 8, 8, 8, 8, 8, 8, 8, 8]⟩) t21) |> bo fun t22 =>
        (cvI .i64 t22) |> bo fun t23 =>
        (binX .add .no t18 t23) |> bo fun t24 =>
        retK m.length m [t16] t24)
       (
        (cvI .u8 t6) |> bo fun t21 =>
        (ixsX (.string ⟨#[0, 1, 2, 2, 3, 3, 3, 3, 4, 4, 4, 4, 4, 4, 4, 4, 5, 5, 5, 5, 5, 5, 5, 5, 5, 5, 5, 5, 5, 5, 5, 5, 6, 6, 6, 6, 6, 6, 6, 6, 6, 6, 6, 6, 6, 6, 6, 6, 6, 6, 6, 6, 6, 6, 6, 6, 6, 6, 6, 6, 6, 6, 6, 6, 7, 7, 7, 7, 7, 7, 7, 7, 7, 7, 7, 7, 7, 7, 7, 7, 7, 7, 7, 7, 7, 7, 7, 7, 7, 7, 7, 7, 7, 7, 7, 7, 7, 7, 7, 7, 7, 7, 7, 7, 7, 7, 7, 7, 7, 7, 7, 7, 7, 7, 7, 7, 7, 7, 7, 7, 7, 7, 7, 7, 7, 7, 7, 7, 8, 8, 8, 8, 8, 8, 8, 8, 8, 8, 8, 8, 8, 8, 8, 8, 8, 8, 8, 8, 8, 8, 8, 8, 8, 8, 8, 8, 8, 8, 8, 8, 8, 8, 8, 8, 8, 8, 8, 8, 8, 8, 8, 8, 8, 8, 8, 8, 8, 8, 8, 8, 8, 8, 8, 8, 8, 8, 8, 8, 8, 8, 8, 8, 8, 8, 8, 8, 8, 8, 8, 8, 8, 8, 8, 8, 8, 8, 8, 8, 8, 8, 8, 8, 8, 8, 8, 8, 8, 8, 8, 8, 8, 8, 8, 8, 8, 8, 8, 8, 8, 8, 8, 8, 8, 8, 8, 8, 8, 8, 8, 8, 8, 8, 8, 8, 8, 8, 8, 8, 8, 8, 8, 8, 8, 8, 8, 8]⟩) t21) |> bo fun t22 =>
        (cvI .i64 t22) |> bo fun t23 =>
        (binX .add .no (.int .i64 32) t23) |> bo fun t24 =>
        retK m.length m [t6] t24)))
   (
    (binX .geq .no t0 (.int .u64 65536)) |> bo fun t8 =>
    brX t8
     (
      (binX .shr .no t0 (.int .u64 16)) |> bo fun t10 =>
      (binX .add .no (.int .i64 0) (.int .i64 16)) |> bo fun t12 =>
      (binX .geq .no t10 (.int .u64 256)) |> bo fun t14 =>
      brX t14
       (
        (binX .shr .no t10 (.int .u64 8)) |> bo fun t16 =>
        (binX .add .no t12 (.int .i64 8)) |> bo fun t18 =>
        (cvI .u8 t16) |> bo fun t21 =>
        (ixsX (.string ⟨#[0, 1, 2, 2, 3, 3, 3, 3, 4, 4, 4, 4, 4, 4, 4, 4, 5, 5, 5, 5, 5, 5, 5, 5, 5, 5, 5, 5, 5, 5, 5, 5, 6, 6, 6, 6, 6, 6, 6, 6, 6, 6, 6, 6, 6, 6, 6, 6, 6, 6, 6, 6, 6, 6, 6, 6, 6, 6, 6, 6, 6, 6, 6, 6, 7, 7, 7, 7, 7, 7, 7, 7, 7, 7, 7, 7, 7, 7, 7, 7, 7, 7, 7, 7, 7, 7, 7, 7, 7, 7, 7, 7, 7, 7, 7, 7, 7, 7, 7, 7, 7, 7, 7, 7, 7, 7, 7, 7, 7, 7, 7, 7, 7, 7, 7, 7, 7, 7, 7, 7, 7, 7, 7, 7, 7, 7, 7, 7, 8, 8, 8, 8, 8, 8, 8, 8, 8, 8, 8, 8, 8, 8, 8, 8, 8, 8, 8, 8, 8, 8, 8, 8, 8, 8, 8, 8, 8, 8, 8, 8, 8, 8, 8, 8, 8, 8, 8, 8, 8, 8, 8, 8, 8, 8, 8, 8, 8, 8, 8, 8, 8, 8, 8, 8, 8, 8, 8, 8, 8, 8, 8, 8, 8, 8, 8, 8, 8, 8, 8, 8, 8, 8, 8, 8, 8, 8, 8, 8, 8, 8, 8, 8, 8, 8, 8, 8, 8, 8, 8, 8, 8, 8, 8, 8, 8, 8, 8, 8, 8, 8, 8, 8, 8, 8, 8, 8, 8, 8, 8, 8, 8, 8, 8, 8, 8, 8, 8, 8, 8, 8, 8, 8, 8, 8, 8, 8]⟩) t21) |> bo fun t22 =>
        (cvI .i64 t22) |> bo fun t23 =>
        (binX .add .no t18 t23) |> bo fun t24 =>
        retK m.length m [t16] t24)
       (
        (cvI .u8 t10) |> bo fun t21 =>
        (ixsX (.string ⟨#[0, 1, 2, 2, 3, 3, 3, 3, 4, 4, 4, 4, 4, 4, 4, 4, 5, 5, 5, 5, 5, 5, 5, 5, 5, 5, 5, 5, 5, 5, 5, 5, 6, 6, 6, 6, 6, 6, 6, 6, 6, 6, 6, 6, 6, 6, 6, 6, 6, 6, 6, 6, 6, 6, 6, 6, 6, 6, 6, 6, 6, 6, 6, 6, 7, 7, 7, 7, 7, 7, 7, 7, 7, 7, 7, 7, 7, 7, 7, 7, 7, 7, 7, 7, 7, 7, 7, 7, 7, 7, 7, 7, 7, 7, 7, 7, 7, 7, 7, 7, 7, 7, 7, 7, 7, 7, 7, 7, 7, 7, 7, 7, 7, 7, 7, 7, 7, 7, 7, 7, 7, 7, 7, 7, 7, 7, 7, 7, 8, 8, 8, 8, 8, 8, 8, 8, 8, 8, 8, 8, 8, 8, 8, 8, 8, 8, 8, 8, 8, 8, 8, 8, 8, 8, 8, 8, 8, 8, 8, 8, 8, 8, 8, 8, 8, 8, 8, 8, 8, 8, 8, 8, 8, 8, 8, 8, 8, 8, 8, 8, 8, 8, 8, 8, 8, 8, 8, 8, 8, 8, 8, 8, 8, 8, 8, 8, 8, 8, 8, 8, 8, 8, 8, 8, 8, 8, 8, 8, 8, 8, 8, 8, 8, 8, 8, 8, 8, 8, 8, 8, 8, 8, 8, 8, 8, 8, 8, 8, 8, 8, 8, 8, 8, 8, 8, 8, 8, 8, 8, 8, 8, 8, 8, 8, 8, 8, 8, 8, 8, 8, 8, 8, 8, 8, 8, 8]⟩) t21) |> bo fun t22 =>
        (cvI .i64 t22) |> bo fun t23 =>
        (binX .add .no t12 t23) |> bo fun t24 =>
        retK m.length m [t10] t24))
     (
      (binX .geq .no t0 (.int .u64 256)) |> bo fun t14 =>
      brX t14
       (
        (binX .shr .no t0 (.int .u64 8)) |> bo fun t16 =>
        (binX .add .no (.int .i64 0) (.int .i64 8)) |> bo fun t18 =>
        (cvI .u8 t16) |> bo fun t21 =>
        (ixsX (.string ⟨#[0, 1, 2, 2, 3, 3, 3, 3, 4, 4, 4, 4, 4, 4, 4, 4, 5, 5, 5, 5, 5, 5, 5, 5, 5, 5, 5, 5, 5, 5, 5, 5, 6, 6, 6, 6, 6, 6, 6, 6, 6, 6, 6, 6, 6, 6, 6, 6, 6, 6, 6, 6, 6, 6, 6, 6, 6, 6, 6, 6, 6, 6, 6, 6, 7, 7, 7, 7, 7, 7, 7, 7, 7, 7, 7, 7, 7, 7, 7, 7, 7, 7, 7, 7, 7, 7, 7, 7, 7, 7, 7, 7, 7, 7, 7, 7, 7, 7, 7, 7, 7, 7, 7, 7, 7, 7, 7, 7, 7, 7, 7, 7, 7, 7, 7, 7, 7, 7, 7, 7, 7, 7, 7, 7, 7, 7, 7, 7, 8, 8, 8, 8, 8, 8, 8, 8, 8, 8, 8, 8, 8, 8, 8, 8, 8, 8, 8, 8, 8, 8, 8, 8, 8, 8, 8, 8, 8, 8, 8, 8, 8, 8, 8, 8, 8, 8, 8, 8, 8, 8, 8, 8, 8, 8, 8, 8, 8, 8, 8, 8, 8, 8, 8, 8, 8, 8, 8, 8, 8, 8, 8, 8, 8, 8, 8, 8, 8, 8, 8, 8, 8, 8, 8, 8, 8, 8, 8, 8, 8, 8, 8, 8, 8, 8, 8, 8, 8, 8, 8, 8, 8, 8, 8, 8, 8, 8, 8, 8, 8, 8, 8, 8, 8, 8, 8, 8, 8, 8, 8, 8, 8, 8, 8, 8, 8, 8, 8, 8, 8, 8, 8, 8, 8, 8, 8, 8]⟩) t21) |> bo fun t22 =>
        (cvI .i64 t22) |> bo fun t23 =>
        (binX .add .no t18 t23) |> bo fun t24 =>
        retK m.length m [t16] t24)
       (
        (cvI .u8 t0) |> bo fun t21 =>
        (ixsX (.string ⟨#[0, 1, 2, 2, 3, 3, 3, 3, 4, 4, 4, 4, 4, 4, 4, 4, 5, 5, 5, 5, 5, 5, 5, 5, 5, 5, 5, 5, 5, 5, 5, 5, 6, 6, 6, 6, 6, 6, 6, 6, 6, 6, 6, 6, 6, 6, 6, 6, 6, 6, 6, 6, 6, 6, 6, 6, 6, 6, 6, 6, 6, 6, 6, 6, 7, 7, 7, 7, 7, 7, 7, 7, 7, 7, 7, 7, 7, 7, 7, 7, 7, 7, 7, 7, 7, 7, 7, 7, 7, 7, 7, 7, 7, 7, 7, 7, 7, 7, 7, 7, 7, 7, 7, 7, 7, 7, 7, 7, 7, 7, 7, 7, 7, 7, 7, 7, 7, 7, 7, 7, 7, 7, 7, 7, 7, 7, 7, 7, 8, 8, 8, 8, 8, 8, 8, 8, 8, 8, 8, 8, 8, 8, 8, 8, 8, 8, 8, 8, 8, 8, 8, 8, 8, 8, 8, 8, 8, 8, 8, 8, 8, 8, 8, 8, 8, 8, 8, 8, 8, 8, 8, 8, 8, 8, 8, 8, 8, 8, 8, 8, 8, 8, 8, 8, 8, 8, 8, 8, 8, 8, 8, 8, 8, 8, 8, 8, 8, 8, 8, 8, 8, 8, 8, 8, 8, 8, 8, 8, 8, 8, 8, 8, 8, 8, 8, 8, 8, 8, 8, 8, 8, 8, 8, 8, 8, 8, 8, 8, 8, 8, 8, 8, 8, 8, 8, 8, 8, 8, 8, 8, 8, 8, 8, 8, 8, 8, 8, 8, 8, 8, 8, 8, 8, 8, 8, 8]⟩) t21) |> bo fun t22 =>
        (cvI .i64 t22) |> bo fun t23 =>
        (binX .add .no (.int .i64 0) t23) |> bo fun t24 =>
        retK m.length m [t0] t24)))
 | _, _ => none
noncomputable def C_math_bits_Len64 : List Value → Mem → Option VM := fcall X_math_bits_Len64
@[simp] theorem c_math_bits_Len64 : C_math_bits_Len64 = fcall X_math_bits_Len64 := (rfl)
theorem cok_math_bits_Len64 : codeOk CT Tryd.f91 (Tryd.f91.body.get rfl) = true := by kernel_rfl
theorem xe_math_bits_Len64 (t0 : Value) (m : Mem) : ex CT cf_math_bits_Len64 Tryd.f91 1 m.length [] (fun _ _ _ => none) 400 [.code (Tryd.f91.body.get rfl)] (argsT 0 [t0]) m = X_math_bits_Len64 [t0] m := by kernel_rfl
theorem okc_math_bits_Len64 : CallOK CT cf_math_bits_Len64 := cfn_ok
theorem ok_X_math_bits_Len64 : OkX CT 91 X_math_bits_Len64 := OkX.of_ex (cf := cf_math_bits_Len64) (np := 1) (LL := []) (J := (fun _ _ _ _ => none)) CT_ok rfl Tryd.func91 rfl (Nat.le_of_ble_eq_true rfl) (by decide) cok_math_bits_Len64 okc_math_bits_Len64 (fun k => noLoops rfl) (fun args m r h => match args, h with
  | [t0], h => ⟨rfl, (xe_math_bits_Len64 t0 m).trans h⟩)
theorem ok_C_math_bits_Len64 : OkC CT 91 C_math_bits_Len64 := fcall_ok rfl ok_X_math_bits_Len64
noncomputable def cf_internal_strconv_bool2_int : CallF := cfn
noncomputable def X_internal_strconv_bool2_int : List Value → Mem → Option VM
 | [t0], m =>
  brX t0
   (
    retK m.length m [t0] (.int .i64 1))
   (
    retK m.length m [t0] (.int .i64 0))
 | _, _ => none
noncomputable def C_internal_strconv_bool2_int : List Value → Mem → Option VM := fcall X_internal_strconv_bool2_int
@[simp] theorem c_internal_strconv_bool2_int : C_internal_strconv_bool2_int = fcall X_internal_strconv_bool2_int := (rfl)
theorem cok_internal_strconv_bool2_int : codeOk CT Tryd.f92 (Tryd.f92.body.get rfl) = true := by kernel_rfl
theorem xe_internal_strconv_bool2_int (t0 : Value) (m : Mem) : ex CT cf_internal_strconv_bool2_int Tryd.f92 1 m.length [] (fun _ _ _ => none) 400 [.code (Tryd.f92.body.get rfl)] (argsT 0 [t0]) m = X_internal_strconv_bool2_int [t0] m := by kernel_rfl
theorem okc_internal_strconv_bool2_int : CallOK CT cf_internal_strconv_bool2_int := cfn_ok
theorem ok_X_internal_strconv_bool2_int : OkX CT 92 X_internal_strconv_bool2_int := OkX.of_ex (cf := cf_internal_strconv_bool2_int) (np := 1) (LL := []) (J := (fun _ _ _ _ => none)) CT_ok rfl Tryd.func92 rfl (Nat.le_of_ble_eq_true rfl) (by decide) cok_internal_strconv_bool2_int okc_internal_strconv_bool2_int (fun k => noLoops rfl) (fun args m r h => match args, h with
  | [t0], h => ⟨rfl, (xe_internal_strconv_bool2_int t0 m).trans h⟩)
theorem ok_C_internal_strconv_bool2_int : OkC CT 92 C_internal_strconv_bool2_int := fcall_ok rfl ok_X_internal_strconv_bool2_int
noncomputable def cf_internal_strconv_numDigits : CallF := cfc 90 C_internal_strconv_log10Pow2 (cfc 91 C_math_bits_Len64 (cfc 92 C_internal_strconv_bool2_int cfn))
noncomputable def X_internal_strconv_numDigits : List Value → Mem → Option VM
 | [t0], m =>
  (C_math_bits_Len64 [t0] m) |> bo fun r1 =>
  (C_internal_strconv_log10Pow2 [r1.1] r1.2) |> bo fun r2 =>
  none
 | _, _ => none
noncomputable def C_internal_strconv_numDigits : List Value → Mem → Option VM := fcall X_internal_strconv_numDigits
@[simp] theorem c_internal_strconv_numDigits : C_internal_strconv_numDigits = fcall X_internal_strconv_numDigits := (rfl)
theorem cok_internal_strconv_numDigits : codeOk CT Tryd.f87 (Tryd.f87.body.get rfl) = true := by kernel_rfl
theorem xe_internal_strconv_numDigits (t0 : Value) (m : Mem) : ex CT cf_internal_strconv_numDigits Tryd.f87 1 m.length [] (fun _ _ _ => none) 400 [.code (Tryd.f87.body.get rfl)] (argsT 0 [t0]) m = X_internal_strconv_numDigits [t0] m := by kernel_rfl
theorem okc_internal_strconv_numDigits : CallOK CT cf_internal_strconv_numDigits := cfc_ok ok_C_internal_strconv_log10Pow2 (cfc_ok ok_C_math_bits_Len64 (cfc_ok ok_C_internal_strconv_bool2_int cfn_ok))
theorem ok_X_internal_strconv_numDigits : OkX CT 87 X_internal_strconv_numDigits := OkX.of_ex (cf := cf_internal_strconv_numDigits) (np := 1) (LL := []) (J := (fun _ _ _ _ => none)) CT_ok rfl Tryd.func87 rfl (Nat.le_of_ble_eq_true rfl) (by decide) cok_internal_strconv_numDigits okc_internal_strconv_numDigits (fun k => noLoops rfl) (fun args m r h => match args, h with
  | [t0], h => ⟨rfl, (xe_internal_strconv_numDigits t0 m).trans h⟩)
theorem ok_C_internal_strconv_numDigits : OkC CT 87 C_internal_strconv_numDigits := fcall_ok rfl ok_X_internal_strconv_numDigits
noncomputable def cf_internal_strconv_formatBase10 : CallF := cfn
noncomputable def L_internal_strconv_formatBase10 (k : Nat) : Nat → Nat → List Value → Mem → Option VM
 | q + 1, 0, [t0, t1, t4], m =>
  (binX .geq .no t4 (.int .i64 8)) |> bo fun t20 =>
  brX t20
   (
    (binX .rem .no t1 (.int .u64 100000000)) |> bo fun t22 =>
    (cvI .u32 t22) |> bo fun t23 =>
    (binX .quo .no t1 (.int .u64 100000000)) |> bo fun t25 =>
    (binX .quo .no t23 (.int .u32 10000)) |> bo fun t27 =>
    (binX .rem .no t23 (.int .u32 10000)) |> bo fun t29 =>
    (binX .quo .no t29 (.int .u32 100)) |> bo fun t31 =>
    (binX .mul .no t31 (.int .u32 2)) |> bo fun t32 =>
    (binX .rem .no t29 (.int .u32 100)) |> bo fun t34 =>
    (binX .mul .no t34 (.int .u32 2)) |> bo fun t35 =>
    (binX .quo .no t27 (.int .u32 100)) |> bo fun t37 =>
    (binX .mul .no t37 (.int .u32 2)) |> bo fun t38 =>
    (binX .rem .no t27 (.int .u32 100)) |> bo fun t40 =>
    (binX .mul .no t40 (.int .u32 2)) |> bo fun t41 =>
    (binX .sub .no t4 (.int .i64 1)) |> bo fun t44 =>
    (binX .sub .no t4 (.int .i64 2)) |> bo fun t47 =>
    (binX .add .no t35 (.int .u32 1)) |> bo fun t49 =>
    (ixsX (.string ⟨#[48, 48, 48, 49, 48, 50, 48, 51, 48, 52, 48, 53, 48, 54, 48, 55, 48, 56, 48, 57, 49, 48, 49, 49, 49, 50, 49, 51, 49, 52, 49, 53, 49, 54, 49, 55, 49, 56, 49, 57, 50, 48, 50, 49, 50, 50, 50, 51, 50, 52, 50, 53, 50, 54, 50, 55, 50, 56, 50, 57, 51, 48, 51, 49, 51, 50, 51, 51, 51, 52, 51, 53, 51, 54, 51, 55, 51, 56, 51, 57, 52, 48, 52, 49, 52, 50, 52, 51, 52, 52, 52, 53, 52, 54, 52, 55, 52, 56, 52, 57, 53, 48, 53, 49, 53, 50, 53, 51, 53, 52, 53, 53, 53, 54, 53, 55, 53, 56, 53, 57, 54, 48, 54, 49, 54, 50, 54, 51, 54, 52, 54, 53, 54, 54, 54, 55, 54, 56, 54, 57, 55, 48, 55, 49, 55, 50, 55, 51, 55, 52, 55, 53, 55, 54, 55, 55, 55, 56, 55, 57, 56, 48, 56, 49, 56, 50, 56, 51, 56, 52, 56, 53, 56, 54, 56, 55, 56, 56, 56, 57, 57, 48, 57, 49, 57, 50, 57, 51, 57, 52, 57, 53, 57, 54, 57, 55, 57, 56, 57, 57]⟩) t49) |> bo fun t50 =>
    (ixsX (.string ⟨#[48, 48, 48, 49, 48, 50, 48, 51, 48, 52, 48, 53, 48, 54, 48, 55, 48, 56, 48, 57, 49, 48, 49, 49, 49, 50, 49, 51, 49, 52, 49, 53, 49, 54, 49, 55, 49, 56, 49, 57, 50, 48, 50, 49, 50, 50, 50, 51, 50, 52, 50, 53, 50, 54, 50, 55, 50, 56, 50, 57, 51, 48, 51, 49, 51, 50, 51, 51, 51, 52, 51, 53, 51, 54, 51, 55, 51, 56, 51, 57, 52, 48, 52, 49, 52, 50, 52, 51, 52, 52, 52, 53, 52, 54, 52, 55, 52, 56, 52, 57, 53, 48, 53, 49, 53, 50, 53, 51, 53, 52, 53, 53, 53, 54, 53, 55, 53, 56, 53, 57, 54, 48, 54, 49, 54, 50, 54, 51, 54, 52, 54, 53, 54, 54, 54, 55, 54, 56, 54, 57, 55, 48, 55, 49, 55, 50, 55, 51, 55, 52, 55, 53, 55, 54, 55, 55, 55, 56, 55, 57, 56, 48, 56, 49, 56, 50, 56, 51, 56, 52, 56, 53, 56, 54, 56, 55, 56, 56, 56, 57, 57, 48, 57, 49, 57, 50, 57, 51, 57, 52, 57, 53, 57, 54, 57, 55, 57, 56, 57, 57]⟩) t35) |> bo fun t52 =>
    (ixaX 1 t0 t44) |> bo fun t53 =>
    (stX m 1 t53 t50) |> bo fun m21 =>
    (ixaX 1 t0 t47) |> bo fun t54 =>
    (stX m21 1 t54 t52) |> bo fun m23 =>
    (binX .sub .no t4 (.int .i64 3)) |> bo fun t57 =>
    (binX .sub .no t4 (.int .i64 4)) |> bo fun t60 =>
    (binX .add .no t32 (.int .u32 1)) |> bo fun t62 =>
    (ixsX (.string ⟨#[48, 48, 48, 49, 48, 50, 48, 51, 48, 52, 48, 53, 48, 54, 48, 55, 48, 56, 48, 57, 49, 48, 49, 49, 49, 50, 49, 51, 49, 52, 49, 53, 49, 54, 49, 55, 49, 56, 49, 57, 50, 48, 50, 49, 50, 50, 50, 51, 50, 52, 50, 53, 50, 54, 50, 55, 50, 56, 50, 57, 51, 48, 51, 49, 51, 50, 51, 51, 51, 52, 51, 53, 51, 54, 51, 55, 51, 56, 51, 57, 52, 48, 52, 49, 52, 50, 52, 51, 52, 52, 52, 53, 52, 54, 52, 55, 52, 56, 52, 57, 53, 48, 53, 49, 53, 50, 53, 51, 53, 52, 53, 53, 53, 54, 53, 55, 53, 56, 53, 57, 54, 48, 54, 49, 54, 50, 54, 51, 54, 52, 54, 53, 54, 54, 54, 55, 54, 56, 54, 57, 55, 48, 55, 49, 55, 50, 55, 51, 55, 52, 55, 53, 55, 54, 55, 55, 55, 56, 55, 57, 56, 48, 56, 49, 56, 50, 56, 51, 56, 52, 56, 53, 56, 54, 56, 55, 56, 56, 56, 57, 57, 48, 57, 49, 57, 50, 57, 51, 57, 52, 57, 53, 57, 54, 57, 55, 57, 56, 57, 57]⟩) t62) |> bo fun t63 =>
    (ixsX (.string ⟨#[48, 48, 48, 49, 48, 50, 48, 51, 48, 52, 48, 53, 48, 54, 48, 55, 48, 56, 48, 57, 49, 48, 49, 49, 49, 50, 49, 51, 49, 52, 49, 53, 49, 54, 49, 55, 49, 56, 49, 57, 50, 48, 50, 49, 50, 50, 50, 51, 50, 52, 50, 53, 50, 54, 50, 55, 50, 56, 50, 57, 51, 48, 51, 49, 51, 50, 51, 51, 51, 52, 51, 53, 51, 54, 51, 55, 51, 56, 51, 57, 52, 48, 52, 49, 52, 50, 52, 51, 52, 52, 52, 53, 52, 54, 52, 55, 52, 56, 52, 57, 53, 48, 53, 49, 53, 50, 53, 51, 53, 52, 53, 53, 53, 54, 53, 55, 53, 56, 53, 57, 54, 48, 54, 49, 54, 50, 54, 51, 54, 52, 54, 53, 54, 54, 54, 55, 54, 56, 54, 57, 55, 48, 55, 49, 55, 50, 55, 51, 55, 52, 55, 53, 55, 54, 55, 55, 55, 56, 55, 57, 56, 48, 56, 49, 56, 50, 56, 51, 56, 52, 56, 53, 56, 54, 56, 55, 56, 56, 56, 57, 57, 48, 57, 49, 57, 50, 57, 51, 57, 52, 57, 53, 57, 54, 57, 55, 57, 56, 57, 57]⟩) t32) |> bo fun t65 =>
    (ixaX 1 t0 t57) |> bo fun t66 =>
    (stX m23 1 t66 t63) |> bo fun m30 =>
    (ixaX 1 t0 t60) |> bo fun t67 =>
    (stX m30 1 t67 t65) |> bo fun m32 =>
    (binX .sub .no t4 (.int .i64 5)) |> bo fun t70 =>
    (binX .sub .no t4 (.int .i64 6)) |> bo fun t73 =>
    (binX .add .no t41 (.int .u32 1)) |> bo fun t75 =>
    (ixsX (.string ⟨#[48, 48, 48, 49, 48, 50, 48, 51, 48, 52, 48, 53, 48, 54, 48, 55, 48, 56, 48, 57, 49, 48, 49, 49, 49, 50, 49, 51, 49, 52, 49, 53, 49, 54, 49, 55, 49, 56, 49, 57, 50, 48, 50, 49, 50, 50, 50, 51, 50, 52, 50, 53, 50, 54, 50, 55, 50, 56, 50, 57, 51, 48, 51, 49, 51, 50, 51, 51, 51, 52, 51, 53, 51, 54, 51, 55, 51, 56, 51, 57, 52, 48, 52, 49, 52, 50, 52, 51, 52, 52, 52, 53, 52, 54, 52, 55, 52, 56, 52, 57, 53, 48, 53, 49, 53, 50, 53, 51, 53, 52, 53, 53, 53, 54, 53, 55, 53, 56, 53, 57, 54, 48, 54, 49, 54, 50, 54, 51, 54, 52, 54, 53, 54, 54, 54, 55, 54, 56, 54, 57, 55, 48, 55, 49, 55, 50, 55, 51, 55, 52, 55, 53, 55, 54, 55, 55, 55, 56, 55, 57, 56, 48, 56, 49, 56, 50, 56, 51, 56, 52, 56, 53, 56, 54, 56, 55, 56, 56, 56, 57, 57, 48, 57, 49, 57, 50, 57, 51, 57, 52, 57, 53, 57, 54, 57, 55, 57, 56, 57, 57]⟩) t75) |> bo fun t76 =>
    (ixsX (.string ⟨#[48, 48, 48, 49, 48, 50, 48, 51, 48, 52, 48, 53, 48, 54, 48, 55, 48, 56, 48, 57, 49, 48, 49, 49, 49, 50, 49, 51, 49, 52, 49, 53, 49, 54, 49, 55, 49, 56, 49, 57, 50, 48, 50, 49, 50, 50, 50, 51, 50, 52, 50, 53, 50, 54, 50, 55, 50, 56, 50, 57, 51, 48, 51, 49, 51, 50, 51, 51, 51, 52, 51, 53, 51, 54, 51, 55, 51, 56, 51, 57, 52, 48, 52, 49, 52, 50, 52, 51, 52, 52, 52, 53, 52, 54, 52, 55, 52, 56, 52, 57, 53, 48, 53, 49, 53, 50, 53, 51, 53, 52, 53, 53, 53, 54, 53, 55, 53, 56, 53, 57, 54, 48, 54, 49, 54, 50, 54, 51, 54, 52, 54, 53, 54, 54, 54, 55, 54, 56, 54, 57, 55, 48, 55, 49, 55, 50, 55, 51, 55, 52, 55, 53, 55, 54, 55, 55, 55, 56, 55, 57, 56, 48, 56, 49, 56, 50, 56, 51, 56, 52, 56, 53, 56, 54, 56, 55, 56, 56, 56, 57, 57, 48, 57, 49, 57, 50, 57, 51, 57, 52, 57, 53, 57, 54, 57, 55, 57, 56, 57, 57]⟩) t41) |> bo fun t78 =>
    (ixaX 1 t0 t70) |> bo fun t79 =>
    (stX m32 1 t79 t76) |> bo fun m39 =>
    (ixaX 1 t0 t73) |> bo fun t80 =>
    (stX m39 1 t80 t78) |> bo fun m41 =>
    (binX .sub .no t4 (.int .i64 7)) |> bo fun t83 =>
    (binX .sub .no t4 (.int .i64 8)) |> bo fun t86 =>
    (binX .add .no t38 (.int .u32 1)) |> bo fun t88 =>
    (ixsX (.string ⟨#[48, 48, 48, 49, 48, 50, 48, 51, 48, 52, 48, 53, 48, 54, 48, 55, 48, 56, 48, 57, 49, 48, 49, 49, 49, 50, 49, 51, 49, 52, 49, 53, 49, 54, 49, 55, 49, 56, 49, 57, 50, 48, 50, 49, 50, 50, 50, 51, 50, 52, 50, 53, 50, 54, 50, 55, 50, 56, 50, 57, 51, 48, 51, 49, 51, 50, 51, 51, 51, 52, 51, 53, 51, 54, 51, 55, 51, 56, 51, 57, 52, 48, 52, 49, 52, 50, 52, 51, 52, 52, 52, 53, 52, 54, 52, 55, 52, 56, 52, 57, 53, 48, 53, 49, 53, 50, 53, 51, 53, 52, 53, 53, 53, 54, 53, 55, 53, 56, 53, 57, 54, 48, 54, 49, 54, 50, 54, 51, 54, 52, 54, 53, 54, 54, 54, 55, 54, 56, 54, 57, 55, 48, 55, 49, 55, 50, 55, 51, 55, 52, 55, 53, 55, 54, 55, 55, 55, 56, 55, 57, 56, 48, 56, 49, 56, 50, 56, 51, 56, 52, 56, 53, 56, 54, 56, 55, 56, 56, 56, 57, 57, 48, 57, 49, 57, 50, 57, 51, 57, 52, 57, 53, 57, 54, 57, 55, 57, 56, 57, 57]⟩) t88) |> bo fun t89 =>
    (ixsX (.string ⟨#[48, 48, 48, 49, 48, 50, 48, 51, 48, 52, 48, 53, 48, 54, 48, 55, 48, 56, 48, 57, 49, 48, 49, 49, 49, 50, 49, 51, 49, 52, 49, 53, 49, 54, 49, 55, 49, 56, 49, 57, 50, 48, 50, 49, 50, 50, 50, 51, 50, 52, 50, 53, 50, 54, 50, 55, 50, 56, 50, 57, 51, 48, 51, 49, 51, 50, 51, 51, 51, 52, 51, 53, 51, 54, 51, 55, 51, 56, 51, 57, 52, 48, 52, 49, 52, 50, 52, 51, 52, 52, 52, 53, 52, 54, 52, 55, 52, 56, 52, 57, 53, 48, 53, 49, 53, 50, 53, 51, 53, 52, 53, 53, 53, 54, 53, 55, 53, 56, 53, 57, 54, 48, 54, 49, 54, 50, 54, 51, 54, 52, 54, 53, 54, 54, 54, 55, 54, 56, 54, 57, 55, 48, 55, 49, 55, 50, 55, 51, 55, 52, 55, 53, 55, 54, 55, 55, 55, 56, 55, 57, 56, 48, 56, 49, 56, 50, 56, 51, 56, 52, 56, 53, 56, 54, 56, 55, 56, 56, 56, 57, 57, 48, 57, 49, 57, 50, 57, 51, 57, 52, 57, 53, 57, 54, 57, 55, 57, 56, 57, 57]⟩) t38) |> bo fun t91 =>
    (ixaX 1 t0 t83) |> bo fun t92 =>
    (stX m41 1 t92 t89) |> bo fun m48 =>
    (ixaX 1 t0 t86) |> bo fun t93 =>
    (stX m48 1 t93 t91) |> bo fun m50 =>
    (binX .sub .no t4 (.int .i64 8)) |> bo fun t95 =>
    cutK k m50 [t0, t25] [t0, t25, t95] (L_internal_strconv_formatBase10 k q 0))
   (
    (cvI .u32 t1) |> bo fun t97 =>
    (binX .geq .no t4 (.int .i64 4)) |> bo fun t99 =>
    brX t99
     (
      (binX .rem .no t97 (.int .u32 10000)) |> bo fun t101 =>
      (binX .quo .no t97 (.int .u32 10000)) |> bo fun t103 =>
      (binX .quo .no t101 (.int .u32 100)) |> bo fun t105 =>
      (binX .mul .no t105 (.int .u32 2)) |> bo fun t106 =>
      (binX .rem .no t101 (.int .u32 100)) |> bo fun t108 =>
      (binX .mul .no t108 (.int .u32 2)) |> bo fun t109 =>
      (binX .sub .no t4 (.int .i64 1)) |> bo fun t112 =>
      (binX .sub .no t4 (.int .i64 2)) |> bo fun t115 =>
      (binX .add .no t109 (.int .u32 1)) |> bo fun t117 =>
      (ixsX (.string ⟨#[48, 48, 48, 49, 48, 50, 48, 51, 48, 52, 48, 53, 48, 54, 48, 55, 48, 56, 48, 57, 49, 48, 49, 49, 49, 50, 49, 51, 49, 52, 49, 53, 49, 54, 49, 55, 49, 56, 49, 57, 50, 48, 50, 49, 50, 50, 50, 51, 50, 52, 50, 53, 50, 54, 50, 55, 50, 56, 50, 57, 51, 48, 51, 49, 51, 50, 51, 51, 51, 52, 51, 53, 51, 54, 51, 55, 51, 56, 51, 57, 52, 48, 52, 49, 52, 50, 52, 51, 52, 52, 52, 53, 52, 54, 52, 55, 52, 56, 52, 57, 53, 48, 53, 49, 53, 50, 53, 51, 53, 52, 53, 53, 53, 54, 53, 55, 53, 56, 53, 57, 54, 48, 54, 49, 54, 50, 54, 51, 54, 52, 54, 53, 54, 54, 54, 55, 54, 56, 54, 57, 55, 48, 55, 49, 55, 50, 55, 51, 55, 52, 55, 53, 55, 54, 55, 55, 55, 56, 55, 57, 56, 48, 56, 49, 56, 50, 56, 51, 56, 52, 56, 53, 56, 54, 56, 55, 56, 56, 56, 57, 57, 48, 57, 49, 57, 50, 57, 51, 57, 52, 57, 53, 57, 54, 57, 55, 57, 56, 57, 57]⟩) t117) |> bo fun t118 =>
      (ixsX (.string ⟨#[48, 48, 48, 49, 48, 50, 48, 51, 48, 52, 48, 53, 48, 54, 48, 55, 48, 56, 48, 57, 49, 48, 49, 49, 49, 50, 49, 51, 49, 52, 49, 53, 49, 54, 49, 55, 49, 56, 49, 57, 50, 48, 50, 49, 50, 50, 50, 51, 50, 52, 50, 53, 50, 54, 50, 55, 50, 56, 50, 57, 51, 48, 51, 49, 51, 50, 51, 51, 51, 52, 51, 53, 51, 54, 51, 55, 51, 56, 51, 57, 52, 48, 52, 49, 52, 50, 52, 51, 52, 52, 52, 53, 52, 54, 52, 55, 52, 56, 52, 57, 53, 48, 53, 49, 53, 50, 53, 51, 53, 52, 53, 53, 53, 54, 53, 55, 53, 56, 53, 57, 54, 48, 54, 49, 54, 50, 54, 51, 54, 52, 54, 53, 54, 54, 54, 55, 54, 56, 54, 57, 55, 48, 55, 49, 55, 50, 55, 51, 55, 52, 55, 53, 55, 54, 55, 55, 55, 56, 55, 57, 56, 48, 56, 49, 56, 50, 56, 51, 56, 52, 56, 53, 56, 54, 56, 55, 56, 56, 56, 57, 57, 48, 57, 49, 57, 50, 57, 51, 57, 52, 57, 53, 57, 54, 57, 55, 57, 56, 57, 57]⟩) t109) |> bo fun t120 =>
      (ixaX 1 t0 t112) |> bo fun t121 =>
      (stX m 1 t121 t118) |> bo fun m66 =>
      (ixaX 1 t0 t115) |> bo fun t122 =>
      (stX m66 1 t122 t120) |> bo fun m68 =>
      (binX .sub .no t4 (.int .i64 3)) |> bo fun t125 =>
      (binX .sub .no t4 (.int .i64 4)) |> bo fun t128 =>
      (binX .add .no t106 (.int .u32 1)) |> bo fun t130 =>
      (ixsX (.string ⟨#[48, 48, 48, 49, 48, 50, 48, 51, 48, 52, 48, 53, 48, 54, 48, 55, 48, 56, 48, 57, 49, 48, 49, 49, 49, 50, 49, 51, 49, 52, 49, 53, 49, 54, 49, 55, 49, 56, 49, 57, 50, 48, 50, 49, 50, 50, 50, 51, 50, 52, 50, 53, 50, 54, 50, 55, 50, 56, 50, 57, 51, 48, 51, 49, 51, 50, 51, 51, 51, 52, 51, 53, 51, 54, 51, 55, 51, 56, 51, 57, 52, 48, 52, 49, 52, 50, 52, 51, 52, 52, 52, 53, 52, 54, 52, 55, 52, 56, 52, 57, 53, 48, 53, 49, 53, 50, 53, 51, 53, 52, 53, 53, 53, 54, 53, 55, 53, 56, 53, 57, 54, 48, 54, 49, 54, 50, 54, 51, 54, 52, 54, 53, 54, 54, 54, 55, 54, 56, 54, 57, 55, 48, 55, 49, 55, 50, 55, 51, 55, 52, 55, 53, 55, 54, 55, 55, 55, 56, 55, 57, 56, 48, 56, 49, 56, 50, 56, 51, 56, 52, 56, 53, 56, 54, 56, 55, 56, 56, 56, 57, 57, 48, 57, 49, 57, 50, 57, 51, 57, 52, 57, 53, 57, 54, 57, 55, 57, 56, 57, 57]⟩) t130) |> bo fun t131 =>
      (ixsX (.string ⟨#[48, 48, 48, 49, 48, 50, 48, 51, 48, 52, 48, 53, 48, 54, 48, 55, 48, 56, 48, 57, 49, 48, 49, 49, 49, 50, 49, 51, 49, 52, 49, 53, 49, 54, 49, 55, 49, 56, 49, 57, 50, 48, 50, 49, 50, 50, 50, 51, 50, 52, 50, 53, 50, 54, 50, 55, 50, 56, 50, 57, 51, 48, 51, 49, 51, 50, 51, 51, 51, 52, 51, 53, 51, 54, 51, 55, 51, 56, 51, 57, 52, 48, 52, 49, 52, 50, 52, 51, 52, 52, 52, 53, 52, 54, 52, 55, 52, 56, 52, 57, 53, 48, 53, 49, 53, 50, 53, 51, 53, 52, 53, 53, 53, 54, 53, 55, 53, 56, 53, 57, 54, 48, 54, 49, 54, 50, 54, 51, 54, 52, 54, 53, 54, 54, 54, 55, 54, 56, 54, 57, 55, 48, 55, 49, 55, 50, 55, 51, 55, 52, 55, 53, 55, 54, 55, 55, 55, 56, 55, 57, 56, 48, 56, 49, 56, 50, 56, 51, 56, 52, 56, 53, 56, 54, 56, 55, 56, 56, 56, 57, 57, 48, 57, 49, 57, 50, 57, 51, 57, 52, 57, 53, 57, 54, 57, 55, 57, 56, 57, 57]⟩) t106) |> bo fun t133 =>
      (ixaX 1 t0 t125) |> bo fun t134 =>
      (stX m68 1 t134 t131) |> bo fun m75 =>
      (ixaX 1 t0 t128) |> bo fun t135 =>
      (stX m75 1 t135 t133) |> bo fun m77 =>
      (binX .sub .no t4 (.int .i64 4)) |> bo fun t137 =>
      (binX .geq .no t137 (.int .i64 2)) |> bo fun t139 =>
      brX t139
       (
        (binX .rem .no t103 (.int .u32 100)) |> bo fun t141 =>
        (binX .mul .no t141 (.int .u32 2)) |> bo fun t142 =>
        (binX .quo .no t103 (.int .u32 100)) |> bo fun t144 =>
        (binX .sub .no t137 (.int .i64 1)) |> bo fun t147 =>
        (binX .sub .no t137 (.int .i64 2)) |> bo fun t150 =>
        (binX .add .no t142 (.int .u32 1)) |> bo fun t152 =>
        (ixsX (.string ⟨#[48, 48, 48, 49, 48, 50, 48, 51, 48, 52, 48, 53, 48, 54, 48, 55, 48, 56, 48, 57, 49, 48, 49, 49, 49, 50, 49, 51, 49, 52, 49, 53, 49, 54, 49, 55, 49, 56, 49, 57, 50, 48, 50, 49, 50, 50, 50, 51, 50, 52, 50, 53, 50, 54, 50, 55, 50, 56, 50, 57, 51, 48, 51, 49, 51, 50, 51, 51, 51, 52, 51, 53, 51, 54, 51, 55, 51, 56, 51, 57, 52, 48, 52, 49, 52, 50, 52, 51, 52, 52, 52, 53, 52, 54, 52, 55, 52, 56, 52, 57, 53, 48, 53, 49, 53, 50, 53, 51, 53, 52, 53, 53, 53, 54, 53, 55, 53, 56, 53, 57, 54, 48, 54, 49, 54, 50, 54, 51, 54, 52, 54, 53, 54, 54, 54, 55, 54, 56, 54, 57, 55, 48, 55, 49, 55, 50, 55, 51, 55, 52, 55, 53, 55, 54, 55, 55, 55, 56, 55, 57, 56, 48, 56, 49, 56, 50, 56, 51, 56, 52, 56, 53, 56, 54, 56, 55, 56, 56, 56, 57, 57, 48, 57, 49, 57, 50, 57, 51, 57, 52, 57, 53, 57, 54, 57, 55, 57, 56, 57, 57]⟩) t152) |> bo fun t153 =>
        (ixsX (.string ⟨#[48, 48, 48, 49, 48, 50, 48, 51, 48, 52, 48, 53, 48, 54, 48, 55, 48, 56, 48, 57, 49, 48, 49, 49, 49, 50, 49, 51, 49, 52, 49, 53, 49, 54, 49, 55, 49, 56, 49, 57, 50, 48, 50, 49, 50, 50, 50, 51, 50, 52, 50, 53, 50, 54, 50, 55, 50, 56, 50, 57, 51, 48, 51, 49, 51, 50, 51, 51, 51, 52, 51, 53, 51, 54, 51, 55, 51, 56, 51, 57, 52, 48, 52, 49, 52, 50, 52, 51, 52, 52, 52, 53, 52, 54, 52, 55, 52, 56, 52, 57, 53, 48, 53, 49, 53, 50, 53, 51, 53, 52, 53, 53, 53, 54, 53, 55, 53, 56, 53, 57, 54, 48, 54, 49, 54, 50, 54, 51, 54, 52, 54, 53, 54, 54, 54, 55, 54, 56, 54, 57, 55, 48, 55, 49, 55, 50, 55, 51, 55, 52, 55, 53, 55, 54, 55, 55, 55, 56, 55, 57, 56, 48, 56, 49, 56, 50, 56, 51, 56, 52, 56, 53, 56, 54, 56, 55, 56, 56, 56, 57, 57, 48, 57, 49, 57, 50, 57, 51, 57, 52, 57, 53, 57, 54, 57, 55, 57, 56, 57, 57]⟩) t142) |> bo fun t155 =>
        (ixaX 1 t0 t147) |> bo fun t156 =>
        (stX m77 1 t156 t153) |> bo fun m89 =>
        (ixaX 1 t0 t150) |> bo fun t157 =>
        (stX m89 1 t157 t155) |> bo fun m91 =>
        (binX .sub .no t137 (.int .i64 2)) |> bo fun t159 =>
        (binX .gtr .no t159 (.int .i64 0)) |> bo fun t161 =>
        brX t161
         (
          (binX .add .no (.int .u32 48) t144) |> bo fun t164 =>
          (cvI .u8 t164) |> bo fun t165 =>
          (ixaX 1 t0 (.int .i64 0)) |> bo fun t166 =>
          (stX m91 1 t166 t165) |> bo fun m97 =>
          retK k m97 [t0, t1] (.tuple #[]))
         (
          retK k m91 [t0, t1] (.tuple #[])))
       (
        (binX .gtr .no t137 (.int .i64 0)) |> bo fun t161 =>
        brX t161
         (
          (binX .add .no (.int .u32 48) t103) |> bo fun t164 =>
          (cvI .u8 t164) |> bo fun t165 =>
          (ixaX 1 t0 (.int .i64 0)) |> bo fun t166 =>
          (stX m77 1 t166 t165) |> bo fun m102 =>
          retK k m102 [t0, t1] (.tuple #[]))
         (
          retK k m77 [t0, t1] (.tuple #[]))))
     (
      (binX .geq .no t4 (.int .i64 2)) |> bo fun t139 =>
      brX t139
       (
        (binX .rem .no t97 (.int .u32 100)) |> bo fun t141 =>
        (binX .mul .no t141 (.int .u32 2)) |> bo fun t142 =>
        (binX .quo .no t97 (.int .u32 100)) |> bo fun t144 =>
        (binX .sub .no t4 (.int .i64 1)) |> bo fun t147 =>
        (binX .sub .no t4 (.int .i64 2)) |> bo fun t150 =>
        (binX .add .no t142 (.int .u32 1)) |> bo fun t152 =>
        (ixsX (.string ⟨#[48, 48, 48, 49, 48, 50, 48, 51, 48, 52, 48, 53, 48, 54, 48, 55, 48, 56, 48, 57, 49, 48, 49, 49, 49, 50, 49, 51, 49, 52, 49, 53, 49, 54, 49, 55, 49, 56, 49, 57, 50, 48, 50, 49, 50, 50, 50, 51, 50, 52, 50, 53, 50, 54, 50, 55, 50, 56, 50, 57, 51, 48, 51, 49, 51, 50, 51, 51, 51, 52, 51, 53, 51, 54, 51, 55, 51, 56, 51, 57, 52, 48, 52, 49, 52, 50, 52, 51, 52, 52, 52, 53, 52, 54, 52, 55, 52, 56, 52, 57, 53, 48, 53, 49, 53, 50, 53, 51, 53, 52, 53, 53, 53, 54, 53, 55, 53, 56, 53, 57, 54, 48, 54, 49, 54, 50, 54, 51, 54, 52, 54, 53, 54, 54, 54, 55, 54, 56, 54, 57, 55, 48, 55, 49, 55, 50, 55, 51, 55, 52, 55, 53, 55, 54, 55, 55, 55, 56, 55, 57, 56, 48, 56, 49, 56, 50, 56, 51, 56, 52, 56, 53, 56, 54, 56, 55, 56, 56, 56, 57, 57, 48, 57, 49, 57, 50, 57, 51, 57, 52, 57, 53, 57, 54, 57, 55, 57, 56, 57, 57]⟩) t152) |> bo fun t153 =>
        (ixsX (.string ⟨#[48, 48, 48, 49, 48, 50, 48, 51, 48, 52, 48, 53, 48, 54, 48, 55, 48, 56, 48, 57, 49, 48, 49, 49, 49, 50, 49, 51, 49, 52, 49, 53, 49, 54, 49, 55, 49, 56, 49, 57, 50, 48, 50, 49, 50, 50, 50, 51, 50, 52, 50, 53, 50, 54, 50, 55, 50, 56, 50, 57, 51, 48, 51, 49, 51, 50, 51, 51, 51, 52, 51, 53, 51, 54, 51, 55, 51, 56, 51, 57, 52, 48, 52, 49, 52, 50, 52, 51, 52, 52, 52, 53, 52, 54, 52, 55, 52, 56, 52, 57, 53, 48, 53, 49, 53, 50, 53, 51, 53, 52, 53, 53, 53, 54, 53, 55, 53, 56, 53, 57, 54, 48, 54, 49, 54, 50, 54, 51, 54, 52, 54, 53, 54, 54, 54, 55, 54, 56, 54, 57, 55, 48, 55, 49, 55, 50, 55, 51, 55, 52, 55, 53, 55, 54, 55, 55, 55, 56, 55, 57, 56, 48, 56, 49, 56, 50, 56, 51, 56, 52, 56, 53, 56, 54, 56, 55, 56, 56, 56, 57, 57, 48, 57, 49, 57, 50, 57, 51, 57, 52, 57, 53, 57, 54, 57, 55, 57, 56, 57, 57]⟩) t142) |> bo fun t155 =>
        (ixaX 1 t0 t147) |> bo fun t156 =>
        (stX m 1 t156 t153) |> bo fun m113 =>
        (ixaX 1 t0 t150) |> bo fun t157 =>
        (stX m113 1 t157 t155) |> bo fun m115 =>
        (binX .sub .no t4 (.int .i64 2)) |> bo fun t159 =>
        (binX .gtr .no t159 (.int .i64 0)) |> bo fun t161 =>
        brX t161
         (
          (binX .add .no (.int .u32 48) t144) |> bo fun t164 =>
          (cvI .u8 t164) |> bo fun t165 =>
          (ixaX 1 t0 (.int .i64 0)) |> bo fun t166 =>
          (stX m115 1 t166 t165) |> bo fun m121 =>
          retK k m121 [t0, t1] (.tuple #[]))
         (
          retK k m115 [t0, t1] (.tuple #[])))
       (
        (binX .gtr .no t4 (.int .i64 0)) |> bo fun t161 =>
        brX t161
         (
          (binX .add .no (.int .u32 48) t97) |> bo fun t164 =>
          (cvI .u8 t164) |> bo fun t165 =>
          (ixaX 1 t0 (.int .i64 0)) |> bo fun t166 =>
          (stX m 1 t166 t165) |> bo fun m126 =>
          retK k m126 [t0, t1] (.tuple #[]))
         (
          retK k m [t0, t1] (.tuple #[])))))
 | _, _, _, _ => none
noncomputable def J_internal_strconv_formatBase10 (k q l : Nat) : List Value → Mem → Option VM := cond (Nat.beq l 1) (L_internal_strconv_formatBase10 k q 0) (fun _ _ => none)
def LL_internal_strconv_formatBase10 : List (Nat × List Tmp) := [(1, [0, 1, 4])]
noncomputable def X_internal_strconv_formatBase10 : List Value → Mem → Option VM
 | [t0, t1], m =>
  (lenX t0) |> bo fun t18 =>
  cutK m.length m [t0, t1] [t0, t1, t18] (L_internal_strconv_formatBase10 m.length QQ 0)
 | _, _ => none
noncomputable def C_internal_strconv_formatBase10 : List Value → Mem → Option VM := rcall X_internal_strconv_formatBase10
@[simp] theorem c_internal_strconv_formatBase10 : C_internal_strconv_formatBase10 = rcall X_internal_strconv_formatBase10 := (rfl)
theorem cok_internal_strconv_formatBase10 : codeOk CT Tryd.f88 (Tryd.f88.body.get rfl) = true := by kernel_rfl
theorem xe_internal_strconv_formatBase10 (t0 t1 : Value) (m : Mem) : ex CT cf_internal_strconv_formatBase10 Tryd.f88 2 m.length LL_internal_strconv_formatBase10 (J_internal_strconv_formatBase10 m.length QQ) 400 [.code (Tryd.f88.body.get rfl)] (argsT 0 [t0, t1]) m = X_internal_strconv_formatBase10 [t0, t1] m := by kernel_rfl
theorem okc_internal_strconv_formatBase10 : CallOK CT cf_internal_strconv_formatBase10 := cfn_ok
theorem le_internal_strconv_formatBase10_0 (k q : Nat) (t0 t1 t4 : Value) (m : Mem) : ex CT cf_internal_strconv_formatBase10 Tryd.f88 2 k LL_internal_strconv_formatBase10 (J_internal_strconv_formatBase10 k q) 400 (atLoop Tryd.f88 0) [(0, t0), (1, t1), (4, t4)] m = J_internal_strconv_formatBase10 k (q + 1) 1 [t0, t1, t4] m := by kernel_rfl
theorem gl_internal_strconv_formatBase10 (k : Nat) : ∀ q i, i < 1 → GoodL CT k Tryd.f88 LL_internal_strconv_formatBase10 (J_internal_strconv_formatBase10 k q) (atLoop Tryd.f88 i)
 | 0, 0, _ => goodL_zero (l := 1) (by kernel_rfl) (fun vs m => by kernel_rfl)
 | 0, _ + 1, h => absurd h (by omega)
 | q + 1, 0, _ => goodL_succ (np := 2) (l := 1) (live := [0, 1, 4]) (n := 1) CT_ok rfl okc_internal_strconv_formatBase10 (c := (Tryd.f88.body.get rfl)) rfl cok_internal_strconv_formatBase10 (by kernel_rfl) (gl_internal_strconv_formatBase10 k q) (by kernel_rfl) rfl (fun vs m r hl h => match vs, hl with
  | [t0, t1, t4], _ => (le_internal_strconv_formatBase10_0 k q t0 t1 t4 m).trans h)
 | _ + 1, _ + 1, h => absurd h (by omega)
theorem ok_X_internal_strconv_formatBase10 : OkX CT 88 X_internal_strconv_formatBase10 := OkX.of_ex (cf := cf_internal_strconv_formatBase10) (np := 2) (LL := LL_internal_strconv_formatBase10) (J := (fun k => J_internal_strconv_formatBase10 k QQ)) CT_ok rfl Tryd.func88 rfl (Nat.le_of_ble_eq_true rfl) (by decide) cok_internal_strconv_formatBase10 okc_internal_strconv_formatBase10 (fun k => allLoops rfl (by kernel_rfl) (gl_internal_strconv_formatBase10 k QQ)) (fun args m r h => match args, h with
  | [t0, t1], h => ⟨rfl, (xe_internal_strconv_formatBase10 t0 t1 m).trans h⟩)
theorem ok_C_internal_strconv_formatBase10 : OkC CT 88 C_internal_strconv_formatBase10 := rcall_ok rfl ok_X_internal_strconv_formatBase10
noncomputable def cf_internal_strconv_isPowerOfTwo : CallF := cfn
noncomputable def X_internal_strconv_isPowerOfTwo : List Value → Mem → Option VM
 | [t0], m =>
  (binX .sub .no t0 (.int .i64 1)) |> bo fun t5 =>
  (binX .and .no t0 t5) |> bo fun t6 =>
  (binX .eql .no t6 (.int .i64 0)) |> bo fun t7 =>
  retK m.length m [t0] t7
 | _, _ => none
noncomputable def C_internal_strconv_isPowerOfTwo : List Value → Mem → Option VM := fcall X_internal_strconv_isPowerOfTwo
@[simp] theorem c_internal_strconv_isPowerOfTwo : C_internal_strconv_isPowerOfTwo = fcall X_internal_strconv_isPowerOfTwo := (rfl)
theorem cok_internal_strconv_isPowerOfTwo : codeOk CT Tryd.f93 (Tryd.f93.body.get rfl) = true := by kernel_rfl
theorem xe_internal_strconv_isPowerOfTwo (t0 : Value) (m : Mem) : ex CT cf_internal_strconv_isPowerOfTwo Tryd.f93 1 m.length [] (fun _ _ _ => none) 400 [.code (Tryd.f93.body.get rfl)] (argsT 0 [t0]) m = X_internal_strconv_isPowerOfTwo [t0] m := by kernel_rfl
theorem okc_internal_strconv_isPowerOfTwo : CallOK CT cf_internal_strconv_isPowerOfTwo := cfn_ok
theorem ok_X_internal_strconv_isPowerOfTwo : OkX CT 93 X_internal_strconv_isPowerOfTwo := OkX.of_ex (cf := cf_internal_strconv_isPowerOfTwo) (np := 1) (LL := []) (J := (fun _ _ _ _ => none)) CT_ok rfl Tryd.func93 rfl (Nat.le_of_ble_eq_true rfl) (by decide) cok_internal_strconv_isPowerOfTwo okc_internal_strconv_isPowerOfTwo (fun k => noLoops rfl) (fun args m r h => match args, h with
  | [t0], h => ⟨rfl, (xe_internal_strconv_isPowerOfTwo t0 m).trans h⟩)
theorem ok_C_internal_strconv_isPowerOfTwo : OkC CT 93 C_internal_strconv_isPowerOfTwo := fcall_ok rfl ok_X_internal_strconv_isPowerOfTwo
noncomputable def cf_math_bits_TrailingZeros32 : CallF := cfn
noncomputable def X_math_bits_TrailingZeros32 : List Value → Mem → Option VM
 | [t0], m =>
  (binX .eql .no t0 (.int .u32 0)) |> bo fun t4 =>
  brX t4
   (
    retK m.length m [t0] (.int .i64 32))
   (
    (uop .neg t0) |> bo fun t7 =>
    (binX .and .no t0 t7) |> bo fun t8 =>
    (binX .mul .no t8 (.int .u32 125613361)) |> bo fun t9 =>
    (binX .shr .no t9 (.int .u64 27)) |> bo fun t10 =>
    none)
 | _, _ => none
noncomputable def C_math_bits_TrailingZeros32 : List Value → Mem → Option VM := fcall X_math_bits_TrailingZeros32
@[simp] theorem c_math_bits_TrailingZeros32 : C_math_bits_TrailingZeros32 = fcall X_math_bits_TrailingZeros32 := (rfl)
theorem cok_math_bits_TrailingZeros32 : codeOk CT Tryd.f95 (Tryd.f95.body.get rfl) = true := by kernel_rfl
theorem xe_math_bits_TrailingZeros32 (t0 : Value) (m : Mem) : ex CT cf_math_bits_TrailingZeros32 Tryd.f95 1 m.length [] (fun _ _ _ => none) 400 [.code (Tryd.f95.body.get rfl)] (argsT 0 [t0]) m = X_math_bits_TrailingZeros32 [t0] m := by kernel_rfl
theorem okc_math_bits_TrailingZeros32 : CallOK CT cf_math_bits_TrailingZeros32 := cfn_ok
theorem ok_X_math_bits_TrailingZeros32 : OkX CT 95 X_math_bits_TrailingZeros32 := OkX.of_ex (cf := cf_math_bits_TrailingZeros32) (np := 1) (LL := []) (J := (fun _ _ _ _ => none)) CT_ok rfl Tryd.func95 rfl (Nat.le_of_ble_eq_true rfl) (by decide) cok_math_bits_TrailingZeros32 okc_math_bits_TrailingZeros32 (fun k => noLoops rfl) (fun args m r h => match args, h with
  | [t0], h => ⟨rfl, (xe_math_bits_TrailingZeros32 t0 m).trans h⟩)
theorem ok_C_math_bits_TrailingZeros32 : OkC CT 95 C_math_bits_TrailingZeros32 := fcall_ok rfl ok_X_math_bits_TrailingZeros32
noncomputable def cf_math_bits_TrailingZeros64 : CallF := cfn
noncomputable def X_math_bits_TrailingZeros64 : List Value → Mem → Option VM
 | [t0], m =>
  (binX .eql .no t0 (.int .u64 0)) |> bo fun t4 =>
  brX t4
   (
    retK m.length m [t0] (.int .i64 64))
   (
    (uop .neg t0) |> bo fun t7 =>
    (binX .and .no t0 t7) |> bo fun t8 =>
    (binX .mul .no t8 (.int .u64 285870213051353865)) |> bo fun t9 =>
    (binX .shr .no t9 (.int .u64 58)) |> bo fun t10 =>
    none)
 | _, _ => none
noncomputable def C_math_bits_TrailingZeros64 : List Value → Mem → Option VM := fcall X_math_bits_TrailingZeros64
@[simp] theorem c_math_bits_TrailingZeros64 : C_math_bits_TrailingZeros64 = fcall X_math_bits_TrailingZeros64 := (rfl)
theorem cok_math_bits_TrailingZeros64 : codeOk CT Tryd.f96 (Tryd.f96.body.get rfl) = true := by kernel_rfl
theorem xe_math_bits_TrailingZeros64 (t0 : Value) (m : Mem) : ex CT cf_math_bits_TrailingZeros64 Tryd.f96 1 m.length [] (fun _ _ _ => none) 400 [.code (Tryd.f96.body.get rfl)] (argsT 0 [t0]) m = X_math_bits_TrailingZeros64 [t0] m := by kernel_rfl
theorem okc_math_bits_TrailingZeros64 : CallOK CT cf_math_bits_TrailingZeros64 := cfn_ok
theorem ok_X_math_bits_TrailingZeros64 : OkX CT 96 X_math_bits_TrailingZeros64 := OkX.of_ex (cf := cf_math_bits_TrailingZeros64) (np := 1) (LL := []) (J := (fun _ _ _ _ => none)) CT_ok rfl Tryd.func96 rfl (Nat.le_of_ble_eq_true rfl) (by decide) cok_math_bits_TrailingZeros64 okc_math_bits_TrailingZeros64 (fun k => noLoops rfl) (fun args m r h => match args, h with
  | [t0], h => ⟨rfl, (xe_math_bits_TrailingZeros64 t0 m).trans h⟩)
theorem ok_C_math_bits_TrailingZeros64 : OkC CT 96 C_math_bits_TrailingZeros64 := fcall_ok rfl ok_X_math_bits_TrailingZeros64
noncomputable def cf_math_bits_TrailingZeros : CallF := cfc 95 C_math_bits_TrailingZeros32 (cfc 96 C_math_bits_TrailingZeros64 cfn)
noncomputable def X_math_bits_TrailingZeros : List Value → Mem → Option VM
 | [t0], m =>
  brX (.bool false)
   (
    (cvI .u32 t0) |> bo fun t4 =>
    (C_math_bits_TrailingZeros32 [t4] m) |> bo fun r2 =>
    retK m.length r2.2 [t0] r2.1)
   (
    (C_math_bits_TrailingZeros64 [t0] m) |> bo fun r3 =>
    retK m.length r3.2 [t0] r3.1)
 | _, _ => none
noncomputable def C_math_bits_TrailingZeros : List Value → Mem → Option VM := fcall X_math_bits_TrailingZeros
@[simp] theorem c_math_bits_TrailingZeros : C_math_bits_TrailingZeros = fcall X_math_bits_TrailingZeros := (rfl)
theorem cok_math_bits_TrailingZeros : codeOk CT Tryd.f94 (Tryd.f94.body.get rfl) = true := by kernel_rfl
theorem xe_math_bits_TrailingZeros (t0 : Value) (m : Mem) : ex CT cf_math_bits_TrailingZeros Tryd.f94 1 m.length [] (fun _ _ _ => none) 400 [.code (Tryd.f94.body.get rfl)] (argsT 0 [t0]) m = X_math_bits_TrailingZeros [t0] m := by kernel_rfl
theorem okc_math_bits_TrailingZeros : CallOK CT cf_math_bits_TrailingZeros := cfc_ok ok_C_math_bits_TrailingZeros32 (cfc_ok ok_C_math_bits_TrailingZeros64 cfn_ok)
theorem ok_X_math_bits_TrailingZeros : OkX CT 94 X_math_bits_TrailingZeros := OkX.of_ex (cf := cf_math_bits_TrailingZeros) (np := 1) (LL := []) (J := (fun _ _ _ _ => none)) CT_ok rfl Tryd.func94 rfl (Nat.le_of_ble_eq_true rfl) (by decide) cok_math_bits_TrailingZeros okc_math_bits_TrailingZeros (fun k => noLoops rfl) (fun args m r h => match args, h with
  | [t0], h => ⟨rfl, (xe_math_bits_TrailingZeros t0 m).trans h⟩)
theorem ok_C_math_bits_TrailingZeros : OkC CT 94 C_math_bits_TrailingZeros := fcall_ok rfl ok_X_math_bits_TrailingZeros
noncomputable def cf_internal_strconv_formatBits : CallF := cfc 93 C_internal_strconv_isPowerOfTwo (cfc 94 C_math_bits_TrailingZeros cfn)
noncomputable def L_internal_strconv_formatBits (k : Nat) : Nat → Nat → List Value → Mem → Option VM
 | q + 1, 0, [t0, t1, t2, t3, t4, t10, t11, t12, t13, t14, t15, t16], m =>
  (binX .geq .no t1 t15) |> bo fun t46 =>
  brX t46
   (
    (binX .sub .no t13 (.int .i64 1)) |> bo fun t48 =>
    (binX .and .no t1 t16) |> bo fun t52 =>
    (ixsX (.string ⟨#[48, 49, 50, 51, 52, 53, 54, 55, 56, 57, 97, 98, 99, 100, 101, 102, 103, 104, 105, 106, 107, 108, 109, 110, 111, 112, 113, 114, 115, 116, 117, 118, 119, 120, 121, 122]⟩) t52) |> bo fun t53 =>
    none)
   (
    (binX .sub .no t13 (.int .i64 1)) |> bo fun t59 =>
    (ixsX (.string ⟨#[48, 49, 50, 51, 52, 53, 54, 55, 56, 57, 97, 98, 99, 100, 101, 102, 103, 104, 105, 106, 107, 108, 109, 110, 111, 112, 113, 114, 115, 116, 117, 118, 119, 120, 121, 122]⟩) t1) |> bo fun t62 =>
    none)
 | q + 1, 1, [t0, t1, t2, t3, t4, t10, t11, t12, t13, t17], m =>
  (binX .geq .no t1 t17) |> bo fun t68 =>
  brX t68
   (
    (binX .sub .no t13 (.int .i64 1)) |> bo fun t70 =>
    (binX .quo .no t1 t17) |> bo fun t73 =>
    (binX .mul .no t73 t17) |> bo fun t78 =>
    (binX .sub .no t1 t78) |> bo fun t79 =>
    (ixsX (.string ⟨#[48, 49, 50, 51, 52, 53, 54, 55, 56, 57, 97, 98, 99, 100, 101, 102, 103, 104, 105, 106, 107, 108, 109, 110, 111, 112, 113, 114, 115, 116, 117, 118, 119, 120, 121, 122]⟩) t79) |> bo fun t80 =>
    none)
   (
    (binX .sub .no t13 (.int .i64 1)) |> bo fun t84 =>
    (ixsX (.string ⟨#[48, 49, 50, 51, 52, 53, 54, 55, 56, 57, 97, 98, 99, 100, 101, 102, 103, 104, 105, 106, 107, 108, 109, 110, 111, 112, 113, 114, 115, 116, 117, 118, 119, 120, 121, 122]⟩) t1) |> bo fun t87 =>
    none)
 | _, _, _, _ => none
noncomputable def J_internal_strconv_formatBits (k q l : Nat) : List Value → Mem → Option VM := cond (Nat.beq l 11) (L_internal_strconv_formatBits k q 0) (cond (Nat.beq l 18) (L_internal_strconv_formatBits k q 1) (fun _ _ => none))
def LL_internal_strconv_formatBits : List (Nat × List Tmp) := [(11, [0, 1, 2, 3, 4, 10, 11, 12, 13, 14, 15, 16]), (18, [0, 1, 2, 3, 4, 10, 11, 12, 13, 17])]
noncomputable def X_internal_strconv_formatBits : List Value → Mem → Option VM
 | [t0, t1, t2, t3, t4], m =>
  (binX .lss .no t2 (.int .i64 2)) |> bo fun t20 =>
  (gd t20 false (some (t2, m)) m) |> bo fun r2 =>
  (gd t20 false ((binX .eql .no r2.1 (.int .i64 10)) |> bo fun v => some (v, r2.2)) r2.2) |> bo fun r3 =>
  (pickX t20 (.bool true) r3.1) |> bo fun t24 =>
  (gd t24 false (some (t2, r3.2)) r3.2) |> bo fun r5 =>
  (gd t24 false ((binX .gtr .no r5.1 (.int .i64 36)) |> bo fun v => some (v, r5.2)) r5.2) |> bo fun r6 =>
  (pickX t24 (.bool true) r6.1) |> bo fun t28 =>
  brX t28
   (
    none)
   (
    none)
 | _, _ => none
noncomputable def C_internal_strconv_formatBits : List Value → Mem → Option VM := rcall X_internal_strconv_formatBits
@[simp] theorem c_internal_strconv_formatBits : C_internal_strconv_formatBits = rcall X_internal_strconv_formatBits := (rfl)
theorem cok_internal_strconv_formatBits : codeOk CT Tryd.f89 (Tryd.f89.body.get rfl) = true := by kernel_rfl
theorem xe_internal_strconv_formatBits (t0 t1 t2 t3 t4 : Value) (m : Mem) : ex CT cf_internal_strconv_formatBits Tryd.f89 5 m.length LL_internal_strconv_formatBits (J_internal_strconv_formatBits m.length QQ) 400 [.code (Tryd.f89.body.get rfl)] (argsT 0 [t0, t1, t2, t3, t4]) m = X_internal_strconv_formatBits [t0, t1, t2, t3, t4] m := by kernel_rfl
theorem okc_internal_strconv_formatBits : CallOK CT cf_internal_strconv_formatBits := cfc_ok ok_C_internal_strconv_isPowerOfTwo (cfc_ok ok_C_math_bits_TrailingZeros cfn_ok)
theorem le_internal_strconv_formatBits_0 (k q : Nat) (t0 t1 t2 t3 t4 t10 t11 t12 t13 t14 t15 t16 : Value) (m : Mem) : ex CT cf_internal_strconv_formatBits Tryd.f89 5 k LL_internal_strconv_formatBits (J_internal_strconv_formatBits k q) 400 (atLoop Tryd.f89 0) [(0, t0), (1, t1), (2, t2), (3, t3), (4, t4), (10, t10), (11, t11), (12, t12), (13, t13), (14, t14), (15, t15), (16, t16)] m = J_internal_strconv_formatBits k (q + 1) 11 [t0, t1, t2, t3, t4, t10, t11, t12, t13, t14, t15, t16] m := by kernel_rfl
theorem le_internal_strconv_formatBits_1 (k q : Nat) (t0 t1 t2 t3 t4 t10 t11 t12 t13 t17 : Value) (m : Mem) : ex CT cf_internal_strconv_formatBits Tryd.f89 5 k LL_internal_strconv_formatBits (J_internal_strconv_formatBits k q) 400 (atLoop Tryd.f89 1) [(0, t0), (1, t1), (2, t2), (3, t3), (4, t4), (10, t10), (11, t11), (12, t12), (13, t13), (17, t17)] m = J_internal_strconv_formatBits k (q + 1) 18 [t0, t1, t2, t3, t4, t10, t11, t12, t13, t17] m := by kernel_rfl
theorem gl_internal_strconv_formatBits (k : Nat) : ∀ q i, i < 2 → GoodL CT k Tryd.f89 LL_internal_strconv_formatBits (J_internal_strconv_formatBits k q) (atLoop Tryd.f89 i)
 | 0, 0, _ => goodL_zero (l := 11) (by kernel_rfl) (fun vs m => by kernel_rfl)
 | 0, 1, _ => goodL_zero (l := 18) (by kernel_rfl) (fun vs m => by kernel_rfl)
 | 0, _ + 2, h => absurd h (by omega)
 | q + 1, 0, _ => goodL_succ (np := 5) (l := 11) (live := [0, 1, 2, 3, 4, 10, 11, 12, 13, 14, 15, 16]) (n := 2) CT_ok rfl okc_internal_strconv_formatBits (c := (Tryd.f89.body.get rfl)) rfl cok_internal_strconv_formatBits (by kernel_rfl) (gl_internal_strconv_formatBits k q) (by kernel_rfl) rfl (fun vs m r hl h => match vs, hl with
  | [t0, t1, t2, t3, t4, t10, t11, t12, t13, t14, t15, t16], _ => (le_internal_strconv_formatBits_0 k q t0 t1 t2 t3 t4 t10 t11 t12 t13 t14 t15 t16 m).trans h)
 | q + 1, 1, _ => goodL_succ (np := 5) (l := 18) (live := [0, 1, 2, 3, 4, 10, 11, 12, 13, 17]) (n := 2) CT_ok rfl okc_internal_strconv_formatBits (c := (Tryd.f89.body.get rfl)) rfl cok_internal_strconv_formatBits (by kernel_rfl) (gl_internal_strconv_formatBits k q) (by kernel_rfl) rfl (fun vs m r hl h => match vs, hl with
  | [t0, t1, t2, t3, t4, t10, t11, t12, t13, t17], _ => (le_internal_strconv_formatBits_1 k q t0 t1 t2 t3 t4 t10 t11 t12 t13 t17 m).trans h)
 | _ + 1, _ + 2, h => absurd h (by omega)
theorem ok_X_internal_strconv_formatBits : OkX CT 89 X_internal_strconv_formatBits := OkX.of_ex (cf := cf_internal_strconv_formatBits) (np := 5) (LL := LL_internal_strconv_formatBits) (J := (fun k => J_internal_strconv_formatBits k QQ)) CT_ok rfl Tryd.func89 rfl (Nat.le_of_ble_eq_true rfl) (by decide) cok_internal_strconv_formatBits okc_internal_strconv_formatBits (fun k => allLoops rfl (by kernel_rfl) (gl_internal_strconv_formatBits k QQ)) (fun args m r h => match args, h with
  | [t0, t1, t2, t3, t4], h => ⟨rfl, (xe_internal_strconv_formatBits t0 t1 t2 t3 t4 m).trans h⟩)
theorem ok_C_internal_strconv_formatBits : OkC CT 89 C_internal_strconv_formatBits := rcall_ok rfl ok_X_internal_strconv_formatBits
noncomputable def cf_internal_strconv_FormatInt : CallF := cfc 86 C_internal_strconv_small (cfc 87 C_internal_strconv_numDigits (cfc 88 C_internal_strconv_formatBase10 (cfc 89 C_internal_strconv_formatBits cfn)))
noncomputable def X_internal_strconv_FormatInt : List Value → Mem → Option VM
 | [t0, t1], m =>
  (binX .eql .no t1 (.int .i64 10)) |> bo fun t11 =>
  brX t11
   (
    (binX .leq .no (.int .i64 0) t0) |> bo fun t13 =>
    (gd t13 true (some (t0, m)) m) |> bo fun r3 =>
    (gd t13 true ((binX .lss .no r3.1 (.int .i64 100)) |> bo fun v => some (v, r3.2)) r3.2) |> bo fun r4 =>
    (pickX t13 r4.1 (.bool false)) |> bo fun t17 =>
    brX t17
     (
      (C_internal_strconv_small [t0] r4.2) |> bo fun r6 =>
      retK m.length r6.2 [t0, t1] r6.1)
     (
      none))
   (
    (cvI .u64 t0) |> bo fun t46 =>
    (binX .lss .no t0 (.int .i64 0)) |> bo fun t49 =>
    (C_internal_strconv_formatBits [(.slice none 0 0), t46, t1, t49, (.bool false)] m) |> bo fun r9 =>
    (extX 0 r9.1) |> bo fun t51 =>
    (extX 1 r9.1) |> bo fun t52 =>
    retK m.length r9.2 [t0, t1] t52)
 | _, _ => none
noncomputable def C_internal_strconv_FormatInt : List Value → Mem → Option VM := fcall X_internal_strconv_FormatInt
@[simp] theorem c_internal_strconv_FormatInt : C_internal_strconv_FormatInt = fcall X_internal_strconv_FormatInt := (rfl)
theorem cok_internal_strconv_FormatInt : codeOk CT Tryd.f85 (Tryd.f85.body.get rfl) = true := by kernel_rfl
theorem xe_internal_strconv_FormatInt (t0 t1 : Value) (m : Mem) : ex CT cf_internal_strconv_FormatInt Tryd.f85 2 m.length [] (fun _ _ _ => none) 400 [.code (Tryd.f85.body.get rfl)] (argsT 0 [t0, t1]) m = X_internal_strconv_FormatInt [t0, t1] m := by kernel_rfl
theorem okc_internal_strconv_FormatInt : CallOK CT cf_internal_strconv_FormatInt := cfc_ok ok_C_internal_strconv_small (cfc_ok ok_C_internal_strconv_numDigits (cfc_ok ok_C_internal_strconv_formatBase10 (cfc_ok ok_C_internal_strconv_formatBits cfn_ok)))
theorem ok_X_internal_strconv_FormatInt : OkX CT 85 X_internal_strconv_FormatInt := OkX.of_ex (cf := cf_internal_strconv_FormatInt) (np := 2) (LL := []) (J := (fun _ _ _ _ => none)) CT_ok rfl Tryd.func85 rfl (Nat.le_of_ble_eq_true rfl) (by decide) cok_internal_strconv_FormatInt okc_internal_strconv_FormatInt (fun k => noLoops rfl) (fun args m r h => match args, h with
  | [t0, t1], h => ⟨rfl, (xe_internal_strconv_FormatInt t0 t1 m).trans h⟩)
theorem ok_C_internal_strconv_FormatInt : OkC CT 85 C_internal_strconv_FormatInt := fcall_ok rfl ok_X_internal_strconv_FormatInt
noncomputable def cf_strconv_FormatInt : CallF := cfc 85 C_internal_strconv_FormatInt cfn
noncomputable def X_strconv_FormatInt : List Value → Mem → Option VM
 | [t0, t1], m =>
  (C_internal_strconv_FormatInt [t0, t1] m) |> bo fun r1 =>
  retK m.length r1.2 [t0, t1] r1.1
 | _, _ => none
noncomputable def C_strconv_FormatInt : List Value → Mem → Option VM := fcall X_strconv_FormatInt
@[simp] theorem c_strconv_FormatInt : C_strconv_FormatInt = fcall X_strconv_FormatInt := (rfl)
theorem cok_strconv_FormatInt : codeOk CT Tryd.f82 (Tryd.f82.body.get rfl) = true := by kernel_rfl
theorem xe_strconv_FormatInt (t0 t1 : Value) (m : Mem) : ex CT cf_strconv_FormatInt Tryd.f82 2 m.length [] (fun _ _ _ => none) 400 [.code (Tryd.f82.body.get rfl)] (argsT 0 [t0, t1]) m = X_strconv_FormatInt [t0, t1] m := by kernel_rfl
theorem okc_strconv_FormatInt : CallOK CT cf_strconv_FormatInt := cfc_ok ok_C_internal_strconv_FormatInt cfn_ok
theorem ok_X_strconv_FormatInt : OkX CT 82 X_strconv_FormatInt := OkX.of_ex (cf := cf_strconv_FormatInt) (np := 2) (LL := []) (J := (fun _ _ _ _ => none)) CT_ok rfl Tryd.func82 rfl (Nat.le_of_ble_eq_true rfl) (by decide) cok_strconv_FormatInt okc_strconv_FormatInt (fun k => noLoops rfl) (fun args m r h => match args, h with
  | [t0, t1], h => ⟨rfl, (xe_strconv_FormatInt t0 t1 m).trans h⟩)
theorem ok_C_strconv_FormatInt : OkC CT 82 C_strconv_FormatInt := fcall_ok rfl ok_X_strconv_FormatInt
noncomputable def cf_impl_digits : CallF := cfc 82 C_strconv_FormatInt cfn
noncomputable def X_impl_digits : List Value → Mem → Option VM
 | [t0], m =>
  (C_strconv_FormatInt [t0, (.int .i64 10)] m) |> bo fun r1 =>
  retK m.length r1.2 [t0] r1.1
 | _, _ => none
noncomputable def C_impl_digits : List Value → Mem → Option VM := fcall X_impl_digits
@[simp] theorem c_impl_digits : C_impl_digits = fcall X_impl_digits := (rfl)
theorem cok_impl_digits : codeOk CT Tryd.f74 (Tryd.f74.body.get rfl) = true := by kernel_rfl
theorem xe_impl_digits (t0 : Value) (m : Mem) : ex CT cf_impl_digits Tryd.f74 1 m.length [] (fun _ _ _ => none) 400 [.code (Tryd.f74.body.get rfl)] (argsT 0 [t0]) m = X_impl_digits [t0] m := by kernel_rfl
theorem okc_impl_digits : CallOK CT cf_impl_digits := cfc_ok ok_C_strconv_FormatInt cfn_ok
theorem ok_X_impl_digits : OkX CT 74 X_impl_digits := OkX.of_ex (cf := cf_impl_digits) (np := 1) (LL := []) (J := (fun _ _ _ _ => none)) CT_ok rfl Tryd.func74 rfl (Nat.le_of_ble_eq_true rfl) (by decide) cok_impl_digits okc_impl_digits (fun k => noLoops rfl) (fun args m r h => match args, h with
  | [t0], h => ⟨rfl, (xe_impl_digits t0 m).trans h⟩)
theorem ok_C_impl_digits : OkC CT 74 C_impl_digits := fcall_ok rfl ok_X_impl_digits
noncomputable def cf_impl_put_place : CallF := cfc 73 C_impl_put_esc (cfc 74 C_impl_digits cfn)
noncomputable def X_impl_put_place : List Value → Mem → Option VM
 | [t0, t1, t2], m =>
  (binX .add .no t1 (.int .i64 1)) |> bo fun t8 =>
  (C_impl_digits [t8] m) |> bo fun r2 =>
  (binX .add .no (.string ⟨#[91]⟩) r2.1) |> bo fun t10 =>
  (binX .add .no t10 (.string ⟨#[59]⟩)) |> bo fun t11 =>
  (binX .add .no t2 (.int .i64 1)) |> bo fun t13 =>
  (C_impl_digits [t13] r2.2) |> bo fun r6 =>
  (binX .add .no t11 r6.1) |> bo fun t15 =>
  (binX .add .no t15 (.string ⟨#[72]⟩)) |> bo fun t16 =>
  (C_impl_put_esc [t0, t16] r6.2) |> bo fun r9 =>
  retK m.length r9.2 [t0, t1, t2] (.tuple #[])
 | _, _ => none
noncomputable def C_impl_put_place : List Value → Mem → Option VM := rcall X_impl_put_place
@[simp] theorem c_impl_put_place : C_impl_put_place = rcall X_impl_put_place := (rfl)
theorem cok_impl_put_place : codeOk CT Tryd.f48 (Tryd.f48.body.get rfl) = true := by kernel_rfl
theorem xe_impl_put_place (t0 t1 t2 : Value) (m : Mem) : ex CT cf_impl_put_place Tryd.f48 3 m.length [] (fun _ _ _ => none) 400 [.code (Tryd.f48.body.get rfl)] (argsT 0 [t0, t1, t2]) m = X_impl_put_place [t0, t1, t2] m := by kernel_rfl
theorem okc_impl_put_place : CallOK CT cf_impl_put_place := cfc_ok ok_C_impl_put_esc (cfc_ok ok_C_impl_digits cfn_ok)
theorem ok_X_impl_put_place : OkX CT 48 X_impl_put_place := OkX.of_ex (cf := cf_impl_put_place) (np := 3) (LL := []) (J := (fun _ _ _ _ => none)) CT_ok rfl Tryd.func48 rfl (Nat.le_of_ble_eq_true rfl) (by decide) cok_impl_put_place okc_impl_put_place (fun k => noLoops rfl) (fun args m r h => match args, h with
  | [t0, t1, t2], h => ⟨rfl, (xe_impl_put_place t0 t1 t2 m).trans h⟩)
theorem ok_C_impl_put_place : OkC CT 48 C_impl_put_place := rcall_ok rfl ok_X_impl_put_place
noncomputable def cf_impl_Grid_at : CallF := cfn
noncomputable def X_impl_Grid_at : List Value → Mem → Option VM
 | [t0, t1, t2], m =>
  (nilX t0) |> bo fun t8 =>
  (fadX 2 t8) |> bo fun t9 =>
  (ld1 m t9) |> bo fun t10 =>
  (nilX t0) |> bo fun t13 =>
  (fadX 1 t13) |> bo fun t14 =>
  (ld1 m t14) |> bo fun t15 =>
  (binX .mul .no t1 t15) |> bo fun t16 =>
  (binX .add .no t16 t2) |> bo fun t18 =>
  (ixaX 2 t10 t18) |> bo fun t19 =>
  retK m.length m [t0, t1, t2] t19
 | _, _ => none
noncomputable def C_impl_Grid_at : List Value → Mem → Option VM := rcall X_impl_Grid_at
@[simp] theorem c_impl_Grid_at : C_impl_Grid_at = rcall X_impl_Grid_at := (rfl)
theorem cok_impl_Grid_at : codeOk CT Tryd.f49 (Tryd.f49.body.get rfl) = true := by kernel_rfl
theorem xe_impl_Grid_at (t0 t1 t2 : Value) (m : Mem) : ex CT cf_impl_Grid_at Tryd.f49 3 m.length [] (fun _ _ _ => none) 400 [.code (Tryd.f49.body.get rfl)] (argsT 0 [t0, t1, t2]) m = X_impl_Grid_at [t0, t1, t2] m := by kernel_rfl
theorem okc_impl_Grid_at : CallOK CT cf_impl_Grid_at := cfn_ok
theorem ok_X_impl_Grid_at : OkX CT 49 X_impl_Grid_at := OkX.of_ex (cf := cf_impl_Grid_at) (np := 3) (LL := []) (J := (fun _ _ _ _ => none)) CT_ok rfl Tryd.func49 rfl (Nat.le_of_ble_eq_true rfl) (by decide) cok_impl_Grid_at okc_impl_Grid_at (fun k => noLoops rfl) (fun args m r h => match args, h with
  | [t0, t1, t2], h => ⟨rfl, (xe_impl_Grid_at t0 t1 t2 m).trans h⟩)
theorem ok_C_impl_Grid_at : OkC CT 49 C_impl_Grid_at := rcall_ok rfl ok_X_impl_Grid_at
noncomputable def cf_impl_put_attr : CallF := cfc 73 C_impl_put_esc (cfc 74 C_impl_digits (cfc 75 C_impl_put_text cfn))
noncomputable def X_impl_put_attr : List Value → Mem → Option VM
 | [t0, t1], m =>
  (binX .rem .no t1 (.int .i64 8)) |> bo fun t6 =>
  (binX .add .no (.int .i64 30) t6) |> bo fun t7 =>
  (C_impl_digits [t7] m) |> bo fun r3 =>
  (binX .add .no (.string ⟨#[91, 48, 59]⟩) r3.1) |> bo fun t9 =>
  (C_impl_put_esc [t0, t9] r3.2) |> bo fun r5 =>
  (binX .and .no t1 (.int .i64 8)) |> bo fun t12 =>
  (binX .neq .no t12 (.int .i64 0)) |> bo fun t13 =>
  brX t13
   (
    (C_impl_put_text [t0, (.string ⟨#[59, 49]⟩)] r5.2) |> bo fun r8 =>
    (binX .and .no t1 (.int .i64 16)) |> bo fun t17 =>
    (binX .neq .no t17 (.int .i64 0)) |> bo fun t18 =>
    brX t18
     (
      (C_impl_put_text [t0, (.string ⟨#[59, 55]⟩)] r8.2) |> bo fun r11 =>
      (C_impl_put_text [t0, (.string ⟨#[109]⟩)] r11.2) |> bo fun r12 =>
      retK m.length r12.2 [t0, t1] (.tuple #[]))
     (
      (C_impl_put_text [t0, (.string ⟨#[109]⟩)] r8.2) |> bo fun r13 =>
      retK m.length r13.2 [t0, t1] (.tuple #[])))
   (
    (binX .and .no t1 (.int .i64 16)) |> bo fun t17 =>
    (binX .neq .no t17 (.int .i64 0)) |> bo fun t18 =>
    brX t18
     (
      (C_impl_put_text [t0, (.string ⟨#[59, 55]⟩)] r5.2) |> bo fun r16 =>
      (C_impl_put_text [t0, (.string ⟨#[109]⟩)] r16.2) |> bo fun r17 =>
      retK m.length r17.2 [t0, t1] (.tuple #[]))
     (
      (C_impl_put_text [t0, (.string ⟨#[109]⟩)] r5.2) |> bo fun r18 =>
      retK m.length r18.2 [t0, t1] (.tuple #[])))
 | _, _ => none
noncomputable def C_impl_put_attr : List Value → Mem → Option VM := rcall X_impl_put_attr
@[simp] theorem c_impl_put_attr : C_impl_put_attr = rcall X_impl_put_attr := (rfl)
theorem cok_impl_put_attr : codeOk CT Tryd.f50 (Tryd.f50.body.get rfl) = true := by kernel_rfl
theorem xe_impl_put_attr (t0 t1 : Value) (m : Mem) : ex CT cf_impl_put_attr Tryd.f50 2 m.length [] (fun _ _ _ => none) 400 [.code (Tryd.f50.body.get rfl)] (argsT 0 [t0, t1]) m = X_impl_put_attr [t0, t1] m := by kernel_rfl
theorem okc_impl_put_attr : CallOK CT cf_impl_put_attr := cfc_ok ok_C_impl_put_esc (cfc_ok ok_C_impl_digits (cfc_ok ok_C_impl_put_text cfn_ok))
theorem ok_X_impl_put_attr : OkX CT 50 X_impl_put_attr := OkX.of_ex (cf := cf_impl_put_attr) (np := 2) (LL := []) (J := (fun _ _ _ _ => none)) CT_ok rfl Tryd.func50 rfl (Nat.le_of_ble_eq_true rfl) (by decide) cok_impl_put_attr okc_impl_put_attr (fun k => noLoops rfl) (fun args m r h => match args, h with
  | [t0, t1], h => ⟨rfl, (xe_impl_put_attr t0 t1 m).trans h⟩)
theorem ok_C_impl_put_attr : OkC CT 50 C_impl_put_attr := rcall_ok rfl ok_X_impl_put_attr
noncomputable def cf_impl_encode : CallF := cfn
noncomputable def X_impl_encode : List Value → Mem → Option VM
 | [t0], m =>
  (binX .lss .no t0 (.int .i64 128)) |> bo fun t5 =>
  brX t5
   (
    (cvI .u8 t0) |> bo fun t7 =>
    (bslX m 1 1 [.int .u8 0] [(0, 1, t7)]) |> bo fun r3 =>
    retK m.length r3.2 [t0] r3.1)
   (
    (binX .lss .no t0 (.int .i64 2048)) |> bo fun t11 =>
    brX t11
     (
      (binX .shr .no t0 (.int .u64 6)) |> bo fun t13 =>
      (binX .add .no (.int .i64 192) t13) |> bo fun t14 =>
      (cvI .u8 t14) |> bo fun t15 =>
      (binX .and .no t0 (.int .i64 63)) |> bo fun t17 =>
      (binX .add .no (.int .i64 128) t17) |> bo fun t18 =>
      (cvI .u8 t18) |> bo fun t19 =>
      (bslX m 2 1 [.int .u8 0] [(0, 1, t15), (1, 1, t19)]) |> bo fun r11 =>
      retK m.length r11.2 [t0] r11.1)
     (
      (binX .shr .no t0 (.int .u64 12)) |> bo fun t22 =>
      (binX .add .no (.int .i64 224) t22) |> bo fun t23 =>
      (cvI .u8 t23) |> bo fun t24 =>
      (binX .shr .no t0 (.int .u64 6)) |> bo fun t26 =>
      (binX .and .no t26 (.int .i64 63)) |> bo fun t27 =>
      (binX .add .no (.int .i64 128) t27) |> bo fun t28 =>
      (cvI .u8 t28) |> bo fun t29 =>
      (binX .and .no t0 (.int .i64 63)) |> bo fun t31 =>
      (binX .add .no (.int .i64 128) t31) |> bo fun t32 =>
      (cvI .u8 t32) |> bo fun t33 =>
      (bslX m 3 1 [.int .u8 0] [(0, 1, t24), (1, 1, t29), (2, 1, t33)]) |> bo fun r22 =>
      retK m.length r22.2 [t0] r22.1))
 | _, _ => none
noncomputable def C_impl_encode : List Value → Mem → Option VM := fcall X_impl_encode
@[simp] theorem c_impl_encode : C_impl_encode = fcall X_impl_encode := (rfl)
theorem cok_impl_encode : codeOk CT Tryd.f76 (Tryd.f76.body.get rfl) = true := by kernel_rfl
theorem xe_impl_encode (t0 : Value) (m : Mem) : ex CT cf_impl_encode Tryd.f76 1 m.length [] (fun _ _ _ => none) 400 [.code (Tryd.f76.body.get rfl)] (argsT 0 [t0]) m = X_impl_encode [t0] m := by kernel_rfl
theorem okc_impl_encode : CallOK CT cf_impl_encode := cfn_ok
theorem ok_X_impl_encode : OkX CT 76 X_impl_encode := OkX.of_ex (cf := cf_impl_encode) (np := 1) (LL := []) (J := (fun _ _ _ _ => none)) CT_ok rfl Tryd.func76 rfl (Nat.le_of_ble_eq_true rfl) (by decide) cok_impl_encode okc_impl_encode (fun k => noLoops rfl) (fun args m r h => match args, h with
  | [t0], h => ⟨rfl, (xe_impl_encode t0 m).trans h⟩)
theorem ok_C_impl_encode : OkC CT 76 C_impl_encode := fcall_ok rfl ok_X_impl_encode
noncomputable def cf_impl_put_char : CallF := cfc 76 C_impl_encode cfn
noncomputable def X_impl_put_char : List Value → Mem → Option VM
 | [t0, t1], m =>
  (nilX t0) |> bo fun t6 =>
  (fadX 0 t6) |> bo fun t7 =>
  (ld1 m t7) |> bo fun t8 =>
  (C_impl_encode [t1] m) |> bo fun r4 =>
  (apL r4.2 1 1 t8 r4.1) |> bo fun r5 =>
  (nilX t0) |> bo fun t12 =>
  (fadX 0 t12) |> bo fun t13 =>
  (stX r5.2 1 t13 r5.1) |> bo fun m8 =>
  gP (stbL [((rdN t7), m, r4.2)])
   (
    retK m.length m8 [t0, t1] (.tuple #[]))
 | _, _ => none
noncomputable def C_impl_put_char : List Value → Mem → Option VM := rcall X_impl_put_char
@[simp] theorem c_impl_put_char : C_impl_put_char = rcall X_impl_put_char := (rfl)
theorem cok_impl_put_char : codeOk CT Tryd.f51 (Tryd.f51.body.get rfl) = true := by kernel_rfl
theorem xe_impl_put_char (t0 t1 : Value) (m : Mem) : ex CT cf_impl_put_char Tryd.f51 2 m.length [] (fun _ _ _ => none) 400 [.code (Tryd.f51.body.get rfl)] (argsT 0 [t0, t1]) m = X_impl_put_char [t0, t1] m := by kernel_rfl
theorem okc_impl_put_char : CallOK CT cf_impl_put_char := cfc_ok ok_C_impl_encode cfn_ok
theorem ok_X_impl_put_char : OkX CT 51 X_impl_put_char := OkX.of_ex (cf := cf_impl_put_char) (np := 2) (LL := []) (J := (fun _ _ _ _ => none)) CT_ok rfl Tryd.func51 rfl (Nat.le_of_ble_eq_true rfl) (by decide) cok_impl_put_char okc_impl_put_char (fun k => noLoops rfl) (fun args m r h => match args, h with
  | [t0, t1], h => ⟨rfl, (xe_impl_put_char t0 t1 m).trans h⟩)
theorem ok_C_impl_put_char : OkC CT 51 C_impl_put_char := rcall_ok rfl ok_X_impl_put_char
noncomputable def cf_impl_put_row : CallF := cfc 48 C_impl_put_place (cfc 49 C_impl_Grid_at (cfc 50 C_impl_put_attr (cfc 51 C_impl_put_char cfn)))
noncomputable def L_impl_put_row (k : Nat) : Nat → Nat → List Value → Mem → Option VM
 | q + 1, 0, [t0, t1, t2, t15, t16], m =>
  (binX .lss .no t16 t15) |> bo fun t17 =>
  brX t17
   (
    (nilX t1) |> bo fun t20 =>
    (fadX 0 t20) |> bo fun t21 =>
    (C_impl_Grid_at [t21, t2, t16] m) |> bo fun r4 =>
    (nilX r4.1) |> bo fun t25 =>
    (ldS r4.2 2 t25) |> bo fun t26 =>
    (alX r4.2 [.int .i64 0, .int .i64 0]) |> bo fun r7 =>
    (stX r7.2 2 r7.1 t26) |> bo fun m8 =>
    (binX .eql .no t16 (.int .i64 0)) |> bo fun t28 =>
    (gd t28 false ((fadX 1 r7.1) |> bo fun v => some (v, m8)) m8) |> bo fun r10 =>
    (gd t28 false ((ld1 r10.2 r10.1) |> bo fun v => some (v, r10.2)) r10.2) |> bo fun r11 =>
    (gd t28 false (some (t1, r11.2)) r11.2) |> bo fun r12 =>
    (gd t28 false ((nilX r12.1) |> bo fun v => some (v, r12.2)) r12.2) |> bo fun r13 =>
    (gd t28 false ((fadX 0 r13.1) |> bo fun v => some (v, r13.2)) r13.2) |> bo fun r14 =>
    (gd t28 false (some (t2, r14.2)) r14.2) |> bo fun r15 =>
    (gd t28 false (some (t16, r15.2)) r15.2) |> bo fun r16 =>
    (gd t28 false ((binX .sub .no r16.1 (.int .i64 1)) |> bo fun v => some (v, r16.2)) r16.2) |> bo fun r17 =>
    (gd t28 false ((C_impl_Grid_at [r14.1, r15.1, r17.1] r17.2) |> bo fun r => some (r.1, r.2)) r17.2) |> bo fun r18 =>
    (gd t28 false ((nilX r18.1) |> bo fun v => some (v, r18.2)) r18.2) |> bo fun r19 =>
    (gd t28 false ((fadX 1 r19.1) |> bo fun v => some (v, r19.2)) r19.2) |> bo fun r20 =>
    (gd t28 false ((ld1 r20.2 r20.1) |> bo fun v => some (v, r20.2)) r20.2) |> bo fun r21 =>
    (gd t28 false ((binX .neq .no r11.1 r21.1) |> bo fun v => some (v, r21.2)) r21.2) |> bo fun r22 =>
    (pickX t28 (.bool true) r22.1) |> bo fun t43 =>
    gP (stbL [((gdN t28 false (rdN r10.1)), r17.2, r18.2)])
     (
      brX t43
       (
        (fadX 1 r7.1) |> bo fun t45 =>
        (ld1 r22.2 t45) |> bo fun t46 =>
        (C_impl_put_attr [t0, t46] r22.2) |> bo fun r26 =>
        (fadX 0 r7.1) |> bo fun t49 =>
        (ld1 r26.2 t49) |> bo fun t50 =>
        (C_impl_put_char [t0, t50] r26.2) |> bo fun r29 =>
        (binX .add .no t16 (.int .i64 1)) |> bo fun t52 =>
        cutK k r29.2 [t0, t1, t2] [t0, t1, t2, t15, t52] (L_impl_put_row k q 0))
       (
        (fadX 0 r7.1) |> bo fun t49 =>
        (ld1 r22.2 t49) |> bo fun t50 =>
        (C_impl_put_char [t0, t50] r22.2) |> bo fun r33 =>
        (binX .add .no t16 (.int .i64 1)) |> bo fun t52 =>
        cutK k r33.2 [t0, t1, t2] [t0, t1, t2, t15, t52] (L_impl_put_row k q 0))))
   (
    retK k m [t0, t1, t2] (.tuple #[]))
 | _, _, _, _ => none
noncomputable def J_impl_put_row (k q l : Nat) : List Value → Mem → Option VM := cond (Nat.beq l 2) (L_impl_put_row k q 0) (fun _ _ => none)
def LL_impl_put_row : List (Nat × List Tmp) := [(2, [0, 1, 2, 15, 16])]
noncomputable def X_impl_put_row : List Value → Mem → Option VM
 | [t0, t1, t2], m =>
  (C_impl_put_place [t0, t2, (.int .i64 0)] m) |> bo fun r1 =>
  (nilX t1) |> bo fun t12 =>
  (fadX 0 t12) |> bo fun t13 =>
  (fadX 1 t13) |> bo fun t14 =>
  (ld1 r1.2 t14) |> bo fun t15 =>
  cutK m.length r1.2 [t0, t1, t2] [t0, t1, t2, t15, (.int .i64 0)] (L_impl_put_row m.length QQ 0)
 | _, _ => none
noncomputable def C_impl_put_row : List Value → Mem → Option VM := rcall X_impl_put_row
@[simp] theorem c_impl_put_row : C_impl_put_row = rcall X_impl_put_row := (rfl)
theorem cok_impl_put_row : codeOk CT Tryd.f24 (Tryd.f24.body.get rfl) = true := by kernel_rfl
theorem xe_impl_put_row (t0 t1 t2 : Value) (m : Mem) : ex CT cf_impl_put_row Tryd.f24 3 m.length LL_impl_put_row (J_impl_put_row m.length QQ) 400 [.code (Tryd.f24.body.get rfl)] (argsT 0 [t0, t1, t2]) m = X_impl_put_row [t0, t1, t2] m := by kernel_rfl
theorem okc_impl_put_row : CallOK CT cf_impl_put_row := cfc_ok ok_C_impl_put_place (cfc_ok ok_C_impl_Grid_at (cfc_ok ok_C_impl_put_attr (cfc_ok ok_C_impl_put_char cfn_ok)))
theorem le_impl_put_row_0 (k q : Nat) (t0 t1 t2 t15 t16 : Value) (m : Mem) : ex CT cf_impl_put_row Tryd.f24 3 k LL_impl_put_row (J_impl_put_row k q) 400 (atLoop Tryd.f24 0) [(0, t0), (1, t1), (2, t2), (15, t15), (16, t16)] m = J_impl_put_row k (q + 1) 2 [t0, t1, t2, t15, t16] m := by kernel_rfl
theorem gl_impl_put_row (k : Nat) : ∀ q i, i < 1 → GoodL CT k Tryd.f24 LL_impl_put_row (J_impl_put_row k q) (atLoop Tryd.f24 i)
 | 0, 0, _ => goodL_zero (l := 2) (by kernel_rfl) (fun vs m => by kernel_rfl)
 | 0, _ + 1, h => absurd h (by omega)
 | q + 1, 0, _ => goodL_succ (np := 3) (l := 2) (live := [0, 1, 2, 15, 16]) (n := 1) CT_ok rfl okc_impl_put_row (c := (Tryd.f24.body.get rfl)) rfl cok_impl_put_row (by kernel_rfl) (gl_impl_put_row k q) (by kernel_rfl) rfl (fun vs m r hl h => match vs, hl with
  | [t0, t1, t2, t15, t16], _ => (le_impl_put_row_0 k q t0 t1 t2 t15 t16 m).trans h)
 | _ + 1, _ + 1, h => absurd h (by omega)
theorem ok_X_impl_put_row : OkX CT 24 X_impl_put_row := OkX.of_ex (cf := cf_impl_put_row) (np := 3) (LL := LL_impl_put_row) (J := (fun k => J_impl_put_row k QQ)) CT_ok rfl Tryd.func24 rfl (Nat.le_of_ble_eq_true rfl) (by decide) cok_impl_put_row okc_impl_put_row (fun k => allLoops rfl (by kernel_rfl) (gl_impl_put_row k QQ)) (fun args m r h => match args, h with
  | [t0, t1, t2], h => ⟨rfl, (xe_impl_put_row t0 t1 t2 m).trans h⟩)
theorem ok_C_impl_put_row : OkC CT 24 C_impl_put_row := rcall_ok rfl ok_X_impl_put_row
noncomputable def cf_impl_RowBytes : CallF := cfc 22 C_impl_ScreenFault (cfc 23 C_impl_in (cfc 24 C_impl_put_row cfn))
noncomputable def X_impl_RowBytes : List Value → Mem → Option VM
 | [t0, t1], m =>
  (boxX m t0) |> bo fun r1 =>
  (alX r1.2 [.int .i64 0, .slice none 0 0]) |> bo fun r2 =>
  (ldS r2.2 20 r1.1) |> bo fun t7 =>
  (C_impl_ScreenFault [t7] r2.2) |> bo fun r4 =>
  (binX .neq .no r4.1 (.int .i64 0)) |> bo fun t10 =>
  brX t10
   (
    (bldX [.int .i64 0, .slice none 0 0] [(0, 1, r4.1)]) |> bo fun t12 =>
    (stX r4.2 2 r2.1 t12) |> bo fun m7 =>
    (resP (some 2) m7 r2.1) |> bo fun c8 =>
    retK m.length m7 [t0, t1] c8)
   (
    (fadX 0 r1.1) |> bo fun t14 =>
    (fadX 0 t14) |> bo fun t15 =>
    (ld1 r4.2 t15) |> bo fun t16 =>
    (binX .sub .no t16 (.int .i64 1)) |> bo fun t17 =>
    (C_impl_in [t1, (.int .i64 0), t17] r4.2) |> bo fun r13 =>
    (uop .not r13.1) |> bo fun t19 =>
    brX t19
     (
      (bldX [.int .i64 0, .slice none 0 0] [(0, 1, (.int .i64 3))]) |> bo fun t20 =>
      (stX r13.2 2 r2.1 t20) |> bo fun m16 =>
      (resP (some 2) m16 r2.1) |> bo fun c17 =>
      retK m.length m16 [t0, t1] c17)
     (
      (bldX [.slice none 0 0] []) |> bo fun t21 =>
      (alX r13.2 [.slice none 0 0]) |> bo fun r19 =>
      (stX r19.2 1 r19.1 t21) |> bo fun m20 =>
      (C_impl_put_row [r19.1, r1.1, t1] m20) |> bo fun r21 =>
      (fadX 0 r19.1) |> bo fun t24 =>
      (ld1 r21.2 t24) |> bo fun t25 =>
      (bldX [.int .i64 0, .slice none 0 0] [(0, 1, (.int .i64 0)), (1, 1, t25)]) |> bo fun t26 =>
      (stX r21.2 2 r2.1 t26) |> bo fun m25 =>
      (resP (some 2) m25 r2.1) |> bo fun c26 =>
      retK m.length m25 [t0, t1] c26))
 | _, _ => none
noncomputable def C_impl_RowBytes : List Value → Mem → Option VM := fcall X_impl_RowBytes
@[simp] theorem c_impl_RowBytes : C_impl_RowBytes = fcall X_impl_RowBytes := (rfl)
theorem cok_impl_RowBytes : codeOk CT Tryd.f7 (Tryd.f7.body.get rfl) = true := by kernel_rfl
theorem xe_impl_RowBytes (t0 t1 : Value) (m : Mem) : ex CT cf_impl_RowBytes Tryd.f7 2 m.length [] (fun _ _ _ => none) 400 [.code (Tryd.f7.body.get rfl)] (argsT 0 [t0, t1]) m = X_impl_RowBytes [t0, t1] m := by kernel_rfl
theorem okc_impl_RowBytes : CallOK CT cf_impl_RowBytes := cfc_ok ok_C_impl_ScreenFault (cfc_ok ok_C_impl_in (cfc_ok ok_C_impl_put_row cfn_ok))
theorem ok_X_impl_RowBytes : OkX CT 7 X_impl_RowBytes := OkX.of_ex (cf := cf_impl_RowBytes) (np := 2) (LL := []) (J := (fun _ _ _ _ => none)) CT_ok rfl Tryd.func7 rfl (Nat.le_of_ble_eq_true rfl) (by decide) cok_impl_RowBytes okc_impl_RowBytes (fun k => noLoops rfl) (fun args m r h => match args, h with
  | [t0, t1], h => ⟨rfl, (xe_impl_RowBytes t0 t1 m).trans h⟩)
theorem ok_C_impl_RowBytes : OkC CT 7 C_impl_RowBytes := fcall_ok rfl ok_X_impl_RowBytes
noncomputable def cf_laws_eqByteS : CallF := cfn
noncomputable def L_laws_eqByteS (k : Nat) : Nat → Nat → List Value → Mem → Option VM
 | q + 1, 0, [t0, t1, t5], m =>
  (lenX t0) |> bo fun t13 =>
  (binX .lss .no t5 t13) |> bo fun t14 =>
  brX t14
   (
    (ixaX 1 t0 t5) |> bo fun t19 =>
    (ld1 m t19) |> bo fun t20 =>
    (ixaX 1 t1 t5) |> bo fun t23 =>
    (ld1 m t23) |> bo fun t24 =>
    (binX .neq .no t20 t24) |> bo fun t25 =>
    brX t25
     (
      retK k m [t0, t1] (.bool false))
     (
      (binX .add .no t5 (.int .i64 1)) |> bo fun t16 =>
      cutK k m [t0, t1] [t0, t1, t16] (L_laws_eqByteS k q 0)))
   (
    retK k m [t0, t1] (.bool true))
 | _, _, _, _ => none
noncomputable def J_laws_eqByteS (k q l : Nat) : List Value → Mem → Option VM := cond (Nat.beq l 4) (L_laws_eqByteS k q 0) (fun _ _ => none)
def LL_laws_eqByteS : List (Nat × List Tmp) := [(4, [0, 1, 5])]
noncomputable def X_laws_eqByteS : List Value → Mem → Option VM
 | [t0, t1], m =>
  (lenX t0) |> bo fun t7 =>
  (lenX t1) |> bo fun t9 =>
  (binX .neq .no t7 t9) |> bo fun t10 =>
  brX t10
   (
    retK m.length m [t0, t1] (.bool false))
   (
    cutK m.length m [t0, t1] [t0, t1, (.int .i64 0)] (L_laws_eqByteS m.length QQ 0))
 | _, _ => none
noncomputable def C_laws_eqByteS : List Value → Mem → Option VM := fcall X_laws_eqByteS
@[simp] theorem c_laws_eqByteS : C_laws_eqByteS = fcall X_laws_eqByteS := (rfl)
theorem cok_laws_eqByteS : codeOk CT Tryd.f25 (Tryd.f25.body.get rfl) = true := by kernel_rfl
theorem xe_laws_eqByteS (t0 t1 : Value) (m : Mem) : ex CT cf_laws_eqByteS Tryd.f25 2 m.length LL_laws_eqByteS (J_laws_eqByteS m.length QQ) 400 [.code (Tryd.f25.body.get rfl)] (argsT 0 [t0, t1]) m = X_laws_eqByteS [t0, t1] m := by kernel_rfl
theorem okc_laws_eqByteS : CallOK CT cf_laws_eqByteS := cfn_ok
theorem le_laws_eqByteS_0 (k q : Nat) (t0 t1 t5 : Value) (m : Mem) : ex CT cf_laws_eqByteS Tryd.f25 2 k LL_laws_eqByteS (J_laws_eqByteS k q) 400 (atLoop Tryd.f25 0) [(0, t0), (1, t1), (5, t5)] m = J_laws_eqByteS k (q + 1) 4 [t0, t1, t5] m := by kernel_rfl
theorem gl_laws_eqByteS (k : Nat) : ∀ q i, i < 1 → GoodL CT k Tryd.f25 LL_laws_eqByteS (J_laws_eqByteS k q) (atLoop Tryd.f25 i)
 | 0, 0, _ => goodL_zero (l := 4) (by kernel_rfl) (fun vs m => by kernel_rfl)
 | 0, _ + 1, h => absurd h (by omega)
 | q + 1, 0, _ => goodL_succ (np := 2) (l := 4) (live := [0, 1, 5]) (n := 1) CT_ok rfl okc_laws_eqByteS (c := (Tryd.f25.body.get rfl)) rfl cok_laws_eqByteS (by kernel_rfl) (gl_laws_eqByteS k q) (by kernel_rfl) rfl (fun vs m r hl h => match vs, hl with
  | [t0, t1, t5], _ => (le_laws_eqByteS_0 k q t0 t1 t5 m).trans h)
 | _ + 1, _ + 1, h => absurd h (by omega)
theorem ok_X_laws_eqByteS : OkX CT 25 X_laws_eqByteS := OkX.of_ex (cf := cf_laws_eqByteS) (np := 2) (LL := LL_laws_eqByteS) (J := (fun k => J_laws_eqByteS k QQ)) CT_ok rfl Tryd.func25 rfl (Nat.le_of_ble_eq_true rfl) (by decide) cok_laws_eqByteS okc_laws_eqByteS (fun k => allLoops rfl (by kernel_rfl) (gl_laws_eqByteS k QQ)) (fun args m r h => match args, h with
  | [t0, t1], h => ⟨rfl, (xe_laws_eqByteS t0 t1 m).trans h⟩)
theorem ok_C_laws_eqByteS : OkC CT 25 C_laws_eqByteS := fcall_ok rfl ok_X_laws_eqByteS
noncomputable def cf_laws_eqBytesResult : CallF := cfc 25 C_laws_eqByteS cfn
noncomputable def X_laws_eqBytesResult : List Value → Mem → Option VM
 | [t0, t1], m =>
  (boxX m t0) |> bo fun r1 =>
  (boxX r1.2 t1) |> bo fun r2 =>
  (fadX 0 r1.1) |> bo fun t5 =>
  (ld1 r2.2 t5) |> bo fun t6 =>
  (fadX 0 r2.1) |> bo fun t7 =>
  (ld1 r2.2 t7) |> bo fun t8 =>
  (binX .neq .no t6 t8) |> bo fun t9 =>
  brX t9
   (
    retK m.length r2.2 [t0, t1] (.bool false))
   (
    (fadX 1 r1.1) |> bo fun t10 =>
    (ld1 r2.2 t10) |> bo fun t11 =>
    (fadX 1 r2.1) |> bo fun t12 =>
    (ld1 r2.2 t12) |> bo fun t13 =>
    (C_laws_eqByteS [t11, t13] r2.2) |> bo fun r12 =>
    (uop .not r12.1) |> bo fun t15 =>
    brX t15
     (
      retK m.length r12.2 [t0, t1] (.bool false))
     (
      retK m.length r12.2 [t0, t1] (.bool true)))
 | _, _ => none
noncomputable def C_laws_eqBytesResult : List Value → Mem → Option VM := fcall X_laws_eqBytesResult
@[simp] theorem c_laws_eqBytesResult : C_laws_eqBytesResult = fcall X_laws_eqBytesResult := (rfl)
theorem cok_laws_eqBytesResult : codeOk CT Tryd.f8 (Tryd.f8.body.get rfl) = true := by kernel_rfl
theorem xe_laws_eqBytesResult (t0 t1 : Value) (m : Mem) : ex CT cf_laws_eqBytesResult Tryd.f8 2 m.length [] (fun _ _ _ => none) 400 [.code (Tryd.f8.body.get rfl)] (argsT 0 [t0, t1]) m = X_laws_eqBytesResult [t0, t1] m := by kernel_rfl
theorem okc_laws_eqBytesResult : CallOK CT cf_laws_eqBytesResult := cfc_ok ok_C_laws_eqByteS cfn_ok
theorem ok_X_laws_eqBytesResult : OkX CT 8 X_laws_eqBytesResult := OkX.of_ex (cf := cf_laws_eqBytesResult) (np := 2) (LL := []) (J := (fun _ _ _ _ => none)) CT_ok rfl Tryd.func8 rfl (Nat.le_of_ble_eq_true rfl) (by decide) cok_laws_eqBytesResult okc_laws_eqBytesResult (fun k => noLoops rfl) (fun args m r h => match args, h with
  | [t0, t1], h => ⟨rfl, (xe_laws_eqBytesResult t0 t1 m).trans h⟩)
theorem ok_C_laws_eqBytesResult : OkC CT 8 C_laws_eqBytesResult := fcall_ok rfl ok_X_laws_eqBytesResult
noncomputable def cf_laws_eqCell : CallF := cfn
noncomputable def X_laws_eqCell : List Value → Mem → Option VM
 | [t0, t1], m =>
  (boxX m t0) |> bo fun r1 =>
  (boxX r1.2 t1) |> bo fun r2 =>
  (fadX 0 r1.1) |> bo fun t5 =>
  (ld1 r2.2 t5) |> bo fun t6 =>
  (fadX 0 r2.1) |> bo fun t7 =>
  (ld1 r2.2 t7) |> bo fun t8 =>
  (binX .neq .no t6 t8) |> bo fun t9 =>
  brX t9
   (
    retK m.length r2.2 [t0, t1] (.bool false))
   (
    (fadX 1 r1.1) |> bo fun t10 =>
    (ld1 r2.2 t10) |> bo fun t11 =>
    (fadX 1 r2.1) |> bo fun t12 =>
    (ld1 r2.2 t12) |> bo fun t13 =>
    (binX .neq .no t11 t13) |> bo fun t14 =>
    brX t14
     (
      retK m.length r2.2 [t0, t1] (.bool false))
     (
      retK m.length r2.2 [t0, t1] (.bool true)))
 | _, _ => none
noncomputable def C_laws_eqCell : List Value → Mem → Option VM := fcall X_laws_eqCell
@[simp] theorem c_laws_eqCell : C_laws_eqCell = fcall X_laws_eqCell := (rfl)
theorem cok_laws_eqCell : codeOk CT Tryd.f77 (Tryd.f77.body.get rfl) = true := by kernel_rfl
theorem xe_laws_eqCell (t0 t1 : Value) (m : Mem) : ex CT cf_laws_eqCell Tryd.f77 2 m.length [] (fun _ _ _ => none) 400 [.code (Tryd.f77.body.get rfl)] (argsT 0 [t0, t1]) m = X_laws_eqCell [t0, t1] m := by kernel_rfl
theorem okc_laws_eqCell : CallOK CT cf_laws_eqCell := cfn_ok
theorem ok_X_laws_eqCell : OkX CT 77 X_laws_eqCell := OkX.of_ex (cf := cf_laws_eqCell) (np := 2) (LL := []) (J := (fun _ _ _ _ => none)) CT_ok rfl Tryd.func77 rfl (Nat.le_of_ble_eq_true rfl) (by decide) cok_laws_eqCell okc_laws_eqCell (fun k => noLoops rfl) (fun args m r h => match args, h with
  | [t0, t1], h => ⟨rfl, (xe_laws_eqCell t0 t1 m).trans h⟩)
theorem ok_C_laws_eqCell : OkC CT 77 C_laws_eqCell := fcall_ok rfl ok_X_laws_eqCell
noncomputable def cf_laws_eqCellS : CallF := cfc 77 C_laws_eqCell cfn
noncomputable def L_laws_eqCellS (k : Nat) : Nat → Nat → List Value → Mem → Option VM
 | q + 1, 0, [t0, t1, t5], m =>
  (lenX t0) |> bo fun t13 =>
  (binX .lss .no t5 t13) |> bo fun t14 =>
  brX t14
   (
    (ixaX 2 t0 t5) |> bo fun t19 =>
    (ldS m 2 t19) |> bo fun t20 =>
    (ixaX 2 t1 t5) |> bo fun t23 =>
    (ldS m 2 t23) |> bo fun t24 =>
    (C_laws_eqCell [t20, t24] m) |> bo fun r7 =>
    (uop .not r7.1) |> bo fun t26 =>
    brX t26
     (
      retK k r7.2 [t0, t1] (.bool false))
     (
      (binX .add .no t5 (.int .i64 1)) |> bo fun t16 =>
      cutK k r7.2 [t0, t1] [t0, t1, t16] (L_laws_eqCellS k q 0)))
   (
    retK k m [t0, t1] (.bool true))
 | _, _, _, _ => none
noncomputable def J_laws_eqCellS (k q l : Nat) : List Value → Mem → Option VM := cond (Nat.beq l 4) (L_laws_eqCellS k q 0) (fun _ _ => none)
def LL_laws_eqCellS : List (Nat × List Tmp) := [(4, [0, 1, 5])]
noncomputable def X_laws_eqCellS : List Value → Mem → Option VM
 | [t0, t1], m =>
  (lenX t0) |> bo fun t7 =>
  (lenX t1) |> bo fun t9 =>
  (binX .neq .no t7 t9) |> bo fun t10 =>
  brX t10
   (
    retK m.length m [t0, t1] (.bool false))
   (
    cutK m.length m [t0, t1] [t0, t1, (.int .i64 0)] (L_laws_eqCellS m.length QQ 0))
 | _, _ => none
noncomputable def C_laws_eqCellS : List Value → Mem → Option VM := fcall X_laws_eqCellS
@[simp] theorem c_laws_eqCellS : C_laws_eqCellS = fcall X_laws_eqCellS := (rfl)
theorem cok_laws_eqCellS : codeOk CT Tryd.f52 (Tryd.f52.body.get rfl) = true := by kernel_rfl
theorem xe_laws_eqCellS (t0 t1 : Value) (m : Mem) : ex CT cf_laws_eqCellS Tryd.f52 2 m.length LL_laws_eqCellS (J_laws_eqCellS m.length QQ) 400 [.code (Tryd.f52.body.get rfl)] (argsT 0 [t0, t1]) m = X_laws_eqCellS [t0, t1] m := by kernel_rfl
theorem okc_laws_eqCellS : CallOK CT cf_laws_eqCellS := cfc_ok ok_C_laws_eqCell cfn_ok
theorem le_laws_eqCellS_0 (k q : Nat) (t0 t1 t5 : Value) (m : Mem) : ex CT cf_laws_eqCellS Tryd.f52 2 k LL_laws_eqCellS (J_laws_eqCellS k q) 400 (atLoop Tryd.f52 0) [(0, t0), (1, t1), (5, t5)] m = J_laws_eqCellS k (q + 1) 4 [t0, t1, t5] m := by kernel_rfl
theorem gl_laws_eqCellS (k : Nat) : ∀ q i, i < 1 → GoodL CT k Tryd.f52 LL_laws_eqCellS (J_laws_eqCellS k q) (atLoop Tryd.f52 i)
 | 0, 0, _ => goodL_zero (l := 4) (by kernel_rfl) (fun vs m => by kernel_rfl)
 | 0, _ + 1, h => absurd h (by omega)
 | q + 1, 0, _ => goodL_succ (np := 2) (l := 4) (live := [0, 1, 5]) (n := 1) CT_ok rfl okc_laws_eqCellS (c := (Tryd.f52.body.get rfl)) rfl cok_laws_eqCellS (by kernel_rfl) (gl_laws_eqCellS k q) (by kernel_rfl) rfl (fun vs m r hl h => match vs, hl with
  | [t0, t1, t5], _ => (le_laws_eqCellS_0 k q t0 t1 t5 m).trans h)
 | _ + 1, _ + 1, h => absurd h (by omega)
theorem ok_X_laws_eqCellS : OkX CT 52 X_laws_eqCellS := OkX.of_ex (cf := cf_laws_eqCellS) (np := 2) (LL := LL_laws_eqCellS) (J := (fun k => J_laws_eqCellS k QQ)) CT_ok rfl Tryd.func52 rfl (Nat.le_of_ble_eq_true rfl) (by decide) cok_laws_eqCellS okc_laws_eqCellS (fun k => allLoops rfl (by kernel_rfl) (gl_laws_eqCellS k QQ)) (fun args m r h => match args, h with
  | [t0, t1], h => ⟨rfl, (xe_laws_eqCellS t0 t1 m).trans h⟩)
theorem ok_C_laws_eqCellS : OkC CT 52 C_laws_eqCellS := fcall_ok rfl ok_X_laws_eqCellS
noncomputable def cf_laws_eqGrid : CallF := cfc 52 C_laws_eqCellS cfn
noncomputable def X_laws_eqGrid : List Value → Mem → Option VM
 | [t0, t1], m =>
  (boxX m t0) |> bo fun r1 =>
  (boxX r1.2 t1) |> bo fun r2 =>
  (fadX 0 r1.1) |> bo fun t5 =>
  (ld1 r2.2 t5) |> bo fun t6 =>
  (fadX 0 r2.1) |> bo fun t7 =>
  (ld1 r2.2 t7) |> bo fun t8 =>
  (binX .neq .no t6 t8) |> bo fun t9 =>
  brX t9
   (
    retK m.length r2.2 [t0, t1] (.bool false))
   (
    (fadX 1 r1.1) |> bo fun t10 =>
    (ld1 r2.2 t10) |> bo fun t11 =>
    (fadX 1 r2.1) |> bo fun t12 =>
    (ld1 r2.2 t12) |> bo fun t13 =>
    (binX .neq .no t11 t13) |> bo fun t14 =>
    brX t14
     (
      retK m.length r2.2 [t0, t1] (.bool false))
     (
      (fadX 2 r1.1) |> bo fun t15 =>
      (ld1 r2.2 t15) |> bo fun t16 =>
      (fadX 2 r2.1) |> bo fun t17 =>
      (ld1 r2.2 t17) |> bo fun t18 =>
      (C_laws_eqCellS [t16, t18] r2.2) |> bo fun r17 =>
      (uop .not r17.1) |> bo fun t20 =>
      brX t20
       (
        retK m.length r17.2 [t0, t1] (.bool false))
       (
        (fadX 3 r1.1) |> bo fun t21 =>
        (ld1 r17.2 t21) |> bo fun t22 =>
        (fadX 3 r2.1) |> bo fun t23 =>
        (ld1 r17.2 t23) |> bo fun t24 =>
        (C_laws_eqCellS [t22, t24] r17.2) |> bo fun r23 =>
        (uop .not r23.1) |> bo fun t26 =>
        brX t26
         (
          retK m.length r23.2 [t0, t1] (.bool false))
         (
          retK m.length r23.2 [t0, t1] (.bool true)))))
 | _, _ => none
noncomputable def C_laws_eqGrid : List Value → Mem → Option VM := fcall X_laws_eqGrid
@[simp] theorem c_laws_eqGrid : C_laws_eqGrid = fcall X_laws_eqGrid := (rfl)
theorem cok_laws_eqGrid : codeOk CT Tryd.f26 (Tryd.f26.body.get rfl) = true := by kernel_rfl
theorem xe_laws_eqGrid (t0 t1 : Value) (m : Mem) : ex CT cf_laws_eqGrid Tryd.f26 2 m.length [] (fun _ _ _ => none) 400 [.code (Tryd.f26.body.get rfl)] (argsT 0 [t0, t1]) m = X_laws_eqGrid [t0, t1] m := by kernel_rfl
theorem okc_laws_eqGrid : CallOK CT cf_laws_eqGrid := cfc_ok ok_C_laws_eqCellS cfn_ok
theorem ok_X_laws_eqGrid : OkX CT 26 X_laws_eqGrid := OkX.of_ex (cf := cf_laws_eqGrid) (np := 2) (LL := []) (J := (fun _ _ _ _ => none)) CT_ok rfl Tryd.func26 rfl (Nat.le_of_ble_eq_true rfl) (by decide) cok_laws_eqGrid okc_laws_eqGrid (fun k => noLoops rfl) (fun args m r h => match args, h with
  | [t0, t1], h => ⟨rfl, (xe_laws_eqGrid t0 t1 m).trans h⟩)
theorem ok_C_laws_eqGrid : OkC CT 26 C_laws_eqGrid := fcall_ok rfl ok_X_laws_eqGrid
noncomputable def cf_laws_eqBoolS : CallF := cfn
noncomputable def L_laws_eqBoolS (k : Nat) : Nat → Nat → List Value → Mem → Option VM
 | q + 1, 0, [t0, t1, t5], m =>
  (lenX t0) |> bo fun t13 =>
  (binX .lss .no t5 t13) |> bo fun t14 =>
  brX t14
   (
    (ixaX 1 t0 t5) |> bo fun t19 =>
    (ld1 m t19) |> bo fun t20 =>
    (ixaX 1 t1 t5) |> bo fun t23 =>
    (ld1 m t23) |> bo fun t24 =>
    (binX .neq .bool t20 t24) |> bo fun t25 =>
    brX t25
     (
      retK k m [t0, t1] (.bool false))
     (
      (binX .add .no t5 (.int .i64 1)) |> bo fun t16 =>
      cutK k m [t0, t1] [t0, t1, t16] (L_laws_eqBoolS k q 0)))
   (
    retK k m [t0, t1] (.bool true))
 | _, _, _, _ => none
noncomputable def J_laws_eqBoolS (k q l : Nat) : List Value → Mem → Option VM := cond (Nat.beq l 4) (L_laws_eqBoolS k q 0) (fun _ _ => none)
def LL_laws_eqBoolS : List (Nat × List Tmp) := [(4, [0, 1, 5])]
noncomputable def X_laws_eqBoolS : List Value → Mem → Option VM
 | [t0, t1], m =>
  (lenX t0) |> bo fun t7 =>
  (lenX t1) |> bo fun t9 =>
  (binX .neq .no t7 t9) |> bo fun t10 =>
  brX t10
   (
    retK m.length m [t0, t1] (.bool false))
   (
    cutK m.length m [t0, t1] [t0, t1, (.int .i64 0)] (L_laws_eqBoolS m.length QQ 0))
 | _, _ => none
noncomputable def C_laws_eqBoolS : List Value → Mem → Option VM := fcall X_laws_eqBoolS
@[simp] theorem c_laws_eqBoolS : C_laws_eqBoolS = fcall X_laws_eqBoolS := (rfl)
theorem cok_laws_eqBoolS : codeOk CT Tryd.f27 (Tryd.f27.body.get rfl) = true := by kernel_rfl
theorem xe_laws_eqBoolS (t0 t1 : Value) (m : Mem) : ex CT cf_laws_eqBoolS Tryd.f27 2 m.length LL_laws_eqBoolS (J_laws_eqBoolS m.length QQ) 400 [.code (Tryd.f27.body.get rfl)] (argsT 0 [t0, t1]) m = X_laws_eqBoolS [t0, t1] m := by kernel_rfl
theorem okc_laws_eqBoolS : CallOK CT cf_laws_eqBoolS := cfn_ok
theorem le_laws_eqBoolS_0 (k q : Nat) (t0 t1 t5 : Value) (m : Mem) : ex CT cf_laws_eqBoolS Tryd.f27 2 k LL_laws_eqBoolS (J_laws_eqBoolS k q) 400 (atLoop Tryd.f27 0) [(0, t0), (1, t1), (5, t5)] m = J_laws_eqBoolS k (q + 1) 4 [t0, t1, t5] m := by kernel_rfl
theorem gl_laws_eqBoolS (k : Nat) : ∀ q i, i < 1 → GoodL CT k Tryd.f27 LL_laws_eqBoolS (J_laws_eqBoolS k q) (atLoop Tryd.f27 i)
 | 0, 0, _ => goodL_zero (l := 4) (by kernel_rfl) (fun vs m => by kernel_rfl)
 | 0, _ + 1, h => absurd h (by omega)
 | q + 1, 0, _ => goodL_succ (np := 2) (l := 4) (live := [0, 1, 5]) (n := 1) CT_ok rfl okc_laws_eqBoolS (c := (Tryd.f27.body.get rfl)) rfl cok_laws_eqBoolS (by kernel_rfl) (gl_laws_eqBoolS k q) (by kernel_rfl) rfl (fun vs m r hl h => match vs, hl with
  | [t0, t1, t5], _ => (le_laws_eqBoolS_0 k q t0 t1 t5 m).trans h)
 | _ + 1, _ + 1, h => absurd h (by omega)
theorem ok_X_laws_eqBoolS : OkX CT 27 X_laws_eqBoolS := OkX.of_ex (cf := cf_laws_eqBoolS) (np := 2) (LL := LL_laws_eqBoolS) (J := (fun k => J_laws_eqBoolS k QQ)) CT_ok rfl Tryd.func27 rfl (Nat.le_of_ble_eq_true rfl) (by decide) cok_laws_eqBoolS okc_laws_eqBoolS (fun k => allLoops rfl (by kernel_rfl) (gl_laws_eqBoolS k QQ)) (fun args m r h => match args, h with
  | [t0, t1], h => ⟨rfl, (xe_laws_eqBoolS t0 t1 m).trans h⟩)
theorem ok_C_laws_eqBoolS : OkC CT 27 C_laws_eqBoolS := fcall_ok rfl ok_X_laws_eqBoolS
noncomputable def cf_laws_eqInt64S : CallF := cfn
noncomputable def L_laws_eqInt64S (k : Nat) : Nat → Nat → List Value → Mem → Option VM
 | q + 1, 0, [t0, t1, t5], m =>
  (lenX t0) |> bo fun t13 =>
  (binX .lss .no t5 t13) |> bo fun t14 =>
  brX t14
   (
    (ixaX 1 t0 t5) |> bo fun t19 =>
    (ld1 m t19) |> bo fun t20 =>
    (ixaX 1 t1 t5) |> bo fun t23 =>
    (ld1 m t23) |> bo fun t24 =>
    (binX .neq .no t20 t24) |> bo fun t25 =>
    brX t25
     (
      retK k m [t0, t1] (.bool false))
     (
      (binX .add .no t5 (.int .i64 1)) |> bo fun t16 =>
      cutK k m [t0, t1] [t0, t1, t16] (L_laws_eqInt64S k q 0)))
   (
    retK k m [t0, t1] (.bool true))
 | _, _, _, _ => none
noncomputable def J_laws_eqInt64S (k q l : Nat) : List Value → Mem → Option VM := cond (Nat.beq l 4) (L_laws_eqInt64S k q 0) (fun _ _ => none)
def LL_laws_eqInt64S : List (Nat × List Tmp) := [(4, [0, 1, 5])]
noncomputable def X_laws_eqInt64S : List Value → Mem → Option VM
 | [t0, t1], m =>
  (lenX t0) |> bo fun t7 =>
  (lenX t1) |> bo fun t9 =>
  (binX .neq .no t7 t9) |> bo fun t10 =>
  brX t10
   (
    retK m.length m [t0, t1] (.bool false))
   (
    cutK m.length m [t0, t1] [t0, t1, (.int .i64 0)] (L_laws_eqInt64S m.length QQ 0))
 | _, _ => none
noncomputable def C_laws_eqInt64S : List Value → Mem → Option VM := fcall X_laws_eqInt64S
@[simp] theorem c_laws_eqInt64S : C_laws_eqInt64S = fcall X_laws_eqInt64S := (rfl)
theorem cok_laws_eqInt64S : codeOk CT Tryd.f28 (Tryd.f28.body.get rfl) = true := by kernel_rfl
theorem xe_laws_eqInt64S (t0 t1 : Value) (m : Mem) : ex CT cf_laws_eqInt64S Tryd.f28 2 m.length LL_laws_eqInt64S (J_laws_eqInt64S m.length QQ) 400 [.code (Tryd.f28.body.get rfl)] (argsT 0 [t0, t1]) m = X_laws_eqInt64S [t0, t1] m := by kernel_rfl
theorem okc_laws_eqInt64S : CallOK CT cf_laws_eqInt64S := cfn_ok
theorem le_laws_eqInt64S_0 (k q : Nat) (t0 t1 t5 : Value) (m : Mem) : ex CT cf_laws_eqInt64S Tryd.f28 2 k LL_laws_eqInt64S (J_laws_eqInt64S k q) 400 (atLoop Tryd.f28 0) [(0, t0), (1, t1), (5, t5)] m = J_laws_eqInt64S k (q + 1) 4 [t0, t1, t5] m := by kernel_rfl
theorem gl_laws_eqInt64S (k : Nat) : ∀ q i, i < 1 → GoodL CT k Tryd.f28 LL_laws_eqInt64S (J_laws_eqInt64S k q) (atLoop Tryd.f28 i)
 | 0, 0, _ => goodL_zero (l := 4) (by kernel_rfl) (fun vs m => by kernel_rfl)
 | 0, _ + 1, h => absurd h (by omega)
 | q + 1, 0, _ => goodL_succ (np := 2) (l := 4) (live := [0, 1, 5]) (n := 1) CT_ok rfl okc_laws_eqInt64S (c := (Tryd.f28.body.get rfl)) rfl cok_laws_eqInt64S (by kernel_rfl) (gl_laws_eqInt64S k q) (by kernel_rfl) rfl (fun vs m r hl h => match vs, hl with
  | [t0, t1, t5], _ => (le_laws_eqInt64S_0 k q t0 t1 t5 m).trans h)
 | _ + 1, _ + 1, h => absurd h (by omega)
theorem ok_X_laws_eqInt64S : OkX CT 28 X_laws_eqInt64S := OkX.of_ex (cf := cf_laws_eqInt64S) (np := 2) (LL := LL_laws_eqInt64S) (J := (fun k => J_laws_eqInt64S k QQ)) CT_ok rfl Tryd.func28 rfl (Nat.le_of_ble_eq_true rfl) (by decide) cok_laws_eqInt64S okc_laws_eqInt64S (fun k => allLoops rfl (by kernel_rfl) (gl_laws_eqInt64S k QQ)) (fun args m r h => match args, h with
  | [t0, t1], h => ⟨rfl, (xe_laws_eqInt64S t0 t1 m).trans h⟩)
theorem ok_C_laws_eqInt64S : OkC CT 28 C_laws_eqInt64S := fcall_ok rfl ok_X_laws_eqInt64S
noncomputable def cf_laws_eqScreen : CallF := cfc 26 C_laws_eqGrid (cfc 27 C_laws_eqBoolS (cfc 28 C_laws_eqInt64S cfn))
noncomputable def X_laws_eqScreen : List Value → Mem → Option VM
 | [t0, t1], m =>
  (boxX m t0) |> bo fun r1 =>
  (boxX r1.2 t1) |> bo fun r2 =>
  (fadX 0 r1.1) |> bo fun t5 =>
  (ldS r2.2 4 t5) |> bo fun t6 =>
  (fadX 0 r2.1) |> bo fun t7 =>
  (ldS r2.2 4 t7) |> bo fun t8 =>
  (C_laws_eqGrid [t6, t8] r2.2) |> bo fun r7 =>
  (uop .not r7.1) |> bo fun t10 =>
  brX t10
   (
    retK m.length r7.2 [t0, t1] (.bool false))
   (
    (fadX 4 r1.1) |> bo fun t11 =>
    (ld1 r7.2 t11) |> bo fun t12 =>
    (fadX 4 r2.1) |> bo fun t13 =>
    (ld1 r7.2 t13) |> bo fun t14 =>
    (binX .neq .no t12 t14) |> bo fun t15 =>
    brX t15
     (
      retK m.length r7.2 [t0, t1] (.bool false))
     (
      (fadX 5 r1.1) |> bo fun t16 =>
      (ld1 r7.2 t16) |> bo fun t17 =>
      (fadX 5 r2.1) |> bo fun t18 =>
      (ld1 r7.2 t18) |> bo fun t19 =>
      (binX .neq .no t17 t19) |> bo fun t20 =>
      brX t20
       (
        retK m.length r7.2 [t0, t1] (.bool false))
       (
        (fadX 6 r1.1) |> bo fun t21 =>
        (ld1 r7.2 t21) |> bo fun t22 =>
        (fadX 6 r2.1) |> bo fun t23 =>
        (ld1 r7.2 t23) |> bo fun t24 =>
        (binX .neq .bool t22 t24) |> bo fun t25 =>
        brX t25
         (
          retK m.length r7.2 [t0, t1] (.bool false))
         (
          (fadX 7 r1.1) |> bo fun t26 =>
          (ld1 r7.2 t26) |> bo fun t27 =>
          (fadX 7 r2.1) |> bo fun t28 =>
          (ld1 r7.2 t28) |> bo fun t29 =>
          (binX .neq .no t27 t29) |> bo fun t30 =>
          brX t30
           (
            retK m.length r7.2 [t0, t1] (.bool false))
           (
            (fadX 8 r1.1) |> bo fun t31 =>
            (ld1 r7.2 t31) |> bo fun t32 =>
            (fadX 8 r2.1) |> bo fun t33 =>
            (ld1 r7.2 t33) |> bo fun t34 =>
            (binX .neq .no t32 t34) |> bo fun t35 =>
            brX t35
             (
              retK m.length r7.2 [t0, t1] (.bool false))
             (
              (fadX 9 r1.1) |> bo fun t36 =>
              (ld1 r7.2 t36) |> bo fun t37 =>
              (fadX 9 r2.1) |> bo fun t38 =>
              (ld1 r7.2 t38) |> bo fun t39 =>
              (binX .neq .no t37 t39) |> bo fun t40 =>
              brX t40
               (
                retK m.length r7.2 [t0, t1] (.bool false))
               (
                (fadX 10 r1.1) |> bo fun t41 =>
                (ld1 r7.2 t41) |> bo fun t42 =>
                (fadX 10 r2.1) |> bo fun t43 =>
                (ld1 r7.2 t43) |> bo fun t44 =>
                (binX .neq .bool t42 t44) |> bo fun t45 =>
                brX t45
                 (
                  retK m.length r7.2 [t0, t1] (.bool false))
                 (
                  (fadX 11 r1.1) |> bo fun t46 =>
                  (ld1 r7.2 t46) |> bo fun t47 =>
                  (fadX 11 r2.1) |> bo fun t48 =>
                  (ld1 r7.2 t48) |> bo fun t49 =>
                  (binX .neq .bool t47 t49) |> bo fun t50 =>
                  brX t50
                   (
                    retK m.length r7.2 [t0, t1] (.bool false))
                   (
                    (fadX 12 r1.1) |> bo fun t51 =>
                    (ld1 r7.2 t51) |> bo fun t52 =>
                    (fadX 12 r2.1) |> bo fun t53 =>
                    (ld1 r7.2 t53) |> bo fun t54 =>
                    (binX .neq .bool t52 t54) |> bo fun t55 =>
                    brX t55
                     (
                      retK m.length r7.2 [t0, t1] (.bool false))
                     (
                      (fadX 13 r1.1) |> bo fun t56 =>
                      (ld1 r7.2 t56) |> bo fun t57 =>
                      (fadX 13 r2.1) |> bo fun t58 =>
                      (ld1 r7.2 t58) |> bo fun t59 =>
                      (C_laws_eqBoolS [t57, t59] r7.2) |> bo fun r58 =>
                      (uop .not r58.1) |> bo fun t61 =>
                      brX t61
                       (
                        retK m.length r58.2 [t0, t1] (.bool false))
                       (
                        (fadX 14 r1.1) |> bo fun t62 =>
                        (ld1 r58.2 t62) |> bo fun t63 =>
                        (fadX 14 r2.1) |> bo fun t64 =>
                        (ld1 r58.2 t64) |> bo fun t65 =>
                        (binX .neq .no t63 t65) |> bo fun t66 =>
                        brX t66
                         (
                          retK m.length r58.2 [t0, t1] (.bool false))
                         (
                          (fadX 15 r1.1) |> bo fun t67 =>
                          (ld1 r58.2 t67) |> bo fun t68 =>
                          (fadX 15 r2.1) |> bo fun t69 =>
                          (ld1 r58.2 t69) |> bo fun t70 =>
                          (binX .neq .no t68 t70) |> bo fun t71 =>
                          brX t71
                           (
                            retK m.length r58.2 [t0, t1] (.bool false))
                           (
                            (fadX 16 r1.1) |> bo fun t72 =>
                            (ld1 r58.2 t72) |> bo fun t73 =>
                            (fadX 16 r2.1) |> bo fun t74 =>
                            (ld1 r58.2 t74) |> bo fun t75 =>
                            (binX .neq .no t73 t75) |> bo fun t76 =>
                            brX t76
                             (
                              retK m.length r58.2 [t0, t1] (.bool false))
                             (
                              (fadX 17 r1.1) |> bo fun t77 =>
                              (ld1 r58.2 t77) |> bo fun t78 =>
                              (fadX 17 r2.1) |> bo fun t79 =>
                              (ld1 r58.2 t79) |> bo fun t80 =>
                              (C_laws_eqInt64S [t78, t80] r58.2) |> bo fun r79 =>
                              (uop .not r79.1) |> bo fun t82 =>
                              brX t82
                               (
                                retK m.length r79.2 [t0, t1] (.bool false))
                               (
                                (fadX 18 r1.1) |> bo fun t83 =>
                                (ld1 r79.2 t83) |> bo fun t84 =>
                                (fadX 18 r2.1) |> bo fun t85 =>
                                (ld1 r79.2 t85) |> bo fun t86 =>
                                (binX .neq .no t84 t86) |> bo fun t87 =>
                                brX t87
                                 (
                                  retK m.length r79.2 [t0, t1] (.bool false))
                                 (
                                  (fadX 19 r1.1) |> bo fun t88 =>
                                  (ld1 r79.2 t88) |> bo fun t89 =>
                                  (fadX 19 r2.1) |> bo fun t90 =>
                                  (ld1 r79.2 t90) |> bo fun t91 =>
                                  (binX .neq .no t89 t91) |> bo fun t92 =>
                                  brX t92
                                   (
                                    retK m.length r79.2 [t0, t1] (.bool false))
                                   (
                                    retK m.length r79.2 [t0, t1] (.bool true))))))))))))))))))
 | _, _ => none
noncomputable def C_laws_eqScreen : List Value → Mem → Option VM := fcall X_laws_eqScreen
@[simp] theorem c_laws_eqScreen : C_laws_eqScreen = fcall X_laws_eqScreen := (rfl)
theorem cok_laws_eqScreen : codeOk CT Tryd.f9 (Tryd.f9.body.get rfl) = true := by kernel_rfl
theorem xe_laws_eqScreen (t0 t1 : Value) (m : Mem) : ex CT cf_laws_eqScreen Tryd.f9 2 m.length [] (fun _ _ _ => none) 400 [.code (Tryd.f9.body.get rfl)] (argsT 0 [t0, t1]) m = X_laws_eqScreen [t0, t1] m := by kernel_rfl
theorem okc_laws_eqScreen : CallOK CT cf_laws_eqScreen := cfc_ok ok_C_laws_eqGrid (cfc_ok ok_C_laws_eqBoolS (cfc_ok ok_C_laws_eqInt64S cfn_ok))
theorem ok_X_laws_eqScreen : OkX CT 9 X_laws_eqScreen := OkX.of_ex (cf := cf_laws_eqScreen) (np := 2) (LL := []) (J := (fun _ _ _ _ => none)) CT_ok rfl Tryd.func9 rfl (Nat.le_of_ble_eq_true rfl) (by decide) cok_laws_eqScreen okc_laws_eqScreen (fun k => noLoops rfl) (fun args m r h => match args, h with
  | [t0, t1], h => ⟨rfl, (xe_laws_eqScreen t0 t1 m).trans h⟩)
theorem ok_C_laws_eqScreen : OkC CT 9 C_laws_eqScreen := fcall_ok rfl ok_X_laws_eqScreen
noncomputable def cf_laws_markCellS : CallF := cfn
noncomputable def L_laws_markCellS (k : Nat) : Nat → Nat → List Value → Mem → Option VM
 | q + 1, 0, [t0, t1, t5], m =>
  (lenX t0) |> bo fun t8 =>
  (binX .lss .no t5 t8) |> bo fun t9 =>
  brX t9
   (
    (ixaX 2 t0 t5) |> bo fun t15 =>
    (fadX 0 t15) |> bo fun t16 =>
    (stX m 1 t16 t1) |> bo fun m5 =>
    (binX .add .no t1 (.int .i64 1)) |> bo fun t18 =>
    (ixaX 2 t0 t5) |> bo fun t22 =>
    (fadX 1 t22) |> bo fun t23 =>
    (stX m5 1 t23 t18) |> bo fun m9 =>
    (binX .add .no t18 (.int .i64 1)) |> bo fun t25 =>
    (binX .add .no t5 (.int .i64 1)) |> bo fun t11 =>
    cutK k m9 [t0, t25] [t0, t25, t11] (L_laws_markCellS k q 0))
   (
    retK k m [t0, t1] t1)
 | _, _, _, _ => none
noncomputable def J_laws_markCellS (k q l : Nat) : List Value → Mem → Option VM := cond (Nat.beq l 2) (L_laws_markCellS k q 0) (fun _ _ => none)
def LL_laws_markCellS : List (Nat × List Tmp) := [(2, [0, 1, 5])]
noncomputable def X_laws_markCellS : List Value → Mem → Option VM
 | [t0, t1], m =>
  cutK m.length m [t0, t1] [t0, t1, (.int .i64 0)] (L_laws_markCellS m.length QQ 0)
 | _, _ => none
noncomputable def C_laws_markCellS : List Value → Mem → Option VM := rcall X_laws_markCellS
@[simp] theorem c_laws_markCellS : C_laws_markCellS = rcall X_laws_markCellS := (rfl)
theorem cok_laws_markCellS : codeOk CT Tryd.f53 (Tryd.f53.body.get rfl) = true := by kernel_rfl
theorem xe_laws_markCellS (t0 t1 : Value) (m : Mem) : ex CT cf_laws_markCellS Tryd.f53 2 m.length LL_laws_markCellS (J_laws_markCellS m.length QQ) 400 [.code (Tryd.f53.body.get rfl)] (argsT 0 [t0, t1]) m = X_laws_markCellS [t0, t1] m := by kernel_rfl
theorem okc_laws_markCellS : CallOK CT cf_laws_markCellS := cfn_ok
theorem le_laws_markCellS_0 (k q : Nat) (t0 t1 t5 : Value) (m : Mem) : ex CT cf_laws_markCellS Tryd.f53 2 k LL_laws_markCellS (J_laws_markCellS k q) 400 (atLoop Tryd.f53 0) [(0, t0), (1, t1), (5, t5)] m = J_laws_markCellS k (q + 1) 2 [t0, t1, t5] m := by kernel_rfl
theorem gl_laws_markCellS (k : Nat) : ∀ q i, i < 1 → GoodL CT k Tryd.f53 LL_laws_markCellS (J_laws_markCellS k q) (atLoop Tryd.f53 i)
 | 0, 0, _ => goodL_zero (l := 2) (by kernel_rfl) (fun vs m => by kernel_rfl)
 | 0, _ + 1, h => absurd h (by omega)
 | q + 1, 0, _ => goodL_succ (np := 2) (l := 2) (live := [0, 1, 5]) (n := 1) CT_ok rfl okc_laws_markCellS (c := (Tryd.f53.body.get rfl)) rfl cok_laws_markCellS (by kernel_rfl) (gl_laws_markCellS k q) (by kernel_rfl) rfl (fun vs m r hl h => match vs, hl with
  | [t0, t1, t5], _ => (le_laws_markCellS_0 k q t0 t1 t5 m).trans h)
 | _ + 1, _ + 1, h => absurd h (by omega)
theorem ok_X_laws_markCellS : OkX CT 53 X_laws_markCellS := OkX.of_ex (cf := cf_laws_markCellS) (np := 2) (LL := LL_laws_markCellS) (J := (fun k => J_laws_markCellS k QQ)) CT_ok rfl Tryd.func53 rfl (Nat.le_of_ble_eq_true rfl) (by decide) cok_laws_markCellS okc_laws_markCellS (fun k => allLoops rfl (by kernel_rfl) (gl_laws_markCellS k QQ)) (fun args m r h => match args, h with
  | [t0, t1], h => ⟨rfl, (xe_laws_markCellS t0 t1 m).trans h⟩)
theorem ok_C_laws_markCellS : OkC CT 53 C_laws_markCellS := rcall_ok rfl ok_X_laws_markCellS
noncomputable def cf_laws_markGrid : CallF := cfc 53 C_laws_markCellS cfn
noncomputable def X_laws_markGrid : List Value → Mem → Option VM
 | [t0, t1], m =>
  (boxX m t0) |> bo fun r1 =>
  (fadX 2 r1.1) |> bo fun t5 =>
  (ld1 r1.2 t5) |> bo fun t6 =>
  (C_laws_markCellS [t6, t1] r1.2) |> bo fun r4 =>
  (fadX 3 r1.1) |> bo fun t9 =>
  (ld1 r4.2 t9) |> bo fun t10 =>
  (C_laws_markCellS [t10, r4.1] r4.2) |> bo fun r7 =>
  retK m.length r7.2 [t0, r7.1] r7.1
 | _, _ => none
noncomputable def C_laws_markGrid : List Value → Mem → Option VM := rcall X_laws_markGrid
@[simp] theorem c_laws_markGrid : C_laws_markGrid = rcall X_laws_markGrid := (rfl)
theorem cok_laws_markGrid : codeOk CT Tryd.f29 (Tryd.f29.body.get rfl) = true := by kernel_rfl
theorem xe_laws_markGrid (t0 t1 : Value) (m : Mem) : ex CT cf_laws_markGrid Tryd.f29 2 m.length [] (fun _ _ _ => none) 400 [.code (Tryd.f29.body.get rfl)] (argsT 0 [t0, t1]) m = X_laws_markGrid [t0, t1] m := by kernel_rfl
theorem okc_laws_markGrid : CallOK CT cf_laws_markGrid := cfc_ok ok_C_laws_markCellS cfn_ok
theorem ok_X_laws_markGrid : OkX CT 29 X_laws_markGrid := OkX.of_ex (cf := cf_laws_markGrid) (np := 2) (LL := []) (J := (fun _ _ _ _ => none)) CT_ok rfl Tryd.func29 rfl (Nat.le_of_ble_eq_true rfl) (by decide) cok_laws_markGrid okc_laws_markGrid (fun k => noLoops rfl) (fun args m r h => match args, h with
  | [t0, t1], h => ⟨rfl, (xe_laws_markGrid t0 t1 m).trans h⟩)
theorem ok_C_laws_markGrid : OkC CT 29 C_laws_markGrid := rcall_ok rfl ok_X_laws_markGrid
noncomputable def cf_laws_markBoolS : CallF := cfn
noncomputable def L_laws_markBoolS (k : Nat) : Nat → Nat → List Value → Mem → Option VM
 | q + 1, 0, [t0, t1, t5], m =>
  (lenX t0) |> bo fun t8 =>
  (binX .lss .no t5 t8) |> bo fun t9 =>
  brX t9
   (
    (binX .rem .no t1 (.int .i64 3)) |> bo fun t15 =>
    (binX .eql .no t15 (.int .i64 0)) |> bo fun t16 =>
    (ixaX 1 t0 t5) |> bo fun t17 =>
    (stX m 1 t17 t16) |> bo fun m6 =>
    (binX .add .no t1 (.int .i64 1)) |> bo fun t19 =>
    (binX .add .no t5 (.int .i64 1)) |> bo fun t11 =>
    cutK k m6 [t0, t19] [t0, t19, t11] (L_laws_markBoolS k q 0))
   (
    retK k m [t0, t1] t1)
 | _, _, _, _ => none
noncomputable def J_laws_markBoolS (k q l : Nat) : List Value → Mem → Option VM := cond (Nat.beq l 2) (L_laws_markBoolS k q 0) (fun _ _ => none)
def LL_laws_markBoolS : List (Nat × List Tmp) := [(2, [0, 1, 5])]
noncomputable def X_laws_markBoolS : List Value → Mem → Option VM
 | [t0, t1], m =>
  cutK m.length m [t0, t1] [t0, t1, (.int .i64 0)] (L_laws_markBoolS m.length QQ 0)
 | _, _ => none
noncomputable def C_laws_markBoolS : List Value → Mem → Option VM := rcall X_laws_markBoolS
@[simp] theorem c_laws_markBoolS : C_laws_markBoolS = rcall X_laws_markBoolS := (rfl)
theorem cok_laws_markBoolS : codeOk CT Tryd.f30 (Tryd.f30.body.get rfl) = true := by kernel_rfl
theorem xe_laws_markBoolS (t0 t1 : Value) (m : Mem) : ex CT cf_laws_markBoolS Tryd.f30 2 m.length LL_laws_markBoolS (J_laws_markBoolS m.length QQ) 400 [.code (Tryd.f30.body.get rfl)] (argsT 0 [t0, t1]) m = X_laws_markBoolS [t0, t1] m := by kernel_rfl
theorem okc_laws_markBoolS : CallOK CT cf_laws_markBoolS := cfn_ok
theorem le_laws_markBoolS_0 (k q : Nat) (t0 t1 t5 : Value) (m : Mem) : ex CT cf_laws_markBoolS Tryd.f30 2 k LL_laws_markBoolS (J_laws_markBoolS k q) 400 (atLoop Tryd.f30 0) [(0, t0), (1, t1), (5, t5)] m = J_laws_markBoolS k (q + 1) 2 [t0, t1, t5] m := by kernel_rfl
theorem gl_laws_markBoolS (k : Nat) : ∀ q i, i < 1 → GoodL CT k Tryd.f30 LL_laws_markBoolS (J_laws_markBoolS k q) (atLoop Tryd.f30 i)
 | 0, 0, _ => goodL_zero (l := 2) (by kernel_rfl) (fun vs m => by kernel_rfl)
 | 0, _ + 1, h => absurd h (by omega)
 | q + 1, 0, _ => goodL_succ (np := 2) (l := 2) (live := [0, 1, 5]) (n := 1) CT_ok rfl okc_laws_markBoolS (c := (Tryd.f30.body.get rfl)) rfl cok_laws_markBoolS (by kernel_rfl) (gl_laws_markBoolS k q) (by kernel_rfl) rfl (fun vs m r hl h => match vs, hl with
  | [t0, t1, t5], _ => (le_laws_markBoolS_0 k q t0 t1 t5 m).trans h)
 | _ + 1, _ + 1, h => absurd h (by omega)
theorem ok_X_laws_markBoolS : OkX CT 30 X_laws_markBoolS := OkX.of_ex (cf := cf_laws_markBoolS) (np := 2) (LL := LL_laws_markBoolS) (J := (fun k => J_laws_markBoolS k QQ)) CT_ok rfl Tryd.func30 rfl (Nat.le_of_ble_eq_true rfl) (by decide) cok_laws_markBoolS okc_laws_markBoolS (fun k => allLoops rfl (by kernel_rfl) (gl_laws_markBoolS k QQ)) (fun args m r h => match args, h with
  | [t0, t1], h => ⟨rfl, (xe_laws_markBoolS t0 t1 m).trans h⟩)
theorem ok_C_laws_markBoolS : OkC CT 30 C_laws_markBoolS := rcall_ok rfl ok_X_laws_markBoolS
noncomputable def cf_laws_markInt64S : CallF := cfn
noncomputable def L_laws_markInt64S (k : Nat) : Nat → Nat → List Value → Mem → Option VM
 | q + 1, 0, [t0, t1, t5], m =>
  (lenX t0) |> bo fun t8 =>
  (binX .lss .no t5 t8) |> bo fun t9 =>
  brX t9
   (
    (ixaX 1 t0 t5) |> bo fun t15 =>
    (stX m 1 t15 t1) |> bo fun m4 =>
    (binX .add .no t1 (.int .i64 1)) |> bo fun t17 =>
    (binX .add .no t5 (.int .i64 1)) |> bo fun t11 =>
    cutK k m4 [t0, t17] [t0, t17, t11] (L_laws_markInt64S k q 0))
   (
    retK k m [t0, t1] t1)
 | _, _, _, _ => none
noncomputable def J_laws_markInt64S (k q l : Nat) : List Value → Mem → Option VM := cond (Nat.beq l 2) (L_laws_markInt64S k q 0) (fun _ _ => none)
def LL_laws_markInt64S : List (Nat × List Tmp) := [(2, [0, 1, 5])]
noncomputable def X_laws_markInt64S : List Value → Mem → Option VM
 | [t0, t1], m =>
  cutK m.length m [t0, t1] [t0, t1, (.int .i64 0)] (L_laws_markInt64S m.length QQ 0)
 | _, _ => none
noncomputable def C_laws_markInt64S : List Value → Mem → Option VM := rcall X_laws_markInt64S
@[simp] theorem c_laws_markInt64S : C_laws_markInt64S = rcall X_laws_markInt64S := (rfl)
theorem cok_laws_markInt64S : codeOk CT Tryd.f31 (Tryd.f31.body.get rfl) = true := by kernel_rfl
theorem xe_laws_markInt64S (t0 t1 : Value) (m : Mem) : ex CT cf_laws_markInt64S Tryd.f31 2 m.length LL_laws_markInt64S (J_laws_markInt64S m.length QQ) 400 [.code (Tryd.f31.body.get rfl)] (argsT 0 [t0, t1]) m = X_laws_markInt64S [t0, t1] m := by kernel_rfl
theorem okc_laws_markInt64S : CallOK CT cf_laws_markInt64S := cfn_ok
theorem le_laws_markInt64S_0 (k q : Nat) (t0 t1 t5 : Value) (m : Mem) : ex CT cf_laws_markInt64S Tryd.f31 2 k LL_laws_markInt64S (J_laws_markInt64S k q) 400 (atLoop Tryd.f31 0) [(0, t0), (1, t1), (5, t5)] m = J_laws_markInt64S k (q + 1) 2 [t0, t1, t5] m := by kernel_rfl
theorem gl_laws_markInt64S (k : Nat) : ∀ q i, i < 1 → GoodL CT k Tryd.f31 LL_laws_markInt64S (J_laws_markInt64S k q) (atLoop Tryd.f31 i)
 | 0, 0, _ => goodL_zero (l := 2) (by kernel_rfl) (fun vs m => by kernel_rfl)
 | 0, _ + 1, h => absurd h (by omega)
 | q + 1, 0, _ => goodL_succ (np := 2) (l := 2) (live := [0, 1, 5]) (n := 1) CT_ok rfl okc_laws_markInt64S (c := (Tryd.f31.body.get rfl)) rfl cok_laws_markInt64S (by kernel_rfl) (gl_laws_markInt64S k q) (by kernel_rfl) rfl (fun vs m r hl h => match vs, hl with
  | [t0, t1, t5], _ => (le_laws_markInt64S_0 k q t0 t1 t5 m).trans h)
 | _ + 1, _ + 1, h => absurd h (by omega)
theorem ok_X_laws_markInt64S : OkX CT 31 X_laws_markInt64S := OkX.of_ex (cf := cf_laws_markInt64S) (np := 2) (LL := LL_laws_markInt64S) (J := (fun k => J_laws_markInt64S k QQ)) CT_ok rfl Tryd.func31 rfl (Nat.le_of_ble_eq_true rfl) (by decide) cok_laws_markInt64S okc_laws_markInt64S (fun k => allLoops rfl (by kernel_rfl) (gl_laws_markInt64S k QQ)) (fun args m r h => match args, h with
  | [t0, t1], h => ⟨rfl, (xe_laws_markInt64S t0 t1 m).trans h⟩)
theorem ok_C_laws_markInt64S : OkC CT 31 C_laws_markInt64S := rcall_ok rfl ok_X_laws_markInt64S
noncomputable def cf_laws_markScreen : CallF := cfc 29 C_laws_markGrid (cfc 30 C_laws_markBoolS (cfc 31 C_laws_markInt64S cfn))
noncomputable def X_laws_markScreen : List Value → Mem → Option VM
 | [t0, t1], m =>
  (boxX m t0) |> bo fun r1 =>
  (fadX 0 r1.1) |> bo fun t5 =>
  (ldS r1.2 4 t5) |> bo fun t6 =>
  (C_laws_markGrid [t6, t1] r1.2) |> bo fun r4 =>
  (fadX 13 r1.1) |> bo fun t9 =>
  (ld1 r4.2 t9) |> bo fun t10 =>
  (C_laws_markBoolS [t10, r4.1] r4.2) |> bo fun r7 =>
  (fadX 17 r1.1) |> bo fun t13 =>
  (ld1 r7.2 t13) |> bo fun t14 =>
  (C_laws_markInt64S [t14, r7.1] r7.2) |> bo fun r10 =>
  retK m.length r10.2 [t0, r10.1] r10.1
 | _, _ => none
noncomputable def C_laws_markScreen : List Value → Mem → Option VM := rcall X_laws_markScreen
@[simp] theorem c_laws_markScreen : C_laws_markScreen = rcall X_laws_markScreen := (rfl)
theorem cok_laws_markScreen : codeOk CT Tryd.f10 (Tryd.f10.body.get rfl) = true := by kernel_rfl
theorem xe_laws_markScreen (t0 t1 : Value) (m : Mem) : ex CT cf_laws_markScreen Tryd.f10 2 m.length [] (fun _ _ _ => none) 400 [.code (Tryd.f10.body.get rfl)] (argsT 0 [t0, t1]) m = X_laws_markScreen [t0, t1] m := by kernel_rfl
theorem okc_laws_markScreen : CallOK CT cf_laws_markScreen := cfc_ok ok_C_laws_markGrid (cfc_ok ok_C_laws_markBoolS (cfc_ok ok_C_laws_markInt64S cfn_ok))
theorem ok_X_laws_markScreen : OkX CT 10 X_laws_markScreen := OkX.of_ex (cf := cf_laws_markScreen) (np := 2) (LL := []) (J := (fun _ _ _ _ => none)) CT_ok rfl Tryd.func10 rfl (Nat.le_of_ble_eq_true rfl) (by decide) cok_laws_markScreen okc_laws_markScreen (fun k => noLoops rfl) (fun args m r h => match args, h with
  | [t0, t1], h => ⟨rfl, (xe_laws_markScreen t0 t1 m).trans h⟩)
theorem ok_C_laws_markScreen : OkC CT 10 C_laws_markScreen := rcall_ok rfl ok_X_laws_markScreen
noncomputable def cf_laws_markByteS : CallF := cfn
noncomputable def L_laws_markByteS (k : Nat) : Nat → Nat → List Value → Mem → Option VM
 | q + 1, 0, [t0, t1, t5], m =>
  (lenX t0) |> bo fun t8 =>
  (binX .lss .no t5 t8) |> bo fun t9 =>
  brX t9
   (
    (cvI .u8 t1) |> bo fun t15 =>
    (ixaX 1 t0 t5) |> bo fun t16 =>
    (stX m 1 t16 t15) |> bo fun m5 =>
    (binX .add .no t1 (.int .i64 1)) |> bo fun t18 =>
    (binX .add .no t5 (.int .i64 1)) |> bo fun t11 =>
    cutK k m5 [t0, t18] [t0, t18, t11] (L_laws_markByteS k q 0))
   (
    retK k m [t0, t1] t1)
 | _, _, _, _ => none
noncomputable def J_laws_markByteS (k q l : Nat) : List Value → Mem → Option VM := cond (Nat.beq l 2) (L_laws_markByteS k q 0) (fun _ _ => none)
def LL_laws_markByteS : List (Nat × List Tmp) := [(2, [0, 1, 5])]
noncomputable def X_laws_markByteS : List Value → Mem → Option VM
 | [t0, t1], m =>
  cutK m.length m [t0, t1] [t0, t1, (.int .i64 0)] (L_laws_markByteS m.length QQ 0)
 | _, _ => none
noncomputable def C_laws_markByteS : List Value → Mem → Option VM := rcall X_laws_markByteS
@[simp] theorem c_laws_markByteS : C_laws_markByteS = rcall X_laws_markByteS := (rfl)
theorem cok_laws_markByteS : codeOk CT Tryd.f32 (Tryd.f32.body.get rfl) = true := by kernel_rfl
theorem xe_laws_markByteS (t0 t1 : Value) (m : Mem) : ex CT cf_laws_markByteS Tryd.f32 2 m.length LL_laws_markByteS (J_laws_markByteS m.length QQ) 400 [.code (Tryd.f32.body.get rfl)] (argsT 0 [t0, t1]) m = X_laws_markByteS [t0, t1] m := by kernel_rfl
theorem okc_laws_markByteS : CallOK CT cf_laws_markByteS := cfn_ok
theorem le_laws_markByteS_0 (k q : Nat) (t0 t1 t5 : Value) (m : Mem) : ex CT cf_laws_markByteS Tryd.f32 2 k LL_laws_markByteS (J_laws_markByteS k q) 400 (atLoop Tryd.f32 0) [(0, t0), (1, t1), (5, t5)] m = J_laws_markByteS k (q + 1) 2 [t0, t1, t5] m := by kernel_rfl
theorem gl_laws_markByteS (k : Nat) : ∀ q i, i < 1 → GoodL CT k Tryd.f32 LL_laws_markByteS (J_laws_markByteS k q) (atLoop Tryd.f32 i)
 | 0, 0, _ => goodL_zero (l := 2) (by kernel_rfl) (fun vs m => by kernel_rfl)
 | 0, _ + 1, h => absurd h (by omega)
 | q + 1, 0, _ => goodL_succ (np := 2) (l := 2) (live := [0, 1, 5]) (n := 1) CT_ok rfl okc_laws_markByteS (c := (Tryd.f32.body.get rfl)) rfl cok_laws_markByteS (by kernel_rfl) (gl_laws_markByteS k q) (by kernel_rfl) rfl (fun vs m r hl h => match vs, hl with
  | [t0, t1, t5], _ => (le_laws_markByteS_0 k q t0 t1 t5 m).trans h)
 | _ + 1, _ + 1, h => absurd h (by omega)
theorem ok_X_laws_markByteS : OkX CT 32 X_laws_markByteS := OkX.of_ex (cf := cf_laws_markByteS) (np := 2) (LL := LL_laws_markByteS) (J := (fun k => J_laws_markByteS k QQ)) CT_ok rfl Tryd.func32 rfl (Nat.le_of_ble_eq_true rfl) (by decide) cok_laws_markByteS okc_laws_markByteS (fun k => allLoops rfl (by kernel_rfl) (gl_laws_markByteS k QQ)) (fun args m r h => match args, h with
  | [t0, t1], h => ⟨rfl, (xe_laws_markByteS t0 t1 m).trans h⟩)
theorem ok_C_laws_markByteS : OkC CT 32 C_laws_markByteS := rcall_ok rfl ok_X_laws_markByteS
noncomputable def cf_laws_markBytesResult : CallF := cfc 32 C_laws_markByteS cfn
noncomputable def X_laws_markBytesResult : List Value → Mem → Option VM
 | [t0, t1], m =>
  (boxX m t0) |> bo fun r1 =>
  (fadX 1 r1.1) |> bo fun t5 =>
  (ld1 r1.2 t5) |> bo fun t6 =>
  (C_laws_markByteS [t6, t1] r1.2) |> bo fun r4 =>
  retK m.length r4.2 [t0, r4.1] r4.1
 | _, _ => none
noncomputable def C_laws_markBytesResult : List Value → Mem → Option VM := rcall X_laws_markBytesResult
@[simp] theorem c_laws_markBytesResult : C_laws_markBytesResult = rcall X_laws_markBytesResult := (rfl)
theorem cok_laws_markBytesResult : codeOk CT Tryd.f11 (Tryd.f11.body.get rfl) = true := by kernel_rfl
theorem xe_laws_markBytesResult (t0 t1 : Value) (m : Mem) : ex CT cf_laws_markBytesResult Tryd.f11 2 m.length [] (fun _ _ _ => none) 400 [.code (Tryd.f11.body.get rfl)] (argsT 0 [t0, t1]) m = X_laws_markBytesResult [t0, t1] m := by kernel_rfl
theorem okc_laws_markBytesResult : CallOK CT cf_laws_markBytesResult := cfc_ok ok_C_laws_markByteS cfn_ok
theorem ok_X_laws_markBytesResult : OkX CT 11 X_laws_markBytesResult := OkX.of_ex (cf := cf_laws_markBytesResult) (np := 2) (LL := []) (J := (fun _ _ _ _ => none)) CT_ok rfl Tryd.func11 rfl (Nat.le_of_ble_eq_true rfl) (by decide) cok_laws_markBytesResult okc_laws_markBytesResult (fun k => noLoops rfl) (fun args m r h => match args, h with
  | [t0, t1], h => ⟨rfl, (xe_laws_markBytesResult t0 t1 m).trans h⟩)
theorem ok_C_laws_markBytesResult : OkC CT 11 C_laws_markBytesResult := rcall_ok rfl ok_X_laws_markBytesResult
noncomputable def cf_laws_heldByteS : CallF := cfn
noncomputable def L_laws_heldByteS (k : Nat) : Nat → Nat → List Value → Mem → Option VM
 | q + 1, 0, [t0, t1, t5], m =>
  (lenX t0) |> bo fun t8 =>
  (binX .lss .no t5 t8) |> bo fun t9 =>
  brX t9
   (
    (ixaX 1 t0 t5) |> bo fun t14 =>
    (ld1 m t14) |> bo fun t15 =>
    (cvI .u8 t1) |> bo fun t17 =>
    (binX .neq .no t15 t17) |> bo fun t18 =>
    brX t18
     (
      retK k m [t0, t1] (.int .i64 (-1)))
     (
      (binX .add .no t1 (.int .i64 1)) |> bo fun t20 =>
      (binX .add .no t5 (.int .i64 1)) |> bo fun t11 =>
      cutK k m [t0, t20] [t0, t20, t11] (L_laws_heldByteS k q 0)))
   (
    retK k m [t0, t1] t1)
 | _, _, _, _ => none
noncomputable def J_laws_heldByteS (k q l : Nat) : List Value → Mem → Option VM := cond (Nat.beq l 2) (L_laws_heldByteS k q 0) (fun _ _ => none)
def LL_laws_heldByteS : List (Nat × List Tmp) := [(2, [0, 1, 5])]
noncomputable def X_laws_heldByteS : List Value → Mem → Option VM
 | [t0, t1], m =>
  cutK m.length m [t0, t1] [t0, t1, (.int .i64 0)] (L_laws_heldByteS m.length QQ 0)
 | _, _ => none
noncomputable def C_laws_heldByteS : List Value → Mem → Option VM := fcall X_laws_heldByteS
@[simp] theorem c_laws_heldByteS : C_laws_heldByteS = fcall X_laws_heldByteS := (rfl)
theorem cok_laws_heldByteS : codeOk CT Tryd.f33 (Tryd.f33.body.get rfl) = true := by kernel_rfl
theorem xe_laws_heldByteS (t0 t1 : Value) (m : Mem) : ex CT cf_laws_heldByteS Tryd.f33 2 m.length LL_laws_heldByteS (J_laws_heldByteS m.length QQ) 400 [.code (Tryd.f33.body.get rfl)] (argsT 0 [t0, t1]) m = X_laws_heldByteS [t0, t1] m := by kernel_rfl
theorem okc_laws_heldByteS : CallOK CT cf_laws_heldByteS := cfn_ok
theorem le_laws_heldByteS_0 (k q : Nat) (t0 t1 t5 : Value) (m : Mem) : ex CT cf_laws_heldByteS Tryd.f33 2 k LL_laws_heldByteS (J_laws_heldByteS k q) 400 (atLoop Tryd.f33 0) [(0, t0), (1, t1), (5, t5)] m = J_laws_heldByteS k (q + 1) 2 [t0, t1, t5] m := by kernel_rfl
theorem gl_laws_heldByteS (k : Nat) : ∀ q i, i < 1 → GoodL CT k Tryd.f33 LL_laws_heldByteS (J_laws_heldByteS k q) (atLoop Tryd.f33 i)
 | 0, 0, _ => goodL_zero (l := 2) (by kernel_rfl) (fun vs m => by kernel_rfl)
 | 0, _ + 1, h => absurd h (by omega)
 | q + 1, 0, _ => goodL_succ (np := 2) (l := 2) (live := [0, 1, 5]) (n := 1) CT_ok rfl okc_laws_heldByteS (c := (Tryd.f33.body.get rfl)) rfl cok_laws_heldByteS (by kernel_rfl) (gl_laws_heldByteS k q) (by kernel_rfl) rfl (fun vs m r hl h => match vs, hl with
  | [t0, t1, t5], _ => (le_laws_heldByteS_0 k q t0 t1 t5 m).trans h)
 | _ + 1, _ + 1, h => absurd h (by omega)
theorem ok_X_laws_heldByteS : OkX CT 33 X_laws_heldByteS := OkX.of_ex (cf := cf_laws_heldByteS) (np := 2) (LL := LL_laws_heldByteS) (J := (fun k => J_laws_heldByteS k QQ)) CT_ok rfl Tryd.func33 rfl (Nat.le_of_ble_eq_true rfl) (by decide) cok_laws_heldByteS okc_laws_heldByteS (fun k => allLoops rfl (by kernel_rfl) (gl_laws_heldByteS k QQ)) (fun args m r h => match args, h with
  | [t0, t1], h => ⟨rfl, (xe_laws_heldByteS t0 t1 m).trans h⟩)
theorem ok_C_laws_heldByteS : OkC CT 33 C_laws_heldByteS := fcall_ok rfl ok_X_laws_heldByteS
noncomputable def cf_laws_heldBytesResult : CallF := cfc 33 C_laws_heldByteS cfn
noncomputable def X_laws_heldBytesResult : List Value → Mem → Option VM
 | [t0, t1], m =>
  (boxX m t0) |> bo fun r1 =>
  (fadX 1 r1.1) |> bo fun t5 =>
  (ld1 r1.2 t5) |> bo fun t6 =>
  (C_laws_heldByteS [t6, t1] r1.2) |> bo fun r4 =>
  (binX .lss .no r4.1 (.int .i64 0)) |> bo fun t10 =>
  brX t10
   (
    retK m.length r4.2 [t0, r4.1] (.int .i64 (-1)))
   (
    retK m.length r4.2 [t0, r4.1] r4.1)
 | _, _ => none
noncomputable def C_laws_heldBytesResult : List Value → Mem → Option VM := fcall X_laws_heldBytesResult
@[simp] theorem c_laws_heldBytesResult : C_laws_heldBytesResult = fcall X_laws_heldBytesResult := (rfl)
theorem cok_laws_heldBytesResult : codeOk CT Tryd.f12 (Tryd.f12.body.get rfl) = true := by kernel_rfl
theorem xe_laws_heldBytesResult (t0 t1 : Value) (m : Mem) : ex CT cf_laws_heldBytesResult Tryd.f12 2 m.length [] (fun _ _ _ => none) 400 [.code (Tryd.f12.body.get rfl)] (argsT 0 [t0, t1]) m = X_laws_heldBytesResult [t0, t1] m := by kernel_rfl
theorem okc_laws_heldBytesResult : CallOK CT cf_laws_heldBytesResult := cfc_ok ok_C_laws_heldByteS cfn_ok
theorem ok_X_laws_heldBytesResult : OkX CT 12 X_laws_heldBytesResult := OkX.of_ex (cf := cf_laws_heldBytesResult) (np := 2) (LL := []) (J := (fun _ _ _ _ => none)) CT_ok rfl Tryd.func12 rfl (Nat.le_of_ble_eq_true rfl) (by decide) cok_laws_heldBytesResult okc_laws_heldBytesResult (fun k => noLoops rfl) (fun args m r h => match args, h with
  | [t0, t1], h => ⟨rfl, (xe_laws_heldBytesResult t0 t1 m).trans h⟩)
theorem ok_C_laws_heldBytesResult : OkC CT 12 C_laws_heldBytesResult := fcall_ok rfl ok_X_laws_heldBytesResult
noncomputable def cf_laws_FnExactRowBytes : CallF := cfc 4 C_laws_szScreen (cfc 5 C_spec_RowBytes (cfc 6 C_laws_toScreen (cfc 7 C_impl_RowBytes (cfc 8 C_laws_eqBytesResult (cfc 9 C_laws_eqScreen (cfc 10 C_laws_markScreen (cfc 11 C_laws_markBytesResult (cfc 12 C_laws_heldBytesResult cfn))))))))
noncomputable def X_laws_FnExactRowBytes : List Value → Mem → Option VM
 | [t0, t1], m =>
  (boxX m t0) |> bo fun r1 =>
  (ldS r1.2 20 r1.1) |> bo fun t13 =>
  (C_laws_szScreen [t13, (.int .i64 1048576)] r1.2) |> bo fun r3 =>
  (binX .lss .no r3.1 (.int .i64 0)) |> bo fun t17 =>
  brX t17
   (
    retK m.length r3.2 [t0, t1] (.bool true))
   (
    (ldS r3.2 20 r1.1) |> bo fun t18 =>
    (C_laws_toScreen [t18] r3.2) |> bo fun r6 =>
    (C_spec_RowBytes [r6.1, t1] r6.2) |> bo fun r7 =>
    (alX r7.2 [.int .i64 0, .slice none 0 0]) |> bo fun r8 =>
    (stX r8.2 2 r8.1 r7.1) |> bo fun m9 =>
    (ldS m9 20 r1.1) |> bo fun t22 =>
    (C_laws_toScreen [t22] m9) |> bo fun r11 =>
    (alX r11.2 [.int .i64 0, .int .i64 0, .slice none 0 0, .slice none 0 0, .int .i64 0, .int .i64 0, .bool false, .int .i64 0, .int .i64 0, .int .i64 0, .bool false, .bool false, .bool false, .slice none 0 0, .int .i64 0, .int .i64 0, .int .i64 0, .slice none 0 0, .int .i64 0, .int .i64 0]) |> bo fun r12 =>
    (stX r12.2 20 r12.1 r11.1) |> bo fun m13 =>
    (ldS m13 20 r12.1) |> bo fun t24 =>
    (C_impl_RowBytes [t24, t1] m13) |> bo fun r15 =>
    (alX r15.2 [.int .i64 0, .slice none 0 0]) |> bo fun r16 =>
    (stX r16.2 2 r16.1 r15.1) |> bo fun m17 =>
    (ldS m17 2 r16.1) |> bo fun t27 =>
    (ldS m17 2 r8.1) |> bo fun t28 =>
    (C_laws_eqBytesResult [t27, t28] m17) |> bo fun r20 =>
    (uop .not r20.1) |> bo fun t30 =>
    brX t30
     (
      retK m.length r20.2 [t0, t1] (.bool false))
     (
      (ldS r20.2 20 r12.1) |> bo fun t31 =>
      (ldS r20.2 20 r1.1) |> bo fun t32 =>
      (C_laws_toScreen [t32] r20.2) |> bo fun r24 =>
      (C_laws_eqScreen [t31, r24.1] r24.2) |> bo fun r25 =>
      (uop .not r25.1) |> bo fun t35 =>
      gP (stbL [((rdN r12.1), r20.2, r24.2)])
       (
        brX t35
         (
          retK m.length r25.2 [t0, t1] (.bool false))
         (
          (ldS r25.2 20 r12.1) |> bo fun t36 =>
          (C_laws_markScreen [t36, (.int .i64 1)] r25.2) |> bo fun r28 =>
          (binX .lss .no r28.1 (.int .i64 0)) |> bo fun t40 =>
          (gd t40 false ((ldS r28.2 2 r16.1) |> bo fun v => some (v, r28.2)) r28.2) |> bo fun r30 =>
          (gd t40 false ((ldS r30.2 2 r8.1) |> bo fun v => some (v, r30.2)) r30.2) |> bo fun r31 =>
          (gd t40 false ((C_laws_eqBytesResult [r30.1, r31.1] r31.2) |> bo fun r => some (r.1, r.2)) r31.2) |> bo fun r32 =>
          (gd t40 false ((uop .not r32.1) |> bo fun v => some (v, r32.2)) r32.2) |> bo fun r33 =>
          (pickX t40 (.bool true) r33.1) |> bo fun t46 =>
          brX t46
           (
            retK m.length r33.2 [t0, t1] (.bool false))
           (
            (ldS r33.2 2 r16.1) |> bo fun t47 =>
            (C_laws_markBytesResult [t47, (.int .i64 1)] r33.2) |> bo fun r36 =>
            (ldS r36.2 2 r16.1) |> bo fun t50 =>
            (C_laws_heldBytesResult [t50, (.int .i64 1)] r36.2) |> bo fun r38 =>
            (binX .lss .no r38.1 (.int .i64 0)) |> bo fun t54 =>
            brX t54
             (
              retK m.length r38.2 [t0, t1] (.bool false))
             (
              (binX .neq .no r38.1 r36.1) |> bo fun t57 =>
              brX t57
               (
                retK m.length r38.2 [t0, t1] (.bool false))
               (
                (ldS r38.2 20 r1.1) |> bo fun t58 =>
                (C_laws_toScreen [t58] r38.2) |> bo fun r42 =>
                (C_impl_RowBytes [r42.1, t1] r42.2) |> bo fun r43 =>
                (alX r43.2 [.int .i64 0, .slice none 0 0]) |> bo fun r44 =>
                (stX r44.2 2 r44.1 r43.1) |> bo fun m45 =>
                (ldS m45 2 r44.1) |> bo fun t62 =>
                (ldS m45 2 r8.1) |> bo fun t63 =>
                (C_laws_eqBytesResult [t62, t63] m45) |> bo fun r48 =>
                (uop .not r48.1) |> bo fun t65 =>
                brX t65
                 (
                  retK m.length r48.2 [t0, t1] (.bool false))
                 (
                  (ldS r48.2 2 r16.1) |> bo fun t66 =>
                  (C_laws_heldBytesResult [t66, (.int .i64 1)] r48.2) |> bo fun r51 =>
                  (binX .lss .no r51.1 (.int .i64 0)) |> bo fun t70 =>
                  brX t70
                   (
                    retK m.length r51.2 [t0, t1] (.bool false))
                   (
                    (binX .neq .no r51.1 r36.1) |> bo fun t73 =>
                    brX t73
                     (
                      retK m.length r51.2 [t0, t1] (.bool false))
                     (
                      retK m.length r51.2 [t0, t1] (.bool true)))))))))))
 | _, _ => none
noncomputable def C_laws_FnExactRowBytes : List Value → Mem → Option VM := fcall X_laws_FnExactRowBytes
@[simp] theorem c_laws_FnExactRowBytes : C_laws_FnExactRowBytes = fcall X_laws_FnExactRowBytes := (rfl)
theorem cok_laws_FnExactRowBytes : codeOk CT Tryd.f3 (Tryd.f3.body.get rfl) = true := by kernel_rfl
theorem xe_laws_FnExactRowBytes (t0 t1 : Value) (m : Mem) : ex CT cf_laws_FnExactRowBytes Tryd.f3 2 m.length [] (fun _ _ _ => none) 400 [.code (Tryd.f3.body.get rfl)] (argsT 0 [t0, t1]) m = X_laws_FnExactRowBytes [t0, t1] m := by kernel_rfl
theorem okc_laws_FnExactRowBytes : CallOK CT cf_laws_FnExactRowBytes := cfc_ok ok_C_laws_szScreen (cfc_ok ok_C_spec_RowBytes (cfc_ok ok_C_laws_toScreen (cfc_ok ok_C_impl_RowBytes (cfc_ok ok_C_laws_eqBytesResult (cfc_ok ok_C_laws_eqScreen (cfc_ok ok_C_laws_markScreen (cfc_ok ok_C_laws_markBytesResult (cfc_ok ok_C_laws_heldBytesResult cfn_ok))))))))
theorem ok_X_laws_FnExactRowBytes : OkX CT 3 X_laws_FnExactRowBytes := OkX.of_ex (cf := cf_laws_FnExactRowBytes) (np := 2) (LL := []) (J := (fun _ _ _ _ => none)) CT_ok rfl Tryd.func3 rfl (Nat.le_of_ble_eq_true rfl) (by decide) cok_laws_FnExactRowBytes okc_laws_FnExactRowBytes (fun k => noLoops rfl) (fun args m r h => match args, h with
  | [t0, t1], h => ⟨rfl, (xe_laws_FnExactRowBytes t0 t1 m).trans h⟩)
theorem ok_C_laws_FnExactRowBytes : OkC CT 3 C_laws_FnExactRowBytes := fcall_ok rfl ok_X_laws_FnExactRowBytes
end Go.Ab
