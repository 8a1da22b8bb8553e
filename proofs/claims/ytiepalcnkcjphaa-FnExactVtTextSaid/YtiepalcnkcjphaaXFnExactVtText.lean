/- Plain forms of functions, printed by gen.py. -/
import Derived.Test.YtiepalcnkcjphaaCf16
import Derived.Test.YtiepalcnkcjphaaFC
set_option linter.unusedVariables false
set_option linter.unusedSimpArgs false
namespace Go.Ab
open Go.Proofs
set_option maxRecDepth 100000
set_option linter.unusedVariables false
noncomputable def cf_laws_szInt64S : CallF := cfn
noncomputable def X_laws_szInt64S : List Value → Mem → Option VM
 | [t0, t1], m =>
  (lenX t0) |> bo fun t7 =>
  (binX .sub .no t1 t7) |> bo fun t8 =>
  (binX .lss .no t8 (.int .i64 0)) |> bo fun t10 =>
  brX t10
   (
    retK m.length m [t0, t8] (.int .i64 (-1)))
   (
    retK m.length m [t0, t8] t8)
 | _, _ => none
noncomputable def C_laws_szInt64S : List Value → Mem → Option VM := fcall X_laws_szInt64S
@[simp] theorem c_laws_szInt64S : C_laws_szInt64S = fcall X_laws_szInt64S := (rfl)
theorem cok_laws_szInt64S : codeOk CT Try.f24 (Try.f24.body.get rfl) = true := by kernel_rfl
theorem xe_laws_szInt64S (t0 t1 : Value) (m : Mem) : ex CT cf_laws_szInt64S Try.f24 2 m.length [] (fun _ _ _ => none) 400 [.code (Try.f24.body.get rfl)] (argsT 0 [t0, t1]) m = X_laws_szInt64S [t0, t1] m := by kernel_rfl
theorem okc_laws_szInt64S : CallOK CT cf_laws_szInt64S := cfn_ok
theorem ok_X_laws_szInt64S : OkX CT 24 X_laws_szInt64S := OkX.of_ex (cf := cf_laws_szInt64S) (np := 2) (LL := []) (J := (fun _ _ _ _ => none)) CT_ok rfl Try.func24 rfl (Nat.le_of_ble_eq_true rfl) (by decide) cok_laws_szInt64S okc_laws_szInt64S (fun k => noLoops rfl) (fun args m r h => match args, h with
  | [t0, t1], h => ⟨rfl, (xe_laws_szInt64S t0 t1 m).trans h⟩)
theorem ok_C_laws_szInt64S : OkC CT 24 C_laws_szInt64S := fcall_ok rfl ok_X_laws_szInt64S
noncomputable def cf_laws_szParser : CallF := cfc 24 C_laws_szInt64S cfn
noncomputable def X_laws_szParser : List Value → Mem → Option VM
 | [t0, t1], m =>
  (boxX m t0) |> bo fun r1 =>
  (fadX 3 r1.1) |> bo fun t5 =>
  (ld1 r1.2 t5) |> bo fun t6 =>
  (C_laws_szInt64S [t6, t1] r1.2) |> bo fun r4 =>
  (binX .lss .no r4.1 (.int .i64 0)) |> bo fun t10 =>
  brX t10
   (
    retK m.length r4.2 [t0, r4.1] (.int .i64 (-1)))
   (
    retK m.length r4.2 [t0, r4.1] r4.1)
 | _, _ => none
noncomputable def C_laws_szParser : List Value → Mem → Option VM := fcall X_laws_szParser
@[simp] theorem c_laws_szParser : C_laws_szParser = fcall X_laws_szParser := (rfl)
theorem cok_laws_szParser : codeOk CT Try.f10 (Try.f10.body.get rfl) = true := by kernel_rfl
theorem xe_laws_szParser (t0 t1 : Value) (m : Mem) : ex CT cf_laws_szParser Try.f10 2 m.length [] (fun _ _ _ => none) 400 [.code (Try.f10.body.get rfl)] (argsT 0 [t0, t1]) m = X_laws_szParser [t0, t1] m := by kernel_rfl
theorem okc_laws_szParser : CallOK CT cf_laws_szParser := cfc_ok ok_C_laws_szInt64S cfn_ok
theorem ok_X_laws_szParser : OkX CT 10 X_laws_szParser := OkX.of_ex (cf := cf_laws_szParser) (np := 2) (LL := []) (J := (fun _ _ _ _ => none)) CT_ok rfl Try.func10 rfl (Nat.le_of_ble_eq_true rfl) (by decide) cok_laws_szParser okc_laws_szParser (fun k => noLoops rfl) (fun args m r h => match args, h with
  | [t0, t1], h => ⟨rfl, (xe_laws_szParser t0 t1 m).trans h⟩)
theorem ok_C_laws_szParser : OkC CT 10 C_laws_szParser := fcall_ok rfl ok_X_laws_szParser
noncomputable def cf_laws_szCellS : CallF := cfn
noncomputable def X_laws_szCellS : List Value → Mem → Option VM
 | [t0, t1], m =>
  (lenX t0) |> bo fun t7 =>
  (binX .sub .no t1 t7) |> bo fun t8 =>
  (binX .lss .no t8 (.int .i64 0)) |> bo fun t10 =>
  brX t10
   (
    retK m.length m [t0, t8] (.int .i64 (-1)))
   (
    retK m.length m [t0, t8] t8)
 | _, _ => none
noncomputable def C_laws_szCellS : List Value → Mem → Option VM := fcall X_laws_szCellS
@[simp] theorem c_laws_szCellS : C_laws_szCellS = fcall X_laws_szCellS := (rfl)
theorem cok_laws_szCellS : codeOk CT Try.f43 (Try.f43.body.get rfl) = true := by kernel_rfl
theorem xe_laws_szCellS (t0 t1 : Value) (m : Mem) : ex CT cf_laws_szCellS Try.f43 2 m.length [] (fun _ _ _ => none) 400 [.code (Try.f43.body.get rfl)] (argsT 0 [t0, t1]) m = X_laws_szCellS [t0, t1] m := by kernel_rfl
theorem okc_laws_szCellS : CallOK CT cf_laws_szCellS := cfn_ok
theorem ok_X_laws_szCellS : OkX CT 43 X_laws_szCellS := OkX.of_ex (cf := cf_laws_szCellS) (np := 2) (LL := []) (J := (fun _ _ _ _ => none)) CT_ok rfl Try.func43 rfl (Nat.le_of_ble_eq_true rfl) (by decide) cok_laws_szCellS okc_laws_szCellS (fun k => noLoops rfl) (fun args m r h => match args, h with
  | [t0, t1], h => ⟨rfl, (xe_laws_szCellS t0 t1 m).trans h⟩)
theorem ok_C_laws_szCellS : OkC CT 43 C_laws_szCellS := fcall_ok rfl ok_X_laws_szCellS
noncomputable def cf_laws_szGrid : CallF := cfc 43 C_laws_szCellS cfn
noncomputable def X_laws_szGrid : List Value → Mem → Option VM
 | [t0, t1], m =>
  (boxX m t0) |> bo fun r1 =>
  (fadX 2 r1.1) |> bo fun t5 =>
  (ld1 r1.2 t5) |> bo fun t6 =>
  (C_laws_szCellS [t6, t1] r1.2) |> bo fun r4 =>
  (binX .lss .no r4.1 (.int .i64 0)) |> bo fun t10 =>
  brX t10
   (
    retK m.length r4.2 [t0, r4.1] (.int .i64 (-1)))
   (
    (fadX 3 r1.1) |> bo fun t11 =>
    (ld1 r4.2 t11) |> bo fun t12 =>
    (C_laws_szCellS [t12, r4.1] r4.2) |> bo fun r8 =>
    (binX .lss .no r8.1 (.int .i64 0)) |> bo fun t16 =>
    brX t16
     (
      retK m.length r8.2 [t0, r8.1] (.int .i64 (-1)))
     (
      retK m.length r8.2 [t0, r8.1] r8.1))
 | _, _ => none
noncomputable def C_laws_szGrid : List Value → Mem → Option VM := fcall X_laws_szGrid
@[simp] theorem c_laws_szGrid : C_laws_szGrid = fcall X_laws_szGrid := (rfl)
theorem cok_laws_szGrid : codeOk CT Try.f25 (Try.f25.body.get rfl) = true := by kernel_rfl
theorem xe_laws_szGrid (t0 t1 : Value) (m : Mem) : ex CT cf_laws_szGrid Try.f25 2 m.length [] (fun _ _ _ => none) 400 [.code (Try.f25.body.get rfl)] (argsT 0 [t0, t1]) m = X_laws_szGrid [t0, t1] m := by kernel_rfl
theorem okc_laws_szGrid : CallOK CT cf_laws_szGrid := cfc_ok ok_C_laws_szCellS cfn_ok
theorem ok_X_laws_szGrid : OkX CT 25 X_laws_szGrid := OkX.of_ex (cf := cf_laws_szGrid) (np := 2) (LL := []) (J := (fun _ _ _ _ => none)) CT_ok rfl Try.func25 rfl (Nat.le_of_ble_eq_true rfl) (by decide) cok_laws_szGrid okc_laws_szGrid (fun k => noLoops rfl) (fun args m r h => match args, h with
  | [t0, t1], h => ⟨rfl, (xe_laws_szGrid t0 t1 m).trans h⟩)
theorem ok_C_laws_szGrid : OkC CT 25 C_laws_szGrid := fcall_ok rfl ok_X_laws_szGrid
noncomputable def cf_laws_szBoolS : CallF := cfn
noncomputable def X_laws_szBoolS : List Value → Mem → Option VM
 | [t0, t1], m =>
  (lenX t0) |> bo fun t7 =>
  (binX .sub .no t1 t7) |> bo fun t8 =>
  (binX .lss .no t8 (.int .i64 0)) |> bo fun t10 =>
  brX t10
   (
    retK m.length m [t0, t8] (.int .i64 (-1)))
   (
    retK m.length m [t0, t8] t8)
 | _, _ => none
noncomputable def C_laws_szBoolS : List Value → Mem → Option VM := fcall X_laws_szBoolS
@[simp] theorem c_laws_szBoolS : C_laws_szBoolS = fcall X_laws_szBoolS := (rfl)
theorem cok_laws_szBoolS : codeOk CT Try.f26 (Try.f26.body.get rfl) = true := by kernel_rfl
theorem xe_laws_szBoolS (t0 t1 : Value) (m : Mem) : ex CT cf_laws_szBoolS Try.f26 2 m.length [] (fun _ _ _ => none) 400 [.code (Try.f26.body.get rfl)] (argsT 0 [t0, t1]) m = X_laws_szBoolS [t0, t1] m := by kernel_rfl
theorem okc_laws_szBoolS : CallOK CT cf_laws_szBoolS := cfn_ok
theorem ok_X_laws_szBoolS : OkX CT 26 X_laws_szBoolS := OkX.of_ex (cf := cf_laws_szBoolS) (np := 2) (LL := []) (J := (fun _ _ _ _ => none)) CT_ok rfl Try.func26 rfl (Nat.le_of_ble_eq_true rfl) (by decide) cok_laws_szBoolS okc_laws_szBoolS (fun k => noLoops rfl) (fun args m r h => match args, h with
  | [t0, t1], h => ⟨rfl, (xe_laws_szBoolS t0 t1 m).trans h⟩)
theorem ok_C_laws_szBoolS : OkC CT 26 C_laws_szBoolS := fcall_ok rfl ok_X_laws_szBoolS
noncomputable def cf_laws_szScreen : CallF := cfc 24 C_laws_szInt64S (cfc 25 C_laws_szGrid (cfc 26 C_laws_szBoolS cfn))
noncomputable def X_laws_szScreen : List Value → Mem → Option VM
 | [t0, t1], m =>
  (boxX m t0) |> bo fun r1 =>
  (fadX 0 r1.1) |> bo fun t5 =>
  (ldS r1.2 4 t5) |> bo fun t6 =>
  (C_laws_szGrid [t6, t1] r1.2) |> bo fun r4 =>
  (binX .lss .no r4.1 (.int .i64 0)) |> bo fun t10 =>
  brX t10
   (
    retK m.length r4.2 [t0, r4.1] (.int .i64 (-1)))
   (
    (fadX 13 r1.1) |> bo fun t11 =>
    (ld1 r4.2 t11) |> bo fun t12 =>
    (C_laws_szBoolS [t12, r4.1] r4.2) |> bo fun r8 =>
    (binX .lss .no r8.1 (.int .i64 0)) |> bo fun t16 =>
    brX t16
     (
      retK m.length r8.2 [t0, r8.1] (.int .i64 (-1)))
     (
      (fadX 17 r1.1) |> bo fun t17 =>
      (ld1 r8.2 t17) |> bo fun t18 =>
      (C_laws_szInt64S [t18, r8.1] r8.2) |> bo fun r12 =>
      (binX .lss .no r12.1 (.int .i64 0)) |> bo fun t22 =>
      brX t22
       (
        retK m.length r12.2 [t0, r12.1] (.int .i64 (-1)))
       (
        retK m.length r12.2 [t0, r12.1] r12.1)))
 | _, _ => none
noncomputable def C_laws_szScreen : List Value → Mem → Option VM := fcall X_laws_szScreen
@[simp] theorem c_laws_szScreen : C_laws_szScreen = fcall X_laws_szScreen := (rfl)
theorem cok_laws_szScreen : codeOk CT Try.f11 (Try.f11.body.get rfl) = true := by kernel_rfl
theorem xe_laws_szScreen (t0 t1 : Value) (m : Mem) : ex CT cf_laws_szScreen Try.f11 2 m.length [] (fun _ _ _ => none) 400 [.code (Try.f11.body.get rfl)] (argsT 0 [t0, t1]) m = X_laws_szScreen [t0, t1] m := by kernel_rfl
theorem okc_laws_szScreen : CallOK CT cf_laws_szScreen := cfc_ok ok_C_laws_szInt64S (cfc_ok ok_C_laws_szGrid (cfc_ok ok_C_laws_szBoolS cfn_ok))
theorem ok_X_laws_szScreen : OkX CT 11 X_laws_szScreen := OkX.of_ex (cf := cf_laws_szScreen) (np := 2) (LL := []) (J := (fun _ _ _ _ => none)) CT_ok rfl Try.func11 rfl (Nat.le_of_ble_eq_true rfl) (by decide) cok_laws_szScreen okc_laws_szScreen (fun k => noLoops rfl) (fun args m r h => match args, h with
  | [t0, t1], h => ⟨rfl, (xe_laws_szScreen t0 t1 m).trans h⟩)
theorem ok_C_laws_szScreen : OkC CT 11 C_laws_szScreen := fcall_ok rfl ok_X_laws_szScreen
noncomputable def cf_laws_szVt : CallF := cfc 10 C_laws_szParser (cfc 11 C_laws_szScreen cfn)
noncomputable def X_laws_szVt : List Value → Mem → Option VM
 | [t0, t1], m =>
  (boxX m t0) |> bo fun r1 =>
  (fadX 3 r1.1) |> bo fun t5 =>
  (ldS r1.2 4 t5) |> bo fun t6 =>
  (C_laws_szParser [t6, t1] r1.2) |> bo fun r4 =>
  (binX .lss .no r4.1 (.int .i64 0)) |> bo fun t10 =>
  brX t10
   (
    retK m.length r4.2 [t0, r4.1] (.int .i64 (-1)))
   (
    (fadX 7 r1.1) |> bo fun t11 =>
    (ldS r4.2 20 t11) |> bo fun t12 =>
    (C_laws_szScreen [t12, r4.1] r4.2) |> bo fun r8 =>
    (binX .lss .no r8.1 (.int .i64 0)) |> bo fun t16 =>
    brX t16
     (
      retK m.length r8.2 [t0, r8.1] (.int .i64 (-1)))
     (
      retK m.length r8.2 [t0, r8.1] r8.1))
 | _, _ => none
noncomputable def C_laws_szVt : List Value → Mem → Option VM := fcall X_laws_szVt
@[simp] theorem c_laws_szVt : C_laws_szVt = fcall X_laws_szVt := (rfl)
theorem cok_laws_szVt : codeOk CT Try.f4 (Try.f4.body.get rfl) = true := by kernel_rfl
theorem xe_laws_szVt (t0 t1 : Value) (m : Mem) : ex CT cf_laws_szVt Try.f4 2 m.length [] (fun _ _ _ => none) 400 [.code (Try.f4.body.get rfl)] (argsT 0 [t0, t1]) m = X_laws_szVt [t0, t1] m := by kernel_rfl
theorem okc_laws_szVt : CallOK CT cf_laws_szVt := cfc_ok ok_C_laws_szParser (cfc_ok ok_C_laws_szScreen cfn_ok)
theorem ok_X_laws_szVt : OkX CT 4 X_laws_szVt := OkX.of_ex (cf := cf_laws_szVt) (np := 2) (LL := []) (J := (fun _ _ _ _ => none)) CT_ok rfl Try.func4 rfl (Nat.le_of_ble_eq_true rfl) (by decide) cok_laws_szVt okc_laws_szVt (fun k => noLoops rfl) (fun args m r h => match args, h with
  | [t0, t1], h => ⟨rfl, (xe_laws_szVt t0 t1 m).trans h⟩)
theorem ok_C_laws_szVt : OkC CT 4 C_laws_szVt := fcall_ok rfl ok_X_laws_szVt
noncomputable def cf_spec_l1In : CallF := cfn
noncomputable def X_spec_l1In : List Value → Mem → Option VM
 | [t0, t1, t2], m =>
  (binX .geq .no t0 t1) |> bo fun t9 =>
  (gd t9 true (some (t0, m)) m) |> bo fun r2 =>
  (gd t9 true (some (t2, r2.2)) r2.2) |> bo fun r3 =>
  (gd t9 true ((binX .leq .no r2.1 r3.1) |> bo fun v => some (v, r3.2)) r3.2) |> bo fun r4 =>
  (pickX t9 r4.1 (.bool false)) |> bo fun t14 =>
  retK m.length r4.2 [t0, t1, t2] t14
 | _, _ => none
noncomputable def C_spec_l1In : List Value → Mem → Option VM := fcall X_spec_l1In
@[simp] theorem c_spec_l1In : C_spec_l1In = fcall X_spec_l1In := (rfl)
theorem cok_spec_l1In : codeOk CT Try.f44 (Try.f44.body.get rfl) = true := by kernel_rfl
theorem xe_spec_l1In (t0 t1 t2 : Value) (m : Mem) : ex CT cf_spec_l1In Try.f44 3 m.length [] (fun _ _ _ => none) 400 [.code (Try.f44.body.get rfl)] (argsT 0 [t0, t1, t2]) m = X_spec_l1In [t0, t1, t2] m := by kernel_rfl
theorem okc_spec_l1In : CallOK CT cf_spec_l1In := cfn_ok
theorem ok_X_spec_l1In : OkX CT 44 X_spec_l1In := OkX.of_ex (cf := cf_spec_l1In) (np := 3) (LL := []) (J := (fun _ _ _ _ => none)) CT_ok rfl Try.func44 rfl (Nat.le_of_ble_eq_true rfl) (by decide) cok_spec_l1In okc_spec_l1In (fun k => noLoops rfl) (fun args m r h => match args, h with
  | [t0, t1, t2], h => ⟨rfl, (xe_spec_l1In t0 t1 t2 m).trans h⟩)
theorem ok_C_spec_l1In : OkC CT 44 C_spec_l1In := fcall_ok rfl ok_X_spec_l1In
noncomputable def cf_spec_l1Fault : CallF := cfc 44 C_spec_l1In cfn
noncomputable def X_spec_l1Fault : List Value → Mem → Option VM
 | [t0], m =>
  (nilX t0) |> bo fun t6 =>
  (fadX 0 t6) |> bo fun t7 =>
  (ld1 m t7) |> bo fun t8 =>
  (binX .eql .no t8 (.int .i64 0)) |> bo fun t9 =>
  brX t9
   (
    (nilX t0) |> bo fun t11 =>
    (fadX 1 t11) |> bo fun t12 =>
    (ld1 m t12) |> bo fun t13 =>
    (binX .eql .no t13 (.int .i64 0)) |> bo fun t14 =>
    (gd t14 true (some (t0, m)) m) |> bo fun r9 =>
    (gd t14 true ((nilX r9.1) |> bo fun v => some (v, r9.2)) r9.2) |> bo fun r10 =>
    (gd t14 true ((fadX 2 r10.1) |> bo fun v => some (v, r10.2)) r10.2) |> bo fun r11 =>
    (gd t14 true ((ld1 r11.2 r11.1) |> bo fun v => some (v, r11.2)) r11.2) |> bo fun r12 =>
    (gd t14 true ((binX .eql .no r12.1 (.int .i64 0)) |> bo fun v => some (v, r12.2)) r12.2) |> bo fun r13 =>
    (pickX t14 r13.1 (.bool false)) |> bo fun t21 =>
    (uop .not t21) |> bo fun t77 =>
    brX t77
     (
      retK m.length r13.2 [t0] (.int .i64 3))
     (
      retK m.length r13.2 [t0] (.int .i64 0)))
   (
    (nilX t0) |> bo fun t24 =>
    (fadX 0 t24) |> bo fun t25 =>
    (ld1 m t25) |> bo fun t26 =>
    (binX .eql .no t26 (.int .i64 2)) |> bo fun t27 =>
    brX t27
     (
      (nilX t0) |> bo fun t29 =>
      (fadX 1 t29) |> bo fun t30 =>
      (ld1 m t30) |> bo fun t31 =>
      (binX .eql .no t31 (.int .i64 2048)) |> bo fun t32 =>
      (gd t32 true (some (t0, m)) m) |> bo fun r24 =>
      (gd t32 true ((nilX r24.1) |> bo fun v => some (v, r24.2)) r24.2) |> bo fun r25 =>
      (gd t32 true ((fadX 2 r25.1) |> bo fun v => some (v, r25.2)) r25.2) |> bo fun r26 =>
      (gd t32 true ((ld1 r26.2 r26.1) |> bo fun v => some (v, r26.2)) r26.2) |> bo fun r27 =>
      (gd t32 true ((C_spec_l1In [r27.1, (.int .i64 0), (.int .i64 15)] r27.2) |> bo fun r => some (r.1, r.2)) r27.2) |> bo fun r28 =>
      (pickX t32 r28.1 (.bool false)) |> bo fun t39 =>
      (uop .not t39) |> bo fun t77 =>
      brX t77
       (
        retK m.length r28.2 [t0] (.int .i64 3))
       (
        retK m.length r28.2 [t0] (.int .i64 0)))
     (
      (nilX t0) |> bo fun t42 =>
      (fadX 0 t42) |> bo fun t43 =>
      (ld1 m t43) |> bo fun t44 =>
      (binX .eql .no t44 (.int .i64 1)) |> bo fun t45 =>
      (gd t45 true (some (t0, m)) m) |> bo fun r35 =>
      (gd t45 true ((nilX r35.1) |> bo fun v => some (v, r35.2)) r35.2) |> bo fun r36 =>
      (gd t45 true ((fadX 1 r36.1) |> bo fun v => some (v, r36.2)) r36.2) |> bo fun r37 =>
      (gd t45 true ((ld1 r37.2 r37.1) |> bo fun v => some (v, r37.2)) r37.2) |> bo fun r38 =>
      (gd t45 true ((binX .eql .no r38.1 (.int .i64 128)) |> bo fun v => some (v, r38.2)) r38.2) |> bo fun r39 =>
      (pickX t45 r39.1 (.bool false)) |> bo fun t52 =>
      brX t52
       (
        (nilX t0) |> bo fun t54 =>
        (fadX 2 t54) |> bo fun t55 =>
        (ld1 r39.2 t55) |> bo fun t56 =>
        (C_spec_l1In [t56, (.int .i64 2), (.int .i64 31)] r39.2) |> bo fun r44 =>
        (uop .not r44.1) |> bo fun t77 =>
        brX t77
         (
          retK m.length r44.2 [t0] (.int .i64 3))
         (
          retK m.length r44.2 [t0] (.int .i64 0)))
       (
        (nilX t0) |> bo fun t60 =>
        (fadX 0 t60) |> bo fun t61 =>
        (ld1 r39.2 t61) |> bo fun t62 =>
        (binX .eql .no t62 (.int .i64 1)) |> bo fun t63 =>
        (gd t63 true (some (t0, r39.2)) r39.2) |> bo fun r50 =>
        (gd t63 true ((nilX r50.1) |> bo fun v => some (v, r50.2)) r50.2) |> bo fun r51 =>
        (gd t63 true ((fadX 1 r51.1) |> bo fun v => some (v, r51.2)) r51.2) |> bo fun r52 =>
        (gd t63 true ((ld1 r52.2 r52.1) |> bo fun v => some (v, r52.2)) r52.2) |> bo fun r53 =>
        (gd t63 true ((binX .eql .no r53.1 (.int .i64 2048)) |> bo fun v => some (v, r53.2)) r53.2) |> bo fun r54 =>
        (pickX t63 r54.1 (.bool false)) |> bo fun t70 =>
        brX t70
         (
          (nilX t0) |> bo fun t72 =>
          (fadX 2 t72) |> bo fun t73 =>
          (ld1 r54.2 t73) |> bo fun t74 =>
          (C_spec_l1In [t74, (.int .i64 0), (.int .i64 1023)] r54.2) |> bo fun r59 =>
          (uop .not r59.1) |> bo fun t77 =>
          brX t77
           (
            retK m.length r59.2 [t0] (.int .i64 3))
           (
            retK m.length r59.2 [t0] (.int .i64 0)))
         (
          (uop .not (.bool false)) |> bo fun t77 =>
          brX t77
           (
            retK m.length r54.2 [t0] (.int .i64 3))
           (
            retK m.length r54.2 [t0] (.int .i64 0))))))
 | _, _ => none
noncomputable def C_spec_l1Fault : List Value → Mem → Option VM := fcall X_spec_l1Fault
@[simp] theorem c_spec_l1Fault : C_spec_l1Fault = fcall X_spec_l1Fault := (rfl)
theorem cok_spec_l1Fault : codeOk CT Try.f27 (Try.f27.body.get rfl) = true := by kernel_rfl
theorem xe_spec_l1Fault (t0 : Value) (m : Mem) : ex CT cf_spec_l1Fault Try.f27 1 m.length [] (fun _ _ _ => none) 400 [.code (Try.f27.body.get rfl)] (argsT 0 [t0]) m = X_spec_l1Fault [t0] m := by kernel_rfl
theorem okc_spec_l1Fault : CallOK CT cf_spec_l1Fault := cfc_ok ok_C_spec_l1In cfn_ok
theorem ok_X_spec_l1Fault : OkX CT 27 X_spec_l1Fault := OkX.of_ex (cf := cf_spec_l1Fault) (np := 1) (LL := []) (J := (fun _ _ _ _ => none)) CT_ok rfl Try.func27 rfl (Nat.le_of_ble_eq_true rfl) (by decide) cok_spec_l1Fault okc_spec_l1Fault (fun k => noLoops rfl) (fun args m r h => match args, h with
  | [t0], h => ⟨rfl, (xe_spec_l1Fault t0 m).trans h⟩)
theorem ok_C_spec_l1Fault : OkC CT 27 C_spec_l1Fault := fcall_ok rfl ok_X_spec_l1Fault
noncomputable def cf_spec_l4Params : CallF := cfc 44 C_spec_l1In cfn
noncomputable def L_spec_l4Params (k : Nat) : Nat → Nat → List Value → Mem → Option VM
 | q + 1, 0, [t0, t3], m =>
  (lenX t0) |> bo fun t14 =>
  (binX .lss .no t3 t14) |> bo fun t15 =>
  brX t15
   (
    (ixaX 1 t0 t3) |> bo fun t20 =>
    (ld1 m t20) |> bo fun t21 =>
    (C_spec_l1In [t21, (.int .i64 0), (.int .i64 999)] m) |> bo fun r5 =>
    (uop .not r5.1) |> bo fun t23 =>
    brX t23
     (
      retK k r5.2 [t0] (.int .i64 3))
     (
      (binX .add .no t3 (.int .i64 1)) |> bo fun t17 =>
      cutK k r5.2 [t0] [t0, t17] (L_spec_l4Params k q 0)))
   (
    retK k m [t0] (.int .i64 0))
 | _, _, _, _ => none
noncomputable def J_spec_l4Params (k q l : Nat) : List Value → Mem → Option VM := cond (Nat.beq l 4) (L_spec_l4Params k q 0) (fun _ _ => none)
def LL_spec_l4Params : List (Nat × List Tmp) := [(4, [0, 3])]
noncomputable def X_spec_l4Params : List Value → Mem → Option VM
 | [t0], m =>
  (lenX t0) |> bo fun t5 =>
  (binX .lss .no t5 (.int .i64 1)) |> bo fun t6 =>
  (gd t6 false (some (t0, m)) m) |> bo fun r3 =>
  (gd t6 false ((lenX r3.1) |> bo fun v => some (v, r3.2)) r3.2) |> bo fun r4 =>
  (gd t6 false ((binX .gtr .no r4.1 (.int .i64 6)) |> bo fun v => some (v, r4.2)) r4.2) |> bo fun r5 =>
  (pickX t6 (.bool true) r5.1) |> bo fun t11 =>
  brX t11
   (
    retK m.length r5.2 [t0] (.int .i64 2))
   (
    cutK m.length r5.2 [t0] [t0, (.int .i64 0)] (L_spec_l4Params m.length QQ 0))
 | _, _ => none
noncomputable def C_spec_l4Params : List Value → Mem → Option VM := fcall X_spec_l4Params
@[simp] theorem c_spec_l4Params : C_spec_l4Params = fcall X_spec_l4Params := (rfl)
theorem cok_spec_l4Params : codeOk CT Try.f45 (Try.f45.body.get rfl) = true := by kernel_rfl
theorem xe_spec_l4Params (t0 : Value) (m : Mem) : ex CT cf_spec_l4Params Try.f45 1 m.length LL_spec_l4Params (J_spec_l4Params m.length QQ) 400 [.code (Try.f45.body.get rfl)] (argsT 0 [t0]) m = X_spec_l4Params [t0] m := by kernel_rfl
theorem okc_spec_l4Params : CallOK CT cf_spec_l4Params := cfc_ok ok_C_spec_l1In cfn_ok
theorem le_spec_l4Params_0 (k q : Nat) (t0 t3 : Value) (m : Mem) : ex CT cf_spec_l4Params Try.f45 1 k LL_spec_l4Params (J_spec_l4Params k q) 400 (atLoop Try.f45 0) [(0, t0), (3, t3)] m = J_spec_l4Params k (q + 1) 4 [t0, t3] m := by kernel_rfl
theorem gl_spec_l4Params (k : Nat) : ∀ q i, i < 1 → GoodL CT k Try.f45 LL_spec_l4Params (J_spec_l4Params k q) (atLoop Try.f45 i)
 | 0, 0, _ => goodL_zero (l := 4) (by kernel_rfl) (fun vs m => by kernel_rfl)
 | 0, _ + 1, h => absurd h (by omega)
 | q + 1, 0, _ => goodL_succ (np := 1) (l := 4) (live := [0, 3]) (n := 1) CT_ok rfl okc_spec_l4Params (c := (Try.f45.body.get rfl)) rfl cok_spec_l4Params (by kernel_rfl) (gl_spec_l4Params k q) (by kernel_rfl) rfl (fun vs m r hl h => match vs, hl with
  | [t0, t3], _ => (le_spec_l4Params_0 k q t0 t3 m).trans h)
 | _ + 1, _ + 1, h => absurd h (by omega)
theorem ok_X_spec_l4Params : OkX CT 45 X_spec_l4Params := OkX.of_ex (cf := cf_spec_l4Params) (np := 1) (LL := LL_spec_l4Params) (J := (fun k => J_spec_l4Params k QQ)) CT_ok rfl Try.func45 rfl (Nat.le_of_ble_eq_true rfl) (by decide) cok_spec_l4Params okc_spec_l4Params (fun k => allLoops rfl (by kernel_rfl) (gl_spec_l4Params k QQ)) (fun args m r h => match args, h with
  | [t0], h => ⟨rfl, (xe_spec_l4Params t0 m).trans h⟩)
theorem ok_C_spec_l4Params : OkC CT 45 C_spec_l4Params := fcall_ok rfl ok_X_spec_l4Params
noncomputable def cf_spec_l4Fault : CallF := cfc 44 C_spec_l1In (cfc 45 C_spec_l4Params cfn)
noncomputable def X_spec_l4Fault : List Value → Mem → Option VM
 | [t0], m =>
  (nilX t0) |> bo fun t4 =>
  (fadX 0 t4) |> bo fun t5 =>
  (ld1 m t5) |> bo fun t6 =>
  (C_spec_l1In [t6, (.int .i64 0), (.int .i64 3)] m) |> bo fun r4 =>
  (uop .not r4.1) |> bo fun t8 =>
  (gd t8 false (some (t0, r4.2)) r4.2) |> bo fun r6 =>
  (gd t8 false ((nilX r6.1) |> bo fun v => some (v, r6.2)) r6.2) |> bo fun r7 =>
  (gd t8 false ((fadX 0 r7.1) |> bo fun v => some (v, r7.2)) r7.2) |> bo fun r8 =>
  (gd t8 false ((ld1 r8.2 r8.1) |> bo fun v => some (v, r8.2)) r8.2) |> bo fun r9 =>
  (gd t8 false ((binX .neq .no r9.1 (.int .i64 3)) |> bo fun v => some (v, r9.2)) r9.2) |> bo fun r10 =>
  (gd t8 false (some (r10.1, r10.2)) r10.2) |> bo fun r11 =>
  (gd r11.1 true (some (t0, r11.2)) r11.2) |> bo fun r12 =>
  (gd r11.1 true ((nilX r12.1) |> bo fun v => some (v, r12.2)) r12.2) |> bo fun r13 =>
  (gd r11.1 true ((fadX 1 r13.1) |> bo fun v => some (v, r13.2)) r13.2) |> bo fun r14 =>
  (gd r11.1 true ((ld1 r14.2 r14.1) |> bo fun v => some (v, r14.2)) r14.2) |> bo fun r15 =>
  (gd r11.1 true ((binX .neq .no r15.1 (.int .i64 0)) |> bo fun v => some (v, r15.2)) r15.2) |> bo fun r16 =>
  (gd t8 false ((pickX r11.1 r16.1 (.bool false)) |> bo fun v => some (v, r16.2)) r16.2) |> bo fun r17 =>
  (pickX t8 (.bool true) r17.1) |> bo fun t22 =>
  (gd t22 false (some (t0, r17.2)) r17.2) |> bo fun r19 =>
  (gd t22 false ((nilX r19.1) |> bo fun v => some (v, r19.2)) r19.2) |> bo fun r20 =>
  (gd t22 false ((fadX 0 r20.1) |> bo fun v => some (v, r20.2)) r20.2) |> bo fun r21 =>
  (gd t22 false ((ld1 r21.2 r21.1) |> bo fun v => some (v, r21.2)) r21.2) |> bo fun r22 =>
  (gd t22 false ((binX .neq .no r22.1 (.int .i64 2)) |> bo fun v => some (v, r22.2)) r22.2) |> bo fun r23 =>
  (gd t22 false (some (r23.1, r23.2)) r23.2) |> bo fun r24 =>
  (gd r24.1 true (some (t0, r24.2)) r24.2) |> bo fun r25 =>
  (gd r24.1 true ((nilX r25.1) |> bo fun v => some (v, r25.2)) r25.2) |> bo fun r26 =>
  (gd r24.1 true ((fadX 2 r26.1) |> bo fun v => some (v, r26.2)) r26.2) |> bo fun r27 =>
  (gd r24.1 true ((ld1 r27.2 r27.1) |> bo fun v => some (v, r27.2)) r27.2) |> bo fun r28 =>
  (gd r24.1 true (some (r28.1, r28.2)) r28.2) |> bo fun r29 =>
  (gd r29.1 false (some (t0, r29.2)) r29.2) |> bo fun r30 =>
  (gd r29.1 false ((nilX r30.1) |> bo fun v => some (v, r30.2)) r30.2) |> bo fun r31 =>
  (gd r29.1 false ((fadX 3 r31.1) |> bo fun v => some (v, r31.2)) r31.2) |> bo fun r32 =>
  (gd r29.1 false ((ld1 r32.2 r32.1) |> bo fun v => some (v, r32.2)) r32.2) |> bo fun r33 =>
  (gd r29.1 false ((lenX r33.1) |> bo fun v => some (v, r33.2)) r33.2) |> bo fun r34 =>
  (gd r29.1 false ((binX .gtr .no r34.1 (.int .i64 0)) |> bo fun v => some (v, r34.2)) r34.2) |> bo fun r35 =>
  (gd r24.1 true ((pickX r29.1 (.bool true) r35.1) |> bo fun v => some (v, r35.2)) r35.2) |> bo fun r36 =>
  (gd t22 false ((pickX r24.1 r36.1 (.bool false)) |> bo fun v => some (v, r36.2)) r36.2) |> bo fun r37 =>
  (pickX t22 (.bool true) r37.1) |> bo fun t43 =>
  brX t43
   (
    retK m.length r37.2 [t0] (.int .i64 1))
   (
    (nilX t0) |> bo fun t45 =>
    (fadX 0 t45) |> bo fun t46 =>
    (ld1 r37.2 t46) |> bo fun t47 =>
    (binX .eql .no t47 (.int .i64 3)) |> bo fun t48 =>
    (gd t48 true (some (t0, r37.2)) r37.2) |> bo fun r43 =>
    (gd t48 true ((nilX r43.1) |> bo fun v => some (v, r43.2)) r43.2) |> bo fun r44 =>
    (gd t48 true ((fadX 1 r44.1) |> bo fun v => some (v, r44.2)) r44.2) |> bo fun r45 =>
    (gd t48 true ((ld1 r45.2 r45.1) |> bo fun v => some (v, r45.2)) r45.2) |> bo fun r46 =>
    (gd t48 true ((C_spec_l1In [r46.1, (.int .i64 1), (.int .i64 2)] r46.2) |> bo fun r => some (r.1, r.2)) r46.2) |> bo fun r47 =>
    (gd t48 true ((uop .not r47.1) |> bo fun v => some (v, r47.2)) r47.2) |> bo fun r48 =>
    (pickX t48 r48.1 (.bool false)) |> bo fun t56 =>
    brX t56
     (
      retK m.length r48.2 [t0] (.int .i64 3))
     (
      (nilX t0) |> bo fun t58 =>
      (fadX 0 t58) |> bo fun t59 =>
      (ld1 r48.2 t59) |> bo fun t60 =>
      (binX .eql .no t60 (.int .i64 2)) |> bo fun t61 =>
      brX t61
       (
        (nilX t0) |> bo fun t63 =>
        (fadX 3 t63) |> bo fun t64 =>
        (ld1 r48.2 t64) |> bo fun t65 =>
        (C_spec_l4Params [t65] r48.2) |> bo fun r57 =>
        retK m.length r57.2 [t0] r57.1)
       (
        retK m.length r48.2 [t0] (.int .i64 0))))
 | _, _ => none
noncomputable def C_spec_l4Fault : List Value → Mem → Option VM := fcall X_spec_l4Fault
@[simp] theorem c_spec_l4Fault : C_spec_l4Fault = fcall X_spec_l4Fault := (rfl)
theorem cok_spec_l4Fault : codeOk CT Try.f28 (Try.f28.body.get rfl) = true := by kernel_rfl
theorem xe_spec_l4Fault (t0 : Value) (m : Mem) : ex CT cf_spec_l4Fault Try.f28 1 m.length [] (fun _ _ _ => none) 400 [.code (Try.f28.body.get rfl)] (argsT 0 [t0]) m = X_spec_l4Fault [t0] m := by kernel_rfl
theorem okc_spec_l4Fault : CallOK CT cf_spec_l4Fault := cfc_ok ok_C_spec_l1In (cfc_ok ok_C_spec_l4Params cfn_ok)
theorem ok_X_spec_l4Fault : OkX CT 28 X_spec_l4Fault := OkX.of_ex (cf := cf_spec_l4Fault) (np := 1) (LL := []) (J := (fun _ _ _ _ => none)) CT_ok rfl Try.func28 rfl (Nat.le_of_ble_eq_true rfl) (by decide) cok_spec_l4Fault okc_spec_l4Fault (fun k => noLoops rfl) (fun args m r h => match args, h with
  | [t0], h => ⟨rfl, (xe_spec_l4Fault t0 m).trans h⟩)
theorem ok_C_spec_l4Fault : OkC CT 28 C_spec_l4Fault := fcall_ok rfl ok_X_spec_l4Fault
noncomputable def cf_spec_l3Size : CallF := cfc 44 C_spec_l1In cfn
noncomputable def X_spec_l3Size : List Value → Mem → Option VM
 | [t0, t1], m =>
  (C_spec_l1In [t0, (.int .i64 1), (.int .i64 6)] m) |> bo fun r1 =>
  (gd r1.1 true (some (t1, r1.2)) r1.2) |> bo fun r2 =>
  (gd r1.1 true ((C_spec_l1In [r2.1, (.int .i64 2), (.int .i64 12)] r2.2) |> bo fun r => some (r.1, r.2)) r2.2) |> bo fun r3 =>
  (pickX r1.1 r3.1 (.bool false)) |> bo fun t10 =>
  retK m.length r3.2 [t0, t1] t10
 | _, _ => none
noncomputable def C_spec_l3Size : List Value → Mem → Option VM := fcall X_spec_l3Size
@[simp] theorem c_spec_l3Size : C_spec_l3Size = fcall X_spec_l3Size := (rfl)
theorem cok_spec_l3Size : codeOk CT Try.f61 (Try.f61.body.get rfl) = true := by kernel_rfl
theorem xe_spec_l3Size (t0 t1 : Value) (m : Mem) : ex CT cf_spec_l3Size Try.f61 2 m.length [] (fun _ _ _ => none) 400 [.code (Try.f61.body.get rfl)] (argsT 0 [t0, t1]) m = X_spec_l3Size [t0, t1] m := by kernel_rfl
theorem okc_spec_l3Size : CallOK CT cf_spec_l3Size := cfc_ok ok_C_spec_l1In cfn_ok
theorem ok_X_spec_l3Size : OkX CT 61 X_spec_l3Size := OkX.of_ex (cf := cf_spec_l3Size) (np := 2) (LL := []) (J := (fun _ _ _ _ => none)) CT_ok rfl Try.func61 rfl (Nat.le_of_ble_eq_true rfl) (by decide) cok_spec_l3Size okc_spec_l3Size (fun k => noLoops rfl) (fun args m r h => match args, h with
  | [t0, t1], h => ⟨rfl, (xe_spec_l3Size t0 t1 m).trans h⟩)
theorem ok_C_spec_l3Size : OkC CT 61 C_spec_l3Size := fcall_ok rfl ok_X_spec_l3Size
noncomputable def cf_spec_l1Char : CallF := cfc 44 C_spec_l1In cfn
noncomputable def X_spec_l1Char : List Value → Mem → Option VM
 | [t0], m =>
  (C_spec_l1In [t0, (.int .i64 0), (.int .i64 55295)] m) |> bo fun r1 =>
  (gd r1.1 false (some (t0, r1.2)) r1.2) |> bo fun r2 =>
  (gd r1.1 false ((C_spec_l1In [r2.1, (.int .i64 57344), (.int .i64 65535)] r2.2) |> bo fun r => some (r.1, r.2)) r2.2) |> bo fun r3 =>
  (pickX r1.1 (.bool true) r3.1) |> bo fun t8 =>
  retK m.length r3.2 [t0] t8
 | _, _ => none
noncomputable def C_spec_l1Char : List Value → Mem → Option VM := fcall X_spec_l1Char
@[simp] theorem c_spec_l1Char : C_spec_l1Char = fcall X_spec_l1Char := (rfl)
theorem cok_spec_l1Char : codeOk CT Try.f85 (Try.f85.body.get rfl) = true := by kernel_rfl
theorem xe_spec_l1Char (t0 : Value) (m : Mem) : ex CT cf_spec_l1Char Try.f85 1 m.length [] (fun _ _ _ => none) 400 [.code (Try.f85.body.get rfl)] (argsT 0 [t0]) m = X_spec_l1Char [t0] m := by kernel_rfl
theorem okc_spec_l1Char : CallOK CT cf_spec_l1Char := cfc_ok ok_C_spec_l1In cfn_ok
theorem ok_X_spec_l1Char : OkX CT 85 X_spec_l1Char := OkX.of_ex (cf := cf_spec_l1Char) (np := 1) (LL := []) (J := (fun _ _ _ _ => none)) CT_ok rfl Try.func85 rfl (Nat.le_of_ble_eq_true rfl) (by decide) cok_spec_l1Char okc_spec_l1Char (fun k => noLoops rfl) (fun args m r h => match args, h with
  | [t0], h => ⟨rfl, (xe_spec_l1Char t0 m).trans h⟩)
theorem ok_C_spec_l1Char : OkC CT 85 C_spec_l1Char := fcall_ok rfl ok_X_spec_l1Char
noncomputable def cf_spec_l3Cell : CallF := cfc 44 C_spec_l1In (cfc 85 C_spec_l1Char cfn)
noncomputable def X_spec_l3Cell : List Value → Mem → Option VM
 | [t0], m =>
  (nilX t0) |> bo fun t4 =>
  (fadX 0 t4) |> bo fun t5 =>
  (ld1 m t5) |> bo fun t6 =>
  (C_spec_l1Char [t6] m) |> bo fun r4 =>
  (gd r4.1 true (some (t0, r4.2)) r4.2) |> bo fun r5 =>
  (gd r4.1 true ((nilX r5.1) |> bo fun v => some (v, r5.2)) r5.2) |> bo fun r6 =>
  (gd r4.1 true ((fadX 0 r6.1) |> bo fun v => some (v, r6.2)) r6.2) |> bo fun r7 =>
  (gd r4.1 true ((ld1 r7.2 r7.1) |> bo fun v => some (v, r7.2)) r7.2) |> bo fun r8 =>
  (gd r4.1 true ((binX .geq .no r8.1 (.int .i64 32)) |> bo fun v => some (v, r8.2)) r8.2) |> bo fun r9 =>
  (pickX r4.1 r9.1 (.bool false)) |> bo fun t14 =>
  (gd t14 true (some (t0, r9.2)) r9.2) |> bo fun r11 =>
  (gd t14 true ((nilX r11.1) |> bo fun v => some (v, r11.2)) r11.2) |> bo fun r12 =>
  (gd t14 true ((fadX 0 r12.1) |> bo fun v => some (v, r12.2)) r12.2) |> bo fun r13 =>
  (gd t14 true ((ld1 r13.2 r13.1) |> bo fun v => some (v, r13.2)) r13.2) |> bo fun r14 =>
  (gd t14 true ((binX .neq .no r14.1 (.int .i64 127)) |> bo fun v => some (v, r14.2)) r14.2) |> bo fun r15 =>
  (pickX t14 r15.1 (.bool false)) |> bo fun t21 =>
  (gd t21 true (some (t0, r15.2)) r15.2) |> bo fun r17 =>
  (gd t21 true ((nilX r17.1) |> bo fun v => some (v, r17.2)) r17.2) |> bo fun r18 =>
  (gd t21 true ((fadX 1 r18.1) |> bo fun v => some (v, r18.2)) r18.2) |> bo fun r19 =>
  (gd t21 true ((ld1 r19.2 r19.1) |> bo fun v => some (v, r19.2)) r19.2) |> bo fun r20 =>
  (gd t21 true ((C_spec_l1In [r20.1, (.int .i64 0), (.int .i64 31)] r20.2) |> bo fun r => some (r.1, r.2)) r20.2) |> bo fun r21 =>
  (pickX t21 r21.1 (.bool false)) |> bo fun t28 =>
  retK m.length r21.2 [t0] t28
 | _, _ => none
noncomputable def C_spec_l3Cell : List Value → Mem → Option VM := fcall X_spec_l3Cell
@[simp] theorem c_spec_l3Cell : C_spec_l3Cell = fcall X_spec_l3Cell := (rfl)
theorem cok_spec_l3Cell : codeOk CT Try.f81 (Try.f81.body.get rfl) = true := by kernel_rfl
theorem xe_spec_l3Cell (t0 : Value) (m : Mem) : ex CT cf_spec_l3Cell Try.f81 1 m.length [] (fun _ _ _ => none) 400 [.code (Try.f81.body.get rfl)] (argsT 0 [t0]) m = X_spec_l3Cell [t0] m := by kernel_rfl
theorem okc_spec_l3Cell : CallOK CT cf_spec_l3Cell := cfc_ok ok_C_spec_l1In (cfc_ok ok_C_spec_l1Char cfn_ok)
theorem ok_X_spec_l3Cell : OkX CT 81 X_spec_l3Cell := OkX.of_ex (cf := cf_spec_l3Cell) (np := 1) (LL := []) (J := (fun _ _ _ _ => none)) CT_ok rfl Try.func81 rfl (Nat.le_of_ble_eq_true rfl) (by decide) cok_spec_l3Cell okc_spec_l3Cell (fun k => noLoops rfl) (fun args m r h => match args, h with
  | [t0], h => ⟨rfl, (xe_spec_l3Cell t0 m).trans h⟩)
theorem ok_C_spec_l3Cell : OkC CT 81 C_spec_l3Cell := fcall_ok rfl ok_X_spec_l3Cell
noncomputable def cf_spec_l3Cells : CallF := cfc 81 C_spec_l3Cell cfn
noncomputable def L_spec_l3Cells (k : Nat) : Nat → Nat → List Value → Mem → Option VM
 | q + 1, 0, [t0, t3], m =>
  (lenX t0) |> bo fun t6 =>
  (binX .lss .no t3 t6) |> bo fun t7 =>
  brX t7
   (
    (ixaX 2 t0 t3) |> bo fun t12 =>
    (C_spec_l3Cell [t12] m) |> bo fun r4 =>
    (uop .not r4.1) |> bo fun t14 =>
    brX t14
     (
      retK k r4.2 [t0] (.bool false))
     (
      (binX .add .no t3 (.int .i64 1)) |> bo fun t9 =>
      cutK k r4.2 [t0] [t0, t9] (L_spec_l3Cells k q 0)))
   (
    retK k m [t0] (.bool true))
 | _, _, _, _ => none
noncomputable def J_spec_l3Cells (k q l : Nat) : List Value → Mem → Option VM := cond (Nat.beq l 2) (L_spec_l3Cells k q 0) (fun _ _ => none)
def LL_spec_l3Cells : List (Nat × List Tmp) := [(2, [0, 3])]
noncomputable def X_spec_l3Cells : List Value → Mem → Option VM
 | [t0], m =>
  cutK m.length m [t0] [t0, (.int .i64 0)] (L_spec_l3Cells m.length QQ 0)
 | _, _ => none
noncomputable def C_spec_l3Cells : List Value → Mem → Option VM := fcall X_spec_l3Cells
@[simp] theorem c_spec_l3Cells : C_spec_l3Cells = fcall X_spec_l3Cells := (rfl)
theorem cok_spec_l3Cells : codeOk CT Try.f62 (Try.f62.body.get rfl) = true := by kernel_rfl
theorem xe_spec_l3Cells (t0 : Value) (m : Mem) : ex CT cf_spec_l3Cells Try.f62 1 m.length LL_spec_l3Cells (J_spec_l3Cells m.length QQ) 400 [.code (Try.f62.body.get rfl)] (argsT 0 [t0]) m = X_spec_l3Cells [t0] m := by kernel_rfl
theorem okc_spec_l3Cells : CallOK CT cf_spec_l3Cells := cfc_ok ok_C_spec_l3Cell cfn_ok
theorem le_spec_l3Cells_0 (k q : Nat) (t0 t3 : Value) (m : Mem) : ex CT cf_spec_l3Cells Try.f62 1 k LL_spec_l3Cells (J_spec_l3Cells k q) 400 (atLoop Try.f62 0) [(0, t0), (3, t3)] m = J_spec_l3Cells k (q + 1) 2 [t0, t3] m := by kernel_rfl
theorem gl_spec_l3Cells (k : Nat) : ∀ q i, i < 1 → GoodL CT k Try.f62 LL_spec_l3Cells (J_spec_l3Cells k q) (atLoop Try.f62 i)
 | 0, 0, _ => goodL_zero (l := 2) (by kernel_rfl) (fun vs m => by kernel_rfl)
 | 0, _ + 1, h => absurd h (by omega)
 | q + 1, 0, _ => goodL_succ (np := 1) (l := 2) (live := [0, 3]) (n := 1) CT_ok rfl okc_spec_l3Cells (c := (Try.f62.body.get rfl)) rfl cok_spec_l3Cells (by kernel_rfl) (gl_spec_l3Cells k q) (by kernel_rfl) rfl (fun vs m r hl h => match vs, hl with
  | [t0, t3], _ => (le_spec_l3Cells_0 k q t0 t3 m).trans h)
 | _ + 1, _ + 1, h => absurd h (by omega)
theorem ok_X_spec_l3Cells : OkX CT 62 X_spec_l3Cells := OkX.of_ex (cf := cf_spec_l3Cells) (np := 1) (LL := LL_spec_l3Cells) (J := (fun k => J_spec_l3Cells k QQ)) CT_ok rfl Try.func62 rfl (Nat.le_of_ble_eq_true rfl) (by decide) cok_spec_l3Cells okc_spec_l3Cells (fun k => allLoops rfl (by kernel_rfl) (gl_spec_l3Cells k QQ)) (fun args m r h => match args, h with
  | [t0], h => ⟨rfl, (xe_spec_l3Cells t0 m).trans h⟩)
theorem ok_C_spec_l3Cells : OkC CT 62 C_spec_l3Cells := fcall_ok rfl ok_X_spec_l3Cells
noncomputable def cf_spec_l3Fault : CallF := cfc 61 C_spec_l3Size (cfc 62 C_spec_l3Cells cfn)
noncomputable def X_spec_l3Fault : List Value → Mem → Option VM
 | [t0], m =>
  (nilX t0) |> bo fun t5 =>
  (fadX 0 t5) |> bo fun t6 =>
  (ld1 m t6) |> bo fun t7 =>
  (nilX t0) |> bo fun t9 =>
  (fadX 1 t9) |> bo fun t10 =>
  (ld1 m t10) |> bo fun t11 =>
  (C_spec_l3Size [t7, t11] m) |> bo fun r7 =>
  (uop .not r7.1) |> bo fun t13 =>
  brX t13
   (
    retK m.length r7.2 [t0] (.int .i64 3))
   (
    (nilX t0) |> bo fun t15 =>
    (fadX 3 t15) |> bo fun t16 =>
    (ld1 r7.2 t16) |> bo fun t17 =>
    (lenX t17) |> bo fun t18 =>
    (nilX t0) |> bo fun t20 =>
    (fadX 2 t20) |> bo fun t21 =>
    (ld1 r7.2 t21) |> bo fun t22 =>
    (lenX t22) |> bo fun t23 =>
    (nilX t0) |> bo fun t25 =>
    (fadX 0 t25) |> bo fun t26 =>
    (ld1 r7.2 t26) |> bo fun t27 =>
    (nilX t0) |> bo fun t29 =>
    (fadX 1 t29) |> bo fun t30 =>
    (ld1 r7.2 t30) |> bo fun t31 =>
    (binX .mul .no t27 t31) |> bo fun t32 =>
    (binX .neq .no t23 t32) |> bo fun t33 =>
    (gd t33 false (some (t18, r7.2)) r7.2) |> bo fun r25 =>
    (gd t33 false (some (t0, r25.2)) r25.2) |> bo fun r26 =>
    (gd t33 false ((nilX r26.1) |> bo fun v => some (v, r26.2)) r26.2) |> bo fun r27 =>
    (gd t33 false ((fadX 1 r27.1) |> bo fun v => some (v, r27.2)) r27.2) |> bo fun r28 =>
    (gd t33 false ((ld1 r28.2 r28.1) |> bo fun v => some (v, r28.2)) r28.2) |> bo fun r29 =>
    (gd t33 false ((binX .mul .no (.int .i64 5) r29.1) |> bo fun v => some (v, r29.2)) r29.2) |> bo fun r30 =>
    (gd t33 false ((binX .gtr .no r25.1 r30.1) |> bo fun v => some (v, r30.2)) r30.2) |> bo fun r31 =>
    (pickX t33 (.bool true) r31.1) |> bo fun t42 =>
    (gd t42 false (some (t18, r31.2)) r31.2) |> bo fun r33 =>
    (gd t42 false (some (t0, r33.2)) r33.2) |> bo fun r34 =>
    (gd t42 false ((nilX r34.1) |> bo fun v => some (v, r34.2)) r34.2) |> bo fun r35 =>
    (gd t42 false ((fadX 1 r35.1) |> bo fun v => some (v, r35.2)) r35.2) |> bo fun r36 =>
    (gd t42 false ((ld1 r36.2 r36.1) |> bo fun v => some (v, r36.2)) r36.2) |> bo fun r37 =>
    (gd t42 false ((binX .rem .no r33.1 r37.1) |> bo fun v => some (v, r37.2)) r37.2) |> bo fun r38 =>
    (gd t42 false ((binX .neq .no r38.1 (.int .i64 0)) |> bo fun v => some (v, r38.2)) r38.2) |> bo fun r39 =>
    (pickX t42 (.bool true) r39.1) |> bo fun t51 =>
    brX t51
     (
      retK m.length r39.2 [t0] (.int .i64 1))
     (
      (nilX t0) |> bo fun t53 =>
      (fadX 2 t53) |> bo fun t54 =>
      (ld1 r39.2 t54) |> bo fun t55 =>
      (C_spec_l3Cells [t55] r39.2) |> bo fun r44 =>
      (uop .not r44.1) |> bo fun t57 =>
      (gd t57 false (some (t0, r44.2)) r44.2) |> bo fun r46 =>
      (gd t57 false ((nilX r46.1) |> bo fun v => some (v, r46.2)) r46.2) |> bo fun r47 =>
      (gd t57 false ((fadX 3 r47.1) |> bo fun v => some (v, r47.2)) r47.2) |> bo fun r48 =>
      (gd t57 false ((ld1 r48.2 r48.1) |> bo fun v => some (v, r48.2)) r48.2) |> bo fun r49 =>
      (gd t57 false ((C_spec_l3Cells [r49.1] r49.2) |> bo fun r => some (r.1, r.2)) r49.2) |> bo fun r50 =>
      (gd t57 false ((uop .not r50.1) |> bo fun v => some (v, r50.2)) r50.2) |> bo fun r51 =>
      (pickX t57 (.bool true) r51.1) |> bo fun t65 =>
      brX t65
       (
        retK m.length r51.2 [t0] (.int .i64 3))
       (
        retK m.length r51.2 [t0] (.int .i64 0))))
 | _, _ => none
noncomputable def C_spec_l3Fault : List Value → Mem → Option VM := fcall X_spec_l3Fault
@[simp] theorem c_spec_l3Fault : C_spec_l3Fault = fcall X_spec_l3Fault := (rfl)
theorem cok_spec_l3Fault : codeOk CT Try.f46 (Try.f46.body.get rfl) = true := by kernel_rfl
theorem xe_spec_l3Fault (t0 : Value) (m : Mem) : ex CT cf_spec_l3Fault Try.f46 1 m.length [] (fun _ _ _ => none) 400 [.code (Try.f46.body.get rfl)] (argsT 0 [t0]) m = X_spec_l3Fault [t0] m := by kernel_rfl
theorem okc_spec_l3Fault : CallOK CT cf_spec_l3Fault := cfc_ok ok_C_spec_l3Size (cfc_ok ok_C_spec_l3Cells cfn_ok)
theorem ok_X_spec_l3Fault : OkX CT 46 X_spec_l3Fault := OkX.of_ex (cf := cf_spec_l3Fault) (np := 1) (LL := []) (J := (fun _ _ _ _ => none)) CT_ok rfl Try.func46 rfl (Nat.le_of_ble_eq_true rfl) (by decide) cok_spec_l3Fault okc_spec_l3Fault (fun k => noLoops rfl) (fun args m r h => match args, h with
  | [t0], h => ⟨rfl, (xe_spec_l3Fault t0 m).trans h⟩)
theorem ok_C_spec_l3Fault : OkC CT 46 C_spec_l3Fault := fcall_ok rfl ok_X_spec_l3Fault
noncomputable def cf_spec_l3Place : CallF := cfc 44 C_spec_l1In cfn
noncomputable def X_spec_l3Place : List Value → Mem → Option VM
 | [t0, t1, t2], m =>
  (nilX t0) |> bo fun t9 =>
  (fadX 0 t9) |> bo fun t10 =>
  (ld1 m t10) |> bo fun t11 =>
  (binX .sub .no t11 (.int .i64 1)) |> bo fun t12 =>
  (C_spec_l1In [t1, (.int .i64 0), t12] m) |> bo fun r5 =>
  (gd r5.1 true (some (t2, r5.2)) r5.2) |> bo fun r6 =>
  (gd r5.1 true (some (t0, r6.2)) r6.2) |> bo fun r7 =>
  (gd r5.1 true ((nilX r7.1) |> bo fun v => some (v, r7.2)) r7.2) |> bo fun r8 =>
  (gd r5.1 true ((fadX 1 r8.1) |> bo fun v => some (v, r8.2)) r8.2) |> bo fun r9 =>
  (gd r5.1 true ((ld1 r9.2 r9.1) |> bo fun v => some (v, r9.2)) r9.2) |> bo fun r10 =>
  (gd r5.1 true ((binX .sub .no r10.1 (.int .i64 1)) |> bo fun v => some (v, r10.2)) r10.2) |> bo fun r11 =>
  (gd r5.1 true ((C_spec_l1In [r6.1, (.int .i64 0), r11.1] r11.2) |> bo fun r => some (r.1, r.2)) r11.2) |> bo fun r12 =>
  (pickX r5.1 r12.1 (.bool false)) |> bo fun t22 =>
  retK m.length r12.2 [t0, t1, t2] t22
 | _, _ => none
noncomputable def C_spec_l3Place : List Value → Mem → Option VM := fcall X_spec_l3Place
@[simp] theorem c_spec_l3Place : C_spec_l3Place = fcall X_spec_l3Place := (rfl)
theorem cok_spec_l3Place : codeOk CT Try.f63 (Try.f63.body.get rfl) = true := by kernel_rfl
theorem xe_spec_l3Place (t0 t1 t2 : Value) (m : Mem) : ex CT cf_spec_l3Place Try.f63 3 m.length [] (fun _ _ _ => none) 400 [.code (Try.f63.body.get rfl)] (argsT 0 [t0, t1, t2]) m = X_spec_l3Place [t0, t1, t2] m := by kernel_rfl
theorem okc_spec_l3Place : CallOK CT cf_spec_l3Place := cfc_ok ok_C_spec_l1In cfn_ok
theorem ok_X_spec_l3Place : OkX CT 63 X_spec_l3Place := OkX.of_ex (cf := cf_spec_l3Place) (np := 3) (LL := []) (J := (fun _ _ _ _ => none)) CT_ok rfl Try.func63 rfl (Nat.le_of_ble_eq_true rfl) (by decide) cok_spec_l3Place okc_spec_l3Place (fun k => noLoops rfl) (fun args m r h => match args, h with
  | [t0, t1, t2], h => ⟨rfl, (xe_spec_l3Place t0 t1 t2 m).trans h⟩)
theorem ok_C_spec_l3Place : OkC CT 63 C_spec_l3Place := fcall_ok rfl ok_X_spec_l3Place
noncomputable def cf_spec_l3Attr : CallF := cfc 44 C_spec_l1In cfn
noncomputable def X_spec_l3Attr : List Value → Mem → Option VM
 | [t0], m =>
  (C_spec_l1In [t0, (.int .i64 0), (.int .i64 31)] m) |> bo fun r1 =>
  retK m.length r1.2 [t0] r1.1
 | _, _ => none
noncomputable def C_spec_l3Attr : List Value → Mem → Option VM := fcall X_spec_l3Attr
@[simp] theorem c_spec_l3Attr : C_spec_l3Attr = fcall X_spec_l3Attr := (rfl)
theorem cok_spec_l3Attr : codeOk CT Try.f64 (Try.f64.body.get rfl) = true := by kernel_rfl
theorem xe_spec_l3Attr (t0 : Value) (m : Mem) : ex CT cf_spec_l3Attr Try.f64 1 m.length [] (fun _ _ _ => none) 400 [.code (Try.f64.body.get rfl)] (argsT 0 [t0]) m = X_spec_l3Attr [t0] m := by kernel_rfl
theorem okc_spec_l3Attr : CallOK CT cf_spec_l3Attr := cfc_ok ok_C_spec_l1In cfn_ok
theorem ok_X_spec_l3Attr : OkX CT 64 X_spec_l3Attr := OkX.of_ex (cf := cf_spec_l3Attr) (np := 1) (LL := []) (J := (fun _ _ _ _ => none)) CT_ok rfl Try.func64 rfl (Nat.le_of_ble_eq_true rfl) (by decide) cok_spec_l3Attr okc_spec_l3Attr (fun k => noLoops rfl) (fun args m r h => match args, h with
  | [t0], h => ⟨rfl, (xe_spec_l3Attr t0 m).trans h⟩)
theorem ok_C_spec_l3Attr : OkC CT 64 C_spec_l3Attr := fcall_ok rfl ok_X_spec_l3Attr
noncomputable def cf_spec_l2Table : CallF := cfc 44 C_spec_l1In cfn
noncomputable def X_spec_l2Table : List Value → Mem → Option VM
 | [t0], m =>
  (C_spec_l1In [t0, (.int .i64 1), (.int .i64 3)] m) |> bo fun r1 =>
  retK m.length r1.2 [t0] r1.1
 | _, _ => none
noncomputable def C_spec_l2Table : List Value → Mem → Option VM := fcall X_spec_l2Table
@[simp] theorem c_spec_l2Table : C_spec_l2Table = fcall X_spec_l2Table := (rfl)
theorem cok_spec_l2Table : codeOk CT Try.f65 (Try.f65.body.get rfl) = true := by kernel_rfl
theorem xe_spec_l2Table (t0 : Value) (m : Mem) : ex CT cf_spec_l2Table Try.f65 1 m.length [] (fun _ _ _ => none) 400 [.code (Try.f65.body.get rfl)] (argsT 0 [t0]) m = X_spec_l2Table [t0] m := by kernel_rfl
theorem okc_spec_l2Table : CallOK CT cf_spec_l2Table := cfc_ok ok_C_spec_l1In cfn_ok
theorem ok_X_spec_l2Table : OkX CT 65 X_spec_l2Table := OkX.of_ex (cf := cf_spec_l2Table) (np := 1) (LL := []) (J := (fun _ _ _ _ => none)) CT_ok rfl Try.func65 rfl (Nat.le_of_ble_eq_true rfl) (by decide) cok_spec_l2Table okc_spec_l2Table (fun k => noLoops rfl) (fun args m r h => match args, h with
  | [t0], h => ⟨rfl, (xe_spec_l2Table t0 m).trans h⟩)
theorem ok_C_spec_l2Table : OkC CT 65 C_spec_l2Table := fcall_ok rfl ok_X_spec_l2Table
noncomputable def cf_spec_l5Ranges : CallF := cfc 44 C_spec_l1In (cfc 63 C_spec_l3Place (cfc 64 C_spec_l3Attr (cfc 65 C_spec_l2Table cfn)))
noncomputable def X_spec_l5Ranges : List Value → Mem → Option VM
 | [t0], m =>
  (nilX t0) |> bo fun t4 =>
  (fadX 0 t4) |> bo fun t5 =>
  (nilX t0) |> bo fun t7 =>
  (fadX 4 t7) |> bo fun t8 =>
  (ld1 m t8) |> bo fun t9 =>
  (nilX t0) |> bo fun t11 =>
  (fadX 5 t11) |> bo fun t12 =>
  (ld1 m t12) |> bo fun t13 =>
  (C_spec_l3Place [t5, t9, t13] m) |> bo fun r9 =>
  (uop .not r9.1) |> bo fun t15 =>
  (gd t15 false (some (t0, r9.2)) r9.2) |> bo fun r11 =>
  (gd t15 false ((nilX r11.1) |> bo fun v => some (v, r11.2)) r11.2) |> bo fun r12 =>
  (gd t15 false ((fadX 7 r12.1) |> bo fun v => some (v, r12.2)) r12.2) |> bo fun r13 =>
  (gd t15 false ((ld1 r13.2 r13.1) |> bo fun v => some (v, r13.2)) r13.2) |> bo fun r14 =>
  (gd t15 false ((C_spec_l3Attr [r14.1] r14.2) |> bo fun r => some (r.1, r.2)) r14.2) |> bo fun r15 =>
  (gd t15 false ((uop .not r15.1) |> bo fun v => some (v, r15.2)) r15.2) |> bo fun r16 =>
  (pickX t15 (.bool true) r16.1) |> bo fun t23 =>
  (gd t23 false (some (t0, r16.2)) r16.2) |> bo fun r18 =>
  (gd t23 false ((nilX r18.1) |> bo fun v => some (v, r18.2)) r18.2) |> bo fun r19 =>
  (gd t23 false ((fadX 14 r19.1) |> bo fun v => some (v, r19.2)) r19.2) |> bo fun r20 =>
  (gd t23 false ((ld1 r20.2 r20.1) |> bo fun v => some (v, r20.2)) r20.2) |> bo fun r21 =>
  (gd t23 false ((C_spec_l1In [r21.1, (.int .i64 0), (.int .i64 5)] r21.2) |> bo fun r => some (r.1, r.2)) r21.2) |> bo fun r22 =>
  (gd t23 false ((uop .not r22.1) |> bo fun v => some (v, r22.2)) r22.2) |> bo fun r23 =>
  (pickX t23 (.bool true) r23.1) |> bo fun t31 =>
  (gd t31 false (some (t0, r23.2)) r23.2) |> bo fun r25 =>
  (gd t31 false ((nilX r25.1) |> bo fun v => some (v, r25.2)) r25.2) |> bo fun r26 =>
  (gd t31 false ((fadX 15 r26.1) |> bo fun v => some (v, r26.2)) r26.2) |> bo fun r27 =>
  (gd t31 false ((ld1 r27.2 r27.1) |> bo fun v => some (v, r27.2)) r27.2) |> bo fun r28 =>
  (gd t31 false ((C_spec_l1In [r28.1, (.int .i64 0), (.int .i64 11)] r28.2) |> bo fun r => some (r.1, r.2)) r28.2) |> bo fun r29 =>
  (gd t31 false ((uop .not r29.1) |> bo fun v => some (v, r29.2)) r29.2) |> bo fun r30 =>
  (pickX t31 (.bool true) r30.1) |> bo fun t39 =>
  (gd t39 false (some (t0, r30.2)) r30.2) |> bo fun r32 =>
  (gd t39 false ((nilX r32.1) |> bo fun v => some (v, r32.2)) r32.2) |> bo fun r33 =>
  (gd t39 false ((fadX 16 r33.1) |> bo fun v => some (v, r33.2)) r33.2) |> bo fun r34 =>
  (gd t39 false ((ld1 r34.2 r34.1) |> bo fun v => some (v, r34.2)) r34.2) |> bo fun r35 =>
  (gd t39 false ((C_spec_l3Attr [r35.1] r35.2) |> bo fun r => some (r.1, r.2)) r35.2) |> bo fun r36 =>
  (gd t39 false ((uop .not r36.1) |> bo fun v => some (v, r36.2)) r36.2) |> bo fun r37 =>
  (pickX t39 (.bool true) r37.1) |> bo fun t47 =>
  brX t47
   (
    retK m.length r37.2 [t0] (.bool false))
   (
    (nilX t0) |> bo fun t49 =>
    (fadX 17 t49) |> bo fun t50 =>
    (ld1 r37.2 t50) |> bo fun t51 =>
    (lenX t51) |> bo fun t52 =>
    (binX .neq .no t52 (.int .i64 2)) |> bo fun t53 =>
    (gd t53 false (some (t0, r37.2)) r37.2) |> bo fun r44 =>
    (gd t53 false ((nilX r44.1) |> bo fun v => some (v, r44.2)) r44.2) |> bo fun r45 =>
    (gd t53 false ((fadX 17 r45.1) |> bo fun v => some (v, r45.2)) r45.2) |> bo fun r46 =>
    (gd t53 false ((ld1 r46.2 r46.1) |> bo fun v => some (v, r46.2)) r46.2) |> bo fun r47 =>
    (gd t53 false ((ixaX 1 r47.1 (.int .i64 0)) |> bo fun v => some (v, r47.2)) r47.2) |> bo fun r48 =>
    (gd t53 false ((ld1 r48.2 r48.1) |> bo fun v => some (v, r48.2)) r48.2) |> bo fun r49 =>
    (gd t53 false ((C_spec_l2Table [r49.1] r49.2) |> bo fun r => some (r.1, r.2)) r49.2) |> bo fun r50 =>
    (gd t53 false ((uop .not r50.1) |> bo fun v => some (v, r50.2)) r50.2) |> bo fun r51 =>
    (pickX t53 (.bool true) r51.1) |> bo fun t63 =>
    (gd t63 false (some (t0, r51.2)) r51.2) |> bo fun r53 =>
    (gd t63 false ((nilX r53.1) |> bo fun v => some (v, r53.2)) r53.2) |> bo fun r54 =>
    (gd t63 false ((fadX 17 r54.1) |> bo fun v => some (v, r54.2)) r54.2) |> bo fun r55 =>
    (gd t63 false ((ld1 r55.2 r55.1) |> bo fun v => some (v, r55.2)) r55.2) |> bo fun r56 =>
    (gd t63 false ((ixaX 1 r56.1 (.int .i64 1)) |> bo fun v => some (v, r56.2)) r56.2) |> bo fun r57 =>
    (gd t63 false ((ld1 r57.2 r57.1) |> bo fun v => some (v, r57.2)) r57.2) |> bo fun r58 =>
    (gd t63 false ((C_spec_l2Table [r58.1] r58.2) |> bo fun r => some (r.1, r.2)) r58.2) |> bo fun r59 =>
    (gd t63 false ((uop .not r59.1) |> bo fun v => some (v, r59.2)) r59.2) |> bo fun r60 =>
    (pickX t63 (.bool true) r60.1) |> bo fun t73 =>
    brX t73
     (
      retK m.length r60.2 [t0] (.bool false))
     (
      (nilX t0) |> bo fun t75 =>
      (fadX 18 t75) |> bo fun t76 =>
      (ld1 r60.2 t76) |> bo fun t77 =>
      (C_spec_l1In [t77, (.int .i64 0), (.int .i64 1)] r60.2) |> bo fun r65 =>
      (gd r65.1 true (some (t0, r65.2)) r65.2) |> bo fun r66 =>
      (gd r65.1 true ((nilX r66.1) |> bo fun v => some (v, r66.2)) r66.2) |> bo fun r67 =>
      (gd r65.1 true ((fadX 19 r67.1) |> bo fun v => some (v, r67.2)) r67.2) |> bo fun r68 =>
      (gd r65.1 true ((ld1 r68.2 r68.1) |> bo fun v => some (v, r68.2)) r68.2) |> bo fun r69 =>
      (gd r65.1 true ((C_spec_l1In [r69.1, (.int .i64 0), (.int .i64 999)] r69.2) |> bo fun r => some (r.1, r.2)) r69.2) |> bo fun r70 =>
      (pickX r65.1 r70.1 (.bool false)) |> bo fun t85 =>
      retK m.length r70.2 [t0] t85))
 | _, _ => none
noncomputable def C_spec_l5Ranges : List Value → Mem → Option VM := fcall X_spec_l5Ranges
@[simp] theorem c_spec_l5Ranges : C_spec_l5Ranges = fcall X_spec_l5Ranges := (rfl)
theorem cok_spec_l5Ranges : codeOk CT Try.f47 (Try.f47.body.get rfl) = true := by kernel_rfl
theorem xe_spec_l5Ranges (t0 : Value) (m : Mem) : ex CT cf_spec_l5Ranges Try.f47 1 m.length [] (fun _ _ _ => none) 400 [.code (Try.f47.body.get rfl)] (argsT 0 [t0]) m = X_spec_l5Ranges [t0] m := by kernel_rfl
theorem okc_spec_l5Ranges : CallOK CT cf_spec_l5Ranges := cfc_ok ok_C_spec_l1In (cfc_ok ok_C_spec_l3Place (cfc_ok ok_C_spec_l3Attr (cfc_ok ok_C_spec_l2Table cfn_ok)))
theorem ok_X_spec_l5Ranges : OkX CT 47 X_spec_l5Ranges := OkX.of_ex (cf := cf_spec_l5Ranges) (np := 1) (LL := []) (J := (fun _ _ _ _ => none)) CT_ok rfl Try.func47 rfl (Nat.le_of_ble_eq_true rfl) (by decide) cok_spec_l5Ranges okc_spec_l5Ranges (fun k => noLoops rfl) (fun args m r h => match args, h with
  | [t0], h => ⟨rfl, (xe_spec_l5Ranges t0 m).trans h⟩)
theorem ok_C_spec_l5Ranges : OkC CT 47 C_spec_l5Ranges := fcall_ok rfl ok_X_spec_l5Ranges
noncomputable def cf_spec_l5Region : CallF := cfn
noncomputable def X_spec_l5Region : List Value → Mem → Option VM
 | [t0, t1, t2], m =>
  (binX .geq .no t0 (.int .i64 0)) |> bo fun t8 =>
  (gd t8 true (some (t1, m)) m) |> bo fun r2 =>
  (gd t8 true (some (t2, r2.2)) r2.2) |> bo fun r3 =>
  (gd t8 true ((binX .lss .no r2.1 r3.1) |> bo fun v => some (v, r3.2)) r3.2) |> bo fun r4 =>
  (pickX t8 r4.1 (.bool false)) |> bo fun t13 =>
  (gd t13 true (some (t0, r4.2)) r4.2) |> bo fun r6 =>
  (gd t13 true (some (t1, r6.2)) r6.2) |> bo fun r7 =>
  (gd t13 true ((binX .lss .no r6.1 r7.1) |> bo fun v => some (v, r7.2)) r7.2) |> bo fun r8 =>
  (gd t13 true (some (r8.1, r8.2)) r8.2) |> bo fun r9 =>
  (gd r9.1 false (some (t0, r9.2)) r9.2) |> bo fun r10 =>
  (gd r9.1 false ((binX .eql .no r10.1 (.int .i64 0)) |> bo fun v => some (v, r10.2)) r10.2) |> bo fun r11 =>
  (gd r9.1 false (some (r11.1, r11.2)) r11.2) |> bo fun r12 =>
  (gd r12.1 true (some (t1, r12.2)) r12.2) |> bo fun r13 =>
  (gd r12.1 true (some (t2, r13.2)) r13.2) |> bo fun r14 =>
  (gd r12.1 true ((binX .sub .no r14.1 (.int .i64 1)) |> bo fun v => some (v, r14.2)) r14.2) |> bo fun r15 =>
  (gd r12.1 true ((binX .eql .no r13.1 r15.1) |> bo fun v => some (v, r15.2)) r15.2) |> bo fun r16 =>
  (gd r9.1 false ((pickX r12.1 r16.1 (.bool false)) |> bo fun v => some (v, r16.2)) r16.2) |> bo fun r17 =>
  (gd t13 true ((pickX r9.1 (.bool true) r17.1) |> bo fun v => some (v, r17.2)) r17.2) |> bo fun r18 =>
  (pickX t13 r18.1 (.bool false)) |> bo fun t28 =>
  retK m.length r18.2 [t0, t1, t2] t28
 | _, _ => none
noncomputable def C_spec_l5Region : List Value → Mem → Option VM := fcall X_spec_l5Region
@[simp] theorem c_spec_l5Region : C_spec_l5Region = fcall X_spec_l5Region := (rfl)
theorem cok_spec_l5Region : codeOk CT Try.f66 (Try.f66.body.get rfl) = true := by kernel_rfl
theorem xe_spec_l5Region (t0 t1 t2 : Value) (m : Mem) : ex CT cf_spec_l5Region Try.f66 3 m.length [] (fun _ _ _ => none) 400 [.code (Try.f66.body.get rfl)] (argsT 0 [t0, t1, t2]) m = X_spec_l5Region [t0, t1, t2] m := by kernel_rfl
theorem okc_spec_l5Region : CallOK CT cf_spec_l5Region := cfn_ok
theorem ok_X_spec_l5Region : OkX CT 66 X_spec_l5Region := OkX.of_ex (cf := cf_spec_l5Region) (np := 3) (LL := []) (J := (fun _ _ _ _ => none)) CT_ok rfl Try.func66 rfl (Nat.le_of_ble_eq_true rfl) (by decide) cok_spec_l5Region okc_spec_l5Region (fun k => noLoops rfl) (fun args m r h => match args, h with
  | [t0, t1, t2], h => ⟨rfl, (xe_spec_l5Region t0 t1 t2 m).trans h⟩)
theorem ok_C_spec_l5Region : OkC CT 66 C_spec_l5Region := fcall_ok rfl ok_X_spec_l5Region
noncomputable def cf_spec_l5Form : CallF := cfc 44 C_spec_l1In (cfc 66 C_spec_l5Region cfn)
noncomputable def X_spec_l5Form : List Value → Mem → Option VM
 | [t0], m =>
  (nilX t0) |> bo fun t4 =>
  (fadX 8 t4) |> bo fun t5 =>
  (ld1 m t5) |> bo fun t6 =>
  (nilX t0) |> bo fun t8 =>
  (fadX 9 t8) |> bo fun t9 =>
  (ld1 m t9) |> bo fun t10 =>
  (nilX t0) |> bo fun t12 =>
  (fadX 0 t12) |> bo fun t13 =>
  (fadX 0 t13) |> bo fun t14 =>
  (ld1 m t14) |> bo fun t15 =>
  (C_spec_l5Region [t6, t10, t15] m) |> bo fun r11 =>
  (uop .not r11.1) |> bo fun t17 =>
  (gd t17 false (some (t0, r11.2)) r11.2) |> bo fun r13 =>
  (gd t17 false ((nilX r13.1) |> bo fun v => some (v, r13.2)) r13.2) |> bo fun r14 =>
  (gd t17 false ((fadX 13 r14.1) |> bo fun v => some (v, r14.2)) r14.2) |> bo fun r15 =>
  (gd t17 false ((ld1 r15.2 r15.1) |> bo fun v => some (v, r15.2)) r15.2) |> bo fun r16 =>
  (gd t17 false ((lenX r16.1) |> bo fun v => some (v, r16.2)) r16.2) |> bo fun r17 =>
  (gd t17 false (some (t0, r17.2)) r17.2) |> bo fun r18 =>
  (gd t17 false ((nilX r18.1) |> bo fun v => some (v, r18.2)) r18.2) |> bo fun r19 =>
  (gd t17 false ((fadX 0 r19.1) |> bo fun v => some (v, r19.2)) r19.2) |> bo fun r20 =>
  (gd t17 false ((fadX 1 r20.1) |> bo fun v => some (v, r20.2)) r20.2) |> bo fun r21 =>
  (gd t17 false ((ld1 r21.2 r21.1) |> bo fun v => some (v, r21.2)) r21.2) |> bo fun r22 =>
  (gd t17 false ((binX .neq .no r17.1 r22.1) |> bo fun v => some (v, r22.2)) r22.2) |> bo fun r23 =>
  (pickX t17 (.bool true) r23.1) |> bo fun t30 =>
  brX t30
   (
    retK m.length r23.2 [t0] (.bool false))
   (
    (nilX t0) |> bo fun t32 =>
    (fadX 6 t32) |> bo fun t33 =>
    (ld1 r23.2 t33) |> bo fun t34 =>
    (gd t34 true (some (t0, r23.2)) r23.2) |> bo fun r28 =>
    (gd t34 true ((nilX r28.1) |> bo fun v => some (v, r28.2)) r28.2) |> bo fun r29 =>
    (gd t34 true ((fadX 11 r29.1) |> bo fun v => some (v, r29.2)) r29.2) |> bo fun r30 =>
    (gd t34 true ((ld1 r30.2 r30.1) |> bo fun v => some (v, r30.2)) r30.2) |> bo fun r31 =>
    (gd t34 true ((uop .not r31.1) |> bo fun v => some (v, r31.2)) r31.2) |> bo fun r32 =>
    (gd t34 true (some (r32.1, r32.2)) r32.2) |> bo fun r33 =>
    (gd r33.1 false (some (t0, r33.2)) r33.2) |> bo fun r34 =>
    (gd r33.1 false ((nilX r34.1) |> bo fun v => some (v, r34.2)) r34.2) |> bo fun r35 =>
    (gd r33.1 false ((fadX 5 r35.1) |> bo fun v => some (v, r35.2)) r35.2) |> bo fun r36 =>
    (gd r33.1 false ((ld1 r36.2 r36.1) |> bo fun v => some (v, r36.2)) r36.2) |> bo fun r37 =>
    (gd r33.1 false (some (t0, r37.2)) r37.2) |> bo fun r38 =>
    (gd r33.1 false ((nilX r38.1) |> bo fun v => some (v, r38.2)) r38.2) |> bo fun r39 =>
    (gd r33.1 false ((fadX 0 r39.1) |> bo fun v => some (v, r39.2)) r39.2) |> bo fun r40 =>
    (gd r33.1 false ((fadX 1 r40.1) |> bo fun v => some (v, r40.2)) r40.2) |> bo fun r41 =>
    (gd r33.1 false ((ld1 r41.2 r41.1) |> bo fun v => some (v, r41.2)) r41.2) |> bo fun r42 =>
    (gd r33.1 false ((binX .sub .no r42.1 (.int .i64 1)) |> bo fun v => some (v, r42.2)) r42.2) |> bo fun r43 =>
    (gd r33.1 false ((binX .neq .no r37.1 r43.1) |> bo fun v => some (v, r43.2)) r43.2) |> bo fun r44 =>
    (gd t34 true ((pickX r33.1 (.bool true) r44.1) |> bo fun v => some (v, r44.2)) r44.2) |> bo fun r45 =>
    (pickX t34 r45.1 (.bool false)) |> bo fun t54 =>
    brX t54
     (
      retK m.length r45.2 [t0] (.bool false))
     (
      (nilX t0) |> bo fun t56 =>
      (fadX 10 t56) |> bo fun t57 =>
      (ld1 r45.2 t57) |> bo fun t58 =>
      (uop .not t58) |> bo fun t59 =>
      (gd t59 false (some (t0, r45.2)) r45.2) |> bo fun r51 =>
      (gd t59 false ((nilX r51.1) |> bo fun v => some (v, r51.2)) r51.2) |> bo fun r52 =>
      (gd t59 false ((fadX 4 r52.1) |> bo fun v => some (v, r52.2)) r52.2) |> bo fun r53 =>
      (gd t59 false ((ld1 r53.2 r53.1) |> bo fun v => some (v, r53.2)) r53.2) |> bo fun r54 =>
      (gd t59 false (some (t0, r54.2)) r54.2) |> bo fun r55 =>
      (gd t59 false ((nilX r55.1) |> bo fun v => some (v, r55.2)) r55.2) |> bo fun r56 =>
      (gd t59 false ((fadX 8 r56.1) |> bo fun v => some (v, r56.2)) r56.2) |> bo fun r57 =>
      (gd t59 false ((ld1 r57.2 r57.1) |> bo fun v => some (v, r57.2)) r57.2) |> bo fun r58 =>
      (gd t59 false (some (t0, r58.2)) r58.2) |> bo fun r59 =>
      (gd t59 false ((nilX r59.1) |> bo fun v => some (v, r59.2)) r59.2) |> bo fun r60 =>
      (gd t59 false ((fadX 9 r60.1) |> bo fun v => some (v, r60.2)) r60.2) |> bo fun r61 =>
      (gd t59 false ((ld1 r61.2 r61.1) |> bo fun v => some (v, r61.2)) r61.2) |> bo fun r62 =>
      (gd t59 false ((C_spec_l1In [r54.1, r58.1, r62.1] r62.2) |> bo fun r => some (r.1, r.2)) r62.2) |> bo fun r63 =>
      (pickX t59 (.bool true) r63.1) |> bo fun t74 =>
      retK m.length r63.2 [t0] t74))
 | _, _ => none
noncomputable def C_spec_l5Form : List Value → Mem → Option VM := fcall X_spec_l5Form
@[simp] theorem c_spec_l5Form : C_spec_l5Form = fcall X_spec_l5Form := (rfl)
theorem cok_spec_l5Form : codeOk CT Try.f48 (Try.f48.body.get rfl) = true := by kernel_rfl
theorem xe_spec_l5Form (t0 : Value) (m : Mem) : ex CT cf_spec_l5Form Try.f48 1 m.length [] (fun _ _ _ => none) 400 [.code (Try.f48.body.get rfl)] (argsT 0 [t0]) m = X_spec_l5Form [t0] m := by kernel_rfl
theorem okc_spec_l5Form : CallOK CT cf_spec_l5Form := cfc_ok ok_C_spec_l1In (cfc_ok ok_C_spec_l5Region cfn_ok)
theorem ok_X_spec_l5Form : OkX CT 48 X_spec_l5Form := OkX.of_ex (cf := cf_spec_l5Form) (np := 1) (LL := []) (J := (fun _ _ _ _ => none)) CT_ok rfl Try.func48 rfl (Nat.le_of_ble_eq_true rfl) (by decide) cok_spec_l5Form okc_spec_l5Form (fun k => noLoops rfl) (fun args m r h => match args, h with
  | [t0], h => ⟨rfl, (xe_spec_l5Form t0 m).trans h⟩)
theorem ok_C_spec_l5Form : OkC CT 48 C_spec_l5Form := fcall_ok rfl ok_X_spec_l5Form
noncomputable def cf_spec_l5Fault : CallF := cfc 46 C_spec_l3Fault (cfc 47 C_spec_l5Ranges (cfc 48 C_spec_l5Form cfn))
noncomputable def X_spec_l5Fault : List Value → Mem → Option VM
 | [t0], m =>
  (nilX t0) |> bo fun t5 =>
  (fadX 0 t5) |> bo fun t6 =>
  (C_spec_l3Fault [t6] m) |> bo fun r3 =>
  (binX .neq .no r3.1 (.int .i64 0)) |> bo fun t9 =>
  brX t9
   (
    retK m.length r3.2 [t0] r3.1)
   (
    (C_spec_l5Ranges [t0] r3.2) |> bo fun r5 =>
    (uop .not r5.1) |> bo fun t13 =>
    brX t13
     (
      retK m.length r5.2 [t0] (.int .i64 3))
     (
      (C_spec_l5Form [t0] r5.2) |> bo fun r7 =>
      (uop .not r7.1) |> bo fun t16 =>
      brX t16
       (
        retK m.length r7.2 [t0] (.int .i64 1))
       (
        retK m.length r7.2 [t0] (.int .i64 0))))
 | _, _ => none
noncomputable def C_spec_l5Fault : List Value → Mem → Option VM := fcall X_spec_l5Fault
@[simp] theorem c_spec_l5Fault : C_spec_l5Fault = fcall X_spec_l5Fault := (rfl)
theorem cok_spec_l5Fault : codeOk CT Try.f29 (Try.f29.body.get rfl) = true := by kernel_rfl
theorem xe_spec_l5Fault (t0 : Value) (m : Mem) : ex CT cf_spec_l5Fault Try.f29 1 m.length [] (fun _ _ _ => none) 400 [.code (Try.f29.body.get rfl)] (argsT 0 [t0]) m = X_spec_l5Fault [t0] m := by kernel_rfl
theorem okc_spec_l5Fault : CallOK CT cf_spec_l5Fault := cfc_ok ok_C_spec_l3Fault (cfc_ok ok_C_spec_l5Ranges (cfc_ok ok_C_spec_l5Form cfn_ok))
theorem ok_X_spec_l5Fault : OkX CT 29 X_spec_l5Fault := OkX.of_ex (cf := cf_spec_l5Fault) (np := 1) (LL := []) (J := (fun _ _ _ _ => none)) CT_ok rfl Try.func29 rfl (Nat.le_of_ble_eq_true rfl) (by decide) cok_spec_l5Fault okc_spec_l5Fault (fun k => noLoops rfl) (fun args m r h => match args, h with
  | [t0], h => ⟨rfl, (xe_spec_l5Fault t0 m).trans h⟩)
theorem ok_C_spec_l5Fault : OkC CT 29 C_spec_l5Fault := fcall_ok rfl ok_X_spec_l5Fault
noncomputable def cf_spec_l6Fault : CallF := cfc 27 C_spec_l1Fault (cfc 28 C_spec_l4Fault (cfc 29 C_spec_l5Fault cfn))
noncomputable def X_spec_l6Fault : List Value → Mem → Option VM
 | [t0], m =>
  (nilX t0) |> bo fun t6 =>
  (fadX 0 t6) |> bo fun t7 =>
  (C_spec_l1Fault [t7] m) |> bo fun r3 =>
  (binX .neq .no r3.1 (.int .i64 0)) |> bo fun t10 =>
  brX t10
   (
    retK m.length r3.2 [t0] r3.1)
   (
    (nilX t0) |> bo fun t13 =>
    (fadX 3 t13) |> bo fun t14 =>
    (C_spec_l4Fault [t14] r3.2) |> bo fun r7 =>
    (binX .neq .no r7.1 (.int .i64 0)) |> bo fun t17 =>
    brX t17
     (
      retK m.length r7.2 [t0] r7.1)
     (
      (nilX t0) |> bo fun t20 =>
      (fadX 7 t20) |> bo fun t21 =>
      (C_spec_l5Fault [t21] r7.2) |> bo fun r11 =>
      retK m.length r11.2 [t0] r11.1))
 | _, _ => none
noncomputable def C_spec_l6Fault : List Value → Mem → Option VM := fcall X_spec_l6Fault
@[simp] theorem c_spec_l6Fault : C_spec_l6Fault = fcall X_spec_l6Fault := (rfl)
theorem cok_spec_l6Fault : codeOk CT Try.f12 (Try.f12.body.get rfl) = true := by kernel_rfl
theorem xe_spec_l6Fault (t0 : Value) (m : Mem) : ex CT cf_spec_l6Fault Try.f12 1 m.length [] (fun _ _ _ => none) 400 [.code (Try.f12.body.get rfl)] (argsT 0 [t0]) m = X_spec_l6Fault [t0] m := by kernel_rfl
theorem okc_spec_l6Fault : CallOK CT cf_spec_l6Fault := cfc_ok ok_C_spec_l1Fault (cfc_ok ok_C_spec_l4Fault (cfc_ok ok_C_spec_l5Fault cfn_ok))
theorem ok_X_spec_l6Fault : OkX CT 12 X_spec_l6Fault := OkX.of_ex (cf := cf_spec_l6Fault) (np := 1) (LL := []) (J := (fun _ _ _ _ => none)) CT_ok rfl Try.func12 rfl (Nat.le_of_ble_eq_true rfl) (by decide) cok_spec_l6Fault okc_spec_l6Fault (fun k => noLoops rfl) (fun args m r h => match args, h with
  | [t0], h => ⟨rfl, (xe_spec_l6Fault t0 m).trans h⟩)
theorem ok_C_spec_l6Fault : OkC CT 12 C_spec_l6Fault := fcall_ok rfl ok_X_spec_l6Fault
noncomputable def cf_spec_l3RowOf : CallF := cfn
noncomputable def X_spec_l3RowOf : List Value → Mem → Option VM
 | [t0, t1], m =>
  (bslX m 0 2 [.int .i64 0, .int .i64 0] []) |> bo fun r1 =>
  (nilX t0) |> bo fun t7 =>
  (fadX 2 t7) |> bo fun t8 =>
  (ld1 r1.2 t8) |> bo fun t9 =>
  (nilX t0) |> bo fun t12 =>
  (fadX 1 t12) |> bo fun t13 =>
  (ld1 r1.2 t13) |> bo fun t14 =>
  (binX .mul .no t1 t14) |> bo fun t15 =>
  (binX .add .no t1 (.int .i64 1)) |> bo fun t17 =>
  (nilX t0) |> bo fun t19 =>
  (fadX 1 t19) |> bo fun t20 =>
  (ld1 r1.2 t20) |> bo fun t21 =>
  (binX .mul .no t17 t21) |> bo fun t22 =>
  (slX r1.2 2 t9 (some t15) (some t22)) |> bo fun t23 =>
  (apL r1.2 2 16 r1.1 t23) |> bo fun r15 =>
  retK m.length r15.2 [t0, t1] r15.1
 | _, _ => none
noncomputable def C_spec_l3RowOf : List Value → Mem → Option VM := fcall X_spec_l3RowOf
@[simp] theorem c_spec_l3RowOf : C_spec_l3RowOf = fcall X_spec_l3RowOf := (rfl)
theorem cok_spec_l3RowOf : codeOk CT Try.f49 (Try.f49.body.get rfl) = true := by kernel_rfl
theorem xe_spec_l3RowOf (t0 t1 : Value) (m : Mem) : ex CT cf_spec_l3RowOf Try.f49 2 m.length [] (fun _ _ _ => none) 400 [.code (Try.f49.body.get rfl)] (argsT 0 [t0, t1]) m = X_spec_l3RowOf [t0, t1] m := by kernel_rfl
theorem okc_spec_l3RowOf : CallOK CT cf_spec_l3RowOf := cfn_ok
theorem ok_X_spec_l3RowOf : OkX CT 49 X_spec_l3RowOf := OkX.of_ex (cf := cf_spec_l3RowOf) (np := 2) (LL := []) (J := (fun _ _ _ _ => none)) CT_ok rfl Try.func49 rfl (Nat.le_of_ble_eq_true rfl) (by decide) cok_spec_l3RowOf okc_spec_l3RowOf (fun k => noLoops rfl) (fun args m r h => match args, h with
  | [t0, t1], h => ⟨rfl, (xe_spec_l3RowOf t0 t1 m).trans h⟩)
theorem ok_C_spec_l3RowOf : OkC CT 49 C_spec_l3RowOf := fcall_ok rfl ok_X_spec_l3RowOf
noncomputable def cf_spec_l1Encode : CallF := cfn
noncomputable def X_spec_l1Encode : List Value → Mem → Option VM
 | [t0], m =>
  (binX .lss .no t0 (.int .i64 128)) |> bo fun t4 =>
  brX t4
   (
    (cvI .u8 t0) |> bo fun t6 =>
    (bslX m 1 1 [.int .u8 0] [(0, 1, t6)]) |> bo fun r3 =>
    retK m.length r3.2 [t0] r3.1)
   (
    (binX .lss .no t0 (.int .i64 2048)) |> bo fun t9 =>
    brX t9
     (
      (binX .quo .no t0 (.int .i64 64)) |> bo fun t11 =>
      (binX .add .no (.int .i64 192) t11) |> bo fun t12 =>
      (cvI .u8 t12) |> bo fun t13 =>
      (binX .rem .no t0 (.int .i64 64)) |> bo fun t15 =>
      (binX .add .no (.int .i64 128) t15) |> bo fun t16 =>
      (cvI .u8 t16) |> bo fun t17 =>
      (bslX m 2 1 [.int .u8 0] [(0, 1, t13), (1, 1, t17)]) |> bo fun r11 =>
      retK m.length r11.2 [t0] r11.1)
     (
      (binX .quo .no t0 (.int .i64 4096)) |> bo fun t20 =>
      (binX .add .no (.int .i64 224) t20) |> bo fun t21 =>
      (cvI .u8 t21) |> bo fun t22 =>
      (binX .quo .no t0 (.int .i64 64)) |> bo fun t24 =>
      (binX .rem .no t24 (.int .i64 64)) |> bo fun t25 =>
      (binX .add .no (.int .i64 128) t25) |> bo fun t26 =>
      (cvI .u8 t26) |> bo fun t27 =>
      (binX .rem .no t0 (.int .i64 64)) |> bo fun t29 =>
      (binX .add .no (.int .i64 128) t29) |> bo fun t30 =>
      (cvI .u8 t30) |> bo fun t31 =>
      (bslX m 3 1 [.int .u8 0] [(0, 1, t22), (1, 1, t27), (2, 1, t31)]) |> bo fun r22 =>
      retK m.length r22.2 [t0] r22.1))
 | _, _ => none
noncomputable def C_spec_l1Encode : List Value → Mem → Option VM := fcall X_spec_l1Encode
@[simp] theorem c_spec_l1Encode : C_spec_l1Encode = fcall X_spec_l1Encode := (rfl)
theorem cok_spec_l1Encode : codeOk CT Try.f50 (Try.f50.body.get rfl) = true := by kernel_rfl
theorem xe_spec_l1Encode (t0 : Value) (m : Mem) : ex CT cf_spec_l1Encode Try.f50 1 m.length [] (fun _ _ _ => none) 400 [.code (Try.f50.body.get rfl)] (argsT 0 [t0]) m = X_spec_l1Encode [t0] m := by kernel_rfl
theorem okc_spec_l1Encode : CallOK CT cf_spec_l1Encode := cfn_ok
theorem ok_X_spec_l1Encode : OkX CT 50 X_spec_l1Encode := OkX.of_ex (cf := cf_spec_l1Encode) (np := 1) (LL := []) (J := (fun _ _ _ _ => none)) CT_ok rfl Try.func50 rfl (Nat.le_of_ble_eq_true rfl) (by decide) cok_spec_l1Encode okc_spec_l1Encode (fun k => noLoops rfl) (fun args m r h => match args, h with
  | [t0], h => ⟨rfl, (xe_spec_l1Encode t0 m).trans h⟩)
theorem ok_C_spec_l1Encode : OkC CT 50 C_spec_l1Encode := fcall_ok rfl ok_X_spec_l1Encode
noncomputable def cf_spec_l5Text : CallF := cfc 49 C_spec_l3RowOf (cfc 50 C_spec_l1Encode cfn)
noncomputable def L_spec_l5Text (k : Nat) : Nat → Nat → List Value → Mem → Option VM
 | q + 1, 0, [t5, t6, t7], m =>
  (lenX t6) |> bo fun t16 =>
  (binX .lss .no t7 t16) |> bo fun t17 =>
  brX t17
   (
    (ixaX 2 t6 t7) |> bo fun t23 =>
    (fadX 0 t23) |> bo fun t24 =>
    (ld1 m t24) |> bo fun t25 =>
    (C_spec_l1Encode [t25] m) |> bo fun r6 =>
    (apL r6.2 1 1 t5 r6.1) |> bo fun r7 =>
    (binX .add .no t7 (.int .i64 1)) |> bo fun t19 =>
    cutK k r7.2 [] [r7.1, t6, t19] (L_spec_l5Text k q 0))
   (
    (cvBS m t5) |> bo fun t29 =>
    retK k m [] t29)
 | _, _, _, _ => none
noncomputable def J_spec_l5Text (k q l : Nat) : List Value → Mem → Option VM := cond (Nat.beq l 4) (L_spec_l5Text k q 0) (fun _ _ => none)
def LL_spec_l5Text : List (Nat × List Tmp) := [(4, [5, 6, 7])]
noncomputable def X_spec_l5Text : List Value → Mem → Option VM
 | [t0, t1], m =>
  (bslX m 0 1 [.int .u8 0] []) |> bo fun r1 =>
  (nilX t0) |> bo fun t10 =>
  (fadX 0 t10) |> bo fun t11 =>
  (C_spec_l3RowOf [t11, t1] r1.2) |> bo fun r4 =>
  cutK m.length r4.2 [t0, t1] [r1.1, r4.1, (.int .i64 0)] (L_spec_l5Text m.length QQ 0)
 | _, _ => none
noncomputable def C_spec_l5Text : List Value → Mem → Option VM := fcall X_spec_l5Text
@[simp] theorem c_spec_l5Text : C_spec_l5Text = fcall X_spec_l5Text := (rfl)
theorem cok_spec_l5Text : codeOk CT Try.f30 (Try.f30.body.get rfl) = true := by kernel_rfl
theorem xe_spec_l5Text (t0 t1 : Value) (m : Mem) : ex CT cf_spec_l5Text Try.f30 2 m.length LL_spec_l5Text (J_spec_l5Text m.length QQ) 400 [.code (Try.f30.body.get rfl)] (argsT 0 [t0, t1]) m = X_spec_l5Text [t0, t1] m := by kernel_rfl
theorem okc_spec_l5Text : CallOK CT cf_spec_l5Text := cfc_ok ok_C_spec_l3RowOf (cfc_ok ok_C_spec_l1Encode cfn_ok)
theorem le_spec_l5Text_0 (k q : Nat) (t5 t6 t7 : Value) (m : Mem) : ex CT cf_spec_l5Text Try.f30 2 k LL_spec_l5Text (J_spec_l5Text k q) 400 (atLoop Try.f30 0) [(5, t5), (6, t6), (7, t7)] m = J_spec_l5Text k (q + 1) 4 [t5, t6, t7] m := by kernel_rfl
theorem gl_spec_l5Text (k : Nat) : ∀ q i, i < 1 → GoodL CT k Try.f30 LL_spec_l5Text (J_spec_l5Text k q) (atLoop Try.f30 i)
 | 0, 0, _ => goodL_zero (l := 4) (by kernel_rfl) (fun vs m => by kernel_rfl)
 | 0, _ + 1, h => absurd h (by omega)
 | q + 1, 0, _ => goodL_succ (np := 2) (l := 4) (live := [5, 6, 7]) (n := 1) CT_ok rfl okc_spec_l5Text (c := (Try.f30.body.get rfl)) rfl cok_spec_l5Text (by kernel_rfl) (gl_spec_l5Text k q) (by kernel_rfl) rfl (fun vs m r hl h => match vs, hl with
  | [t5, t6, t7], _ => (le_spec_l5Text_0 k q t5 t6 t7 m).trans h)
 | _ + 1, _ + 1, h => absurd h (by omega)
theorem ok_X_spec_l5Text : OkX CT 30 X_spec_l5Text := OkX.of_ex (cf := cf_spec_l5Text) (np := 2) (LL := LL_spec_l5Text) (J := (fun k => J_spec_l5Text k QQ)) CT_ok rfl Try.func30 rfl (Nat.le_of_ble_eq_true rfl) (by decide) cok_spec_l5Text okc_spec_l5Text (fun k => allLoops rfl (by kernel_rfl) (gl_spec_l5Text k QQ)) (fun args m r h => match args, h with
  | [t0, t1], h => ⟨rfl, (xe_spec_l5Text t0 t1 m).trans h⟩)
theorem ok_C_spec_l5Text : OkC CT 30 C_spec_l5Text := fcall_ok rfl ok_X_spec_l5Text
noncomputable def cf_spec_l6Text : CallF := cfc 30 C_spec_l5Text cfn
noncomputable def L_spec_l6Text (k : Nat) : Nat → Nat → List Value → Mem → Option VM
 | q + 1, 0, [t0, t3, t4], m =>
  (nilX t0) |> bo fun t7 =>
  (fadX 7 t7) |> bo fun t8 =>
  (fadX 0 t8) |> bo fun t9 =>
  (fadX 0 t9) |> bo fun t10 =>
  (ld1 m t10) |> bo fun t11 =>
  (binX .lss .no t4 t11) |> bo fun t12 =>
  brX t12
   (
    (nilX t0) |> bo fun t17 =>
    (fadX 7 t17) |> bo fun t18 =>
    (C_spec_l5Text [t18, t4] m) |> bo fun r9 =>
    (binX .add .no t3 r9.1) |> bo fun t21 =>
    (binX .add .no t21 (.string ⟨#[10]⟩)) |> bo fun t22 =>
    (binX .add .no t4 (.int .i64 1)) |> bo fun t14 =>
    cutK k r9.2 [t0] [t0, t22, t14] (L_spec_l6Text k q 0))
   (
    retK k m [t0] t3)
 | _, _, _, _ => none
noncomputable def J_spec_l6Text (k q l : Nat) : List Value → Mem → Option VM := cond (Nat.beq l 3) (L_spec_l6Text k q 0) (fun _ _ => none)
def LL_spec_l6Text : List (Nat × List Tmp) := [(3, [0, 3, 4])]
noncomputable def X_spec_l6Text : List Value → Mem → Option VM
 | [t0], m =>
  cutK m.length m [t0] [t0, (.string ⟨#[]⟩), (.int .i64 0)] (L_spec_l6Text m.length QQ 0)
 | _, _ => none
noncomputable def C_spec_l6Text : List Value → Mem → Option VM := fcall X_spec_l6Text
@[simp] theorem c_spec_l6Text : C_spec_l6Text = fcall X_spec_l6Text := (rfl)
theorem cok_spec_l6Text : codeOk CT Try.f13 (Try.f13.body.get rfl) = true := by kernel_rfl
theorem xe_spec_l6Text (t0 : Value) (m : Mem) : ex CT cf_spec_l6Text Try.f13 1 m.length LL_spec_l6Text (J_spec_l6Text m.length QQ) 400 [.code (Try.f13.body.get rfl)] (argsT 0 [t0]) m = X_spec_l6Text [t0] m := by kernel_rfl
theorem okc_spec_l6Text : CallOK CT cf_spec_l6Text := cfc_ok ok_C_spec_l5Text cfn_ok
theorem le_spec_l6Text_0 (k q : Nat) (t0 t3 t4 : Value) (m : Mem) : ex CT cf_spec_l6Text Try.f13 1 k LL_spec_l6Text (J_spec_l6Text k q) 400 (atLoop Try.f13 0) [(0, t0), (3, t3), (4, t4)] m = J_spec_l6Text k (q + 1) 3 [t0, t3, t4] m := by kernel_rfl
theorem gl_spec_l6Text (k : Nat) : ∀ q i, i < 1 → GoodL CT k Try.f13 LL_spec_l6Text (J_spec_l6Text k q) (atLoop Try.f13 i)
 | 0, 0, _ => goodL_zero (l := 3) (by kernel_rfl) (fun vs m => by kernel_rfl)
 | 0, _ + 1, h => absurd h (by omega)
 | q + 1, 0, _ => goodL_succ (np := 1) (l := 3) (live := [0, 3, 4]) (n := 1) CT_ok rfl okc_spec_l6Text (c := (Try.f13.body.get rfl)) rfl cok_spec_l6Text (by kernel_rfl) (gl_spec_l6Text k q) (by kernel_rfl) rfl (fun vs m r hl h => match vs, hl with
  | [t0, t3, t4], _ => (le_spec_l6Text_0 k q t0 t3 t4 m).trans h)
 | _ + 1, _ + 1, h => absurd h (by omega)
theorem ok_X_spec_l6Text : OkX CT 13 X_spec_l6Text := OkX.of_ex (cf := cf_spec_l6Text) (np := 1) (LL := LL_spec_l6Text) (J := (fun k => J_spec_l6Text k QQ)) CT_ok rfl Try.func13 rfl (Nat.le_of_ble_eq_true rfl) (by decide) cok_spec_l6Text okc_spec_l6Text (fun k => allLoops rfl (by kernel_rfl) (gl_spec_l6Text k QQ)) (fun args m r h => match args, h with
  | [t0], h => ⟨rfl, (xe_spec_l6Text t0 m).trans h⟩)
theorem ok_C_spec_l6Text : OkC CT 13 C_spec_l6Text := fcall_ok rfl ok_X_spec_l6Text
noncomputable def cf_spec_VtText : CallF := cfc 12 C_spec_l6Fault (cfc 13 C_spec_l6Text cfn)
noncomputable def X_spec_VtText : List Value → Mem → Option VM
 | [t0], m =>
  (boxX m t0) |> bo fun r1 =>
  (alX r1.2 [.int .i64 0, .string .empty]) |> bo fun r2 =>
  (C_spec_l6Fault [r1.1] r2.2) |> bo fun r3 =>
  (binX .neq .no r3.1 (.int .i64 0)) |> bo fun t6 =>
  brX t6
   (
    (bldX [.int .i64 0, .string .empty] [(0, 1, r3.1)]) |> bo fun t8 =>
    (stX r3.2 2 r2.1 t8) |> bo fun m6 =>
    (resP (some 2) m6 r2.1) |> bo fun c7 =>
    retK m.length m6 [t0] c7)
   (
    (C_spec_l6Text [r1.1] r3.2) |> bo fun r8 =>
    (bldX [.int .i64 0, .string .empty] [(1, 1, r8.1)]) |> bo fun t10 =>
    (stX r8.2 2 r2.1 t10) |> bo fun m10 =>
    (resP (some 2) m10 r2.1) |> bo fun c11 =>
    retK m.length m10 [t0] c11)
 | _, _ => none
noncomputable def C_spec_VtText : List Value → Mem → Option VM := fcall X_spec_VtText
@[simp] theorem c_spec_VtText : C_spec_VtText = fcall X_spec_VtText := (rfl)
theorem cok_spec_VtText : codeOk CT Try.f5 (Try.f5.body.get rfl) = true := by kernel_rfl
theorem xe_spec_VtText (t0 : Value) (m : Mem) : ex CT cf_spec_VtText Try.f5 1 m.length [] (fun _ _ _ => none) 400 [.code (Try.f5.body.get rfl)] (argsT 0 [t0]) m = X_spec_VtText [t0] m := by kernel_rfl
theorem okc_spec_VtText : CallOK CT cf_spec_VtText := cfc_ok ok_C_spec_l6Fault (cfc_ok ok_C_spec_l6Text cfn_ok)
theorem ok_X_spec_VtText : OkX CT 5 X_spec_VtText := OkX.of_ex (cf := cf_spec_VtText) (np := 1) (LL := []) (J := (fun _ _ _ _ => none)) CT_ok rfl Try.func5 rfl (Nat.le_of_ble_eq_true rfl) (by decide) cok_spec_VtText okc_spec_VtText (fun k => noLoops rfl) (fun args m r h => match args, h with
  | [t0], h => ⟨rfl, (xe_spec_VtText t0 m).trans h⟩)
theorem ok_C_spec_VtText : OkC CT 5 C_spec_VtText := fcall_ok rfl ok_X_spec_VtText
noncomputable def cf_laws_toDecoder : CallF := cfn
noncomputable def X_laws_toDecoder : List Value → Mem → Option VM
 | [t0], m =>
  (boxX m t0) |> bo fun r1 =>
  (alX r1.2 [.int .i64 0, .int .i64 0, .int .i64 0]) |> bo fun r2 =>
  (alX r2.2 [.int .i64 0, .int .i64 0, .int .i64 0]) |> bo fun r3 =>
  (fadX 0 r1.1) |> bo fun t4 =>
  (ld1 r3.2 t4) |> bo fun t5 =>
  (fadX 0 r3.1) |> bo fun t6 =>
  (stX r3.2 1 t6 t5) |> bo fun m7 =>
  (fadX 1 r1.1) |> bo fun t7 =>
  (ld1 m7 t7) |> bo fun t8 =>
  (fadX 1 r3.1) |> bo fun t9 =>
  (stX m7 1 t9 t8) |> bo fun m11 =>
  (fadX 2 r1.1) |> bo fun t10 =>
  (ld1 m11 t10) |> bo fun t11 =>
  (fadX 2 r3.1) |> bo fun t12 =>
  (stX m11 1 t12 t11) |> bo fun m15 =>
  (ldS m15 3 r3.1) |> bo fun t13 =>
  (stX m15 3 r2.1 t13) |> bo fun m17 =>
  (resP (some 3) m17 r2.1) |> bo fun c18 =>
  retK m.length m17 [t0] c18
 | _, _ => none
noncomputable def C_laws_toDecoder : List Value → Mem → Option VM := fcall X_laws_toDecoder
@[simp] theorem c_laws_toDecoder : C_laws_toDecoder = fcall X_laws_toDecoder := (rfl)
theorem cok_laws_toDecoder : codeOk CT Try.f14 (Try.f14.body.get rfl) = true := by kernel_rfl
theorem xe_laws_toDecoder (t0 : Value) (m : Mem) : ex CT cf_laws_toDecoder Try.f14 1 m.length [] (fun _ _ _ => none) 400 [.code (Try.f14.body.get rfl)] (argsT 0 [t0]) m = X_laws_toDecoder [t0] m := by kernel_rfl
theorem okc_laws_toDecoder : CallOK CT cf_laws_toDecoder := cfn_ok
theorem ok_X_laws_toDecoder : OkX CT 14 X_laws_toDecoder := OkX.of_ex (cf := cf_laws_toDecoder) (np := 1) (LL := []) (J := (fun _ _ _ _ => none)) CT_ok rfl Try.func14 rfl (Nat.le_of_ble_eq_true rfl) (by decide) cok_laws_toDecoder okc_laws_toDecoder (fun k => noLoops rfl) (fun args m r h => match args, h with
  | [t0], h => ⟨rfl, (xe_laws_toDecoder t0 m).trans h⟩)
theorem ok_C_laws_toDecoder : OkC CT 14 C_laws_toDecoder := fcall_ok rfl ok_X_laws_toDecoder
noncomputable def cf_laws_toInt64S : CallF := cfn
noncomputable def L_laws_toInt64S (k : Nat) : Nat → Nat → List Value → Mem → Option VM
 | q + 1, 0, [t0, t3, t4], m =>
  (lenX t0) |> bo fun t10 =>
  (binX .lss .no t4 t10) |> bo fun t11 =>
  brX t11
   (
    (ixaX 1 t0 t4) |> bo fun t18 =>
    (ld1 m t18) |> bo fun t19 =>
    (ixaX 1 t3 t4) |> bo fun t20 =>
    (stX m 1 t20 t19) |> bo fun m6 =>
    (binX .add .no t4 (.int .i64 1)) |> bo fun t13 =>
    cutK k m6 [t0] [t0, t3, t13] (L_laws_toInt64S k q 0))
   (
    retK k m [t0] t3)
 | _, _, _, _ => none
noncomputable def J_laws_toInt64S (k q l : Nat) : List Value → Mem → Option VM := cond (Nat.beq l 3) (L_laws_toInt64S k q 0) (fun _ _ => none)
def LL_laws_toInt64S : List (Nat × List Tmp) := [(3, [0, 3, 4])]
noncomputable def X_laws_toInt64S : List Value → Mem → Option VM
 | [t0], m =>
  (lenX t0) |> bo fun t6 =>
  (mkX m 1 8 [.int .i64 0] t6 t6) |> bo fun r2 =>
  cutK m.length r2.2 [t0] [t0, r2.1, (.int .i64 0)] (L_laws_toInt64S m.length QQ 0)
 | _, _ => none
noncomputable def C_laws_toInt64S : List Value → Mem → Option VM := fcall X_laws_toInt64S
@[simp] theorem c_laws_toInt64S : C_laws_toInt64S = fcall X_laws_toInt64S := (rfl)
theorem cok_laws_toInt64S : codeOk CT Try.f31 (Try.f31.body.get rfl) = true := by kernel_rfl
theorem xe_laws_toInt64S (t0 : Value) (m : Mem) : ex CT cf_laws_toInt64S Try.f31 1 m.length LL_laws_toInt64S (J_laws_toInt64S m.length QQ) 400 [.code (Try.f31.body.get rfl)] (argsT 0 [t0]) m = X_laws_toInt64S [t0] m := by kernel_rfl
theorem okc_laws_toInt64S : CallOK CT cf_laws_toInt64S := cfn_ok
theorem le_laws_toInt64S_0 (k q : Nat) (t0 t3 t4 : Value) (m : Mem) : ex CT cf_laws_toInt64S Try.f31 1 k LL_laws_toInt64S (J_laws_toInt64S k q) 400 (atLoop Try.f31 0) [(0, t0), (3, t3), (4, t4)] m = J_laws_toInt64S k (q + 1) 3 [t0, t3, t4] m := by kernel_rfl
theorem gl_laws_toInt64S (k : Nat) : ∀ q i, i < 1 → GoodL CT k Try.f31 LL_laws_toInt64S (J_laws_toInt64S k q) (atLoop Try.f31 i)
 | 0, 0, _ => goodL_zero (l := 3) (by kernel_rfl) (fun vs m => by kernel_rfl)
 | 0, _ + 1, h => absurd h (by omega)
 | q + 1, 0, _ => goodL_succ (np := 1) (l := 3) (live := [0, 3, 4]) (n := 1) CT_ok rfl okc_laws_toInt64S (c := (Try.f31.body.get rfl)) rfl cok_laws_toInt64S (by kernel_rfl) (gl_laws_toInt64S k q) (by kernel_rfl) rfl (fun vs m r hl h => match vs, hl with
  | [t0, t3, t4], _ => (le_laws_toInt64S_0 k q t0 t3 t4 m).trans h)
 | _ + 1, _ + 1, h => absurd h (by omega)
theorem ok_X_laws_toInt64S : OkX CT 31 X_laws_toInt64S := OkX.of_ex (cf := cf_laws_toInt64S) (np := 1) (LL := LL_laws_toInt64S) (J := (fun k => J_laws_toInt64S k QQ)) CT_ok rfl Try.func31 rfl (Nat.le_of_ble_eq_true rfl) (by decide) cok_laws_toInt64S okc_laws_toInt64S (fun k => allLoops rfl (by kernel_rfl) (gl_laws_toInt64S k QQ)) (fun args m r h => match args, h with
  | [t0], h => ⟨rfl, (xe_laws_toInt64S t0 m).trans h⟩)
theorem ok_C_laws_toInt64S : OkC CT 31 C_laws_toInt64S := fcall_ok rfl ok_X_laws_toInt64S
noncomputable def cf_laws_toParser : CallF := cfc 31 C_laws_toInt64S cfn
noncomputable def X_laws_toParser : List Value → Mem → Option VM
 | [t0], m =>
  (boxX m t0) |> bo fun r1 =>
  (alX r1.2 [.int .i64 0, .int .i64 0, .bool false, .slice none 0 0]) |> bo fun r2 =>
  (alX r2.2 [.int .i64 0, .int .i64 0, .bool false, .slice none 0 0]) |> bo fun r3 =>
  (fadX 0 r1.1) |> bo fun t4 =>
  (ld1 r3.2 t4) |> bo fun t5 =>
  (fadX 0 r3.1) |> bo fun t6 =>
  (stX r3.2 1 t6 t5) |> bo fun m7 =>
  (fadX 1 r1.1) |> bo fun t7 =>
  (ld1 m7 t7) |> bo fun t8 =>
  (fadX 1 r3.1) |> bo fun t9 =>
  (stX m7 1 t9 t8) |> bo fun m11 =>
  (fadX 2 r1.1) |> bo fun t10 =>
  (ld1 m11 t10) |> bo fun t11 =>
  (fadX 2 r3.1) |> bo fun t12 =>
  (stX m11 1 t12 t11) |> bo fun m15 =>
  (fadX 3 r1.1) |> bo fun t13 =>
  (ld1 m15 t13) |> bo fun t14 =>
  (C_laws_toInt64S [t14] m15) |> bo fun r18 =>
  (fadX 3 r3.1) |> bo fun t16 =>
  (stX r18.2 1 t16 r18.1) |> bo fun m20 =>
  (ldS m20 4 r3.1) |> bo fun t17 =>
  (stX m20 4 r2.1 t17) |> bo fun m22 =>
  (resP (some 4) m22 r2.1) |> bo fun c23 =>
  retK m.length m22 [t0] c23
 | _, _ => none
noncomputable def C_laws_toParser : List Value → Mem → Option VM := fcall X_laws_toParser
@[simp] theorem c_laws_toParser : C_laws_toParser = fcall X_laws_toParser := (rfl)
theorem cok_laws_toParser : codeOk CT Try.f15 (Try.f15.body.get rfl) = true := by kernel_rfl
theorem xe_laws_toParser (t0 : Value) (m : Mem) : ex CT cf_laws_toParser Try.f15 1 m.length [] (fun _ _ _ => none) 400 [.code (Try.f15.body.get rfl)] (argsT 0 [t0]) m = X_laws_toParser [t0] m := by kernel_rfl
theorem okc_laws_toParser : CallOK CT cf_laws_toParser := cfc_ok ok_C_laws_toInt64S cfn_ok
theorem ok_X_laws_toParser : OkX CT 15 X_laws_toParser := OkX.of_ex (cf := cf_laws_toParser) (np := 1) (LL := []) (J := (fun _ _ _ _ => none)) CT_ok rfl Try.func15 rfl (Nat.le_of_ble_eq_true rfl) (by decide) cok_laws_toParser okc_laws_toParser (fun k => noLoops rfl) (fun args m r h => match args, h with
  | [t0], h => ⟨rfl, (xe_laws_toParser t0 m).trans h⟩)
theorem ok_C_laws_toParser : OkC CT 15 C_laws_toParser := fcall_ok rfl ok_X_laws_toParser
noncomputable def cf_laws_toCell : CallF := cfn
noncomputable def X_laws_toCell : List Value → Mem → Option VM
 | [t0], m =>
  (boxX m t0) |> bo fun r1 =>
  (alX r1.2 [.int .i64 0, .int .i64 0]) |> bo fun r2 =>
  (alX r2.2 [.int .i64 0, .int .i64 0]) |> bo fun r3 =>
  (fadX 0 r1.1) |> bo fun t4 =>
  (ld1 r3.2 t4) |> bo fun t5 =>
  (fadX 0 r3.1) |> bo fun t6 =>
  (stX r3.2 1 t6 t5) |> bo fun m7 =>
  (fadX 1 r1.1) |> bo fun t7 =>
  (ld1 m7 t7) |> bo fun t8 =>
  (fadX 1 r3.1) |> bo fun t9 =>
  (stX m7 1 t9 t8) |> bo fun m11 =>
  (ldS m11 2 r3.1) |> bo fun t10 =>
  (stX m11 2 r2.1 t10) |> bo fun m13 =>
  (resP (some 2) m13 r2.1) |> bo fun c14 =>
  retK m.length m13 [t0] c14
 | _, _ => none
noncomputable def C_laws_toCell : List Value → Mem → Option VM := fcall X_laws_toCell
@[simp] theorem c_laws_toCell : C_laws_toCell = fcall X_laws_toCell := (rfl)
theorem cok_laws_toCell : codeOk CT Try.f67 (Try.f67.body.get rfl) = true := by kernel_rfl
theorem xe_laws_toCell (t0 : Value) (m : Mem) : ex CT cf_laws_toCell Try.f67 1 m.length [] (fun _ _ _ => none) 400 [.code (Try.f67.body.get rfl)] (argsT 0 [t0]) m = X_laws_toCell [t0] m := by kernel_rfl
theorem okc_laws_toCell : CallOK CT cf_laws_toCell := cfn_ok
theorem ok_X_laws_toCell : OkX CT 67 X_laws_toCell := OkX.of_ex (cf := cf_laws_toCell) (np := 1) (LL := []) (J := (fun _ _ _ _ => none)) CT_ok rfl Try.func67 rfl (Nat.le_of_ble_eq_true rfl) (by decide) cok_laws_toCell okc_laws_toCell (fun k => noLoops rfl) (fun args m r h => match args, h with
  | [t0], h => ⟨rfl, (xe_laws_toCell t0 m).trans h⟩)
theorem ok_C_laws_toCell : OkC CT 67 C_laws_toCell := fcall_ok rfl ok_X_laws_toCell
noncomputable def cf_laws_toCellS : CallF := cfc 67 C_laws_toCell cfn
noncomputable def L_laws_toCellS (k : Nat) : Nat → Nat → List Value → Mem → Option VM
 | q + 1, 0, [t0, t3, t4], m =>
  (lenX t0) |> bo fun t10 =>
  (binX .lss .no t4 t10) |> bo fun t11 =>
  brX t11
   (
    (ixaX 2 t0 t4) |> bo fun t18 =>
    (ldS m 2 t18) |> bo fun t19 =>
    (C_laws_toCell [t19] m) |> bo fun r5 =>
    (ixaX 2 t3 t4) |> bo fun t21 =>
    (stX r5.2 2 t21 r5.1) |> bo fun m7 =>
    (binX .add .no t4 (.int .i64 1)) |> bo fun t13 =>
    cutK k m7 [t0] [t0, t3, t13] (L_laws_toCellS k q 0))
   (
    retK k m [t0] t3)
 | _, _, _, _ => none
noncomputable def J_laws_toCellS (k q l : Nat) : List Value → Mem → Option VM := cond (Nat.beq l 3) (L_laws_toCellS k q 0) (fun _ _ => none)
def LL_laws_toCellS : List (Nat × List Tmp) := [(3, [0, 3, 4])]
noncomputable def X_laws_toCellS : List Value → Mem → Option VM
 | [t0], m =>
  (lenX t0) |> bo fun t6 =>
  (mkX m 2 16 [.int .i64 0, .int .i64 0] t6 t6) |> bo fun r2 =>
  cutK m.length r2.2 [t0] [t0, r2.1, (.int .i64 0)] (L_laws_toCellS m.length QQ 0)
 | _, _ => none
noncomputable def C_laws_toCellS : List Value → Mem → Option VM := fcall X_laws_toCellS
@[simp] theorem c_laws_toCellS : C_laws_toCellS = fcall X_laws_toCellS := (rfl)
theorem cok_laws_toCellS : codeOk CT Try.f51 (Try.f51.body.get rfl) = true := by kernel_rfl
theorem xe_laws_toCellS (t0 : Value) (m : Mem) : ex CT cf_laws_toCellS Try.f51 1 m.length LL_laws_toCellS (J_laws_toCellS m.length QQ) 400 [.code (Try.f51.body.get rfl)] (argsT 0 [t0]) m = X_laws_toCellS [t0] m := by kernel_rfl
theorem okc_laws_toCellS : CallOK CT cf_laws_toCellS := cfc_ok ok_C_laws_toCell cfn_ok
theorem le_laws_toCellS_0 (k q : Nat) (t0 t3 t4 : Value) (m : Mem) : ex CT cf_laws_toCellS Try.f51 1 k LL_laws_toCellS (J_laws_toCellS k q) 400 (atLoop Try.f51 0) [(0, t0), (3, t3), (4, t4)] m = J_laws_toCellS k (q + 1) 3 [t0, t3, t4] m := by kernel_rfl
theorem gl_laws_toCellS (k : Nat) : ∀ q i, i < 1 → GoodL CT k Try.f51 LL_laws_toCellS (J_laws_toCellS k q) (atLoop Try.f51 i)
 | 0, 0, _ => goodL_zero (l := 3) (by kernel_rfl) (fun vs m => by kernel_rfl)
 | 0, _ + 1, h => absurd h (by omega)
 | q + 1, 0, _ => goodL_succ (np := 1) (l := 3) (live := [0, 3, 4]) (n := 1) CT_ok rfl okc_laws_toCellS (c := (Try.f51.body.get rfl)) rfl cok_laws_toCellS (by kernel_rfl) (gl_laws_toCellS k q) (by kernel_rfl) rfl (fun vs m r hl h => match vs, hl with
  | [t0, t3, t4], _ => (le_laws_toCellS_0 k q t0 t3 t4 m).trans h)
 | _ + 1, _ + 1, h => absurd h (by omega)
theorem ok_X_laws_toCellS : OkX CT 51 X_laws_toCellS := OkX.of_ex (cf := cf_laws_toCellS) (np := 1) (LL := LL_laws_toCellS) (J := (fun k => J_laws_toCellS k QQ)) CT_ok rfl Try.func51 rfl (Nat.le_of_ble_eq_true rfl) (by decide) cok_laws_toCellS okc_laws_toCellS (fun k => allLoops rfl (by kernel_rfl) (gl_laws_toCellS k QQ)) (fun args m r h => match args, h with
  | [t0], h => ⟨rfl, (xe_laws_toCellS t0 m).trans h⟩)
theorem ok_C_laws_toCellS : OkC CT 51 C_laws_toCellS := fcall_ok rfl ok_X_laws_toCellS
noncomputable def cf_laws_toGrid : CallF := cfc 51 C_laws_toCellS cfn
noncomputable def X_laws_toGrid : List Value → Mem → Option VM
 | [t0], m =>
  (boxX m t0) |> bo fun r1 =>
  (alX r1.2 [.int .i64 0, .int .i64 0, .slice none 0 0, .slice none 0 0]) |> bo fun r2 =>
  (alX r2.2 [.int .i64 0, .int .i64 0, .slice none 0 0, .slice none 0 0]) |> bo fun r3 =>
  (fadX 0 r1.1) |> bo fun t4 =>
  (ld1 r3.2 t4) |> bo fun t5 =>
  (fadX 0 r3.1) |> bo fun t6 =>
  (stX r3.2 1 t6 t5) |> bo fun m7 =>
  (fadX 1 r1.1) |> bo fun t7 =>
  (ld1 m7 t7) |> bo fun t8 =>
  (fadX 1 r3.1) |> bo fun t9 =>
  (stX m7 1 t9 t8) |> bo fun m11 =>
  (fadX 2 r1.1) |> bo fun t10 =>
  (ld1 m11 t10) |> bo fun t11 =>
  (C_laws_toCellS [t11] m11) |> bo fun r14 =>
  (fadX 2 r3.1) |> bo fun t13 =>
  (stX r14.2 1 t13 r14.1) |> bo fun m16 =>
  (fadX 3 r1.1) |> bo fun t14 =>
  (ld1 m16 t14) |> bo fun t15 =>
  (C_laws_toCellS [t15] m16) |> bo fun r19 =>
  (fadX 3 r3.1) |> bo fun t17 =>
  (stX r19.2 1 t17 r19.1) |> bo fun m21 =>
  (ldS m21 4 r3.1) |> bo fun t18 =>
  (stX m21 4 r2.1 t18) |> bo fun m23 =>
  (resP (some 4) m23 r2.1) |> bo fun c24 =>
  retK m.length m23 [t0] c24
 | _, _ => none
noncomputable def C_laws_toGrid : List Value → Mem → Option VM := fcall X_laws_toGrid
@[simp] theorem c_laws_toGrid : C_laws_toGrid = fcall X_laws_toGrid := (rfl)
theorem cok_laws_toGrid : codeOk CT Try.f32 (Try.f32.body.get rfl) = true := by kernel_rfl
theorem xe_laws_toGrid (t0 : Value) (m : Mem) : ex CT cf_laws_toGrid Try.f32 1 m.length [] (fun _ _ _ => none) 400 [.code (Try.f32.body.get rfl)] (argsT 0 [t0]) m = X_laws_toGrid [t0] m := by kernel_rfl
theorem okc_laws_toGrid : CallOK CT cf_laws_toGrid := cfc_ok ok_C_laws_toCellS cfn_ok
theorem ok_X_laws_toGrid : OkX CT 32 X_laws_toGrid := OkX.of_ex (cf := cf_laws_toGrid) (np := 1) (LL := []) (J := (fun _ _ _ _ => none)) CT_ok rfl Try.func32 rfl (Nat.le_of_ble_eq_true rfl) (by decide) cok_laws_toGrid okc_laws_toGrid (fun k => noLoops rfl) (fun args m r h => match args, h with
  | [t0], h => ⟨rfl, (xe_laws_toGrid t0 m).trans h⟩)
theorem ok_C_laws_toGrid : OkC CT 32 C_laws_toGrid := fcall_ok rfl ok_X_laws_toGrid
noncomputable def cf_laws_toBoolS : CallF := cfn
noncomputable def L_laws_toBoolS (k : Nat) : Nat → Nat → List Value → Mem → Option VM
 | q + 1, 0, [t0, t3, t4], m =>
  (lenX t0) |> bo fun t10 =>
  (binX .lss .no t4 t10) |> bo fun t11 =>
  brX t11
   (
    (ixaX 1 t0 t4) |> bo fun t18 =>
    (ld1 m t18) |> bo fun t19 =>
    (ixaX 1 t3 t4) |> bo fun t20 =>
    (stX m 1 t20 t19) |> bo fun m6 =>
    (binX .add .no t4 (.int .i64 1)) |> bo fun t13 =>
    cutK k m6 [t0] [t0, t3, t13] (L_laws_toBoolS k q 0))
   (
    retK k m [t0] t3)
 | _, _, _, _ => none
noncomputable def J_laws_toBoolS (k q l : Nat) : List Value → Mem → Option VM := cond (Nat.beq l 3) (L_laws_toBoolS k q 0) (fun _ _ => none)
def LL_laws_toBoolS : List (Nat × List Tmp) := [(3, [0, 3, 4])]
noncomputable def X_laws_toBoolS : List Value → Mem → Option VM
 | [t0], m =>
  (lenX t0) |> bo fun t6 =>
  (mkX m 1 1 [.bool false] t6 t6) |> bo fun r2 =>
  cutK m.length r2.2 [t0] [t0, r2.1, (.int .i64 0)] (L_laws_toBoolS m.length QQ 0)
 | _, _ => none
noncomputable def C_laws_toBoolS : List Value → Mem → Option VM := fcall X_laws_toBoolS
@[simp] theorem c_laws_toBoolS : C_laws_toBoolS = fcall X_laws_toBoolS := (rfl)
theorem cok_laws_toBoolS : codeOk CT Try.f33 (Try.f33.body.get rfl) = true := by kernel_rfl
theorem xe_laws_toBoolS (t0 : Value) (m : Mem) : ex CT cf_laws_toBoolS Try.f33 1 m.length LL_laws_toBoolS (J_laws_toBoolS m.length QQ) 400 [.code (Try.f33.body.get rfl)] (argsT 0 [t0]) m = X_laws_toBoolS [t0] m := by kernel_rfl
theorem okc_laws_toBoolS : CallOK CT cf_laws_toBoolS := cfn_ok
theorem le_laws_toBoolS_0 (k q : Nat) (t0 t3 t4 : Value) (m : Mem) : ex CT cf_laws_toBoolS Try.f33 1 k LL_laws_toBoolS (J_laws_toBoolS k q) 400 (atLoop Try.f33 0) [(0, t0), (3, t3), (4, t4)] m = J_laws_toBoolS k (q + 1) 3 [t0, t3, t4] m := by kernel_rfl
theorem gl_laws_toBoolS (k : Nat) : ∀ q i, i < 1 → GoodL CT k Try.f33 LL_laws_toBoolS (J_laws_toBoolS k q) (atLoop Try.f33 i)
 | 0, 0, _ => goodL_zero (l := 3) (by kernel_rfl) (fun vs m => by kernel_rfl)
 | 0, _ + 1, h => absurd h (by omega)
 | q + 1, 0, _ => goodL_succ (np := 1) (l := 3) (live := [0, 3, 4]) (n := 1) CT_ok rfl okc_laws_toBoolS (c := (Try.f33.body.get rfl)) rfl cok_laws_toBoolS (by kernel_rfl) (gl_laws_toBoolS k q) (by kernel_rfl) rfl (fun vs m r hl h => match vs, hl with
  | [t0, t3, t4], _ => (le_laws_toBoolS_0 k q t0 t3 t4 m).trans h)
 | _ + 1, _ + 1, h => absurd h (by omega)
theorem ok_X_laws_toBoolS : OkX CT 33 X_laws_toBoolS := OkX.of_ex (cf := cf_laws_toBoolS) (np := 1) (LL := LL_laws_toBoolS) (J := (fun k => J_laws_toBoolS k QQ)) CT_ok rfl Try.func33 rfl (Nat.le_of_ble_eq_true rfl) (by decide) cok_laws_toBoolS okc_laws_toBoolS (fun k => allLoops rfl (by kernel_rfl) (gl_laws_toBoolS k QQ)) (fun args m r h => match args, h with
  | [t0], h => ⟨rfl, (xe_laws_toBoolS t0 m).trans h⟩)
theorem ok_C_laws_toBoolS : OkC CT 33 C_laws_toBoolS := fcall_ok rfl ok_X_laws_toBoolS
noncomputable def cf_laws_toScreen : CallF := cfc 31 C_laws_toInt64S (cfc 32 C_laws_toGrid (cfc 33 C_laws_toBoolS cfn))
noncomputable def X_laws_toScreen : List Value → Mem → Option VM
 | [t0], m =>
  (boxX m t0) |> bo fun r1 =>
  (alX r1.2 [.int .i64 0, .int .i64 0, .slice none 0 0, .slice none 0 0, .int .i64 0, .int .i64 0, .bool false, .int .i64 0, .int .i64 0, .int .i64 0, .bool false, .bool false, .bool false, .slice none 0 0, .int .i64 0, .int .i64 0, .int .i64 0, .slice none 0 0, .int .i64 0, .int .i64 0]) |> bo fun r2 =>
  (alX r2.2 [.int .i64 0, .int .i64 0, .slice none 0 0, .slice none 0 0, .int .i64 0, .int .i64 0, .bool false, .int .i64 0, .int .i64 0, .int .i64 0, .bool false, .bool false, .bool false, .slice none 0 0, .int .i64 0, .int .i64 0, .int .i64 0, .slice none 0 0, .int .i64 0, .int .i64 0]) |> bo fun r3 =>
  (fadX 0 r1.1) |> bo fun t4 =>
  (ldS r3.2 4 t4) |> bo fun t5 =>
  (C_laws_toGrid [t5] r3.2) |> bo fun r6 =>
  (fadX 0 r3.1) |> bo fun t7 =>
  (stX r6.2 4 t7 r6.1) |> bo fun m8 =>
  (fadX 4 r1.1) |> bo fun t8 =>
  (ld1 m8 t8) |> bo fun t9 =>
  (fadX 4 r3.1) |> bo fun t10 =>
  (stX m8 1 t10 t9) |> bo fun m12 =>
  (fadX 5 r1.1) |> bo fun t11 =>
  (ld1 m12 t11) |> bo fun t12 =>
  (fadX 5 r3.1) |> bo fun t13 =>
  (stX m12 1 t13 t12) |> bo fun m16 =>
  (fadX 6 r1.1) |> bo fun t14 =>
  (ld1 m16 t14) |> bo fun t15 =>
  (fadX 6 r3.1) |> bo fun t16 =>
  (stX m16 1 t16 t15) |> bo fun m20 =>
  (fadX 7 r1.1) |> bo fun t17 =>
  (ld1 m20 t17) |> bo fun t18 =>
  (fadX 7 r3.1) |> bo fun t19 =>
  (stX m20 1 t19 t18) |> bo fun m24 =>
  (fadX 8 r1.1) |> bo fun t20 =>
  (ld1 m24 t20) |> bo fun t21 =>
  (fadX 8 r3.1) |> bo fun t22 =>
  (stX m24 1 t22 t21) |> bo fun m28 =>
  (fadX 9 r1.1) |> bo fun t23 =>
  (ld1 m28 t23) |> bo fun t24 =>
  (fadX 9 r3.1) |> bo fun t25 =>
  (stX m28 1 t25 t24) |> bo fun m32 =>
  (fadX 10 r1.1) |> bo fun t26 =>
  (ld1 m32 t26) |> bo fun t27 =>
  (fadX 10 r3.1) |> bo fun t28 =>
  (stX m32 1 t28 t27) |> bo fun m36 =>
  (fadX 11 r1.1) |> bo fun t29 =>
  (ld1 m36 t29) |> bo fun t30 =>
  (fadX 11 r3.1) |> bo fun t31 =>
  (stX m36 1 t31 t30) |> bo fun m40 =>
  (fadX 12 r1.1) |> bo fun t32 =>
  (ld1 m40 t32) |> bo fun t33 =>
  (fadX 12 r3.1) |> bo fun t34 =>
  (stX m40 1 t34 t33) |> bo fun m44 =>
  (fadX 13 r1.1) |> bo fun t35 =>
  (ld1 m44 t35) |> bo fun t36 =>
  (C_laws_toBoolS [t36] m44) |> bo fun r47 =>
  (fadX 13 r3.1) |> bo fun t38 =>
  (stX r47.2 1 t38 r47.1) |> bo fun m49 =>
  (fadX 14 r1.1) |> bo fun t39 =>
  (ld1 m49 t39) |> bo fun t40 =>
  (fadX 14 r3.1) |> bo fun t41 =>
  (stX m49 1 t41 t40) |> bo fun m53 =>
  (fadX 15 r1.1) |> bo fun t42 =>
  (ld1 m53 t42) |> bo fun t43 =>
  (fadX 15 r3.1) |> bo fun t44 =>
  (stX m53 1 t44 t43) |> bo fun m57 =>
  (fadX 16 r1.1) |> bo fun t45 =>
  (ld1 m57 t45) |> bo fun t46 =>
  (fadX 16 r3.1) |> bo fun t47 =>
  (stX m57 1 t47 t46) |> bo fun m61 =>
  (fadX 17 r1.1) |> bo fun t48 =>
  (ld1 m61 t48) |> bo fun t49 =>
  (C_laws_toInt64S [t49] m61) |> bo fun r64 =>
  (fadX 17 r3.1) |> bo fun t51 =>
  (stX r64.2 1 t51 r64.1) |> bo fun m66 =>
  (fadX 18 r1.1) |> bo fun t52 =>
  (ld1 m66 t52) |> bo fun t53 =>
  (fadX 18 r3.1) |> bo fun t54 =>
  (stX m66 1 t54 t53) |> bo fun m70 =>
  (fadX 19 r1.1) |> bo fun t55 =>
  (ld1 m70 t55) |> bo fun t56 =>
  (fadX 19 r3.1) |> bo fun t57 =>
  (stX m70 1 t57 t56) |> bo fun m74 =>
  (ldS m74 20 r3.1) |> bo fun t58 =>
  (stX m74 20 r2.1 t58) |> bo fun m76 =>
  (resP (some 20) m76 r2.1) |> bo fun c77 =>
  retK m.length m76 [t0] c77
 | _, _ => none
noncomputable def C_laws_toScreen : List Value → Mem → Option VM := fcall X_laws_toScreen
@[simp] theorem c_laws_toScreen : C_laws_toScreen = fcall X_laws_toScreen := (rfl)
theorem cok_laws_toScreen : codeOk CT Try.f16 (Try.f16.body.get rfl) = true := by kernel_rfl
theorem xe_laws_toScreen (t0 : Value) (m : Mem) : ex CT cf_laws_toScreen Try.f16 1 m.length [] (fun _ _ _ => none) 400 [.code (Try.f16.body.get rfl)] (argsT 0 [t0]) m = X_laws_toScreen [t0] m := by kernel_rfl
theorem okc_laws_toScreen : CallOK CT cf_laws_toScreen := cfc_ok ok_C_laws_toInt64S (cfc_ok ok_C_laws_toGrid (cfc_ok ok_C_laws_toBoolS cfn_ok))
theorem ok_X_laws_toScreen : OkX CT 16 X_laws_toScreen := OkX.of_ex (cf := cf_laws_toScreen) (np := 1) (LL := []) (J := (fun _ _ _ _ => none)) CT_ok rfl Try.func16 rfl (Nat.le_of_ble_eq_true rfl) (by decide) cok_laws_toScreen okc_laws_toScreen (fun k => noLoops rfl) (fun args m r h => match args, h with
  | [t0], h => ⟨rfl, (xe_laws_toScreen t0 m).trans h⟩)
theorem ok_C_laws_toScreen : OkC CT 16 C_laws_toScreen := fcall_ok rfl ok_X_laws_toScreen
noncomputable def cf_laws_toVt : CallF := cfc 14 C_laws_toDecoder (cfc 15 C_laws_toParser (cfc 16 C_laws_toScreen cfn))
noncomputable def X_laws_toVt : List Value → Mem → Option VM
 | [t0], m =>
  (boxX m t0) |> bo fun r1 =>
  (alX r1.2 [.int .i64 0, .int .i64 0, .int .i64 0, .int .i64 0, .int .i64 0, .bool false, .slice none 0 0, .int .i64 0, .int .i64 0, .slice none 0 0, .slice none 0 0, .int .i64 0, .int .i64 0, .bool false, .int .i64 0, .int .i64 0, .int .i64 0, .bool false, .bool false, .bool false, .slice none 0 0, .int .i64 0, .int .i64 0, .int .i64 0, .slice none 0 0, .int .i64 0, .int .i64 0]) |> bo fun r2 =>
  (alX r2.2 [.int .i64 0, .int .i64 0, .int .i64 0, .int .i64 0, .int .i64 0, .bool false, .slice none 0 0, .int .i64 0, .int .i64 0, .slice none 0 0, .slice none 0 0, .int .i64 0, .int .i64 0, .bool false, .int .i64 0, .int .i64 0, .int .i64 0, .bool false, .bool false, .bool false, .slice none 0 0, .int .i64 0, .int .i64 0, .int .i64 0, .slice none 0 0, .int .i64 0, .int .i64 0]) |> bo fun r3 =>
  (fadX 0 r1.1) |> bo fun t4 =>
  (ldS r3.2 3 t4) |> bo fun t5 =>
  (C_laws_toDecoder [t5] r3.2) |> bo fun r6 =>
  (fadX 0 r3.1) |> bo fun t7 =>
  (stX r6.2 3 t7 r6.1) |> bo fun m8 =>
  (fadX 3 r1.1) |> bo fun t8 =>
  (ldS m8 4 t8) |> bo fun t9 =>
  (C_laws_toParser [t9] m8) |> bo fun r11 =>
  (fadX 3 r3.1) |> bo fun t11 =>
  (stX r11.2 4 t11 r11.1) |> bo fun m13 =>
  (fadX 7 r1.1) |> bo fun t12 =>
  (ldS m13 20 t12) |> bo fun t13 =>
  (C_laws_toScreen [t13] m13) |> bo fun r16 =>
  (fadX 7 r3.1) |> bo fun t15 =>
  (stX r16.2 20 t15 r16.1) |> bo fun m18 =>
  (ldS m18 27 r3.1) |> bo fun t16 =>
  (stX m18 27 r2.1 t16) |> bo fun m20 =>
  (resP (some 27) m20 r2.1) |> bo fun c21 =>
  retK m.length m20 [t0] c21
 | _, _ => none
noncomputable def C_laws_toVt : List Value → Mem → Option VM := fcall X_laws_toVt
@[simp] theorem c_laws_toVt : C_laws_toVt = fcall X_laws_toVt := (rfl)
theorem cok_laws_toVt : codeOk CT Try.f6 (Try.f6.body.get rfl) = true := by kernel_rfl
theorem xe_laws_toVt (t0 : Value) (m : Mem) : ex CT cf_laws_toVt Try.f6 1 m.length [] (fun _ _ _ => none) 400 [.code (Try.f6.body.get rfl)] (argsT 0 [t0]) m = X_laws_toVt [t0] m := by kernel_rfl
theorem okc_laws_toVt : CallOK CT cf_laws_toVt := cfc_ok ok_C_laws_toDecoder (cfc_ok ok_C_laws_toParser (cfc_ok ok_C_laws_toScreen cfn_ok))
theorem ok_X_laws_toVt : OkX CT 6 X_laws_toVt := OkX.of_ex (cf := cf_laws_toVt) (np := 1) (LL := []) (J := (fun _ _ _ _ => none)) CT_ok rfl Try.func6 rfl (Nat.le_of_ble_eq_true rfl) (by decide) cok_laws_toVt okc_laws_toVt (fun k => noLoops rfl) (fun args m r h => match args, h with
  | [t0], h => ⟨rfl, (xe_laws_toVt t0 m).trans h⟩)
theorem ok_C_laws_toVt : OkC CT 6 C_laws_toVt := fcall_ok rfl ok_X_laws_toVt
noncomputable def cf_impl_first : CallF := cfn
noncomputable def L_impl_first (k : Nat) : Nat → Nat → List Value → Mem → Option VM
 | q + 1, 0, [t5, t6, t7], m =>
  (binX .lss .no t7 t6) |> bo fun t8 =>
  brX t8
   (
    (ixaX 1 t5 t7) |> bo fun t9 =>
    (ld1 m t9) |> bo fun t10 =>
    (binX .neq .no t10 (.int .i64 0)) |> bo fun t12 =>
    brX t12
     (
      retK k m [] t10)
     (
      (binX .add .no t7 (.int .i64 1)) |> bo fun t14 =>
      cutK k m [] [t5, t6, t14] (L_impl_first k q 0)))
   (
    retK k m [] (.int .i64 0))
 | _, _, _, _ => none
noncomputable def J_impl_first (k q l : Nat) : List Value → Mem → Option VM := cond (Nat.beq l 2) (L_impl_first k q 0) (fun _ _ => none)
def LL_impl_first : List (Nat × List Tmp) := [(2, [5, 6, 7])]
noncomputable def X_impl_first : List Value → Mem → Option VM
 | [t0], m =>
  (lenX t0) |> bo fun t6 =>
  cutK m.length m [t0] [t0, t6, (.int .i64 0)] (L_impl_first m.length QQ 0)
 | _, _ => none
noncomputable def C_impl_first : List Value → Mem → Option VM := fcall X_impl_first
@[simp] theorem c_impl_first : C_impl_first = fcall X_impl_first := (rfl)
theorem cok_impl_first : codeOk CT Try.f34 (Try.f34.body.get rfl) = true := by kernel_rfl
theorem xe_impl_first (t0 : Value) (m : Mem) : ex CT cf_impl_first Try.f34 1 m.length LL_impl_first (J_impl_first m.length QQ) 400 [.code (Try.f34.body.get rfl)] (argsT 0 [t0]) m = X_impl_first [t0] m := by kernel_rfl
theorem okc_impl_first : CallOK CT cf_impl_first := cfn_ok
theorem le_impl_first_0 (k q : Nat) (t5 t6 t7 : Value) (m : Mem) : ex CT cf_impl_first Try.f34 1 k LL_impl_first (J_impl_first k q) 400 (atLoop Try.f34 0) [(5, t5), (6, t6), (7, t7)] m = J_impl_first k (q + 1) 2 [t5, t6, t7] m := by kernel_rfl
theorem gl_impl_first (k : Nat) : ∀ q i, i < 1 → GoodL CT k Try.f34 LL_impl_first (J_impl_first k q) (atLoop Try.f34 i)
 | 0, 0, _ => goodL_zero (l := 2) (by kernel_rfl) (fun vs m => by kernel_rfl)
 | 0, _ + 1, h => absurd h (by omega)
 | q + 1, 0, _ => goodL_succ (np := 1) (l := 2) (live := [5, 6, 7]) (n := 1) CT_ok rfl okc_impl_first (c := (Try.f34.body.get rfl)) rfl cok_impl_first (by kernel_rfl) (gl_impl_first k q) (by kernel_rfl) rfl (fun vs m r hl h => match vs, hl with
  | [t5, t6, t7], _ => (le_impl_first_0 k q t5 t6 t7 m).trans h)
 | _ + 1, _ + 1, h => absurd h (by omega)
theorem ok_X_impl_first : OkX CT 34 X_impl_first := OkX.of_ex (cf := cf_impl_first) (np := 1) (LL := LL_impl_first) (J := (fun k => J_impl_first k QQ)) CT_ok rfl Try.func34 rfl (Nat.le_of_ble_eq_true rfl) (by decide) cok_impl_first okc_impl_first (fun k => allLoops rfl (by kernel_rfl) (gl_impl_first k QQ)) (fun args m r h => match args, h with
  | [t0], h => ⟨rfl, (xe_impl_first t0 m).trans h⟩)
theorem ok_C_impl_first : OkC CT 34 C_impl_first := fcall_ok rfl ok_X_impl_first
noncomputable def cf_impl_in : CallF := cfn
noncomputable def X_impl_in : List Value → Mem → Option VM
 | [t0, t1, t2], m =>
  (binX .leq .no t1 t0) |> bo fun t9 =>
  (gd t9 true (some (t0, m)) m) |> bo fun r2 =>
  (gd t9 true (some (t2, r2.2)) r2.2) |> bo fun r3 =>
  (gd t9 true ((binX .leq .no r2.1 r3.1) |> bo fun v => some (v, r3.2)) r3.2) |> bo fun r4 =>
  (pickX t9 r4.1 (.bool false)) |> bo fun t14 =>
  retK m.length r4.2 [t0, t1, t2] t14
 | _, _ => none
noncomputable def C_impl_in : List Value → Mem → Option VM := fcall X_impl_in
@[simp] theorem c_impl_in : C_impl_in = fcall X_impl_in := (rfl)
theorem cok_impl_in : codeOk CT Try.f52 (Try.f52.body.get rfl) = true := by kernel_rfl
theorem xe_impl_in (t0 t1 t2 : Value) (m : Mem) : ex CT cf_impl_in Try.f52 3 m.length [] (fun _ _ _ => none) 400 [.code (Try.f52.body.get rfl)] (argsT 0 [t0, t1, t2]) m = X_impl_in [t0, t1, t2] m := by kernel_rfl
theorem okc_impl_in : CallOK CT cf_impl_in := cfn_ok
theorem ok_X_impl_in : OkX CT 52 X_impl_in := OkX.of_ex (cf := cf_impl_in) (np := 3) (LL := []) (J := (fun _ _ _ _ => none)) CT_ok rfl Try.func52 rfl (Nat.le_of_ble_eq_true rfl) (by decide) cok_impl_in okc_impl_in (fun k => noLoops rfl) (fun args m r h => match args, h with
  | [t0, t1, t2], h => ⟨rfl, (xe_impl_in t0 t1 t2 m).trans h⟩)
theorem ok_C_impl_in : OkC CT 52 C_impl_in := fcall_ok rfl ok_X_impl_in
noncomputable def cf_impl_DecoderFault : CallF := cfc 52 C_impl_in cfn
noncomputable def X_impl_DecoderFault : List Value → Mem → Option VM
 | [t0], m =>
  (boxX m t0) |> bo fun r1 =>
  (ldS r1.2 3 r1.1) |> bo fun t4 =>
  (bldX [.int .i64 0, .int .i64 0, .int .i64 0] []) |> bo fun t5 =>
  (binX .eql (.st [0, 1, 2]) t4 t5) |> bo fun t6 =>
  brX t6
   (
    retK m.length r1.2 [t0] (.int .i64 0))
   (
    (fadX 0 r1.1) |> bo fun t8 =>
    (ld1 r1.2 t8) |> bo fun t9 =>
    (binX .eql .no t9 (.int .i64 1)) |> bo fun t10 =>
    (gd t10 true ((fadX 1 r1.1) |> bo fun v => some (v, r1.2)) r1.2) |> bo fun r8 =>
    (gd t10 true ((ld1 r8.2 r8.1) |> bo fun v => some (v, r8.2)) r8.2) |> bo fun r9 =>
    (gd t10 true ((binX .eql .no r9.1 (.int .i64 128)) |> bo fun v => some (v, r9.2)) r9.2) |> bo fun r10 =>
    (pickX t10 r10.1 (.bool false)) |> bo fun t15 =>
    (gd t15 true ((fadX 2 r1.1) |> bo fun v => some (v, r10.2)) r10.2) |> bo fun r12 =>
    (gd t15 true ((ld1 r12.2 r12.1) |> bo fun v => some (v, r12.2)) r12.2) |> bo fun r13 =>
    (gd t15 true ((C_impl_in [r13.1, (.int .i64 2), (.int .i64 31)] r13.2) |> bo fun r => some (r.1, r.2)) r13.2) |> bo fun r14 =>
    (pickX t15 r14.1 (.bool false)) |> bo fun t20 =>
    brX t20
     (
      retK m.length r14.2 [t0] (.int .i64 0))
     (
      (fadX 0 r1.1) |> bo fun t22 =>
      (ld1 r14.2 t22) |> bo fun t23 =>
      (binX .eql .no t23 (.int .i64 2)) |> bo fun t24 =>
      (gd t24 true ((fadX 1 r1.1) |> bo fun v => some (v, r14.2)) r14.2) |> bo fun r19 =>
      (gd t24 true ((ld1 r19.2 r19.1) |> bo fun v => some (v, r19.2)) r19.2) |> bo fun r20 =>
      (gd t24 true ((binX .eql .no r20.1 (.int .i64 2048)) |> bo fun v => some (v, r20.2)) r20.2) |> bo fun r21 =>
      (pickX t24 r21.1 (.bool false)) |> bo fun t29 =>
      (gd t29 true ((fadX 2 r1.1) |> bo fun v => some (v, r21.2)) r21.2) |> bo fun r23 =>
      (gd t29 true ((ld1 r23.2 r23.1) |> bo fun v => some (v, r23.2)) r23.2) |> bo fun r24 =>
      (gd t29 true ((C_impl_in [r24.1, (.int .i64 0), (.int .i64 15)] r24.2) |> bo fun r => some (r.1, r.2)) r24.2) |> bo fun r25 =>
      (pickX t29 r25.1 (.bool false)) |> bo fun t34 =>
      brX t34
       (
        retK m.length r25.2 [t0] (.int .i64 0))
       (
        (fadX 0 r1.1) |> bo fun t36 =>
        (ld1 r25.2 t36) |> bo fun t37 =>
        (binX .eql .no t37 (.int .i64 1)) |> bo fun t38 =>
        (gd t38 true ((fadX 1 r1.1) |> bo fun v => some (v, r25.2)) r25.2) |> bo fun r30 =>
        (gd t38 true ((ld1 r30.2 r30.1) |> bo fun v => some (v, r30.2)) r30.2) |> bo fun r31 =>
        (gd t38 true ((binX .eql .no r31.1 (.int .i64 2048)) |> bo fun v => some (v, r31.2)) r31.2) |> bo fun r32 =>
        (pickX t38 r32.1 (.bool false)) |> bo fun t43 =>
        (gd t43 true ((fadX 2 r1.1) |> bo fun v => some (v, r32.2)) r32.2) |> bo fun r34 =>
        (gd t43 true ((ld1 r34.2 r34.1) |> bo fun v => some (v, r34.2)) r34.2) |> bo fun r35 =>
        (gd t43 true ((C_impl_in [r35.1, (.int .i64 0), (.int .i64 1023)] r35.2) |> bo fun r => some (r.1, r.2)) r35.2) |> bo fun r36 =>
        (pickX t43 r36.1 (.bool false)) |> bo fun t48 =>
        brX t48
         (
          retK m.length r36.2 [t0] (.int .i64 0))
         (
          retK m.length r36.2 [t0] (.int .i64 3)))))
 | _, _ => none
noncomputable def C_impl_DecoderFault : List Value → Mem → Option VM := fcall X_impl_DecoderFault
@[simp] theorem c_impl_DecoderFault : C_impl_DecoderFault = fcall X_impl_DecoderFault := (rfl)
theorem cok_impl_DecoderFault : codeOk CT Try.f35 (Try.f35.body.get rfl) = true := by kernel_rfl
theorem xe_impl_DecoderFault (t0 : Value) (m : Mem) : ex CT cf_impl_DecoderFault Try.f35 1 m.length [] (fun _ _ _ => none) 400 [.code (Try.f35.body.get rfl)] (argsT 0 [t0]) m = X_impl_DecoderFault [t0] m := by kernel_rfl
theorem okc_impl_DecoderFault : CallOK CT cf_impl_DecoderFault := cfc_ok ok_C_impl_in cfn_ok
theorem ok_X_impl_DecoderFault : OkX CT 35 X_impl_DecoderFault := OkX.of_ex (cf := cf_impl_DecoderFault) (np := 1) (LL := []) (J := (fun _ _ _ _ => none)) CT_ok rfl Try.func35 rfl (Nat.le_of_ble_eq_true rfl) (by decide) cok_impl_DecoderFault okc_impl_DecoderFault (fun k => noLoops rfl) (fun args m r h => match args, h with
  | [t0], h => ⟨rfl, (xe_impl_DecoderFault t0 m).trans h⟩)
theorem ok_C_impl_DecoderFault : OkC CT 35 C_impl_DecoderFault := fcall_ok rfl ok_X_impl_DecoderFault
noncomputable def cf_impl_unless : CallF := cfn
noncomputable def X_impl_unless : List Value → Mem → Option VM
 | [t0, t1], m =>
  brX t0
   (
    retK m.length m [t0, t1] (.int .i64 0))
   (
    retK m.length m [t0, t1] t1)
 | _, _ => none
noncomputable def C_impl_unless : List Value → Mem → Option VM := fcall X_impl_unless
@[simp] theorem c_impl_unless : C_impl_unless = fcall X_impl_unless := (rfl)
theorem cok_impl_unless : codeOk CT Try.f53 (Try.f53.body.get rfl) = true := by kernel_rfl
theorem xe_impl_unless (t0 t1 : Value) (m : Mem) : ex CT cf_impl_unless Try.f53 2 m.length [] (fun _ _ _ => none) 400 [.code (Try.f53.body.get rfl)] (argsT 0 [t0, t1]) m = X_impl_unless [t0, t1] m := by kernel_rfl
theorem okc_impl_unless : CallOK CT cf_impl_unless := cfn_ok
theorem ok_X_impl_unless : OkX CT 53 X_impl_unless := OkX.of_ex (cf := cf_impl_unless) (np := 2) (LL := []) (J := (fun _ _ _ _ => none)) CT_ok rfl Try.func53 rfl (Nat.le_of_ble_eq_true rfl) (by decide) cok_impl_unless okc_impl_unless (fun k => noLoops rfl) (fun args m r h => match args, h with
  | [t0, t1], h => ⟨rfl, (xe_impl_unless t0 t1 m).trans h⟩)
theorem ok_C_impl_unless : OkC CT 53 C_impl_unless := fcall_ok rfl ok_X_impl_unless
noncomputable def cf_impl_isSet : CallF := cfc 52 C_impl_in cfn
noncomputable def X_impl_isSet : List Value → Mem → Option VM
 | [t0], m =>
  (C_impl_in [t0, (.int .i64 1), (.int .i64 2)] m) |> bo fun r1 =>
  retK m.length r1.2 [t0] r1.1
 | _, _ => none
noncomputable def C_impl_isSet : List Value → Mem → Option VM := fcall X_impl_isSet
@[simp] theorem c_impl_isSet : C_impl_isSet = fcall X_impl_isSet := (rfl)
theorem cok_impl_isSet : codeOk CT Try.f54 (Try.f54.body.get rfl) = true := by kernel_rfl
theorem xe_impl_isSet (t0 : Value) (m : Mem) : ex CT cf_impl_isSet Try.f54 1 m.length [] (fun _ _ _ => none) 400 [.code (Try.f54.body.get rfl)] (argsT 0 [t0]) m = X_impl_isSet [t0] m := by kernel_rfl
theorem okc_impl_isSet : CallOK CT cf_impl_isSet := cfc_ok ok_C_impl_in cfn_ok
theorem ok_X_impl_isSet : OkX CT 54 X_impl_isSet := OkX.of_ex (cf := cf_impl_isSet) (np := 1) (LL := []) (J := (fun _ _ _ _ => none)) CT_ok rfl Try.func54 rfl (Nat.le_of_ble_eq_true rfl) (by decide) cok_impl_isSet okc_impl_isSet (fun k => noLoops rfl) (fun args m r h => match args, h with
  | [t0], h => ⟨rfl, (xe_impl_isSet t0 m).trans h⟩)
theorem ok_C_impl_isSet : OkC CT 54 C_impl_isSet := fcall_ok rfl ok_X_impl_isSet
noncomputable def cf_impl_paramsCode_1 : CallF := cfc 52 C_impl_in cfn
noncomputable def X_impl_paramsCode_1 : List Value → Mem → Option VM
 | [t0], m =>
  (C_impl_in [t0, (.int .i64 0), (.int .i64 999)] m) |> bo fun r1 =>
  (uop .not r1.1) |> bo fun t5 =>
  retK m.length r1.2 [t0] t5
 | _, _ => none
noncomputable def C_impl_paramsCode_1 : List Value → Mem → Option VM := fcall X_impl_paramsCode_1
@[simp] theorem c_impl_paramsCode_1 : C_impl_paramsCode_1 = fcall X_impl_paramsCode_1 := (rfl)
theorem cok_impl_paramsCode_1 : codeOk CT Try.f69 (Try.f69.body.get rfl) = true := by kernel_rfl
theorem xe_impl_paramsCode_1 (t0 : Value) (m : Mem) : ex CT cf_impl_paramsCode_1 Try.f69 1 m.length [] (fun _ _ _ => none) 400 [.code (Try.f69.body.get rfl)] (argsT 0 [t0]) m = X_impl_paramsCode_1 [t0] m := by kernel_rfl
theorem okc_impl_paramsCode_1 : CallOK CT cf_impl_paramsCode_1 := cfc_ok ok_C_impl_in cfn_ok
theorem ok_X_impl_paramsCode_1 : OkX CT 69 X_impl_paramsCode_1 := OkX.of_ex (cf := cf_impl_paramsCode_1) (np := 1) (LL := []) (J := (fun _ _ _ _ => none)) CT_ok rfl Try.func69 rfl (Nat.le_of_ble_eq_true rfl) (by decide) cok_impl_paramsCode_1 okc_impl_paramsCode_1 (fun k => noLoops rfl) (fun args m r h => match args, h with
  | [t0], h => ⟨rfl, (xe_impl_paramsCode_1 t0 m).trans h⟩)
theorem ok_C_impl_paramsCode_1 : OkC CT 69 C_impl_paramsCode_1 := fcall_ok rfl ok_X_impl_paramsCode_1
noncomputable def cf_impl_Screen_rangeOk_1 : CallF := cfc 52 C_impl_in cfn
noncomputable def X_impl_Screen_rangeOk_1 : List Value → Mem → Option VM
 | [t0], m =>
  (C_impl_in [t0, (.int .i64 1), (.int .i64 3)] m) |> bo fun r1 =>
  (uop .not r1.1) |> bo fun t5 =>
  retK m.length r1.2 [t0] t5
 | _, _ => none
noncomputable def C_impl_Screen_rangeOk_1 : List Value → Mem → Option VM := fcall X_impl_Screen_rangeOk_1
@[simp] theorem c_impl_Screen_rangeOk_1 : C_impl_Screen_rangeOk_1 = fcall X_impl_Screen_rangeOk_1 := (rfl)
theorem cok_impl_Screen_rangeOk_1 : codeOk CT Try.f75 (Try.f75.body.get rfl) = true := by kernel_rfl
theorem xe_impl_Screen_rangeOk_1 (t0 : Value) (m : Mem) : ex CT cf_impl_Screen_rangeOk_1 Try.f75 1 m.length [] (fun _ _ _ => none) 400 [.code (Try.f75.body.get rfl)] (argsT 0 [t0]) m = X_impl_Screen_rangeOk_1 [t0] m := by kernel_rfl
theorem okc_impl_Screen_rangeOk_1 : CallOK CT cf_impl_Screen_rangeOk_1 := cfc_ok ok_C_impl_in cfn_ok
theorem ok_X_impl_Screen_rangeOk_1 : OkX CT 75 X_impl_Screen_rangeOk_1 := OkX.of_ex (cf := cf_impl_Screen_rangeOk_1) (np := 1) (LL := []) (J := (fun _ _ _ _ => none)) CT_ok rfl Try.func75 rfl (Nat.le_of_ble_eq_true rfl) (by decide) cok_impl_Screen_rangeOk_1 okc_impl_Screen_rangeOk_1 (fun k => noLoops rfl) (fun args m r h => match args, h with
  | [t0], h => ⟨rfl, (xe_impl_Screen_rangeOk_1 t0 m).trans h⟩)
theorem ok_C_impl_Screen_rangeOk_1 : OkC CT 75 C_impl_Screen_rangeOk_1 := fcall_ok rfl ok_X_impl_Screen_rangeOk_1
noncomputable def cf_slices_IndexFunc_int64_int64 : CallF := cfc 69 C_impl_paramsCode_1 (cfc 75 C_impl_Screen_rangeOk_1 cfn)
noncomputable def L_slices_IndexFunc_int64_int64 (k : Nat) : Nat → Nat → List Value → Mem → Option VM
 | q + 1, 0, [t0, t1, t7, t8], m =>
  (binX .lss .no t8 t7) |> bo fun t9 =>
  brX t9
   (
    (ixaX 1 t0 t8) |> bo fun t14 =>
    (ld1 m t14) |> bo fun t15 =>
    (callV cf_slices_IndexFunc_int64_int64 t1 [t15] m) |> bo fun r4 =>
    brX r4.1
     (
      retK k r4.2 [t0, t1] t8)
     (
      (binX .add .no t8 (.int .i64 1)) |> bo fun t18 =>
      cutK k r4.2 [t0, t1] [t0, t1, t7, t18] (L_slices_IndexFunc_int64_int64 k q 0)))
   (
    retK k m [t0, t1] (.int .i64 (-1)))
 | _, _, _, _ => none
noncomputable def J_slices_IndexFunc_int64_int64 (k q l : Nat) : List Value → Mem → Option VM := cond (Nat.beq l 2) (L_slices_IndexFunc_int64_int64 k q 0) (fun _ _ => none)
def LL_slices_IndexFunc_int64_int64 : List (Nat × List Tmp) := [(2, [0, 1, 7, 8])]
noncomputable def X_slices_IndexFunc_int64_int64 : List Value → Mem → Option VM
 | [t0, t1], m =>
  (lenX t0) |> bo fun t7 =>
  cutK m.length m [t0, t1] [t0, t1, t7, (.int .i64 0)] (L_slices_IndexFunc_int64_int64 m.length QQ 0)
 | _, _ => none
noncomputable def C_slices_IndexFunc_int64_int64 : List Value → Mem → Option VM := fcall X_slices_IndexFunc_int64_int64
@[simp] theorem c_slices_IndexFunc_int64_int64 : C_slices_IndexFunc_int64_int64 = fcall X_slices_IndexFunc_int64_int64 := (rfl)
theorem cok_slices_IndexFunc_int64_int64 : codeOk CT Try.f82 (Try.f82.body.get rfl) = true := by kernel_rfl
theorem xe_slices_IndexFunc_int64_int64 (t0 t1 : Value) (m : Mem) : ex CT cf_slices_IndexFunc_int64_int64 Try.f82 2 m.length LL_slices_IndexFunc_int64_int64 (J_slices_IndexFunc_int64_int64 m.length QQ) 400 [.code (Try.f82.body.get rfl)] (argsT 0 [t0, t1]) m = X_slices_IndexFunc_int64_int64 [t0, t1] m := by kernel_rfl
theorem okc_slices_IndexFunc_int64_int64 : CallOK CT cf_slices_IndexFunc_int64_int64 := cfc_ok ok_C_impl_paramsCode_1 (cfc_ok ok_C_impl_Screen_rangeOk_1 cfn_ok)
theorem le_slices_IndexFunc_int64_int64_0 (k q : Nat) (t0 t1 t7 t8 : Value) (m : Mem) : ex CT cf_slices_IndexFunc_int64_int64 Try.f82 2 k LL_slices_IndexFunc_int64_int64 (J_slices_IndexFunc_int64_int64 k q) 400 (atLoop Try.f82 0) [(0, t0), (1, t1), (7, t7), (8, t8)] m = J_slices_IndexFunc_int64_int64 k (q + 1) 2 [t0, t1, t7, t8] m := by kernel_rfl
theorem gl_slices_IndexFunc_int64_int64 (k : Nat) : ∀ q i, i < 1 → GoodL CT k Try.f82 LL_slices_IndexFunc_int64_int64 (J_slices_IndexFunc_int64_int64 k q) (atLoop Try.f82 i)
 | 0, 0, _ => goodL_zero (l := 2) (by kernel_rfl) (fun vs m => by kernel_rfl)
 | 0, _ + 1, h => absurd h (by omega)
 | q + 1, 0, _ => goodL_succ (np := 2) (l := 2) (live := [0, 1, 7, 8]) (n := 1) CT_ok rfl okc_slices_IndexFunc_int64_int64 (c := (Try.f82.body.get rfl)) rfl cok_slices_IndexFunc_int64_int64 (by kernel_rfl) (gl_slices_IndexFunc_int64_int64 k q) (by kernel_rfl) rfl (fun vs m r hl h => match vs, hl with
  | [t0, t1, t7, t8], _ => (le_slices_IndexFunc_int64_int64_0 k q t0 t1 t7 t8 m).trans h)
 | _ + 1, _ + 1, h => absurd h (by omega)
theorem ok_X_slices_IndexFunc_int64_int64 : OkX CT 82 X_slices_IndexFunc_int64_int64 := OkX.of_ex (cf := cf_slices_IndexFunc_int64_int64) (np := 2) (LL := LL_slices_IndexFunc_int64_int64) (J := (fun k => J_slices_IndexFunc_int64_int64 k QQ)) CT_ok rfl Try.func82 rfl (Nat.le_of_ble_eq_true rfl) (by decide) cok_slices_IndexFunc_int64_int64 okc_slices_IndexFunc_int64_int64 (fun k => allLoops rfl (by kernel_rfl) (gl_slices_IndexFunc_int64_int64 k QQ)) (fun args m r h => match args, h with
  | [t0, t1], h => ⟨rfl, (xe_slices_IndexFunc_int64_int64 t0 t1 m).trans h⟩)
theorem ok_C_slices_IndexFunc_int64_int64 : OkC CT 82 C_slices_IndexFunc_int64_int64 := fcall_ok rfl ok_X_slices_IndexFunc_int64_int64
noncomputable def cf_slices_ContainsFunc_int64_int64 : CallF := cfc 82 C_slices_IndexFunc_int64_int64 cfn
noncomputable def X_slices_ContainsFunc_int64_int64 : List Value → Mem → Option VM
 | [t0, t1], m =>
  (C_slices_IndexFunc_int64_int64 [t0, t1] m) |> bo fun r1 =>
  (binX .geq .no r1.1 (.int .i64 0)) |> bo fun t8 =>
  retK m.length r1.2 [t0, t1] t8
 | _, _ => none
noncomputable def C_slices_ContainsFunc_int64_int64 : List Value → Mem → Option VM := fcall X_slices_ContainsFunc_int64_int64
@[simp] theorem c_slices_ContainsFunc_int64_int64 : C_slices_ContainsFunc_int64_int64 = fcall X_slices_ContainsFunc_int64_int64 := (rfl)
theorem cok_slices_ContainsFunc_int64_int64 : codeOk CT Try.f68 (Try.f68.body.get rfl) = true := by kernel_rfl
theorem xe_slices_ContainsFunc_int64_int64 (t0 t1 : Value) (m : Mem) : ex CT cf_slices_ContainsFunc_int64_int64 Try.f68 2 m.length [] (fun _ _ _ => none) 400 [.code (Try.f68.body.get rfl)] (argsT 0 [t0, t1]) m = X_slices_ContainsFunc_int64_int64 [t0, t1] m := by kernel_rfl
theorem okc_slices_ContainsFunc_int64_int64 : CallOK CT cf_slices_ContainsFunc_int64_int64 := cfc_ok ok_C_slices_IndexFunc_int64_int64 cfn_ok
theorem ok_X_slices_ContainsFunc_int64_int64 : OkX CT 68 X_slices_ContainsFunc_int64_int64 := OkX.of_ex (cf := cf_slices_ContainsFunc_int64_int64) (np := 2) (LL := []) (J := (fun _ _ _ _ => none)) CT_ok rfl Try.func68 rfl (Nat.le_of_ble_eq_true rfl) (by decide) cok_slices_ContainsFunc_int64_int64 okc_slices_ContainsFunc_int64_int64 (fun k => noLoops rfl) (fun args m r h => match args, h with
  | [t0, t1], h => ⟨rfl, (xe_slices_ContainsFunc_int64_int64 t0 t1 m).trans h⟩)
theorem ok_C_slices_ContainsFunc_int64_int64 : OkC CT 68 C_slices_ContainsFunc_int64_int64 := fcall_ok rfl ok_X_slices_ContainsFunc_int64_int64
noncomputable def cf_impl_paramsCode : CallF := cfc 52 C_impl_in (cfc 53 C_impl_unless (cfc 68 C_slices_ContainsFunc_int64_int64 cfn))
noncomputable def X_impl_paramsCode : List Value → Mem → Option VM
 | [t0], m =>
  (lenX t0) |> bo fun t4 =>
  (C_impl_in [t4, (.int .i64 1), (.int .i64 6)] m) |> bo fun r2 =>
  (uop .not r2.1) |> bo fun t6 =>
  brX t6
   (
    retK m.length r2.2 [t0] (.int .i64 2))
   (
    (C_slices_ContainsFunc_int64_int64 [t0, (.func (.func 69) #[] #[])] r2.2) |> bo fun r4 =>
    (uop .not r4.1) |> bo fun t9 =>
    (C_impl_unless [t9, (.int .i64 3)] r4.2) |> bo fun r6 =>
    retK m.length r6.2 [t0] r6.1)
 | _, _ => none
noncomputable def C_impl_paramsCode : List Value → Mem → Option VM := fcall X_impl_paramsCode
@[simp] theorem c_impl_paramsCode : C_impl_paramsCode = fcall X_impl_paramsCode := (rfl)
theorem cok_impl_paramsCode : codeOk CT Try.f55 (Try.f55.body.get rfl) = true := by kernel_rfl
theorem xe_impl_paramsCode (t0 : Value) (m : Mem) : ex CT cf_impl_paramsCode Try.f55 1 m.length [] (fun _ _ _ => none) 400 [.code (Try.f55.body.get rfl)] (argsT 0 [t0]) m = X_impl_paramsCode [t0] m := by kernel_rfl
theorem okc_impl_paramsCode : CallOK CT cf_impl_paramsCode := cfc_ok ok_C_impl_in (cfc_ok ok_C_impl_unless (cfc_ok ok_C_slices_ContainsFunc_int64_int64 cfn_ok))
theorem ok_X_impl_paramsCode : OkX CT 55 X_impl_paramsCode := OkX.of_ex (cf := cf_impl_paramsCode) (np := 1) (LL := []) (J := (fun _ _ _ _ => none)) CT_ok rfl Try.func55 rfl (Nat.le_of_ble_eq_true rfl) (by decide) cok_impl_paramsCode okc_impl_paramsCode (fun k => noLoops rfl) (fun args m r h => match args, h with
  | [t0], h => ⟨rfl, (xe_impl_paramsCode t0 m).trans h⟩)
theorem ok_C_impl_paramsCode : OkC CT 55 C_impl_paramsCode := fcall_ok rfl ok_X_impl_paramsCode
noncomputable def cf_impl_ParserFault : CallF := cfc 34 C_impl_first (cfc 53 C_impl_unless (cfc 54 C_impl_isSet (cfc 55 C_impl_paramsCode cfn)))
noncomputable def X_impl_ParserFault : List Value → Mem → Option VM
 | [t0], m =>
  (boxX m t0) |> bo fun r1 =>
  (fadX 3 r1.1) |> bo fun t4 =>
  (ld1 r1.2 t4) |> bo fun t5 =>
  (lenX t5) |> bo fun t6 =>
  (binX .eql .no t6 (.int .i64 0)) |> bo fun t7 =>
  (gd t7 true ((fadX 2 r1.1) |> bo fun v => some (v, r1.2)) r1.2) |> bo fun r6 =>
  (gd t7 true ((ld1 r6.2 r6.1) |> bo fun v => some (v, r6.2)) r6.2) |> bo fun r7 =>
  (gd t7 true ((uop .not r7.1) |> bo fun v => some (v, r7.2)) r7.2) |> bo fun r8 =>
  (pickX t7 r8.1 (.bool false)) |> bo fun t12 =>
  (fadX 0 r1.1) |> bo fun t13 =>
  (ld1 r8.2 t13) |> bo fun t14 =>
  (binX .eql .no t14 (.int .i64 0)) |> bo fun t16 =>
  brX t16
   (
    brX t16
     (
      (gd t12 true ((fadX 1 r1.1) |> bo fun v => some (v, r8.2)) r8.2) |> bo fun r13 =>
      (gd t12 true ((ld1 r13.2 r13.1) |> bo fun v => some (v, r13.2)) r13.2) |> bo fun r14 =>
      (gd t12 true ((binX .eql .no r14.1 (.int .i64 0)) |> bo fun v => some (v, r14.2)) r14.2) |> bo fun r15 =>
      (pickX t12 r15.1 (.bool false)) |> bo fun t23 =>
      (C_impl_unless [t23, (.int .i64 1)] r15.2) |> bo fun r17 =>
      retK m.length r17.2 [t0] r17.1)
     (
      (binX .eql .no t14 (.int .i64 3)) |> bo fun t26 =>
      brX t26
       (
        (C_impl_unless [t12, (.int .i64 1)] r8.2) |> bo fun r19 =>
        (fadX 1 r1.1) |> bo fun t29 =>
        (ld1 r19.2 t29) |> bo fun t30 =>
        (C_impl_isSet [t30] r19.2) |> bo fun r22 =>
        (C_impl_unless [r22.1, (.int .i64 3)] r22.2) |> bo fun r23 =>
        (bslX r23.2 2 1 [.int .i64 0] [(0, 1, r19.1), (1, 1, r23.1)]) |> bo fun r24 =>
        (C_impl_first [r24.1] r24.2) |> bo fun r25 =>
        gP (stbL [((rdN t29), r8.2, r19.2)])
         (
          retK m.length r25.2 [t0] r25.1))
       (
        (binX .eql .no t14 (.int .i64 2)) |> bo fun t36 =>
        brX t36
         (
          (fadX 1 r1.1) |> bo fun t37 =>
          (ld1 r8.2 t37) |> bo fun t38 =>
          (binX .eql .no t38 (.int .i64 0)) |> bo fun t39 =>
          (C_impl_unless [t39, (.int .i64 1)] r8.2) |> bo fun r30 =>
          (fadX 3 r1.1) |> bo fun t41 =>
          (ld1 r30.2 t41) |> bo fun t42 =>
          (C_impl_paramsCode [t42] r30.2) |> bo fun r33 =>
          (bslX r33.2 2 1 [.int .i64 0] [(0, 1, r30.1), (1, 1, r33.1)]) |> bo fun r34 =>
          (C_impl_first [r34.1] r34.2) |> bo fun r35 =>
          gP (stbL [((rdN t41), r8.2, r30.2)])
           (
            retK m.length r35.2 [t0] r35.1))
         (
          retK m.length r8.2 [t0] (.int .i64 1)))))
   (
    (binX .eql .no t14 (.int .i64 1)) |> bo fun t17 =>
    brX t17
     (
      (gd t12 true ((fadX 1 r1.1) |> bo fun v => some (v, r8.2)) r8.2) |> bo fun r37 =>
      (gd t12 true ((ld1 r37.2 r37.1) |> bo fun v => some (v, r37.2)) r37.2) |> bo fun r38 =>
      (gd t12 true ((binX .eql .no r38.1 (.int .i64 0)) |> bo fun v => some (v, r38.2)) r38.2) |> bo fun r39 =>
      (pickX t12 r39.1 (.bool false)) |> bo fun t23 =>
      (C_impl_unless [t23, (.int .i64 1)] r39.2) |> bo fun r41 =>
      retK m.length r41.2 [t0] r41.1)
     (
      (binX .eql .no t14 (.int .i64 3)) |> bo fun t26 =>
      brX t26
       (
        (C_impl_unless [t12, (.int .i64 1)] r8.2) |> bo fun r43 =>
        (fadX 1 r1.1) |> bo fun t29 =>
        (ld1 r43.2 t29) |> bo fun t30 =>
        (C_impl_isSet [t30] r43.2) |> bo fun r46 =>
        (C_impl_unless [r46.1, (.int .i64 3)] r46.2) |> bo fun r47 =>
        (bslX r47.2 2 1 [.int .i64 0] [(0, 1, r43.1), (1, 1, r47.1)]) |> bo fun r48 =>
        (C_impl_first [r48.1] r48.2) |> bo fun r49 =>
        gP (stbL [((rdN t29), r8.2, r43.2)])
         (
          retK m.length r49.2 [t0] r49.1))
       (
        (binX .eql .no t14 (.int .i64 2)) |> bo fun t36 =>
        brX t36
         (
          (fadX 1 r1.1) |> bo fun t37 =>
          (ld1 r8.2 t37) |> bo fun t38 =>
          (binX .eql .no t38 (.int .i64 0)) |> bo fun t39 =>
          (C_impl_unless [t39, (.int .i64 1)] r8.2) |> bo fun r54 =>
          (fadX 3 r1.1) |> bo fun t41 =>
          (ld1 r54.2 t41) |> bo fun t42 =>
          (C_impl_paramsCode [t42] r54.2) |> bo fun r57 =>
          (bslX r57.2 2 1 [.int .i64 0] [(0, 1, r54.1), (1, 1, r57.1)]) |> bo fun r58 =>
          (C_impl_first [r58.1] r58.2) |> bo fun r59 =>
          gP (stbL [((rdN t41), r8.2, r54.2)])
           (
            retK m.length r59.2 [t0] r59.1))
         (
          retK m.length r8.2 [t0] (.int .i64 1)))))
 | _, _ => none
noncomputable def C_impl_ParserFault : List Value → Mem → Option VM := fcall X_impl_ParserFault
@[simp] theorem c_impl_ParserFault : C_impl_ParserFault = fcall X_impl_ParserFault := (rfl)
theorem cok_impl_ParserFault : codeOk CT Try.f36 (Try.f36.body.get rfl) = true := by kernel_rfl
theorem xe_impl_ParserFault (t0 : Value) (m : Mem) : ex CT cf_impl_ParserFault Try.f36 1 m.length [] (fun _ _ _ => none) 400 [.code (Try.f36.body.get rfl)] (argsT 0 [t0]) m = X_impl_ParserFault [t0] m := by kernel_rfl
theorem okc_impl_ParserFault : CallOK CT cf_impl_ParserFault := cfc_ok ok_C_impl_first (cfc_ok ok_C_impl_unless (cfc_ok ok_C_impl_isSet (cfc_ok ok_C_impl_paramsCode cfn_ok)))
theorem ok_X_impl_ParserFault : OkX CT 36 X_impl_ParserFault := OkX.of_ex (cf := cf_impl_ParserFault) (np := 1) (LL := []) (J := (fun _ _ _ _ => none)) CT_ok rfl Try.func36 rfl (Nat.le_of_ble_eq_true rfl) (by decide) cok_impl_ParserFault okc_impl_ParserFault (fun k => noLoops rfl) (fun args m r h => match args, h with
  | [t0], h => ⟨rfl, (xe_impl_ParserFault t0 m).trans h⟩)
theorem ok_C_impl_ParserFault : OkC CT 36 C_impl_ParserFault := fcall_ok rfl ok_X_impl_ParserFault
noncomputable def cf_impl_sizeOk : CallF := cfc 52 C_impl_in cfn
noncomputable def X_impl_sizeOk : List Value → Mem → Option VM
 | [t0, t1], m =>
  (C_impl_in [t0, (.int .i64 1), (.int .i64 6)] m) |> bo fun r1 =>
  (gd r1.1 true (some (t1, r1.2)) r1.2) |> bo fun r2 =>
  (gd r1.1 true ((C_impl_in [r2.1, (.int .i64 2), (.int .i64 12)] r2.2) |> bo fun r => some (r.1, r.2)) r2.2) |> bo fun r3 =>
  (pickX r1.1 r3.1 (.bool false)) |> bo fun t10 =>
  retK m.length r3.2 [t0, t1] t10
 | _, _ => none
noncomputable def C_impl_sizeOk : List Value → Mem → Option VM := fcall X_impl_sizeOk
@[simp] theorem c_impl_sizeOk : C_impl_sizeOk = fcall X_impl_sizeOk := (rfl)
theorem cok_impl_sizeOk : codeOk CT Try.f70 (Try.f70.body.get rfl) = true := by kernel_rfl
theorem xe_impl_sizeOk (t0 t1 : Value) (m : Mem) : ex CT cf_impl_sizeOk Try.f70 2 m.length [] (fun _ _ _ => none) 400 [.code (Try.f70.body.get rfl)] (argsT 0 [t0, t1]) m = X_impl_sizeOk [t0, t1] m := by kernel_rfl
theorem okc_impl_sizeOk : CallOK CT cf_impl_sizeOk := cfc_ok ok_C_impl_in cfn_ok
theorem ok_X_impl_sizeOk : OkX CT 70 X_impl_sizeOk := OkX.of_ex (cf := cf_impl_sizeOk) (np := 2) (LL := []) (J := (fun _ _ _ _ => none)) CT_ok rfl Try.func70 rfl (Nat.le_of_ble_eq_true rfl) (by decide) cok_impl_sizeOk okc_impl_sizeOk (fun k => noLoops rfl) (fun args m r h => match args, h with
  | [t0, t1], h => ⟨rfl, (xe_impl_sizeOk t0 t1 m).trans h⟩)
theorem ok_C_impl_sizeOk : OkC CT 70 C_impl_sizeOk := fcall_ok rfl ok_X_impl_sizeOk
noncomputable def cf_impl_isAttr : CallF := cfc 52 C_impl_in cfn
noncomputable def X_impl_isAttr : List Value → Mem → Option VM
 | [t0], m =>
  (C_impl_in [t0, (.int .i64 0), (.int .i64 31)] m) |> bo fun r1 =>
  retK m.length r1.2 [t0] r1.1
 | _, _ => none
noncomputable def C_impl_isAttr : List Value → Mem → Option VM := fcall X_impl_isAttr
@[simp] theorem c_impl_isAttr : C_impl_isAttr = fcall X_impl_isAttr := (rfl)
theorem cok_impl_isAttr : codeOk CT Try.f74 (Try.f74.body.get rfl) = true := by kernel_rfl
theorem xe_impl_isAttr (t0 : Value) (m : Mem) : ex CT cf_impl_isAttr Try.f74 1 m.length [] (fun _ _ _ => none) 400 [.code (Try.f74.body.get rfl)] (argsT 0 [t0]) m = X_impl_isAttr [t0] m := by kernel_rfl
theorem okc_impl_isAttr : CallOK CT cf_impl_isAttr := cfc_ok ok_C_impl_in cfn_ok
theorem ok_X_impl_isAttr : OkX CT 74 X_impl_isAttr := OkX.of_ex (cf := cf_impl_isAttr) (np := 1) (LL := []) (J := (fun _ _ _ _ => none)) CT_ok rfl Try.func74 rfl (Nat.le_of_ble_eq_true rfl) (by decide) cok_impl_isAttr okc_impl_isAttr (fun k => noLoops rfl) (fun args m r h => match args, h with
  | [t0], h => ⟨rfl, (xe_impl_isAttr t0 m).trans h⟩)
theorem ok_C_impl_isAttr : OkC CT 74 C_impl_isAttr := fcall_ok rfl ok_X_impl_isAttr
noncomputable def cf_impl_isChar : CallF := cfc 52 C_impl_in cfn
noncomputable def X_impl_isChar : List Value → Mem → Option VM
 | [t0], m =>
  (C_impl_in [t0, (.int .i64 0), (.int .i64 65535)] m) |> bo fun r1 =>
  (gd r1.1 true (some (t0, r1.2)) r1.2) |> bo fun r2 =>
  (gd r1.1 true ((C_impl_in [r2.1, (.int .i64 55296), (.int .i64 57343)] r2.2) |> bo fun r => some (r.1, r.2)) r2.2) |> bo fun r3 =>
  (gd r1.1 true ((uop .not r3.1) |> bo fun v => some (v, r3.2)) r3.2) |> bo fun r4 =>
  (pickX r1.1 r4.1 (.bool false)) |> bo fun t9 =>
  retK m.length r4.2 [t0] t9
 | _, _ => none
noncomputable def C_impl_isChar : List Value → Mem → Option VM := fcall X_impl_isChar
@[simp] theorem c_impl_isChar : C_impl_isChar = fcall X_impl_isChar := (rfl)
theorem cok_impl_isChar : codeOk CT Try.f86 (Try.f86.body.get rfl) = true := by kernel_rfl
theorem xe_impl_isChar (t0 : Value) (m : Mem) : ex CT cf_impl_isChar Try.f86 1 m.length [] (fun _ _ _ => none) 400 [.code (Try.f86.body.get rfl)] (argsT 0 [t0]) m = X_impl_isChar [t0] m := by kernel_rfl
theorem okc_impl_isChar : CallOK CT cf_impl_isChar := cfc_ok ok_C_impl_in cfn_ok
theorem ok_X_impl_isChar : OkX CT 86 X_impl_isChar := OkX.of_ex (cf := cf_impl_isChar) (np := 1) (LL := []) (J := (fun _ _ _ _ => none)) CT_ok rfl Try.func86 rfl (Nat.le_of_ble_eq_true rfl) (by decide) cok_impl_isChar okc_impl_isChar (fun k => noLoops rfl) (fun args m r h => match args, h with
  | [t0], h => ⟨rfl, (xe_impl_isChar t0 m).trans h⟩)
theorem ok_C_impl_isChar : OkC CT 86 C_impl_isChar := fcall_ok rfl ok_X_impl_isChar
noncomputable def cf_impl_shows : CallF := cfc 86 C_impl_isChar cfn
noncomputable def X_impl_shows : List Value → Mem → Option VM
 | [t0], m =>
  (C_impl_isChar [t0] m) |> bo fun r1 =>
  (gd r1.1 true (some (t0, r1.2)) r1.2) |> bo fun r2 =>
  (gd r1.1 true ((binX .geq .no r2.1 (.int .i64 32)) |> bo fun v => some (v, r2.2)) r2.2) |> bo fun r3 =>
  (pickX r1.1 r3.1 (.bool false)) |> bo fun t8 =>
  (gd t8 true (some (t0, r3.2)) r3.2) |> bo fun r5 =>
  (gd t8 true ((binX .neq .no r5.1 (.int .i64 127)) |> bo fun v => some (v, r5.2)) r5.2) |> bo fun r6 =>
  (pickX t8 r6.1 (.bool false)) |> bo fun t12 =>
  retK m.length r6.2 [t0] t12
 | _, _ => none
noncomputable def C_impl_shows : List Value → Mem → Option VM := fcall X_impl_shows
@[simp] theorem c_impl_shows : C_impl_shows = fcall X_impl_shows := (rfl)
theorem cok_impl_shows : codeOk CT Try.f83 (Try.f83.body.get rfl) = true := by kernel_rfl
theorem xe_impl_shows (t0 : Value) (m : Mem) : ex CT cf_impl_shows Try.f83 1 m.length [] (fun _ _ _ => none) 400 [.code (Try.f83.body.get rfl)] (argsT 0 [t0]) m = X_impl_shows [t0] m := by kernel_rfl
theorem okc_impl_shows : CallOK CT cf_impl_shows := cfc_ok ok_C_impl_isChar cfn_ok
theorem ok_X_impl_shows : OkX CT 83 X_impl_shows := OkX.of_ex (cf := cf_impl_shows) (np := 1) (LL := []) (J := (fun _ _ _ _ => none)) CT_ok rfl Try.func83 rfl (Nat.le_of_ble_eq_true rfl) (by decide) cok_impl_shows okc_impl_shows (fun k => noLoops rfl) (fun args m r h => match args, h with
  | [t0], h => ⟨rfl, (xe_impl_shows t0 m).trans h⟩)
theorem ok_C_impl_shows : OkC CT 83 C_impl_shows := fcall_ok rfl ok_X_impl_shows
noncomputable def cf_impl_Cell_ok : CallF := cfc 74 C_impl_isAttr (cfc 83 C_impl_shows cfn)
noncomputable def X_impl_Cell_ok : List Value → Mem → Option VM
 | [t0], m =>
  (boxX m t0) |> bo fun r1 =>
  (fadX 0 r1.1) |> bo fun t3 =>
  (ld1 r1.2 t3) |> bo fun t4 =>
  (C_impl_shows [t4] r1.2) |> bo fun r4 =>
  (gd r4.1 true ((fadX 1 r1.1) |> bo fun v => some (v, r4.2)) r4.2) |> bo fun r5 =>
  (gd r4.1 true ((ld1 r5.2 r5.1) |> bo fun v => some (v, r5.2)) r5.2) |> bo fun r6 =>
  (gd r4.1 true ((C_impl_isAttr [r6.1] r6.2) |> bo fun r => some (r.1, r.2)) r6.2) |> bo fun r7 =>
  (pickX r4.1 r7.1 (.bool false)) |> bo fun t10 =>
  retK m.length r7.2 [t0] t10
 | _, _ => none
noncomputable def C_impl_Cell_ok : List Value → Mem → Option VM := fcall X_impl_Cell_ok
@[simp] theorem c_impl_Cell_ok : C_impl_Cell_ok = fcall X_impl_Cell_ok := (rfl)
theorem cok_impl_Cell_ok : codeOk CT Try.f72 (Try.f72.body.get rfl) = true := by kernel_rfl
theorem xe_impl_Cell_ok (t0 : Value) (m : Mem) : ex CT cf_impl_Cell_ok Try.f72 1 m.length [] (fun _ _ _ => none) 400 [.code (Try.f72.body.get rfl)] (argsT 0 [t0]) m = X_impl_Cell_ok [t0] m := by kernel_rfl
theorem okc_impl_Cell_ok : CallOK CT cf_impl_Cell_ok := cfc_ok ok_C_impl_isAttr (cfc_ok ok_C_impl_shows cfn_ok)
theorem ok_X_impl_Cell_ok : OkX CT 72 X_impl_Cell_ok := OkX.of_ex (cf := cf_impl_Cell_ok) (np := 1) (LL := []) (J := (fun _ _ _ _ => none)) CT_ok rfl Try.func72 rfl (Nat.le_of_ble_eq_true rfl) (by decide) cok_impl_Cell_ok okc_impl_Cell_ok (fun k => noLoops rfl) (fun args m r h => match args, h with
  | [t0], h => ⟨rfl, (xe_impl_Cell_ok t0 m).trans h⟩)
theorem ok_C_impl_Cell_ok : OkC CT 72 C_impl_Cell_ok := fcall_ok rfl ok_X_impl_Cell_ok
noncomputable def cf_impl_GridFault_1 : CallF := cfc 72 C_impl_Cell_ok cfn
noncomputable def X_impl_GridFault_1 : List Value → Mem → Option VM
 | [t0], m =>
  (boxX m t0) |> bo fun r1 =>
  (ldS r1.2 2 r1.1) |> bo fun t3 =>
  (C_impl_Cell_ok [t3] r1.2) |> bo fun r3 =>
  (uop .not r3.1) |> bo fun t5 =>
  retK m.length r3.2 [t0] t5
 | _, _ => none
noncomputable def C_impl_GridFault_1 : List Value → Mem → Option VM := fcall X_impl_GridFault_1
@[simp] theorem c_impl_GridFault_1 : C_impl_GridFault_1 = fcall X_impl_GridFault_1 := (rfl)
theorem cok_impl_GridFault_1 : codeOk CT Try.f71 (Try.f71.body.get rfl) = true := by kernel_rfl
theorem xe_impl_GridFault_1 (t0 : Value) (m : Mem) : ex CT cf_impl_GridFault_1 Try.f71 1 m.length [] (fun _ _ _ => none) 400 [.code (Try.f71.body.get rfl)] (argsT 0 [t0]) m = X_impl_GridFault_1 [t0] m := by kernel_rfl
theorem okc_impl_GridFault_1 : CallOK CT cf_impl_GridFault_1 := cfc_ok ok_C_impl_Cell_ok cfn_ok
theorem ok_X_impl_GridFault_1 : OkX CT 71 X_impl_GridFault_1 := OkX.of_ex (cf := cf_impl_GridFault_1) (np := 1) (LL := []) (J := (fun _ _ _ _ => none)) CT_ok rfl Try.func71 rfl (Nat.le_of_ble_eq_true rfl) (by decide) cok_impl_GridFault_1 okc_impl_GridFault_1 (fun k => noLoops rfl) (fun args m r h => match args, h with
  | [t0], h => ⟨rfl, (xe_impl_GridFault_1 t0 m).trans h⟩)
theorem ok_C_impl_GridFault_1 : OkC CT 71 C_impl_GridFault_1 := fcall_ok rfl ok_X_impl_GridFault_1
noncomputable def cf_slices_IndexFunc_impl_Cell_impl_Cell : CallF := cfc 71 C_impl_GridFault_1 cfn
noncomputable def L_slices_IndexFunc_impl_Cell_impl_Cell (k : Nat) : Nat → Nat → List Value → Mem → Option VM
 | q + 1, 0, [t0, t1, t7, t8], m =>
  (binX .lss .no t8 t7) |> bo fun t9 =>
  brX t9
   (
    (ixaX 2 t0 t8) |> bo fun t14 =>
    (ldS m 2 t14) |> bo fun t15 =>
    (callV cf_slices_IndexFunc_impl_Cell_impl_Cell t1 [t15] m) |> bo fun r4 =>
    brX r4.1
     (
      retK k r4.2 [t0, t1] t8)
     (
      (binX .add .no t8 (.int .i64 1)) |> bo fun t18 =>
      cutK k r4.2 [t0, t1] [t0, t1, t7, t18] (L_slices_IndexFunc_impl_Cell_impl_Cell k q 0)))
   (
    retK k m [t0, t1] (.int .i64 (-1)))
 | _, _, _, _ => none
noncomputable def J_slices_IndexFunc_impl_Cell_impl_Cell (k q l : Nat) : List Value → Mem → Option VM := cond (Nat.beq l 2) (L_slices_IndexFunc_impl_Cell_impl_Cell k q 0) (fun _ _ => none)
def LL_slices_IndexFunc_impl_Cell_impl_Cell : List (Nat × List Tmp) := [(2, [0, 1, 7, 8])]
noncomputable def X_slices_IndexFunc_impl_Cell_impl_Cell : List Value → Mem → Option VM
 | [t0, t1], m =>
  (lenX t0) |> bo fun t7 =>
  cutK m.length m [t0, t1] [t0, t1, t7, (.int .i64 0)] (L_slices_IndexFunc_impl_Cell_impl_Cell m.length QQ 0)
 | _, _ => none
noncomputable def C_slices_IndexFunc_impl_Cell_impl_Cell : List Value → Mem → Option VM := fcall X_slices_IndexFunc_impl_Cell_impl_Cell
@[simp] theorem c_slices_IndexFunc_impl_Cell_impl_Cell : C_slices_IndexFunc_impl_Cell_impl_Cell = fcall X_slices_IndexFunc_impl_Cell_impl_Cell := (rfl)
theorem cok_slices_IndexFunc_impl_Cell_impl_Cell : codeOk CT Try.f84 (Try.f84.body.get rfl) = true := by kernel_rfl
theorem xe_slices_IndexFunc_impl_Cell_impl_Cell (t0 t1 : Value) (m : Mem) : ex CT cf_slices_IndexFunc_impl_Cell_impl_Cell Try.f84 2 m.length LL_slices_IndexFunc_impl_Cell_impl_Cell (J_slices_IndexFunc_impl_Cell_impl_Cell m.length QQ) 400 [.code (Try.f84.body.get rfl)] (argsT 0 [t0, t1]) m = X_slices_IndexFunc_impl_Cell_impl_Cell [t0, t1] m := by kernel_rfl
theorem okc_slices_IndexFunc_impl_Cell_impl_Cell : CallOK CT cf_slices_IndexFunc_impl_Cell_impl_Cell := cfc_ok ok_C_impl_GridFault_1 cfn_ok
theorem le_slices_IndexFunc_impl_Cell_impl_Cell_0 (k q : Nat) (t0 t1 t7 t8 : Value) (m : Mem) : ex CT cf_slices_IndexFunc_impl_Cell_impl_Cell Try.f84 2 k LL_slices_IndexFunc_impl_Cell_impl_Cell (J_slices_IndexFunc_impl_Cell_impl_Cell k q) 400 (atLoop Try.f84 0) [(0, t0), (1, t1), (7, t7), (8, t8)] m = J_slices_IndexFunc_impl_Cell_impl_Cell k (q + 1) 2 [t0, t1, t7, t8] m := by kernel_rfl
theorem gl_slices_IndexFunc_impl_Cell_impl_Cell (k : Nat) : ∀ q i, i < 1 → GoodL CT k Try.f84 LL_slices_IndexFunc_impl_Cell_impl_Cell (J_slices_IndexFunc_impl_Cell_impl_Cell k q) (atLoop Try.f84 i)
 | 0, 0, _ => goodL_zero (l := 2) (by kernel_rfl) (fun vs m => by kernel_rfl)
 | 0, _ + 1, h => absurd h (by omega)
 | q + 1, 0, _ => goodL_succ (np := 2) (l := 2) (live := [0, 1, 7, 8]) (n := 1) CT_ok rfl okc_slices_IndexFunc_impl_Cell_impl_Cell (c := (Try.f84.body.get rfl)) rfl cok_slices_IndexFunc_impl_Cell_impl_Cell (by kernel_rfl) (gl_slices_IndexFunc_impl_Cell_impl_Cell k q) (by kernel_rfl) rfl (fun vs m r hl h => match vs, hl with
  | [t0, t1, t7, t8], _ => (le_slices_IndexFunc_impl_Cell_impl_Cell_0 k q t0 t1 t7 t8 m).trans h)
 | _ + 1, _ + 1, h => absurd h (by omega)
theorem ok_X_slices_IndexFunc_impl_Cell_impl_Cell : OkX CT 84 X_slices_IndexFunc_impl_Cell_impl_Cell := OkX.of_ex (cf := cf_slices_IndexFunc_impl_Cell_impl_Cell) (np := 2) (LL := LL_slices_IndexFunc_impl_Cell_impl_Cell) (J := (fun k => J_slices_IndexFunc_impl_Cell_impl_Cell k QQ)) CT_ok rfl Try.func84 rfl (Nat.le_of_ble_eq_true rfl) (by decide) cok_slices_IndexFunc_impl_Cell_impl_Cell okc_slices_IndexFunc_impl_Cell_impl_Cell (fun k => allLoops rfl (by kernel_rfl) (gl_slices_IndexFunc_impl_Cell_impl_Cell k QQ)) (fun args m r h => match args, h with
  | [t0, t1], h => ⟨rfl, (xe_slices_IndexFunc_impl_Cell_impl_Cell t0 t1 m).trans h⟩)
theorem ok_C_slices_IndexFunc_impl_Cell_impl_Cell : OkC CT 84 C_slices_IndexFunc_impl_Cell_impl_Cell := fcall_ok rfl ok_X_slices_IndexFunc_impl_Cell_impl_Cell
noncomputable def cf_slices_ContainsFunc_impl_Cell_impl_Cell : CallF := cfc 84 C_slices_IndexFunc_impl_Cell_impl_Cell cfn
noncomputable def X_slices_ContainsFunc_impl_Cell_impl_Cell : List Value → Mem → Option VM
 | [t0, t1], m =>
  (C_slices_IndexFunc_impl_Cell_impl_Cell [t0, t1] m) |> bo fun r1 =>
  (binX .geq .no r1.1 (.int .i64 0)) |> bo fun t8 =>
  retK m.length r1.2 [t0, t1] t8
 | _, _ => none
noncomputable def C_slices_ContainsFunc_impl_Cell_impl_Cell : List Value → Mem → Option VM := fcall X_slices_ContainsFunc_impl_Cell_impl_Cell
@[simp] theorem c_slices_ContainsFunc_impl_Cell_impl_Cell : C_slices_ContainsFunc_impl_Cell_impl_Cell = fcall X_slices_ContainsFunc_impl_Cell_impl_Cell := (rfl)
theorem cok_slices_ContainsFunc_impl_Cell_impl_Cell : codeOk CT Try.f73 (Try.f73.body.get rfl) = true := by kernel_rfl
theorem xe_slices_ContainsFunc_impl_Cell_impl_Cell (t0 t1 : Value) (m : Mem) : ex CT cf_slices_ContainsFunc_impl_Cell_impl_Cell Try.f73 2 m.length [] (fun _ _ _ => none) 400 [.code (Try.f73.body.get rfl)] (argsT 0 [t0, t1]) m = X_slices_ContainsFunc_impl_Cell_impl_Cell [t0, t1] m := by kernel_rfl
theorem okc_slices_ContainsFunc_impl_Cell_impl_Cell : CallOK CT cf_slices_ContainsFunc_impl_Cell_impl_Cell := cfc_ok ok_C_slices_IndexFunc_impl_Cell_impl_Cell cfn_ok
theorem ok_X_slices_ContainsFunc_impl_Cell_impl_Cell : OkX CT 73 X_slices_ContainsFunc_impl_Cell_impl_Cell := OkX.of_ex (cf := cf_slices_ContainsFunc_impl_Cell_impl_Cell) (np := 2) (LL := []) (J := (fun _ _ _ _ => none)) CT_ok rfl Try.func73 rfl (Nat.le_of_ble_eq_true rfl) (by decide) cok_slices_ContainsFunc_impl_Cell_impl_Cell okc_slices_ContainsFunc_impl_Cell_impl_Cell (fun k => noLoops rfl) (fun args m r h => match args, h with
  | [t0, t1], h => ⟨rfl, (xe_slices_ContainsFunc_impl_Cell_impl_Cell t0 t1 m).trans h⟩)
theorem ok_C_slices_ContainsFunc_impl_Cell_impl_Cell : OkC CT 73 C_slices_ContainsFunc_impl_Cell_impl_Cell := fcall_ok rfl ok_X_slices_ContainsFunc_impl_Cell_impl_Cell
noncomputable def cf_impl_GridFault : CallF := cfc 53 C_impl_unless (cfc 70 C_impl_sizeOk (cfc 73 C_slices_ContainsFunc_impl_Cell_impl_Cell cfn))
noncomputable def X_impl_GridFault : List Value → Mem → Option VM
 | [t0], m =>
  (boxX m t0) |> bo fun r1 =>
  (fadX 0 r1.1) |> bo fun t5 =>
  (ld1 r1.2 t5) |> bo fun t6 =>
  (fadX 1 r1.1) |> bo fun t7 =>
  (ld1 r1.2 t7) |> bo fun t8 =>
  (C_impl_sizeOk [t6, t8] r1.2) |> bo fun r6 =>
  (uop .not r6.1) |> bo fun t10 =>
  brX t10
   (
    retK m.length r6.2 [t0] (.int .i64 3))
   (
    (fadX 3 r1.1) |> bo fun t11 =>
    (ld1 r6.2 t11) |> bo fun t12 =>
    (lenX t12) |> bo fun t13 =>
    (fadX 2 r1.1) |> bo fun t14 =>
    (ld1 r6.2 t14) |> bo fun t15 =>
    (lenX t15) |> bo fun t16 =>
    (fadX 0 r1.1) |> bo fun t17 =>
    (ld1 r6.2 t17) |> bo fun t18 =>
    (fadX 1 r1.1) |> bo fun t19 =>
    (ld1 r6.2 t19) |> bo fun t20 =>
    (binX .mul .no t18 t20) |> bo fun t21 =>
    (binX .neq .no t16 t21) |> bo fun t22 =>
    (gd t22 false (some (t13, r6.2)) r6.2) |> bo fun r20 =>
    (gd t22 false ((fadX 1 r1.1) |> bo fun v => some (v, r20.2)) r20.2) |> bo fun r21 =>
    (gd t22 false ((ld1 r21.2 r21.1) |> bo fun v => some (v, r21.2)) r21.2) |> bo fun r22 =>
    (gd t22 false ((binX .mul .no (.int .i64 5) r22.1) |> bo fun v => some (v, r22.2)) r22.2) |> bo fun r23 =>
    (gd t22 false ((binX .gtr .no r20.1 r23.1) |> bo fun v => some (v, r23.2)) r23.2) |> bo fun r24 =>
    (pickX t22 (.bool true) r24.1) |> bo fun t29 =>
    (gd t29 false (some (t13, r24.2)) r24.2) |> bo fun r26 =>
    (gd t29 false ((fadX 1 r1.1) |> bo fun v => some (v, r26.2)) r26.2) |> bo fun r27 =>
    (gd t29 false ((ld1 r27.2 r27.1) |> bo fun v => some (v, r27.2)) r27.2) |> bo fun r28 =>
    (gd t29 false ((binX .rem .no r26.1 r28.1) |> bo fun v => some (v, r28.2)) r28.2) |> bo fun r29 =>
    (gd t29 false ((binX .neq .no r29.1 (.int .i64 0)) |> bo fun v => some (v, r29.2)) r29.2) |> bo fun r30 =>
    (pickX t29 (.bool true) r30.1) |> bo fun t36 =>
    brX t36
     (
      retK m.length r30.2 [t0] (.int .i64 1))
     (
      (fadX 2 r1.1) |> bo fun t37 =>
      (ld1 r30.2 t37) |> bo fun t38 =>
      (C_slices_ContainsFunc_impl_Cell_impl_Cell [t38, (.func (.func 71) #[] #[])] r30.2) |> bo fun r34 =>
      (uop .not r34.1) |> bo fun t41 =>
      (gd t41 true ((fadX 3 r1.1) |> bo fun v => some (v, r34.2)) r34.2) |> bo fun r36 =>
      (gd t41 true ((ld1 r36.2 r36.1) |> bo fun v => some (v, r36.2)) r36.2) |> bo fun r37 =>
      (gd t41 true (some ((.func (.func 71) #[] #[]), r37.2)) r37.2) |> bo fun r38 =>
      (gd t41 true ((C_slices_ContainsFunc_impl_Cell_impl_Cell [r37.1, r38.1] r38.2) |> bo fun r => some (r.1, r.2)) r38.2) |> bo fun r39 =>
      (gd t41 true ((uop .not r39.1) |> bo fun v => some (v, r39.2)) r39.2) |> bo fun r40 =>
      (pickX t41 r40.1 (.bool false)) |> bo fun t48 =>
      (C_impl_unless [t48, (.int .i64 3)] r40.2) |> bo fun r42 =>
      retK m.length r42.2 [t0] r42.1))
 | _, _ => none
noncomputable def C_impl_GridFault : List Value → Mem → Option VM := fcall X_impl_GridFault
@[simp] theorem c_impl_GridFault : C_impl_GridFault = fcall X_impl_GridFault := (rfl)
theorem cok_impl_GridFault : codeOk CT Try.f56 (Try.f56.body.get rfl) = true := by kernel_rfl
theorem xe_impl_GridFault (t0 : Value) (m : Mem) : ex CT cf_impl_GridFault Try.f56 1 m.length [] (fun _ _ _ => none) 400 [.code (Try.f56.body.get rfl)] (argsT 0 [t0]) m = X_impl_GridFault [t0] m := by kernel_rfl
theorem okc_impl_GridFault : CallOK CT cf_impl_GridFault := cfc_ok ok_C_impl_unless (cfc_ok ok_C_impl_sizeOk (cfc_ok ok_C_slices_ContainsFunc_impl_Cell_impl_Cell cfn_ok))
theorem ok_X_impl_GridFault : OkX CT 56 X_impl_GridFault := OkX.of_ex (cf := cf_impl_GridFault) (np := 1) (LL := []) (J := (fun _ _ _ _ => none)) CT_ok rfl Try.func56 rfl (Nat.le_of_ble_eq_true rfl) (by decide) cok_impl_GridFault okc_impl_GridFault (fun k => noLoops rfl) (fun args m r h => match args, h with
  | [t0], h => ⟨rfl, (xe_impl_GridFault t0 m).trans h⟩)
theorem ok_C_impl_GridFault : OkC CT 56 C_impl_GridFault := fcall_ok rfl ok_X_impl_GridFault
noncomputable def cf_impl_Grid_isPlace : CallF := cfc 52 C_impl_in cfn
noncomputable def X_impl_Grid_isPlace : List Value → Mem → Option VM
 | [t0, t1, t2], m =>
  (boxX m t0) |> bo fun r1 =>
  (fadX 0 r1.1) |> bo fun t8 =>
  (ld1 r1.2 t8) |> bo fun t9 =>
  (binX .sub .no t9 (.int .i64 1)) |> bo fun t10 =>
  (C_impl_in [t1, (.int .i64 0), t10] r1.2) |> bo fun r5 =>
  (gd r5.1 true (some (t2, r5.2)) r5.2) |> bo fun r6 =>
  (gd r5.1 true ((fadX 1 r1.1) |> bo fun v => some (v, r6.2)) r6.2) |> bo fun r7 =>
  (gd r5.1 true ((ld1 r7.2 r7.1) |> bo fun v => some (v, r7.2)) r7.2) |> bo fun r8 =>
  (gd r5.1 true ((binX .sub .no r8.1 (.int .i64 1)) |> bo fun v => some (v, r8.2)) r8.2) |> bo fun r9 =>
  (gd r5.1 true ((C_impl_in [r6.1, (.int .i64 0), r9.1] r9.2) |> bo fun r => some (r.1, r.2)) r9.2) |> bo fun r10 =>
  (pickX r5.1 r10.1 (.bool false)) |> bo fun t18 =>
  retK m.length r10.2 [t0, t1, t2] t18
 | _, _ => none
noncomputable def C_impl_Grid_isPlace : List Value → Mem → Option VM := fcall X_impl_Grid_isPlace
@[simp] theorem c_impl_Grid_isPlace : C_impl_Grid_isPlace = fcall X_impl_Grid_isPlace := (rfl)
theorem cok_impl_Grid_isPlace : codeOk CT Try.f76 (Try.f76.body.get rfl) = true := by kernel_rfl
theorem xe_impl_Grid_isPlace (t0 t1 t2 : Value) (m : Mem) : ex CT cf_impl_Grid_isPlace Try.f76 3 m.length [] (fun _ _ _ => none) 400 [.code (Try.f76.body.get rfl)] (argsT 0 [t0, t1, t2]) m = X_impl_Grid_isPlace [t0, t1, t2] m := by kernel_rfl
theorem okc_impl_Grid_isPlace : CallOK CT cf_impl_Grid_isPlace := cfc_ok ok_C_impl_in cfn_ok
theorem ok_X_impl_Grid_isPlace : OkX CT 76 X_impl_Grid_isPlace := OkX.of_ex (cf := cf_impl_Grid_isPlace) (np := 3) (LL := []) (J := (fun _ _ _ _ => none)) CT_ok rfl Try.func76 rfl (Nat.le_of_ble_eq_true rfl) (by decide) cok_impl_Grid_isPlace okc_impl_Grid_isPlace (fun k => noLoops rfl) (fun args m r h => match args, h with
  | [t0, t1, t2], h => ⟨rfl, (xe_impl_Grid_isPlace t0 t1 t2 m).trans h⟩)
theorem ok_C_impl_Grid_isPlace : OkC CT 76 C_impl_Grid_isPlace := fcall_ok rfl ok_X_impl_Grid_isPlace
noncomputable def cf_impl_Screen_rangeOk : CallF := cfc 52 C_impl_in (cfc 68 C_slices_ContainsFunc_int64_int64 (cfc 74 C_impl_isAttr (cfc 76 C_impl_Grid_isPlace cfn)))
noncomputable def X_impl_Screen_rangeOk : List Value → Mem → Option VM
 | [t0], m =>
  (nilX t0) |> bo fun t6 =>
  (fadX 14 t6) |> bo fun t7 =>
  (ld1 m t7) |> bo fun t8 =>
  (C_impl_in [t8, (.int .i64 0), (.int .i64 5)] m) |> bo fun r4 =>
  (gd r4.1 true (some (t0, r4.2)) r4.2) |> bo fun r5 =>
  (gd r4.1 true ((nilX r5.1) |> bo fun v => some (v, r5.2)) r5.2) |> bo fun r6 =>
  (gd r4.1 true ((fadX 15 r6.1) |> bo fun v => some (v, r6.2)) r6.2) |> bo fun r7 =>
  (gd r4.1 true ((ld1 r7.2 r7.1) |> bo fun v => some (v, r7.2)) r7.2) |> bo fun r8 =>
  (gd r4.1 true ((C_impl_in [r8.1, (.int .i64 0), (.int .i64 11)] r8.2) |> bo fun r => some (r.1, r.2)) r8.2) |> bo fun r9 =>
  (pickX r4.1 r9.1 (.bool false)) |> bo fun t16 =>
  (gd t16 true (some (t0, r9.2)) r9.2) |> bo fun r11 =>
  (gd t16 true ((nilX r11.1) |> bo fun v => some (v, r11.2)) r11.2) |> bo fun r12 =>
  (gd t16 true ((fadX 16 r12.1) |> bo fun v => some (v, r12.2)) r12.2) |> bo fun r13 =>
  (gd t16 true ((ld1 r13.2 r13.1) |> bo fun v => some (v, r13.2)) r13.2) |> bo fun r14 =>
  (gd t16 true ((C_impl_isAttr [r14.1] r14.2) |> bo fun r => some (r.1, r.2)) r14.2) |> bo fun r15 =>
  (pickX t16 r15.1 (.bool false)) |> bo fun t23 =>
  (nilX t0) |> bo fun t25 =>
  (fadX 17 t25) |> bo fun t26 =>
  (ld1 r15.2 t26) |> bo fun t27 =>
  (lenX t27) |> bo fun t28 =>
  (binX .eql .no t28 (.int .i64 2)) |> bo fun t29 =>
  (gd t29 true (some (t0, r15.2)) r15.2) |> bo fun r22 =>
  (gd t29 true ((nilX r22.1) |> bo fun v => some (v, r22.2)) r22.2) |> bo fun r23 =>
  (gd t29 true ((fadX 17 r23.1) |> bo fun v => some (v, r23.2)) r23.2) |> bo fun r24 =>
  (gd t29 true ((ld1 r24.2 r24.1) |> bo fun v => some (v, r24.2)) r24.2) |> bo fun r25 =>
  (gd t29 true ((C_slices_ContainsFunc_int64_int64 [r25.1, (.func (.func 75) #[] #[])] r25.2) |> bo fun r => some (r.1, r.2)) r25.2) |> bo fun r26 =>
  (gd t29 true ((uop .not r26.1) |> bo fun v => some (v, r26.2)) r26.2) |> bo fun r27 =>
  (pickX t29 r27.1 (.bool false)) |> bo fun t37 =>
  (nilX t0) |> bo fun t39 =>
  (fadX 0 t39) |> bo fun t40 =>
  (ldS r27.2 4 t40) |> bo fun t41 =>
  (nilX t0) |> bo fun t43 =>
  (fadX 4 t43) |> bo fun t44 =>
  (ld1 r27.2 t44) |> bo fun t45 =>
  (nilX t0) |> bo fun t47 =>
  (fadX 5 t47) |> bo fun t48 =>
  (ld1 r27.2 t48) |> bo fun t49 =>
  (C_impl_Grid_isPlace [t41, t45, t49] r27.2) |> bo fun r38 =>
  (gd r38.1 true (some (t0, r38.2)) r38.2) |> bo fun r39 =>
  (gd r38.1 true ((nilX r39.1) |> bo fun v => some (v, r39.2)) r39.2) |> bo fun r40 =>
  (gd r38.1 true ((fadX 7 r40.1) |> bo fun v => some (v, r40.2)) r40.2) |> bo fun r41 =>
  (gd r38.1 true ((ld1 r41.2 r41.1) |> bo fun v => some (v, r41.2)) r41.2) |> bo fun r42 =>
  (gd r38.1 true ((C_impl_isAttr [r42.1] r42.2) |> bo fun r => some (r.1, r.2)) r42.2) |> bo fun r43 =>
  (pickX r38.1 r43.1 (.bool false)) |> bo fun t57 =>
  (gd t57 true (some (t23, r43.2)) r43.2) |> bo fun r45 =>
  (pickX t57 r45.1 (.bool false)) |> bo fun t60 =>
  (gd t60 true (some (t37, r45.2)) r45.2) |> bo fun r47 =>
  (pickX t60 r47.1 (.bool false)) |> bo fun t63 =>
  (gd t63 true (some (t0, r47.2)) r47.2) |> bo fun r49 =>
  (gd t63 true ((nilX r49.1) |> bo fun v => some (v, r49.2)) r49.2) |> bo fun r50 =>
  (gd t63 true ((fadX 18 r50.1) |> bo fun v => some (v, r50.2)) r50.2) |> bo fun r51 =>
  (gd t63 true ((ld1 r51.2 r51.1) |> bo fun v => some (v, r51.2)) r51.2) |> bo fun r52 =>
  (gd t63 true ((C_impl_in [r52.1, (.int .i64 0), (.int .i64 1)] r52.2) |> bo fun r => some (r.1, r.2)) r52.2) |> bo fun r53 =>
  (pickX t63 r53.1 (.bool false)) |> bo fun t70 =>
  (gd t70 true (some (t0, r53.2)) r53.2) |> bo fun r55 =>
  (gd t70 true ((nilX r55.1) |> bo fun v => some (v, r55.2)) r55.2) |> bo fun r56 =>
  (gd t70 true ((fadX 19 r56.1) |> bo fun v => some (v, r56.2)) r56.2) |> bo fun r57 =>
  (gd t70 true ((ld1 r57.2 r57.1) |> bo fun v => some (v, r57.2)) r57.2) |> bo fun r58 =>
  (gd t70 true ((C_impl_in [r58.1, (.int .i64 0), (.int .i64 999)] r58.2) |> bo fun r => some (r.1, r.2)) r58.2) |> bo fun r59 =>
  (pickX t70 r59.1 (.bool false)) |> bo fun t77 =>
  retK m.length r59.2 [t0] t77
 | _, _ => none
noncomputable def C_impl_Screen_rangeOk : List Value → Mem → Option VM := fcall X_impl_Screen_rangeOk
@[simp] theorem c_impl_Screen_rangeOk : C_impl_Screen_rangeOk = fcall X_impl_Screen_rangeOk := (rfl)
theorem cok_impl_Screen_rangeOk : codeOk CT Try.f57 (Try.f57.body.get rfl) = true := by kernel_rfl
theorem xe_impl_Screen_rangeOk (t0 : Value) (m : Mem) : ex CT cf_impl_Screen_rangeOk Try.f57 1 m.length [] (fun _ _ _ => none) 400 [.code (Try.f57.body.get rfl)] (argsT 0 [t0]) m = X_impl_Screen_rangeOk [t0] m := by kernel_rfl
theorem okc_impl_Screen_rangeOk : CallOK CT cf_impl_Screen_rangeOk := cfc_ok ok_C_impl_in (cfc_ok ok_C_slices_ContainsFunc_int64_int64 (cfc_ok ok_C_impl_isAttr (cfc_ok ok_C_impl_Grid_isPlace cfn_ok)))
theorem ok_X_impl_Screen_rangeOk : OkX CT 57 X_impl_Screen_rangeOk := OkX.of_ex (cf := cf_impl_Screen_rangeOk) (np := 1) (LL := []) (J := (fun _ _ _ _ => none)) CT_ok rfl Try.func57 rfl (Nat.le_of_ble_eq_true rfl) (by decide) cok_impl_Screen_rangeOk okc_impl_Screen_rangeOk (fun k => noLoops rfl) (fun args m r h => match args, h with
  | [t0], h => ⟨rfl, (xe_impl_Screen_rangeOk t0 m).trans h⟩)
theorem ok_C_impl_Screen_rangeOk : OkC CT 57 C_impl_Screen_rangeOk := fcall_ok rfl ok_X_impl_Screen_rangeOk
noncomputable def cf_impl_Screen_last : CallF := cfn
noncomputable def X_impl_Screen_last : List Value → Mem → Option VM
 | [t0], m =>
  (nilX t0) |> bo fun t5 =>
  (fadX 0 t5) |> bo fun t6 =>
  (fadX 0 t6) |> bo fun t7 =>
  (ld1 m t7) |> bo fun t8 =>
  (binX .sub .no t8 (.int .i64 1)) |> bo fun t9 =>
  (nilX t0) |> bo fun t11 =>
  (fadX 0 t11) |> bo fun t12 =>
  (fadX 1 t12) |> bo fun t13 =>
  (ld1 m t13) |> bo fun t14 =>
  (binX .sub .no t14 (.int .i64 1)) |> bo fun t15 =>
  retK m.length m [t0] (.tuple #[t9, t15])
 | _, _ => none
noncomputable def C_impl_Screen_last : List Value → Mem → Option VM := fcall X_impl_Screen_last
@[simp] theorem c_impl_Screen_last : C_impl_Screen_last = fcall X_impl_Screen_last := (rfl)
theorem cok_impl_Screen_last : codeOk CT Try.f77 (Try.f77.body.get rfl) = true := by kernel_rfl
theorem xe_impl_Screen_last (t0 : Value) (m : Mem) : ex CT cf_impl_Screen_last Try.f77 1 m.length [] (fun _ _ _ => none) 400 [.code (Try.f77.body.get rfl)] (argsT 0 [t0]) m = X_impl_Screen_last [t0] m := by kernel_rfl
theorem okc_impl_Screen_last : CallOK CT cf_impl_Screen_last := cfn_ok
theorem ok_X_impl_Screen_last : OkX CT 77 X_impl_Screen_last := OkX.of_ex (cf := cf_impl_Screen_last) (np := 1) (LL := []) (J := (fun _ _ _ _ => none)) CT_ok rfl Try.func77 rfl (Nat.le_of_ble_eq_true rfl) (by decide) cok_impl_Screen_last okc_impl_Screen_last (fun k => noLoops rfl) (fun args m r h => match args, h with
  | [t0], h => ⟨rfl, (xe_impl_Screen_last t0 m).trans h⟩)
theorem ok_C_impl_Screen_last : OkC CT 77 C_impl_Screen_last := fcall_ok rfl ok_X_impl_Screen_last
noncomputable def cf_impl_Screen_isRegion : CallF := cfc 77 C_impl_Screen_last cfn
noncomputable def X_impl_Screen_isRegion : List Value → Mem → Option VM
 | [t0, t1, t2], m =>
  (C_impl_Screen_last [t0] m) |> bo fun r1 =>
  (extX 0 r1.1) |> bo fun t12 =>
  (extX 1 r1.1) |> bo fun t13 =>
  (binX .leq .no (.int .i64 0) t1) |> bo fun t15 =>
  (gd t15 true (some (t1, r1.2)) r1.2) |> bo fun r5 =>
  (gd t15 true (some (t2, r5.2)) r5.2) |> bo fun r6 =>
  (gd t15 true ((binX .lss .no r5.1 r6.1) |> bo fun v => some (v, r6.2)) r6.2) |> bo fun r7 =>
  (pickX t15 r7.1 (.bool false)) |> bo fun t20 =>
  (gd t20 true (some (t2, r7.2)) r7.2) |> bo fun r9 =>
  (gd t20 true (some (t12, r9.2)) r9.2) |> bo fun r10 =>
  (gd t20 true ((binX .leq .no r9.1 r10.1) |> bo fun v => some (v, r10.2)) r10.2) |> bo fun r11 =>
  (pickX t20 r11.1 (.bool false)) |> bo fun t25 =>
  (gd t25 false (some (t1, r11.2)) r11.2) |> bo fun r13 =>
  (gd t25 false ((binX .eql .no r13.1 (.int .i64 0)) |> bo fun v => some (v, r13.2)) r13.2) |> bo fun r14 =>
  (gd t25 false (some (r14.1, r14.2)) r14.2) |> bo fun r15 =>
  (gd r15.1 true (some (t2, r15.2)) r15.2) |> bo fun r16 =>
  (gd r15.1 true (some (t12, r16.2)) r16.2) |> bo fun r17 =>
  (gd r15.1 true ((binX .eql .no r16.1 r17.1) |> bo fun v => some (v, r17.2)) r17.2) |> bo fun r18 =>
  (gd t25 false ((pickX r15.1 r18.1 (.bool false)) |> bo fun v => some (v, r18.2)) r18.2) |> bo fun r19 =>
  (pickX t25 (.bool true) r19.1) |> bo fun t34 =>
  retK m.length r19.2 [t0, t1, t2] t34
 | _, _ => none
noncomputable def C_impl_Screen_isRegion : List Value → Mem → Option VM := fcall X_impl_Screen_isRegion
@[simp] theorem c_impl_Screen_isRegion : C_impl_Screen_isRegion = fcall X_impl_Screen_isRegion := (rfl)
theorem cok_impl_Screen_isRegion : codeOk CT Try.f78 (Try.f78.body.get rfl) = true := by kernel_rfl
theorem xe_impl_Screen_isRegion (t0 t1 t2 : Value) (m : Mem) : ex CT cf_impl_Screen_isRegion Try.f78 3 m.length [] (fun _ _ _ => none) 400 [.code (Try.f78.body.get rfl)] (argsT 0 [t0, t1, t2]) m = X_impl_Screen_isRegion [t0, t1, t2] m := by kernel_rfl
theorem okc_impl_Screen_isRegion : CallOK CT cf_impl_Screen_isRegion := cfc_ok ok_C_impl_Screen_last cfn_ok
theorem ok_X_impl_Screen_isRegion : OkX CT 78 X_impl_Screen_isRegion := OkX.of_ex (cf := cf_impl_Screen_isRegion) (np := 3) (LL := []) (J := (fun _ _ _ _ => none)) CT_ok rfl Try.func78 rfl (Nat.le_of_ble_eq_true rfl) (by decide) cok_impl_Screen_isRegion okc_impl_Screen_isRegion (fun k => noLoops rfl) (fun args m r h => match args, h with
  | [t0, t1, t2], h => ⟨rfl, (xe_impl_Screen_isRegion t0 t1 t2 m).trans h⟩)
theorem ok_C_impl_Screen_isRegion : OkC CT 78 C_impl_Screen_isRegion := fcall_ok rfl ok_X_impl_Screen_isRegion
noncomputable def cf_impl_Screen_inRegion : CallF := cfc 52 C_impl_in cfn
noncomputable def X_impl_Screen_inRegion : List Value → Mem → Option VM
 | [t0], m =>
  (nilX t0) |> bo fun t4 =>
  (fadX 4 t4) |> bo fun t5 =>
  (ld1 m t5) |> bo fun t6 =>
  (nilX t0) |> bo fun t8 =>
  (fadX 8 t8) |> bo fun t9 =>
  (ld1 m t9) |> bo fun t10 =>
  (nilX t0) |> bo fun t12 =>
  (fadX 9 t12) |> bo fun t13 =>
  (ld1 m t13) |> bo fun t14 =>
  (C_impl_in [t6, t10, t14] m) |> bo fun r10 =>
  retK m.length r10.2 [t0] r10.1
 | _, _ => none
noncomputable def C_impl_Screen_inRegion : List Value → Mem → Option VM := fcall X_impl_Screen_inRegion
@[simp] theorem c_impl_Screen_inRegion : C_impl_Screen_inRegion = fcall X_impl_Screen_inRegion := (rfl)
theorem cok_impl_Screen_inRegion : codeOk CT Try.f79 (Try.f79.body.get rfl) = true := by kernel_rfl
theorem xe_impl_Screen_inRegion (t0 : Value) (m : Mem) : ex CT cf_impl_Screen_inRegion Try.f79 1 m.length [] (fun _ _ _ => none) 400 [.code (Try.f79.body.get rfl)] (argsT 0 [t0]) m = X_impl_Screen_inRegion [t0] m := by kernel_rfl
theorem okc_impl_Screen_inRegion : CallOK CT cf_impl_Screen_inRegion := cfc_ok ok_C_impl_in cfn_ok
theorem ok_X_impl_Screen_inRegion : OkX CT 79 X_impl_Screen_inRegion := OkX.of_ex (cf := cf_impl_Screen_inRegion) (np := 1) (LL := []) (J := (fun _ _ _ _ => none)) CT_ok rfl Try.func79 rfl (Nat.le_of_ble_eq_true rfl) (by decide) cok_impl_Screen_inRegion okc_impl_Screen_inRegion (fun k => noLoops rfl) (fun args m r h => match args, h with
  | [t0], h => ⟨rfl, (xe_impl_Screen_inRegion t0 m).trans h⟩)
theorem ok_C_impl_Screen_inRegion : OkC CT 79 C_impl_Screen_inRegion := fcall_ok rfl ok_X_impl_Screen_inRegion
noncomputable def cf_impl_Screen_formOk : CallF := cfc 77 C_impl_Screen_last (cfc 78 C_impl_Screen_isRegion (cfc 79 C_impl_Screen_inRegion cfn))
noncomputable def X_impl_Screen_formOk : List Value → Mem → Option VM
 | [t0], m =>
  (C_impl_Screen_last [t0] m) |> bo fun r1 =>
  (extX 0 r1.1) |> bo fun t9 =>
  (extX 1 r1.1) |> bo fun t10 =>
  (nilX t0) |> bo fun t12 =>
  (fadX 6 t12) |> bo fun t13 =>
  (ld1 r1.2 t13) |> bo fun t14 =>
  (uop .not t14) |> bo fun t15 =>
  (gd t15 false (some (t0, r1.2)) r1.2) |> bo fun r8 =>
  (gd t15 false ((nilX r8.1) |> bo fun v => some (v, r8.2)) r8.2) |> bo fun r9 =>
  (gd t15 false ((fadX 5 r9.1) |> bo fun v => some (v, r9.2)) r9.2) |> bo fun r10 =>
  (gd t15 false ((ld1 r10.2 r10.1) |> bo fun v => some (v, r10.2)) r10.2) |> bo fun r11 =>
  (gd t15 false (some (t10, r11.2)) r11.2) |> bo fun r12 =>
  (gd t15 false ((binX .eql .no r11.1 r12.1) |> bo fun v => some (v, r12.2)) r12.2) |> bo fun r13 =>
  (gd t15 false (some (r13.1, r13.2)) r13.2) |> bo fun r14 =>
  (gd r14.1 true (some (t0, r14.2)) r14.2) |> bo fun r15 =>
  (gd r14.1 true ((nilX r15.1) |> bo fun v => some (v, r15.2)) r15.2) |> bo fun r16 =>
  (gd r14.1 true ((fadX 11 r16.1) |> bo fun v => some (v, r16.2)) r16.2) |> bo fun r17 =>
  (gd r14.1 true ((ld1 r17.2 r17.1) |> bo fun v => some (v, r17.2)) r17.2) |> bo fun r18 =>
  (gd t15 false ((pickX r14.1 r18.1 (.bool false)) |> bo fun v => some (v, r18.2)) r18.2) |> bo fun r19 =>
  (pickX t15 (.bool true) r19.1) |> bo fun t29 =>
  (nilX t0) |> bo fun t32 =>
  (fadX 8 t32) |> bo fun t33 =>
  (ld1 r19.2 t33) |> bo fun t34 =>
  (nilX t0) |> bo fun t36 =>
  (fadX 9 t36) |> bo fun t37 =>
  (ld1 r19.2 t37) |> bo fun t38 =>
  (C_impl_Screen_isRegion [t0, t34, t38] r19.2) |> bo fun r27 =>
  (gd r27.1 true (some (t0, r27.2)) r27.2) |> bo fun r28 =>
  (gd r27.1 true ((nilX r28.1) |> bo fun v => some (v, r28.2)) r28.2) |> bo fun r29 =>
  (gd r27.1 true ((fadX 13 r29.1) |> bo fun v => some (v, r29.2)) r29.2) |> bo fun r30 =>
  (gd r27.1 true ((ld1 r30.2 r30.1) |> bo fun v => some (v, r30.2)) r30.2) |> bo fun r31 =>
  (gd r27.1 true ((lenX r31.1) |> bo fun v => some (v, r31.2)) r31.2) |> bo fun r32 =>
  (gd r27.1 true (some (t0, r32.2)) r32.2) |> bo fun r33 =>
  (gd r27.1 true ((nilX r33.1) |> bo fun v => some (v, r33.2)) r33.2) |> bo fun r34 =>
  (gd r27.1 true ((fadX 0 r34.1) |> bo fun v => some (v, r34.2)) r34.2) |> bo fun r35 =>
  (gd r27.1 true ((fadX 1 r35.1) |> bo fun v => some (v, r35.2)) r35.2) |> bo fun r36 =>
  (gd r27.1 true ((ld1 r36.2 r36.1) |> bo fun v => some (v, r36.2)) r36.2) |> bo fun r37 =>
  (gd r27.1 true ((binX .eql .no r32.1 r37.1) |> bo fun v => some (v, r37.2)) r37.2) |> bo fun r38 =>
  (pickX r27.1 r38.1 (.bool false)) |> bo fun t52 =>
  (gd t52 true (some (t29, r38.2)) r38.2) |> bo fun r40 =>
  (pickX t52 r40.1 (.bool false)) |> bo fun t55 =>
  (gd t55 true (some (t0, r40.2)) r40.2) |> bo fun r42 =>
  (gd t55 true ((nilX r42.1) |> bo fun v => some (v, r42.2)) r42.2) |> bo fun r43 =>
  (gd t55 true ((fadX 10 r43.1) |> bo fun v => some (v, r43.2)) r43.2) |> bo fun r44 =>
  (gd t55 true ((ld1 r44.2 r44.1) |> bo fun v => some (v, r44.2)) r44.2) |> bo fun r45 =>
  (gd t55 true ((uop .not r45.1) |> bo fun v => some (v, r45.2)) r45.2) |> bo fun r46 =>
  (gd t55 true (some (r46.1, r46.2)) r46.2) |> bo fun r47 =>
  (gd r47.1 false (some (t0, r47.2)) r47.2) |> bo fun r48 =>
  (gd r47.1 false ((C_impl_Screen_inRegion [r48.1] r48.2) |> bo fun r => some (r.1, r.2)) r48.2) |> bo fun r49 =>
  (gd t55 true ((pickX r47.1 (.bool true) r49.1) |> bo fun v => some (v, r49.2)) r49.2) |> bo fun r50 =>
  (pickX t55 r50.1 (.bool false)) |> bo fun t66 =>
  retK m.length r50.2 [t0] t66
 | _, _ => none
noncomputable def C_impl_Screen_formOk : List Value → Mem → Option VM := fcall X_impl_Screen_formOk
@[simp] theorem c_impl_Screen_formOk : C_impl_Screen_formOk = fcall X_impl_Screen_formOk := (rfl)
theorem cok_impl_Screen_formOk : codeOk CT Try.f58 (Try.f58.body.get rfl) = true := by kernel_rfl
theorem xe_impl_Screen_formOk (t0 : Value) (m : Mem) : ex CT cf_impl_Screen_formOk Try.f58 1 m.length [] (fun _ _ _ => none) 400 [.code (Try.f58.body.get rfl)] (argsT 0 [t0]) m = X_impl_Screen_formOk [t0] m := by kernel_rfl
theorem okc_impl_Screen_formOk : CallOK CT cf_impl_Screen_formOk := cfc_ok ok_C_impl_Screen_last (cfc_ok ok_C_impl_Screen_isRegion (cfc_ok ok_C_impl_Screen_inRegion cfn_ok))
theorem ok_X_impl_Screen_formOk : OkX CT 58 X_impl_Screen_formOk := OkX.of_ex (cf := cf_impl_Screen_formOk) (np := 1) (LL := []) (J := (fun _ _ _ _ => none)) CT_ok rfl Try.func58 rfl (Nat.le_of_ble_eq_true rfl) (by decide) cok_impl_Screen_formOk okc_impl_Screen_formOk (fun k => noLoops rfl) (fun args m r h => match args, h with
  | [t0], h => ⟨rfl, (xe_impl_Screen_formOk t0 m).trans h⟩)
theorem ok_C_impl_Screen_formOk : OkC CT 58 C_impl_Screen_formOk := fcall_ok rfl ok_X_impl_Screen_formOk
noncomputable def cf_impl_ScreenFault : CallF := cfc 34 C_impl_first (cfc 53 C_impl_unless (cfc 56 C_impl_GridFault (cfc 57 C_impl_Screen_rangeOk (cfc 58 C_impl_Screen_formOk cfn))))
noncomputable def X_impl_ScreenFault : List Value → Mem → Option VM
 | [t0], m =>
  (boxX m t0) |> bo fun r1 =>
  (fadX 0 r1.1) |> bo fun t4 =>
  (ldS r1.2 4 t4) |> bo fun t5 =>
  (C_impl_GridFault [t5] r1.2) |> bo fun r4 =>
  (C_impl_Screen_rangeOk [r1.1] r4.2) |> bo fun r5 =>
  (C_impl_unless [r5.1, (.int .i64 3)] r5.2) |> bo fun r6 =>
  (bslX r6.2 2 1 [.int .i64 0] [(0, 1, r4.1), (1, 1, r6.1)]) |> bo fun r7 =>
  (C_impl_first [r7.1] r7.2) |> bo fun r8 =>
  (binX .neq .no r8.1 (.int .i64 0)) |> bo fun t12 =>
  brX t12
   (
    retK m.length r8.2 [t0] r8.1)
   (
    (C_impl_Screen_formOk [r1.1] r8.2) |> bo fun r10 =>
    (C_impl_unless [r10.1, (.int .i64 1)] r10.2) |> bo fun r11 =>
    retK m.length r11.2 [t0] r11.1)
 | _, _ => none
noncomputable def C_impl_ScreenFault : List Value → Mem → Option VM := fcall X_impl_ScreenFault
@[simp] theorem c_impl_ScreenFault : C_impl_ScreenFault = fcall X_impl_ScreenFault := (rfl)
theorem cok_impl_ScreenFault : codeOk CT Try.f37 (Try.f37.body.get rfl) = true := by kernel_rfl
theorem xe_impl_ScreenFault (t0 : Value) (m : Mem) : ex CT cf_impl_ScreenFault Try.f37 1 m.length [] (fun _ _ _ => none) 400 [.code (Try.f37.body.get rfl)] (argsT 0 [t0]) m = X_impl_ScreenFault [t0] m := by kernel_rfl
theorem okc_impl_ScreenFault : CallOK CT cf_impl_ScreenFault := cfc_ok ok_C_impl_first (cfc_ok ok_C_impl_unless (cfc_ok ok_C_impl_GridFault (cfc_ok ok_C_impl_Screen_rangeOk (cfc_ok ok_C_impl_Screen_formOk cfn_ok))))
theorem ok_X_impl_ScreenFault : OkX CT 37 X_impl_ScreenFault := OkX.of_ex (cf := cf_impl_ScreenFault) (np := 1) (LL := []) (J := (fun _ _ _ _ => none)) CT_ok rfl Try.func37 rfl (Nat.le_of_ble_eq_true rfl) (by decide) cok_impl_ScreenFault okc_impl_ScreenFault (fun k => noLoops rfl) (fun args m r h => match args, h with
  | [t0], h => ⟨rfl, (xe_impl_ScreenFault t0 m).trans h⟩)
theorem ok_C_impl_ScreenFault : OkC CT 37 C_impl_ScreenFault := fcall_ok rfl ok_X_impl_ScreenFault
noncomputable def cf_impl_VtFault : CallF := cfc 34 C_impl_first (cfc 35 C_impl_DecoderFault (cfc 36 C_impl_ParserFault (cfc 37 C_impl_ScreenFault cfn)))
noncomputable def X_impl_VtFault : List Value → Mem → Option VM
 | [t0], m =>
  (boxX m t0) |> bo fun r1 =>
  (fadX 0 r1.1) |> bo fun t3 =>
  (ldS r1.2 3 t3) |> bo fun t4 =>
  (C_impl_DecoderFault [t4] r1.2) |> bo fun r4 =>
  (fadX 3 r1.1) |> bo fun t6 =>
  (ldS r4.2 4 t6) |> bo fun t7 =>
  (C_impl_ParserFault [t7] r4.2) |> bo fun r7 =>
  (fadX 7 r1.1) |> bo fun t9 =>
  (ldS r7.2 20 t9) |> bo fun t10 =>
  (C_impl_ScreenFault [t10] r7.2) |> bo fun r10 =>
  (bslX r10.2 3 1 [.int .i64 0] [(0, 1, r4.1), (1, 1, r7.1), (2, 1, r10.1)]) |> bo fun r11 =>
  (C_impl_first [r11.1] r11.2) |> bo fun r12 =>
  gP (stbL [((rdN t6), r1.2, r4.2), ((rdN t9), r1.2, r4.2), ((rdN t9), r4.2, r7.2)])
   (
    retK m.length r12.2 [t0] r12.1)
 | _, _ => none
noncomputable def C_impl_VtFault : List Value → Mem → Option VM := fcall X_impl_VtFault
@[simp] theorem c_impl_VtFault : C_impl_VtFault = fcall X_impl_VtFault := (rfl)
theorem cok_impl_VtFault : codeOk CT Try.f17 (Try.f17.body.get rfl) = true := by kernel_rfl
theorem xe_impl_VtFault (t0 : Value) (m : Mem) : ex CT cf_impl_VtFault Try.f17 1 m.length [] (fun _ _ _ => none) 400 [.code (Try.f17.body.get rfl)] (argsT 0 [t0]) m = X_impl_VtFault [t0] m := by kernel_rfl
theorem okc_impl_VtFault : CallOK CT cf_impl_VtFault := cfc_ok ok_C_impl_first (cfc_ok ok_C_impl_DecoderFault (cfc_ok ok_C_impl_ParserFault (cfc_ok ok_C_impl_ScreenFault cfn_ok)))
theorem ok_X_impl_VtFault : OkX CT 17 X_impl_VtFault := OkX.of_ex (cf := cf_impl_VtFault) (np := 1) (LL := []) (J := (fun _ _ _ _ => none)) CT_ok rfl Try.func17 rfl (Nat.le_of_ble_eq_true rfl) (by decide) cok_impl_VtFault okc_impl_VtFault (fun k => noLoops rfl) (fun args m r h => match args, h with
  | [t0], h => ⟨rfl, (xe_impl_VtFault t0 m).trans h⟩)
theorem ok_C_impl_VtFault : OkC CT 17 C_impl_VtFault := fcall_ok rfl ok_X_impl_VtFault
noncomputable def cf_strings_Builder_WriteString : CallF := cfn
noncomputable def X_strings_Builder_WriteString : List Value → Mem → Option VM
 | [t0, t1], m =>
  none
 | _, _ => none
noncomputable def C_strings_Builder_WriteString : List Value → Mem → Option VM := rcall X_strings_Builder_WriteString
@[simp] theorem c_strings_Builder_WriteString : C_strings_Builder_WriteString = rcall X_strings_Builder_WriteString := (rfl)
theorem cok_strings_Builder_WriteString : codeOk CT Try.f18 (Try.f18.body.get rfl) = true := by kernel_rfl
theorem xe_strings_Builder_WriteString (t0 t1 : Value) (m : Mem) : ex CT cf_strings_Builder_WriteString Try.f18 2 m.length [] (fun _ _ _ => none) 400 [.code (Try.f18.body.get rfl)] (argsT 0 [t0, t1]) m = X_strings_Builder_WriteString [t0, t1] m := by kernel_rfl
theorem okc_strings_Builder_WriteString : CallOK CT cf_strings_Builder_WriteString := cfn_ok
theorem ok_X_strings_Builder_WriteString : OkX CT 18 X_strings_Builder_WriteString := OkX.of_ex (cf := cf_strings_Builder_WriteString) (np := 2) (LL := []) (J := (fun _ _ _ _ => none)) CT_ok rfl Try.func18 rfl (Nat.le_of_ble_eq_true rfl) (by decide) cok_strings_Builder_WriteString okc_strings_Builder_WriteString (fun k => noLoops rfl) (fun args m r h => match args, h with
  | [t0, t1], h => ⟨rfl, (xe_strings_Builder_WriteString t0 t1 m).trans h⟩)
theorem ok_C_strings_Builder_WriteString : OkC CT 18 C_strings_Builder_WriteString := rcall_ok rfl ok_X_strings_Builder_WriteString
noncomputable def cf_impl_encode : CallF := cfn
noncomputable def X_impl_encode : List Value → Mem → Option VM
 | [t0], m =>
  (binX .lss .no t0 (.int .i64 128)) |> bo fun t5 =>
  brX t5
   (
    (cvI .u8 t0) |> bo fun t7 =>
    (bslX m 1 1 [.int .u8 0] [(0, 1, t7)]) |> bo fun r3 =>
    retK m.length r3.2 [t0] r3.1)
   (
    (binX .lss .no t0 (.int .i64 2048)) |> bo fun t11 =>
    brX t11
     (
      (binX .shr .no t0 (.int .u64 6)) |> bo fun t13 =>
      (binX .add .no (.int .i64 192) t13) |> bo fun t14 =>
      (cvI .u8 t14) |> bo fun t15 =>
      (binX .and .no t0 (.int .i64 63)) |> bo fun t17 =>
      (binX .add .no (.int .i64 128) t17) |> bo fun t18 =>
      (cvI .u8 t18) |> bo fun t19 =>
      (bslX m 2 1 [.int .u8 0] [(0, 1, t15), (1, 1, t19)]) |> bo fun r11 =>
      retK m.length r11.2 [t0] r11.1)
     (
      (binX .shr .no t0 (.int .u64 12)) |> bo fun t22 =>
      (binX .add .no (.int .i64 224) t22) |> bo fun t23 =>
      (cvI .u8 t23) |> bo fun t24 =>
      (binX .shr .no t0 (.int .u64 6)) |> bo fun t26 =>
      (binX .and .no t26 (.int .i64 63)) |> bo fun t27 =>
      (binX .add .no (.int .i64 128) t27) |> bo fun t28 =>
      (cvI .u8 t28) |> bo fun t29 =>
      (binX .and .no t0 (.int .i64 63)) |> bo fun t31 =>
      (binX .add .no (.int .i64 128) t31) |> bo fun t32 =>
      (cvI .u8 t32) |> bo fun t33 =>
      (bslX m 3 1 [.int .u8 0] [(0, 1, t24), (1, 1, t29), (2, 1, t33)]) |> bo fun r22 =>
      retK m.length r22.2 [t0] r22.1))
 | _, _ => none
noncomputable def C_impl_encode : List Value → Mem → Option VM := fcall X_impl_encode
@[simp] theorem c_impl_encode : C_impl_encode = fcall X_impl_encode := (rfl)
theorem cok_impl_encode : codeOk CT Try.f39 (Try.f39.body.get rfl) = true := by kernel_rfl
theorem xe_impl_encode (t0 : Value) (m : Mem) : ex CT cf_impl_encode Try.f39 1 m.length [] (fun _ _ _ => none) 400 [.code (Try.f39.body.get rfl)] (argsT 0 [t0]) m = X_impl_encode [t0] m := by kernel_rfl
theorem okc_impl_encode : CallOK CT cf_impl_encode := cfn_ok
theorem ok_X_impl_encode : OkX CT 39 X_impl_encode := OkX.of_ex (cf := cf_impl_encode) (np := 1) (LL := []) (J := (fun _ _ _ _ => none)) CT_ok rfl Try.func39 rfl (Nat.le_of_ble_eq_true rfl) (by decide) cok_impl_encode okc_impl_encode (fun k => noLoops rfl) (fun args m r h => match args, h with
  | [t0], h => ⟨rfl, (xe_impl_encode t0 m).trans h⟩)
theorem ok_C_impl_encode : OkC CT 39 C_impl_encode := fcall_ok rfl ok_X_impl_encode
noncomputable def cf_impl_Screen_rowText : CallF := cfc 39 C_impl_encode cfn
noncomputable def L_impl_Screen_rowText (k : Nat) : Nat → Nat → List Value → Mem → Option VM
 | q + 1, 0, [t5, t29, t30, t31], m =>
  (binX .lss .no t31 t30) |> bo fun t32 =>
  brX t32
   (
    (ixaX 2 t29 t31) |> bo fun t33 =>
    (ldS m 2 t33) |> bo fun t34 =>
    (alX m [.int .i64 0, .int .i64 0]) |> bo fun r4 =>
    (stX r4.2 2 r4.1 t34) |> bo fun m5 =>
    (fadX 0 r4.1) |> bo fun t36 =>
    (ld1 m5 t36) |> bo fun t37 =>
    (C_impl_encode [t37] m5) |> bo fun r8 =>
    (apL r8.2 1 1 t5 r8.1) |> bo fun r9 =>
    (binX .add .no t31 (.int .i64 1)) |> bo fun t40 =>
    cutK k r9.2 [] [r9.1, t29, t30, t40] (L_impl_Screen_rowText k q 0))
   (
    (cvBS m t5) |> bo fun t42 =>
    retK k m [] t42)
 | _, _, _, _ => none
noncomputable def J_impl_Screen_rowText (k q l : Nat) : List Value → Mem → Option VM := cond (Nat.beq l 3) (L_impl_Screen_rowText k q 0) (fun _ _ => none)
def LL_impl_Screen_rowText : List (Nat × List Tmp) := [(3, [5, 29, 30, 31])]
noncomputable def X_impl_Screen_rowText : List Value → Mem → Option VM
 | [t0, t1], m =>
  (bslX m 0 1 [.int .u8 0] []) |> bo fun r1 =>
  (nilX t0) |> bo fun t10 =>
  (fadX 0 t10) |> bo fun t11 =>
  (fadX 2 t11) |> bo fun t12 =>
  (ld1 r1.2 t12) |> bo fun t13 =>
  (nilX t0) |> bo fun t16 =>
  (fadX 0 t16) |> bo fun t17 =>
  (fadX 1 t17) |> bo fun t18 =>
  (ld1 r1.2 t18) |> bo fun t19 =>
  (binX .mul .no t1 t19) |> bo fun t20 =>
  (binX .add .no t1 (.int .i64 1)) |> bo fun t22 =>
  (nilX t0) |> bo fun t24 =>
  (fadX 0 t24) |> bo fun t25 =>
  (fadX 1 t25) |> bo fun t26 =>
  (ld1 r1.2 t26) |> bo fun t27 =>
  (binX .mul .no t22 t27) |> bo fun t28 =>
  (slX r1.2 2 t13 (some t20) (some t28)) |> bo fun t29 =>
  (lenX t29) |> bo fun t30 =>
  cutK m.length r1.2 [t0, t1] [r1.1, t29, t30, (.int .i64 0)] (L_impl_Screen_rowText m.length QQ 0)
 | _, _ => none
noncomputable def C_impl_Screen_rowText : List Value → Mem → Option VM := fcall X_impl_Screen_rowText
@[simp] theorem c_impl_Screen_rowText : C_impl_Screen_rowText = fcall X_impl_Screen_rowText := (rfl)
theorem cok_impl_Screen_rowText : codeOk CT Try.f19 (Try.f19.body.get rfl) = true := by kernel_rfl
theorem xe_impl_Screen_rowText (t0 t1 : Value) (m : Mem) : ex CT cf_impl_Screen_rowText Try.f19 2 m.length LL_impl_Screen_rowText (J_impl_Screen_rowText m.length QQ) 400 [.code (Try.f19.body.get rfl)] (argsT 0 [t0, t1]) m = X_impl_Screen_rowText [t0, t1] m := by kernel_rfl
theorem okc_impl_Screen_rowText : CallOK CT cf_impl_Screen_rowText := cfc_ok ok_C_impl_encode cfn_ok
theorem le_impl_Screen_rowText_0 (k q : Nat) (t5 t29 t30 t31 : Value) (m : Mem) : ex CT cf_impl_Screen_rowText Try.f19 2 k LL_impl_Screen_rowText (J_impl_Screen_rowText k q) 400 (atLoop Try.f19 0) [(5, t5), (29, t29), (30, t30), (31, t31)] m = J_impl_Screen_rowText k (q + 1) 3 [t5, t29, t30, t31] m := by kernel_rfl
theorem gl_impl_Screen_rowText (k : Nat) : ∀ q i, i < 1 → GoodL CT k Try.f19 LL_impl_Screen_rowText (J_impl_Screen_rowText k q) (atLoop Try.f19 i)
 | 0, 0, _ => goodL_zero (l := 3) (by kernel_rfl) (fun vs m => by kernel_rfl)
 | 0, _ + 1, h => absurd h (by omega)
 | q + 1, 0, _ => goodL_succ (np := 2) (l := 3) (live := [5, 29, 30, 31]) (n := 1) CT_ok rfl okc_impl_Screen_rowText (c := (Try.f19.body.get rfl)) rfl cok_impl_Screen_rowText (by kernel_rfl) (gl_impl_Screen_rowText k q) (by kernel_rfl) rfl (fun vs m r hl h => match vs, hl with
  | [t5, t29, t30, t31], _ => (le_impl_Screen_rowText_0 k q t5 t29 t30 t31 m).trans h)
 | _ + 1, _ + 1, h => absurd h (by omega)
theorem ok_X_impl_Screen_rowText : OkX CT 19 X_impl_Screen_rowText := OkX.of_ex (cf := cf_impl_Screen_rowText) (np := 2) (LL := LL_impl_Screen_rowText) (J := (fun k => J_impl_Screen_rowText k QQ)) CT_ok rfl Try.func19 rfl (Nat.le_of_ble_eq_true rfl) (by decide) cok_impl_Screen_rowText okc_impl_Screen_rowText (fun k => allLoops rfl (by kernel_rfl) (gl_impl_Screen_rowText k QQ)) (fun args m r h => match args, h with
  | [t0, t1], h => ⟨rfl, (xe_impl_Screen_rowText t0 t1 m).trans h⟩)
theorem ok_C_impl_Screen_rowText : OkC CT 19 C_impl_Screen_rowText := fcall_ok rfl ok_X_impl_Screen_rowText
noncomputable def cf_strings_Builder_String : CallF := cfn
noncomputable def X_strings_Builder_String : List Value → Mem → Option VM
 | [t0], m =>
  (nilX t0) |> bo fun t4 =>
  (fadX 1 t4) |> bo fun t5 =>
  (ld1 m t5) |> bo fun t6 =>
  none
 | _, _ => none
noncomputable def C_strings_Builder_String : List Value → Mem → Option VM := fcall X_strings_Builder_String
@[simp] theorem c_strings_Builder_String : C_strings_Builder_String = fcall X_strings_Builder_String := (rfl)
theorem cok_strings_Builder_String : codeOk CT Try.f20 (Try.f20.body.get rfl) = true := by kernel_rfl
theorem xe_strings_Builder_String (t0 : Value) (m : Mem) : ex CT cf_strings_Builder_String Try.f20 1 m.length [] (fun _ _ _ => none) 400 [.code (Try.f20.body.get rfl)] (argsT 0 [t0]) m = X_strings_Builder_String [t0] m := by kernel_rfl
theorem okc_strings_Builder_String : CallOK CT cf_strings_Builder_String := cfn_ok
theorem ok_X_strings_Builder_String : OkX CT 20 X_strings_Builder_String := OkX.of_ex (cf := cf_strings_Builder_String) (np := 1) (LL := []) (J := (fun _ _ _ _ => none)) CT_ok rfl Try.func20 rfl (Nat.le_of_ble_eq_true rfl) (by decide) cok_strings_Builder_String okc_strings_Builder_String (fun k => noLoops rfl) (fun args m r h => match args, h with
  | [t0], h => ⟨rfl, (xe_strings_Builder_String t0 m).trans h⟩)
theorem ok_C_strings_Builder_String : OkC CT 20 C_strings_Builder_String := fcall_ok rfl ok_X_strings_Builder_String
noncomputable def cf_laws_eqTextResult : CallF := cfn
noncomputable def X_laws_eqTextResult : List Value → Mem → Option VM
 | [t0, t1], m =>
  (boxX m t0) |> bo fun r1 =>
  (boxX r1.2 t1) |> bo fun r2 =>
  (fadX 0 r1.1) |> bo fun t5 =>
  (ld1 r2.2 t5) |> bo fun t6 =>
  (fadX 0 r2.1) |> bo fun t7 =>
  (ld1 r2.2 t7) |> bo fun t8 =>
  (binX .neq .no t6 t8) |> bo fun t9 =>
  brX t9
   (
    retK m.length r2.2 [t0, t1] (.bool false))
   (
    (fadX 1 r1.1) |> bo fun t10 =>
    (ld1 r2.2 t10) |> bo fun t11 =>
    (fadX 1 r2.1) |> bo fun t12 =>
    (ld1 r2.2 t12) |> bo fun t13 =>
    (binX .neq .no t11 t13) |> bo fun t14 =>
    brX t14
     (
      retK m.length r2.2 [t0, t1] (.bool false))
     (
      retK m.length r2.2 [t0, t1] (.bool true)))
 | _, _ => none
noncomputable def C_laws_eqTextResult : List Value → Mem → Option VM := fcall X_laws_eqTextResult
@[simp] theorem c_laws_eqTextResult : C_laws_eqTextResult = fcall X_laws_eqTextResult := (rfl)
theorem cok_laws_eqTextResult : codeOk CT Try.f8 (Try.f8.body.get rfl) = true := by kernel_rfl
theorem xe_laws_eqTextResult (t0 t1 : Value) (m : Mem) : ex CT cf_laws_eqTextResult Try.f8 2 m.length [] (fun _ _ _ => none) 400 [.code (Try.f8.body.get rfl)] (argsT 0 [t0, t1]) m = X_laws_eqTextResult [t0, t1] m := by kernel_rfl
theorem okc_laws_eqTextResult : CallOK CT cf_laws_eqTextResult := cfn_ok
theorem ok_X_laws_eqTextResult : OkX CT 8 X_laws_eqTextResult := OkX.of_ex (cf := cf_laws_eqTextResult) (np := 2) (LL := []) (J := (fun _ _ _ _ => none)) CT_ok rfl Try.func8 rfl (Nat.le_of_ble_eq_true rfl) (by decide) cok_laws_eqTextResult okc_laws_eqTextResult (fun k => noLoops rfl) (fun args m r h => match args, h with
  | [t0, t1], h => ⟨rfl, (xe_laws_eqTextResult t0 t1 m).trans h⟩)
theorem ok_C_laws_eqTextResult : OkC CT 8 C_laws_eqTextResult := fcall_ok rfl ok_X_laws_eqTextResult
noncomputable def cf_laws_eqDecoder : CallF := cfn
noncomputable def X_laws_eqDecoder : List Value → Mem → Option VM
 | [t0, t1], m =>
  (boxX m t0) |> bo fun r1 =>
  (boxX r1.2 t1) |> bo fun r2 =>
  (fadX 0 r1.1) |> bo fun t5 =>
  (ld1 r2.2 t5) |> bo fun t6 =>
  (fadX 0 r2.1) |> bo fun t7 =>
  (ld1 r2.2 t7) |> bo fun t8 =>
  (binX .neq .no t6 t8) |> bo fun t9 =>
  brX t9
   (
    retK m.length r2.2 [t0, t1] (.bool false))
   (
    (fadX 1 r1.1) |> bo fun t10 =>
    (ld1 r2.2 t10) |> bo fun t11 =>
    (fadX 1 r2.1) |> bo fun t12 =>
    (ld1 r2.2 t12) |> bo fun t13 =>
    (binX .neq .no t11 t13) |> bo fun t14 =>
    brX t14
     (
      retK m.length r2.2 [t0, t1] (.bool false))
     (
      (fadX 2 r1.1) |> bo fun t15 =>
      (ld1 r2.2 t15) |> bo fun t16 =>
      (fadX 2 r2.1) |> bo fun t17 =>
      (ld1 r2.2 t17) |> bo fun t18 =>
      (binX .neq .no t16 t18) |> bo fun t19 =>
      brX t19
       (
        retK m.length r2.2 [t0, t1] (.bool false))
       (
        retK m.length r2.2 [t0, t1] (.bool true))))
 | _, _ => none
noncomputable def C_laws_eqDecoder : List Value → Mem → Option VM := fcall X_laws_eqDecoder
@[simp] theorem c_laws_eqDecoder : C_laws_eqDecoder = fcall X_laws_eqDecoder := (rfl)
theorem cok_laws_eqDecoder : codeOk CT Try.f21 (Try.f21.body.get rfl) = true := by kernel_rfl
theorem xe_laws_eqDecoder (t0 t1 : Value) (m : Mem) : ex CT cf_laws_eqDecoder Try.f21 2 m.length [] (fun _ _ _ => none) 400 [.code (Try.f21.body.get rfl)] (argsT 0 [t0, t1]) m = X_laws_eqDecoder [t0, t1] m := by kernel_rfl
theorem okc_laws_eqDecoder : CallOK CT cf_laws_eqDecoder := cfn_ok
theorem ok_X_laws_eqDecoder : OkX CT 21 X_laws_eqDecoder := OkX.of_ex (cf := cf_laws_eqDecoder) (np := 2) (LL := []) (J := (fun _ _ _ _ => none)) CT_ok rfl Try.func21 rfl (Nat.le_of_ble_eq_true rfl) (by decide) cok_laws_eqDecoder okc_laws_eqDecoder (fun k => noLoops rfl) (fun args m r h => match args, h with
  | [t0, t1], h => ⟨rfl, (xe_laws_eqDecoder t0 t1 m).trans h⟩)
theorem ok_C_laws_eqDecoder : OkC CT 21 C_laws_eqDecoder := fcall_ok rfl ok_X_laws_eqDecoder
noncomputable def cf_laws_eqInt64S : CallF := cfn
noncomputable def L_laws_eqInt64S (k : Nat) : Nat → Nat → List Value → Mem → Option VM
 | q + 1, 0, [t0, t1, t5], m =>
  (lenX t0) |> bo fun t13 =>
  (binX .lss .no t5 t13) |> bo fun t14 =>
  brX t14
   (
    (ixaX 1 t0 t5) |> bo fun t19 =>
    (ld1 m t19) |> bo fun t20 =>
    (ixaX 1 t1 t5) |> bo fun t23 =>
    (ld1 m t23) |> bo fun t24 =>
    (binX .neq .no t20 t24) |> bo fun t25 =>
    brX t25
     (
      retK k m [t0, t1] (.bool false))
     (
      (binX .add .no t5 (.int .i64 1)) |> bo fun t16 =>
      cutK k m [t0, t1] [t0, t1, t16] (L_laws_eqInt64S k q 0)))
   (
    retK k m [t0, t1] (.bool true))
 | _, _, _, _ => none
noncomputable def J_laws_eqInt64S (k q l : Nat) : List Value → Mem → Option VM := cond (Nat.beq l 4) (L_laws_eqInt64S k q 0) (fun _ _ => none)
def LL_laws_eqInt64S : List (Nat × List Tmp) := [(4, [0, 1, 5])]
noncomputable def X_laws_eqInt64S : List Value → Mem → Option VM
 | [t0, t1], m =>
  (lenX t0) |> bo fun t7 =>
  (lenX t1) |> bo fun t9 =>
  (binX .neq .no t7 t9) |> bo fun t10 =>
  brX t10
   (
    retK m.length m [t0, t1] (.bool false))
   (
    cutK m.length m [t0, t1] [t0, t1, (.int .i64 0)] (L_laws_eqInt64S m.length QQ 0))
 | _, _ => none
noncomputable def C_laws_eqInt64S : List Value → Mem → Option VM := fcall X_laws_eqInt64S
@[simp] theorem c_laws_eqInt64S : C_laws_eqInt64S = fcall X_laws_eqInt64S := (rfl)
theorem cok_laws_eqInt64S : codeOk CT Try.f40 (Try.f40.body.get rfl) = true := by kernel_rfl
theorem xe_laws_eqInt64S (t0 t1 : Value) (m : Mem) : ex CT cf_laws_eqInt64S Try.f40 2 m.length LL_laws_eqInt64S (J_laws_eqInt64S m.length QQ) 400 [.code (Try.f40.body.get rfl)] (argsT 0 [t0, t1]) m = X_laws_eqInt64S [t0, t1] m := by kernel_rfl
theorem okc_laws_eqInt64S : CallOK CT cf_laws_eqInt64S := cfn_ok
theorem le_laws_eqInt64S_0 (k q : Nat) (t0 t1 t5 : Value) (m : Mem) : ex CT cf_laws_eqInt64S Try.f40 2 k LL_laws_eqInt64S (J_laws_eqInt64S k q) 400 (atLoop Try.f40 0) [(0, t0), (1, t1), (5, t5)] m = J_laws_eqInt64S k (q + 1) 4 [t0, t1, t5] m := by kernel_rfl
theorem gl_laws_eqInt64S (k : Nat) : ∀ q i, i < 1 → GoodL CT k Try.f40 LL_laws_eqInt64S (J_laws_eqInt64S k q) (atLoop Try.f40 i)
 | 0, 0, _ => goodL_zero (l := 4) (by kernel_rfl) (fun vs m => by kernel_rfl)
 | 0, _ + 1, h => absurd h (by omega)
 | q + 1, 0, _ => goodL_succ (np := 2) (l := 4) (live := [0, 1, 5]) (n := 1) CT_ok rfl okc_laws_eqInt64S (c := (Try.f40.body.get rfl)) rfl cok_laws_eqInt64S (by kernel_rfl) (gl_laws_eqInt64S k q) (by kernel_rfl) rfl (fun vs m r hl h => match vs, hl with
  | [t0, t1, t5], _ => (le_laws_eqInt64S_0 k q t0 t1 t5 m).trans h)
 | _ + 1, _ + 1, h => absurd h (by omega)
theorem ok_X_laws_eqInt64S : OkX CT 40 X_laws_eqInt64S := OkX.of_ex (cf := cf_laws_eqInt64S) (np := 2) (LL := LL_laws_eqInt64S) (J := (fun k => J_laws_eqInt64S k QQ)) CT_ok rfl Try.func40 rfl (Nat.le_of_ble_eq_true rfl) (by decide) cok_laws_eqInt64S okc_laws_eqInt64S (fun k => allLoops rfl (by kernel_rfl) (gl_laws_eqInt64S k QQ)) (fun args m r h => match args, h with
  | [t0, t1], h => ⟨rfl, (xe_laws_eqInt64S t0 t1 m).trans h⟩)
theorem ok_C_laws_eqInt64S : OkC CT 40 C_laws_eqInt64S := fcall_ok rfl ok_X_laws_eqInt64S
noncomputable def cf_laws_eqParser : CallF := cfc 40 C_laws_eqInt64S cfn
noncomputable def X_laws_eqParser : List Value → Mem → Option VM
 | [t0, t1], m =>
  (boxX m t0) |> bo fun r1 =>
  (boxX r1.2 t1) |> bo fun r2 =>
  (fadX 0 r1.1) |> bo fun t5 =>
  (ld1 r2.2 t5) |> bo fun t6 =>
  (fadX 0 r2.1) |> bo fun t7 =>
  (ld1 r2.2 t7) |> bo fun t8 =>
  (binX .neq .no t6 t8) |> bo fun t9 =>
  brX t9
   (
    retK m.length r2.2 [t0, t1] (.bool false))
   (
    (fadX 1 r1.1) |> bo fun t10 =>
    (ld1 r2.2 t10) |> bo fun t11 =>
    (fadX 1 r2.1) |> bo fun t12 =>
    (ld1 r2.2 t12) |> bo fun t13 =>
    (binX .neq .no t11 t13) |> bo fun t14 =>
    brX t14
     (
      retK m.length r2.2 [t0, t1] (.bool false))
     (
      (fadX 2 r1.1) |> bo fun t15 =>
      (ld1 r2.2 t15) |> bo fun t16 =>
      (fadX 2 r2.1) |> bo fun t17 =>
      (ld1 r2.2 t17) |> bo fun t18 =>
      (binX .neq .bool t16 t18) |> bo fun t19 =>
      brX t19
       (
        retK m.length r2.2 [t0, t1] (.bool false))
       (
        (fadX 3 r1.1) |> bo fun t20 =>
        (ld1 r2.2 t20) |> bo fun t21 =>
        (fadX 3 r2.1) |> bo fun t22 =>
        (ld1 r2.2 t22) |> bo fun t23 =>
        (C_laws_eqInt64S [t21, t23] r2.2) |> bo fun r22 =>
        (uop .not r22.1) |> bo fun t25 =>
        brX t25
         (
          retK m.length r22.2 [t0, t1] (.bool false))
         (
          retK m.length r22.2 [t0, t1] (.bool true)))))
 | _, _ => none
noncomputable def C_laws_eqParser : List Value → Mem → Option VM := fcall X_laws_eqParser
@[simp] theorem c_laws_eqParser : C_laws_eqParser = fcall X_laws_eqParser := (rfl)
theorem cok_laws_eqParser : codeOk CT Try.f22 (Try.f22.body.get rfl) = true := by kernel_rfl
theorem xe_laws_eqParser (t0 t1 : Value) (m : Mem) : ex CT cf_laws_eqParser Try.f22 2 m.length [] (fun _ _ _ => none) 400 [.code (Try.f22.body.get rfl)] (argsT 0 [t0, t1]) m = X_laws_eqParser [t0, t1] m := by kernel_rfl
theorem okc_laws_eqParser : CallOK CT cf_laws_eqParser := cfc_ok ok_C_laws_eqInt64S cfn_ok
theorem ok_X_laws_eqParser : OkX CT 22 X_laws_eqParser := OkX.of_ex (cf := cf_laws_eqParser) (np := 2) (LL := []) (J := (fun _ _ _ _ => none)) CT_ok rfl Try.func22 rfl (Nat.le_of_ble_eq_true rfl) (by decide) cok_laws_eqParser okc_laws_eqParser (fun k => noLoops rfl) (fun args m r h => match args, h with
  | [t0, t1], h => ⟨rfl, (xe_laws_eqParser t0 t1 m).trans h⟩)
theorem ok_C_laws_eqParser : OkC CT 22 C_laws_eqParser := fcall_ok rfl ok_X_laws_eqParser
noncomputable def cf_laws_eqCell : CallF := cfn
noncomputable def X_laws_eqCell : List Value → Mem → Option VM
 | [t0, t1], m =>
  (boxX m t0) |> bo fun r1 =>
  (boxX r1.2 t1) |> bo fun r2 =>
  (fadX 0 r1.1) |> bo fun t5 =>
  (ld1 r2.2 t5) |> bo fun t6 =>
  (fadX 0 r2.1) |> bo fun t7 =>
  (ld1 r2.2 t7) |> bo fun t8 =>
  (binX .neq .no t6 t8) |> bo fun t9 =>
  brX t9
   (
    retK m.length r2.2 [t0, t1] (.bool false))
   (
    (fadX 1 r1.1) |> bo fun t10 =>
    (ld1 r2.2 t10) |> bo fun t11 =>
    (fadX 1 r2.1) |> bo fun t12 =>
    (ld1 r2.2 t12) |> bo fun t13 =>
    (binX .neq .no t11 t13) |> bo fun t14 =>
    brX t14
     (
      retK m.length r2.2 [t0, t1] (.bool false))
     (
      retK m.length r2.2 [t0, t1] (.bool true)))
 | _, _ => none
noncomputable def C_laws_eqCell : List Value → Mem → Option VM := fcall X_laws_eqCell
@[simp] theorem c_laws_eqCell : C_laws_eqCell = fcall X_laws_eqCell := (rfl)
theorem cok_laws_eqCell : codeOk CT Try.f80 (Try.f80.body.get rfl) = true := by kernel_rfl
theorem xe_laws_eqCell (t0 t1 : Value) (m : Mem) : ex CT cf_laws_eqCell Try.f80 2 m.length [] (fun _ _ _ => none) 400 [.code (Try.f80.body.get rfl)] (argsT 0 [t0, t1]) m = X_laws_eqCell [t0, t1] m := by kernel_rfl
theorem okc_laws_eqCell : CallOK CT cf_laws_eqCell := cfn_ok
theorem ok_X_laws_eqCell : OkX CT 80 X_laws_eqCell := OkX.of_ex (cf := cf_laws_eqCell) (np := 2) (LL := []) (J := (fun _ _ _ _ => none)) CT_ok rfl Try.func80 rfl (Nat.le_of_ble_eq_true rfl) (by decide) cok_laws_eqCell okc_laws_eqCell (fun k => noLoops rfl) (fun args m r h => match args, h with
  | [t0, t1], h => ⟨rfl, (xe_laws_eqCell t0 t1 m).trans h⟩)
theorem ok_C_laws_eqCell : OkC CT 80 C_laws_eqCell := fcall_ok rfl ok_X_laws_eqCell
noncomputable def cf_laws_eqCellS : CallF := cfc 80 C_laws_eqCell cfn
noncomputable def L_laws_eqCellS (k : Nat) : Nat → Nat → List Value → Mem → Option VM
 | q + 1, 0, [t0, t1, t5], m =>
  (lenX t0) |> bo fun t13 =>
  (binX .lss .no t5 t13) |> bo fun t14 =>
  brX t14
   (
    (ixaX 2 t0 t5) |> bo fun t19 =>
    (ldS m 2 t19) |> bo fun t20 =>
    (ixaX 2 t1 t5) |> bo fun t23 =>
    (ldS m 2 t23) |> bo fun t24 =>
    (C_laws_eqCell [t20, t24] m) |> bo fun r7 =>
    (uop .not r7.1) |> bo fun t26 =>
    brX t26
     (
      retK k r7.2 [t0, t1] (.bool false))
     (
      (binX .add .no t5 (.int .i64 1)) |> bo fun t16 =>
      cutK k r7.2 [t0, t1] [t0, t1, t16] (L_laws_eqCellS k q 0)))
   (
    retK k m [t0, t1] (.bool true))
 | _, _, _, _ => none
noncomputable def J_laws_eqCellS (k q l : Nat) : List Value → Mem → Option VM := cond (Nat.beq l 4) (L_laws_eqCellS k q 0) (fun _ _ => none)
def LL_laws_eqCellS : List (Nat × List Tmp) := [(4, [0, 1, 5])]
noncomputable def X_laws_eqCellS : List Value → Mem → Option VM
 | [t0, t1], m =>
  (lenX t0) |> bo fun t7 =>
  (lenX t1) |> bo fun t9 =>
  (binX .neq .no t7 t9) |> bo fun t10 =>
  brX t10
   (
    retK m.length m [t0, t1] (.bool false))
   (
    cutK m.length m [t0, t1] [t0, t1, (.int .i64 0)] (L_laws_eqCellS m.length QQ 0))
 | _, _ => none
noncomputable def C_laws_eqCellS : List Value → Mem → Option VM := fcall X_laws_eqCellS
@[simp] theorem c_laws_eqCellS : C_laws_eqCellS = fcall X_laws_eqCellS := (rfl)
theorem cok_laws_eqCellS : codeOk CT Try.f60 (Try.f60.body.get rfl) = true := by kernel_rfl
theorem xe_laws_eqCellS (t0 t1 : Value) (m : Mem) : ex CT cf_laws_eqCellS Try.f60 2 m.length LL_laws_eqCellS (J_laws_eqCellS m.length QQ) 400 [.code (Try.f60.body.get rfl)] (argsT 0 [t0, t1]) m = X_laws_eqCellS [t0, t1] m := by kernel_rfl
theorem okc_laws_eqCellS : CallOK CT cf_laws_eqCellS := cfc_ok ok_C_laws_eqCell cfn_ok
theorem le_laws_eqCellS_0 (k q : Nat) (t0 t1 t5 : Value) (m : Mem) : ex CT cf_laws_eqCellS Try.f60 2 k LL_laws_eqCellS (J_laws_eqCellS k q) 400 (atLoop Try.f60 0) [(0, t0), (1, t1), (5, t5)] m = J_laws_eqCellS k (q + 1) 4 [t0, t1, t5] m := by kernel_rfl
theorem gl_laws_eqCellS (k : Nat) : ∀ q i, i < 1 → GoodL CT k Try.f60 LL_laws_eqCellS (J_laws_eqCellS k q) (atLoop Try.f60 i)
 | 0, 0, _ => goodL_zero (l := 4) (by kernel_rfl) (fun vs m => by kernel_rfl)
 | 0, _ + 1, h => absurd h (by omega)
 | q + 1, 0, _ => goodL_succ (np := 2) (l := 4) (live := [0, 1, 5]) (n := 1) CT_ok rfl okc_laws_eqCellS (c := (Try.f60.body.get rfl)) rfl cok_laws_eqCellS (by kernel_rfl) (gl_laws_eqCellS k q) (by kernel_rfl) rfl (fun vs m r hl h => match vs, hl with
  | [t0, t1, t5], _ => (le_laws_eqCellS_0 k q t0 t1 t5 m).trans h)
 | _ + 1, _ + 1, h => absurd h (by omega)
theorem ok_X_laws_eqCellS : OkX CT 60 X_laws_eqCellS := OkX.of_ex (cf := cf_laws_eqCellS) (np := 2) (LL := LL_laws_eqCellS) (J := (fun k => J_laws_eqCellS k QQ)) CT_ok rfl Try.func60 rfl (Nat.le_of_ble_eq_true rfl) (by decide) cok_laws_eqCellS okc_laws_eqCellS (fun k => allLoops rfl (by kernel_rfl) (gl_laws_eqCellS k QQ)) (fun args m r h => match args, h with
  | [t0, t1], h => ⟨rfl, (xe_laws_eqCellS t0 t1 m).trans h⟩)
theorem ok_C_laws_eqCellS : OkC CT 60 C_laws_eqCellS := fcall_ok rfl ok_X_laws_eqCellS
noncomputable def cf_laws_eqGrid : CallF := cfc 60 C_laws_eqCellS cfn
noncomputable def X_laws_eqGrid : List Value → Mem → Option VM
 | [t0, t1], m =>
  (boxX m t0) |> bo fun r1 =>
  (boxX r1.2 t1) |> bo fun r2 =>
  (fadX 0 r1.1) |> bo fun t5 =>
  (ld1 r2.2 t5) |> bo fun t6 =>
  (fadX 0 r2.1) |> bo fun t7 =>
  (ld1 r2.2 t7) |> bo fun t8 =>
  (binX .neq .no t6 t8) |> bo fun t9 =>
  brX t9
   (
    retK m.length r2.2 [t0, t1] (.bool false))
   (
    (fadX 1 r1.1) |> bo fun t10 =>
    (ld1 r2.2 t10) |> bo fun t11 =>
    (fadX 1 r2.1) |> bo fun t12 =>
    (ld1 r2.2 t12) |> bo fun t13 =>
    (binX .neq .no t11 t13) |> bo fun t14 =>
    brX t14
     (
      retK m.length r2.2 [t0, t1] (.bool false))
     (
      (fadX 2 r1.1) |> bo fun t15 =>
      (ld1 r2.2 t15) |> bo fun t16 =>
      (fadX 2 r2.1) |> bo fun t17 =>
      (ld1 r2.2 t17) |> bo fun t18 =>
      (C_laws_eqCellS [t16, t18] r2.2) |> bo fun r17 =>
      (uop .not r17.1) |> bo fun t20 =>
      brX t20
       (
        retK m.length r17.2 [t0, t1] (.bool false))
       (
        (fadX 3 r1.1) |> bo fun t21 =>
        (ld1 r17.2 t21) |> bo fun t22 =>
        (fadX 3 r2.1) |> bo fun t23 =>
        (ld1 r17.2 t23) |> bo fun t24 =>
        (C_laws_eqCellS [t22, t24] r17.2) |> bo fun r23 =>
        (uop .not r23.1) |> bo fun t26 =>
        brX t26
         (
          retK m.length r23.2 [t0, t1] (.bool false))
         (
          retK m.length r23.2 [t0, t1] (.bool true)))))
 | _, _ => none
noncomputable def C_laws_eqGrid : List Value → Mem → Option VM := fcall X_laws_eqGrid
@[simp] theorem c_laws_eqGrid : C_laws_eqGrid = fcall X_laws_eqGrid := (rfl)
theorem cok_laws_eqGrid : codeOk CT Try.f41 (Try.f41.body.get rfl) = true := by kernel_rfl
theorem xe_laws_eqGrid (t0 t1 : Value) (m : Mem) : ex CT cf_laws_eqGrid Try.f41 2 m.length [] (fun _ _ _ => none) 400 [.code (Try.f41.body.get rfl)] (argsT 0 [t0, t1]) m = X_laws_eqGrid [t0, t1] m := by kernel_rfl
theorem okc_laws_eqGrid : CallOK CT cf_laws_eqGrid := cfc_ok ok_C_laws_eqCellS cfn_ok
theorem ok_X_laws_eqGrid : OkX CT 41 X_laws_eqGrid := OkX.of_ex (cf := cf_laws_eqGrid) (np := 2) (LL := []) (J := (fun _ _ _ _ => none)) CT_ok rfl Try.func41 rfl (Nat.le_of_ble_eq_true rfl) (by decide) cok_laws_eqGrid okc_laws_eqGrid (fun k => noLoops rfl) (fun args m r h => match args, h with
  | [t0, t1], h => ⟨rfl, (xe_laws_eqGrid t0 t1 m).trans h⟩)
theorem ok_C_laws_eqGrid : OkC CT 41 C_laws_eqGrid := fcall_ok rfl ok_X_laws_eqGrid
noncomputable def cf_laws_eqBoolS : CallF := cfn
noncomputable def L_laws_eqBoolS (k : Nat) : Nat → Nat → List Value → Mem → Option VM
 | q + 1, 0, [t0, t1, t5], m =>
  (lenX t0) |> bo fun t13 =>
  (binX .lss .no t5 t13) |> bo fun t14 =>
  brX t14
   (
    (ixaX 1 t0 t5) |> bo fun t19 =>
    (ld1 m t19) |> bo fun t20 =>
    (ixaX 1 t1 t5) |> bo fun t23 =>
    (ld1 m t23) |> bo fun t24 =>
    (binX .neq .bool t20 t24) |> bo fun t25 =>
    brX t25
     (
      retK k m [t0, t1] (.bool false))
     (
      (binX .add .no t5 (.int .i64 1)) |> bo fun t16 =>
      cutK k m [t0, t1] [t0, t1, t16] (L_laws_eqBoolS k q 0)))
   (
    retK k m [t0, t1] (.bool true))
 | _, _, _, _ => none
noncomputable def J_laws_eqBoolS (k q l : Nat) : List Value → Mem → Option VM := cond (Nat.beq l 4) (L_laws_eqBoolS k q 0) (fun _ _ => none)
def LL_laws_eqBoolS : List (Nat × List Tmp) := [(4, [0, 1, 5])]
noncomputable def X_laws_eqBoolS : List Value → Mem → Option VM
 | [t0, t1], m =>
  (lenX t0) |> bo fun t7 =>
  (lenX t1) |> bo fun t9 =>
  (binX .neq .no t7 t9) |> bo fun t10 =>
  brX t10
   (
    retK m.length m [t0, t1] (.bool false))
   (
    cutK m.length m [t0, t1] [t0, t1, (.int .i64 0)] (L_laws_eqBoolS m.length QQ 0))
 | _, _ => none
noncomputable def C_laws_eqBoolS : List Value → Mem → Option VM := fcall X_laws_eqBoolS
@[simp] theorem c_laws_eqBoolS : C_laws_eqBoolS = fcall X_laws_eqBoolS := (rfl)
theorem cok_laws_eqBoolS : codeOk CT Try.f42 (Try.f42.body.get rfl) = true := by kernel_rfl
theorem xe_laws_eqBoolS (t0 t1 : Value) (m : Mem) : ex CT cf_laws_eqBoolS Try.f42 2 m.length LL_laws_eqBoolS (J_laws_eqBoolS m.length QQ) 400 [.code (Try.f42.body.get rfl)] (argsT 0 [t0, t1]) m = X_laws_eqBoolS [t0, t1] m := by kernel_rfl
theorem okc_laws_eqBoolS : CallOK CT cf_laws_eqBoolS := cfn_ok
theorem le_laws_eqBoolS_0 (k q : Nat) (t0 t1 t5 : Value) (m : Mem) : ex CT cf_laws_eqBoolS Try.f42 2 k LL_laws_eqBoolS (J_laws_eqBoolS k q) 400 (atLoop Try.f42 0) [(0, t0), (1, t1), (5, t5)] m = J_laws_eqBoolS k (q + 1) 4 [t0, t1, t5] m := by kernel_rfl
theorem gl_laws_eqBoolS (k : Nat) : ∀ q i, i < 1 → GoodL CT k Try.f42 LL_laws_eqBoolS (J_laws_eqBoolS k q) (atLoop Try.f42 i)
 | 0, 0, _ => goodL_zero (l := 4) (by kernel_rfl) (fun vs m => by kernel_rfl)
 | 0, _ + 1, h => absurd h (by omega)
 | q + 1, 0, _ => goodL_succ (np := 2) (l := 4) (live := [0, 1, 5]) (n := 1) CT_ok rfl okc_laws_eqBoolS (c := (Try.f42.body.get rfl)) rfl cok_laws_eqBoolS (by kernel_rfl) (gl_laws_eqBoolS k q) (by kernel_rfl) rfl (fun vs m r hl h => match vs, hl with
  | [t0, t1, t5], _ => (le_laws_eqBoolS_0 k q t0 t1 t5 m).trans h)
 | _ + 1, _ + 1, h => absurd h (by omega)
theorem ok_X_laws_eqBoolS : OkX CT 42 X_laws_eqBoolS := OkX.of_ex (cf := cf_laws_eqBoolS) (np := 2) (LL := LL_laws_eqBoolS) (J := (fun k => J_laws_eqBoolS k QQ)) CT_ok rfl Try.func42 rfl (Nat.le_of_ble_eq_true rfl) (by decide) cok_laws_eqBoolS okc_laws_eqBoolS (fun k => allLoops rfl (by kernel_rfl) (gl_laws_eqBoolS k QQ)) (fun args m r h => match args, h with
  | [t0, t1], h => ⟨rfl, (xe_laws_eqBoolS t0 t1 m).trans h⟩)
theorem ok_C_laws_eqBoolS : OkC CT 42 C_laws_eqBoolS := fcall_ok rfl ok_X_laws_eqBoolS
noncomputable def cf_laws_eqScreen : CallF := cfc 40 C_laws_eqInt64S (cfc 41 C_laws_eqGrid (cfc 42 C_laws_eqBoolS cfn))
noncomputable def X_laws_eqScreen : List Value → Mem → Option VM
 | [t0, t1], m =>
  (boxX m t0) |> bo fun r1 =>
  (boxX r1.2 t1) |> bo fun r2 =>
  (fadX 0 r1.1) |> bo fun t5 =>
  (ldS r2.2 4 t5) |> bo fun t6 =>
  (fadX 0 r2.1) |> bo fun t7 =>
  (ldS r2.2 4 t7) |> bo fun t8 =>
  (C_laws_eqGrid [t6, t8] r2.2) |> bo fun r7 =>
  (uop .not r7.1) |> bo fun t10 =>
  brX t10
   (
    retK m.length r7.2 [t0, t1] (.bool false))
   (
    (fadX 4 r1.1) |> bo fun t11 =>
    (ld1 r7.2 t11) |> bo fun t12 =>
    (fadX 4 r2.1) |> bo fun t13 =>
    (ld1 r7.2 t13) |> bo fun t14 =>
    (binX .neq .no t12 t14) |> bo fun t15 =>
    brX t15
     (
      retK m.length r7.2 [t0, t1] (.bool false))
     (
      (fadX 5 r1.1) |> bo fun t16 =>
      (ld1 r7.2 t16) |> bo fun t17 =>
      (fadX 5 r2.1) |> bo fun t18 =>
      (ld1 r7.2 t18) |> bo fun t19 =>
      (binX .neq .no t17 t19) |> bo fun t20 =>
      brX t20
       (
        retK m.length r7.2 [t0, t1] (.bool false))
       (
        (fadX 6 r1.1) |> bo fun t21 =>
        (ld1 r7.2 t21) |> bo fun t22 =>
        (fadX 6 r2.1) |> bo fun t23 =>
        (ld1 r7.2 t23) |> bo fun t24 =>
        (binX .neq .bool t22 t24) |> bo fun t25 =>
        brX t25
         (
          retK m.length r7.2 [t0, t1] (.bool false))
         (
          (fadX 7 r1.1) |> bo fun t26 =>
          (ld1 r7.2 t26) |> bo fun t27 =>
          (fadX 7 r2.1) |> bo fun t28 =>
          (ld1 r7.2 t28) |> bo fun t29 =>
          (binX .neq .no t27 t29) |> bo fun t30 =>
          brX t30
           (
            retK m.length r7.2 [t0, t1] (.bool false))
           (
            (fadX 8 r1.1) |> bo fun t31 =>
            (ld1 r7.2 t31) |> bo fun t32 =>
            (fadX 8 r2.1) |> bo fun t33 =>
            (ld1 r7.2 t33) |> bo fun t34 =>
            (binX .neq .no t32 t34) |> bo fun t35 =>
            brX t35
             (
              retK m.length r7.2 [t0, t1] (.bool false))
             (
              (fadX 9 r1.1) |> bo fun t36 =>
              (ld1 r7.2 t36) |> bo fun t37 =>
              (fadX 9 r2.1) |> bo fun t38 =>
              (ld1 r7.2 t38) |> bo fun t39 =>
              (binX .neq .no t37 t39) |> bo fun t40 =>
              brX t40
               (
                retK m.length r7.2 [t0, t1] (.bool false))
               (
                (fadX 10 r1.1) |> bo fun t41 =>
                (ld1 r7.2 t41) |> bo fun t42 =>
                (fadX 10 r2.1) |> bo fun t43 =>
                (ld1 r7.2 t43) |> bo fun t44 =>
                (binX .neq .bool t42 t44) |> bo fun t45 =>
                brX t45
                 (
                  retK m.length r7.2 [t0, t1] (.bool false))
                 (
                  (fadX 11 r1.1) |> bo fun t46 =>
                  (ld1 r7.2 t46) |> bo fun t47 =>
                  (fadX 11 r2.1) |> bo fun t48 =>
                  (ld1 r7.2 t48) |> bo fun t49 =>
                  (binX .neq .bool t47 t49) |> bo fun t50 =>
                  brX t50
                   (
                    retK m.length r7.2 [t0, t1] (.bool false))
                   (
                    (fadX 12 r1.1) |> bo fun t51 =>
                    (ld1 r7.2 t51) |> bo fun t52 =>
                    (fadX 12 r2.1) |> bo fun t53 =>
                    (ld1 r7.2 t53) |> bo fun t54 =>
                    (binX .neq .bool t52 t54) |> bo fun t55 =>
                    brX t55
                     (
                      retK m.length r7.2 [t0, t1] (.bool false))
                     (
                      (fadX 13 r1.1) |> bo fun t56 =>
                      (ld1 r7.2 t56) |> bo fun t57 =>
                      (fadX 13 r2.1) |> bo fun t58 =>
                      (ld1 r7.2 t58) |> bo fun t59 =>
                      (C_laws_eqBoolS [t57, t59] r7.2) |> bo fun r58 =>
                      (uop .not r58.1) |> bo fun t61 =>
                      brX t61
                       (
                        retK m.length r58.2 [t0, t1] (.bool false))
                       (
                        (fadX 14 r1.1) |> bo fun t62 =>
                        (ld1 r58.2 t62) |> bo fun t63 =>
                        (fadX 14 r2.1) |> bo fun t64 =>
                        (ld1 r58.2 t64) |> bo fun t65 =>
                        (binX .neq .no t63 t65) |> bo fun t66 =>
                        brX t66
                         (
                          retK m.length r58.2 [t0, t1] (.bool false))
                         (
                          (fadX 15 r1.1) |> bo fun t67 =>
                          (ld1 r58.2 t67) |> bo fun t68 =>
                          (fadX 15 r2.1) |> bo fun t69 =>
                          (ld1 r58.2 t69) |> bo fun t70 =>
                          (binX .neq .no t68 t70) |> bo fun t71 =>
                          brX t71
                           (
                            retK m.length r58.2 [t0, t1] (.bool false))
                           (
                            (fadX 16 r1.1) |> bo fun t72 =>
                            (ld1 r58.2 t72) |> bo fun t73 =>
                            (fadX 16 r2.1) |> bo fun t74 =>
                            (ld1 r58.2 t74) |> bo fun t75 =>
                            (binX .neq .no t73 t75) |> bo fun t76 =>
                            brX t76
                             (
                              retK m.length r58.2 [t0, t1] (.bool false))
                             (
                              (fadX 17 r1.1) |> bo fun t77 =>
                              (ld1 r58.2 t77) |> bo fun t78 =>
                              (fadX 17 r2.1) |> bo fun t79 =>
                              (ld1 r58.2 t79) |> bo fun t80 =>
                              (C_laws_eqInt64S [t78, t80] r58.2) |> bo fun r79 =>
                              (uop .not r79.1) |> bo fun t82 =>
                              brX t82
                               (
                                retK m.length r79.2 [t0, t1] (.bool false))
                               (
                                (fadX 18 r1.1) |> bo fun t83 =>
                                (ld1 r79.2 t83) |> bo fun t84 =>
                                (fadX 18 r2.1) |> bo fun t85 =>
                                (ld1 r79.2 t85) |> bo fun t86 =>
                                (binX .neq .no t84 t86) |> bo fun t87 =>
                                brX t87
                                 (
                                  retK m.length r79.2 [t0, t1] (.bool false))
                                 (
                                  (fadX 19 r1.1) |> bo fun t88 =>
                                  (ld1 r79.2 t88) |> bo fun t89 =>
                                  (fadX 19 r2.1) |> bo fun t90 =>
                                  (ld1 r79.2 t90) |> bo fun t91 =>
                                  (binX .neq .no t89 t91) |> bo fun t92 =>
                                  brX t92
                                   (
                                    retK m.length r79.2 [t0, t1] (.bool false))
                                   (
                                    retK m.length r79.2 [t0, t1] (.bool true))))))))))))))))))
 | _, _ => none
noncomputable def C_laws_eqScreen : List Value → Mem → Option VM := fcall X_laws_eqScreen
@[simp] theorem c_laws_eqScreen : C_laws_eqScreen = fcall X_laws_eqScreen := (rfl)
theorem cok_laws_eqScreen : codeOk CT Try.f23 (Try.f23.body.get rfl) = true := by kernel_rfl
theorem xe_laws_eqScreen (t0 t1 : Value) (m : Mem) : ex CT cf_laws_eqScreen Try.f23 2 m.length [] (fun _ _ _ => none) 400 [.code (Try.f23.body.get rfl)] (argsT 0 [t0, t1]) m = X_laws_eqScreen [t0, t1] m := by kernel_rfl
theorem okc_laws_eqScreen : CallOK CT cf_laws_eqScreen := cfc_ok ok_C_laws_eqInt64S (cfc_ok ok_C_laws_eqGrid (cfc_ok ok_C_laws_eqBoolS cfn_ok))
theorem ok_X_laws_eqScreen : OkX CT 23 X_laws_eqScreen := OkX.of_ex (cf := cf_laws_eqScreen) (np := 2) (LL := []) (J := (fun _ _ _ _ => none)) CT_ok rfl Try.func23 rfl (Nat.le_of_ble_eq_true rfl) (by decide) cok_laws_eqScreen okc_laws_eqScreen (fun k => noLoops rfl) (fun args m r h => match args, h with
  | [t0, t1], h => ⟨rfl, (xe_laws_eqScreen t0 t1 m).trans h⟩)
theorem ok_C_laws_eqScreen : OkC CT 23 C_laws_eqScreen := fcall_ok rfl ok_X_laws_eqScreen
noncomputable def cf_laws_eqVt : CallF := cfc 21 C_laws_eqDecoder (cfc 22 C_laws_eqParser (cfc 23 C_laws_eqScreen cfn))
noncomputable def X_laws_eqVt : List Value → Mem → Option VM
 | [t0, t1], m =>
  (boxX m t0) |> bo fun r1 =>
  (boxX r1.2 t1) |> bo fun r2 =>
  (fadX 0 r1.1) |> bo fun t5 =>
  (ldS r2.2 3 t5) |> bo fun t6 =>
  (fadX 0 r2.1) |> bo fun t7 =>
  (ldS r2.2 3 t7) |> bo fun t8 =>
  (C_laws_eqDecoder [t6, t8] r2.2) |> bo fun r7 =>
  (uop .not r7.1) |> bo fun t10 =>
  brX t10
   (
    retK m.length r7.2 [t0, t1] (.bool false))
   (
    (fadX 3 r1.1) |> bo fun t11 =>
    (ldS r7.2 4 t11) |> bo fun t12 =>
    (fadX 3 r2.1) |> bo fun t13 =>
    (ldS r7.2 4 t13) |> bo fun t14 =>
    (C_laws_eqParser [t12, t14] r7.2) |> bo fun r13 =>
    (uop .not r13.1) |> bo fun t16 =>
    brX t16
     (
      retK m.length r13.2 [t0, t1] (.bool false))
     (
      (fadX 7 r1.1) |> bo fun t17 =>
      (ldS r13.2 20 t17) |> bo fun t18 =>
      (fadX 7 r2.1) |> bo fun t19 =>
      (ldS r13.2 20 t19) |> bo fun t20 =>
      (C_laws_eqScreen [t18, t20] r13.2) |> bo fun r19 =>
      (uop .not r19.1) |> bo fun t22 =>
      brX t22
       (
        retK m.length r19.2 [t0, t1] (.bool false))
       (
        retK m.length r19.2 [t0, t1] (.bool true))))
 | _, _ => none
noncomputable def C_laws_eqVt : List Value → Mem → Option VM := fcall X_laws_eqVt
@[simp] theorem c_laws_eqVt : C_laws_eqVt = fcall X_laws_eqVt := (rfl)
theorem cok_laws_eqVt : codeOk CT Try.f9 (Try.f9.body.get rfl) = true := by kernel_rfl
theorem xe_laws_eqVt (t0 t1 : Value) (m : Mem) : ex CT cf_laws_eqVt Try.f9 2 m.length [] (fun _ _ _ => none) 400 [.code (Try.f9.body.get rfl)] (argsT 0 [t0, t1]) m = X_laws_eqVt [t0, t1] m := by kernel_rfl
theorem okc_laws_eqVt : CallOK CT cf_laws_eqVt := cfc_ok ok_C_laws_eqDecoder (cfc_ok ok_C_laws_eqParser (cfc_ok ok_C_laws_eqScreen cfn_ok))
theorem ok_X_laws_eqVt : OkX CT 9 X_laws_eqVt := OkX.of_ex (cf := cf_laws_eqVt) (np := 2) (LL := []) (J := (fun _ _ _ _ => none)) CT_ok rfl Try.func9 rfl (Nat.le_of_ble_eq_true rfl) (by decide) cok_laws_eqVt okc_laws_eqVt (fun k => noLoops rfl) (fun args m r h => match args, h with
  | [t0, t1], h => ⟨rfl, (xe_laws_eqVt t0 t1 m).trans h⟩)
theorem ok_C_laws_eqVt : OkC CT 9 C_laws_eqVt := fcall_ok rfl ok_X_laws_eqVt
end Go.Ab
