/- Plain forms of functions, printed by gen.py. -/
import Derived.Test.YtelkckbbelillaaCf5
import Derived.Test.YtelkckbbelillaaFC
set_option linter.unusedVariables false
set_option linter.unusedSimpArgs false
namespace Go.Ab
open Go.Proofs
set_option maxRecDepth 100000
set_option linter.unusedVariables false
/-! ### laws.szCellS -/
noncomputable def cf_laws_szCellS : CallF := cfn
noncomputable def X_laws_szCellS : List Value → Mem → Option VM
  | [t0, t1], m =>
    (lenX t0) |> bo fun t7 =>
    (binX .sub .no t1 t7) |> bo fun t8 =>
    (binX .lss .no t8 (.int .i64 0)) |> bo fun t10 =>
    brX t10
      (
        retK m.length m [t0, t8] (.int .i64 (-1)))
      (
        retK m.length m [t0, t8] t8)
  | _, _ => none
noncomputable def C_laws_szCellS : List Value → Mem → Option VM := fcall X_laws_szCellS
@[simp] theorem c_laws_szCellS : C_laws_szCellS = fcall X_laws_szCellS := (rfl)
theorem cok_laws_szCellS : codeOk CT Try.f98 (Try.f98.body.get rfl) = true := by kernel_rfl
theorem xe_laws_szCellS (t0 t1 : Value) (m : Mem) : ex CT cf_laws_szCellS Try.f98 2 m.length [] (fun _ _ _ => none) 400 [.code (Try.f98.body.get rfl)] (argsT 0 [t0, t1]) m = X_laws_szCellS [t0, t1] m := by kernel_rfl
theorem okc_laws_szCellS : CallOK CT cf_laws_szCellS := cfn_ok
theorem ok_X_laws_szCellS : OkX CT 98 X_laws_szCellS := OkX.of_ex (cf := cf_laws_szCellS) (np := 2) (LL := []) (J := (fun _ _ _ _ => none)) CT_ok rfl Try.func98 rfl (Nat.le_of_ble_eq_true rfl) (by decide) cok_laws_szCellS okc_laws_szCellS (fun k => noLoops rfl) (fun args m r h => match args, h with
    | [t0, t1], h => ⟨rfl, (xe_laws_szCellS t0 t1 m).trans h⟩)
theorem ok_C_laws_szCellS : OkC CT 98 C_laws_szCellS := fcall_ok rfl ok_X_laws_szCellS

/-! ### laws.szGrid -/
noncomputable def cf_laws_szGrid : CallF := cfc 98 C_laws_szCellS cfn
noncomputable def X_laws_szGrid : List Value → Mem → Option VM
  | [t0, t1], m =>
    (boxX m t0) |> bo fun r1 =>
    (fadX 2 r1.1) |> bo fun t5 =>
    (ld1 r1.2 t5) |> bo fun t6 =>
    (C_laws_szCellS [t6, t1] r1.2) |> bo fun r4 =>
    (binX .lss .no r4.1 (.int .i64 0)) |> bo fun t10 =>
    brX t10
      (
        retK m.length r4.2 [t0, r4.1] (.int .i64 (-1)))
      (
        (fadX 3 r1.1) |> bo fun t11 =>
        (ld1 r4.2 t11) |> bo fun t12 =>
        (C_laws_szCellS [t12, r4.1] r4.2) |> bo fun r8 =>
        (binX .lss .no r8.1 (.int .i64 0)) |> bo fun t16 =>
        brX t16
          (
            retK m.length r8.2 [t0, r8.1] (.int .i64 (-1)))
          (
            retK m.length r8.2 [t0, r8.1] r8.1))
  | _, _ => none
noncomputable def C_laws_szGrid : List Value → Mem → Option VM := fcall X_laws_szGrid
@[simp] theorem c_laws_szGrid : C_laws_szGrid = fcall X_laws_szGrid := (rfl)
theorem cok_laws_szGrid : codeOk CT Try.f48 (Try.f48.body.get rfl) = true := by kernel_rfl
theorem xe_laws_szGrid (t0 t1 : Value) (m : Mem) : ex CT cf_laws_szGrid Try.f48 2 m.length [] (fun _ _ _ => none) 400 [.code (Try.f48.body.get rfl)] (argsT 0 [t0, t1]) m = X_laws_szGrid [t0, t1] m := by kernel_rfl
theorem okc_laws_szGrid : CallOK CT cf_laws_szGrid := cfc_ok ok_C_laws_szCellS cfn_ok
theorem ok_X_laws_szGrid : OkX CT 48 X_laws_szGrid := OkX.of_ex (cf := cf_laws_szGrid) (np := 2) (LL := []) (J := (fun _ _ _ _ => none)) CT_ok rfl Try.func48 rfl (Nat.le_of_ble_eq_true rfl) (by decide) cok_laws_szGrid okc_laws_szGrid (fun k => noLoops rfl) (fun args m r h => match args, h with
    | [t0, t1], h => ⟨rfl, (xe_laws_szGrid t0 t1 m).trans h⟩)
theorem ok_C_laws_szGrid : OkC CT 48 C_laws_szGrid := fcall_ok rfl ok_X_laws_szGrid

/-! ### laws.szBoolS -/
noncomputable def cf_laws_szBoolS : CallF := cfn
noncomputable def X_laws_szBoolS : List Value → Mem → Option VM
  | [t0, t1], m =>
    (lenX t0) |> bo fun t7 =>
    (binX .sub .no t1 t7) |> bo fun t8 =>
    (binX .lss .no t8 (.int .i64 0)) |> bo fun t10 =>
    brX t10
      (
        retK m.length m [t0, t8] (.int .i64 (-1)))
      (
        retK m.length m [t0, t8] t8)
  | _, _ => none
noncomputable def C_laws_szBoolS : List Value → Mem → Option VM := fcall X_laws_szBoolS
@[simp] theorem c_laws_szBoolS : C_laws_szBoolS = fcall X_laws_szBoolS := (rfl)
theorem cok_laws_szBoolS : codeOk CT Try.f49 (Try.f49.body.get rfl) = true := by kernel_rfl
theorem xe_laws_szBoolS (t0 t1 : Value) (m : Mem) : ex CT cf_laws_szBoolS Try.f49 2 m.length [] (fun _ _ _ => none) 400 [.code (Try.f49.body.get rfl)] (argsT 0 [t0, t1]) m = X_laws_szBoolS [t0, t1] m := by kernel_rfl
theorem okc_laws_szBoolS : CallOK CT cf_laws_szBoolS := cfn_ok
theorem ok_X_laws_szBoolS : OkX CT 49 X_laws_szBoolS := OkX.of_ex (cf := cf_laws_szBoolS) (np := 2) (LL := []) (J := (fun _ _ _ _ => none)) CT_ok rfl Try.func49 rfl (Nat.le_of_ble_eq_true rfl) (by decide) cok_laws_szBoolS okc_laws_szBoolS (fun k => noLoops rfl) (fun args m r h => match args, h with
    | [t0, t1], h => ⟨rfl, (xe_laws_szBoolS t0 t1 m).trans h⟩)
theorem ok_C_laws_szBoolS : OkC CT 49 C_laws_szBoolS := fcall_ok rfl ok_X_laws_szBoolS

/-! ### laws.szInt64S -/
noncomputable def cf_laws_szInt64S : CallF := cfn
noncomputable def X_laws_szInt64S : List Value → Mem → Option VM
  | [t0, t1], m =>
    (lenX t0) |> bo fun t7 =>
    (binX .sub .no t1 t7) |> bo fun t8 =>
    (binX .lss .no t8 (.int .i64 0)) |> bo fun t10 =>
    brX t10
      (
        retK m.length m [t0, t8] (.int .i64 (-1)))
      (
        retK m.length m [t0, t8] t8)
  | _, _ => none
noncomputable def C_laws_szInt64S : List Value → Mem → Option VM := fcall X_laws_szInt64S
@[simp] theorem c_laws_szInt64S : C_laws_szInt64S = fcall X_laws_szInt64S := (rfl)
theorem cok_laws_szInt64S : codeOk CT Try.f50 (Try.f50.body.get rfl) = true := by kernel_rfl
theorem xe_laws_szInt64S (t0 t1 : Value) (m : Mem) : ex CT cf_laws_szInt64S Try.f50 2 m.length [] (fun _ _ _ => none) 400 [.code (Try.f50.body.get rfl)] (argsT 0 [t0, t1]) m = X_laws_szInt64S [t0, t1] m := by kernel_rfl
theorem okc_laws_szInt64S : CallOK CT cf_laws_szInt64S := cfn_ok
theorem ok_X_laws_szInt64S : OkX CT 50 X_laws_szInt64S := OkX.of_ex (cf := cf_laws_szInt64S) (np := 2) (LL := []) (J := (fun _ _ _ _ => none)) CT_ok rfl Try.func50 rfl (Nat.le_of_ble_eq_true rfl) (by decide) cok_laws_szInt64S okc_laws_szInt64S (fun k => noLoops rfl) (fun args m r h => match args, h with
    | [t0, t1], h => ⟨rfl, (xe_laws_szInt64S t0 t1 m).trans h⟩)
theorem ok_C_laws_szInt64S : OkC CT 50 C_laws_szInt64S := fcall_ok rfl ok_X_laws_szInt64S

/-! ### laws.szScreen -/
noncomputable def cf_laws_szScreen : CallF := cfc 48 C_laws_szGrid (cfc 49 C_laws_szBoolS (cfc 50 C_laws_szInt64S cfn))
noncomputable def X_laws_szScreen : List Value → Mem → Option VM
  | [t0, t1], m =>
    (boxX m t0) |> bo fun r1 =>
    (fadX 0 r1.1) |> bo fun t5 =>
    (ldS r1.2 4 t5) |> bo fun t6 =>
    (C_laws_szGrid [t6, t1] r1.2) |> bo fun r4 =>
    (binX .lss .no r4.1 (.int .i64 0)) |> bo fun t10 =>
    brX t10
      (
        retK m.length r4.2 [t0, r4.1] (.int .i64 (-1)))
      (
        (fadX 13 r1.1) |> bo fun t11 =>
        (ld1 r4.2 t11) |> bo fun t12 =>
        (C_laws_szBoolS [t12, r4.1] r4.2) |> bo fun r8 =>
        (binX .lss .no r8.1 (.int .i64 0)) |> bo fun t16 =>
        brX t16
          (
            retK m.length r8.2 [t0, r8.1] (.int .i64 (-1)))
          (
            (fadX 17 r1.1) |> bo fun t17 =>
            (ld1 r8.2 t17) |> bo fun t18 =>
            (C_laws_szInt64S [t18, r8.1] r8.2) |> bo fun r12 =>
            (binX .lss .no r12.1 (.int .i64 0)) |> bo fun t22 =>
            brX t22
              (
                retK m.length r12.2 [t0, r12.1] (.int .i64 (-1)))
              (
                retK m.length r12.2 [t0, r12.1] r12.1)))
  | _, _ => none
noncomputable def C_laws_szScreen : List Value → Mem → Option VM := fcall X_laws_szScreen
@[simp] theorem c_laws_szScreen : C_laws_szScreen = fcall X_laws_szScreen := (rfl)
theorem cok_laws_szScreen : codeOk CT Try.f17 (Try.f17.body.get rfl) = true := by kernel_rfl
theorem xe_laws_szScreen (t0 t1 : Value) (m : Mem) : ex CT cf_laws_szScreen Try.f17 2 m.length [] (fun _ _ _ => none) 400 [.code (Try.f17.body.get rfl)] (argsT 0 [t0, t1]) m = X_laws_szScreen [t0, t1] m := by kernel_rfl
theorem okc_laws_szScreen : CallOK CT cf_laws_szScreen := cfc_ok ok_C_laws_szGrid (cfc_ok ok_C_laws_szBoolS (cfc_ok ok_C_laws_szInt64S cfn_ok))
theorem ok_X_laws_szScreen : OkX CT 17 X_laws_szScreen := OkX.of_ex (cf := cf_laws_szScreen) (np := 2) (LL := []) (J := (fun _ _ _ _ => none)) CT_ok rfl Try.func17 rfl (Nat.le_of_ble_eq_true rfl) (by decide) cok_laws_szScreen okc_laws_szScreen (fun k => noLoops rfl) (fun args m r h => match args, h with
    | [t0, t1], h => ⟨rfl, (xe_laws_szScreen t0 t1 m).trans h⟩)
theorem ok_C_laws_szScreen : OkC CT 17 C_laws_szScreen := fcall_ok rfl ok_X_laws_szScreen

/-! ### spec.l1In -/
noncomputable def cf_spec_l1In : CallF := cfn
noncomputable def X_spec_l1In : List Value → Mem → Option VM
  | [t0, t1, t2], m =>
    (binX .geq .no t0 t1) |> bo fun t9 =>
    (gd t9 true (some (t0, m)) m) |> bo fun r2 =>
    (gd t9 true (some (t2, r2.2)) r2.2) |> bo fun r3 =>
    (gd t9 true ((binX .leq .no r2.1 r3.1) |> bo fun v => some (v, r3.2)) r3.2) |> bo fun r4 =>
    (pickX t9 r4.1 (.bool false)) |> bo fun t14 =>
    retK m.length r4.2 [t0, t1, t2] t14
  | _, _ => none
noncomputable def C_spec_l1In : List Value → Mem → Option VM := fcall X_spec_l1In
@[simp] theorem c_spec_l1In : C_spec_l1In = fcall X_spec_l1In := (rfl)
theorem cok_spec_l1In : codeOk CT Try.f72 (Try.f72.body.get rfl) = true := by kernel_rfl
theorem xe_spec_l1In (t0 t1 t2 : Value) (m : Mem) : ex CT cf_spec_l1In Try.f72 3 m.length [] (fun _ _ _ => none) 400 [.code (Try.f72.body.get rfl)] (argsT 0 [t0, t1, t2]) m = X_spec_l1In [t0, t1, t2] m := by kernel_rfl
theorem okc_spec_l1In : CallOK CT cf_spec_l1In := cfn_ok
theorem ok_X_spec_l1In : OkX CT 72 X_spec_l1In := OkX.of_ex (cf := cf_spec_l1In) (np := 3) (LL := []) (J := (fun _ _ _ _ => none)) CT_ok rfl Try.func72 rfl (Nat.le_of_ble_eq_true rfl) (by decide) cok_spec_l1In okc_spec_l1In (fun k => noLoops rfl) (fun args m r h => match args, h with
    | [t0, t1, t2], h => ⟨rfl, (xe_spec_l1In t0 t1 t2 m).trans h⟩)
theorem ok_C_spec_l1In : OkC CT 72 C_spec_l1In := fcall_ok rfl ok_X_spec_l1In

/-! ### spec.l3Size -/
noncomputable def cf_spec_l3Size : CallF := cfc 72 C_spec_l1In cfn
noncomputable def X_spec_l3Size : List Value → Mem → Option VM
  | [t0, t1], m =>
    (C_spec_l1In [t0, (.int .i64 1), (.int .i64 6)] m) |> bo fun r1 =>
    (gd r1.1 true (some (t1, r1.2)) r1.2) |> bo fun r2 =>
    (gd r1.1 true ((C_spec_l1In [r2.1, (.int .i64 2), (.int .i64 12)] r2.2) |> bo fun r => some (r.1, r.2)) r2.2) |> bo fun r3 =>
    (pickX r1.1 r3.1 (.bool false)) |> bo fun t10 =>
    retK m.length r3.2 [t0, t1] t10
  | _, _ => none
noncomputable def C_spec_l3Size : List Value → Mem → Option VM := fcall X_spec_l3Size
@[simp] theorem c_spec_l3Size : C_spec_l3Size = fcall X_spec_l3Size := (rfl)
theorem cok_spec_l3Size : codeOk CT Try.f26 (Try.f26.body.get rfl) = true := by kernel_rfl
theorem xe_spec_l3Size (t0 t1 : Value) (m : Mem) : ex CT cf_spec_l3Size Try.f26 2 m.length [] (fun _ _ _ => none) 400 [.code (Try.f26.body.get rfl)] (argsT 0 [t0, t1]) m = X_spec_l3Size [t0, t1] m := by kernel_rfl
theorem okc_spec_l3Size : CallOK CT cf_spec_l3Size := cfc_ok ok_C_spec_l1In cfn_ok
theorem ok_X_spec_l3Size : OkX CT 26 X_spec_l3Size := OkX.of_ex (cf := cf_spec_l3Size) (np := 2) (LL := []) (J := (fun _ _ _ _ => none)) CT_ok rfl Try.func26 rfl (Nat.le_of_ble_eq_true rfl) (by decide) cok_spec_l3Size okc_spec_l3Size (fun k => noLoops rfl) (fun args m r h => match args, h with
    | [t0, t1], h => ⟨rfl, (xe_spec_l3Size t0 t1 m).trans h⟩)
theorem ok_C_spec_l3Size : OkC CT 26 C_spec_l3Size := fcall_ok rfl ok_X_spec_l3Size

/-! ### spec.l1Char -/
noncomputable def cf_spec_l1Char : CallF := cfc 72 C_spec_l1In cfn
noncomputable def X_spec_l1Char : List Value → Mem → Option VM
  | [t0], m =>
    (C_spec_l1In [t0, (.int .i64 0), (.int .i64 55295)] m) |> bo fun r1 =>
    (gd r1.1 false (some (t0, r1.2)) r1.2) |> bo fun r2 =>
    (gd r1.1 false ((C_spec_l1In [r2.1, (.int .i64 57344), (.int .i64 65535)] r2.2) |> bo fun r => some (r.1, r.2)) r2.2) |> bo fun r3 =>
    (pickX r1.1 (.bool true) r3.1) |> bo fun t8 =>
    retK m.length r3.2 [t0] t8
  | _, _ => none
noncomputable def C_spec_l1Char : List Value → Mem → Option VM := fcall X_spec_l1Char
@[simp] theorem c_spec_l1Char : C_spec_l1Char = fcall X_spec_l1Char := (rfl)
theorem cok_spec_l1Char : codeOk CT Try.f171 (Try.f171.body.get rfl) = true := by kernel_rfl
theorem xe_spec_l1Char (t0 : Value) (m : Mem) : ex CT cf_spec_l1Char Try.f171 1 m.length [] (fun _ _ _ => none) 400 [.code (Try.f171.body.get rfl)] (argsT 0 [t0]) m = X_spec_l1Char [t0] m := by kernel_rfl
theorem okc_spec_l1Char : CallOK CT cf_spec_l1Char := cfc_ok ok_C_spec_l1In cfn_ok
theorem ok_X_spec_l1Char : OkX CT 171 X_spec_l1Char := OkX.of_ex (cf := cf_spec_l1Char) (np := 1) (LL := []) (J := (fun _ _ _ _ => none)) CT_ok rfl Try.func171 rfl (Nat.le_of_ble_eq_true rfl) (by decide) cok_spec_l1Char okc_spec_l1Char (fun k => noLoops rfl) (fun args m r h => match args, h with
    | [t0], h => ⟨rfl, (xe_spec_l1Char t0 m).trans h⟩)
theorem ok_C_spec_l1Char : OkC CT 171 C_spec_l1Char := fcall_ok rfl ok_X_spec_l1Char

/-! ### spec.l3Cell -/
noncomputable def cf_spec_l3Cell : CallF := cfc 72 C_spec_l1In (cfc 171 C_spec_l1Char cfn)
noncomputable def X_spec_l3Cell : List Value → Mem → Option VM
  | [t0], m =>
    (nilX t0) |> bo fun t4 =>
    (fadX 0 t4) |> bo fun t5 =>
    (ld1 m t5) |> bo fun t6 =>
    (C_spec_l1Char [t6] m) |> bo fun r4 =>
    (gd r4.1 true (some (t0, r4.2)) r4.2) |> bo fun r5 =>
    (gd r4.1 true ((nilX r5.1) |> bo fun v => some (v, r5.2)) r5.2) |> bo fun r6 =>
    (gd r4.1 true ((fadX 0 r6.1) |> bo fun v => some (v, r6.2)) r6.2) |> bo fun r7 =>
    (gd r4.1 true ((ld1 r7.2 r7.1) |> bo fun v => some (v, r7.2)) r7.2) |> bo fun r8 =>
    (gd r4.1 true ((binX .geq .no r8.1 (.int .i64 32)) |> bo fun v => some (v, r8.2)) r8.2) |> bo fun r9 =>
    (pickX r4.1 r9.1 (.bool false)) |> bo fun t14 =>
    (gd t14 true (some (t0, r9.2)) r9.2) |> bo fun r11 =>
    (gd t14 true ((nilX r11.1) |> bo fun v => some (v, r11.2)) r11.2) |> bo fun r12 =>
    (gd t14 true ((fadX 0 r12.1) |> bo fun v => some (v, r12.2)) r12.2) |> bo fun r13 =>
    (gd t14 true ((ld1 r13.2 r13.1) |> bo fun v => some (v, r13.2)) r13.2) |> bo fun r14 =>
    (gd t14 true ((binX .neq .no r14.1 (.int .i64 127)) |> bo fun v => some (v, r14.2)) r14.2) |> bo fun r15 =>
    (pickX t14 r15.1 (.bool false)) |> bo fun t21 =>
    (gd t21 true (some (t0, r15.2)) r15.2) |> bo fun r17 =>
    (gd t21 true ((nilX r17.1) |> bo fun v => some (v, r17.2)) r17.2) |> bo fun r18 =>
    (gd t21 true ((fadX 1 r18.1) |> bo fun v => some (v, r18.2)) r18.2) |> bo fun r19 =>
    (gd t21 true ((ld1 r19.2 r19.1) |> bo fun v => some (v, r19.2)) r19.2) |> bo fun r20 =>
    (gd t21 true ((C_spec_l1In [r20.1, (.int .i64 0), (.int .i64 31)] r20.2) |> bo fun r => some (r.1, r.2)) r20.2) |> bo fun r21 =>
    (pickX t21 r21.1 (.bool false)) |> bo fun t28 =>
    retK m.length r21.2 [t0] t28
  | _, _ => none
noncomputable def C_spec_l3Cell : List Value → Mem → Option VM := fcall X_spec_l3Cell
@[simp] theorem c_spec_l3Cell : C_spec_l3Cell = fcall X_spec_l3Cell := (rfl)
theorem cok_spec_l3Cell : codeOk CT Try.f163 (Try.f163.body.get rfl) = true := by kernel_rfl
theorem xe_spec_l3Cell (t0 : Value) (m : Mem) : ex CT cf_spec_l3Cell Try.f163 1 m.length [] (fun _ _ _ => none) 400 [.code (Try.f163.body.get rfl)] (argsT 0 [t0]) m = X_spec_l3Cell [t0] m := by kernel_rfl
theorem okc_spec_l3Cell : CallOK CT cf_spec_l3Cell := cfc_ok ok_C_spec_l1In (cfc_ok ok_C_spec_l1Char cfn_ok)
theorem ok_X_spec_l3Cell : OkX CT 163 X_spec_l3Cell := OkX.of_ex (cf := cf_spec_l3Cell) (np := 1) (LL := []) (J := (fun _ _ _ _ => none)) CT_ok rfl Try.func163 rfl (Nat.le_of_ble_eq_true rfl) (by decide) cok_spec_l3Cell okc_spec_l3Cell (fun k => noLoops rfl) (fun args m r h => match args, h with
    | [t0], h => ⟨rfl, (xe_spec_l3Cell t0 m).trans h⟩)
theorem ok_C_spec_l3Cell : OkC CT 163 C_spec_l3Cell := fcall_ok rfl ok_X_spec_l3Cell

/-! ### spec.l3Cells -/
noncomputable def cf_spec_l3Cells : CallF := cfc 163 C_spec_l3Cell cfn
noncomputable def L_spec_l3Cells (k : Nat) : Nat → Nat → List Value → Mem → Option VM
  | q + 1, 0, [t0, t3], m =>
    (lenX t0) |> bo fun t6 =>
    (binX .lss .no t3 t6) |> bo fun t7 =>
    brX t7
      (
        (ixaX 2 t0 t3) |> bo fun t12 =>
        (C_spec_l3Cell [t12] m) |> bo fun r4 =>
        (uop .not r4.1) |> bo fun t14 =>
        brX t14
          (
            retK k r4.2 [t0] (.bool false))
          (
            (binX .add .no t3 (.int .i64 1)) |> bo fun t9 =>
            cutK k r4.2 [t0] [t0, t9] (L_spec_l3Cells k q 0)))
      (
        retK k m [t0] (.bool true))
  | _, _, _, _ => none
noncomputable def J_spec_l3Cells (k q l : Nat) : List Value → Mem → Option VM := cond (Nat.beq l 2) (L_spec_l3Cells k q 0) (fun _ _ => none)
def LL_spec_l3Cells : List (Nat × List Tmp) := [(2, [0, 3])]
noncomputable def X_spec_l3Cells : List Value → Mem → Option VM
  | [t0], m =>
    cutK m.length m [t0] [t0, (.int .i64 0)] (L_spec_l3Cells m.length QQ 0)
  | _, _ => none
noncomputable def C_spec_l3Cells : List Value → Mem → Option VM := fcall X_spec_l3Cells
@[simp] theorem c_spec_l3Cells : C_spec_l3Cells = fcall X_spec_l3Cells := (rfl)
theorem cok_spec_l3Cells : codeOk CT Try.f134 (Try.f134.body.get rfl) = true := by kernel_rfl
theorem xe_spec_l3Cells (t0 : Value) (m : Mem) : ex CT cf_spec_l3Cells Try.f134 1 m.length LL_spec_l3Cells (J_spec_l3Cells m.length QQ) 400 [.code (Try.f134.body.get rfl)] (argsT 0 [t0]) m = X_spec_l3Cells [t0] m := by kernel_rfl
theorem okc_spec_l3Cells : CallOK CT cf_spec_l3Cells := cfc_ok ok_C_spec_l3Cell cfn_ok
theorem le_spec_l3Cells_0 (k q : Nat) (t0 t3 : Value) (m : Mem) : ex CT cf_spec_l3Cells Try.f134 1 k LL_spec_l3Cells (J_spec_l3Cells k q) 400 (atLoop Try.f134 0) [(0, t0), (3, t3)] m = J_spec_l3Cells k (q + 1) 2 [t0, t3] m := by kernel_rfl
theorem gl_spec_l3Cells (k : Nat) : ∀ q i, i < 1 → GoodL CT k Try.f134 LL_spec_l3Cells (J_spec_l3Cells k q) (atLoop Try.f134 i)
  | 0, 0, _ => goodL_zero (l := 2) (by kernel_rfl) (fun vs m => by kernel_rfl)
  | 0, _ + 1, h => absurd h (by omega)
  | q + 1, 0, _ => goodL_succ (np := 1) (l := 2) (live := [0, 3]) (n := 1) CT_ok rfl okc_spec_l3Cells (c := (Try.f134.body.get rfl)) rfl cok_spec_l3Cells (by kernel_rfl) (gl_spec_l3Cells k q) (by kernel_rfl) rfl (fun vs m r hl h => match vs, hl with
    | [t0, t3], _ => (le_spec_l3Cells_0 k q t0 t3 m).trans h)
  | _ + 1, _ + 1, h => absurd h (by omega)
theorem ok_X_spec_l3Cells : OkX CT 134 X_spec_l3Cells := OkX.of_ex (cf := cf_spec_l3Cells) (np := 1) (LL := LL_spec_l3Cells) (J := (fun k => J_spec_l3Cells k QQ)) CT_ok rfl Try.func134 rfl (Nat.le_of_ble_eq_true rfl) (by decide) cok_spec_l3Cells okc_spec_l3Cells (fun k => allLoops rfl (by kernel_rfl) (gl_spec_l3Cells k QQ)) (fun args m r h => match args, h with
    | [t0], h => ⟨rfl, (xe_spec_l3Cells t0 m).trans h⟩)
theorem ok_C_spec_l3Cells : OkC CT 134 C_spec_l3Cells := fcall_ok rfl ok_X_spec_l3Cells

/-! ### spec.l3Fault -/
noncomputable def cf_spec_l3Fault : CallF := cfc 26 C_spec_l3Size (cfc 134 C_spec_l3Cells cfn)
noncomputable def X_spec_l3Fault : List Value → Mem → Option VM
  | [t0], m =>
    (nilX t0) |> bo fun t5 =>
    (fadX 0 t5) |> bo fun t6 =>
    (ld1 m t6) |> bo fun t7 =>
    (nilX t0) |> bo fun t9 =>
    (fadX 1 t9) |> bo fun t10 =>
    (ld1 m t10) |> bo fun t11 =>
    (C_spec_l3Size [t7, t11] m) |> bo fun r7 =>
    (uop .not r7.1) |> bo fun t13 =>
    brX t13
      (
        retK m.length r7.2 [t0] (.int .i64 3))
      (
        (nilX t0) |> bo fun t15 =>
        (fadX 3 t15) |> bo fun t16 =>
        (ld1 r7.2 t16) |> bo fun t17 =>
        (lenX t17) |> bo fun t18 =>
        (nilX t0) |> bo fun t20 =>
        (fadX 2 t20) |> bo fun t21 =>
        (ld1 r7.2 t21) |> bo fun t22 =>
        (lenX t22) |> bo fun t23 =>
        (nilX t0) |> bo fun t25 =>
        (fadX 0 t25) |> bo fun t26 =>
        (ld1 r7.2 t26) |> bo fun t27 =>
        (nilX t0) |> bo fun t29 =>
        (fadX 1 t29) |> bo fun t30 =>
        (ld1 r7.2 t30) |> bo fun t31 =>
        (binX .mul .no t27 t31) |> bo fun t32 =>
        (binX .neq .no t23 t32) |> bo fun t33 =>
        (gd t33 false (some (t18, r7.2)) r7.2) |> bo fun r25 =>
        (gd t33 false (some (t0, r25.2)) r25.2) |> bo fun r26 =>
        (gd t33 false ((nilX r26.1) |> bo fun v => some (v, r26.2)) r26.2) |> bo fun r27 =>
        (gd t33 false ((fadX 1 r27.1) |> bo fun v => some (v, r27.2)) r27.2) |> bo fun r28 =>
        (gd t33 false ((ld1 r28.2 r28.1) |> bo fun v => some (v, r28.2)) r28.2) |> bo fun r29 =>
        (gd t33 false ((binX .mul .no (.int .i64 5) r29.1) |> bo fun v => some (v, r29.2)) r29.2) |> bo fun r30 =>
        (gd t33 false ((binX .gtr .no r25.1 r30.1) |> bo fun v => some (v, r30.2)) r30.2) |> bo fun r31 =>
        (pickX t33 (.bool true) r31.1) |> bo fun t42 =>
        (gd t42 false (some (t18, r31.2)) r31.2) |> bo fun r33 =>
        (gd t42 false (some (t0, r33.2)) r33.2) |> bo fun r34 =>
        (gd t42 false ((nilX r34.1) |> bo fun v => some (v, r34.2)) r34.2) |> bo fun r35 =>
        (gd t42 false ((fadX 1 r35.1) |> bo fun v => some (v, r35.2)) r35.2) |> bo fun r36 =>
        (gd t42 false ((ld1 r36.2 r36.1) |> bo fun v => some (v, r36.2)) r36.2) |> bo fun r37 =>
        (gd t42 false ((binX .rem .no r33.1 r37.1) |> bo fun v => some (v, r37.2)) r37.2) |> bo fun r38 =>
        (gd t42 false ((binX .neq .no r38.1 (.int .i64 0)) |> bo fun v => some (v, r38.2)) r38.2) |> bo fun r39 =>
        (pickX t42 (.bool true) r39.1) |> bo fun t51 =>
        brX t51
          (
            retK m.length r39.2 [t0] (.int .i64 1))
          (
            (nilX t0) |> bo fun t53 =>
            (fadX 2 t53) |> bo fun t54 =>
            (ld1 r39.2 t54) |> bo fun t55 =>
            (C_spec_l3Cells [t55] r39.2) |> bo fun r44 =>
            (uop .not r44.1) |> bo fun t57 =>
            (gd t57 false (some (t0, r44.2)) r44.2) |> bo fun r46 =>
            (gd t57 false ((nilX r46.1) |> bo fun v => some (v, r46.2)) r46.2) |> bo fun r47 =>
            (gd t57 false ((fadX 3 r47.1) |> bo fun v => some (v, r47.2)) r47.2) |> bo fun r48 =>
            (gd t57 false ((ld1 r48.2 r48.1) |> bo fun v => some (v, r48.2)) r48.2) |> bo fun r49 =>
            (gd t57 false ((C_spec_l3Cells [r49.1] r49.2) |> bo fun r => some (r.1, r.2)) r49.2) |> bo fun r50 =>
            (gd t57 false ((uop .not r50.1) |> bo fun v => some (v, r50.2)) r50.2) |> bo fun r51 =>
            (pickX t57 (.bool true) r51.1) |> bo fun t65 =>
            brX t65
              (
                retK m.length r51.2 [t0] (.int .i64 3))
              (
                retK m.length r51.2 [t0] (.int .i64 0))))
  | _, _ => none
noncomputable def C_spec_l3Fault : List Value → Mem → Option VM := fcall X_spec_l3Fault
@[simp] theorem c_spec_l3Fault : C_spec_l3Fault = fcall X_spec_l3Fault := (rfl)
theorem cok_spec_l3Fault : codeOk CT Try.f99 (Try.f99.body.get rfl) = true := by kernel_rfl
theorem xe_spec_l3Fault (t0 : Value) (m : Mem) : ex CT cf_spec_l3Fault Try.f99 1 m.length [] (fun _ _ _ => none) 400 [.code (Try.f99.body.get rfl)] (argsT 0 [t0]) m = X_spec_l3Fault [t0] m := by kernel_rfl
theorem okc_spec_l3Fault : CallOK CT cf_spec_l3Fault := cfc_ok ok_C_spec_l3Size (cfc_ok ok_C_spec_l3Cells cfn_ok)
theorem ok_X_spec_l3Fault : OkX CT 99 X_spec_l3Fault := OkX.of_ex (cf := cf_spec_l3Fault) (np := 1) (LL := []) (J := (fun _ _ _ _ => none)) CT_ok rfl Try.func99 rfl (Nat.le_of_ble_eq_true rfl) (by decide) cok_spec_l3Fault okc_spec_l3Fault (fun k => noLoops rfl) (fun args m r h => match args, h with
    | [t0], h => ⟨rfl, (xe_spec_l3Fault t0 m).trans h⟩)
theorem ok_C_spec_l3Fault : OkC CT 99 C_spec_l3Fault := fcall_ok rfl ok_X_spec_l3Fault

/-! ### spec.l3Place -/
noncomputable def cf_spec_l3Place : CallF := cfc 72 C_spec_l1In cfn
noncomputable def X_spec_l3Place : List Value → Mem → Option VM
  | [t0, t1, t2], m =>
    (nilX t0) |> bo fun t9 =>
    (fadX 0 t9) |> bo fun t10 =>
    (ld1 m t10) |> bo fun t11 =>
    (binX .sub .no t11 (.int .i64 1)) |> bo fun t12 =>
    (C_spec_l1In [t1, (.int .i64 0), t12] m) |> bo fun r5 =>
    (gd r5.1 true (some (t2, r5.2)) r5.2) |> bo fun r6 =>
    (gd r5.1 true (some (t0, r6.2)) r6.2) |> bo fun r7 =>
    (gd r5.1 true ((nilX r7.1) |> bo fun v => some (v, r7.2)) r7.2) |> bo fun r8 =>
    (gd r5.1 true ((fadX 1 r8.1) |> bo fun v => some (v, r8.2)) r8.2) |> bo fun r9 =>
    (gd r5.1 true ((ld1 r9.2 r9.1) |> bo fun v => some (v, r9.2)) r9.2) |> bo fun r10 =>
    (gd r5.1 true ((binX .sub .no r10.1 (.int .i64 1)) |> bo fun v => some (v, r10.2)) r10.2) |> bo fun r11 =>
    (gd r5.1 true ((C_spec_l1In [r6.1, (.int .i64 0), r11.1] r11.2) |> bo fun r => some (r.1, r.2)) r11.2) |> bo fun r12 =>
    (pickX r5.1 r12.1 (.bool false)) |> bo fun t22 =>
    retK m.length r12.2 [t0, t1, t2] t22
  | _, _ => none
noncomputable def C_spec_l3Place : List Value → Mem → Option VM := fcall X_spec_l3Place
@[simp] theorem c_spec_l3Place : C_spec_l3Place = fcall X_spec_l3Place := (rfl)
theorem cok_spec_l3Place : codeOk CT Try.f135 (Try.f135.body.get rfl) = true := by kernel_rfl
theorem xe_spec_l3Place (t0 t1 t2 : Value) (m : Mem) : ex CT cf_spec_l3Place Try.f135 3 m.length [] (fun _ _ _ => none) 400 [.code (Try.f135.body.get rfl)] (argsT 0 [t0, t1, t2]) m = X_spec_l3Place [t0, t1, t2] m := by kernel_rfl
theorem okc_spec_l3Place : CallOK CT cf_spec_l3Place := cfc_ok ok_C_spec_l1In cfn_ok
theorem ok_X_spec_l3Place : OkX CT 135 X_spec_l3Place := OkX.of_ex (cf := cf_spec_l3Place) (np := 3) (LL := []) (J := (fun _ _ _ _ => none)) CT_ok rfl Try.func135 rfl (Nat.le_of_ble_eq_true rfl) (by decide) cok_spec_l3Place okc_spec_l3Place (fun k => noLoops rfl) (fun args m r h => match args, h with
    | [t0, t1, t2], h => ⟨rfl, (xe_spec_l3Place t0 t1 t2 m).trans h⟩)
theorem ok_C_spec_l3Place : OkC CT 135 C_spec_l3Place := fcall_ok rfl ok_X_spec_l3Place

/-! ### spec.l3Attr -/
noncomputable def cf_spec_l3Attr : CallF := cfc 72 C_spec_l1In cfn
noncomputable def X_spec_l3Attr : List Value → Mem → Option VM
  | [t0], m =>
    (C_spec_l1In [t0, (.int .i64 0), (.int .i64 31)] m) |> bo fun r1 =>
    retK m.length r1.2 [t0] r1.1
  | _, _ => none
noncomputable def C_spec_l3Attr : List Value → Mem → Option VM := fcall X_spec_l3Attr
@[simp] theorem c_spec_l3Attr : C_spec_l3Attr = fcall X_spec_l3Attr := (rfl)
theorem cok_spec_l3Attr : codeOk CT Try.f136 (Try.f136.body.get rfl) = true := by kernel_rfl
theorem xe_spec_l3Attr (t0 : Value) (m : Mem) : ex CT cf_spec_l3Attr Try.f136 1 m.length [] (fun _ _ _ => none) 400 [.code (Try.f136.body.get rfl)] (argsT 0 [t0]) m = X_spec_l3Attr [t0] m := by kernel_rfl
theorem okc_spec_l3Attr : CallOK CT cf_spec_l3Attr := cfc_ok ok_C_spec_l1In cfn_ok
theorem ok_X_spec_l3Attr : OkX CT 136 X_spec_l3Attr := OkX.of_ex (cf := cf_spec_l3Attr) (np := 1) (LL := []) (J := (fun _ _ _ _ => none)) CT_ok rfl Try.func136 rfl (Nat.le_of_ble_eq_true rfl) (by decide) cok_spec_l3Attr okc_spec_l3Attr (fun k => noLoops rfl) (fun args m r h => match args, h with
    | [t0], h => ⟨rfl, (xe_spec_l3Attr t0 m).trans h⟩)
theorem ok_C_spec_l3Attr : OkC CT 136 C_spec_l3Attr := fcall_ok rfl ok_X_spec_l3Attr

/-! ### spec.l2Table -/
noncomputable def cf_spec_l2Table : CallF := cfc 72 C_spec_l1In cfn
noncomputable def X_spec_l2Table : List Value → Mem → Option VM
  | [t0], m =>
    (C_spec_l1In [t0, (.int .i64 1), (.int .i64 3)] m) |> bo fun r1 =>
    retK m.length r1.2 [t0] r1.1
  | _, _ => none
noncomputable def C_spec_l2Table : List Value → Mem → Option VM := fcall X_spec_l2Table
@[simp] theorem c_spec_l2Table : C_spec_l2Table = fcall X_spec_l2Table := (rfl)
theorem cok_spec_l2Table : codeOk CT Try.f137 (Try.f137.body.get rfl) = true := by kernel_rfl
theorem xe_spec_l2Table (t0 : Value) (m : Mem) : ex CT cf_spec_l2Table Try.f137 1 m.length [] (fun _ _ _ => none) 400 [.code (Try.f137.body.get rfl)] (argsT 0 [t0]) m = X_spec_l2Table [t0] m := by kernel_rfl
theorem okc_spec_l2Table : CallOK CT cf_spec_l2Table := cfc_ok ok_C_spec_l1In cfn_ok
theorem ok_X_spec_l2Table : OkX CT 137 X_spec_l2Table := OkX.of_ex (cf := cf_spec_l2Table) (np := 1) (LL := []) (J := (fun _ _ _ _ => none)) CT_ok rfl Try.func137 rfl (Nat.le_of_ble_eq_true rfl) (by decide) cok_spec_l2Table okc_spec_l2Table (fun k => noLoops rfl) (fun args m r h => match args, h with
    | [t0], h => ⟨rfl, (xe_spec_l2Table t0 m).trans h⟩)
theorem ok_C_spec_l2Table : OkC CT 137 C_spec_l2Table := fcall_ok rfl ok_X_spec_l2Table

/-! ### spec.l5Ranges -/
noncomputable def cf_spec_l5Ranges : CallF := cfc 72 C_spec_l1In (cfc 135 C_spec_l3Place (cfc 136 C_spec_l3Attr (cfc 137 C_spec_l2Table cfn)))
noncomputable def X_spec_l5Ranges : List Value → Mem → Option VM
  | [t0], m =>
    (nilX t0) |> bo fun t4 =>
    (fadX 0 t4) |> bo fun t5 =>
    (nilX t0) |> bo fun t7 =>
    (fadX 4 t7) |> bo fun t8 =>
    (ld1 m t8) |> bo fun t9 =>
    (nilX t0) |> bo fun t11 =>
    (fadX 5 t11) |> bo fun t12 =>
    (ld1 m t12) |> bo fun t13 =>
    (C_spec_l3Place [t5, t9, t13] m) |> bo fun r9 =>
    (uop .not r9.1) |> bo fun t15 =>
    (gd t15 false (some (t0, r9.2)) r9.2) |> bo fun r11 =>
    (gd t15 false ((nilX r11.1) |> bo fun v => some (v, r11.2)) r11.2) |> bo fun r12 =>
    (gd t15 false ((fadX 7 r12.1) |> bo fun v => some (v, r12.2)) r12.2) |> bo fun r13 =>
    (gd t15 false ((ld1 r13.2 r13.1) |> bo fun v => some (v, r13.2)) r13.2) |> bo fun r14 =>
    (gd t15 false ((C_spec_l3Attr [r14.1] r14.2) |> bo fun r => some (r.1, r.2)) r14.2) |> bo fun r15 =>
    (gd t15 false ((uop .not r15.1) |> bo fun v => some (v, r15.2)) r15.2) |> bo fun r16 =>
    (pickX t15 (.bool true) r16.1) |> bo fun t23 =>
    (gd t23 false (some (t0, r16.2)) r16.2) |> bo fun r18 =>
    (gd t23 false ((nilX r18.1) |> bo fun v => some (v, r18.2)) r18.2) |> bo fun r19 =>
    (gd t23 false ((fadX 14 r19.1) |> bo fun v => some (v, r19.2)) r19.2) |> bo fun r20 =>
    (gd t23 false ((ld1 r20.2 r20.1) |> bo fun v => some (v, r20.2)) r20.2) |> bo fun r21 =>
    (gd t23 false ((C_spec_l1In [r21.1, (.int .i64 0), (.int .i64 5)] r21.2) |> bo fun r => some (r.1, r.2)) r21.2) |> bo fun r22 =>
    (gd t23 false ((uop .not r22.1) |> bo fun v => some (v, r22.2)) r22.2) |> bo fun r23 =>
    (pickX t23 (.bool true) r23.1) |> bo fun t31 =>
    (gd t31 false (some (t0, r23.2)) r23.2) |> bo fun r25 =>
    (gd t31 false ((nilX r25.1) |> bo fun v => some (v, r25.2)) r25.2) |> bo fun r26 =>
    (gd t31 false ((fadX 15 r26.1) |> bo fun v => some (v, r26.2)) r26.2) |> bo fun r27 =>
    (gd t31 false ((ld1 r27.2 r27.1) |> bo fun v => some (v, r27.2)) r27.2) |> bo fun r28 =>
    (gd t31 false ((C_spec_l1In [r28.1, (.int .i64 0), (.int .i64 11)] r28.2) |> bo fun r => some (r.1, r.2)) r28.2) |> bo fun r29 =>
    (gd t31 false ((uop .not r29.1) |> bo fun v => some (v, r29.2)) r29.2) |> bo fun r30 =>
    (pickX t31 (.bool true) r30.1) |> bo fun t39 =>
    (gd t39 false (some (t0, r30.2)) r30.2) |> bo fun r32 =>
    (gd t39 false ((nilX r32.1) |> bo fun v => some (v, r32.2)) r32.2) |> bo fun r33 =>
    (gd t39 false ((fadX 16 r33.1) |> bo fun v => some (v, r33.2)) r33.2) |> bo fun r34 =>
    (gd t39 false ((ld1 r34.2 r34.1) |> bo fun v => some (v, r34.2)) r34.2) |> bo fun r35 =>
    (gd t39 false ((C_spec_l3Attr [r35.1] r35.2) |> bo fun r => some (r.1, r.2)) r35.2) |> bo fun r36 =>
    (gd t39 false ((uop .not r36.1) |> bo fun v => some (v, r36.2)) r36.2) |> bo fun r37 =>
    (pickX t39 (.bool true) r37.1) |> bo fun t47 =>
    brX t47
      (
        retK m.length r37.2 [t0] (.bool false))
      (
        (nilX t0) |> bo fun t49 =>
        (fadX 17 t49) |> bo fun t50 =>
        (ld1 r37.2 t50) |> bo fun t51 =>
        (lenX t51) |> bo fun t52 =>
        (binX .neq .no t52 (.int .i64 2)) |> bo fun t53 =>
        (gd t53 false (some (t0, r37.2)) r37.2) |> bo fun r44 =>
        (gd t53 false ((nilX r44.1) |> bo fun v => some (v, r44.2)) r44.2) |> bo fun r45 =>
        (gd t53 false ((fadX 17 r45.1) |> bo fun v => some (v, r45.2)) r45.2) |> bo fun r46 =>
        (gd t53 false ((ld1 r46.2 r46.1) |> bo fun v => some (v, r46.2)) r46.2) |> bo fun r47 =>
        (gd t53 false ((ixaX 1 r47.1 (.int .i64 0)) |> bo fun v => some (v, r47.2)) r47.2) |> bo fun r48 =>
        (gd t53 false ((ld1 r48.2 r48.1) |> bo fun v => some (v, r48.2)) r48.2) |> bo fun r49 =>
        (gd t53 false ((C_spec_l2Table [r49.1] r49.2) |> bo fun r => some (r.1, r.2)) r49.2) |> bo fun r50 =>
        (gd t53 false ((uop .not r50.1) |> bo fun v => some (v, r50.2)) r50.2) |> bo fun r51 =>
        (pickX t53 (.bool true) r51.1) |> bo fun t63 =>
        (gd t63 false (some (t0, r51.2)) r51.2) |> bo fun r53 =>
        (gd t63 false ((nilX r53.1) |> bo fun v => some (v, r53.2)) r53.2) |> bo fun r54 =>
        (gd t63 false ((fadX 17 r54.1) |> bo fun v => some (v, r54.2)) r54.2) |> bo fun r55 =>
        (gd t63 false ((ld1 r55.2 r55.1) |> bo fun v => some (v, r55.2)) r55.2) |> bo fun r56 =>
        (gd t63 false ((ixaX 1 r56.1 (.int .i64 1)) |> bo fun v => some (v, r56.2)) r56.2) |> bo fun r57 =>
        (gd t63 false ((ld1 r57.2 r57.1) |> bo fun v => some (v, r57.2)) r57.2) |> bo fun r58 =>
        (gd t63 false ((C_spec_l2Table [r58.1] r58.2) |> bo fun r => some (r.1, r.2)) r58.2) |> bo fun r59 =>
        (gd t63 false ((uop .not r59.1) |> bo fun v => some (v, r59.2)) r59.2) |> bo fun r60 =>
        (pickX t63 (.bool true) r60.1) |> bo fun t73 =>
        brX t73
          (
            retK m.length r60.2 [t0] (.bool false))
          (
            (nilX t0) |> bo fun t75 =>
            (fadX 18 t75) |> bo fun t76 =>
            (ld1 r60.2 t76) |> bo fun t77 =>
            (C_spec_l1In [t77, (.int .i64 0), (.int .i64 1)] r60.2) |> bo fun r65 =>
            (gd r65.1 true (some (t0, r65.2)) r65.2) |> bo fun r66 =>
            (gd r65.1 true ((nilX r66.1) |> bo fun v => some (v, r66.2)) r66.2) |> bo fun r67 =>
            (gd r65.1 true ((fadX 19 r67.1) |> bo fun v => some (v, r67.2)) r67.2) |> bo fun r68 =>
            (gd r65.1 true ((ld1 r68.2 r68.1) |> bo fun v => some (v, r68.2)) r68.2) |> bo fun r69 =>
            (gd r65.1 true ((C_spec_l1In [r69.1, (.int .i64 0), (.int .i64 999)] r69.2) |> bo fun r => some (r.1, r.2)) r69.2) |> bo fun r70 =>
            (pickX r65.1 r70.1 (.bool false)) |> bo fun t85 =>
            retK m.length r70.2 [t0] t85))
  | _, _ => none
noncomputable def C_spec_l5Ranges : List Value → Mem → Option VM := fcall X_spec_l5Ranges
@[simp] theorem c_spec_l5Ranges : C_spec_l5Ranges = fcall X_spec_l5Ranges := (rfl)
theorem cok_spec_l5Ranges : codeOk CT Try.f100 (Try.f100.body.get rfl) = true := by kernel_rfl
theorem xe_spec_l5Ranges (t0 : Value) (m : Mem) : ex CT cf_spec_l5Ranges Try.f100 1 m.length [] (fun _ _ _ => none) 400 [.code (Try.f100.body.get rfl)] (argsT 0 [t0]) m = X_spec_l5Ranges [t0] m := by kernel_rfl
theorem okc_spec_l5Ranges : CallOK CT cf_spec_l5Ranges := cfc_ok ok_C_spec_l1In (cfc_ok ok_C_spec_l3Place (cfc_ok ok_C_spec_l3Attr (cfc_ok ok_C_spec_l2Table cfn_ok)))
theorem ok_X_spec_l5Ranges : OkX CT 100 X_spec_l5Ranges := OkX.of_ex (cf := cf_spec_l5Ranges) (np := 1) (LL := []) (J := (fun _ _ _ _ => none)) CT_ok rfl Try.func100 rfl (Nat.le_of_ble_eq_true rfl) (by decide) cok_spec_l5Ranges okc_spec_l5Ranges (fun k => noLoops rfl) (fun args m r h => match args, h with
    | [t0], h => ⟨rfl, (xe_spec_l5Ranges t0 m).trans h⟩)
theorem ok_C_spec_l5Ranges : OkC CT 100 C_spec_l5Ranges := fcall_ok rfl ok_X_spec_l5Ranges

/-! ### spec.l5Region -/
noncomputable def cf_spec_l5Region : CallF := cfn
noncomputable def X_spec_l5Region : List Value → Mem → Option VM
  | [t0, t1, t2], m =>
    (binX .geq .no t0 (.int .i64 0)) |> bo fun t8 =>
    (gd t8 true (some (t1, m)) m) |> bo fun r2 =>
    (gd t8 true (some (t2, r2.2)) r2.2) |> bo fun r3 =>
    (gd t8 true ((binX .lss .no r2.1 r3.1) |> bo fun v => some (v, r3.2)) r3.2) |> bo fun r4 =>
    (pickX t8 r4.1 (.bool false)) |> bo fun t13 =>
    (gd t13 true (some (t0, r4.2)) r4.2) |> bo fun r6 =>
    (gd t13 true (some (t1, r6.2)) r6.2) |> bo fun r7 =>
    (gd t13 true ((binX .lss .no r6.1 r7.1) |> bo fun v => some (v, r7.2)) r7.2) |> bo fun r8 =>
    (gd t13 true (some (r8.1, r8.2)) r8.2) |> bo fun r9 =>
    (gd r9.1 false (some (t0, r9.2)) r9.2) |> bo fun r10 =>
    (gd r9.1 false ((binX .eql .no r10.1 (.int .i64 0)) |> bo fun v => some (v, r10.2)) r10.2) |> bo fun r11 =>
    (gd r9.1 false (some (r11.1, r11.2)) r11.2) |> bo fun r12 =>
    (gd r12.1 true (some (t1, r12.2)) r12.2) |> bo fun r13 =>
    (gd r12.1 true (some (t2, r13.2)) r13.2) |> bo fun r14 =>
    (gd r12.1 true ((binX .sub .no r14.1 (.int .i64 1)) |> bo fun v => some (v, r14.2)) r14.2) |> bo fun r15 =>
    (gd r12.1 true ((binX .eql .no r13.1 r15.1) |> bo fun v => some (v, r15.2)) r15.2) |> bo fun r16 =>
    (gd r9.1 false ((pickX r12.1 r16.1 (.bool false)) |> bo fun v => some (v, r16.2)) r16.2) |> bo fun r17 =>
    (gd t13 true ((pickX r9.1 (.bool true) r17.1) |> bo fun v => some (v, r17.2)) r17.2) |> bo fun r18 =>
    (pickX t13 r18.1 (.bool false)) |> bo fun t28 =>
    retK m.length r18.2 [t0, t1, t2] t28
  | _, _ => none
noncomputable def C_spec_l5Region : List Value → Mem → Option VM := fcall X_spec_l5Region
@[simp] theorem c_spec_l5Region : C_spec_l5Region = fcall X_spec_l5Region := (rfl)
theorem cok_spec_l5Region : codeOk CT Try.f138 (Try.f138.body.get rfl) = true := by kernel_rfl
theorem xe_spec_l5Region (t0 t1 t2 : Value) (m : Mem) : ex CT cf_spec_l5Region Try.f138 3 m.length [] (fun _ _ _ => none) 400 [.code (Try.f138.body.get rfl)] (argsT 0 [t0, t1, t2]) m = X_spec_l5Region [t0, t1, t2] m := by kernel_rfl
theorem okc_spec_l5Region : CallOK CT cf_spec_l5Region := cfn_ok
theorem ok_X_spec_l5Region : OkX CT 138 X_spec_l5Region := OkX.of_ex (cf := cf_spec_l5Region) (np := 3) (LL := []) (J := (fun _ _ _ _ => none)) CT_ok rfl Try.func138 rfl (Nat.le_of_ble_eq_true rfl) (by decide) cok_spec_l5Region okc_spec_l5Region (fun k => noLoops rfl) (fun args m r h => match args, h with
    | [t0, t1, t2], h => ⟨rfl, (xe_spec_l5Region t0 t1 t2 m).trans h⟩)
theorem ok_C_spec_l5Region : OkC CT 138 C_spec_l5Region := fcall_ok rfl ok_X_spec_l5Region

/-! ### spec.l5Form -/
noncomputable def cf_spec_l5Form : CallF := cfc 72 C_spec_l1In (cfc 138 C_spec_l5Region cfn)
noncomputable def X_spec_l5Form : List Value → Mem → Option VM
  | [t0], m =>
    (nilX t0) |> bo fun t4 =>
    (fadX 8 t4) |> bo fun t5 =>
    (ld1 m t5) |> bo fun t6 =>
    (nilX t0) |> bo fun t8 =>
    (fadX 9 t8) |> bo fun t9 =>
    (ld1 m t9) |> bo fun t10 =>
    (nilX t0) |> bo fun t12 =>
    (fadX 0 t12) |> bo fun t13 =>
    (fadX 0 t13) |> bo fun t14 =>
    (ld1 m t14) |> bo fun t15 =>
    (C_spec_l5Region [t6, t10, t15] m) |> bo fun r11 =>
    (uop .not r11.1) |> bo fun t17 =>
    (gd t17 false (some (t0, r11.2)) r11.2) |> bo fun r13 =>
    (gd t17 false ((nilX r13.1) |> bo fun v => some (v, r13.2)) r13.2) |> bo fun r14 =>
    (gd t17 false ((fadX 13 r14.1) |> bo fun v => some (v, r14.2)) r14.2) |> bo fun r15 =>
    (gd t17 false ((ld1 r15.2 r15.1) |> bo fun v => some (v, r15.2)) r15.2) |> bo fun r16 =>
    (gd t17 false ((lenX r16.1) |> bo fun v => some (v, r16.2)) r16.2) |> bo fun r17 =>
    (gd t17 false (some (t0, r17.2)) r17.2) |> bo fun r18 =>
    (gd t17 false ((nilX r18.1) |> bo fun v => some (v, r18.2)) r18.2) |> bo fun r19 =>
    (gd t17 false ((fadX 0 r19.1) |> bo fun v => some (v, r19.2)) r19.2) |> bo fun r20 =>
    (gd t17 false ((fadX 1 r20.1) |> bo fun v => some (v, r20.2)) r20.2) |> bo fun r21 =>
    (gd t17 false ((ld1 r21.2 r21.1) |> bo fun v => some (v, r21.2)) r21.2) |> bo fun r22 =>
    (gd t17 false ((binX .neq .no r17.1 r22.1) |> bo fun v => some (v, r22.2)) r22.2) |> bo fun r23 =>
    (pickX t17 (.bool true) r23.1) |> bo fun t30 =>
    brX t30
      (
        retK m.length r23.2 [t0] (.bool false))
      (
        (nilX t0) |> bo fun t32 =>
        (fadX 6 t32) |> bo fun t33 =>
        (ld1 r23.2 t33) |> bo fun t34 =>
        (gd t34 true (some (t0, r23.2)) r23.2) |> bo fun r28 =>
        (gd t34 true ((nilX r28.1) |> bo fun v => some (v, r28.2)) r28.2) |> bo fun r29 =>
        (gd t34 true ((fadX 11 r29.1) |> bo fun v => some (v, r29.2)) r29.2) |> bo fun r30 =>
        (gd t34 true ((ld1 r30.2 r30.1) |> bo fun v => some (v, r30.2)) r30.2) |> bo fun r31 =>
        (gd t34 true ((uop .not r31.1) |> bo fun v => some (v, r31.2)) r31.2) |> bo fun r32 =>
        (gd t34 true (some (r32.1, r32.2)) r32.2) |> bo fun r33 =>
        (gd r33.1 false (some (t0, r33.2)) r33.2) |> bo fun r34 =>
        (gd r33.1 false ((nilX r34.1) |> bo fun v => some (v, r34.2)) r34.2) |> bo fun r35 =>
        (gd r33.1 false ((fadX 5 r35.1) |> bo fun v => some (v, r35.2)) r35.2) |> bo fun r36 =>
        (gd r33.1 false ((ld1 r36.2 r36.1) |> bo fun v => some (v, r36.2)) r36.2) |> bo fun r37 =>
        (gd r33.1 false (some (t0, r37.2)) r37.2) |> bo fun r38 =>
        (gd r33.1 false ((nilX r38.1) |> bo fun v => some (v, r38.2)) r38.2) |> bo fun r39 =>
        (gd r33.1 false ((fadX 0 r39.1) |> bo fun v => some (v, r39.2)) r39.2) |> bo fun r40 =>
        (gd r33.1 false ((fadX 1 r40.1) |> bo fun v => some (v, r40.2)) r40.2) |> bo fun r41 =>
        (gd r33.1 false ((ld1 r41.2 r41.1) |> bo fun v => some (v, r41.2)) r41.2) |> bo fun r42 =>
        (gd r33.1 false ((binX .sub .no r42.1 (.int .i64 1)) |> bo fun v => some (v, r42.2)) r42.2) |> bo fun r43 =>
        (gd r33.1 false ((binX .neq .no r37.1 r43.1) |> bo fun v => some (v, r43.2)) r43.2) |> bo fun r44 =>
        (gd t34 true ((pickX r33.1 (.bool true) r44.1) |> bo fun v => some (v, r44.2)) r44.2) |> bo fun r45 =>
        (pickX t34 r45.1 (.bool false)) |> bo fun t54 =>
        brX t54
          (
            retK m.length r45.2 [t0] (.bool false))
          (
            (nilX t0) |> bo fun t56 =>
            (fadX 10 t56) |> bo fun t57 =>
            (ld1 r45.2 t57) |> bo fun t58 =>
            (uop .not t58) |> bo fun t59 =>
            (gd t59 false (some (t0, r45.2)) r45.2) |> bo fun r51 =>
            (gd t59 false ((nilX r51.1) |> bo fun v => some (v, r51.2)) r51.2) |> bo fun r52 =>
            (gd t59 false ((fadX 4 r52.1) |> bo fun v => some (v, r52.2)) r52.2) |> bo fun r53 =>
            (gd t59 false ((ld1 r53.2 r53.1) |> bo fun v => some (v, r53.2)) r53.2) |> bo fun r54 =>
            (gd t59 false (some (t0, r54.2)) r54.2) |> bo fun r55 =>
            (gd t59 false ((nilX r55.1) |> bo fun v => some (v, r55.2)) r55.2) |> bo fun r56 =>
            (gd t59 false ((fadX 8 r56.1) |> bo fun v => some (v, r56.2)) r56.2) |> bo fun r57 =>
            (gd t59 false ((ld1 r57.2 r57.1) |> bo fun v => some (v, r57.2)) r57.2) |> bo fun r58 =>
            (gd t59 false (some (t0, r58.2)) r58.2) |> bo fun r59 =>
            (gd t59 false ((nilX r59.1) |> bo fun v => some (v, r59.2)) r59.2) |> bo fun r60 =>
            (gd t59 false ((fadX 9 r60.1) |> bo fun v => some (v, r60.2)) r60.2) |> bo fun r61 =>
            (gd t59 false ((ld1 r61.2 r61.1) |> bo fun v => some (v, r61.2)) r61.2) |> bo fun r62 =>
            (gd t59 false ((C_spec_l1In [r54.1, r58.1, r62.1] r62.2) |> bo fun r => some (r.1, r.2)) r62.2) |> bo fun r63 =>
            (pickX t59 (.bool true) r63.1) |> bo fun t74 =>
            retK m.length r63.2 [t0] t74))
  | _, _ => none
noncomputable def C_spec_l5Form : List Value → Mem → Option VM := fcall X_spec_l5Form
@[simp] theorem c_spec_l5Form : C_spec_l5Form = fcall X_spec_l5Form := (rfl)
theorem cok_spec_l5Form : codeOk CT Try.f101 (Try.f101.body.get rfl) = true := by kernel_rfl
theorem xe_spec_l5Form (t0 : Value) (m : Mem) : ex CT cf_spec_l5Form Try.f101 1 m.length [] (fun _ _ _ => none) 400 [.code (Try.f101.body.get rfl)] (argsT 0 [t0]) m = X_spec_l5Form [t0] m := by kernel_rfl
theorem okc_spec_l5Form : CallOK CT cf_spec_l5Form := cfc_ok ok_C_spec_l1In (cfc_ok ok_C_spec_l5Region cfn_ok)
theorem ok_X_spec_l5Form : OkX CT 101 X_spec_l5Form := OkX.of_ex (cf := cf_spec_l5Form) (np := 1) (LL := []) (J := (fun _ _ _ _ => none)) CT_ok rfl Try.func101 rfl (Nat.le_of_ble_eq_true rfl) (by decide) cok_spec_l5Form okc_spec_l5Form (fun k => noLoops rfl) (fun args m r h => match args, h with
    | [t0], h => ⟨rfl, (xe_spec_l5Form t0 m).trans h⟩)
theorem ok_C_spec_l5Form : OkC CT 101 C_spec_l5Form := fcall_ok rfl ok_X_spec_l5Form

/-! ### spec.l5Fault -/
noncomputable def cf_spec_l5Fault : CallF := cfc 99 C_spec_l3Fault (cfc 100 C_spec_l5Ranges (cfc 101 C_spec_l5Form cfn))
noncomputable def X_spec_l5Fault : List Value → Mem → Option VM
  | [t0], m =>
    (nilX t0) |> bo fun t5 =>
    (fadX 0 t5) |> bo fun t6 =>
    (C_spec_l3Fault [t6] m) |> bo fun r3 =>
    (binX .neq .no r3.1 (.int .i64 0)) |> bo fun t9 =>
    brX t9
      (
        retK m.length r3.2 [t0] r3.1)
      (
        (C_spec_l5Ranges [t0] r3.2) |> bo fun r5 =>
        (uop .not r5.1) |> bo fun t13 =>
        brX t13
          (
            retK m.length r5.2 [t0] (.int .i64 3))
          (
            (C_spec_l5Form [t0] r5.2) |> bo fun r7 =>
            (uop .not r7.1) |> bo fun t16 =>
            brX t16
              (
                retK m.length r7.2 [t0] (.int .i64 1))
              (
                retK m.length r7.2 [t0] (.int .i64 0))))
  | _, _ => none
noncomputable def C_spec_l5Fault : List Value → Mem → Option VM := fcall X_spec_l5Fault
@[simp] theorem c_spec_l5Fault : C_spec_l5Fault = fcall X_spec_l5Fault := (rfl)
theorem cok_spec_l5Fault : codeOk CT Try.f51 (Try.f51.body.get rfl) = true := by kernel_rfl
theorem xe_spec_l5Fault (t0 : Value) (m : Mem) : ex CT cf_spec_l5Fault Try.f51 1 m.length [] (fun _ _ _ => none) 400 [.code (Try.f51.body.get rfl)] (argsT 0 [t0]) m = X_spec_l5Fault [t0] m := by kernel_rfl
theorem okc_spec_l5Fault : CallOK CT cf_spec_l5Fault := cfc_ok ok_C_spec_l3Fault (cfc_ok ok_C_spec_l5Ranges (cfc_ok ok_C_spec_l5Form cfn_ok))
theorem ok_X_spec_l5Fault : OkX CT 51 X_spec_l5Fault := OkX.of_ex (cf := cf_spec_l5Fault) (np := 1) (LL := []) (J := (fun _ _ _ _ => none)) CT_ok rfl Try.func51 rfl (Nat.le_of_ble_eq_true rfl) (by decide) cok_spec_l5Fault okc_spec_l5Fault (fun k => noLoops rfl) (fun args m r h => match args, h with
    | [t0], h => ⟨rfl, (xe_spec_l5Fault t0 m).trans h⟩)
theorem ok_C_spec_l5Fault : OkC CT 51 C_spec_l5Fault := fcall_ok rfl ok_X_spec_l5Fault

/-! ### spec.l5Bad -/
noncomputable def cf_spec_l5Bad : CallF := cfn
noncomputable def X_spec_l5Bad : List Value → Mem → Option VM
  | [t0], m =>
    (alX m [.int .i64 0, .int .i64 0, .int .i64 0, .slice none 0 0, .slice none 0 0, .int .i64 0, .int .i64 0, .bool false, .int .i64 0, .int .i64 0, .int .i64 0, .bool false, .bool false, .bool false, .slice none 0 0, .int .i64 0, .int .i64 0, .int .i64 0, .slice none 0 0, .int .i64 0, .int .i64 0]) |> bo fun r1 =>
    (bldX [.int .i64 0, .int .i64 0, .int .i64 0, .slice none 0 0, .slice none 0 0, .int .i64 0, .int .i64 0, .bool false, .int .i64 0, .int .i64 0, .int .i64 0, .bool false, .bool false, .bool false, .slice none 0 0, .int .i64 0, .int .i64 0, .int .i64 0, .slice none 0 0, .int .i64 0, .int .i64 0] [(0, 1, t0)]) |> bo fun t4 =>
    (stX r1.2 21 r1.1 t4) |> bo fun m3 =>
    (resP (some 21) m3 r1.1) |> bo fun c4 =>
    retK m.length m3 [t0] c4
  | _, _ => none
noncomputable def C_spec_l5Bad : List Value → Mem → Option VM := fcall X_spec_l5Bad
@[simp] theorem c_spec_l5Bad : C_spec_l5Bad = fcall X_spec_l5Bad := (rfl)
theorem cok_spec_l5Bad : codeOk CT Try.f52 (Try.f52.body.get rfl) = true := by kernel_rfl
theorem xe_spec_l5Bad (t0 : Value) (m : Mem) : ex CT cf_spec_l5Bad Try.f52 1 m.length [] (fun _ _ _ => none) 400 [.code (Try.f52.body.get rfl)] (argsT 0 [t0]) m = X_spec_l5Bad [t0] m := by kernel_rfl
theorem okc_spec_l5Bad : CallOK CT cf_spec_l5Bad := cfn_ok
theorem ok_X_spec_l5Bad : OkX CT 52 X_spec_l5Bad := OkX.of_ex (cf := cf_spec_l5Bad) (np := 1) (LL := []) (J := (fun _ _ _ _ => none)) CT_ok rfl Try.func52 rfl (Nat.le_of_ble_eq_true rfl) (by decide) cok_spec_l5Bad okc_spec_l5Bad (fun k => noLoops rfl) (fun args m r h => match args, h with
    | [t0], h => ⟨rfl, (xe_spec_l5Bad t0 m).trans h⟩)
theorem ok_C_spec_l5Bad : OkC CT 52 C_spec_l5Bad := fcall_ok rfl ok_X_spec_l5Bad

/-! ### spec.l3Copy -/
noncomputable def cf_spec_l3Copy : CallF := cfn
noncomputable def X_spec_l3Copy : List Value → Mem → Option VM
  | [t0], m =>
    (boxX m t0) |> bo fun r1 =>
    (alX r1.2 [.int .i64 0, .int .i64 0, .slice none 0 0, .slice none 0 0]) |> bo fun r2 =>
    (bslX r2.2 0 2 [.int .i64 0, .int .i64 0] []) |> bo fun r3 =>
    (fadX 2 r1.1) |> bo fun t4 =>
    (ld1 r3.2 t4) |> bo fun t5 =>
    (apL r3.2 2 16 r3.1 t5) |> bo fun r6 =>
    (fadX 2 r1.1) |> bo fun t7 =>
    (stX r6.2 1 t7 r6.1) |> bo fun m8 =>
    (bslX m8 0 2 [.int .i64 0, .int .i64 0] []) |> bo fun r9 =>
    (fadX 3 r1.1) |> bo fun t9 =>
    (ld1 r9.2 t9) |> bo fun t10 =>
    (apL r9.2 2 16 r9.1 t10) |> bo fun r12 =>
    (fadX 3 r1.1) |> bo fun t12 =>
    (stX r12.2 1 t12 r12.1) |> bo fun m14 =>
    (ldS m14 4 r1.1) |> bo fun t13 =>
    (stX m14 4 r2.1 t13) |> bo fun m16 =>
    (resP (some 4) m16 r2.1) |> bo fun c17 =>
    retK m.length m16 [t0] c17
  | _, _ => none
noncomputable def C_spec_l3Copy : List Value → Mem → Option VM := fcall X_spec_l3Copy
@[simp] theorem c_spec_l3Copy : C_spec_l3Copy = fcall X_spec_l3Copy := (rfl)
theorem cok_spec_l3Copy : codeOk CT Try.f102 (Try.f102.body.get rfl) = true := by kernel_rfl
theorem xe_spec_l3Copy (t0 : Value) (m : Mem) : ex CT cf_spec_l3Copy Try.f102 1 m.length [] (fun _ _ _ => none) 400 [.code (Try.f102.body.get rfl)] (argsT 0 [t0]) m = X_spec_l3Copy [t0] m := by kernel_rfl
theorem okc_spec_l3Copy : CallOK CT cf_spec_l3Copy := cfn_ok
theorem ok_X_spec_l3Copy : OkX CT 102 X_spec_l3Copy := OkX.of_ex (cf := cf_spec_l3Copy) (np := 1) (LL := []) (J := (fun _ _ _ _ => none)) CT_ok rfl Try.func102 rfl (Nat.le_of_ble_eq_true rfl) (by decide) cok_spec_l3Copy okc_spec_l3Copy (fun k => noLoops rfl) (fun args m r h => match args, h with
    | [t0], h => ⟨rfl, (xe_spec_l3Copy t0 m).trans h⟩)
theorem ok_C_spec_l3Copy : OkC CT 102 C_spec_l3Copy := fcall_ok rfl ok_X_spec_l3Copy

/-! ### spec.l5Copy -/
noncomputable def cf_spec_l5Copy : CallF := cfc 102 C_spec_l3Copy cfn
noncomputable def X_spec_l5Copy : List Value → Mem → Option VM
  | [t0], m =>
    (boxX m t0) |> bo fun r1 =>
    (alX r1.2 [.int .i64 0, .int .i64 0, .slice none 0 0, .slice none 0 0, .int .i64 0, .int .i64 0, .bool false, .int .i64 0, .int .i64 0, .int .i64 0, .bool false, .bool false, .bool false, .slice none 0 0, .int .i64 0, .int .i64 0, .int .i64 0, .slice none 0 0, .int .i64 0, .int .i64 0]) |> bo fun r2 =>
    (fadX 0 r1.1) |> bo fun t3 =>
    (ldS r2.2 4 t3) |> bo fun t4 =>
    (C_spec_l3Copy [t4] r2.2) |> bo fun r5 =>
    (fadX 0 r1.1) |> bo fun t6 =>
    (stX r5.2 4 t6 r5.1) |> bo fun m7 =>
    (bslX m7 0 1 [.bool false] []) |> bo fun r8 =>
    (fadX 13 r1.1) |> bo fun t8 =>
    (ld1 r8.2 t8) |> bo fun t9 =>
    (apL r8.2 1 1 r8.1 t9) |> bo fun r11 =>
    (fadX 13 r1.1) |> bo fun t11 =>
    (stX r11.2 1 t11 r11.1) |> bo fun m13 =>
    (bslX m13 0 1 [.int .i64 0] []) |> bo fun r14 =>
    (fadX 17 r1.1) |> bo fun t13 =>
    (ld1 r14.2 t13) |> bo fun t14 =>
    (apL r14.2 1 8 r14.1 t14) |> bo fun r17 =>
    (fadX 17 r1.1) |> bo fun t16 =>
    (stX r17.2 1 t16 r17.1) |> bo fun m19 =>
    (ldS m19 20 r1.1) |> bo fun t17 =>
    (stX m19 20 r2.1 t17) |> bo fun m21 =>
    (resP (some 20) m21 r2.1) |> bo fun c22 =>
    retK m.length m21 [t0] c22
  | _, _ => none
noncomputable def C_spec_l5Copy : List Value → Mem → Option VM := fcall X_spec_l5Copy
@[simp] theorem c_spec_l5Copy : C_spec_l5Copy = fcall X_spec_l5Copy := (rfl)
theorem cok_spec_l5Copy : codeOk CT Try.f53 (Try.f53.body.get rfl) = true := by kernel_rfl
theorem xe_spec_l5Copy (t0 : Value) (m : Mem) : ex CT cf_spec_l5Copy Try.f53 1 m.length [] (fun _ _ _ => none) 400 [.code (Try.f53.body.get rfl)] (argsT 0 [t0]) m = X_spec_l5Copy [t0] m := by kernel_rfl
theorem okc_spec_l5Copy : CallOK CT cf_spec_l5Copy := cfc_ok ok_C_spec_l3Copy cfn_ok
theorem ok_X_spec_l5Copy : OkX CT 53 X_spec_l5Copy := OkX.of_ex (cf := cf_spec_l5Copy) (np := 1) (LL := []) (J := (fun _ _ _ _ => none)) CT_ok rfl Try.func53 rfl (Nat.le_of_ble_eq_true rfl) (by decide) cok_spec_l5Copy okc_spec_l5Copy (fun k => noLoops rfl) (fun args m r h => match args, h with
    | [t0], h => ⟨rfl, (xe_spec_l5Copy t0 m).trans h⟩)
theorem ok_C_spec_l5Copy : OkC CT 53 C_spec_l5Copy := fcall_ok rfl ok_X_spec_l5Copy

/-! ### spec.l1Min -/
noncomputable def cf_spec_l1Min : CallF := cfn
noncomputable def X_spec_l1Min : List Value → Mem → Option VM
  | [t0, t1], m =>
    (binX .lss .no t0 t1) |> bo fun t7 =>
    brX t7
      (
        retK m.length m [t0, t1] t0)
      (
        retK m.length m [t0, t1] t1)
  | _, _ => none
noncomputable def C_spec_l1Min : List Value → Mem → Option VM := fcall X_spec_l1Min
@[simp] theorem c_spec_l1Min : C_spec_l1Min = fcall X_spec_l1Min := (rfl)
theorem cok_spec_l1Min : codeOk CT Try.f55 (Try.f55.body.get rfl) = true := by kernel_rfl
theorem xe_spec_l1Min (t0 t1 : Value) (m : Mem) : ex CT cf_spec_l1Min Try.f55 2 m.length [] (fun _ _ _ => none) 400 [.code (Try.f55.body.get rfl)] (argsT 0 [t0, t1]) m = X_spec_l1Min [t0, t1] m := by kernel_rfl
theorem okc_spec_l1Min : CallOK CT cf_spec_l1Min := cfn_ok
theorem ok_X_spec_l1Min : OkX CT 55 X_spec_l1Min := OkX.of_ex (cf := cf_spec_l1Min) (np := 2) (LL := []) (J := (fun _ _ _ _ => none)) CT_ok rfl Try.func55 rfl (Nat.le_of_ble_eq_true rfl) (by decide) cok_spec_l1Min okc_spec_l1Min (fun k => noLoops rfl) (fun args m r h => match args, h with
    | [t0, t1], h => ⟨rfl, (xe_spec_l1Min t0 t1 m).trans h⟩)
theorem ok_C_spec_l1Min : OkC CT 55 C_spec_l1Min := fcall_ok rfl ok_X_spec_l1Min

/-! ### spec.l3Blanks -/
noncomputable def cf_spec_l3Blanks : CallF := cfn
noncomputable def L_spec_l3Blanks (k : Nat) : Nat → Nat → List Value → Mem → Option VM
  | q + 1, 0, [t0, t1, t5], m =>
    (binX .gtr .no t0 (.int .i64 0)) |> bo fun t8 =>
    brX t8
      (
        (bldX [.int .i64 0, .int .i64 0] [(0, 1, (.int .i64 32)), (1, 1, t1)]) |> bo fun t13 =>
        (bslX m 1 2 [.int .i64 0, .int .i64 0] [(0, 2, t13)]) |> bo fun r3 =>
        (apL r3.2 2 16 t5 r3.1) |> bo fun r4 =>
        (binX .sub .no t0 (.int .i64 1)) |> bo fun t10 =>
        cutK k r4.2 [t10, t1] [t10, t1, r4.1] (L_spec_l3Blanks k q 0))
      (
        retK k m [t0, t1] t5)
  | _, _, _, _ => none
noncomputable def J_spec_l3Blanks (k q l : Nat) : List Value → Mem → Option VM := cond (Nat.beq l 2) (L_spec_l3Blanks k q 0) (fun _ _ => none)
def LL_spec_l3Blanks : List (Nat × List Tmp) := [(2, [0, 1, 5])]
noncomputable def X_spec_l3Blanks : List Value → Mem → Option VM
  | [t0, t1], m =>
    (bslX m 0 2 [.int .i64 0, .int .i64 0] []) |> bo fun r1 =>
    cutK m.length r1.2 [t0, t1] [t0, t1, r1.1] (L_spec_l3Blanks m.length QQ 0)
  | _, _ => none
noncomputable def C_spec_l3Blanks : List Value → Mem → Option VM := fcall X_spec_l3Blanks
@[simp] theorem c_spec_l3Blanks : C_spec_l3Blanks = fcall X_spec_l3Blanks := (rfl)
theorem cok_spec_l3Blanks : codeOk CT Try.f139 (Try.f139.body.get rfl) = true := by kernel_rfl
theorem xe_spec_l3Blanks (t0 t1 : Value) (m : Mem) : ex CT cf_spec_l3Blanks Try.f139 2 m.length LL_spec_l3Blanks (J_spec_l3Blanks m.length QQ) 400 [.code (Try.f139.body.get rfl)] (argsT 0 [t0, t1]) m = X_spec_l3Blanks [t0, t1] m := by kernel_rfl
theorem okc_spec_l3Blanks : CallOK CT cf_spec_l3Blanks := cfn_ok
theorem le_spec_l3Blanks_0 (k q : Nat) (t0 t1 t5 : Value) (m : Mem) : ex CT cf_spec_l3Blanks Try.f139 2 k LL_spec_l3Blanks (J_spec_l3Blanks k q) 400 (atLoop Try.f139 0) [(0, t0), (1, t1), (5, t5)] m = J_spec_l3Blanks k (q + 1) 2 [t0, t1, t5] m := by kernel_rfl
theorem gl_spec_l3Blanks (k : Nat) : ∀ q i, i < 1 → GoodL CT k Try.f139 LL_spec_l3Blanks (J_spec_l3Blanks k q) (atLoop Try.f139 i)
  | 0, 0, _ => goodL_zero (l := 2) (by kernel_rfl) (fun vs m => by kernel_rfl)
  | 0, _ + 1, h => absurd h (by omega)
  | q + 1, 0, _ => goodL_succ (np := 2) (l := 2) (live := [0, 1, 5]) (n := 1) CT_ok rfl okc_spec_l3Blanks (c := (Try.f139.body.get rfl)) rfl cok_spec_l3Blanks (by kernel_rfl) (gl_spec_l3Blanks k q) (by kernel_rfl) rfl (fun vs m r hl h => match vs, hl with
    | [t0, t1, t5], _ => (le_spec_l3Blanks_0 k q t0 t1 t5 m).trans h)
  | _ + 1, _ + 1, h => absurd h (by omega)
theorem ok_X_spec_l3Blanks : OkX CT 139 X_spec_l3Blanks := OkX.of_ex (cf := cf_spec_l3Blanks) (np := 2) (LL := LL_spec_l3Blanks) (J := (fun k => J_spec_l3Blanks k QQ)) CT_ok rfl Try.func139 rfl (Nat.le_of_ble_eq_true rfl) (by decide) cok_spec_l3Blanks okc_spec_l3Blanks (fun k => allLoops rfl (by kernel_rfl) (gl_spec_l3Blanks k QQ)) (fun args m r h => match args, h with
    | [t0, t1], h => ⟨rfl, (xe_spec_l3Blanks t0 t1 m).trans h⟩)
theorem ok_C_spec_l3Blanks : OkC CT 139 C_spec_l3Blanks := fcall_ok rfl ok_X_spec_l3Blanks

/-! ### spec.l3New -/
noncomputable def cf_spec_l3New : CallF := cfc 139 C_spec_l3Blanks cfn
noncomputable def X_spec_l3New : List Value → Mem → Option VM
  | [t0, t1], m =>
    (alX m [.int .i64 0, .int .i64 0, .slice none 0 0, .slice none 0 0]) |> bo fun r1 =>
    (binX .mul .no t0 t1) |> bo fun t9 =>
    (C_spec_l3Blanks [t9, (.int .i64 0)] r1.2) |> bo fun r3 =>
    (bldX [.int .i64 0, .int .i64 0, .slice none 0 0, .slice none 0 0] [(0, 1, t0), (1, 1, t1), (2, 1, r3.1)]) |> bo fun t11 =>
    (stX r3.2 4 r1.1 t11) |> bo fun m5 =>
    (resP (some 4) m5 r1.1) |> bo fun c6 =>
    retK m.length m5 [t0, t1] c6
  | _, _ => none
noncomputable def C_spec_l3New : List Value → Mem → Option VM := fcall X_spec_l3New
@[simp] theorem c_spec_l3New : C_spec_l3New = fcall X_spec_l3New := (rfl)
theorem cok_spec_l3New : codeOk CT Try.f103 (Try.f103.body.get rfl) = true := by kernel_rfl
theorem xe_spec_l3New (t0 t1 : Value) (m : Mem) : ex CT cf_spec_l3New Try.f103 2 m.length [] (fun _ _ _ => none) 400 [.code (Try.f103.body.get rfl)] (argsT 0 [t0, t1]) m = X_spec_l3New [t0, t1] m := by kernel_rfl
theorem okc_spec_l3New : CallOK CT cf_spec_l3New := cfc_ok ok_C_spec_l3Blanks cfn_ok
theorem ok_X_spec_l3New : OkX CT 103 X_spec_l3New := OkX.of_ex (cf := cf_spec_l3New) (np := 2) (LL := []) (J := (fun _ _ _ _ => none)) CT_ok rfl Try.func103 rfl (Nat.le_of_ble_eq_true rfl) (by decide) cok_spec_l3New okc_spec_l3New (fun k => noLoops rfl) (fun args m r h => match args, h with
    | [t0, t1], h => ⟨rfl, (xe_spec_l3New t0 t1 m).trans h⟩)
theorem ok_C_spec_l3New : OkC CT 103 C_spec_l3New := fcall_ok rfl ok_X_spec_l3New

/-! ### spec.l3Row -/
noncomputable def cf_spec_l3Row : CallF := cfn
noncomputable def X_spec_l3Row : List Value → Mem → Option VM
  | [t0, t1, t2], m =>
    (nilX t0) |> bo fun t7 =>
    (fadX 2 t7) |> bo fun t8 =>
    (ld1 m t8) |> bo fun t9 =>
    (nilX t0) |> bo fun t12 =>
    (fadX 1 t12) |> bo fun t13 =>
    (ld1 m t13) |> bo fun t14 =>
    (binX .mul .no t1 t14) |> bo fun t15 =>
    (binX .add .no t1 (.int .i64 1)) |> bo fun t17 =>
    (nilX t0) |> bo fun t19 =>
    (fadX 1 t19) |> bo fun t20 =>
    (ld1 m t20) |> bo fun t21 =>
    (binX .mul .no t17 t21) |> bo fun t22 =>
    (slX m 2 t9 (some t15) (some t22)) |> bo fun t23 =>
    (cpL m 2 t23 t2) |> bo fun r14 =>
    retK m.length r14.2 [t0, t1, t2] (.tuple #[])
  | _, _ => none
noncomputable def C_spec_l3Row : List Value → Mem → Option VM := rcall X_spec_l3Row
@[simp] theorem c_spec_l3Row : C_spec_l3Row = rcall X_spec_l3Row := (rfl)
theorem cok_spec_l3Row : codeOk CT Try.f104 (Try.f104.body.get rfl) = true := by kernel_rfl
theorem xe_spec_l3Row (t0 t1 t2 : Value) (m : Mem) : ex CT cf_spec_l3Row Try.f104 3 m.length [] (fun _ _ _ => none) 400 [.code (Try.f104.body.get rfl)] (argsT 0 [t0, t1, t2]) m = X_spec_l3Row [t0, t1, t2] m := by kernel_rfl
theorem okc_spec_l3Row : CallOK CT cf_spec_l3Row := cfn_ok
theorem ok_X_spec_l3Row : OkX CT 104 X_spec_l3Row := OkX.of_ex (cf := cf_spec_l3Row) (np := 3) (LL := []) (J := (fun _ _ _ _ => none)) CT_ok rfl Try.func104 rfl (Nat.le_of_ble_eq_true rfl) (by decide) cok_spec_l3Row okc_spec_l3Row (fun k => noLoops rfl) (fun args m r h => match args, h with
    | [t0, t1, t2], h => ⟨rfl, (xe_spec_l3Row t0 t1 t2 m).trans h⟩)
theorem ok_C_spec_l3Row : OkC CT 104 C_spec_l3Row := rcall_ok rfl ok_X_spec_l3Row

/-! ### spec.l3Fit -/
noncomputable def cf_spec_l3Fit : CallF := cfc 139 C_spec_l3Blanks cfn
noncomputable def X_spec_l3Fit : List Value → Mem → Option VM
  | [t0, t1], m =>
    (C_spec_l3Blanks [t1, (.int .i64 0)] m) |> bo fun r1 =>
    (cpL r1.2 2 r1.1 t0) |> bo fun r2 =>
    retK m.length r2.2 [t0, t1] r1.1
  | _, _ => none
noncomputable def C_spec_l3Fit : List Value → Mem → Option VM := fcall X_spec_l3Fit
@[simp] theorem c_spec_l3Fit : C_spec_l3Fit = fcall X_spec_l3Fit := (rfl)
theorem cok_spec_l3Fit : codeOk CT Try.f105 (Try.f105.body.get rfl) = true := by kernel_rfl
theorem xe_spec_l3Fit (t0 t1 : Value) (m : Mem) : ex CT cf_spec_l3Fit Try.f105 2 m.length [] (fun _ _ _ => none) 400 [.code (Try.f105.body.get rfl)] (argsT 0 [t0, t1]) m = X_spec_l3Fit [t0, t1] m := by kernel_rfl
theorem okc_spec_l3Fit : CallOK CT cf_spec_l3Fit := cfc_ok ok_C_spec_l3Blanks cfn_ok
theorem ok_X_spec_l3Fit : OkX CT 105 X_spec_l3Fit := OkX.of_ex (cf := cf_spec_l3Fit) (np := 2) (LL := []) (J := (fun _ _ _ _ => none)) CT_ok rfl Try.func105 rfl (Nat.le_of_ble_eq_true rfl) (by decide) cok_spec_l3Fit okc_spec_l3Fit (fun k => noLoops rfl) (fun args m r h => match args, h with
    | [t0, t1], h => ⟨rfl, (xe_spec_l3Fit t0 t1 m).trans h⟩)
theorem ok_C_spec_l3Fit : OkC CT 105 C_spec_l3Fit := fcall_ok rfl ok_X_spec_l3Fit

/-! ### spec.l3RowOf -/
noncomputable def cf_spec_l3RowOf : CallF := cfn
noncomputable def X_spec_l3RowOf : List Value → Mem → Option VM
  | [t0, t1], m =>
    (bslX m 0 2 [.int .i64 0, .int .i64 0] []) |> bo fun r1 =>
    (nilX t0) |> bo fun t7 =>
    (fadX 2 t7) |> bo fun t8 =>
    (ld1 r1.2 t8) |> bo fun t9 =>
    (nilX t0) |> bo fun t12 =>
    (fadX 1 t12) |> bo fun t13 =>
    (ld1 r1.2 t13) |> bo fun t14 =>
    (binX .mul .no t1 t14) |> bo fun t15 =>
    (binX .add .no t1 (.int .i64 1)) |> bo fun t17 =>
    (nilX t0) |> bo fun t19 =>
    (fadX 1 t19) |> bo fun t20 =>
    (ld1 r1.2 t20) |> bo fun t21 =>
    (binX .mul .no t17 t21) |> bo fun t22 =>
    (slX r1.2 2 t9 (some t15) (some t22)) |> bo fun t23 =>
    (apL r1.2 2 16 r1.1 t23) |> bo fun r15 =>
    retK m.length r15.2 [t0, t1] r15.1
  | _, _ => none
noncomputable def C_spec_l3RowOf : List Value → Mem → Option VM := fcall X_spec_l3RowOf
@[simp] theorem c_spec_l3RowOf : C_spec_l3RowOf = fcall X_spec_l3RowOf := (rfl)
theorem cok_spec_l3RowOf : codeOk CT Try.f106 (Try.f106.body.get rfl) = true := by kernel_rfl
theorem xe_spec_l3RowOf (t0 t1 : Value) (m : Mem) : ex CT cf_spec_l3RowOf Try.f106 2 m.length [] (fun _ _ _ => none) 400 [.code (Try.f106.body.get rfl)] (argsT 0 [t0, t1]) m = X_spec_l3RowOf [t0, t1] m := by kernel_rfl
theorem okc_spec_l3RowOf : CallOK CT cf_spec_l3RowOf := cfn_ok
theorem ok_X_spec_l3RowOf : OkX CT 106 X_spec_l3RowOf := OkX.of_ex (cf := cf_spec_l3RowOf) (np := 2) (LL := []) (J := (fun _ _ _ _ => none)) CT_ok rfl Try.func106 rfl (Nat.le_of_ble_eq_true rfl) (by decide) cok_spec_l3RowOf okc_spec_l3RowOf (fun k => noLoops rfl) (fun args m r h => match args, h with
    | [t0, t1], h => ⟨rfl, (xe_spec_l3RowOf t0 t1 m).trans h⟩)
theorem ok_C_spec_l3RowOf : OkC CT 106 C_spec_l3RowOf := fcall_ok rfl ok_X_spec_l3RowOf

/-! ### spec.l3Resize -/
noncomputable def cf_spec_l3Resize : CallF := cfc 55 C_spec_l1Min (cfc 103 C_spec_l3New (cfc 104 C_spec_l3Row (cfc 105 C_spec_l3Fit (cfc 106 C_spec_l3RowOf cfn))))
noncomputable def L_spec_l3Resize (k : Nat) : Nat → Nat → List Value → Mem → Option VM
  | q + 1, 0, [t1, t2, t3, t6, t7, t8], m =>
    (fadX 0 t3) |> bo fun t15 =>
    (ld1 m t15) |> bo fun t16 =>
    (C_spec_l1Min [t1, t16] m) |> bo fun r3 =>
    (binX .lss .no t8 r3.1) |> bo fun t18 =>
    brX t18
      (
        (C_spec_l3RowOf [t3, t8] r3.2) |> bo fun r5 =>
        (C_spec_l3Fit [r5.1, t2] r5.2) |> bo fun r6 =>
        (C_spec_l3Row [t7, t8, r6.1] r6.2) |> bo fun r7 =>
        (binX .add .no t8 (.int .i64 1)) |> bo fun t20 =>
        cutK k r7.2 [t1, t2] [t1, t2, t3, t6, t7, t20] (L_spec_l3Resize k q 0))
      (
        cutK k r3.2 [t1, t2] [t2, t3, t6, t7, (.int .i64 0)] (L_spec_l3Resize k q 1))
  | q + 1, 1, [t2, t3, t6, t7, t9], m =>
    (fadX 3 t3) |> bo fun t28 =>
    (ld1 m t28) |> bo fun t29 =>
    (lenX t29) |> bo fun t30 =>
    (binX .lss .no t9 t30) |> bo fun t31 =>
    brX t31
      (
        (fadX 3 t7) |> bo fun t36 =>
        (ld1 m t36) |> bo fun t37 =>
        (fadX 3 t3) |> bo fun t38 =>
        (ld1 m t38) |> bo fun t39 =>
        (fadX 1 t3) |> bo fun t42 =>
        (ld1 m t42) |> bo fun t43 =>
        (binX .add .no t9 t43) |> bo fun t44 =>
        (slX m 2 t39 (some t9) (some t44)) |> bo fun t45 =>
        (C_spec_l3Fit [t45, t2] m) |> bo fun r13 =>
        (apL r13.2 2 16 t37 r13.1) |> bo fun r14 =>
        (fadX 3 t7) |> bo fun t49 =>
        (stX r14.2 1 t49 r14.1) |> bo fun m16 =>
        gP (stbL [((rdN t36), m, r13.2)])
          (
            (fadX 1 t3) |> bo fun t33 =>
            (ld1 m16 t33) |> bo fun t34 =>
            (binX .add .no t9 t34) |> bo fun t35 =>
            cutK k m16 [t2] [t2, t3, t6, t7, t35] (L_spec_l3Resize k q 1)))
      (
        (ldS m 4 t7) |> bo fun t50 =>
        (stX m 4 t6 t50) |> bo fun m21 =>
        (resP (some 4) m21 t6) |> bo fun c22 =>
        retK k m21 [t2] c22)
  | _, _, _, _ => none
noncomputable def J_spec_l3Resize (k q l : Nat) : List Value → Mem → Option VM := cond (Nat.beq l 3) (L_spec_l3Resize k q 0) (cond (Nat.beq l 7) (L_spec_l3Resize k q 1) (fun _ _ => none))
def LL_spec_l3Resize : List (Nat × List Tmp) := [(3, [1, 2, 3, 6, 7, 8]), (7, [2, 3, 6, 7, 9])]
noncomputable def X_spec_l3Resize : List Value → Mem → Option VM
  | [t0, t1, t2], m =>
    (boxX m t0) |> bo fun r1 =>
    (alX r1.2 [.int .i64 0, .int .i64 0, .slice none 0 0, .slice none 0 0]) |> bo fun r2 =>
    (C_spec_l3New [t1, t2] r2.2) |> bo fun r3 =>
    (alX r3.2 [.int .i64 0, .int .i64 0, .slice none 0 0, .slice none 0 0]) |> bo fun r4 =>
    (stX r4.2 4 r4.1 r3.1) |> bo fun m5 =>
    cutK m.length m5 [t0, t1, t2] [t1, t2, r1.1, r2.1, r4.1, (.int .i64 0)] (L_spec_l3Resize m.length QQ 0)
  | _, _ => none
noncomputable def C_spec_l3Resize : List Value → Mem → Option VM := fcall X_spec_l3Resize
@[simp] theorem c_spec_l3Resize : C_spec_l3Resize = fcall X_spec_l3Resize := (rfl)
theorem cok_spec_l3Resize : codeOk CT Try.f54 (Try.f54.body.get rfl) = true := by kernel_rfl
theorem xe_spec_l3Resize (t0 t1 t2 : Value) (m : Mem) : ex CT cf_spec_l3Resize Try.f54 3 m.length LL_spec_l3Resize (J_spec_l3Resize m.length QQ) 400 [.code (Try.f54.body.get rfl)] (argsT 0 [t0, t1, t2]) m = X_spec_l3Resize [t0, t1, t2] m := by kernel_rfl
theorem okc_spec_l3Resize : CallOK CT cf_spec_l3Resize := cfc_ok ok_C_spec_l1Min (cfc_ok ok_C_spec_l3New (cfc_ok ok_C_spec_l3Row (cfc_ok ok_C_spec_l3Fit (cfc_ok ok_C_spec_l3RowOf cfn_ok))))
theorem le_spec_l3Resize_0 (k q : Nat) (t1 t2 t3 t6 t7 t8 : Value) (m : Mem) : ex CT cf_spec_l3Resize Try.f54 3 k LL_spec_l3Resize (J_spec_l3Resize k q) 400 (atLoop Try.f54 0) [(1, t1), (2, t2), (3, t3), (6, t6), (7, t7), (8, t8)] m = J_spec_l3Resize k (q + 1) 3 [t1, t2, t3, t6, t7, t8] m := by kernel_rfl
theorem le_spec_l3Resize_1 (k q : Nat) (t2 t3 t6 t7 t9 : Value) (m : Mem) : ex CT cf_spec_l3Resize Try.f54 3 k LL_spec_l3Resize (J_spec_l3Resize k q) 400 (atLoop Try.f54 1) [(2, t2), (3, t3), (6, t6), (7, t7), (9, t9)] m = J_spec_l3Resize k (q + 1) 7 [t2, t3, t6, t7, t9] m := by kernel_rfl
theorem gl_spec_l3Resize (k : Nat) : ∀ q i, i < 2 → GoodL CT k Try.f54 LL_spec_l3Resize (J_spec_l3Resize k q) (atLoop Try.f54 i)
  | 0, 0, _ => goodL_zero (l := 3) (by kernel_rfl) (fun vs m => by kernel_rfl)
  | 0, 1, _ => goodL_zero (l := 7) (by kernel_rfl) (fun vs m => by kernel_rfl)
  | 0, _ + 2, h => absurd h (by omega)
  | q + 1, 0, _ => goodL_succ (np := 3) (l := 3) (live := [1, 2, 3, 6, 7, 8]) (n := 2) CT_ok rfl okc_spec_l3Resize (c := (Try.f54.body.get rfl)) rfl cok_spec_l3Resize (by kernel_rfl) (gl_spec_l3Resize k q) (by kernel_rfl) rfl (fun vs m r hl h => match vs, hl with
    | [t1, t2, t3, t6, t7, t8], _ => (le_spec_l3Resize_0 k q t1 t2 t3 t6 t7 t8 m).trans h)
  | q + 1, 1, _ => goodL_succ (np := 3) (l := 7) (live := [2, 3, 6, 7, 9]) (n := 2) CT_ok rfl okc_spec_l3Resize (c := (Try.f54.body.get rfl)) rfl cok_spec_l3Resize (by kernel_rfl) (gl_spec_l3Resize k q) (by kernel_rfl) rfl (fun vs m r hl h => match vs, hl with
    | [t2, t3, t6, t7, t9], _ => (le_spec_l3Resize_1 k q t2 t3 t6 t7 t9 m).trans h)
  | _ + 1, _ + 2, h => absurd h (by omega)
theorem ok_X_spec_l3Resize : OkX CT 54 X_spec_l3Resize := OkX.of_ex (cf := cf_spec_l3Resize) (np := 3) (LL := LL_spec_l3Resize) (J := (fun k => J_spec_l3Resize k QQ)) CT_ok rfl Try.func54 rfl (Nat.le_of_ble_eq_true rfl) (by decide) cok_spec_l3Resize okc_spec_l3Resize (fun k => allLoops rfl (by kernel_rfl) (gl_spec_l3Resize k QQ)) (fun args m r h => match args, h with
    | [t0, t1, t2], h => ⟨rfl, (xe_spec_l3Resize t0 t1 t2 m).trans h⟩)
theorem ok_C_spec_l3Resize : OkC CT 54 C_spec_l3Resize := fcall_ok rfl ok_X_spec_l3Resize

/-! ### spec.l5Tabs -/
noncomputable def cf_spec_l5Tabs : CallF := cfn
noncomputable def L_spec_l5Tabs (k : Nat) : Nat → Nat → List Value → Mem → Option VM
  | q + 1, 0, [t1, t5, t6], m =>
    (binX .lss .no t6 t1) |> bo fun t11 =>
    brX t11
      (
        (binX .gtr .no t6 (.int .i64 0)) |> bo fun t16 =>
        (gd t16 true (some (t6, m)) m) |> bo fun r3 =>
        (gd t16 true ((binX .rem .no r3.1 (.int .i64 8)) |> bo fun v => some (v, r3.2)) r3.2) |> bo fun r4 =>
        (gd t16 true ((binX .eql .no r4.1 (.int .i64 0)) |> bo fun v => some (v, r4.2)) r4.2) |> bo fun r5 =>
        (pickX t16 r5.1 (.bool false)) |> bo fun t21 =>
        (bslX r5.2 1 1 [.bool false] [(0, 1, t21)]) |> bo fun r7 =>
        (apL r7.2 1 1 t5 r7.1) |> bo fun r8 =>
        (binX .add .no t6 (.int .i64 1)) |> bo fun t13 =>
        cutK k r8.2 [t1] [t1, r8.1, t13] (L_spec_l5Tabs k q 0))
      (
        retK k m [t1] t5)
  | _, _, _, _ => none
noncomputable def J_spec_l5Tabs (k q l : Nat) : List Value → Mem → Option VM := cond (Nat.beq l 3) (L_spec_l5Tabs k q 0) (fun _ _ => none)
def LL_spec_l5Tabs : List (Nat × List Tmp) := [(3, [1, 5, 6])]
noncomputable def X_spec_l5Tabs : List Value → Mem → Option VM
  | [t0, t1], m =>
    (bslX m 0 1 [.bool false] []) |> bo fun r1 =>
    cutK m.length r1.2 [t0, t1] [t1, r1.1, t0] (L_spec_l5Tabs m.length QQ 0)
  | _, _ => none
noncomputable def C_spec_l5Tabs : List Value → Mem → Option VM := fcall X_spec_l5Tabs
@[simp] theorem c_spec_l5Tabs : C_spec_l5Tabs = fcall X_spec_l5Tabs := (rfl)
theorem cok_spec_l5Tabs : codeOk CT Try.f56 (Try.f56.body.get rfl) = true := by kernel_rfl
theorem xe_spec_l5Tabs (t0 t1 : Value) (m : Mem) : ex CT cf_spec_l5Tabs Try.f56 2 m.length LL_spec_l5Tabs (J_spec_l5Tabs m.length QQ) 400 [.code (Try.f56.body.get rfl)] (argsT 0 [t0, t1]) m = X_spec_l5Tabs [t0, t1] m := by kernel_rfl
theorem okc_spec_l5Tabs : CallOK CT cf_spec_l5Tabs := cfn_ok
theorem le_spec_l5Tabs_0 (k q : Nat) (t1 t5 t6 : Value) (m : Mem) : ex CT cf_spec_l5Tabs Try.f56 2 k LL_spec_l5Tabs (J_spec_l5Tabs k q) 400 (atLoop Try.f56 0) [(1, t1), (5, t5), (6, t6)] m = J_spec_l5Tabs k (q + 1) 3 [t1, t5, t6] m := by kernel_rfl
theorem gl_spec_l5Tabs (k : Nat) : ∀ q i, i < 1 → GoodL CT k Try.f56 LL_spec_l5Tabs (J_spec_l5Tabs k q) (atLoop Try.f56 i)
  | 0, 0, _ => goodL_zero (l := 3) (by kernel_rfl) (fun vs m => by kernel_rfl)
  | 0, _ + 1, h => absurd h (by omega)
  | q + 1, 0, _ => goodL_succ (np := 2) (l := 3) (live := [1, 5, 6]) (n := 1) CT_ok rfl okc_spec_l5Tabs (c := (Try.f56.body.get rfl)) rfl cok_spec_l5Tabs (by kernel_rfl) (gl_spec_l5Tabs k q) (by kernel_rfl) rfl (fun vs m r hl h => match vs, hl with
    | [t1, t5, t6], _ => (le_spec_l5Tabs_0 k q t1 t5 t6 m).trans h)
  | _ + 1, _ + 1, h => absurd h (by omega)
theorem ok_X_spec_l5Tabs : OkX CT 56 X_spec_l5Tabs := OkX.of_ex (cf := cf_spec_l5Tabs) (np := 2) (LL := LL_spec_l5Tabs) (J := (fun k => J_spec_l5Tabs k QQ)) CT_ok rfl Try.func56 rfl (Nat.le_of_ble_eq_true rfl) (by decide) cok_spec_l5Tabs okc_spec_l5Tabs (fun k => allLoops rfl (by kernel_rfl) (gl_spec_l5Tabs k QQ)) (fun args m r h => match args, h with
    | [t0, t1], h => ⟨rfl, (xe_spec_l5Tabs t0 t1 m).trans h⟩)
theorem ok_C_spec_l5Tabs : OkC CT 56 C_spec_l5Tabs := fcall_ok rfl ok_X_spec_l5Tabs

/-! ### spec.l1Max -/
noncomputable def cf_spec_l1Max : CallF := cfn
noncomputable def X_spec_l1Max : List Value → Mem → Option VM
  | [t0, t1], m =>
    (binX .gtr .no t0 t1) |> bo fun t7 =>
    brX t7
      (
        retK m.length m [t0, t1] t0)
      (
        retK m.length m [t0, t1] t1)
  | _, _ => none
noncomputable def C_spec_l1Max : List Value → Mem → Option VM := fcall X_spec_l1Max
@[simp] theorem c_spec_l1Max : C_spec_l1Max = fcall X_spec_l1Max := (rfl)
theorem cok_spec_l1Max : codeOk CT Try.f107 (Try.f107.body.get rfl) = true := by kernel_rfl
theorem xe_spec_l1Max (t0 t1 : Value) (m : Mem) : ex CT cf_spec_l1Max Try.f107 2 m.length [] (fun _ _ _ => none) 400 [.code (Try.f107.body.get rfl)] (argsT 0 [t0, t1]) m = X_spec_l1Max [t0, t1] m := by kernel_rfl
theorem okc_spec_l1Max : CallOK CT cf_spec_l1Max := cfn_ok
theorem ok_X_spec_l1Max : OkX CT 107 X_spec_l1Max := OkX.of_ex (cf := cf_spec_l1Max) (np := 2) (LL := []) (J := (fun _ _ _ _ => none)) CT_ok rfl Try.func107 rfl (Nat.le_of_ble_eq_true rfl) (by decide) cok_spec_l1Max okc_spec_l1Max (fun k => noLoops rfl) (fun args m r h => match args, h with
    | [t0, t1], h => ⟨rfl, (xe_spec_l1Max t0 t1 m).trans h⟩)
theorem ok_C_spec_l1Max : OkC CT 107 C_spec_l1Max := fcall_ok rfl ok_X_spec_l1Max

/-! ### spec.l5Go -/
noncomputable def cf_spec_l5Go : CallF := cfc 55 C_spec_l1Min (cfc 107 C_spec_l1Max cfn)
noncomputable def X_spec_l5Go : List Value → Mem → Option VM
  | [t0, t1, t2], m =>
    (nilX t0) |> bo fun t9 =>
    (fadX 0 t9) |> bo fun t10 =>
    (fadX 0 t10) |> bo fun t11 =>
    (ld1 m t11) |> bo fun t12 =>
    (binX .sub .no t12 (.int .i64 1)) |> bo fun t13 =>
    (nilX t0) |> bo fun t15 =>
    (fadX 10 t15) |> bo fun t16 =>
    (ld1 m t16) |> bo fun t17 =>
    brX t17
      (
        (nilX t0) |> bo fun t19 =>
        (fadX 8 t19) |> bo fun t20 =>
        (ld1 m t20) |> bo fun t21 =>
        (nilX t0) |> bo fun t23 =>
        (fadX 9 t23) |> bo fun t24 =>
        (ld1 m t24) |> bo fun t25 =>
        (C_spec_l1Min [t25, t1] m) |> bo fun r15 =>
        (C_spec_l1Max [t21, r15.1] r15.2) |> bo fun r16 =>
        (nilX t0) |> bo fun t32 =>
        (fadX 4 t32) |> bo fun t33 =>
        (stX r16.2 1 t33 r16.1) |> bo fun m19 =>
        (nilX t0) |> bo fun t36 =>
        (fadX 0 t36) |> bo fun t37 =>
        (fadX 1 t37) |> bo fun t38 =>
        (ld1 m19 t38) |> bo fun t39 =>
        (binX .sub .no t39 (.int .i64 1)) |> bo fun t40 =>
        (C_spec_l1Min [t40, t2] m19) |> bo fun r25 =>
        (C_spec_l1Max [(.int .i64 0), r25.1] r25.2) |> bo fun r26 =>
        (nilX t0) |> bo fun t44 =>
        (fadX 5 t44) |> bo fun t45 =>
        (stX r26.2 1 t45 r26.1) |> bo fun m29 =>
        (nilX t0) |> bo fun t47 =>
        (fadX 6 t47) |> bo fun t48 =>
        (stX m29 1 t48 (.bool false)) |> bo fun m32 =>
        retK m.length m32 [t0, t1, t2] (.tuple #[]))
      (
        (C_spec_l1Min [t13, t1] m) |> bo fun r33 =>
        (C_spec_l1Max [(.int .i64 0), r33.1] r33.2) |> bo fun r34 =>
        (nilX t0) |> bo fun t32 =>
        (fadX 4 t32) |> bo fun t33 =>
        (stX r34.2 1 t33 r34.1) |> bo fun m37 =>
        (nilX t0) |> bo fun t36 =>
        (fadX 0 t36) |> bo fun t37 =>
        (fadX 1 t37) |> bo fun t38 =>
        (ld1 m37 t38) |> bo fun t39 =>
        (binX .sub .no t39 (.int .i64 1)) |> bo fun t40 =>
        (C_spec_l1Min [t40, t2] m37) |> bo fun r43 =>
        (C_spec_l1Max [(.int .i64 0), r43.1] r43.2) |> bo fun r44 =>
        (nilX t0) |> bo fun t44 =>
        (fadX 5 t44) |> bo fun t45 =>
        (stX r44.2 1 t45 r44.1) |> bo fun m47 =>
        (nilX t0) |> bo fun t47 =>
        (fadX 6 t47) |> bo fun t48 =>
        (stX m47 1 t48 (.bool false)) |> bo fun m50 =>
        retK m.length m50 [t0, t1, t2] (.tuple #[]))
  | _, _ => none
noncomputable def C_spec_l5Go : List Value → Mem → Option VM := rcall X_spec_l5Go
@[simp] theorem c_spec_l5Go : C_spec_l5Go = rcall X_spec_l5Go := (rfl)
theorem cok_spec_l5Go : codeOk CT Try.f57 (Try.f57.body.get rfl) = true := by kernel_rfl
theorem xe_spec_l5Go (t0 t1 t2 : Value) (m : Mem) : ex CT cf_spec_l5Go Try.f57 3 m.length [] (fun _ _ _ => none) 400 [.code (Try.f57.body.get rfl)] (argsT 0 [t0, t1, t2]) m = X_spec_l5Go [t0, t1, t2] m := by kernel_rfl
theorem okc_spec_l5Go : CallOK CT cf_spec_l5Go := cfc_ok ok_C_spec_l1Min (cfc_ok ok_C_spec_l1Max cfn_ok)
theorem ok_X_spec_l5Go : OkX CT 57 X_spec_l5Go := OkX.of_ex (cf := cf_spec_l5Go) (np := 3) (LL := []) (J := (fun _ _ _ _ => none)) CT_ok rfl Try.func57 rfl (Nat.le_of_ble_eq_true rfl) (by decide) cok_spec_l5Go okc_spec_l5Go (fun k => noLoops rfl) (fun args m r h => match args, h with
    | [t0, t1, t2], h => ⟨rfl, (xe_spec_l5Go t0 t1 t2 m).trans h⟩)
theorem ok_C_spec_l5Go : OkC CT 57 C_spec_l5Go := rcall_ok rfl ok_X_spec_l5Go

/-! ### spec.ResizeScreen -/
noncomputable def cf_spec_ResizeScreen : CallF := cfc 26 C_spec_l3Size (cfc 51 C_spec_l5Fault (cfc 52 C_spec_l5Bad (cfc 53 C_spec_l5Copy (cfc 54 C_spec_l3Resize (cfc 55 C_spec_l1Min (cfc 56 C_spec_l5Tabs (cfc 57 C_spec_l5Go cfn)))))))
noncomputable def X_spec_ResizeScreen : List Value → Mem → Option VM
  | [t0, t1, t2], m =>
    (boxX m t0) |> bo fun r1 =>
    (alX r1.2 [.int .i64 0, .int .i64 0, .int .i64 0, .slice none 0 0, .slice none 0 0, .int .i64 0, .int .i64 0, .bool false, .int .i64 0, .int .i64 0, .int .i64 0, .bool false, .bool false, .bool false, .slice none 0 0, .int .i64 0, .int .i64 0, .int .i64 0, .slice none 0 0, .int .i64 0, .int .i64 0]) |> bo fun r2 =>
    (C_spec_l5Fault [r1.1] r2.2) |> bo fun r3 =>
    (binX .neq .no r3.1 (.int .i64 0)) |> bo fun t11 =>
    brX t11
      (
        (C_spec_l5Bad [r3.1] r3.2) |> bo fun r5 =>
        (stX r5.2 21 r2.1 r5.1) |> bo fun m6 =>
        (resP (some 21) m6 r2.1) |> bo fun c7 =>
        retK m.length m6 [t0, t1, t2] c7)
      (
        (C_spec_l3Size [t1, t2] r3.2) |> bo fun r8 =>
        (uop .not r8.1) |> bo fun t17 =>
        brX t17
          (
            (C_spec_l5Bad [(.int .i64 3)] r8.2) |> bo fun r10 =>
            (stX r10.2 21 r2.1 r10.1) |> bo fun m11 =>
            (resP (some 21) m11 r2.1) |> bo fun c12 =>
            retK m.length m11 [t0, t1, t2] c12)
          (
            (ldS r8.2 20 r1.1) |> bo fun t19 =>
            (C_spec_l5Copy [t19] r8.2) |> bo fun r14 =>
            (alX r14.2 [.int .i64 0, .int .i64 0, .slice none 0 0, .slice none 0 0, .int .i64 0, .int .i64 0, .bool false, .int .i64 0, .int .i64 0, .int .i64 0, .bool false, .bool false, .bool false, .slice none 0 0, .int .i64 0, .int .i64 0, .int .i64 0, .slice none 0 0, .int .i64 0, .int .i64 0]) |> bo fun r15 =>
            (stX r15.2 20 r15.1 r14.1) |> bo fun m16 =>
            (fadX 0 r1.1) |> bo fun t21 =>
            (ldS m16 4 t21) |> bo fun t22 =>
            (C_spec_l3Resize [t22, t1, t2] m16) |> bo fun r19 =>
            (fadX 0 r15.1) |> bo fun t26 =>
            (stX r19.2 4 t26 r19.1) |> bo fun m21 =>
            (fadX 8 r15.1) |> bo fun t27 =>
            (stX m21 1 t27 (.int .i64 0)) |> bo fun m23 =>
            (binX .sub .no t1 (.int .i64 1)) |> bo fun t29 =>
            (fadX 9 r15.1) |> bo fun t30 =>
            (stX m23 1 t30 t29) |> bo fun m26 =>
            (bslX m26 0 1 [.bool false] []) |> bo fun r27 =>
            (fadX 13 r1.1) |> bo fun t32 =>
            (ld1 r27.2 t32) |> bo fun t33 =>
            (fadX 0 r1.1) |> bo fun t35 =>
            (fadX 1 t35) |> bo fun t36 =>
            (ld1 r27.2 t36) |> bo fun t37 =>
            (C_spec_l1Min [t2, t37] r27.2) |> bo fun r33 =>
            (slX r33.2 1 t33 none (some r33.1)) |> bo fun t39 =>
            (apL r33.2 1 1 r27.1 t39) |> bo fun r35 =>
            (fadX 0 r1.1) |> bo fun t42 =>
            (fadX 1 t42) |> bo fun t43 =>
            (ld1 r35.2 t43) |> bo fun t44 =>
            (C_spec_l1Min [t2, t44] r35.2) |> bo fun r39 =>
            (C_spec_l5Tabs [r39.1, t2] r39.2) |> bo fun r40 =>
            (apL r40.2 1 1 r35.1 r40.1) |> bo fun r41 =>
            (fadX 13 r15.1) |> bo fun t49 =>
            (stX r41.2 1 t49 r41.1) |> bo fun m43 =>
            gP (stbL [((rdN t32), r27.2, r33.2), ((rdN t43), r27.2, r33.2), ((rdN t43), r33.2, r35.2)])
              (
                (fadX 4 r1.1) |> bo fun t50 =>
                (ld1 m43 t50) |> bo fun t51 =>
                (fadX 5 r1.1) |> bo fun t52 =>
                (ld1 m43 t52) |> bo fun t53 =>
                (C_spec_l5Go [r15.1, t51, t53] m43) |> bo fun r48 =>
                (ldS r48.2 20 r15.1) |> bo fun t55 =>
                (bldX [.int .i64 0, .int .i64 0, .int .i64 0, .slice none 0 0, .slice none 0 0, .int .i64 0, .int .i64 0, .bool false, .int .i64 0, .int .i64 0, .int .i64 0, .bool false, .bool false, .bool false, .slice none 0 0, .int .i64 0, .int .i64 0, .int .i64 0, .slice none 0 0, .int .i64 0, .int .i64 0] [(1, 20, t55)]) |> bo fun t56 =>
                (stX r48.2 21 r2.1 t56) |> bo fun m51 =>
                (resP (some 21) m51 r2.1) |> bo fun c52 =>
                retK m.length m51 [t0, t1, t2] c52)))
  | _, _ => none
noncomputable def C_spec_ResizeScreen : List Value → Mem → Option VM := fcall X_spec_ResizeScreen
@[simp] theorem c_spec_ResizeScreen : C_spec_ResizeScreen = fcall X_spec_ResizeScreen := (rfl)
theorem cok_spec_ResizeScreen : codeOk CT Try.f18 (Try.f18.body.get rfl) = true := by kernel_rfl
theorem xe_spec_ResizeScreen (t0 t1 t2 : Value) (m : Mem) : ex CT cf_spec_ResizeScreen Try.f18 3 m.length [] (fun _ _ _ => none) 400 [.code (Try.f18.body.get rfl)] (argsT 0 [t0, t1, t2]) m = X_spec_ResizeScreen [t0, t1, t2] m := by kernel_rfl
theorem okc_spec_ResizeScreen : CallOK CT cf_spec_ResizeScreen := cfc_ok ok_C_spec_l3Size (cfc_ok ok_C_spec_l5Fault (cfc_ok ok_C_spec_l5Bad (cfc_ok ok_C_spec_l5Copy (cfc_ok ok_C_spec_l3Resize (cfc_ok ok_C_spec_l1Min (cfc_ok ok_C_spec_l5Tabs (cfc_ok ok_C_spec_l5Go cfn_ok)))))))
theorem ok_X_spec_ResizeScreen : OkX CT 18 X_spec_ResizeScreen := OkX.of_ex (cf := cf_spec_ResizeScreen) (np := 3) (LL := []) (J := (fun _ _ _ _ => none)) CT_ok rfl Try.func18 rfl (Nat.le_of_ble_eq_true rfl) (by decide) cok_spec_ResizeScreen okc_spec_ResizeScreen (fun k => noLoops rfl) (fun args m r h => match args, h with
    | [t0, t1, t2], h => ⟨rfl, (xe_spec_ResizeScreen t0 t1 t2 m).trans h⟩)
theorem ok_C_spec_ResizeScreen : OkC CT 18 C_spec_ResizeScreen := fcall_ok rfl ok_X_spec_ResizeScreen

/-! ### laws.toCell -/
noncomputable def cf_laws_toCell : CallF := cfn
noncomputable def X_laws_toCell : List Value → Mem → Option VM
  | [t0], m =>
    (boxX m t0) |> bo fun r1 =>
    (alX r1.2 [.int .i64 0, .int .i64 0]) |> bo fun r2 =>
    (alX r2.2 [.int .i64 0, .int .i64 0]) |> bo fun r3 =>
    (fadX 0 r1.1) |> bo fun t4 =>
    (ld1 r3.2 t4) |> bo fun t5 =>
    (fadX 0 r3.1) |> bo fun t6 =>
    (stX r3.2 1 t6 t5) |> bo fun m7 =>
    (fadX 1 r1.1) |> bo fun t7 =>
    (ld1 m7 t7) |> bo fun t8 =>
    (fadX 1 r3.1) |> bo fun t9 =>
    (stX m7 1 t9 t8) |> bo fun m11 =>
    (ldS m11 2 r3.1) |> bo fun t10 =>
    (stX m11 2 r2.1 t10) |> bo fun m13 =>
    (resP (some 2) m13 r2.1) |> bo fun c14 =>
    retK m.length m13 [t0] c14
  | _, _ => none
noncomputable def C_laws_toCell : List Value → Mem → Option VM := fcall X_laws_toCell
@[simp] theorem c_laws_toCell : C_laws_toCell = fcall X_laws_toCell := (rfl)
theorem cok_laws_toCell : codeOk CT Try.f140 (Try.f140.body.get rfl) = true := by kernel_rfl
theorem xe_laws_toCell (t0 : Value) (m : Mem) : ex CT cf_laws_toCell Try.f140 1 m.length [] (fun _ _ _ => none) 400 [.code (Try.f140.body.get rfl)] (argsT 0 [t0]) m = X_laws_toCell [t0] m := by kernel_rfl
theorem okc_laws_toCell : CallOK CT cf_laws_toCell := cfn_ok
theorem ok_X_laws_toCell : OkX CT 140 X_laws_toCell := OkX.of_ex (cf := cf_laws_toCell) (np := 1) (LL := []) (J := (fun _ _ _ _ => none)) CT_ok rfl Try.func140 rfl (Nat.le_of_ble_eq_true rfl) (by decide) cok_laws_toCell okc_laws_toCell (fun k => noLoops rfl) (fun args m r h => match args, h with
    | [t0], h => ⟨rfl, (xe_laws_toCell t0 m).trans h⟩)
theorem ok_C_laws_toCell : OkC CT 140 C_laws_toCell := fcall_ok rfl ok_X_laws_toCell

/-! ### laws.toCellS -/
noncomputable def cf_laws_toCellS : CallF := cfc 140 C_laws_toCell cfn
noncomputable def L_laws_toCellS (k : Nat) : Nat → Nat → List Value → Mem → Option VM
  | q + 1, 0, [t0, t3, t4], m =>
    (lenX t0) |> bo fun t10 =>
    (binX .lss .no t4 t10) |> bo fun t11 =>
    brX t11
      (
        (ixaX 2 t0 t4) |> bo fun t18 =>
        (ldS m 2 t18) |> bo fun t19 =>
        (C_laws_toCell [t19] m) |> bo fun r5 =>
        (ixaX 2 t3 t4) |> bo fun t21 =>
        (stX r5.2 2 t21 r5.1) |> bo fun m7 =>
        (binX .add .no t4 (.int .i64 1)) |> bo fun t13 =>
        cutK k m7 [t0] [t0, t3, t13] (L_laws_toCellS k q 0))
      (
        retK k m [t0] t3)
  | _, _, _, _ => none
noncomputable def J_laws_toCellS (k q l : Nat) : List Value → Mem → Option VM := cond (Nat.beq l 3) (L_laws_toCellS k q 0) (fun _ _ => none)
def LL_laws_toCellS : List (Nat × List Tmp) := [(3, [0, 3, 4])]
noncomputable def X_laws_toCellS : List Value → Mem → Option VM
  | [t0], m =>
    (lenX t0) |> bo fun t6 =>
    (mkX m 2 16 [.int .i64 0, .int .i64 0] t6 t6) |> bo fun r2 =>
    cutK m.length r2.2 [t0] [t0, r2.1, (.int .i64 0)] (L_laws_toCellS m.length QQ 0)
  | _, _ => none
noncomputable def C_laws_toCellS : List Value → Mem → Option VM := fcall X_laws_toCellS
@[simp] theorem c_laws_toCellS : C_laws_toCellS = fcall X_laws_toCellS := (rfl)
theorem cok_laws_toCellS : codeOk CT Try.f108 (Try.f108.body.get rfl) = true := by kernel_rfl
theorem xe_laws_toCellS (t0 : Value) (m : Mem) : ex CT cf_laws_toCellS Try.f108 1 m.length LL_laws_toCellS (J_laws_toCellS m.length QQ) 400 [.code (Try.f108.body.get rfl)] (argsT 0 [t0]) m = X_laws_toCellS [t0] m := by kernel_rfl
theorem okc_laws_toCellS : CallOK CT cf_laws_toCellS := cfc_ok ok_C_laws_toCell cfn_ok
theorem le_laws_toCellS_0 (k q : Nat) (t0 t3 t4 : Value) (m : Mem) : ex CT cf_laws_toCellS Try.f108 1 k LL_laws_toCellS (J_laws_toCellS k q) 400 (atLoop Try.f108 0) [(0, t0), (3, t3), (4, t4)] m = J_laws_toCellS k (q + 1) 3 [t0, t3, t4] m := by kernel_rfl
theorem gl_laws_toCellS (k : Nat) : ∀ q i, i < 1 → GoodL CT k Try.f108 LL_laws_toCellS (J_laws_toCellS k q) (atLoop Try.f108 i)
  | 0, 0, _ => goodL_zero (l := 3) (by kernel_rfl) (fun vs m => by kernel_rfl)
  | 0, _ + 1, h => absurd h (by omega)
  | q + 1, 0, _ => goodL_succ (np := 1) (l := 3) (live := [0, 3, 4]) (n := 1) CT_ok rfl okc_laws_toCellS (c := (Try.f108.body.get rfl)) rfl cok_laws_toCellS (by kernel_rfl) (gl_laws_toCellS k q) (by kernel_rfl) rfl (fun vs m r hl h => match vs, hl with
    | [t0, t3, t4], _ => (le_laws_toCellS_0 k q t0 t3 t4 m).trans h)
  | _ + 1, _ + 1, h => absurd h (by omega)
theorem ok_X_laws_toCellS : OkX CT 108 X_laws_toCellS := OkX.of_ex (cf := cf_laws_toCellS) (np := 1) (LL := LL_laws_toCellS) (J := (fun k => J_laws_toCellS k QQ)) CT_ok rfl Try.func108 rfl (Nat.le_of_ble_eq_true rfl) (by decide) cok_laws_toCellS okc_laws_toCellS (fun k => allLoops rfl (by kernel_rfl) (gl_laws_toCellS k QQ)) (fun args m r h => match args, h with
    | [t0], h => ⟨rfl, (xe_laws_toCellS t0 m).trans h⟩)
theorem ok_C_laws_toCellS : OkC CT 108 C_laws_toCellS := fcall_ok rfl ok_X_laws_toCellS

/-! ### laws.toGrid -/
noncomputable def cf_laws_toGrid : CallF := cfc 108 C_laws_toCellS cfn
noncomputable def X_laws_toGrid : List Value → Mem → Option VM
  | [t0], m =>
    (boxX m t0) |> bo fun r1 =>
    (alX r1.2 [.int .i64 0, .int .i64 0, .slice none 0 0, .slice none 0 0]) |> bo fun r2 =>
    (alX r2.2 [.int .i64 0, .int .i64 0, .slice none 0 0, .slice none 0 0]) |> bo fun r3 =>
    (fadX 0 r1.1) |> bo fun t4 =>
    (ld1 r3.2 t4) |> bo fun t5 =>
    (fadX 0 r3.1) |> bo fun t6 =>
    (stX r3.2 1 t6 t5) |> bo fun m7 =>
    (fadX 1 r1.1) |> bo fun t7 =>
    (ld1 m7 t7) |> bo fun t8 =>
    (fadX 1 r3.1) |> bo fun t9 =>
    (stX m7 1 t9 t8) |> bo fun m11 =>
    (fadX 2 r1.1) |> bo fun t10 =>
    (ld1 m11 t10) |> bo fun t11 =>
    (C_laws_toCellS [t11] m11) |> bo fun r14 =>
    (fadX 2 r3.1) |> bo fun t13 =>
    (stX r14.2 1 t13 r14.1) |> bo fun m16 =>
    (fadX 3 r1.1) |> bo fun t14 =>
    (ld1 m16 t14) |> bo fun t15 =>
    (C_laws_toCellS [t15] m16) |> bo fun r19 =>
    (fadX 3 r3.1) |> bo fun t17 =>
    (stX r19.2 1 t17 r19.1) |> bo fun m21 =>
    (ldS m21 4 r3.1) |> bo fun t18 =>
    (stX m21 4 r2.1 t18) |> bo fun m23 =>
    (resP (some 4) m23 r2.1) |> bo fun c24 =>
    retK m.length m23 [t0] c24
  | _, _ => none
noncomputable def C_laws_toGrid : List Value → Mem → Option VM := fcall X_laws_toGrid
@[simp] theorem c_laws_toGrid : C_laws_toGrid = fcall X_laws_toGrid := (rfl)
theorem cok_laws_toGrid : codeOk CT Try.f58 (Try.f58.body.get rfl) = true := by kernel_rfl
theorem xe_laws_toGrid (t0 : Value) (m : Mem) : ex CT cf_laws_toGrid Try.f58 1 m.length [] (fun _ _ _ => none) 400 [.code (Try.f58.body.get rfl)] (argsT 0 [t0]) m = X_laws_toGrid [t0] m := by kernel_rfl
theorem okc_laws_toGrid : CallOK CT cf_laws_toGrid := cfc_ok ok_C_laws_toCellS cfn_ok
theorem ok_X_laws_toGrid : OkX CT 58 X_laws_toGrid := OkX.of_ex (cf := cf_laws_toGrid) (np := 1) (LL := []) (J := (fun _ _ _ _ => none)) CT_ok rfl Try.func58 rfl (Nat.le_of_ble_eq_true rfl) (by decide) cok_laws_toGrid okc_laws_toGrid (fun k => noLoops rfl) (fun args m r h => match args, h with
    | [t0], h => ⟨rfl, (xe_laws_toGrid t0 m).trans h⟩)
theorem ok_C_laws_toGrid : OkC CT 58 C_laws_toGrid := fcall_ok rfl ok_X_laws_toGrid

/-! ### laws.toBoolS -/
noncomputable def cf_laws_toBoolS : CallF := cfn
noncomputable def L_laws_toBoolS (k : Nat) : Nat → Nat → List Value → Mem → Option VM
  | q + 1, 0, [t0, t3, t4], m =>
    (lenX t0) |> bo fun t10 =>
    (binX .lss .no t4 t10) |> bo fun t11 =>
    brX t11
      (
        (ixaX 1 t0 t4) |> bo fun t18 =>
        (ld1 m t18) |> bo fun t19 =>
        (ixaX 1 t3 t4) |> bo fun t20 =>
        (stX m 1 t20 t19) |> bo fun m6 =>
        (binX .add .no t4 (.int .i64 1)) |> bo fun t13 =>
        cutK k m6 [t0] [t0, t3, t13] (L_laws_toBoolS k q 0))
      (
        retK k m [t0] t3)
  | _, _, _, _ => none
noncomputable def J_laws_toBoolS (k q l : Nat) : List Value → Mem → Option VM := cond (Nat.beq l 3) (L_laws_toBoolS k q 0) (fun _ _ => none)
def LL_laws_toBoolS : List (Nat × List Tmp) := [(3, [0, 3, 4])]
noncomputable def X_laws_toBoolS : List Value → Mem → Option VM
  | [t0], m =>
    (lenX t0) |> bo fun t6 =>
    (mkX m 1 1 [.bool false] t6 t6) |> bo fun r2 =>
    cutK m.length r2.2 [t0] [t0, r2.1, (.int .i64 0)] (L_laws_toBoolS m.length QQ 0)
  | _, _ => none
noncomputable def C_laws_toBoolS : List Value → Mem → Option VM := fcall X_laws_toBoolS
@[simp] theorem c_laws_toBoolS : C_laws_toBoolS = fcall X_laws_toBoolS := (rfl)
theorem cok_laws_toBoolS : codeOk CT Try.f59 (Try.f59.body.get rfl) = true := by kernel_rfl
theorem xe_laws_toBoolS (t0 : Value) (m : Mem) : ex CT cf_laws_toBoolS Try.f59 1 m.length LL_laws_toBoolS (J_laws_toBoolS m.length QQ) 400 [.code (Try.f59.body.get rfl)] (argsT 0 [t0]) m = X_laws_toBoolS [t0] m := by kernel_rfl
theorem okc_laws_toBoolS : CallOK CT cf_laws_toBoolS := cfn_ok
theorem le_laws_toBoolS_0 (k q : Nat) (t0 t3 t4 : Value) (m : Mem) : ex CT cf_laws_toBoolS Try.f59 1 k LL_laws_toBoolS (J_laws_toBoolS k q) 400 (atLoop Try.f59 0) [(0, t0), (3, t3), (4, t4)] m = J_laws_toBoolS k (q + 1) 3 [t0, t3, t4] m := by kernel_rfl
theorem gl_laws_toBoolS (k : Nat) : ∀ q i, i < 1 → GoodL CT k Try.f59 LL_laws_toBoolS (J_laws_toBoolS k q) (atLoop Try.f59 i)
  | 0, 0, _ => goodL_zero (l := 3) (by kernel_rfl) (fun vs m => by kernel_rfl)
  | 0, _ + 1, h => absurd h (by omega)
  | q + 1, 0, _ => goodL_succ (np := 1) (l := 3) (live := [0, 3, 4]) (n := 1) CT_ok rfl okc_laws_toBoolS (c := (Try.f59.body.get rfl)) rfl cok_laws_toBoolS (by kernel_rfl) (gl_laws_toBoolS k q) (by kernel_rfl) rfl (fun vs m r hl h => match vs, hl with
    | [t0, t3, t4], _ => (le_laws_toBoolS_0 k q t0 t3 t4 m).trans h)
  | _ + 1, _ + 1, h => absurd h (by omega)
theorem ok_X_laws_toBoolS : OkX CT 59 X_laws_toBoolS := OkX.of_ex (cf := cf_laws_toBoolS) (np := 1) (LL := LL_laws_toBoolS) (J := (fun k => J_laws_toBoolS k QQ)) CT_ok rfl Try.func59 rfl (Nat.le_of_ble_eq_true rfl) (by decide) cok_laws_toBoolS okc_laws_toBoolS (fun k => allLoops rfl (by kernel_rfl) (gl_laws_toBoolS k QQ)) (fun args m r h => match args, h with
    | [t0], h => ⟨rfl, (xe_laws_toBoolS t0 m).trans h⟩)
theorem ok_C_laws_toBoolS : OkC CT 59 C_laws_toBoolS := fcall_ok rfl ok_X_laws_toBoolS

/-! ### laws.toInt64S -/
noncomputable def cf_laws_toInt64S : CallF := cfn
noncomputable def L_laws_toInt64S (k : Nat) : Nat → Nat → List Value → Mem → Option VM
  | q + 1, 0, [t0, t3, t4], m =>
    (lenX t0) |> bo fun t10 =>
    (binX .lss .no t4 t10) |> bo fun t11 =>
    brX t11
      (
        (ixaX 1 t0 t4) |> bo fun t18 =>
        (ld1 m t18) |> bo fun t19 =>
        (ixaX 1 t3 t4) |> bo fun t20 =>
        (stX m 1 t20 t19) |> bo fun m6 =>
        (binX .add .no t4 (.int .i64 1)) |> bo fun t13 =>
        cutK k m6 [t0] [t0, t3, t13] (L_laws_toInt64S k q 0))
      (
        retK k m [t0] t3)
  | _, _, _, _ => none
noncomputable def J_laws_toInt64S (k q l : Nat) : List Value → Mem → Option VM := cond (Nat.beq l 3) (L_laws_toInt64S k q 0) (fun _ _ => none)
def LL_laws_toInt64S : List (Nat × List Tmp) := [(3, [0, 3, 4])]
noncomputable def X_laws_toInt64S : List Value → Mem → Option VM
  | [t0], m =>
    (lenX t0) |> bo fun t6 =>
    (mkX m 1 8 [.int .i64 0] t6 t6) |> bo fun r2 =>
    cutK m.length r2.2 [t0] [t0, r2.1, (.int .i64 0)] (L_laws_toInt64S m.length QQ 0)
  | _, _ => none
noncomputable def C_laws_toInt64S : List Value → Mem → Option VM := fcall X_laws_toInt64S
@[simp] theorem c_laws_toInt64S : C_laws_toInt64S = fcall X_laws_toInt64S := (rfl)
theorem cok_laws_toInt64S : codeOk CT Try.f60 (Try.f60.body.get rfl) = true := by kernel_rfl
theorem xe_laws_toInt64S (t0 : Value) (m : Mem) : ex CT cf_laws_toInt64S Try.f60 1 m.length LL_laws_toInt64S (J_laws_toInt64S m.length QQ) 400 [.code (Try.f60.body.get rfl)] (argsT 0 [t0]) m = X_laws_toInt64S [t0] m := by kernel_rfl
theorem okc_laws_toInt64S : CallOK CT cf_laws_toInt64S := cfn_ok
theorem le_laws_toInt64S_0 (k q : Nat) (t0 t3 t4 : Value) (m : Mem) : ex CT cf_laws_toInt64S Try.f60 1 k LL_laws_toInt64S (J_laws_toInt64S k q) 400 (atLoop Try.f60 0) [(0, t0), (3, t3), (4, t4)] m = J_laws_toInt64S k (q + 1) 3 [t0, t3, t4] m := by kernel_rfl
theorem gl_laws_toInt64S (k : Nat) : ∀ q i, i < 1 → GoodL CT k Try.f60 LL_laws_toInt64S (J_laws_toInt64S k q) (atLoop Try.f60 i)
  | 0, 0, _ => goodL_zero (l := 3) (by kernel_rfl) (fun vs m => by kernel_rfl)
  | 0, _ + 1, h => absurd h (by omega)
  | q + 1, 0, _ => goodL_succ (np := 1) (l := 3) (live := [0, 3, 4]) (n := 1) CT_ok rfl okc_laws_toInt64S (c := (Try.f60.body.get rfl)) rfl cok_laws_toInt64S (by kernel_rfl) (gl_laws_toInt64S k q) (by kernel_rfl) rfl (fun vs m r hl h => match vs, hl with
    | [t0, t3, t4], _ => (le_laws_toInt64S_0 k q t0 t3 t4 m).trans h)
  | _ + 1, _ + 1, h => absurd h (by omega)
theorem ok_X_laws_toInt64S : OkX CT 60 X_laws_toInt64S := OkX.of_ex (cf := cf_laws_toInt64S) (np := 1) (LL := LL_laws_toInt64S) (J := (fun k => J_laws_toInt64S k QQ)) CT_ok rfl Try.func60 rfl (Nat.le_of_ble_eq_true rfl) (by decide) cok_laws_toInt64S okc_laws_toInt64S (fun k => allLoops rfl (by kernel_rfl) (gl_laws_toInt64S k QQ)) (fun args m r h => match args, h with
    | [t0], h => ⟨rfl, (xe_laws_toInt64S t0 m).trans h⟩)
theorem ok_C_laws_toInt64S : OkC CT 60 C_laws_toInt64S := fcall_ok rfl ok_X_laws_toInt64S

/-! ### laws.toScreen -/
noncomputable def cf_laws_toScreen : CallF := cfc 58 C_laws_toGrid (cfc 59 C_laws_toBoolS (cfc 60 C_laws_toInt64S cfn))
noncomputable def X_laws_toScreen : List Value → Mem → Option VM
  | [t0], m =>
    (boxX m t0) |> bo fun r1 =>
    (alX r1.2 [.int .i64 0, .int .i64 0, .slice none 0 0, .slice none 0 0, .int .i64 0, .int .i64 0, .bool false, .int .i64 0, .int .i64 0, .int .i64 0, .bool false, .bool false, .bool false, .slice none 0 0, .int .i64 0, .int .i64 0, .int .i64 0, .slice none 0 0, .int .i64 0, .int .i64 0]) |> bo fun r2 =>
    (alX r2.2 [.int .i64 0, .int .i64 0, .slice none 0 0, .slice none 0 0, .int .i64 0, .int .i64 0, .bool false, .int .i64 0, .int .i64 0, .int .i64 0, .bool false, .bool false, .bool false, .slice none 0 0, .int .i64 0, .int .i64 0, .int .i64 0, .slice none 0 0, .int .i64 0, .int .i64 0]) |> bo fun r3 =>
    (fadX 0 r1.1) |> bo fun t4 =>
    (ldS r3.2 4 t4) |> bo fun t5 =>
    (C_laws_toGrid [t5] r3.2) |> bo fun r6 =>
    (fadX 0 r3.1) |> bo fun t7 =>
    (stX r6.2 4 t7 r6.1) |> bo fun m8 =>
    (fadX 4 r1.1) |> bo fun t8 =>
    (ld1 m8 t8) |> bo fun t9 =>
    (fadX 4 r3.1) |> bo fun t10 =>
    (stX m8 1 t10 t9) |> bo fun m12 =>
    (fadX 5 r1.1) |> bo fun t11 =>
    (ld1 m12 t11) |> bo fun t12 =>
    (fadX 5 r3.1) |> bo fun t13 =>
    (stX m12 1 t13 t12) |> bo fun m16 =>
    (fadX 6 r1.1) |> bo fun t14 =>
    (ld1 m16 t14) |> bo fun t15 =>
    (fadX 6 r3.1) |> bo fun t16 =>
    (stX m16 1 t16 t15) |> bo fun m20 =>
    (fadX 7 r1.1) |> bo fun t17 =>
    (ld1 m20 t17) |> bo fun t18 =>
    (fadX 7 r3.1) |> bo fun t19 =>
    (stX m20 1 t19 t18) |> bo fun m24 =>
    (fadX 8 r1.1) |> bo fun t20 =>
    (ld1 m24 t20) |> bo fun t21 =>
    (fadX 8 r3.1) |> bo fun t22 =>
    (stX m24 1 t22 t21) |> bo fun m28 =>
    (fadX 9 r1.1) |> bo fun t23 =>
    (ld1 m28 t23) |> bo fun t24 =>
    (fadX 9 r3.1) |> bo fun t25 =>
    (stX m28 1 t25 t24) |> bo fun m32 =>
    (fadX 10 r1.1) |> bo fun t26 =>
    (ld1 m32 t26) |> bo fun t27 =>
    (fadX 10 r3.1) |> bo fun t28 =>
    (stX m32 1 t28 t27) |> bo fun m36 =>
    (fadX 11 r1.1) |> bo fun t29 =>
    (ld1 m36 t29) |> bo fun t30 =>
    (fadX 11 r3.1) |> bo fun t31 =>
    (stX m36 1 t31 t30) |> bo fun m40 =>
    (fadX 12 r1.1) |> bo fun t32 =>
    (ld1 m40 t32) |> bo fun t33 =>
    (fadX 12 r3.1) |> bo fun t34 =>
    (stX m40 1 t34 t33) |> bo fun m44 =>
    (fadX 13 r1.1) |> bo fun t35 =>
    (ld1 m44 t35) |> bo fun t36 =>
    (C_laws_toBoolS [t36] m44) |> bo fun r47 =>
    (fadX 13 r3.1) |> bo fun t38 =>
    (stX r47.2 1 t38 r47.1) |> bo fun m49 =>
    (fadX 14 r1.1) |> bo fun t39 =>
    (ld1 m49 t39) |> bo fun t40 =>
    (fadX 14 r3.1) |> bo fun t41 =>
    (stX m49 1 t41 t40) |> bo fun m53 =>
    (fadX 15 r1.1) |> bo fun t42 =>
    (ld1 m53 t42) |> bo fun t43 =>
    (fadX 15 r3.1) |> bo fun t44 =>
    (stX m53 1 t44 t43) |> bo fun m57 =>
    (fadX 16 r1.1) |> bo fun t45 =>
    (ld1 m57 t45) |> bo fun t46 =>
    (fadX 16 r3.1) |> bo fun t47 =>
    (stX m57 1 t47 t46) |> bo fun m61 =>
    (fadX 17 r1.1) |> bo fun t48 =>
    (ld1 m61 t48) |> bo fun t49 =>
    (C_laws_toInt64S [t49] m61) |> bo fun r64 =>
    (fadX 17 r3.1) |> bo fun t51 =>
    (stX r64.2 1 t51 r64.1) |> bo fun m66 =>
    (fadX 18 r1.1) |> bo fun t52 =>
    (ld1 m66 t52) |> bo fun t53 =>
    (fadX 18 r3.1) |> bo fun t54 =>
    (stX m66 1 t54 t53) |> bo fun m70 =>
    (fadX 19 r1.1) |> bo fun t55 =>
    (ld1 m70 t55) |> bo fun t56 =>
    (fadX 19 r3.1) |> bo fun t57 =>
    (stX m70 1 t57 t56) |> bo fun m74 =>
    (ldS m74 20 r3.1) |> bo fun t58 =>
    (stX m74 20 r2.1 t58) |> bo fun m76 =>
    (resP (some 20) m76 r2.1) |> bo fun c77 =>
    retK m.length m76 [t0] c77
  | _, _ => none
noncomputable def C_laws_toScreen : List Value → Mem → Option VM := fcall X_laws_toScreen
@[simp] theorem c_laws_toScreen : C_laws_toScreen = fcall X_laws_toScreen := (rfl)
theorem cok_laws_toScreen : codeOk CT Try.f19 (Try.f19.body.get rfl) = true := by kernel_rfl
theorem xe_laws_toScreen (t0 : Value) (m : Mem) : ex CT cf_laws_toScreen Try.f19 1 m.length [] (fun _ _ _ => none) 400 [.code (Try.f19.body.get rfl)] (argsT 0 [t0]) m = X_laws_toScreen [t0] m := by kernel_rfl
theorem okc_laws_toScreen : CallOK CT cf_laws_toScreen := cfc_ok ok_C_laws_toGrid (cfc_ok ok_C_laws_toBoolS (cfc_ok ok_C_laws_toInt64S cfn_ok))
theorem ok_X_laws_toScreen : OkX CT 19 X_laws_toScreen := OkX.of_ex (cf := cf_laws_toScreen) (np := 1) (LL := []) (J := (fun _ _ _ _ => none)) CT_ok rfl Try.func19 rfl (Nat.le_of_ble_eq_true rfl) (by decide) cok_laws_toScreen okc_laws_toScreen (fun k => noLoops rfl) (fun args m r h => match args, h with
    | [t0], h => ⟨rfl, (xe_laws_toScreen t0 m).trans h⟩)
theorem ok_C_laws_toScreen : OkC CT 19 C_laws_toScreen := fcall_ok rfl ok_X_laws_toScreen

/-! ### impl.in -/
noncomputable def cf_impl_in : CallF := cfn
noncomputable def X_impl_in : List Value → Mem → Option VM
  | [t0, t1, t2], m =>
    (binX .leq .no t1 t0) |> bo fun t9 =>
    (gd t9 true (some (t0, m)) m) |> bo fun r2 =>
    (gd t9 true (some (t2, r2.2)) r2.2) |> bo fun r3 =>
    (gd t9 true ((binX .leq .no r2.1 r3.1) |> bo fun v => some (v, r3.2)) r3.2) |> bo fun r4 =>
    (pickX t9 r4.1 (.bool false)) |> bo fun t14 =>
    retK m.length r4.2 [t0, t1, t2] t14
  | _, _ => none
noncomputable def C_impl_in : List Value → Mem → Option VM := fcall X_impl_in
@[simp] theorem c_impl_in : C_impl_in = fcall X_impl_in := (rfl)
theorem cok_impl_in : codeOk CT Try.f75 (Try.f75.body.get rfl) = true := by kernel_rfl
theorem xe_impl_in (t0 t1 t2 : Value) (m : Mem) : ex CT cf_impl_in Try.f75 3 m.length [] (fun _ _ _ => none) 400 [.code (Try.f75.body.get rfl)] (argsT 0 [t0, t1, t2]) m = X_impl_in [t0, t1, t2] m := by kernel_rfl
theorem okc_impl_in : CallOK CT cf_impl_in := cfn_ok
theorem ok_X_impl_in : OkX CT 75 X_impl_in := OkX.of_ex (cf := cf_impl_in) (np := 3) (LL := []) (J := (fun _ _ _ _ => none)) CT_ok rfl Try.func75 rfl (Nat.le_of_ble_eq_true rfl) (by decide) cok_impl_in okc_impl_in (fun k => noLoops rfl) (fun args m r h => match args, h with
    | [t0, t1, t2], h => ⟨rfl, (xe_impl_in t0 t1 t2 m).trans h⟩)
theorem ok_C_impl_in : OkC CT 75 C_impl_in := fcall_ok rfl ok_X_impl_in

/-! ### impl.sizeOk -/
noncomputable def cf_impl_sizeOk : CallF := cfc 75 C_impl_in cfn
noncomputable def X_impl_sizeOk : List Value → Mem → Option VM
  | [t0, t1], m =>
    (C_impl_in [t0, (.int .i64 1), (.int .i64 6)] m) |> bo fun r1 =>
    (gd r1.1 true (some (t1, r1.2)) r1.2) |> bo fun r2 =>
    (gd r1.1 true ((C_impl_in [r2.1, (.int .i64 2), (.int .i64 12)] r2.2) |> bo fun r => some (r.1, r.2)) r2.2) |> bo fun r3 =>
    (pickX r1.1 r3.1 (.bool false)) |> bo fun t10 =>
    retK m.length r3.2 [t0, t1] t10
  | _, _ => none
noncomputable def C_impl_sizeOk : List Value → Mem → Option VM := fcall X_impl_sizeOk
@[simp] theorem c_impl_sizeOk : C_impl_sizeOk = fcall X_impl_sizeOk := (rfl)
theorem cok_impl_sizeOk : codeOk CT Try.f29 (Try.f29.body.get rfl) = true := by kernel_rfl
theorem xe_impl_sizeOk (t0 t1 : Value) (m : Mem) : ex CT cf_impl_sizeOk Try.f29 2 m.length [] (fun _ _ _ => none) 400 [.code (Try.f29.body.get rfl)] (argsT 0 [t0, t1]) m = X_impl_sizeOk [t0, t1] m := by kernel_rfl
theorem okc_impl_sizeOk : CallOK CT cf_impl_sizeOk := cfc_ok ok_C_impl_in cfn_ok
theorem ok_X_impl_sizeOk : OkX CT 29 X_impl_sizeOk := OkX.of_ex (cf := cf_impl_sizeOk) (np := 2) (LL := []) (J := (fun _ _ _ _ => none)) CT_ok rfl Try.func29 rfl (Nat.le_of_ble_eq_true rfl) (by decide) cok_impl_sizeOk okc_impl_sizeOk (fun k => noLoops rfl) (fun args m r h => match args, h with
    | [t0, t1], h => ⟨rfl, (xe_impl_sizeOk t0 t1 m).trans h⟩)
theorem ok_C_impl_sizeOk : OkC CT 29 C_impl_sizeOk := fcall_ok rfl ok_X_impl_sizeOk

/-! ### impl.first -/
noncomputable def cf_impl_first : CallF := cfn
noncomputable def L_impl_first (k : Nat) : Nat → Nat → List Value → Mem → Option VM
  | q + 1, 0, [t5, t6, t7], m =>
    (binX .lss .no t7 t6) |> bo fun t8 =>
    brX t8
      (
        (ixaX 1 t5 t7) |> bo fun t9 =>
        (ld1 m t9) |> bo fun t10 =>
        (binX .neq .no t10 (.int .i64 0)) |> bo fun t12 =>
        brX t12
          (
            retK k m [] t10)
          (
            (binX .add .no t7 (.int .i64 1)) |> bo fun t14 =>
            cutK k m [] [t5, t6, t14] (L_impl_first k q 0)))
      (
        retK k m [] (.int .i64 0))
  | _, _, _, _ => none
noncomputable def J_impl_first (k q l : Nat) : List Value → Mem → Option VM := cond (Nat.beq l 2) (L_impl_first k q 0) (fun _ _ => none)
def LL_impl_first : List (Nat × List Tmp) := [(2, [5, 6, 7])]
noncomputable def X_impl_first : List Value → Mem → Option VM
  | [t0], m =>
    (lenX t0) |> bo fun t6 =>
    cutK m.length m [t0] [t0, t6, (.int .i64 0)] (L_impl_first m.length QQ 0)
  | _, _ => none
noncomputable def C_impl_first : List Value → Mem → Option VM := fcall X_impl_first
@[simp] theorem c_impl_first : C_impl_first = fcall X_impl_first := (rfl)
theorem cok_impl_first : codeOk CT Try.f61 (Try.f61.body.get rfl) = true := by kernel_rfl
theorem xe_impl_first (t0 : Value) (m : Mem) : ex CT cf_impl_first Try.f61 1 m.length LL_impl_first (J_impl_first m.length QQ) 400 [.code (Try.f61.body.get rfl)] (argsT 0 [t0]) m = X_impl_first [t0] m := by kernel_rfl
theorem okc_impl_first : CallOK CT cf_impl_first := cfn_ok
theorem le_impl_first_0 (k q : Nat) (t5 t6 t7 : Value) (m : Mem) : ex CT cf_impl_first Try.f61 1 k LL_impl_first (J_impl_first k q) 400 (atLoop Try.f61 0) [(5, t5), (6, t6), (7, t7)] m = J_impl_first k (q + 1) 2 [t5, t6, t7] m := by kernel_rfl
theorem gl_impl_first (k : Nat) : ∀ q i, i < 1 → GoodL CT k Try.f61 LL_impl_first (J_impl_first k q) (atLoop Try.f61 i)
  | 0, 0, _ => goodL_zero (l := 2) (by kernel_rfl) (fun vs m => by kernel_rfl)
  | 0, _ + 1, h => absurd h (by omega)
  | q + 1, 0, _ => goodL_succ (np := 1) (l := 2) (live := [5, 6, 7]) (n := 1) CT_ok rfl okc_impl_first (c := (Try.f61.body.get rfl)) rfl cok_impl_first (by kernel_rfl) (gl_impl_first k q) (by kernel_rfl) rfl (fun vs m r hl h => match vs, hl with
    | [t5, t6, t7], _ => (le_impl_first_0 k q t5 t6 t7 m).trans h)
  | _ + 1, _ + 1, h => absurd h (by omega)
theorem ok_X_impl_first : OkX CT 61 X_impl_first := OkX.of_ex (cf := cf_impl_first) (np := 1) (LL := LL_impl_first) (J := (fun k => J_impl_first k QQ)) CT_ok rfl Try.func61 rfl (Nat.le_of_ble_eq_true rfl) (by decide) cok_impl_first okc_impl_first (fun k => allLoops rfl (by kernel_rfl) (gl_impl_first k QQ)) (fun args m r h => match args, h with
    | [t0], h => ⟨rfl, (xe_impl_first t0 m).trans h⟩)
theorem ok_C_impl_first : OkC CT 61 C_impl_first := fcall_ok rfl ok_X_impl_first

/-! ### impl.unless -/
noncomputable def cf_impl_unless : CallF := cfn
noncomputable def X_impl_unless : List Value → Mem → Option VM
  | [t0, t1], m =>
    brX t0
      (
        retK m.length m [t0, t1] (.int .i64 0))
      (
        retK m.length m [t0, t1] t1)
  | _, _ => none
noncomputable def C_impl_unless : List Value → Mem → Option VM := fcall X_impl_unless
@[simp] theorem c_impl_unless : C_impl_unless = fcall X_impl_unless := (rfl)
theorem cok_impl_unless : codeOk CT Try.f63 (Try.f63.body.get rfl) = true := by kernel_rfl
theorem xe_impl_unless (t0 t1 : Value) (m : Mem) : ex CT cf_impl_unless Try.f63 2 m.length [] (fun _ _ _ => none) 400 [.code (Try.f63.body.get rfl)] (argsT 0 [t0, t1]) m = X_impl_unless [t0, t1] m := by kernel_rfl
theorem okc_impl_unless : CallOK CT cf_impl_unless := cfn_ok
theorem ok_X_impl_unless : OkX CT 63 X_impl_unless := OkX.of_ex (cf := cf_impl_unless) (np := 2) (LL := []) (J := (fun _ _ _ _ => none)) CT_ok rfl Try.func63 rfl (Nat.le_of_ble_eq_true rfl) (by decide) cok_impl_unless okc_impl_unless (fun k => noLoops rfl) (fun args m r h => match args, h with
    | [t0, t1], h => ⟨rfl, (xe_impl_unless t0 t1 m).trans h⟩)
theorem ok_C_impl_unless : OkC CT 63 C_impl_unless := fcall_ok rfl ok_X_impl_unless

/-! ### impl.isAttr -/
noncomputable def cf_impl_isAttr : CallF := cfc 75 C_impl_in cfn
noncomputable def X_impl_isAttr : List Value → Mem → Option VM
  | [t0], m =>
    (C_impl_in [t0, (.int .i64 0), (.int .i64 31)] m) |> bo fun r1 =>
    retK m.length r1.2 [t0] r1.1
  | _, _ => none
noncomputable def C_impl_isAttr : List Value → Mem → Option VM := fcall X_impl_isAttr
@[simp] theorem c_impl_isAttr : C_impl_isAttr = fcall X_impl_isAttr := (rfl)
theorem cok_impl_isAttr : codeOk CT Try.f144 (Try.f144.body.get rfl) = true := by kernel_rfl
theorem xe_impl_isAttr (t0 : Value) (m : Mem) : ex CT cf_impl_isAttr Try.f144 1 m.length [] (fun _ _ _ => none) 400 [.code (Try.f144.body.get rfl)] (argsT 0 [t0]) m = X_impl_isAttr [t0] m := by kernel_rfl
theorem okc_impl_isAttr : CallOK CT cf_impl_isAttr := cfc_ok ok_C_impl_in cfn_ok
theorem ok_X_impl_isAttr : OkX CT 144 X_impl_isAttr := OkX.of_ex (cf := cf_impl_isAttr) (np := 1) (LL := []) (J := (fun _ _ _ _ => none)) CT_ok rfl Try.func144 rfl (Nat.le_of_ble_eq_true rfl) (by decide) cok_impl_isAttr okc_impl_isAttr (fun k => noLoops rfl) (fun args m r h => match args, h with
    | [t0], h => ⟨rfl, (xe_impl_isAttr t0 m).trans h⟩)
theorem ok_C_impl_isAttr : OkC CT 144 C_impl_isAttr := fcall_ok rfl ok_X_impl_isAttr

/-! ### impl.isChar -/
noncomputable def cf_impl_isChar : CallF := cfc 75 C_impl_in cfn
noncomputable def X_impl_isChar : List Value → Mem → Option VM
  | [t0], m =>
    (C_impl_in [t0, (.int .i64 0), (.int .i64 65535)] m) |> bo fun r1 =>
    (gd r1.1 true (some (t0, r1.2)) r1.2) |> bo fun r2 =>
    (gd r1.1 true ((C_impl_in [r2.1, (.int .i64 55296), (.int .i64 57343)] r2.2) |> bo fun r => some (r.1, r.2)) r2.2) |> bo fun r3 =>
    (gd r1.1 true ((uop .not r3.1) |> bo fun v => some (v, r3.2)) r3.2) |> bo fun r4 =>
    (pickX r1.1 r4.1 (.bool false)) |> bo fun t9 =>
    retK m.length r4.2 [t0] t9
  | _, _ => none
noncomputable def C_impl_isChar : List Value → Mem → Option VM := fcall X_impl_isChar
@[simp] theorem c_impl_isChar : C_impl_isChar = fcall X_impl_isChar := (rfl)
theorem cok_impl_isChar : codeOk CT Try.f172 (Try.f172.body.get rfl) = true := by kernel_rfl
theorem xe_impl_isChar (t0 : Value) (m : Mem) : ex CT cf_impl_isChar Try.f172 1 m.length [] (fun _ _ _ => none) 400 [.code (Try.f172.body.get rfl)] (argsT 0 [t0]) m = X_impl_isChar [t0] m := by kernel_rfl
theorem okc_impl_isChar : CallOK CT cf_impl_isChar := cfc_ok ok_C_impl_in cfn_ok
theorem ok_X_impl_isChar : OkX CT 172 X_impl_isChar := OkX.of_ex (cf := cf_impl_isChar) (np := 1) (LL := []) (J := (fun _ _ _ _ => none)) CT_ok rfl Try.func172 rfl (Nat.le_of_ble_eq_true rfl) (by decide) cok_impl_isChar okc_impl_isChar (fun k => noLoops rfl) (fun args m r h => match args, h with
    | [t0], h => ⟨rfl, (xe_impl_isChar t0 m).trans h⟩)
theorem ok_C_impl_isChar : OkC CT 172 C_impl_isChar := fcall_ok rfl ok_X_impl_isChar

/-! ### impl.shows -/
noncomputable def cf_impl_shows : CallF := cfc 172 C_impl_isChar cfn
noncomputable def X_impl_shows : List Value → Mem → Option VM
  | [t0], m =>
    (C_impl_isChar [t0] m) |> bo fun r1 =>
    (gd r1.1 true (some (t0, r1.2)) r1.2) |> bo fun r2 =>
    (gd r1.1 true ((binX .geq .no r2.1 (.int .i64 32)) |> bo fun v => some (v, r2.2)) r2.2) |> bo fun r3 =>
    (pickX r1.1 r3.1 (.bool false)) |> bo fun t8 =>
    (gd t8 true (some (t0, r3.2)) r3.2) |> bo fun r5 =>
    (gd t8 true ((binX .neq .no r5.1 (.int .i64 127)) |> bo fun v => some (v, r5.2)) r5.2) |> bo fun r6 =>
    (pickX t8 r6.1 (.bool false)) |> bo fun t12 =>
    retK m.length r6.2 [t0] t12
  | _, _ => none
noncomputable def C_impl_shows : List Value → Mem → Option VM := fcall X_impl_shows
@[simp] theorem c_impl_shows : C_impl_shows = fcall X_impl_shows := (rfl)
theorem cok_impl_shows : codeOk CT Try.f164 (Try.f164.body.get rfl) = true := by kernel_rfl
theorem xe_impl_shows (t0 : Value) (m : Mem) : ex CT cf_impl_shows Try.f164 1 m.length [] (fun _ _ _ => none) 400 [.code (Try.f164.body.get rfl)] (argsT 0 [t0]) m = X_impl_shows [t0] m := by kernel_rfl
theorem okc_impl_shows : CallOK CT cf_impl_shows := cfc_ok ok_C_impl_isChar cfn_ok
theorem ok_X_impl_shows : OkX CT 164 X_impl_shows := OkX.of_ex (cf := cf_impl_shows) (np := 1) (LL := []) (J := (fun _ _ _ _ => none)) CT_ok rfl Try.func164 rfl (Nat.le_of_ble_eq_true rfl) (by decide) cok_impl_shows okc_impl_shows (fun k => noLoops rfl) (fun args m r h => match args, h with
    | [t0], h => ⟨rfl, (xe_impl_shows t0 m).trans h⟩)
theorem ok_C_impl_shows : OkC CT 164 C_impl_shows := fcall_ok rfl ok_X_impl_shows

/-! ### (impl.Cell).ok -/
noncomputable def cf_impl_Cell_ok : CallF := cfc 144 C_impl_isAttr (cfc 164 C_impl_shows cfn)
noncomputable def X_impl_Cell_ok : List Value → Mem → Option VM
  | [t0], m =>
    (boxX m t0) |> bo fun r1 =>
    (fadX 0 r1.1) |> bo fun t3 =>
    (ld1 r1.2 t3) |> bo fun t4 =>
    (C_impl_shows [t4] r1.2) |> bo fun r4 =>
    (gd r4.1 true ((fadX 1 r1.1) |> bo fun v => some (v, r4.2)) r4.2) |> bo fun r5 =>
    (gd r4.1 true ((ld1 r5.2 r5.1) |> bo fun v => some (v, r5.2)) r5.2) |> bo fun r6 =>
    (gd r4.1 true ((C_impl_isAttr [r6.1] r6.2) |> bo fun r => some (r.1, r.2)) r6.2) |> bo fun r7 =>
    (pickX r4.1 r7.1 (.bool false)) |> bo fun t10 =>
    retK m.length r7.2 [t0] t10
  | _, _ => none
noncomputable def C_impl_Cell_ok : List Value → Mem → Option VM := fcall X_impl_Cell_ok
@[simp] theorem c_impl_Cell_ok : C_impl_Cell_ok = fcall X_impl_Cell_ok := (rfl)
theorem cok_impl_Cell_ok : codeOk CT Try.f142 (Try.f142.body.get rfl) = true := by kernel_rfl
theorem xe_impl_Cell_ok (t0 : Value) (m : Mem) : ex CT cf_impl_Cell_ok Try.f142 1 m.length [] (fun _ _ _ => none) 400 [.code (Try.f142.body.get rfl)] (argsT 0 [t0]) m = X_impl_Cell_ok [t0] m := by kernel_rfl
theorem okc_impl_Cell_ok : CallOK CT cf_impl_Cell_ok := cfc_ok ok_C_impl_isAttr (cfc_ok ok_C_impl_shows cfn_ok)
theorem ok_X_impl_Cell_ok : OkX CT 142 X_impl_Cell_ok := OkX.of_ex (cf := cf_impl_Cell_ok) (np := 1) (LL := []) (J := (fun _ _ _ _ => none)) CT_ok rfl Try.func142 rfl (Nat.le_of_ble_eq_true rfl) (by decide) cok_impl_Cell_ok okc_impl_Cell_ok (fun k => noLoops rfl) (fun args m r h => match args, h with
    | [t0], h => ⟨rfl, (xe_impl_Cell_ok t0 m).trans h⟩)
theorem ok_C_impl_Cell_ok : OkC CT 142 C_impl_Cell_ok := fcall_ok rfl ok_X_impl_Cell_ok

/-! ### impl.GridFault$1 -/
noncomputable def cf_impl_GridFault_1 : CallF := cfc 142 C_impl_Cell_ok cfn
noncomputable def X_impl_GridFault_1 : List Value → Mem → Option VM
  | [t0], m =>
    (boxX m t0) |> bo fun r1 =>
    (ldS r1.2 2 r1.1) |> bo fun t3 =>
    (C_impl_Cell_ok [t3] r1.2) |> bo fun r3 =>
    (uop .not r3.1) |> bo fun t5 =>
    retK m.length r3.2 [t0] t5
  | _, _ => none
noncomputable def C_impl_GridFault_1 : List Value → Mem → Option VM := fcall X_impl_GridFault_1
@[simp] theorem c_impl_GridFault_1 : C_impl_GridFault_1 = fcall X_impl_GridFault_1 := (rfl)
theorem cok_impl_GridFault_1 : codeOk CT Try.f141 (Try.f141.body.get rfl) = true := by kernel_rfl
theorem xe_impl_GridFault_1 (t0 : Value) (m : Mem) : ex CT cf_impl_GridFault_1 Try.f141 1 m.length [] (fun _ _ _ => none) 400 [.code (Try.f141.body.get rfl)] (argsT 0 [t0]) m = X_impl_GridFault_1 [t0] m := by kernel_rfl
theorem okc_impl_GridFault_1 : CallOK CT cf_impl_GridFault_1 := cfc_ok ok_C_impl_Cell_ok cfn_ok
theorem ok_X_impl_GridFault_1 : OkX CT 141 X_impl_GridFault_1 := OkX.of_ex (cf := cf_impl_GridFault_1) (np := 1) (LL := []) (J := (fun _ _ _ _ => none)) CT_ok rfl Try.func141 rfl (Nat.le_of_ble_eq_true rfl) (by decide) cok_impl_GridFault_1 okc_impl_GridFault_1 (fun k => noLoops rfl) (fun args m r h => match args, h with
    | [t0], h => ⟨rfl, (xe_impl_GridFault_1 t0 m).trans h⟩)
theorem ok_C_impl_GridFault_1 : OkC CT 141 C_impl_GridFault_1 := fcall_ok rfl ok_X_impl_GridFault_1

/-! ### slices.IndexFunc[[]impl.Cell,impl.Cell] -/
noncomputable def cf_slices_IndexFunc_impl_Cell_impl_Cell : CallF := cfc 141 C_impl_GridFault_1 cfn
noncomputable def L_slices_IndexFunc_impl_Cell_impl_Cell (k : Nat) : Nat → Nat → List Value → Mem → Option VM
  | q + 1, 0, [t0, t1, t7, t8], m =>
    (binX .lss .no t8 t7) |> bo fun t9 =>
    brX t9
      (
        (ixaX 2 t0 t8) |> bo fun t14 =>
        (ldS m 2 t14) |> bo fun t15 =>
        (callV cf_slices_IndexFunc_impl_Cell_impl_Cell t1 [t15] m) |> bo fun r4 =>
        brX r4.1
          (
            retK k r4.2 [t0, t1] t8)
          (
            (binX .add .no t8 (.int .i64 1)) |> bo fun t18 =>
            cutK k r4.2 [t0, t1] [t0, t1, t7, t18] (L_slices_IndexFunc_impl_Cell_impl_Cell k q 0)))
      (
        retK k m [t0, t1] (.int .i64 (-1)))
  | _, _, _, _ => none
noncomputable def J_slices_IndexFunc_impl_Cell_impl_Cell (k q l : Nat) : List Value → Mem → Option VM := cond (Nat.beq l 2) (L_slices_IndexFunc_impl_Cell_impl_Cell k q 0) (fun _ _ => none)
def LL_slices_IndexFunc_impl_Cell_impl_Cell : List (Nat × List Tmp) := [(2, [0, 1, 7, 8])]
noncomputable def X_slices_IndexFunc_impl_Cell_impl_Cell : List Value → Mem → Option VM
  | [t0, t1], m =>
    (lenX t0) |> bo fun t7 =>
    cutK m.length m [t0, t1] [t0, t1, t7, (.int .i64 0)] (L_slices_IndexFunc_impl_Cell_impl_Cell m.length QQ 0)
  | _, _ => none
noncomputable def C_slices_IndexFunc_impl_Cell_impl_Cell : List Value → Mem → Option VM := fcall X_slices_IndexFunc_impl_Cell_impl_Cell
@[simp] theorem c_slices_IndexFunc_impl_Cell_impl_Cell : C_slices_IndexFunc_impl_Cell_impl_Cell = fcall X_slices_IndexFunc_impl_Cell_impl_Cell := (rfl)
theorem cok_slices_IndexFunc_impl_Cell_impl_Cell : codeOk CT Try.f165 (Try.f165.body.get rfl) = true := by kernel_rfl
theorem xe_slices_IndexFunc_impl_Cell_impl_Cell (t0 t1 : Value) (m : Mem) : ex CT cf_slices_IndexFunc_impl_Cell_impl_Cell Try.f165 2 m.length LL_slices_IndexFunc_impl_Cell_impl_Cell (J_slices_IndexFunc_impl_Cell_impl_Cell m.length QQ) 400 [.code (Try.f165.body.get rfl)] (argsT 0 [t0, t1]) m = X_slices_IndexFunc_impl_Cell_impl_Cell [t0, t1] m := by kernel_rfl
theorem okc_slices_IndexFunc_impl_Cell_impl_Cell : CallOK CT cf_slices_IndexFunc_impl_Cell_impl_Cell := cfc_ok ok_C_impl_GridFault_1 cfn_ok
theorem le_slices_IndexFunc_impl_Cell_impl_Cell_0 (k q : Nat) (t0 t1 t7 t8 : Value) (m : Mem) : ex CT cf_slices_IndexFunc_impl_Cell_impl_Cell Try.f165 2 k LL_slices_IndexFunc_impl_Cell_impl_Cell (J_slices_IndexFunc_impl_Cell_impl_Cell k q) 400 (atLoop Try.f165 0) [(0, t0), (1, t1), (7, t7), (8, t8)] m = J_slices_IndexFunc_impl_Cell_impl_Cell k (q + 1) 2 [t0, t1, t7, t8] m := by kernel_rfl
theorem gl_slices_IndexFunc_impl_Cell_impl_Cell (k : Nat) : ∀ q i, i < 1 → GoodL CT k Try.f165 LL_slices_IndexFunc_impl_Cell_impl_Cell (J_slices_IndexFunc_impl_Cell_impl_Cell k q) (atLoop Try.f165 i)
  | 0, 0, _ => goodL_zero (l := 2) (by kernel_rfl) (fun vs m => by kernel_rfl)
  | 0, _ + 1, h => absurd h (by omega)
  | q + 1, 0, _ => goodL_succ (np := 2) (l := 2) (live := [0, 1, 7, 8]) (n := 1) CT_ok rfl okc_slices_IndexFunc_impl_Cell_impl_Cell (c := (Try.f165.body.get rfl)) rfl cok_slices_IndexFunc_impl_Cell_impl_Cell (by kernel_rfl) (gl_slices_IndexFunc_impl_Cell_impl_Cell k q) (by kernel_rfl) rfl (fun vs m r hl h => match vs, hl with
    | [t0, t1, t7, t8], _ => (le_slices_IndexFunc_impl_Cell_impl_Cell_0 k q t0 t1 t7 t8 m).trans h)
  | _ + 1, _ + 1, h => absurd h (by omega)
theorem ok_X_slices_IndexFunc_impl_Cell_impl_Cell : OkX CT 165 X_slices_IndexFunc_impl_Cell_impl_Cell := OkX.of_ex (cf := cf_slices_IndexFunc_impl_Cell_impl_Cell) (np := 2) (LL := LL_slices_IndexFunc_impl_Cell_impl_Cell) (J := (fun k => J_slices_IndexFunc_impl_Cell_impl_Cell k QQ)) CT_ok rfl Try.func165 rfl (Nat.le_of_ble_eq_true rfl) (by decide) cok_slices_IndexFunc_impl_Cell_impl_Cell okc_slices_IndexFunc_impl_Cell_impl_Cell (fun k => allLoops rfl (by kernel_rfl) (gl_slices_IndexFunc_impl_Cell_impl_Cell k QQ)) (fun args m r h => match args, h with
    | [t0, t1], h => ⟨rfl, (xe_slices_IndexFunc_impl_Cell_impl_Cell t0 t1 m).trans h⟩)
theorem ok_C_slices_IndexFunc_impl_Cell_impl_Cell : OkC CT 165 C_slices_IndexFunc_impl_Cell_impl_Cell := fcall_ok rfl ok_X_slices_IndexFunc_impl_Cell_impl_Cell

/-! ### slices.ContainsFunc[[]impl.Cell,impl.Cell] -/
noncomputable def cf_slices_ContainsFunc_impl_Cell_impl_Cell : CallF := cfc 165 C_slices_IndexFunc_impl_Cell_impl_Cell cfn
noncomputable def X_slices_ContainsFunc_impl_Cell_impl_Cell : List Value → Mem → Option VM
  | [t0, t1], m =>
    (C_slices_IndexFunc_impl_Cell_impl_Cell [t0, t1] m) |> bo fun r1 =>
    (binX .geq .no r1.1 (.int .i64 0)) |> bo fun t8 =>
    retK m.length r1.2 [t0, t1] t8
  | _, _ => none
noncomputable def C_slices_ContainsFunc_impl_Cell_impl_Cell : List Value → Mem → Option VM := fcall X_slices_ContainsFunc_impl_Cell_impl_Cell
@[simp] theorem c_slices_ContainsFunc_impl_Cell_impl_Cell : C_slices_ContainsFunc_impl_Cell_impl_Cell = fcall X_slices_ContainsFunc_impl_Cell_impl_Cell := (rfl)
theorem cok_slices_ContainsFunc_impl_Cell_impl_Cell : codeOk CT Try.f143 (Try.f143.body.get rfl) = true := by kernel_rfl
theorem xe_slices_ContainsFunc_impl_Cell_impl_Cell (t0 t1 : Value) (m : Mem) : ex CT cf_slices_ContainsFunc_impl_Cell_impl_Cell Try.f143 2 m.length [] (fun _ _ _ => none) 400 [.code (Try.f143.body.get rfl)] (argsT 0 [t0, t1]) m = X_slices_ContainsFunc_impl_Cell_impl_Cell [t0, t1] m := by kernel_rfl
theorem okc_slices_ContainsFunc_impl_Cell_impl_Cell : CallOK CT cf_slices_ContainsFunc_impl_Cell_impl_Cell := cfc_ok ok_C_slices_IndexFunc_impl_Cell_impl_Cell cfn_ok
theorem ok_X_slices_ContainsFunc_impl_Cell_impl_Cell : OkX CT 143 X_slices_ContainsFunc_impl_Cell_impl_Cell := OkX.of_ex (cf := cf_slices_ContainsFunc_impl_Cell_impl_Cell) (np := 2) (LL := []) (J := (fun _ _ _ _ => none)) CT_ok rfl Try.func143 rfl (Nat.le_of_ble_eq_true rfl) (by decide) cok_slices_ContainsFunc_impl_Cell_impl_Cell okc_slices_ContainsFunc_impl_Cell_impl_Cell (fun k => noLoops rfl) (fun args m r h => match args, h with
    | [t0, t1], h => ⟨rfl, (xe_slices_ContainsFunc_impl_Cell_impl_Cell t0 t1 m).trans h⟩)
theorem ok_C_slices_ContainsFunc_impl_Cell_impl_Cell : OkC CT 143 C_slices_ContainsFunc_impl_Cell_impl_Cell := fcall_ok rfl ok_X_slices_ContainsFunc_impl_Cell_impl_Cell

/-! ### impl.GridFault -/
noncomputable def cf_impl_GridFault : CallF := cfc 29 C_impl_sizeOk (cfc 63 C_impl_unless (cfc 143 C_slices_ContainsFunc_impl_Cell_impl_Cell cfn))
noncomputable def X_impl_GridFault : List Value → Mem → Option VM
  | [t0], m =>
    (boxX m t0) |> bo fun r1 =>
    (fadX 0 r1.1) |> bo fun t5 =>
    (ld1 r1.2 t5) |> bo fun t6 =>
    (fadX 1 r1.1) |> bo fun t7 =>
    (ld1 r1.2 t7) |> bo fun t8 =>
    (C_impl_sizeOk [t6, t8] r1.2) |> bo fun r6 =>
    (uop .not r6.1) |> bo fun t10 =>
    brX t10
      (
        retK m.length r6.2 [t0] (.int .i64 3))
      (
        (fadX 3 r1.1) |> bo fun t11 =>
        (ld1 r6.2 t11) |> bo fun t12 =>
        (lenX t12) |> bo fun t13 =>
        (fadX 2 r1.1) |> bo fun t14 =>
        (ld1 r6.2 t14) |> bo fun t15 =>
        (lenX t15) |> bo fun t16 =>
        (fadX 0 r1.1) |> bo fun t17 =>
        (ld1 r6.2 t17) |> bo fun t18 =>
        (fadX 1 r1.1) |> bo fun t19 =>
        (ld1 r6.2 t19) |> bo fun t20 =>
        (binX .mul .no t18 t20) |> bo fun t21 =>
        (binX .neq .no t16 t21) |> bo fun t22 =>
        (gd t22 false (some (t13, r6.2)) r6.2) |> bo fun r20 =>
        (gd t22 false ((fadX 1 r1.1) |> bo fun v => some (v, r20.2)) r20.2) |> bo fun r21 =>
        (gd t22 false ((ld1 r21.2 r21.1) |> bo fun v => some (v, r21.2)) r21.2) |> bo fun r22 =>
        (gd t22 false ((binX .mul .no (.int .i64 5) r22.1) |> bo fun v => some (v, r22.2)) r22.2) |> bo fun r23 =>
        (gd t22 false ((binX .gtr .no r20.1 r23.1) |> bo fun v => some (v, r23.2)) r23.2) |> bo fun r24 =>
        (pickX t22 (.bool true) r24.1) |> bo fun t29 =>
        (gd t29 false (some (t13, r24.2)) r24.2) |> bo fun r26 =>
        (gd t29 false ((fadX 1 r1.1) |> bo fun v => some (v, r26.2)) r26.2) |> bo fun r27 =>
        (gd t29 false ((ld1 r27.2 r27.1) |> bo fun v => some (v, r27.2)) r27.2) |> bo fun r28 =>
        (gd t29 false ((binX .rem .no r26.1 r28.1) |> bo fun v => some (v, r28.2)) r28.2) |> bo fun r29 =>
        (gd t29 false ((binX .neq .no r29.1 (.int .i64 0)) |> bo fun v => some (v, r29.2)) r29.2) |> bo fun r30 =>
        (pickX t29 (.bool true) r30.1) |> bo fun t36 =>
        brX t36
          (
            retK m.length r30.2 [t0] (.int .i64 1))
          (
            (fadX 2 r1.1) |> bo fun t37 =>
            (ld1 r30.2 t37) |> bo fun t38 =>
            (C_slices_ContainsFunc_impl_Cell_impl_Cell [t38, (.func (.func 141) #[] #[])] r30.2) |> bo fun r34 =>
            (uop .not r34.1) |> bo fun t41 =>
            (gd t41 true ((fadX 3 r1.1) |> bo fun v => some (v, r34.2)) r34.2) |> bo fun r36 =>
            (gd t41 true ((ld1 r36.2 r36.1) |> bo fun v => some (v, r36.2)) r36.2) |> bo fun r37 =>
            (gd t41 true (some ((.func (.func 141) #[] #[]), r37.2)) r37.2) |> bo fun r38 =>
            (gd t41 true ((C_slices_ContainsFunc_impl_Cell_impl_Cell [r37.1, r38.1] r38.2) |> bo fun r => some (r.1, r.2)) r38.2) |> bo fun r39 =>
            (gd t41 true ((uop .not r39.1) |> bo fun v => some (v, r39.2)) r39.2) |> bo fun r40 =>
            (pickX t41 r40.1 (.bool false)) |> bo fun t48 =>
            (C_impl_unless [t48, (.int .i64 3)] r40.2) |> bo fun r42 =>
            retK m.length r42.2 [t0] r42.1))
  | _, _ => none
noncomputable def C_impl_GridFault : List Value → Mem → Option VM := fcall X_impl_GridFault
@[simp] theorem c_impl_GridFault : C_impl_GridFault = fcall X_impl_GridFault := (rfl)
theorem cok_impl_GridFault : codeOk CT Try.f109 (Try.f109.body.get rfl) = true := by kernel_rfl
theorem xe_impl_GridFault (t0 : Value) (m : Mem) : ex CT cf_impl_GridFault Try.f109 1 m.length [] (fun _ _ _ => none) 400 [.code (Try.f109.body.get rfl)] (argsT 0 [t0]) m = X_impl_GridFault [t0] m := by kernel_rfl
theorem okc_impl_GridFault : CallOK CT cf_impl_GridFault := cfc_ok ok_C_impl_sizeOk (cfc_ok ok_C_impl_unless (cfc_ok ok_C_slices_ContainsFunc_impl_Cell_impl_Cell cfn_ok))
theorem ok_X_impl_GridFault : OkX CT 109 X_impl_GridFault := OkX.of_ex (cf := cf_impl_GridFault) (np := 1) (LL := []) (J := (fun _ _ _ _ => none)) CT_ok rfl Try.func109 rfl (Nat.le_of_ble_eq_true rfl) (by decide) cok_impl_GridFault okc_impl_GridFault (fun k => noLoops rfl) (fun args m r h => match args, h with
    | [t0], h => ⟨rfl, (xe_impl_GridFault t0 m).trans h⟩)
theorem ok_C_impl_GridFault : OkC CT 109 C_impl_GridFault := fcall_ok rfl ok_X_impl_GridFault

/-! ### (*impl.Screen).rangeOk$1 -/
noncomputable def cf_impl_Screen_rangeOk_1 : CallF := cfc 75 C_impl_in cfn
noncomputable def X_impl_Screen_rangeOk_1 : List Value → Mem → Option VM
  | [t0], m =>
    (C_impl_in [t0, (.int .i64 1), (.int .i64 3)] m) |> bo fun r1 =>
    (uop .not r1.1) |> bo fun t5 =>
    retK m.length r1.2 [t0] t5
  | _, _ => none
noncomputable def C_impl_Screen_rangeOk_1 : List Value → Mem → Option VM := fcall X_impl_Screen_rangeOk_1
@[simp] theorem c_impl_Screen_rangeOk_1 : C_impl_Screen_rangeOk_1 = fcall X_impl_Screen_rangeOk_1 := (rfl)
theorem cok_impl_Screen_rangeOk_1 : codeOk CT Try.f146 (Try.f146.body.get rfl) = true := by kernel_rfl
theorem xe_impl_Screen_rangeOk_1 (t0 : Value) (m : Mem) : ex CT cf_impl_Screen_rangeOk_1 Try.f146 1 m.length [] (fun _ _ _ => none) 400 [.code (Try.f146.body.get rfl)] (argsT 0 [t0]) m = X_impl_Screen_rangeOk_1 [t0] m := by kernel_rfl
theorem okc_impl_Screen_rangeOk_1 : CallOK CT cf_impl_Screen_rangeOk_1 := cfc_ok ok_C_impl_in cfn_ok
theorem ok_X_impl_Screen_rangeOk_1 : OkX CT 146 X_impl_Screen_rangeOk_1 := OkX.of_ex (cf := cf_impl_Screen_rangeOk_1) (np := 1) (LL := []) (J := (fun _ _ _ _ => none)) CT_ok rfl Try.func146 rfl (Nat.le_of_ble_eq_true rfl) (by decide) cok_impl_Screen_rangeOk_1 okc_impl_Screen_rangeOk_1 (fun k => noLoops rfl) (fun args m r h => match args, h with
    | [t0], h => ⟨rfl, (xe_impl_Screen_rangeOk_1 t0 m).trans h⟩)
theorem ok_C_impl_Screen_rangeOk_1 : OkC CT 146 C_impl_Screen_rangeOk_1 := fcall_ok rfl ok_X_impl_Screen_rangeOk_1

/-! ### impl.paramsCode$1 -/
noncomputable def cf_impl_paramsCode_1 : CallF := cfc 75 C_impl_in cfn
noncomputable def X_impl_paramsCode_1 : List Value → Mem → Option VM
  | [t0], m =>
    (C_impl_in [t0, (.int .i64 0), (.int .i64 999)] m) |> bo fun r1 =>
    (uop .not r1.1) |> bo fun t5 =>
    retK m.length r1.2 [t0] t5
  | _, _ => none
noncomputable def C_impl_paramsCode_1 : List Value → Mem → Option VM := fcall X_impl_paramsCode_1
@[simp] theorem c_impl_paramsCode_1 : C_impl_paramsCode_1 = fcall X_impl_paramsCode_1 := (rfl)
theorem cok_impl_paramsCode_1 : codeOk CT Try.f162 (Try.f162.body.get rfl) = true := by kernel_rfl
theorem xe_impl_paramsCode_1 (t0 : Value) (m : Mem) : ex CT cf_impl_paramsCode_1 Try.f162 1 m.length [] (fun _ _ _ => none) 400 [.code (Try.f162.body.get rfl)] (argsT 0 [t0]) m = X_impl_paramsCode_1 [t0] m := by kernel_rfl
theorem okc_impl_paramsCode_1 : CallOK CT cf_impl_paramsCode_1 := cfc_ok ok_C_impl_in cfn_ok
theorem ok_X_impl_paramsCode_1 : OkX CT 162 X_impl_paramsCode_1 := OkX.of_ex (cf := cf_impl_paramsCode_1) (np := 1) (LL := []) (J := (fun _ _ _ _ => none)) CT_ok rfl Try.func162 rfl (Nat.le_of_ble_eq_true rfl) (by decide) cok_impl_paramsCode_1 okc_impl_paramsCode_1 (fun k => noLoops rfl) (fun args m r h => match args, h with
    | [t0], h => ⟨rfl, (xe_impl_paramsCode_1 t0 m).trans h⟩)
theorem ok_C_impl_paramsCode_1 : OkC CT 162 C_impl_paramsCode_1 := fcall_ok rfl ok_X_impl_paramsCode_1

/-! ### slices.IndexFunc[[]int64,int64] -/
noncomputable def cf_slices_IndexFunc_int64_int64 : CallF := cfc 146 C_impl_Screen_rangeOk_1 (cfc 162 C_impl_paramsCode_1 cfn)
noncomputable def L_slices_IndexFunc_int64_int64 (k : Nat) : Nat → Nat → List Value → Mem → Option VM
  | q + 1, 0, [t0, t1, t7, t8], m =>
    (binX .lss .no t8 t7) |> bo fun t9 =>
    brX t9
      (
        (ixaX 1 t0 t8) |> bo fun t14 =>
        (ld1 m t14) |> bo fun t15 =>
        (callV cf_slices_IndexFunc_int64_int64 t1 [t15] m) |> bo fun r4 =>
        brX r4.1
          (
            retK k r4.2 [t0, t1] t8)
          (
            (binX .add .no t8 (.int .i64 1)) |> bo fun t18 =>
            cutK k r4.2 [t0, t1] [t0, t1, t7, t18] (L_slices_IndexFunc_int64_int64 k q 0)))
      (
        retK k m [t0, t1] (.int .i64 (-1)))
  | _, _, _, _ => none
noncomputable def J_slices_IndexFunc_int64_int64 (k q l : Nat) : List Value → Mem → Option VM := cond (Nat.beq l 2) (L_slices_IndexFunc_int64_int64 k q 0) (fun _ _ => none)
def LL_slices_IndexFunc_int64_int64 : List (Nat × List Tmp) := [(2, [0, 1, 7, 8])]
noncomputable def X_slices_IndexFunc_int64_int64 : List Value → Mem → Option VM
  | [t0, t1], m =>
    (lenX t0) |> bo fun t7 =>
    cutK m.length m [t0, t1] [t0, t1, t7, (.int .i64 0)] (L_slices_IndexFunc_int64_int64 m.length QQ 0)
  | _, _ => none
noncomputable def C_slices_IndexFunc_int64_int64 : List Value → Mem → Option VM := fcall X_slices_IndexFunc_int64_int64
@[simp] theorem c_slices_IndexFunc_int64_int64 : C_slices_IndexFunc_int64_int64 = fcall X_slices_IndexFunc_int64_int64 := (rfl)
theorem cok_slices_IndexFunc_int64_int64 : codeOk CT Try.f166 (Try.f166.body.get rfl) = true := by kernel_rfl
theorem xe_slices_IndexFunc_int64_int64 (t0 t1 : Value) (m : Mem) : ex CT cf_slices_IndexFunc_int64_int64 Try.f166 2 m.length LL_slices_IndexFunc_int64_int64 (J_slices_IndexFunc_int64_int64 m.length QQ) 400 [.code (Try.f166.body.get rfl)] (argsT 0 [t0, t1]) m = X_slices_IndexFunc_int64_int64 [t0, t1] m := by kernel_rfl
theorem okc_slices_IndexFunc_int64_int64 : CallOK CT cf_slices_IndexFunc_int64_int64 := cfc_ok ok_C_impl_Screen_rangeOk_1 (cfc_ok ok_C_impl_paramsCode_1 cfn_ok)
theorem le_slices_IndexFunc_int64_int64_0 (k q : Nat) (t0 t1 t7 t8 : Value) (m : Mem) : ex CT cf_slices_IndexFunc_int64_int64 Try.f166 2 k LL_slices_IndexFunc_int64_int64 (J_slices_IndexFunc_int64_int64 k q) 400 (atLoop Try.f166 0) [(0, t0), (1, t1), (7, t7), (8, t8)] m = J_slices_IndexFunc_int64_int64 k (q + 1) 2 [t0, t1, t7, t8] m := by kernel_rfl
theorem gl_slices_IndexFunc_int64_int64 (k : Nat) : ∀ q i, i < 1 → GoodL CT k Try.f166 LL_slices_IndexFunc_int64_int64 (J_slices_IndexFunc_int64_int64 k q) (atLoop Try.f166 i)
  | 0, 0, _ => goodL_zero (l := 2) (by kernel_rfl) (fun vs m => by kernel_rfl)
  | 0, _ + 1, h => absurd h (by omega)
  | q + 1, 0, _ => goodL_succ (np := 2) (l := 2) (live := [0, 1, 7, 8]) (n := 1) CT_ok rfl okc_slices_IndexFunc_int64_int64 (c := (Try.f166.body.get rfl)) rfl cok_slices_IndexFunc_int64_int64 (by kernel_rfl) (gl_slices_IndexFunc_int64_int64 k q) (by kernel_rfl) rfl (fun vs m r hl h => match vs, hl with
    | [t0, t1, t7, t8], _ => (le_slices_IndexFunc_int64_int64_0 k q t0 t1 t7 t8 m).trans h)
  | _ + 1, _ + 1, h => absurd h (by omega)
theorem ok_X_slices_IndexFunc_int64_int64 : OkX CT 166 X_slices_IndexFunc_int64_int64 := OkX.of_ex (cf := cf_slices_IndexFunc_int64_int64) (np := 2) (LL := LL_slices_IndexFunc_int64_int64) (J := (fun k => J_slices_IndexFunc_int64_int64 k QQ)) CT_ok rfl Try.func166 rfl (Nat.le_of_ble_eq_true rfl) (by decide) cok_slices_IndexFunc_int64_int64 okc_slices_IndexFunc_int64_int64 (fun k => allLoops rfl (by kernel_rfl) (gl_slices_IndexFunc_int64_int64 k QQ)) (fun args m r h => match args, h with
    | [t0, t1], h => ⟨rfl, (xe_slices_IndexFunc_int64_int64 t0 t1 m).trans h⟩)
theorem ok_C_slices_IndexFunc_int64_int64 : OkC CT 166 C_slices_IndexFunc_int64_int64 := fcall_ok rfl ok_X_slices_IndexFunc_int64_int64

/-! ### slices.ContainsFunc[[]int64,int64] -/
noncomputable def cf_slices_ContainsFunc_int64_int64 : CallF := cfc 166 C_slices_IndexFunc_int64_int64 cfn
noncomputable def X_slices_ContainsFunc_int64_int64 : List Value → Mem → Option VM
  | [t0, t1], m =>
    (C_slices_IndexFunc_int64_int64 [t0, t1] m) |> bo fun r1 =>
    (binX .geq .no r1.1 (.int .i64 0)) |> bo fun t8 =>
    retK m.length r1.2 [t0, t1] t8
  | _, _ => none
noncomputable def C_slices_ContainsFunc_int64_int64 : List Value → Mem → Option VM := fcall X_slices_ContainsFunc_int64_int64
@[simp] theorem c_slices_ContainsFunc_int64_int64 : C_slices_ContainsFunc_int64_int64 = fcall X_slices_ContainsFunc_int64_int64 := (rfl)
theorem cok_slices_ContainsFunc_int64_int64 : codeOk CT Try.f145 (Try.f145.body.get rfl) = true := by kernel_rfl
theorem xe_slices_ContainsFunc_int64_int64 (t0 t1 : Value) (m : Mem) : ex CT cf_slices_ContainsFunc_int64_int64 Try.f145 2 m.length [] (fun _ _ _ => none) 400 [.code (Try.f145.body.get rfl)] (argsT 0 [t0, t1]) m = X_slices_ContainsFunc_int64_int64 [t0, t1] m := by kernel_rfl
theorem okc_slices_ContainsFunc_int64_int64 : CallOK CT cf_slices_ContainsFunc_int64_int64 := cfc_ok ok_C_slices_IndexFunc_int64_int64 cfn_ok
theorem ok_X_slices_ContainsFunc_int64_int64 : OkX CT 145 X_slices_ContainsFunc_int64_int64 := OkX.of_ex (cf := cf_slices_ContainsFunc_int64_int64) (np := 2) (LL := []) (J := (fun _ _ _ _ => none)) CT_ok rfl Try.func145 rfl (Nat.le_of_ble_eq_true rfl) (by decide) cok_slices_ContainsFunc_int64_int64 okc_slices_ContainsFunc_int64_int64 (fun k => noLoops rfl) (fun args m r h => match args, h with
    | [t0, t1], h => ⟨rfl, (xe_slices_ContainsFunc_int64_int64 t0 t1 m).trans h⟩)
theorem ok_C_slices_ContainsFunc_int64_int64 : OkC CT 145 C_slices_ContainsFunc_int64_int64 := fcall_ok rfl ok_X_slices_ContainsFunc_int64_int64

/-! ### (impl.Grid).isPlace -/
noncomputable def cf_impl_Grid_isPlace : CallF := cfc 75 C_impl_in cfn
noncomputable def X_impl_Grid_isPlace : List Value → Mem → Option VM
  | [t0, t1, t2], m =>
    (boxX m t0) |> bo fun r1 =>
    (fadX 0 r1.1) |> bo fun t8 =>
    (ld1 r1.2 t8) |> bo fun t9 =>
    (binX .sub .no t9 (.int .i64 1)) |> bo fun t10 =>
    (C_impl_in [t1, (.int .i64 0), t10] r1.2) |> bo fun r5 =>
    (gd r5.1 true (some (t2, r5.2)) r5.2) |> bo fun r6 =>
    (gd r5.1 true ((fadX 1 r1.1) |> bo fun v => some (v, r6.2)) r6.2) |> bo fun r7 =>
    (gd r5.1 true ((ld1 r7.2 r7.1) |> bo fun v => some (v, r7.2)) r7.2) |> bo fun r8 =>
    (gd r5.1 true ((binX .sub .no r8.1 (.int .i64 1)) |> bo fun v => some (v, r8.2)) r8.2) |> bo fun r9 =>
    (gd r5.1 true ((C_impl_in [r6.1, (.int .i64 0), r9.1] r9.2) |> bo fun r => some (r.1, r.2)) r9.2) |> bo fun r10 =>
    (pickX r5.1 r10.1 (.bool false)) |> bo fun t18 =>
    retK m.length r10.2 [t0, t1, t2] t18
  | _, _ => none
noncomputable def C_impl_Grid_isPlace : List Value → Mem → Option VM := fcall X_impl_Grid_isPlace
@[simp] theorem c_impl_Grid_isPlace : C_impl_Grid_isPlace = fcall X_impl_Grid_isPlace := (rfl)
theorem cok_impl_Grid_isPlace : codeOk CT Try.f147 (Try.f147.body.get rfl) = true := by kernel_rfl
theorem xe_impl_Grid_isPlace (t0 t1 t2 : Value) (m : Mem) : ex CT cf_impl_Grid_isPlace Try.f147 3 m.length [] (fun _ _ _ => none) 400 [.code (Try.f147.body.get rfl)] (argsT 0 [t0, t1, t2]) m = X_impl_Grid_isPlace [t0, t1, t2] m := by kernel_rfl
theorem okc_impl_Grid_isPlace : CallOK CT cf_impl_Grid_isPlace := cfc_ok ok_C_impl_in cfn_ok
theorem ok_X_impl_Grid_isPlace : OkX CT 147 X_impl_Grid_isPlace := OkX.of_ex (cf := cf_impl_Grid_isPlace) (np := 3) (LL := []) (J := (fun _ _ _ _ => none)) CT_ok rfl Try.func147 rfl (Nat.le_of_ble_eq_true rfl) (by decide) cok_impl_Grid_isPlace okc_impl_Grid_isPlace (fun k => noLoops rfl) (fun args m r h => match args, h with
    | [t0, t1, t2], h => ⟨rfl, (xe_impl_Grid_isPlace t0 t1 t2 m).trans h⟩)
theorem ok_C_impl_Grid_isPlace : OkC CT 147 C_impl_Grid_isPlace := fcall_ok rfl ok_X_impl_Grid_isPlace

/-! ### (*impl.Screen).rangeOk -/
noncomputable def cf_impl_Screen_rangeOk : CallF := cfc 75 C_impl_in (cfc 144 C_impl_isAttr (cfc 145 C_slices_ContainsFunc_int64_int64 (cfc 147 C_impl_Grid_isPlace cfn)))
noncomputable def X_impl_Screen_rangeOk : List Value → Mem → Option VM
  | [t0], m =>
    (nilX t0) |> bo fun t6 =>
    (fadX 14 t6) |> bo fun t7 =>
    (ld1 m t7) |> bo fun t8 =>
    (C_impl_in [t8, (.int .i64 0), (.int .i64 5)] m) |> bo fun r4 =>
    (gd r4.1 true (some (t0, r4.2)) r4.2) |> bo fun r5 =>
    (gd r4.1 true ((nilX r5.1) |> bo fun v => some (v, r5.2)) r5.2) |> bo fun r6 =>
    (gd r4.1 true ((fadX 15 r6.1) |> bo fun v => some (v, r6.2)) r6.2) |> bo fun r7 =>
    (gd r4.1 true ((ld1 r7.2 r7.1) |> bo fun v => some (v, r7.2)) r7.2) |> bo fun r8 =>
    (gd r4.1 true ((C_impl_in [r8.1, (.int .i64 0), (.int .i64 11)] r8.2) |> bo fun r => some (r.1, r.2)) r8.2) |> bo fun r9 =>
    (pickX r4.1 r9.1 (.bool false)) |> bo fun t16 =>
    (gd t16 true (some (t0, r9.2)) r9.2) |> bo fun r11 =>
    (gd t16 true ((nilX r11.1) |> bo fun v => some (v, r11.2)) r11.2) |> bo fun r12 =>
    (gd t16 true ((fadX 16 r12.1) |> bo fun v => some (v, r12.2)) r12.2) |> bo fun r13 =>
    (gd t16 true ((ld1 r13.2 r13.1) |> bo fun v => some (v, r13.2)) r13.2) |> bo fun r14 =>
    (gd t16 true ((C_impl_isAttr [r14.1] r14.2) |> bo fun r => some (r.1, r.2)) r14.2) |> bo fun r15 =>
    (pickX t16 r15.1 (.bool false)) |> bo fun t23 =>
    (nilX t0) |> bo fun t25 =>
    (fadX 17 t25) |> bo fun t26 =>
    (ld1 r15.2 t26) |> bo fun t27 =>
    (lenX t27) |> bo fun t28 =>
    (binX .eql .no t28 (.int .i64 2)) |> bo fun t29 =>
    (gd t29 true (some (t0, r15.2)) r15.2) |> bo fun r22 =>
    (gd t29 true ((nilX r22.1) |> bo fun v => some (v, r22.2)) r22.2) |> bo fun r23 =>
    (gd t29 true ((fadX 17 r23.1) |> bo fun v => some (v, r23.2)) r23.2) |> bo fun r24 =>
    (gd t29 true ((ld1 r24.2 r24.1) |> bo fun v => some (v, r24.2)) r24.2) |> bo fun r25 =>
    (gd t29 true ((C_slices_ContainsFunc_int64_int64 [r25.1, (.func (.func 146) #[] #[])] r25.2) |> bo fun r => some (r.1, r.2)) r25.2) |> bo fun r26 =>
    (gd t29 true ((uop .not r26.1) |> bo fun v => some (v, r26.2)) r26.2) |> bo fun r27 =>
    (pickX t29 r27.1 (.bool false)) |> bo fun t37 =>
    (nilX t0) |> bo fun t39 =>
    (fadX 0 t39) |> bo fun t40 =>
    (ldS r27.2 4 t40) |> bo fun t41 =>
    (nilX t0) |> bo fun t43 =>
    (fadX 4 t43) |> bo fun t44 =>
    (ld1 r27.2 t44) |> bo fun t45 =>
    (nilX t0) |> bo fun t47 =>
    (fadX 5 t47) |> bo fun t48 =>
    (ld1 r27.2 t48) |> bo fun t49 =>
    (C_impl_Grid_isPlace [t41, t45, t49] r27.2) |> bo fun r38 =>
    (gd r38.1 true (some (t0, r38.2)) r38.2) |> bo fun r39 =>
    (gd r38.1 true ((nilX r39.1) |> bo fun v => some (v, r39.2)) r39.2) |> bo fun r40 =>
    (gd r38.1 true ((fadX 7 r40.1) |> bo fun v => some (v, r40.2)) r40.2) |> bo fun r41 =>
    (gd r38.1 true ((ld1 r41.2 r41.1) |> bo fun v => some (v, r41.2)) r41.2) |> bo fun r42 =>
    (gd r38.1 true ((C_impl_isAttr [r42.1] r42.2) |> bo fun r => some (r.1, r.2)) r42.2) |> bo fun r43 =>
    (pickX r38.1 r43.1 (.bool false)) |> bo fun t57 =>
    (gd t57 true (some (t23, r43.2)) r43.2) |> bo fun r45 =>
    (pickX t57 r45.1 (.bool false)) |> bo fun t60 =>
    (gd t60 true (some (t37, r45.2)) r45.2) |> bo fun r47 =>
    (pickX t60 r47.1 (.bool false)) |> bo fun t63 =>
    (gd t63 true (some (t0, r47.2)) r47.2) |> bo fun r49 =>
    (gd t63 true ((nilX r49.1) |> bo fun v => some (v, r49.2)) r49.2) |> bo fun r50 =>
    (gd t63 true ((fadX 18 r50.1) |> bo fun v => some (v, r50.2)) r50.2) |> bo fun r51 =>
    (gd t63 true ((ld1 r51.2 r51.1) |> bo fun v => some (v, r51.2)) r51.2) |> bo fun r52 =>
    (gd t63 true ((C_impl_in [r52.1, (.int .i64 0), (.int .i64 1)] r52.2) |> bo fun r => some (r.1, r.2)) r52.2) |> bo fun r53 =>
    (pickX t63 r53.1 (.bool false)) |> bo fun t70 =>
    (gd t70 true (some (t0, r53.2)) r53.2) |> bo fun r55 =>
    (gd t70 true ((nilX r55.1) |> bo fun v => some (v, r55.2)) r55.2) |> bo fun r56 =>
    (gd t70 true ((fadX 19 r56.1) |> bo fun v => some (v, r56.2)) r56.2) |> bo fun r57 =>
    (gd t70 true ((ld1 r57.2 r57.1) |> bo fun v => some (v, r57.2)) r57.2) |> bo fun r58 =>
    (gd t70 true ((C_impl_in [r58.1, (.int .i64 0), (.int .i64 999)] r58.2) |> bo fun r => some (r.1, r.2)) r58.2) |> bo fun r59 =>
    (pickX t70 r59.1 (.bool false)) |> bo fun t77 =>
    retK m.length r59.2 [t0] t77
  | _, _ => none
noncomputable def C_impl_Screen_rangeOk : List Value → Mem → Option VM := fcall X_impl_Screen_rangeOk
@[simp] theorem c_impl_Screen_rangeOk : C_impl_Screen_rangeOk = fcall X_impl_Screen_rangeOk := (rfl)
theorem cok_impl_Screen_rangeOk : codeOk CT Try.f110 (Try.f110.body.get rfl) = true := by kernel_rfl
theorem xe_impl_Screen_rangeOk (t0 : Value) (m : Mem) : ex CT cf_impl_Screen_rangeOk Try.f110 1 m.length [] (fun _ _ _ => none) 400 [.code (Try.f110.body.get rfl)] (argsT 0 [t0]) m = X_impl_Screen_rangeOk [t0] m := by kernel_rfl
theorem okc_impl_Screen_rangeOk : CallOK CT cf_impl_Screen_rangeOk := cfc_ok ok_C_impl_in (cfc_ok ok_C_impl_isAttr (cfc_ok ok_C_slices_ContainsFunc_int64_int64 (cfc_ok ok_C_impl_Grid_isPlace cfn_ok)))
theorem ok_X_impl_Screen_rangeOk : OkX CT 110 X_impl_Screen_rangeOk := OkX.of_ex (cf := cf_impl_Screen_rangeOk) (np := 1) (LL := []) (J := (fun _ _ _ _ => none)) CT_ok rfl Try.func110 rfl (Nat.le_of_ble_eq_true rfl) (by decide) cok_impl_Screen_rangeOk okc_impl_Screen_rangeOk (fun k => noLoops rfl) (fun args m r h => match args, h with
    | [t0], h => ⟨rfl, (xe_impl_Screen_rangeOk t0 m).trans h⟩)
theorem ok_C_impl_Screen_rangeOk : OkC CT 110 C_impl_Screen_rangeOk := fcall_ok rfl ok_X_impl_Screen_rangeOk

/-! ### (*impl.Screen).last -/
noncomputable def cf_impl_Screen_last : CallF := cfn
noncomputable def X_impl_Screen_last : List Value → Mem → Option VM
  | [t0], m =>
    (nilX t0) |> bo fun t5 =>
    (fadX 0 t5) |> bo fun t6 =>
    (fadX 0 t6) |> bo fun t7 =>
    (ld1 m t7) |> bo fun t8 =>
    (binX .sub .no t8 (.int .i64 1)) |> bo fun t9 =>
    (nilX t0) |> bo fun t11 =>
    (fadX 0 t11) |> bo fun t12 =>
    (fadX 1 t12) |> bo fun t13 =>
    (ld1 m t13) |> bo fun t14 =>
    (binX .sub .no t14 (.int .i64 1)) |> bo fun t15 =>
    retK m.length m [t0] (.tuple #[t9, t15])
  | _, _ => none
noncomputable def C_impl_Screen_last : List Value → Mem → Option VM := fcall X_impl_Screen_last
@[simp] theorem c_impl_Screen_last : C_impl_Screen_last = fcall X_impl_Screen_last := (rfl)
theorem cok_impl_Screen_last : codeOk CT Try.f148 (Try.f148.body.get rfl) = true := by kernel_rfl
theorem xe_impl_Screen_last (t0 : Value) (m : Mem) : ex CT cf_impl_Screen_last Try.f148 1 m.length [] (fun _ _ _ => none) 400 [.code (Try.f148.body.get rfl)] (argsT 0 [t0]) m = X_impl_Screen_last [t0] m := by kernel_rfl
theorem okc_impl_Screen_last : CallOK CT cf_impl_Screen_last := cfn_ok
theorem ok_X_impl_Screen_last : OkX CT 148 X_impl_Screen_last := OkX.of_ex (cf := cf_impl_Screen_last) (np := 1) (LL := []) (J := (fun _ _ _ _ => none)) CT_ok rfl Try.func148 rfl (Nat.le_of_ble_eq_true rfl) (by decide) cok_impl_Screen_last okc_impl_Screen_last (fun k => noLoops rfl) (fun args m r h => match args, h with
    | [t0], h => ⟨rfl, (xe_impl_Screen_last t0 m).trans h⟩)
theorem ok_C_impl_Screen_last : OkC CT 148 C_impl_Screen_last := fcall_ok rfl ok_X_impl_Screen_last

/-! ### (*impl.Screen).isRegion -/
noncomputable def cf_impl_Screen_isRegion : CallF := cfc 148 C_impl_Screen_last cfn
noncomputable def X_impl_Screen_isRegion : List Value → Mem → Option VM
  | [t0, t1, t2], m =>
    (C_impl_Screen_last [t0] m) |> bo fun r1 =>
    (extX 0 r1.1) |> bo fun t12 =>
    (extX 1 r1.1) |> bo fun t13 =>
    (binX .leq .no (.int .i64 0) t1) |> bo fun t15 =>
    (gd t15 true (some (t1, r1.2)) r1.2) |> bo fun r5 =>
    (gd t15 true (some (t2, r5.2)) r5.2) |> bo fun r6 =>
    (gd t15 true ((binX .lss .no r5.1 r6.1) |> bo fun v => some (v, r6.2)) r6.2) |> bo fun r7 =>
    (pickX t15 r7.1 (.bool false)) |> bo fun t20 =>
    (gd t20 true (some (t2, r7.2)) r7.2) |> bo fun r9 =>
    (gd t20 true (some (t12, r9.2)) r9.2) |> bo fun r10 =>
    (gd t20 true ((binX .leq .no r9.1 r10.1) |> bo fun v => some (v, r10.2)) r10.2) |> bo fun r11 =>
    (pickX t20 r11.1 (.bool false)) |> bo fun t25 =>
    (gd t25 false (some (t1, r11.2)) r11.2) |> bo fun r13 =>
    (gd t25 false ((binX .eql .no r13.1 (.int .i64 0)) |> bo fun v => some (v, r13.2)) r13.2) |> bo fun r14 =>
    (gd t25 false (some (r14.1, r14.2)) r14.2) |> bo fun r15 =>
    (gd r15.1 true (some (t2, r15.2)) r15.2) |> bo fun r16 =>
    (gd r15.1 true (some (t12, r16.2)) r16.2) |> bo fun r17 =>
    (gd r15.1 true ((binX .eql .no r16.1 r17.1) |> bo fun v => some (v, r17.2)) r17.2) |> bo fun r18 =>
    (gd t25 false ((pickX r15.1 r18.1 (.bool false)) |> bo fun v => some (v, r18.2)) r18.2) |> bo fun r19 =>
    (pickX t25 (.bool true) r19.1) |> bo fun t34 =>
    retK m.length r19.2 [t0, t1, t2] t34
  | _, _ => none
noncomputable def C_impl_Screen_isRegion : List Value → Mem → Option VM := fcall X_impl_Screen_isRegion
@[simp] theorem c_impl_Screen_isRegion : C_impl_Screen_isRegion = fcall X_impl_Screen_isRegion := (rfl)
theorem cok_impl_Screen_isRegion : codeOk CT Try.f149 (Try.f149.body.get rfl) = true := by kernel_rfl
theorem xe_impl_Screen_isRegion (t0 t1 t2 : Value) (m : Mem) : ex CT cf_impl_Screen_isRegion Try.f149 3 m.length [] (fun _ _ _ => none) 400 [.code (Try.f149.body.get rfl)] (argsT 0 [t0, t1, t2]) m = X_impl_Screen_isRegion [t0, t1, t2] m := by kernel_rfl
theorem okc_impl_Screen_isRegion : CallOK CT cf_impl_Screen_isRegion := cfc_ok ok_C_impl_Screen_last cfn_ok
theorem ok_X_impl_Screen_isRegion : OkX CT 149 X_impl_Screen_isRegion := OkX.of_ex (cf := cf_impl_Screen_isRegion) (np := 3) (LL := []) (J := (fun _ _ _ _ => none)) CT_ok rfl Try.func149 rfl (Nat.le_of_ble_eq_true rfl) (by decide) cok_impl_Screen_isRegion okc_impl_Screen_isRegion (fun k => noLoops rfl) (fun args m r h => match args, h with
    | [t0, t1, t2], h => ⟨rfl, (xe_impl_Screen_isRegion t0 t1 t2 m).trans h⟩)
theorem ok_C_impl_Screen_isRegion : OkC CT 149 C_impl_Screen_isRegion := fcall_ok rfl ok_X_impl_Screen_isRegion

/-! ### (*impl.Screen).inRegion -/
noncomputable def cf_impl_Screen_inRegion : CallF := cfc 75 C_impl_in cfn
noncomputable def X_impl_Screen_inRegion : List Value → Mem → Option VM
  | [t0], m =>
    (nilX t0) |> bo fun t4 =>
    (fadX 4 t4) |> bo fun t5 =>
    (ld1 m t5) |> bo fun t6 =>
    (nilX t0) |> bo fun t8 =>
    (fadX 8 t8) |> bo fun t9 =>
    (ld1 m t9) |> bo fun t10 =>
    (nilX t0) |> bo fun t12 =>
    (fadX 9 t12) |> bo fun t13 =>
    (ld1 m t13) |> bo fun t14 =>
    (C_impl_in [t6, t10, t14] m) |> bo fun r10 =>
    retK m.length r10.2 [t0] r10.1
  | _, _ => none
noncomputable def C_impl_Screen_inRegion : List Value → Mem → Option VM := fcall X_impl_Screen_inRegion
@[simp] theorem c_impl_Screen_inRegion : C_impl_Screen_inRegion = fcall X_impl_Screen_inRegion := (rfl)
theorem cok_impl_Screen_inRegion : codeOk CT Try.f150 (Try.f150.body.get rfl) = true := by kernel_rfl
theorem xe_impl_Screen_inRegion (t0 : Value) (m : Mem) : ex CT cf_impl_Screen_inRegion Try.f150 1 m.length [] (fun _ _ _ => none) 400 [.code (Try.f150.body.get rfl)] (argsT 0 [t0]) m = X_impl_Screen_inRegion [t0] m := by kernel_rfl
theorem okc_impl_Screen_inRegion : CallOK CT cf_impl_Screen_inRegion := cfc_ok ok_C_impl_in cfn_ok
theorem ok_X_impl_Screen_inRegion : OkX CT 150 X_impl_Screen_inRegion := OkX.of_ex (cf := cf_impl_Screen_inRegion) (np := 1) (LL := []) (J := (fun _ _ _ _ => none)) CT_ok rfl Try.func150 rfl (Nat.le_of_ble_eq_true rfl) (by decide) cok_impl_Screen_inRegion okc_impl_Screen_inRegion (fun k => noLoops rfl) (fun args m r h => match args, h with
    | [t0], h => ⟨rfl, (xe_impl_Screen_inRegion t0 m).trans h⟩)
theorem ok_C_impl_Screen_inRegion : OkC CT 150 C_impl_Screen_inRegion := fcall_ok rfl ok_X_impl_Screen_inRegion

/-! ### (*impl.Screen).formOk -/
noncomputable def cf_impl_Screen_formOk : CallF := cfc 148 C_impl_Screen_last (cfc 149 C_impl_Screen_isRegion (cfc 150 C_impl_Screen_inRegion cfn))
noncomputable def X_impl_Screen_formOk : List Value → Mem → Option VM
  | [t0], m =>
    (C_impl_Screen_last [t0] m) |> bo fun r1 =>
    (extX 0 r1.1) |> bo fun t9 =>
    (extX 1 r1.1) |> bo fun t10 =>
    (nilX t0) |> bo fun t12 =>
    (fadX 6 t12) |> bo fun t13 =>
    (ld1 r1.2 t13) |> bo fun t14 =>
    (uop .not t14) |> bo fun t15 =>
    (gd t15 false (some (t0, r1.2)) r1.2) |> bo fun r8 =>
    (gd t15 false ((nilX r8.1) |> bo fun v => some (v, r8.2)) r8.2) |> bo fun r9 =>
    (gd t15 false ((fadX 5 r9.1) |> bo fun v => some (v, r9.2)) r9.2) |> bo fun r10 =>
    (gd t15 false ((ld1 r10.2 r10.1) |> bo fun v => some (v, r10.2)) r10.2) |> bo fun r11 =>
    (gd t15 false (some (t10, r11.2)) r11.2) |> bo fun r12 =>
    (gd t15 false ((binX .eql .no r11.1 r12.1) |> bo fun v => some (v, r12.2)) r12.2) |> bo fun r13 =>
    (gd t15 false (some (r13.1, r13.2)) r13.2) |> bo fun r14 =>
    (gd r14.1 true (some (t0, r14.2)) r14.2) |> bo fun r15 =>
    (gd r14.1 true ((nilX r15.1) |> bo fun v => some (v, r15.2)) r15.2) |> bo fun r16 =>
    (gd r14.1 true ((fadX 11 r16.1) |> bo fun v => some (v, r16.2)) r16.2) |> bo fun r17 =>
    (gd r14.1 true ((ld1 r17.2 r17.1) |> bo fun v => some (v, r17.2)) r17.2) |> bo fun r18 =>
    (gd t15 false ((pickX r14.1 r18.1 (.bool false)) |> bo fun v => some (v, r18.2)) r18.2) |> bo fun r19 =>
    (pickX t15 (.bool true) r19.1) |> bo fun t29 =>
    (nilX t0) |> bo fun t32 =>
    (fadX 8 t32) |> bo fun t33 =>
    (ld1 r19.2 t33) |> bo fun t34 =>
    (nilX t0) |> bo fun t36 =>
    (fadX 9 t36) |> bo fun t37 =>
    (ld1 r19.2 t37) |> bo fun t38 =>
    (C_impl_Screen_isRegion [t0, t34, t38] r19.2) |> bo fun r27 =>
    (gd r27.1 true (some (t0, r27.2)) r27.2) |> bo fun r28 =>
    (gd r27.1 true ((nilX r28.1) |> bo fun v => some (v, r28.2)) r28.2) |> bo fun r29 =>
    (gd r27.1 true ((fadX 13 r29.1) |> bo fun v => some (v, r29.2)) r29.2) |> bo fun r30 =>
    (gd r27.1 true ((ld1 r30.2 r30.1) |> bo fun v => some (v, r30.2)) r30.2) |> bo fun r31 =>
    (gd r27.1 true ((lenX r31.1) |> bo fun v => some (v, r31.2)) r31.2) |> bo fun r32 =>
    (gd r27.1 true (some (t0, r32.2)) r32.2) |> bo fun r33 =>
    (gd r27.1 true ((nilX r33.1) |> bo fun v => some (v, r33.2)) r33.2) |> bo fun r34 =>
    (gd r27.1 true ((fadX 0 r34.1) |> bo fun v => some (v, r34.2)) r34.2) |> bo fun r35 =>
    (gd r27.1 true ((fadX 1 r35.1) |> bo fun v => some (v, r35.2)) r35.2) |> bo fun r36 =>
    (gd r27.1 true ((ld1 r36.2 r36.1) |> bo fun v => some (v, r36.2)) r36.2) |> bo fun r37 =>
    (gd r27.1 true ((binX .eql .no r32.1 r37.1) |> bo fun v => some (v, r37.2)) r37.2) |> bo fun r38 =>
    (pickX r27.1 r38.1 (.bool false)) |> bo fun t52 =>
    (gd t52 true (some (t29, r38.2)) r38.2) |> bo fun r40 =>
    (pickX t52 r40.1 (.bool false)) |> bo fun t55 =>
    (gd t55 true (some (t0, r40.2)) r40.2) |> bo fun r42 =>
    (gd t55 true ((nilX r42.1) |> bo fun v => some (v, r42.2)) r42.2) |> bo fun r43 =>
    (gd t55 true ((fadX 10 r43.1) |> bo fun v => some (v, r43.2)) r43.2) |> bo fun r44 =>
    (gd t55 true ((ld1 r44.2 r44.1) |> bo fun v => some (v, r44.2)) r44.2) |> bo fun r45 =>
    (gd t55 true ((uop .not r45.1) |> bo fun v => some (v, r45.2)) r45.2) |> bo fun r46 =>
    (gd t55 true (some (r46.1, r46.2)) r46.2) |> bo fun r47 =>
    (gd r47.1 false (some (t0, r47.2)) r47.2) |> bo fun r48 =>
    (gd r47.1 false ((C_impl_Screen_inRegion [r48.1] r48.2) |> bo fun r => some (r.1, r.2)) r48.2) |> bo fun r49 =>
    (gd t55 true ((pickX r47.1 (.bool true) r49.1) |> bo fun v => some (v, r49.2)) r49.2) |> bo fun r50 =>
    (pickX t55 r50.1 (.bool false)) |> bo fun t66 =>
    retK m.length r50.2 [t0] t66
  | _, _ => none
noncomputable def C_impl_Screen_formOk : List Value → Mem → Option VM := fcall X_impl_Screen_formOk
@[simp] theorem c_impl_Screen_formOk : C_impl_Screen_formOk = fcall X_impl_Screen_formOk := (rfl)
theorem cok_impl_Screen_formOk : codeOk CT Try.f111 (Try.f111.body.get rfl) = true := by kernel_rfl
theorem xe_impl_Screen_formOk (t0 : Value) (m : Mem) : ex CT cf_impl_Screen_formOk Try.f111 1 m.length [] (fun _ _ _ => none) 400 [.code (Try.f111.body.get rfl)] (argsT 0 [t0]) m = X_impl_Screen_formOk [t0] m := by kernel_rfl
theorem okc_impl_Screen_formOk : CallOK CT cf_impl_Screen_formOk := cfc_ok ok_C_impl_Screen_last (cfc_ok ok_C_impl_Screen_isRegion (cfc_ok ok_C_impl_Screen_inRegion cfn_ok))
theorem ok_X_impl_Screen_formOk : OkX CT 111 X_impl_Screen_formOk := OkX.of_ex (cf := cf_impl_Screen_formOk) (np := 1) (LL := []) (J := (fun _ _ _ _ => none)) CT_ok rfl Try.func111 rfl (Nat.le_of_ble_eq_true rfl) (by decide) cok_impl_Screen_formOk okc_impl_Screen_formOk (fun k => noLoops rfl) (fun args m r h => match args, h with
    | [t0], h => ⟨rfl, (xe_impl_Screen_formOk t0 m).trans h⟩)
theorem ok_C_impl_Screen_formOk : OkC CT 111 C_impl_Screen_formOk := fcall_ok rfl ok_X_impl_Screen_formOk

/-! ### impl.ScreenFault -/
noncomputable def cf_impl_ScreenFault : CallF := cfc 61 C_impl_first (cfc 63 C_impl_unless (cfc 109 C_impl_GridFault (cfc 110 C_impl_Screen_rangeOk (cfc 111 C_impl_Screen_formOk cfn))))
noncomputable def X_impl_ScreenFault : List Value → Mem → Option VM
  | [t0], m =>
    (boxX m t0) |> bo fun r1 =>
    (fadX 0 r1.1) |> bo fun t4 =>
    (ldS r1.2 4 t4) |> bo fun t5 =>
    (C_impl_GridFault [t5] r1.2) |> bo fun r4 =>
    (C_impl_Screen_rangeOk [r1.1] r4.2) |> bo fun r5 =>
    (C_impl_unless [r5.1, (.int .i64 3)] r5.2) |> bo fun r6 =>
    (bslX r6.2 2 1 [.int .i64 0] [(0, 1, r4.1), (1, 1, r6.1)]) |> bo fun r7 =>
    (C_impl_first [r7.1] r7.2) |> bo fun r8 =>
    (binX .neq .no r8.1 (.int .i64 0)) |> bo fun t12 =>
    brX t12
      (
        retK m.length r8.2 [t0] r8.1)
      (
        (C_impl_Screen_formOk [r1.1] r8.2) |> bo fun r10 =>
        (C_impl_unless [r10.1, (.int .i64 1)] r10.2) |> bo fun r11 =>
        retK m.length r11.2 [t0] r11.1)
  | _, _ => none
noncomputable def C_impl_ScreenFault : List Value → Mem → Option VM := fcall X_impl_ScreenFault
@[simp] theorem c_impl_ScreenFault : C_impl_ScreenFault = fcall X_impl_ScreenFault := (rfl)
theorem cok_impl_ScreenFault : codeOk CT Try.f62 (Try.f62.body.get rfl) = true := by kernel_rfl
theorem xe_impl_ScreenFault (t0 : Value) (m : Mem) : ex CT cf_impl_ScreenFault Try.f62 1 m.length [] (fun _ _ _ => none) 400 [.code (Try.f62.body.get rfl)] (argsT 0 [t0]) m = X_impl_ScreenFault [t0] m := by kernel_rfl
theorem okc_impl_ScreenFault : CallOK CT cf_impl_ScreenFault := cfc_ok ok_C_impl_first (cfc_ok ok_C_impl_unless (cfc_ok ok_C_impl_GridFault (cfc_ok ok_C_impl_Screen_rangeOk (cfc_ok ok_C_impl_Screen_formOk cfn_ok))))
theorem ok_X_impl_ScreenFault : OkX CT 62 X_impl_ScreenFault := OkX.of_ex (cf := cf_impl_ScreenFault) (np := 1) (LL := []) (J := (fun _ _ _ _ => none)) CT_ok rfl Try.func62 rfl (Nat.le_of_ble_eq_true rfl) (by decide) cok_impl_ScreenFault okc_impl_ScreenFault (fun k => noLoops rfl) (fun args m r h => match args, h with
    | [t0], h => ⟨rfl, (xe_impl_ScreenFault t0 m).trans h⟩)
theorem ok_C_impl_ScreenFault : OkC CT 62 C_impl_ScreenFault := fcall_ok rfl ok_X_impl_ScreenFault

/-! ### slices.Clone[[]impl.Cell,impl.Cell] -/
noncomputable def cf_slices_Clone_impl_Cell_impl_Cell : CallF := cfn
noncomputable def X_slices_Clone_impl_Cell_impl_Cell : List Value → Mem → Option VM
  | [t0], m =>
    (nlX .eql t0) |> bo fun t4 =>
    brX t4
      (
        retK m.length m [t0] (.slice none 0 0))
      (
        (bslX m 0 2 [.int .i64 0, .int .i64 0] []) |> bo fun r2 =>
        (apL r2.2 2 16 r2.1 t0) |> bo fun r3 =>
        retK m.length r3.2 [t0] r3.1)
  | _, _ => none
theorem cok_slices_Clone_impl_Cell_impl_Cell : codeOk CT Try.f167 (Try.f167.body.get rfl) = true := by kernel_rfl
theorem xe_slices_Clone_impl_Cell_impl_Cell (t0 : Value) (m : Mem) : ex CT cf_slices_Clone_impl_Cell_impl_Cell Try.f167 1 m.length [] (fun _ _ _ => none) 400 [.code (Try.f167.body.get rfl)] (argsT 0 [t0]) m = X_slices_Clone_impl_Cell_impl_Cell [t0] m := by kernel_rfl
theorem okc_slices_Clone_impl_Cell_impl_Cell : CallOK CT cf_slices_Clone_impl_Cell_impl_Cell := cfn_ok
theorem ok_X_slices_Clone_impl_Cell_impl_Cell : OkX CT 167 X_slices_Clone_impl_Cell_impl_Cell := OkX.of_ex (cf := cf_slices_Clone_impl_Cell_impl_Cell) (np := 1) (LL := []) (J := (fun _ _ _ _ => none)) CT_ok rfl Try.func167 rfl (Nat.le_of_ble_eq_true rfl) (by decide) cok_slices_Clone_impl_Cell_impl_Cell okc_slices_Clone_impl_Cell_impl_Cell (fun k => noLoops rfl) (fun args m r h => match args, h with
    | [t0], h => ⟨rfl, (xe_slices_Clone_impl_Cell_impl_Cell t0 m).trans h⟩)
noncomputable def C_slices_Clone_impl_Cell_impl_Cell : List Value → Mem → Option VM := cloneC 2
@[simp] theorem c_slices_Clone_impl_Cell_impl_Cell : C_slices_Clone_impl_Cell_impl_Cell = cloneC 2 := (rfl)
theorem cl0_slices_Clone_impl_Cell_impl_Cell : X_slices_Clone_impl_Cell_impl_Cell [.float .f64 0] [] = some (.slice none 0 0, []) := by simp -implicitDefEqProofs [X_slices_Clone_impl_Cell_impl_Cell, retK_eq]
theorem cl1_slices_Clone_impl_Cell_impl_Cell : X_slices_Clone_impl_Cell_impl_Cell [.float .f64 1] [] = some (.slice (some ⟨0, 0, none⟩) 0 0, [⟨[], 2, true, true⟩]) := by simp -implicitDefEqProofs [X_slices_Clone_impl_Cell_impl_Cell, retK_eq, apL_f1]
theorem cl2_slices_Clone_impl_Cell_impl_Cell (len : Nat) (cs : Array Value) (hl : len ≠ 0) (hs : cs.size = len * 2) (hk : len < 1000000000) (hh : cs.toList.all hard = true) : X_slices_Clone_impl_Cell_impl_Cell [.iface len (.agg cs)] [] = some (.slice (some ⟨0, 0, none⟩) len len, [⟨cs.toList, 2, true, true⟩]) := by
  have ha := fun m n o c => apL_agg (m := m) (sz := 2) (bytes := 16) (n := n) (o := o) (len := 0) (c := c) hs (by omega) (by omega)
  simp -implicitDefEqProofs [X_slices_Clone_impl_Cell_impl_Cell, retK_eq, ha, hl, hard_all hh]
theorem ok_C_slices_Clone_impl_Cell_impl_Cell : OkC CT 167 C_slices_Clone_impl_Cell_impl_Cell := cloneC_ok rfl ok_X_slices_Clone_impl_Cell_impl_Cell cl0_slices_Clone_impl_Cell_impl_Cell cl1_slices_Clone_impl_Cell_impl_Cell cl2_slices_Clone_impl_Cell_impl_Cell

/-! ### (impl.Grid).clone -/
noncomputable def cf_impl_Grid_clone : CallF := cfc 167 C_slices_Clone_impl_Cell_impl_Cell cfn
noncomputable def X_impl_Grid_clone : List Value → Mem → Option VM
  | [t0], m =>
    (boxX m t0) |> bo fun r1 =>
    (alX r1.2 [.int .i64 0, .int .i64 0, .slice none 0 0, .slice none 0 0]) |> bo fun r2 =>
    (fadX 2 r1.1) |> bo fun t3 =>
    (ld1 r2.2 t3) |> bo fun t4 =>
    (C_slices_Clone_impl_Cell_impl_Cell [t4] r2.2) |> bo fun r5 =>
    (fadX 3 r1.1) |> bo fun t6 =>
    (ld1 r5.2 t6) |> bo fun t7 =>
    (C_slices_Clone_impl_Cell_impl_Cell [t7] r5.2) |> bo fun r8 =>
    (fadX 2 r1.1) |> bo fun t9 =>
    (stX r8.2 1 t9 r5.1) |> bo fun m10 =>
    (fadX 3 r1.1) |> bo fun t10 =>
    (stX m10 1 t10 r8.1) |> bo fun m12 =>
    gP (stbL [((rdN t6), r2.2, r5.2)])
      (
        (ldS m12 4 r1.1) |> bo fun t11 =>
        (stX m12 4 r2.1 t11) |> bo fun m14 =>
        (resP (some 4) m14 r2.1) |> bo fun c15 =>
        retK m.length m14 [t0] c15)
  | _, _ => none
noncomputable def C_impl_Grid_clone : List Value → Mem → Option VM := fcall X_impl_Grid_clone
@[simp] theorem c_impl_Grid_clone : C_impl_Grid_clone = fcall X_impl_Grid_clone := (rfl)
theorem cok_impl_Grid_clone : codeOk CT Try.f151 (Try.f151.body.get rfl) = true := by kernel_rfl
theorem xe_impl_Grid_clone (t0 : Value) (m : Mem) : ex CT cf_impl_Grid_clone Try.f151 1 m.length [] (fun _ _ _ => none) 400 [.code (Try.f151.body.get rfl)] (argsT 0 [t0]) m = X_impl_Grid_clone [t0] m := by kernel_rfl
theorem okc_impl_Grid_clone : CallOK CT cf_impl_Grid_clone := cfc_ok ok_C_slices_Clone_impl_Cell_impl_Cell cfn_ok
theorem ok_X_impl_Grid_clone : OkX CT 151 X_impl_Grid_clone := OkX.of_ex (cf := cf_impl_Grid_clone) (np := 1) (LL := []) (J := (fun _ _ _ _ => none)) CT_ok rfl Try.func151 rfl (Nat.le_of_ble_eq_true rfl) (by decide) cok_impl_Grid_clone okc_impl_Grid_clone (fun k => noLoops rfl) (fun args m r h => match args, h with
    | [t0], h => ⟨rfl, (xe_impl_Grid_clone t0 m).trans h⟩)
theorem ok_C_impl_Grid_clone : OkC CT 151 C_impl_Grid_clone := fcall_ok rfl ok_X_impl_Grid_clone

/-! ### slices.Clone[[]bool,bool] -/
noncomputable def cf_slices_Clone_bool_bool : CallF := cfn
noncomputable def X_slices_Clone_bool_bool : List Value → Mem → Option VM
  | [t0], m =>
    (nlX .eql t0) |> bo fun t4 =>
    brX t4
      (
        retK m.length m [t0] (.slice none 0 0))
      (
        (bslX m 0 1 [.bool false] []) |> bo fun r2 =>
        (apL r2.2 1 1 r2.1 t0) |> bo fun r3 =>
        retK m.length r3.2 [t0] r3.1)
  | _, _ => none
theorem cok_slices_Clone_bool_bool : codeOk CT Try.f152 (Try.f152.body.get rfl) = true := by kernel_rfl
theorem xe_slices_Clone_bool_bool (t0 : Value) (m : Mem) : ex CT cf_slices_Clone_bool_bool Try.f152 1 m.length [] (fun _ _ _ => none) 400 [.code (Try.f152.body.get rfl)] (argsT 0 [t0]) m = X_slices_Clone_bool_bool [t0] m := by kernel_rfl
theorem okc_slices_Clone_bool_bool : CallOK CT cf_slices_Clone_bool_bool := cfn_ok
theorem ok_X_slices_Clone_bool_bool : OkX CT 152 X_slices_Clone_bool_bool := OkX.of_ex (cf := cf_slices_Clone_bool_bool) (np := 1) (LL := []) (J := (fun _ _ _ _ => none)) CT_ok rfl Try.func152 rfl (Nat.le_of_ble_eq_true rfl) (by decide) cok_slices_Clone_bool_bool okc_slices_Clone_bool_bool (fun k => noLoops rfl) (fun args m r h => match args, h with
    | [t0], h => ⟨rfl, (xe_slices_Clone_bool_bool t0 m).trans h⟩)
noncomputable def C_slices_Clone_bool_bool : List Value → Mem → Option VM := cloneC 1
@[simp] theorem c_slices_Clone_bool_bool : C_slices_Clone_bool_bool = cloneC 1 := (rfl)
theorem cl0_slices_Clone_bool_bool : X_slices_Clone_bool_bool [.float .f64 0] [] = some (.slice none 0 0, []) := by simp -implicitDefEqProofs [X_slices_Clone_bool_bool, retK_eq]
theorem cl1_slices_Clone_bool_bool : X_slices_Clone_bool_bool [.float .f64 1] [] = some (.slice (some ⟨0, 0, none⟩) 0 0, [⟨[], 1, true, true⟩]) := by simp -implicitDefEqProofs [X_slices_Clone_bool_bool, retK_eq, apL_f1]
theorem cl2_slices_Clone_bool_bool (len : Nat) (cs : Array Value) (hl : len ≠ 0) (hs : cs.size = len * 1) (hk : len < 1000000000) (hh : cs.toList.all hard = true) : X_slices_Clone_bool_bool [.iface len (.agg cs)] [] = some (.slice (some ⟨0, 0, none⟩) len len, [⟨cs.toList, 1, true, true⟩]) := by
  have ha := fun m n o c => apL_agg (m := m) (sz := 1) (bytes := 1) (n := n) (o := o) (len := 0) (c := c) hs (by omega) (by omega)
  simp -implicitDefEqProofs [X_slices_Clone_bool_bool, retK_eq, ha, hl, hard_all hh]
theorem ok_C_slices_Clone_bool_bool : OkC CT 152 C_slices_Clone_bool_bool := cloneC_ok rfl ok_X_slices_Clone_bool_bool cl0_slices_Clone_bool_bool cl1_slices_Clone_bool_bool cl2_slices_Clone_bool_bool

/-! ### slices.Clone[[]int64,int64] -/
noncomputable def cf_slices_Clone_int64_int64 : CallF := cfn
noncomputable def X_slices_Clone_int64_int64 : List Value → Mem → Option VM
  | [t0], m =>
    (nlX .eql t0) |> bo fun t4 =>
    brX t4
      (
        retK m.length m [t0] (.slice none 0 0))
      (
        (bslX m 0 1 [.int .i64 0] []) |> bo fun r2 =>
        (apL r2.2 1 8 r2.1 t0) |> bo fun r3 =>
        retK m.length r3.2 [t0] r3.1)
  | _, _ => none
theorem cok_slices_Clone_int64_int64 : codeOk CT Try.f153 (Try.f153.body.get rfl) = true := by kernel_rfl
theorem xe_slices_Clone_int64_int64 (t0 : Value) (m : Mem) : ex CT cf_slices_Clone_int64_int64 Try.f153 1 m.length [] (fun _ _ _ => none) 400 [.code (Try.f153.body.get rfl)] (argsT 0 [t0]) m = X_slices_Clone_int64_int64 [t0] m := by kernel_rfl
theorem okc_slices_Clone_int64_int64 : CallOK CT cf_slices_Clone_int64_int64 := cfn_ok
theorem ok_X_slices_Clone_int64_int64 : OkX CT 153 X_slices_Clone_int64_int64 := OkX.of_ex (cf := cf_slices_Clone_int64_int64) (np := 1) (LL := []) (J := (fun _ _ _ _ => none)) CT_ok rfl Try.func153 rfl (Nat.le_of_ble_eq_true rfl) (by decide) cok_slices_Clone_int64_int64 okc_slices_Clone_int64_int64 (fun k => noLoops rfl) (fun args m r h => match args, h with
    | [t0], h => ⟨rfl, (xe_slices_Clone_int64_int64 t0 m).trans h⟩)
noncomputable def C_slices_Clone_int64_int64 : List Value → Mem → Option VM := cloneC 1
@[simp] theorem c_slices_Clone_int64_int64 : C_slices_Clone_int64_int64 = cloneC 1 := (rfl)
theorem cl0_slices_Clone_int64_int64 : X_slices_Clone_int64_int64 [.float .f64 0] [] = some (.slice none 0 0, []) := by simp -implicitDefEqProofs [X_slices_Clone_int64_int64, retK_eq]
theorem cl1_slices_Clone_int64_int64 : X_slices_Clone_int64_int64 [.float .f64 1] [] = some (.slice (some ⟨0, 0, none⟩) 0 0, [⟨[], 1, true, true⟩]) := by simp -implicitDefEqProofs [X_slices_Clone_int64_int64, retK_eq, apL_f1]
theorem cl2_slices_Clone_int64_int64 (len : Nat) (cs : Array Value) (hl : len ≠ 0) (hs : cs.size = len * 1) (hk : len < 1000000000) (hh : cs.toList.all hard = true) : X_slices_Clone_int64_int64 [.iface len (.agg cs)] [] = some (.slice (some ⟨0, 0, none⟩) len len, [⟨cs.toList, 1, true, true⟩]) := by
  have ha := fun m n o c => apL_agg (m := m) (sz := 1) (bytes := 8) (n := n) (o := o) (len := 0) (c := c) hs (by omega) (by omega)
  simp -implicitDefEqProofs [X_slices_Clone_int64_int64, retK_eq, ha, hl, hard_all hh]
theorem ok_C_slices_Clone_int64_int64 : OkC CT 153 C_slices_Clone_int64_int64 := cloneC_ok rfl ok_X_slices_Clone_int64_int64 cl0_slices_Clone_int64_int64 cl1_slices_Clone_int64_int64 cl2_slices_Clone_int64_int64

/-! ### (impl.Screen).clone -/
noncomputable def cf_impl_Screen_clone : CallF := cfc 151 C_impl_Grid_clone (cfc 152 C_slices_Clone_bool_bool (cfc 153 C_slices_Clone_int64_int64 cfn))
noncomputable def X_impl_Screen_clone : List Value → Mem → Option VM
  | [t0], m =>
    (boxX m t0) |> bo fun r1 =>
    (alX r1.2 [.int .i64 0, .int .i64 0, .slice none 0 0, .slice none 0 0, .int .i64 0, .int .i64 0, .bool false, .int .i64 0, .int .i64 0, .int .i64 0, .bool false, .bool false, .bool false, .slice none 0 0, .int .i64 0, .int .i64 0, .int .i64 0, .slice none 0 0, .int .i64 0, .int .i64 0]) |> bo fun r2 =>
    (fadX 0 r1.1) |> bo fun t3 =>
    (ldS r2.2 4 t3) |> bo fun t4 =>
    (C_impl_Grid_clone [t4] r2.2) |> bo fun r5 =>
    (fadX 13 r1.1) |> bo fun t6 =>
    (ld1 r5.2 t6) |> bo fun t7 =>
    (C_slices_Clone_bool_bool [t7] r5.2) |> bo fun r8 =>
    (fadX 17 r1.1) |> bo fun t9 =>
    (ld1 r8.2 t9) |> bo fun t10 =>
    (C_slices_Clone_int64_int64 [t10] r8.2) |> bo fun r11 =>
    (fadX 0 r1.1) |> bo fun t12 =>
    (stX r11.2 4 t12 r5.1) |> bo fun m13 =>
    (fadX 13 r1.1) |> bo fun t13 =>
    (stX m13 1 t13 r8.1) |> bo fun m15 =>
    (fadX 17 r1.1) |> bo fun t14 =>
    (stX m15 1 t14 r11.1) |> bo fun m17 =>
    gP (stbL [((rdN t6), r2.2, r5.2), ((rdN t9), r2.2, r5.2), ((rdN t9), r5.2, r8.2)])
      (
        (ldS m17 20 r1.1) |> bo fun t15 =>
        (stX m17 20 r2.1 t15) |> bo fun m19 =>
        (resP (some 20) m19 r2.1) |> bo fun c20 =>
        retK m.length m19 [t0] c20)
  | _, _ => none
noncomputable def C_impl_Screen_clone : List Value → Mem → Option VM := fcall X_impl_Screen_clone
@[simp] theorem c_impl_Screen_clone : C_impl_Screen_clone = fcall X_impl_Screen_clone := (rfl)
theorem cok_impl_Screen_clone : codeOk CT Try.f112 (Try.f112.body.get rfl) = true := by kernel_rfl
theorem xe_impl_Screen_clone (t0 : Value) (m : Mem) : ex CT cf_impl_Screen_clone Try.f112 1 m.length [] (fun _ _ _ => none) 400 [.code (Try.f112.body.get rfl)] (argsT 0 [t0]) m = X_impl_Screen_clone [t0] m := by kernel_rfl
theorem okc_impl_Screen_clone : CallOK CT cf_impl_Screen_clone := cfc_ok ok_C_impl_Grid_clone (cfc_ok ok_C_slices_Clone_bool_bool (cfc_ok ok_C_slices_Clone_int64_int64 cfn_ok))
theorem ok_X_impl_Screen_clone : OkX CT 112 X_impl_Screen_clone := OkX.of_ex (cf := cf_impl_Screen_clone) (np := 1) (LL := []) (J := (fun _ _ _ _ => none)) CT_ok rfl Try.func112 rfl (Nat.le_of_ble_eq_true rfl) (by decide) cok_impl_Screen_clone okc_impl_Screen_clone (fun k => noLoops rfl) (fun args m r h => match args, h with
    | [t0], h => ⟨rfl, (xe_impl_Screen_clone t0 m).trans h⟩)
theorem ok_C_impl_Screen_clone : OkC CT 112 C_impl_Screen_clone := fcall_ok rfl ok_X_impl_Screen_clone

/-! ### slices.Grow[[]impl.Cell,impl.Cell] -/
noncomputable def cf_slices_Grow_impl_Cell_impl_Cell : CallF := cfn
noncomputable def X_slices_Grow_impl_Cell_impl_Cell : List Value → Mem → Option VM
  | [t0, t1], m =>
    (binX .lss .no t1 (.int .i64 0)) |> bo fun t6 =>
    brX t6
      (
        none)
      (
        (capX t0) |> bo fun t10 =>
        (lenX t0) |> bo fun t12 =>
        (binX .sub .no t10 t12) |> bo fun t13 =>
        (binX .sub .no t1 t13) |> bo fun t14 =>
        (binX .gtr .no t14 (.int .i64 0)) |> bo fun t16 =>
        brX t16
          (
            (capX t0) |> bo fun t19 =>
            (slX m 2 t0 none (some t19)) |> bo fun t20 =>
            (apI m 2 16 [.int .i64 0, .int .i64 0] t20 t14) |> bo fun r9 =>
            (lenX t0) |> bo fun t24 =>
            (slX r9.2 2 r9.1 none (some t24)) |> bo fun t25 =>
            retK m.length r9.2 [t25, t14] t25)
          (
            retK m.length m [t0, t14] t0))
  | _, _ => none
noncomputable def C_slices_Grow_impl_Cell_impl_Cell : List Value → Mem → Option VM := rcall X_slices_Grow_impl_Cell_impl_Cell
@[simp] theorem c_slices_Grow_impl_Cell_impl_Cell : C_slices_Grow_impl_Cell_impl_Cell = rcall X_slices_Grow_impl_Cell_impl_Cell := (rfl)
theorem cok_slices_Grow_impl_Cell_impl_Cell : codeOk CT Try.f168 (Try.f168.body.get rfl) = true := by kernel_rfl
theorem xe_slices_Grow_impl_Cell_impl_Cell (t0 t1 : Value) (m : Mem) : ex CT cf_slices_Grow_impl_Cell_impl_Cell Try.f168 2 m.length [] (fun _ _ _ => none) 400 [.code (Try.f168.body.get rfl)] (argsT 0 [t0, t1]) m = X_slices_Grow_impl_Cell_impl_Cell [t0, t1] m := by kernel_rfl
theorem okc_slices_Grow_impl_Cell_impl_Cell : CallOK CT cf_slices_Grow_impl_Cell_impl_Cell := cfn_ok
theorem ok_X_slices_Grow_impl_Cell_impl_Cell : OkX CT 168 X_slices_Grow_impl_Cell_impl_Cell := OkX.of_ex (cf := cf_slices_Grow_impl_Cell_impl_Cell) (np := 2) (LL := []) (J := (fun _ _ _ _ => none)) CT_ok rfl Try.func168 rfl (Nat.le_of_ble_eq_true rfl) (by decide) cok_slices_Grow_impl_Cell_impl_Cell okc_slices_Grow_impl_Cell_impl_Cell (fun k => noLoops rfl) (fun args m r h => match args, h with
    | [t0, t1], h => ⟨rfl, (xe_slices_Grow_impl_Cell_impl_Cell t0 t1 m).trans h⟩)
theorem ok_C_slices_Grow_impl_Cell_impl_Cell : OkC CT 168 C_slices_Grow_impl_Cell_impl_Cell := rcall_ok rfl ok_X_slices_Grow_impl_Cell_impl_Cell

/-! ### slices.Concat[[]impl.Cell,impl.Cell] -/
noncomputable def cf_slices_Concat_impl_Cell_impl_Cell : CallF := cfc 168 C_slices_Grow_impl_Cell_impl_Cell cfn
noncomputable def L_slices_Concat_impl_Cell_impl_Cell (k : Nat) : Nat → Nat → List Value → Mem → Option VM
  | q + 1, 0, [t0, t3, t9, t10, t11], m =>
    (binX .lss .no t11 t10) |> bo fun t12 =>
    brX t12
      (
        (ixaX 1 t9 t11) |> bo fun t13 =>
        (ld1 m t13) |> bo fun t14 =>
        (lenX t14) |> bo fun t17 =>
        (binX .add .no t3 t17) |> bo fun t18 =>
        (binX .lss .no t18 (.int .i64 0)) |> bo fun t20 =>
        brX t20
          (
            none)
          (
            (binX .add .no t11 (.int .i64 1)) |> bo fun t22 =>
            cutK k m [t0] [t0, t18, t9, t10, t22] (L_slices_Concat_impl_Cell_impl_Cell k q 0)))
      (
        (C_slices_Grow_impl_Cell_impl_Cell [(.slice none 0 0), t3] m) |> bo fun r8 =>
        (lenX t0) |> bo fun t26 =>
        cutK k r8.2 [t0] [r8.1, t0, t26, (.int .i64 0)] (L_slices_Concat_impl_Cell_impl_Cell k q 1))
  | q + 1, 1, [t6, t25, t26, t27], m =>
    (binX .lss .no t27 t26) |> bo fun t28 =>
    brX t28
      (
        (ixaX 1 t25 t27) |> bo fun t29 =>
        (ld1 m t29) |> bo fun t30 =>
        (apL m 2 16 t6 t30) |> bo fun r4 =>
        (binX .add .no t27 (.int .i64 1)) |> bo fun t34 =>
        cutK k r4.2 [] [r4.1, t25, t26, t34] (L_slices_Concat_impl_Cell_impl_Cell k q 1))
      (
        retK k m [] t6)
  | _, _, _, _ => none
noncomputable def J_slices_Concat_impl_Cell_impl_Cell (k q l : Nat) : List Value → Mem → Option VM := cond (Nat.beq l 3) (L_slices_Concat_impl_Cell_impl_Cell k q 0) (cond (Nat.beq l 11) (L_slices_Concat_impl_Cell_impl_Cell k q 1) (fun _ _ => none))
def LL_slices_Concat_impl_Cell_impl_Cell : List (Nat × List Tmp) := [(3, [0, 3, 9, 10, 11]), (11, [6, 25, 26, 27])]
noncomputable def X_slices_Concat_impl_Cell_impl_Cell : List Value → Mem → Option VM
  | [t0], m =>
    (lenX t0) |> bo fun t10 =>
    cutK m.length m [t0] [t0, (.int .i64 0), t0, t10, (.int .i64 0)] (L_slices_Concat_impl_Cell_impl_Cell m.length QQ 0)
  | _, _ => none
noncomputable def C_slices_Concat_impl_Cell_impl_Cell : List Value → Mem → Option VM := fcall X_slices_Concat_impl_Cell_impl_Cell
@[simp] theorem c_slices_Concat_impl_Cell_impl_Cell : C_slices_Concat_impl_Cell_impl_Cell = fcall X_slices_Concat_impl_Cell_impl_Cell := (rfl)
theorem cok_slices_Concat_impl_Cell_impl_Cell : codeOk CT Try.f154 (Try.f154.body.get rfl) = true := by kernel_rfl
theorem xe_slices_Concat_impl_Cell_impl_Cell (t0 : Value) (m : Mem) : ex CT cf_slices_Concat_impl_Cell_impl_Cell Try.f154 1 m.length LL_slices_Concat_impl_Cell_impl_Cell (J_slices_Concat_impl_Cell_impl_Cell m.length QQ) 400 [.code (Try.f154.body.get rfl)] (argsT 0 [t0]) m = X_slices_Concat_impl_Cell_impl_Cell [t0] m := by kernel_rfl
theorem okc_slices_Concat_impl_Cell_impl_Cell : CallOK CT cf_slices_Concat_impl_Cell_impl_Cell := cfc_ok ok_C_slices_Grow_impl_Cell_impl_Cell cfn_ok
theorem le_slices_Concat_impl_Cell_impl_Cell_0 (k q : Nat) (t0 t3 t9 t10 t11 : Value) (m : Mem) : ex CT cf_slices_Concat_impl_Cell_impl_Cell Try.f154 1 k LL_slices_Concat_impl_Cell_impl_Cell (J_slices_Concat_impl_Cell_impl_Cell k q) 400 (atLoop Try.f154 0) [(0, t0), (3, t3), (9, t9), (10, t10), (11, t11)] m = J_slices_Concat_impl_Cell_impl_Cell k (q + 1) 3 [t0, t3, t9, t10, t11] m := by kernel_rfl
theorem le_slices_Concat_impl_Cell_impl_Cell_1 (k q : Nat) (t6 t25 t26 t27 : Value) (m : Mem) : ex CT cf_slices_Concat_impl_Cell_impl_Cell Try.f154 1 k LL_slices_Concat_impl_Cell_impl_Cell (J_slices_Concat_impl_Cell_impl_Cell k q) 400 (atLoop Try.f154 1) [(6, t6), (25, t25), (26, t26), (27, t27)] m = J_slices_Concat_impl_Cell_impl_Cell k (q + 1) 11 [t6, t25, t26, t27] m := by kernel_rfl
theorem gl_slices_Concat_impl_Cell_impl_Cell (k : Nat) : ∀ q i, i < 2 → GoodL CT k Try.f154 LL_slices_Concat_impl_Cell_impl_Cell (J_slices_Concat_impl_Cell_impl_Cell k q) (atLoop Try.f154 i)
  | 0, 0, _ => goodL_zero (l := 3) (by kernel_rfl) (fun vs m => by kernel_rfl)
  | 0, 1, _ => goodL_zero (l := 11) (by kernel_rfl) (fun vs m => by kernel_rfl)
  | 0, _ + 2, h => absurd h (by omega)
  | q + 1, 0, _ => goodL_succ (np := 1) (l := 3) (live := [0, 3, 9, 10, 11]) (n := 2) CT_ok rfl okc_slices_Concat_impl_Cell_impl_Cell (c := (Try.f154.body.get rfl)) rfl cok_slices_Concat_impl_Cell_impl_Cell (by kernel_rfl) (gl_slices_Concat_impl_Cell_impl_Cell k q) (by kernel_rfl) rfl (fun vs m r hl h => match vs, hl with
    | [t0, t3, t9, t10, t11], _ => (le_slices_Concat_impl_Cell_impl_Cell_0 k q t0 t3 t9 t10 t11 m).trans h)
  | q + 1, 1, _ => goodL_succ (np := 1) (l := 11) (live := [6, 25, 26, 27]) (n := 2) CT_ok rfl okc_slices_Concat_impl_Cell_impl_Cell (c := (Try.f154.body.get rfl)) rfl cok_slices_Concat_impl_Cell_impl_Cell (by kernel_rfl) (gl_slices_Concat_impl_Cell_impl_Cell k q) (by kernel_rfl) rfl (fun vs m r hl h => match vs, hl with
    | [t6, t25, t26, t27], _ => (le_slices_Concat_impl_Cell_impl_Cell_1 k q t6 t25 t26 t27 m).trans h)
  | _ + 1, _ + 2, h => absurd h (by omega)
theorem ok_X_slices_Concat_impl_Cell_impl_Cell : OkX CT 154 X_slices_Concat_impl_Cell_impl_Cell := OkX.of_ex (cf := cf_slices_Concat_impl_Cell_impl_Cell) (np := 1) (LL := LL_slices_Concat_impl_Cell_impl_Cell) (J := (fun k => J_slices_Concat_impl_Cell_impl_Cell k QQ)) CT_ok rfl Try.func154 rfl (Nat.le_of_ble_eq_true rfl) (by decide) cok_slices_Concat_impl_Cell_impl_Cell okc_slices_Concat_impl_Cell_impl_Cell (fun k => allLoops rfl (by kernel_rfl) (gl_slices_Concat_impl_Cell_impl_Cell k QQ)) (fun args m r h => match args, h with
    | [t0], h => ⟨rfl, (xe_slices_Concat_impl_Cell_impl_Cell t0 m).trans h⟩)
theorem ok_C_slices_Concat_impl_Cell_impl_Cell : OkC CT 154 C_slices_Concat_impl_Cell_impl_Cell := fcall_ok rfl ok_X_slices_Concat_impl_Cell_impl_Cell

/-! ### math/bits.Mul32 -/
noncomputable def cf_math_bits_Mul32 : CallF := cfn
noncomputable def X_math_bits_Mul32 : List Value → Mem → Option VM
  | [t0, t1], m =>
    (cvI .u64 t0) |> bo fun t8 =>
    (cvI .u64 t1) |> bo fun t10 =>
    (binX .mul .no t8 t10) |> bo fun t11 =>
    (binX .shr .no t11 (.int .u64 32)) |> bo fun t13 =>
    (cvI .u32 t13) |> bo fun t14 =>
    (cvI .u32 t11) |> bo fun t16 =>
    retK m.length m [t0, t1] (.tuple #[t14, t16])
  | _, _ => none
noncomputable def C_math_bits_Mul32 : List Value → Mem → Option VM := fcall X_math_bits_Mul32
@[simp] theorem c_math_bits_Mul32 : C_math_bits_Mul32 = fcall X_math_bits_Mul32 := (rfl)
theorem cok_math_bits_Mul32 : codeOk CT Try.f174 (Try.f174.body.get rfl) = true := by kernel_rfl
theorem xe_math_bits_Mul32 (t0 t1 : Value) (m : Mem) : ex CT cf_math_bits_Mul32 Try.f174 2 m.length [] (fun _ _ _ => none) 400 [.code (Try.f174.body.get rfl)] (argsT 0 [t0, t1]) m = X_math_bits_Mul32 [t0, t1] m := by kernel_rfl
theorem okc_math_bits_Mul32 : CallOK CT cf_math_bits_Mul32 := cfn_ok
theorem ok_X_math_bits_Mul32 : OkX CT 174 X_math_bits_Mul32 := OkX.of_ex (cf := cf_math_bits_Mul32) (np := 2) (LL := []) (J := (fun _ _ _ _ => none)) CT_ok rfl Try.func174 rfl (Nat.le_of_ble_eq_true rfl) (by decide) cok_math_bits_Mul32 okc_math_bits_Mul32 (fun k => noLoops rfl) (fun args m r h => match args, h with
    | [t0, t1], h => ⟨rfl, (xe_math_bits_Mul32 t0 t1 m).trans h⟩)
theorem ok_C_math_bits_Mul32 : OkC CT 174 C_math_bits_Mul32 := fcall_ok rfl ok_X_math_bits_Mul32

/-! ### math/bits.Mul64 -/
noncomputable def cf_math_bits_Mul64 : CallF := cfn
noncomputable def X_math_bits_Mul64 : List Value → Mem → Option VM
  | [t0, t1], m =>
    (binX .and .no t0 (.int .u64 4294967295)) |> bo fun t15 =>
    (binX .shr .no t0 (.int .u64 32)) |> bo fun t17 =>
    (binX .and .no t1 (.int .u64 4294967295)) |> bo fun t19 =>
    (binX .shr .no t1 (.int .u64 32)) |> bo fun t21 =>
    (binX .mul .no t15 t19) |> bo fun t24 =>
    (binX .mul .no t17 t19) |> bo fun t27 =>
    (binX .shr .no t24 (.int .u64 32)) |> bo fun t29 =>
    (binX .add .no t27 t29) |> bo fun t30 =>
    (binX .and .no t30 (.int .u64 4294967295)) |> bo fun t32 =>
    (binX .shr .no t30 (.int .u64 32)) |> bo fun t34 =>
    (binX .mul .no t15 t21) |> bo fun t38 =>
    (binX .add .no t32 t38) |> bo fun t39 =>
    (binX .mul .no t17 t21) |> bo fun t42 =>
    (binX .add .no t42 t34) |> bo fun t44 =>
    (binX .shr .no t39 (.int .u64 32)) |> bo fun t46 =>
    (binX .add .no t44 t46) |> bo fun t47 =>
    (binX .mul .no t0 t1) |> bo fun t50 =>
    retK m.length m [t0, t1] (.tuple #[t47, t50])
  | _, _ => none
noncomputable def C_math_bits_Mul64 : List Value → Mem → Option VM := fcall X_math_bits_Mul64
@[simp] theorem c_math_bits_Mul64 : C_math_bits_Mul64 = fcall X_math_bits_Mul64 := (rfl)
theorem cok_math_bits_Mul64 : codeOk CT Try.f175 (Try.f175.body.get rfl) = true := by kernel_rfl
theorem xe_math_bits_Mul64 (t0 t1 : Value) (m : Mem) : ex CT cf_math_bits_Mul64 Try.f175 2 m.length [] (fun _ _ _ => none) 400 [.code (Try.f175.body.get rfl)] (argsT 0 [t0, t1]) m = X_math_bits_Mul64 [t0, t1] m := by kernel_rfl
theorem okc_math_bits_Mul64 : CallOK CT cf_math_bits_Mul64 := cfn_ok
theorem ok_X_math_bits_Mul64 : OkX CT 175 X_math_bits_Mul64 := OkX.of_ex (cf := cf_math_bits_Mul64) (np := 2) (LL := []) (J := (fun _ _ _ _ => none)) CT_ok rfl Try.func175 rfl (Nat.le_of_ble_eq_true rfl) (by decide) cok_math_bits_Mul64 okc_math_bits_Mul64 (fun k => noLoops rfl) (fun args m r h => match args, h with
    | [t0, t1], h => ⟨rfl, (xe_math_bits_Mul64 t0 t1 m).trans h⟩)
theorem ok_C_math_bits_Mul64 : OkC CT 175 C_math_bits_Mul64 := fcall_ok rfl ok_X_math_bits_Mul64

/-! ### math/bits.Mul -/
noncomputable def cf_math_bits_Mul : CallF := cfc 174 C_math_bits_Mul32 (cfc 175 C_math_bits_Mul64 cfn)
noncomputable def X_math_bits_Mul : List Value → Mem → Option VM
  | [t0, t1], m =>
    brX (.bool false)
      (
        (cvI .u32 t0) |> bo fun t12 =>
        (cvI .u32 t1) |> bo fun t14 =>
        (C_math_bits_Mul32 [t12, t14] m) |> bo fun r3 =>
        (extX 0 r3.1) |> bo fun t16 =>
        (extX 1 r3.1) |> bo fun t17 =>
        (cvI .u64 t16) |> bo fun t19 =>
        (cvI .u64 t17) |> bo fun t21 =>
        retK m.length r3.2 [t0, t1] (.tuple #[t19, t21]))
      (
        (C_math_bits_Mul64 [t0, t1] m) |> bo fun r8 =>
        (extX 0 r8.1) |> bo fun t26 =>
        (extX 1 r8.1) |> bo fun t27 =>
        retK m.length r8.2 [t0, t1] (.tuple #[t26, t27]))
  | _, _ => none
noncomputable def C_math_bits_Mul : List Value → Mem → Option VM := fcall X_math_bits_Mul
@[simp] theorem c_math_bits_Mul : C_math_bits_Mul = fcall X_math_bits_Mul := (rfl)
theorem cok_math_bits_Mul : codeOk CT Try.f173 (Try.f173.body.get rfl) = true := by kernel_rfl
theorem xe_math_bits_Mul (t0 t1 : Value) (m : Mem) : ex CT cf_math_bits_Mul Try.f173 2 m.length [] (fun _ _ _ => none) 400 [.code (Try.f173.body.get rfl)] (argsT 0 [t0, t1]) m = X_math_bits_Mul [t0, t1] m := by kernel_rfl
theorem okc_math_bits_Mul : CallOK CT cf_math_bits_Mul := cfc_ok ok_C_math_bits_Mul32 (cfc_ok ok_C_math_bits_Mul64 cfn_ok)
theorem ok_X_math_bits_Mul : OkX CT 173 X_math_bits_Mul := OkX.of_ex (cf := cf_math_bits_Mul) (np := 2) (LL := []) (J := (fun _ _ _ _ => none)) CT_ok rfl Try.func173 rfl (Nat.le_of_ble_eq_true rfl) (by decide) cok_math_bits_Mul okc_math_bits_Mul (fun k => noLoops rfl) (fun args m r h => match args, h with
    | [t0, t1], h => ⟨rfl, (xe_math_bits_Mul t0 t1 m).trans h⟩)
theorem ok_C_math_bits_Mul : OkC CT 173 C_math_bits_Mul := fcall_ok rfl ok_X_math_bits_Mul

/-! ### slices.Repeat[[]impl.Cell,impl.Cell] -/
noncomputable def cf_slices_Repeat_impl_Cell_impl_Cell : CallF := cfc 173 C_math_bits_Mul cfn
noncomputable def L_slices_Repeat_impl_Cell_impl_Cell (k : Nat) : Nat → Nat → List Value → Mem → Option VM
  | q + 1, 0, [t7, t8], m =>
    (lenX t7) |> bo fun t36 =>
    (binX .lss .no t8 t36) |> bo fun t37 =>
    brX t37
      (
        (slX m 2 t7 (some t8) none) |> bo fun t41 =>
        (slX m 2 t7 none (some t8)) |> bo fun t44 =>
        (cpL m 2 t41 t44) |> bo fun r5 =>
        (binX .add .no t8 r5.1) |> bo fun t46 =>
        cutK k r5.2 [] [t7, t46] (L_slices_Repeat_impl_Cell_impl_Cell k q 0))
      (
        retK k m [] t7)
  | _, _, _, _ => none
noncomputable def J_slices_Repeat_impl_Cell_impl_Cell (k q l : Nat) : List Value → Mem → Option VM := cond (Nat.beq l 8) (L_slices_Repeat_impl_Cell_impl_Cell k q 0) (fun _ _ => none)
def LL_slices_Repeat_impl_Cell_impl_Cell : List (Nat × List Tmp) := [(8, [7, 8])]
noncomputable def X_slices_Repeat_impl_Cell_impl_Cell : List Value → Mem → Option VM
  | [t0, t1], m =>
    (binX .lss .no t1 (.int .i64 0)) |> bo fun t10 =>
    brX t10
      (
        none)
      (
        (lenX t0) |> bo fun t14 =>
        (cvI .u64 t14) |> bo fun t15 =>
        (cvI .u64 t1) |> bo fun t17 =>
        (C_math_bits_Mul [t15, t17] m) |> bo fun r5 =>
        (extX 0 r5.1) |> bo fun t19 =>
        (extX 1 r5.1) |> bo fun t20 =>
        (binX .gtr .no t19 (.int .u64 0)) |> bo fun t22 =>
        (gd t22 false (some (t20, r5.2)) r5.2) |> bo fun r9 =>
        (gd t22 false ((binX .gtr .no r9.1 (.int .u64 9223372036854775807)) |> bo fun v => some (v, r9.2)) r9.2) |> bo fun r10 =>
        (pickX t22 (.bool true) r10.1) |> bo fun t26 =>
        brX t26
          (
            none)
          (
            (cvI .i64 t20) |> bo fun t29 =>
            (mkX r10.2 2 16 [.int .i64 0, .int .i64 0] t29 t29) |> bo fun r13 =>
            (cpL r13.2 2 r13.1 t0) |> bo fun r14 =>
            cutK m.length r14.2 [t0, t1] [r13.1, r14.1] (L_slices_Repeat_impl_Cell_impl_Cell m.length QQ 0)))
  | _, _ => none
noncomputable def C_slices_Repeat_impl_Cell_impl_Cell : List Value → Mem → Option VM := fcall X_slices_Repeat_impl_Cell_impl_Cell
@[simp] theorem c_slices_Repeat_impl_Cell_impl_Cell : C_slices_Repeat_impl_Cell_impl_Cell = fcall X_slices_Repeat_impl_Cell_impl_Cell := (rfl)
theorem cok_slices_Repeat_impl_Cell_impl_Cell : codeOk CT Try.f169 (Try.f169.body.get rfl) = true := by kernel_rfl
theorem xe_slices_Repeat_impl_Cell_impl_Cell (t0 t1 : Value) (m : Mem) : ex CT cf_slices_Repeat_impl_Cell_impl_Cell Try.f169 2 m.length LL_slices_Repeat_impl_Cell_impl_Cell (J_slices_Repeat_impl_Cell_impl_Cell m.length QQ) 400 [.code (Try.f169.body.get rfl)] (argsT 0 [t0, t1]) m = X_slices_Repeat_impl_Cell_impl_Cell [t0, t1] m := by kernel_rfl
theorem okc_slices_Repeat_impl_Cell_impl_Cell : CallOK CT cf_slices_Repeat_impl_Cell_impl_Cell := cfc_ok ok_C_math_bits_Mul cfn_ok
theorem le_slices_Repeat_impl_Cell_impl_Cell_0 (k q : Nat) (t7 t8 : Value) (m : Mem) : ex CT cf_slices_Repeat_impl_Cell_impl_Cell Try.f169 2 k LL_slices_Repeat_impl_Cell_impl_Cell (J_slices_Repeat_impl_Cell_impl_Cell k q) 400 (atLoop Try.f169 0) [(7, t7), (8, t8)] m = J_slices_Repeat_impl_Cell_impl_Cell k (q + 1) 8 [t7, t8] m := by kernel_rfl
theorem gl_slices_Repeat_impl_Cell_impl_Cell (k : Nat) : ∀ q i, i < 1 → GoodL CT k Try.f169 LL_slices_Repeat_impl_Cell_impl_Cell (J_slices_Repeat_impl_Cell_impl_Cell k q) (atLoop Try.f169 i)
  | 0, 0, _ => goodL_zero (l := 8) (by kernel_rfl) (fun vs m => by kernel_rfl)
  | 0, _ + 1, h => absurd h (by omega)
  | q + 1, 0, _ => goodL_succ (np := 2) (l := 8) (live := [7, 8]) (n := 1) CT_ok rfl okc_slices_Repeat_impl_Cell_impl_Cell (c := (Try.f169.body.get rfl)) rfl cok_slices_Repeat_impl_Cell_impl_Cell (by kernel_rfl) (gl_slices_Repeat_impl_Cell_impl_Cell k q) (by kernel_rfl) rfl (fun vs m r hl h => match vs, hl with
    | [t7, t8], _ => (le_slices_Repeat_impl_Cell_impl_Cell_0 k q t7 t8 m).trans h)
  | _ + 1, _ + 1, h => absurd h (by omega)
theorem ok_X_slices_Repeat_impl_Cell_impl_Cell : OkX CT 169 X_slices_Repeat_impl_Cell_impl_Cell := OkX.of_ex (cf := cf_slices_Repeat_impl_Cell_impl_Cell) (np := 2) (LL := LL_slices_Repeat_impl_Cell_impl_Cell) (J := (fun k => J_slices_Repeat_impl_Cell_impl_Cell k QQ)) CT_ok rfl Try.func169 rfl (Nat.le_of_ble_eq_true rfl) (by decide) cok_slices_Repeat_impl_Cell_impl_Cell okc_slices_Repeat_impl_Cell_impl_Cell (fun k => allLoops rfl (by kernel_rfl) (gl_slices_Repeat_impl_Cell_impl_Cell k QQ)) (fun args m r h => match args, h with
    | [t0, t1], h => ⟨rfl, (xe_slices_Repeat_impl_Cell_impl_Cell t0 t1 m).trans h⟩)
theorem ok_C_slices_Repeat_impl_Cell_impl_Cell : OkC CT 169 C_slices_Repeat_impl_Cell_impl_Cell := fcall_ok rfl ok_X_slices_Repeat_impl_Cell_impl_Cell

/-! ### impl.blanks -/
noncomputable def cf_impl_blanks : CallF := cfc 169 C_slices_Repeat_impl_Cell_impl_Cell cfn
noncomputable def X_impl_blanks : List Value → Mem → Option VM
  | [t0, t1], m =>
    (bldX [.int .i64 0, .int .i64 0] [(0, 1, (.int .i64 32)), (1, 1, t1)]) |> bo fun t6 =>
    (bslX m 1 2 [.int .i64 0, .int .i64 0] [(0, 2, t6)]) |> bo fun r2 =>
    (C_slices_Repeat_impl_Cell_impl_Cell [r2.1, t0] r2.2) |> bo fun r3 =>
    retK m.length r3.2 [t0, t1] r3.1
  | _, _ => none
noncomputable def C_impl_blanks : List Value → Mem → Option VM := fcall X_impl_blanks
@[simp] theorem c_impl_blanks : C_impl_blanks = fcall X_impl_blanks := (rfl)
theorem cok_impl_blanks : codeOk CT Try.f156 (Try.f156.body.get rfl) = true := by kernel_rfl
theorem xe_impl_blanks (t0 t1 : Value) (m : Mem) : ex CT cf_impl_blanks Try.f156 2 m.length [] (fun _ _ _ => none) 400 [.code (Try.f156.body.get rfl)] (argsT 0 [t0, t1]) m = X_impl_blanks [t0, t1] m := by kernel_rfl
theorem okc_impl_blanks : CallOK CT cf_impl_blanks := cfc_ok ok_C_slices_Repeat_impl_Cell_impl_Cell cfn_ok
theorem ok_X_impl_blanks : OkX CT 156 X_impl_blanks := OkX.of_ex (cf := cf_impl_blanks) (np := 2) (LL := []) (J := (fun _ _ _ _ => none)) CT_ok rfl Try.func156 rfl (Nat.le_of_ble_eq_true rfl) (by decide) cok_impl_blanks okc_impl_blanks (fun k => noLoops rfl) (fun args m r h => match args, h with
    | [t0, t1], h => ⟨rfl, (xe_impl_blanks t0 t1 m).trans h⟩)
theorem ok_C_impl_blanks : OkC CT 156 C_impl_blanks := fcall_ok rfl ok_X_impl_blanks

/-! ### impl.widened -/
noncomputable def cf_impl_widened : CallF := cfc 154 C_slices_Concat_impl_Cell_impl_Cell (cfc 156 C_impl_blanks cfn)
noncomputable def L_impl_widened (k : Nat) : Nat → Nat → List Value → Mem → Option VM
  | q + 1, 0, [t0, t1, t2, t7], m =>
    (lenX t0) |> bo fun t11 =>
    (binX .gtr .no t11 (.int .i64 0)) |> bo fun t12 =>
    brX t12
      (
        (slX m 2 t0 none (some t1)) |> bo fun t18 =>
        (binX .sub .no t2 t1) |> bo fun t21 =>
        (minMax true t21 [(.int .i64 0)]) |> bo fun t22 =>
        (C_impl_blanks [t22, (.int .i64 0)] m) |> bo fun r6 =>
        (bslX r6.2 2 1 [.slice none 0 0] [(0, 1, t18), (1, 1, r6.1)]) |> bo fun r7 =>
        (C_slices_Concat_impl_Cell_impl_Cell [r7.1] r7.2) |> bo fun r8 =>
        (slX r8.2 2 r8.1 none (some t2)) |> bo fun t29 =>
        (apL r8.2 2 16 t7 t29) |> bo fun r10 =>
        (slX r10.2 2 t0 (some t1) none) |> bo fun t15 =>
        cutK k r10.2 [t15, t1, t2] [t15, t1, t2, r10.1] (L_impl_widened k q 0))
      (
        retK k m [t0, t1, t2] t7)
  | _, _, _, _ => none
noncomputable def J_impl_widened (k q l : Nat) : List Value → Mem → Option VM := cond (Nat.beq l 2) (L_impl_widened k q 0) (fun _ _ => none)
def LL_impl_widened : List (Nat × List Tmp) := [(2, [0, 1, 2, 7])]
noncomputable def X_impl_widened : List Value → Mem → Option VM
  | [t0, t1, t2], m =>
    (bslX m 0 2 [.int .i64 0, .int .i64 0] []) |> bo fun r1 =>
    cutK m.length r1.2 [t0, t1, t2] [t0, t1, t2, r1.1] (L_impl_widened m.length QQ 0)
  | _, _ => none
noncomputable def C_impl_widened : List Value → Mem → Option VM := fcall X_impl_widened
@[simp] theorem c_impl_widened : C_impl_widened = fcall X_impl_widened := (rfl)
theorem cok_impl_widened : codeOk CT Try.f155 (Try.f155.body.get rfl) = true := by kernel_rfl
theorem xe_impl_widened (t0 t1 t2 : Value) (m : Mem) : ex CT cf_impl_widened Try.f155 3 m.length LL_impl_widened (J_impl_widened m.length QQ) 400 [.code (Try.f155.body.get rfl)] (argsT 0 [t0, t1, t2]) m = X_impl_widened [t0, t1, t2] m := by kernel_rfl
theorem okc_impl_widened : CallOK CT cf_impl_widened := cfc_ok ok_C_slices_Concat_impl_Cell_impl_Cell (cfc_ok ok_C_impl_blanks cfn_ok)
theorem le_impl_widened_0 (k q : Nat) (t0 t1 t2 t7 : Value) (m : Mem) : ex CT cf_impl_widened Try.f155 3 k LL_impl_widened (J_impl_widened k q) 400 (atLoop Try.f155 0) [(0, t0), (1, t1), (2, t2), (7, t7)] m = J_impl_widened k (q + 1) 2 [t0, t1, t2, t7] m := by kernel_rfl
theorem gl_impl_widened (k : Nat) : ∀ q i, i < 1 → GoodL CT k Try.f155 LL_impl_widened (J_impl_widened k q) (atLoop Try.f155 i)
  | 0, 0, _ => goodL_zero (l := 2) (by kernel_rfl) (fun vs m => by kernel_rfl)
  | 0, _ + 1, h => absurd h (by omega)
  | q + 1, 0, _ => goodL_succ (np := 3) (l := 2) (live := [0, 1, 2, 7]) (n := 1) CT_ok rfl okc_impl_widened (c := (Try.f155.body.get rfl)) rfl cok_impl_widened (by kernel_rfl) (gl_impl_widened k q) (by kernel_rfl) rfl (fun vs m r hl h => match vs, hl with
    | [t0, t1, t2, t7], _ => (le_impl_widened_0 k q t0 t1 t2 t7 m).trans h)
  | _ + 1, _ + 1, h => absurd h (by omega)
theorem ok_X_impl_widened : OkX CT 155 X_impl_widened := OkX.of_ex (cf := cf_impl_widened) (np := 3) (LL := LL_impl_widened) (J := (fun k => J_impl_widened k QQ)) CT_ok rfl Try.func155 rfl (Nat.le_of_ble_eq_true rfl) (by decide) cok_impl_widened okc_impl_widened (fun k => allLoops rfl (by kernel_rfl) (gl_impl_widened k QQ)) (fun args m r h => match args, h with
    | [t0, t1, t2], h => ⟨rfl, (xe_impl_widened t0 t1 t2 m).trans h⟩)
theorem ok_C_impl_widened : OkC CT 155 C_impl_widened := fcall_ok rfl ok_X_impl_widened

/-! ### (impl.Grid).resized -/
noncomputable def cf_impl_Grid_resized : CallF := cfc 154 C_slices_Concat_impl_Cell_impl_Cell (cfc 155 C_impl_widened (cfc 156 C_impl_blanks cfn))
noncomputable def X_impl_Grid_resized : List Value → Mem → Option VM
  | [t0, t1, t2], m =>
    (boxX m t0) |> bo fun r1 =>
    (alX r1.2 [.int .i64 0, .int .i64 0, .slice none 0 0, .slice none 0 0]) |> bo fun r2 =>
    (fadX 2 r1.1) |> bo fun t8 =>
    (ld1 r2.2 t8) |> bo fun t9 =>
    (fadX 1 r1.1) |> bo fun t10 =>
    (ld1 r2.2 t10) |> bo fun t11 =>
    (C_impl_widened [t9, t11, t2] r2.2) |> bo fun r7 =>
    (fadX 0 r1.1) |> bo fun t15 =>
    (ld1 r7.2 t15) |> bo fun t16 =>
    (binX .sub .no t1 t16) |> bo fun t17 =>
    (minMax true t17 [(.int .i64 0)]) |> bo fun t18 =>
    (binX .mul .no t18 t2) |> bo fun t20 =>
    (C_impl_blanks [t20, (.int .i64 0)] r7.2) |> bo fun r13 =>
    (bslX r13.2 2 1 [.slice none 0 0] [(0, 1, r7.1), (1, 1, r13.1)]) |> bo fun r14 =>
    (C_slices_Concat_impl_Cell_impl_Cell [r14.1] r14.2) |> bo fun r15 =>
    gP (stbL [((rdN t15), r2.2, r7.2)])
      (
        (binX .mul .no t1 t2) |> bo fun t29 =>
        (slX r15.2 2 r15.1 none (some t29)) |> bo fun t30 =>
        (fadX 3 r1.1) |> bo fun t31 =>
        (ld1 r15.2 t31) |> bo fun t32 =>
        (fadX 1 r1.1) |> bo fun t33 =>
        (ld1 r15.2 t33) |> bo fun t34 =>
        (C_impl_widened [t32, t34, t2] r15.2) |> bo fun r22 =>
        (bldX [.int .i64 0, .int .i64 0, .slice none 0 0, .slice none 0 0] [(0, 1, t1), (1, 1, t2), (2, 1, t30), (3, 1, r22.1)]) |> bo fun t37 =>
        (stX r22.2 4 r2.1 t37) |> bo fun m24 =>
        (resP (some 4) m24 r2.1) |> bo fun c25 =>
        retK m.length m24 [t0, t1, t2] c25)
  | _, _ => none
noncomputable def C_impl_Grid_resized : List Value → Mem → Option VM := fcall X_impl_Grid_resized
@[simp] theorem c_impl_Grid_resized : C_impl_Grid_resized = fcall X_impl_Grid_resized := (rfl)
theorem cok_impl_Grid_resized : codeOk CT Try.f113 (Try.f113.body.get rfl) = true := by kernel_rfl
theorem xe_impl_Grid_resized (t0 t1 t2 : Value) (m : Mem) : ex CT cf_impl_Grid_resized Try.f113 3 m.length [] (fun _ _ _ => none) 400 [.code (Try.f113.body.get rfl)] (argsT 0 [t0, t1, t2]) m = X_impl_Grid_resized [t0, t1, t2] m := by kernel_rfl
theorem okc_impl_Grid_resized : CallOK CT cf_impl_Grid_resized := cfc_ok ok_C_slices_Concat_impl_Cell_impl_Cell (cfc_ok ok_C_impl_widened (cfc_ok ok_C_impl_blanks cfn_ok))
theorem ok_X_impl_Grid_resized : OkX CT 113 X_impl_Grid_resized := OkX.of_ex (cf := cf_impl_Grid_resized) (np := 3) (LL := []) (J := (fun _ _ _ _ => none)) CT_ok rfl Try.func113 rfl (Nat.le_of_ble_eq_true rfl) (by decide) cok_impl_Grid_resized okc_impl_Grid_resized (fun k => noLoops rfl) (fun args m r h => match args, h with
    | [t0, t1, t2], h => ⟨rfl, (xe_impl_Grid_resized t0 t1 t2 m).trans h⟩)
theorem ok_C_impl_Grid_resized : OkC CT 113 C_impl_Grid_resized := fcall_ok rfl ok_X_impl_Grid_resized

/-! ### impl.isTab -/
noncomputable def cf_impl_isTab : CallF := cfn
noncomputable def X_impl_isTab : List Value → Mem → Option VM
  | [t0], m =>
    (binX .gtr .no t0 (.int .i64 0)) |> bo fun t4 =>
    (gd t4 true (some (t0, m)) m) |> bo fun r2 =>
    (gd t4 true ((binX .rem .no r2.1 (.int .i64 8)) |> bo fun v => some (v, r2.2)) r2.2) |> bo fun r3 =>
    (gd t4 true ((binX .eql .no r3.1 (.int .i64 0)) |> bo fun v => some (v, r3.2)) r3.2) |> bo fun r4 =>
    (pickX t4 r4.1 (.bool false)) |> bo fun t9 =>
    retK m.length r4.2 [t0] t9
  | _, _ => none
noncomputable def C_impl_isTab : List Value → Mem → Option VM := fcall X_impl_isTab
@[simp] theorem c_impl_isTab : C_impl_isTab = fcall X_impl_isTab := (rfl)
theorem cok_impl_isTab : codeOk CT Try.f114 (Try.f114.body.get rfl) = true := by kernel_rfl
theorem xe_impl_isTab (t0 : Value) (m : Mem) : ex CT cf_impl_isTab Try.f114 1 m.length [] (fun _ _ _ => none) 400 [.code (Try.f114.body.get rfl)] (argsT 0 [t0]) m = X_impl_isTab [t0] m := by kernel_rfl
theorem okc_impl_isTab : CallOK CT cf_impl_isTab := cfn_ok
theorem ok_X_impl_isTab : OkX CT 114 X_impl_isTab := OkX.of_ex (cf := cf_impl_isTab) (np := 1) (LL := []) (J := (fun _ _ _ _ => none)) CT_ok rfl Try.func114 rfl (Nat.le_of_ble_eq_true rfl) (by decide) cok_impl_isTab okc_impl_isTab (fun k => noLoops rfl) (fun args m r h => match args, h with
    | [t0], h => ⟨rfl, (xe_impl_isTab t0 m).trans h⟩)
theorem ok_C_impl_isTab : OkC CT 114 C_impl_isTab := fcall_ok rfl ok_X_impl_isTab

/-! ### (impl.Screen).resized -/
noncomputable def cf_impl_Screen_resized : CallF := cfc 112 C_impl_Screen_clone (cfc 113 C_impl_Grid_resized (cfc 114 C_impl_isTab cfn))
noncomputable def L_impl_Screen_resized (k : Nat) : Nat → Nat → List Value → Mem → Option VM
  | q + 1, 0, [t0, t1, t2, t6, t7, t8], m =>
    (binX .lss .no t8 t2) |> bo fun t39 =>
    brX t39
      (
        (fadX 13 t7) |> bo fun t42 =>
        (ld1 m t42) |> bo fun t43 =>
        (C_impl_isTab [t8] m) |> bo fun r4 =>
        (bslX r4.2 1 1 [.bool false] [(0, 1, r4.1)]) |> bo fun r5 =>
        (apL r5.2 1 1 t43 r5.1) |> bo fun r6 =>
        (fadX 13 t7) |> bo fun t48 =>
        (stX r6.2 1 t48 r6.1) |> bo fun m8 =>
        gP (stbL [((rdN t42), m, r4.2)])
          (
            (binX .add .no t8 (.int .i64 1)) |> bo fun t41 =>
            cutK k m8 [t0, t1, t2] [t0, t1, t2, t6, t7, t41] (L_impl_Screen_resized k q 0)))
      (
        (fadX 13 t7) |> bo fun t49 =>
        (ld1 m t49) |> bo fun t50 =>
        (slX m 1 t50 none (some t2)) |> bo fun t52 =>
        (fadX 13 t7) |> bo fun t53 =>
        (stX m 1 t53 t52) |> bo fun m14 =>
        (ldS m14 20 t7) |> bo fun t54 =>
        (stX m14 20 t6 t54) |> bo fun m16 =>
        (resP (some 20) m16 t6) |> bo fun c17 =>
        retK k m16 [t0, t1, t2] c17)
  | _, _, _, _ => none
noncomputable def J_impl_Screen_resized (k q l : Nat) : List Value → Mem → Option VM := cond (Nat.beq l 6) (L_impl_Screen_resized k q 0) (fun _ _ => none)
def LL_impl_Screen_resized : List (Nat × List Tmp) := [(6, [0, 1, 2, 6, 7, 8])]
noncomputable def X_impl_Screen_resized : List Value → Mem → Option VM
  | [t0, t1, t2], m =>
    (boxX m t0) |> bo fun r1 =>
    (alX r1.2 [.int .i64 0, .int .i64 0, .slice none 0 0, .slice none 0 0, .int .i64 0, .int .i64 0, .bool false, .int .i64 0, .int .i64 0, .int .i64 0, .bool false, .bool false, .bool false, .slice none 0 0, .int .i64 0, .int .i64 0, .int .i64 0, .slice none 0 0, .int .i64 0, .int .i64 0]) |> bo fun r2 =>
    (ldS r2.2 20 r1.1) |> bo fun t9 =>
    (C_impl_Screen_clone [t9] r2.2) |> bo fun r4 =>
    (alX r4.2 [.int .i64 0, .int .i64 0, .slice none 0 0, .slice none 0 0, .int .i64 0, .int .i64 0, .bool false, .int .i64 0, .int .i64 0, .int .i64 0, .bool false, .bool false, .bool false, .slice none 0 0, .int .i64 0, .int .i64 0, .int .i64 0, .slice none 0 0, .int .i64 0, .int .i64 0]) |> bo fun r5 =>
    (stX r5.2 20 r5.1 r4.1) |> bo fun m6 =>
    (fadX 0 r1.1) |> bo fun t11 =>
    (ldS m6 4 t11) |> bo fun t12 =>
    (C_impl_Grid_resized [t12, t1, t2] m6) |> bo fun r9 =>
    (fadX 0 r5.1) |> bo fun t16 =>
    (stX r9.2 4 t16 r9.1) |> bo fun m11 =>
    (binX .sub .no t1 (.int .i64 1)) |> bo fun t18 =>
    (fadX 8 r5.1) |> bo fun t19 =>
    (stX m11 1 t19 (.int .i64 0)) |> bo fun m14 =>
    (fadX 9 r5.1) |> bo fun t20 =>
    (stX m14 1 t20 t18) |> bo fun m16 =>
    (fadX 6 r5.1) |> bo fun t21 =>
    (stX m16 1 t21 (.bool false)) |> bo fun m18 =>
    (fadX 4 r1.1) |> bo fun t22 =>
    (ld1 m18 t22) |> bo fun t23 =>
    (binX .sub .no t1 (.int .i64 1)) |> bo fun t25 =>
    (minMax false t23 [t25]) |> bo fun t26 =>
    (fadX 5 r1.1) |> bo fun t27 =>
    (ld1 m18 t27) |> bo fun t28 =>
    (binX .sub .no t2 (.int .i64 1)) |> bo fun t30 =>
    (minMax false t28 [t30]) |> bo fun t31 =>
    (fadX 4 r5.1) |> bo fun t32 =>
    (stX m18 1 t32 t26) |> bo fun m28 =>
    (fadX 5 r5.1) |> bo fun t33 =>
    (stX m28 1 t33 t31) |> bo fun m30 =>
    gP (stbL [((rdN t27), m18, m28)])
      (
        (fadX 13 r5.1) |> bo fun t34 =>
        (ld1 m30 t34) |> bo fun t35 =>
        (lenX t35) |> bo fun t36 =>
        cutK m.length m30 [t0, t1, t2] [t0, t1, t2, r2.1, r5.1, t36] (L_impl_Screen_resized m.length QQ 0))
  | _, _ => none
noncomputable def C_impl_Screen_resized : List Value → Mem → Option VM := rcall X_impl_Screen_resized
@[simp] theorem c_impl_Screen_resized : C_impl_Screen_resized = rcall X_impl_Screen_resized := (rfl)
theorem cok_impl_Screen_resized : codeOk CT Try.f64 (Try.f64.body.get rfl) = true := by kernel_rfl
theorem xe_impl_Screen_resized (t0 t1 t2 : Value) (m : Mem) : ex CT cf_impl_Screen_resized Try.f64 3 m.length LL_impl_Screen_resized (J_impl_Screen_resized m.length QQ) 400 [.code (Try.f64.body.get rfl)] (argsT 0 [t0, t1, t2]) m = X_impl_Screen_resized [t0, t1, t2] m := by kernel_rfl
theorem okc_impl_Screen_resized : CallOK CT cf_impl_Screen_resized := cfc_ok ok_C_impl_Screen_clone (cfc_ok ok_C_impl_Grid_resized (cfc_ok ok_C_impl_isTab cfn_ok))
theorem le_impl_Screen_resized_0 (k q : Nat) (t0 t1 t2 t6 t7 t8 : Value) (m : Mem) : ex CT cf_impl_Screen_resized Try.f64 3 k LL_impl_Screen_resized (J_impl_Screen_resized k q) 400 (atLoop Try.f64 0) [(0, t0), (1, t1), (2, t2), (6, t6), (7, t7), (8, t8)] m = J_impl_Screen_resized k (q + 1) 6 [t0, t1, t2, t6, t7, t8] m := by kernel_rfl
theorem gl_impl_Screen_resized (k : Nat) : ∀ q i, i < 1 → GoodL CT k Try.f64 LL_impl_Screen_resized (J_impl_Screen_resized k q) (atLoop Try.f64 i)
  | 0, 0, _ => goodL_zero (l := 6) (by kernel_rfl) (fun vs m => by kernel_rfl)
  | 0, _ + 1, h => absurd h (by omega)
  | q + 1, 0, _ => goodL_succ (np := 3) (l := 6) (live := [0, 1, 2, 6, 7, 8]) (n := 1) CT_ok rfl okc_impl_Screen_resized (c := (Try.f64.body.get rfl)) rfl cok_impl_Screen_resized (by kernel_rfl) (gl_impl_Screen_resized k q) (by kernel_rfl) rfl (fun vs m r hl h => match vs, hl with
    | [t0, t1, t2, t6, t7, t8], _ => (le_impl_Screen_resized_0 k q t0 t1 t2 t6 t7 t8 m).trans h)
  | _ + 1, _ + 1, h => absurd h (by omega)
theorem ok_X_impl_Screen_resized : OkX CT 64 X_impl_Screen_resized := OkX.of_ex (cf := cf_impl_Screen_resized) (np := 3) (LL := LL_impl_Screen_resized) (J := (fun k => J_impl_Screen_resized k QQ)) CT_ok rfl Try.func64 rfl (Nat.le_of_ble_eq_true rfl) (by decide) cok_impl_Screen_resized okc_impl_Screen_resized (fun k => allLoops rfl (by kernel_rfl) (gl_impl_Screen_resized k QQ)) (fun args m r h => match args, h with
    | [t0, t1, t2], h => ⟨rfl, (xe_impl_Screen_resized t0 t1 t2 m).trans h⟩)
theorem ok_C_impl_Screen_resized : OkC CT 64 C_impl_Screen_resized := rcall_ok rfl ok_X_impl_Screen_resized

/-! ### impl.ResizeScreen -/
noncomputable def cf_impl_ResizeScreen : CallF := cfc 29 C_impl_sizeOk (cfc 61 C_impl_first (cfc 62 C_impl_ScreenFault (cfc 63 C_impl_unless (cfc 64 C_impl_Screen_resized cfn))))
noncomputable def X_impl_ResizeScreen : List Value → Mem → Option VM
  | [t0, t1, t2], m =>
    (boxX m t0) |> bo fun r1 =>
    (alX r1.2 [.int .i64 0, .int .i64 0, .int .i64 0, .slice none 0 0, .slice none 0 0, .int .i64 0, .int .i64 0, .bool false, .int .i64 0, .int .i64 0, .int .i64 0, .bool false, .bool false, .bool false, .slice none 0 0, .int .i64 0, .int .i64 0, .int .i64 0, .slice none 0 0, .int .i64 0, .int .i64 0]) |> bo fun r2 =>
    (ldS r2.2 20 r1.1) |> bo fun t8 =>
    (C_impl_ScreenFault [t8] r2.2) |> bo fun r4 =>
    (C_impl_sizeOk [t1, t2] r4.2) |> bo fun r5 =>
    (C_impl_unless [r5.1, (.int .i64 3)] r5.2) |> bo fun r6 =>
    (bslX r6.2 2 1 [.int .i64 0] [(0, 1, r4.1), (1, 1, r6.1)]) |> bo fun r7 =>
    (C_impl_first [r7.1] r7.2) |> bo fun r8 =>
    (binX .neq .no r8.1 (.int .i64 0)) |> bo fun t17 =>
    brX t17
      (
        (bldX [.int .i64 0, .int .i64 0, .int .i64 0, .slice none 0 0, .slice none 0 0, .int .i64 0, .int .i64 0, .bool false, .int .i64 0, .int .i64 0, .int .i64 0, .bool false, .bool false, .bool false, .slice none 0 0, .int .i64 0, .int .i64 0, .int .i64 0, .slice none 0 0, .int .i64 0, .int .i64 0] [(0, 1, r8.1)]) |> bo fun t19 =>
        (stX r8.2 21 r2.1 t19) |> bo fun m11 =>
        (resP (some 21) m11 r2.1) |> bo fun c12 =>
        retK m.length m11 [t0, t1, t2] c12)
      (
        (ldS r8.2 20 r1.1) |> bo fun t20 =>
        (C_impl_Screen_resized [t20, t1, t2] r8.2) |> bo fun r14 =>
        (bldX [.int .i64 0, .int .i64 0, .int .i64 0, .slice none 0 0, .slice none 0 0, .int .i64 0, .int .i64 0, .bool false, .int .i64 0, .int .i64 0, .int .i64 0, .bool false, .bool false, .bool false, .slice none 0 0, .int .i64 0, .int .i64 0, .int .i64 0, .slice none 0 0, .int .i64 0, .int .i64 0] [(0, 1, (.int .i64 0)), (1, 20, r14.1)]) |> bo fun t24 =>
        (stX r14.2 21 r2.1 t24) |> bo fun m16 =>
        (resP (some 21) m16 r2.1) |> bo fun c17 =>
        retK m.length m16 [t0, t1, t2] c17)
  | _, _ => none
noncomputable def C_impl_ResizeScreen : List Value → Mem → Option VM := fcall X_impl_ResizeScreen
@[simp] theorem c_impl_ResizeScreen : C_impl_ResizeScreen = fcall X_impl_ResizeScreen := (rfl)
theorem cok_impl_ResizeScreen : codeOk CT Try.f20 (Try.f20.body.get rfl) = true := by kernel_rfl
theorem xe_impl_ResizeScreen (t0 t1 t2 : Value) (m : Mem) : ex CT cf_impl_ResizeScreen Try.f20 3 m.length [] (fun _ _ _ => none) 400 [.code (Try.f20.body.get rfl)] (argsT 0 [t0, t1, t2]) m = X_impl_ResizeScreen [t0, t1, t2] m := by kernel_rfl
theorem okc_impl_ResizeScreen : CallOK CT cf_impl_ResizeScreen := cfc_ok ok_C_impl_sizeOk (cfc_ok ok_C_impl_first (cfc_ok ok_C_impl_ScreenFault (cfc_ok ok_C_impl_unless (cfc_ok ok_C_impl_Screen_resized cfn_ok))))
theorem ok_X_impl_ResizeScreen : OkX CT 20 X_impl_ResizeScreen := OkX.of_ex (cf := cf_impl_ResizeScreen) (np := 3) (LL := []) (J := (fun _ _ _ _ => none)) CT_ok rfl Try.func20 rfl (Nat.le_of_ble_eq_true rfl) (by decide) cok_impl_ResizeScreen okc_impl_ResizeScreen (fun k => noLoops rfl) (fun args m r h => match args, h with
    | [t0, t1, t2], h => ⟨rfl, (xe_impl_ResizeScreen t0 t1 t2 m).trans h⟩)
theorem ok_C_impl_ResizeScreen : OkC CT 20 C_impl_ResizeScreen := fcall_ok rfl ok_X_impl_ResizeScreen

/-! ### laws.eqCell -/
noncomputable def cf_laws_eqCell : CallF := cfn
noncomputable def X_laws_eqCell : List Value → Mem → Option VM
  | [t0, t1], m =>
    (boxX m t0) |> bo fun r1 =>
    (boxX r1.2 t1) |> bo fun r2 =>
    (fadX 0 r1.1) |> bo fun t5 =>
    (ld1 r2.2 t5) |> bo fun t6 =>
    (fadX 0 r2.1) |> bo fun t7 =>
    (ld1 r2.2 t7) |> bo fun t8 =>
    (binX .neq .no t6 t8) |> bo fun t9 =>
    brX t9
      (
        retK m.length r2.2 [t0, t1] (.bool false))
      (
        (fadX 1 r1.1) |> bo fun t10 =>
        (ld1 r2.2 t10) |> bo fun t11 =>
        (fadX 1 r2.1) |> bo fun t12 =>
        (ld1 r2.2 t12) |> bo fun t13 =>
        (binX .neq .no t11 t13) |> bo fun t14 =>
        brX t14
          (
            retK m.length r2.2 [t0, t1] (.bool false))
          (
            retK m.length r2.2 [t0, t1] (.bool true)))
  | _, _ => none
noncomputable def C_laws_eqCell : List Value → Mem → Option VM := fcall X_laws_eqCell
@[simp] theorem c_laws_eqCell : C_laws_eqCell = fcall X_laws_eqCell := (rfl)
theorem cok_laws_eqCell : codeOk CT Try.f157 (Try.f157.body.get rfl) = true := by kernel_rfl
theorem xe_laws_eqCell (t0 t1 : Value) (m : Mem) : ex CT cf_laws_eqCell Try.f157 2 m.length [] (fun _ _ _ => none) 400 [.code (Try.f157.body.get rfl)] (argsT 0 [t0, t1]) m = X_laws_eqCell [t0, t1] m := by kernel_rfl
theorem okc_laws_eqCell : CallOK CT cf_laws_eqCell := cfn_ok
theorem ok_X_laws_eqCell : OkX CT 157 X_laws_eqCell := OkX.of_ex (cf := cf_laws_eqCell) (np := 2) (LL := []) (J := (fun _ _ _ _ => none)) CT_ok rfl Try.func157 rfl (Nat.le_of_ble_eq_true rfl) (by decide) cok_laws_eqCell okc_laws_eqCell (fun k => noLoops rfl) (fun args m r h => match args, h with
    | [t0, t1], h => ⟨rfl, (xe_laws_eqCell t0 t1 m).trans h⟩)
theorem ok_C_laws_eqCell : OkC CT 157 C_laws_eqCell := fcall_ok rfl ok_X_laws_eqCell

/-! ### laws.eqCellS -/
noncomputable def cf_laws_eqCellS : CallF := cfc 157 C_laws_eqCell cfn
noncomputable def L_laws_eqCellS (k : Nat) : Nat → Nat → List Value → Mem → Option VM
  | q + 1, 0, [t0, t1, t5], m =>
    (lenX t0) |> bo fun t13 =>
    (binX .lss .no t5 t13) |> bo fun t14 =>
    brX t14
      (
        (ixaX 2 t0 t5) |> bo fun t19 =>
        (ldS m 2 t19) |> bo fun t20 =>
        (ixaX 2 t1 t5) |> bo fun t23 =>
        (ldS m 2 t23) |> bo fun t24 =>
        (C_laws_eqCell [t20, t24] m) |> bo fun r7 =>
        (uop .not r7.1) |> bo fun t26 =>
        brX t26
          (
            retK k r7.2 [t0, t1] (.bool false))
          (
            (binX .add .no t5 (.int .i64 1)) |> bo fun t16 =>
            cutK k r7.2 [t0, t1] [t0, t1, t16] (L_laws_eqCellS k q 0)))
      (
        retK k m [t0, t1] (.bool true))
  | _, _, _, _ => none
noncomputable def J_laws_eqCellS (k q l : Nat) : List Value → Mem → Option VM := cond (Nat.beq l 4) (L_laws_eqCellS k q 0) (fun _ _ => none)
def LL_laws_eqCellS : List (Nat × List Tmp) := [(4, [0, 1, 5])]
noncomputable def X_laws_eqCellS : List Value → Mem → Option VM
  | [t0, t1], m =>
    (lenX t0) |> bo fun t7 =>
    (lenX t1) |> bo fun t9 =>
    (binX .neq .no t7 t9) |> bo fun t10 =>
    brX t10
      (
        retK m.length m [t0, t1] (.bool false))
      (
        cutK m.length m [t0, t1] [t0, t1, (.int .i64 0)] (L_laws_eqCellS m.length QQ 0))
  | _, _ => none
noncomputable def C_laws_eqCellS : List Value → Mem → Option VM := fcall X_laws_eqCellS
@[simp] theorem c_laws_eqCellS : C_laws_eqCellS = fcall X_laws_eqCellS := (rfl)
theorem cok_laws_eqCellS : codeOk CT Try.f115 (Try.f115.body.get rfl) = true := by kernel_rfl
theorem xe_laws_eqCellS (t0 t1 : Value) (m : Mem) : ex CT cf_laws_eqCellS Try.f115 2 m.length LL_laws_eqCellS (J_laws_eqCellS m.length QQ) 400 [.code (Try.f115.body.get rfl)] (argsT 0 [t0, t1]) m = X_laws_eqCellS [t0, t1] m := by kernel_rfl
theorem okc_laws_eqCellS : CallOK CT cf_laws_eqCellS := cfc_ok ok_C_laws_eqCell cfn_ok
theorem le_laws_eqCellS_0 (k q : Nat) (t0 t1 t5 : Value) (m : Mem) : ex CT cf_laws_eqCellS Try.f115 2 k LL_laws_eqCellS (J_laws_eqCellS k q) 400 (atLoop Try.f115 0) [(0, t0), (1, t1), (5, t5)] m = J_laws_eqCellS k (q + 1) 4 [t0, t1, t5] m := by kernel_rfl
theorem gl_laws_eqCellS (k : Nat) : ∀ q i, i < 1 → GoodL CT k Try.f115 LL_laws_eqCellS (J_laws_eqCellS k q) (atLoop Try.f115 i)
  | 0, 0, _ => goodL_zero (l := 4) (by kernel_rfl) (fun vs m => by kernel_rfl)
  | 0, _ + 1, h => absurd h (by omega)
  | q + 1, 0, _ => goodL_succ (np := 2) (l := 4) (live := [0, 1, 5]) (n := 1) CT_ok rfl okc_laws_eqCellS (c := (Try.f115.body.get rfl)) rfl cok_laws_eqCellS (by kernel_rfl) (gl_laws_eqCellS k q) (by kernel_rfl) rfl (fun vs m r hl h => match vs, hl with
    | [t0, t1, t5], _ => (le_laws_eqCellS_0 k q t0 t1 t5 m).trans h)
  | _ + 1, _ + 1, h => absurd h (by omega)
theorem ok_X_laws_eqCellS : OkX CT 115 X_laws_eqCellS := OkX.of_ex (cf := cf_laws_eqCellS) (np := 2) (LL := LL_laws_eqCellS) (J := (fun k => J_laws_eqCellS k QQ)) CT_ok rfl Try.func115 rfl (Nat.le_of_ble_eq_true rfl) (by decide) cok_laws_eqCellS okc_laws_eqCellS (fun k => allLoops rfl (by kernel_rfl) (gl_laws_eqCellS k QQ)) (fun args m r h => match args, h with
    | [t0, t1], h => ⟨rfl, (xe_laws_eqCellS t0 t1 m).trans h⟩)
theorem ok_C_laws_eqCellS : OkC CT 115 C_laws_eqCellS := fcall_ok rfl ok_X_laws_eqCellS

/-! ### laws.eqGrid -/
noncomputable def cf_laws_eqGrid : CallF := cfc 115 C_laws_eqCellS cfn
noncomputable def X_laws_eqGrid : List Value → Mem → Option VM
  | [t0, t1], m =>
    (boxX m t0) |> bo fun r1 =>
    (boxX r1.2 t1) |> bo fun r2 =>
    (fadX 0 r1.1) |> bo fun t5 =>
    (ld1 r2.2 t5) |> bo fun t6 =>
    (fadX 0 r2.1) |> bo fun t7 =>
    (ld1 r2.2 t7) |> bo fun t8 =>
    (binX .neq .no t6 t8) |> bo fun t9 =>
    brX t9
      (
        retK m.length r2.2 [t0, t1] (.bool false))
      (
        (fadX 1 r1.1) |> bo fun t10 =>
        (ld1 r2.2 t10) |> bo fun t11 =>
        (fadX 1 r2.1) |> bo fun t12 =>
        (ld1 r2.2 t12) |> bo fun t13 =>
        (binX .neq .no t11 t13) |> bo fun t14 =>
        brX t14
          (
            retK m.length r2.2 [t0, t1] (.bool false))
          (
            (fadX 2 r1.1) |> bo fun t15 =>
            (ld1 r2.2 t15) |> bo fun t16 =>
            (fadX 2 r2.1) |> bo fun t17 =>
            (ld1 r2.2 t17) |> bo fun t18 =>
            (C_laws_eqCellS [t16, t18] r2.2) |> bo fun r17 =>
            (uop .not r17.1) |> bo fun t20 =>
            brX t20
              (
                retK m.length r17.2 [t0, t1] (.bool false))
              (
                (fadX 3 r1.1) |> bo fun t21 =>
                (ld1 r17.2 t21) |> bo fun t22 =>
                (fadX 3 r2.1) |> bo fun t23 =>
                (ld1 r17.2 t23) |> bo fun t24 =>
                (C_laws_eqCellS [t22, t24] r17.2) |> bo fun r23 =>
                (uop .not r23.1) |> bo fun t26 =>
                brX t26
                  (
                    retK m.length r23.2 [t0, t1] (.bool false))
                  (
                    retK m.length r23.2 [t0, t1] (.bool true)))))
  | _, _ => none
noncomputable def C_laws_eqGrid : List Value → Mem → Option VM := fcall X_laws_eqGrid
@[simp] theorem c_laws_eqGrid : C_laws_eqGrid = fcall X_laws_eqGrid := (rfl)
theorem cok_laws_eqGrid : codeOk CT Try.f65 (Try.f65.body.get rfl) = true := by kernel_rfl
theorem xe_laws_eqGrid (t0 t1 : Value) (m : Mem) : ex CT cf_laws_eqGrid Try.f65 2 m.length [] (fun _ _ _ => none) 400 [.code (Try.f65.body.get rfl)] (argsT 0 [t0, t1]) m = X_laws_eqGrid [t0, t1] m := by kernel_rfl
theorem okc_laws_eqGrid : CallOK CT cf_laws_eqGrid := cfc_ok ok_C_laws_eqCellS cfn_ok
theorem ok_X_laws_eqGrid : OkX CT 65 X_laws_eqGrid := OkX.of_ex (cf := cf_laws_eqGrid) (np := 2) (LL := []) (J := (fun _ _ _ _ => none)) CT_ok rfl Try.func65 rfl (Nat.le_of_ble_eq_true rfl) (by decide) cok_laws_eqGrid okc_laws_eqGrid (fun k => noLoops rfl) (fun args m r h => match args, h with
    | [t0, t1], h => ⟨rfl, (xe_laws_eqGrid t0 t1 m).trans h⟩)
theorem ok_C_laws_eqGrid : OkC CT 65 C_laws_eqGrid := fcall_ok rfl ok_X_laws_eqGrid

/-! ### laws.eqBoolS -/
noncomputable def cf_laws_eqBoolS : CallF := cfn
noncomputable def L_laws_eqBoolS (k : Nat) : Nat → Nat → List Value → Mem → Option VM
  | q + 1, 0, [t0, t1, t5], m =>
    (lenX t0) |> bo fun t13 =>
    (binX .lss .no t5 t13) |> bo fun t14 =>
    brX t14
      (
        (ixaX 1 t0 t5) |> bo fun t19 =>
        (ld1 m t19) |> bo fun t20 =>
        (ixaX 1 t1 t5) |> bo fun t23 =>
        (ld1 m t23) |> bo fun t24 =>
        (binX .neq .bool t20 t24) |> bo fun t25 =>
        brX t25
          (
            retK k m [t0, t1] (.bool false))
          (
            (binX .add .no t5 (.int .i64 1)) |> bo fun t16 =>
            cutK k m [t0, t1] [t0, t1, t16] (L_laws_eqBoolS k q 0)))
      (
        retK k m [t0, t1] (.bool true))
  | _, _, _, _ => none
noncomputable def J_laws_eqBoolS (k q l : Nat) : List Value → Mem → Option VM := cond (Nat.beq l 4) (L_laws_eqBoolS k q 0) (fun _ _ => none)
def LL_laws_eqBoolS : List (Nat × List Tmp) := [(4, [0, 1, 5])]
noncomputable def X_laws_eqBoolS : List Value → Mem → Option VM
  | [t0, t1], m =>
    (lenX t0) |> bo fun t7 =>
    (lenX t1) |> bo fun t9 =>
    (binX .neq .no t7 t9) |> bo fun t10 =>
    brX t10
      (
        retK m.length m [t0, t1] (.bool false))
      (
        cutK m.length m [t0, t1] [t0, t1, (.int .i64 0)] (L_laws_eqBoolS m.length QQ 0))
  | _, _ => none
noncomputable def C_laws_eqBoolS : List Value → Mem → Option VM := fcall X_laws_eqBoolS
@[simp] theorem c_laws_eqBoolS : C_laws_eqBoolS = fcall X_laws_eqBoolS := (rfl)
theorem cok_laws_eqBoolS : codeOk CT Try.f66 (Try.f66.body.get rfl) = true := by kernel_rfl
theorem xe_laws_eqBoolS (t0 t1 : Value) (m : Mem) : ex CT cf_laws_eqBoolS Try.f66 2 m.length LL_laws_eqBoolS (J_laws_eqBoolS m.length QQ) 400 [.code (Try.f66.body.get rfl)] (argsT 0 [t0, t1]) m = X_laws_eqBoolS [t0, t1] m := by kernel_rfl
theorem okc_laws_eqBoolS : CallOK CT cf_laws_eqBoolS := cfn_ok
theorem le_laws_eqBoolS_0 (k q : Nat) (t0 t1 t5 : Value) (m : Mem) : ex CT cf_laws_eqBoolS Try.f66 2 k LL_laws_eqBoolS (J_laws_eqBoolS k q) 400 (atLoop Try.f66 0) [(0, t0), (1, t1), (5, t5)] m = J_laws_eqBoolS k (q + 1) 4 [t0, t1, t5] m := by kernel_rfl
theorem gl_laws_eqBoolS (k : Nat) : ∀ q i, i < 1 → GoodL CT k Try.f66 LL_laws_eqBoolS (J_laws_eqBoolS k q) (atLoop Try.f66 i)
  | 0, 0, _ => goodL_zero (l := 4) (by kernel_rfl) (fun vs m => by kernel_rfl)
  | 0, _ + 1, h => absurd h (by omega)
  | q + 1, 0, _ => goodL_succ (np := 2) (l := 4) (live := [0, 1, 5]) (n := 1) CT_ok rfl okc_laws_eqBoolS (c := (Try.f66.body.get rfl)) rfl cok_laws_eqBoolS (by kernel_rfl) (gl_laws_eqBoolS k q) (by kernel_rfl) rfl (fun vs m r hl h => match vs, hl with
    | [t0, t1, t5], _ => (le_laws_eqBoolS_0 k q t0 t1 t5 m).trans h)
  | _ + 1, _ + 1, h => absurd h (by omega)
theorem ok_X_laws_eqBoolS : OkX CT 66 X_laws_eqBoolS := OkX.of_ex (cf := cf_laws_eqBoolS) (np := 2) (LL := LL_laws_eqBoolS) (J := (fun k => J_laws_eqBoolS k QQ)) CT_ok rfl Try.func66 rfl (Nat.le_of_ble_eq_true rfl) (by decide) cok_laws_eqBoolS okc_laws_eqBoolS (fun k => allLoops rfl (by kernel_rfl) (gl_laws_eqBoolS k QQ)) (fun args m r h => match args, h with
    | [t0, t1], h => ⟨rfl, (xe_laws_eqBoolS t0 t1 m).trans h⟩)
theorem ok_C_laws_eqBoolS : OkC CT 66 C_laws_eqBoolS := fcall_ok rfl ok_X_laws_eqBoolS

/-! ### laws.eqInt64S -/
noncomputable def cf_laws_eqInt64S : CallF := cfn
noncomputable def L_laws_eqInt64S (k : Nat) : Nat → Nat → List Value → Mem → Option VM
  | q + 1, 0, [t0, t1, t5], m =>
    (lenX t0) |> bo fun t13 =>
    (binX .lss .no t5 t13) |> bo fun t14 =>
    brX t14
      (
        (ixaX 1 t0 t5) |> bo fun t19 =>
        (ld1 m t19) |> bo fun t20 =>
        (ixaX 1 t1 t5) |> bo fun t23 =>
        (ld1 m t23) |> bo fun t24 =>
        (binX .neq .no t20 t24) |> bo fun t25 =>
        brX t25
          (
            retK k m [t0, t1] (.bool false))
          (
            (binX .add .no t5 (.int .i64 1)) |> bo fun t16 =>
            cutK k m [t0, t1] [t0, t1, t16] (L_laws_eqInt64S k q 0)))
      (
        retK k m [t0, t1] (.bool true))
  | _, _, _, _ => none
noncomputable def J_laws_eqInt64S (k q l : Nat) : List Value → Mem → Option VM := cond (Nat.beq l 4) (L_laws_eqInt64S k q 0) (fun _ _ => none)
def LL_laws_eqInt64S : List (Nat × List Tmp) := [(4, [0, 1, 5])]
noncomputable def X_laws_eqInt64S : List Value → Mem → Option VM
  | [t0, t1], m =>
    (lenX t0) |> bo fun t7 =>
    (lenX t1) |> bo fun t9 =>
    (binX .neq .no t7 t9) |> bo fun t10 =>
    brX t10
      (
        retK m.length m [t0, t1] (.bool false))
      (
        cutK m.length m [t0, t1] [t0, t1, (.int .i64 0)] (L_laws_eqInt64S m.length QQ 0))
  | _, _ => none
noncomputable def C_laws_eqInt64S : List Value → Mem → Option VM := fcall X_laws_eqInt64S
@[simp] theorem c_laws_eqInt64S : C_laws_eqInt64S = fcall X_laws_eqInt64S := (rfl)
theorem cok_laws_eqInt64S : codeOk CT Try.f67 (Try.f67.body.get rfl) = true := by kernel_rfl
theorem xe_laws_eqInt64S (t0 t1 : Value) (m : Mem) : ex CT cf_laws_eqInt64S Try.f67 2 m.length LL_laws_eqInt64S (J_laws_eqInt64S m.length QQ) 400 [.code (Try.f67.body.get rfl)] (argsT 0 [t0, t1]) m = X_laws_eqInt64S [t0, t1] m := by kernel_rfl
theorem okc_laws_eqInt64S : CallOK CT cf_laws_eqInt64S := cfn_ok
theorem le_laws_eqInt64S_0 (k q : Nat) (t0 t1 t5 : Value) (m : Mem) : ex CT cf_laws_eqInt64S Try.f67 2 k LL_laws_eqInt64S (J_laws_eqInt64S k q) 400 (atLoop Try.f67 0) [(0, t0), (1, t1), (5, t5)] m = J_laws_eqInt64S k (q + 1) 4 [t0, t1, t5] m := by kernel_rfl
theorem gl_laws_eqInt64S (k : Nat) : ∀ q i, i < 1 → GoodL CT k Try.f67 LL_laws_eqInt64S (J_laws_eqInt64S k q) (atLoop Try.f67 i)
  | 0, 0, _ => goodL_zero (l := 4) (by kernel_rfl) (fun vs m => by kernel_rfl)
  | 0, _ + 1, h => absurd h (by omega)
  | q + 1, 0, _ => goodL_succ (np := 2) (l := 4) (live := [0, 1, 5]) (n := 1) CT_ok rfl okc_laws_eqInt64S (c := (Try.f67.body.get rfl)) rfl cok_laws_eqInt64S (by kernel_rfl) (gl_laws_eqInt64S k q) (by kernel_rfl) rfl (fun vs m r hl h => match vs, hl with
    | [t0, t1, t5], _ => (le_laws_eqInt64S_0 k q t0 t1 t5 m).trans h)
  | _ + 1, _ + 1, h => absurd h (by omega)
theorem ok_X_laws_eqInt64S : OkX CT 67 X_laws_eqInt64S := OkX.of_ex (cf := cf_laws_eqInt64S) (np := 2) (LL := LL_laws_eqInt64S) (J := (fun k => J_laws_eqInt64S k QQ)) CT_ok rfl Try.func67 rfl (Nat.le_of_ble_eq_true rfl) (by decide) cok_laws_eqInt64S okc_laws_eqInt64S (fun k => allLoops rfl (by kernel_rfl) (gl_laws_eqInt64S k QQ)) (fun args m r h => match args, h with
    | [t0, t1], h => ⟨rfl, (xe_laws_eqInt64S t0 t1 m).trans h⟩)
theorem ok_C_laws_eqInt64S : OkC CT 67 C_laws_eqInt64S := fcall_ok rfl ok_X_laws_eqInt64S

/-! ### laws.eqScreen -/
noncomputable def cf_laws_eqScreen : CallF := cfc 65 C_laws_eqGrid (cfc 66 C_laws_eqBoolS (cfc 67 C_laws_eqInt64S cfn))
noncomputable def X_laws_eqScreen : List Value → Mem → Option VM
  | [t0, t1], m =>
    (boxX m t0) |> bo fun r1 =>
    (boxX r1.2 t1) |> bo fun r2 =>
    (fadX 0 r1.1) |> bo fun t5 =>
    (ldS r2.2 4 t5) |> bo fun t6 =>
    (fadX 0 r2.1) |> bo fun t7 =>
    (ldS r2.2 4 t7) |> bo fun t8 =>
    (C_laws_eqGrid [t6, t8] r2.2) |> bo fun r7 =>
    (uop .not r7.1) |> bo fun t10 =>
    brX t10
      (
        retK m.length r7.2 [t0, t1] (.bool false))
      (
        (fadX 4 r1.1) |> bo fun t11 =>
        (ld1 r7.2 t11) |> bo fun t12 =>
        (fadX 4 r2.1) |> bo fun t13 =>
        (ld1 r7.2 t13) |> bo fun t14 =>
        (binX .neq .no t12 t14) |> bo fun t15 =>
        brX t15
          (
            retK m.length r7.2 [t0, t1] (.bool false))
          (
            (fadX 5 r1.1) |> bo fun t16 =>
            (ld1 r7.2 t16) |> bo fun t17 =>
            (fadX 5 r2.1) |> bo fun t18 =>
            (ld1 r7.2 t18) |> bo fun t19 =>
            (binX .neq .no t17 t19) |> bo fun t20 =>
            brX t20
              (
                retK m.length r7.2 [t0, t1] (.bool false))
              (
                (fadX 6 r1.1) |> bo fun t21 =>
                (ld1 r7.2 t21) |> bo fun t22 =>
                (fadX 6 r2.1) |> bo fun t23 =>
                (ld1 r7.2 t23) |> bo fun t24 =>
                (binX .neq .bool t22 t24) |> bo fun t25 =>
                brX t25
                  (
                    retK m.length r7.2 [t0, t1] (.bool false))
                  (
                    (fadX 7 r1.1) |> bo fun t26 =>
                    (ld1 r7.2 t26) |> bo fun t27 =>
                    (fadX 7 r2.1) |> bo fun t28 =>
                    (ld1 r7.2 t28) |> bo fun t29 =>
                    (binX .neq .no t27 t29) |> bo fun t30 =>
                    brX t30
                      (
                        retK m.length r7.2 [t0, t1] (.bool false))
                      (
                        (fadX 8 r1.1) |> bo fun t31 =>
                        (ld1 r7.2 t31) |> bo fun t32 =>
                        (fadX 8 r2.1) |> bo fun t33 =>
                        (ld1 r7.2 t33) |> bo fun t34 =>
                        (binX .neq .no t32 t34) |> bo fun t35 =>
                        brX t35
                          (
                            retK m.length r7.2 [t0, t1] (.bool false))
                          (
                            (fadX 9 r1.1) |> bo fun t36 =>
                            (ld1 r7.2 t36) |> bo fun t37 =>
                            (fadX 9 r2.1) |> bo fun t38 =>
                            (ld1 r7.2 t38) |> bo fun t39 =>
                            (binX .neq .no t37 t39) |> bo fun t40 =>
                            brX t40
                              (
                                retK m.length r7.2 [t0, t1] (.bool false))
                              (
                                (fadX 10 r1.1) |> bo fun t41 =>
                                (ld1 r7.2 t41) |> bo fun t42 =>
                                (fadX 10 r2.1) |> bo fun t43 =>
                                (ld1 r7.2 t43) |> bo fun t44 =>
                                (binX .neq .bool t42 t44) |> bo fun t45 =>
                                brX t45
                                  (
                                    retK m.length r7.2 [t0, t1] (.bool false))
                                  (
                                    (fadX 11 r1.1) |> bo fun t46 =>
                                    (ld1 r7.2 t46) |> bo fun t47 =>
                                    (fadX 11 r2.1) |> bo fun t48 =>
                                    (ld1 r7.2 t48) |> bo fun t49 =>
                                    (binX .neq .bool t47 t49) |> bo fun t50 =>
                                    brX t50
                                      (
                                        retK m.length r7.2 [t0, t1] (.bool false))
                                      (
                                        (fadX 12 r1.1) |> bo fun t51 =>
                                        (ld1 r7.2 t51) |> bo fun t52 =>
                                        (fadX 12 r2.1) |> bo fun t53 =>
                                        (ld1 r7.2 t53) |> bo fun t54 =>
                                        (binX .neq .bool t52 t54) |> bo fun t55 =>
                                        brX t55
                                          (
                                            retK m.length r7.2 [t0, t1] (.bool false))
                                          (
                                            (fadX 13 r1.1) |> bo fun t56 =>
                                            (ld1 r7.2 t56) |> bo fun t57 =>
                                            (fadX 13 r2.1) |> bo fun t58 =>
                                            (ld1 r7.2 t58) |> bo fun t59 =>
                                            (C_laws_eqBoolS [t57, t59] r7.2) |> bo fun r58 =>
                                            (uop .not r58.1) |> bo fun t61 =>
                                            brX t61
                                              (
                                                retK m.length r58.2 [t0, t1] (.bool false))
                                              (
                                                (fadX 14 r1.1) |> bo fun t62 =>
                                                (ld1 r58.2 t62) |> bo fun t63 =>
                                                (fadX 14 r2.1) |> bo fun t64 =>
                                                (ld1 r58.2 t64) |> bo fun t65 =>
                                                (binX .neq .no t63 t65) |> bo fun t66 =>
                                                brX t66
                                                  (
                                                    retK m.length r58.2 [t0, t1] (.bool false))
                                                  (
                                                    (fadX 15 r1.1) |> bo fun t67 =>
                                                    (ld1 r58.2 t67) |> bo fun t68 =>
                                                    (fadX 15 r2.1) |> bo fun t69 =>
                                                    (ld1 r58.2 t69) |> bo fun t70 =>
                                                    (binX .neq .no t68 t70) |> bo fun t71 =>
                                                    brX t71
                                                      (
                                                        retK m.length r58.2 [t0, t1] (.bool false))
                                                      (
                                                        (fadX 16 r1.1) |> bo fun t72 =>
                                                        (ld1 r58.2 t72) |> bo fun t73 =>
                                                        (fadX 16 r2.1) |> bo fun t74 =>
                                                        (ld1 r58.2 t74) |> bo fun t75 =>
                                                        (binX .neq .no t73 t75) |> bo fun t76 =>
                                                        brX t76
                                                          (
                                                            retK m.length r58.2 [t0, t1] (.bool false))
                                                          (
                                                            (fadX 17 r1.1) |> bo fun t77 =>
                                                            (ld1 r58.2 t77) |> bo fun t78 =>
                                                            (fadX 17 r2.1) |> bo fun t79 =>
                                                            (ld1 r58.2 t79) |> bo fun t80 =>
                                                            (C_laws_eqInt64S [t78, t80] r58.2) |> bo fun r79 =>
                                                            (uop .not r79.1) |> bo fun t82 =>
                                                            brX t82
                                                              (
                                                                retK m.length r79.2 [t0, t1] (.bool false))
                                                              (
                                                                (fadX 18 r1.1) |> bo fun t83 =>
                                                                (ld1 r79.2 t83) |> bo fun t84 =>
                                                                (fadX 18 r2.1) |> bo fun t85 =>
                                                                (ld1 r79.2 t85) |> bo fun t86 =>
                                                                (binX .neq .no t84 t86) |> bo fun t87 =>
                                                                brX t87
                                                                  (
                                                                    retK m.length r79.2 [t0, t1] (.bool false))
                                                                  (
                                                                    (fadX 19 r1.1) |> bo fun t88 =>
                                                                    (ld1 r79.2 t88) |> bo fun t89 =>
                                                                    (fadX 19 r2.1) |> bo fun t90 =>
                                                                    (ld1 r79.2 t90) |> bo fun t91 =>
                                                                    (binX .neq .no t89 t91) |> bo fun t92 =>
                                                                    brX t92
                                                                      (
                                                                        retK m.length r79.2 [t0, t1] (.bool false))
                                                                      (
                                                                        retK m.length r79.2 [t0, t1] (.bool true))))))))))))))))))
  | _, _ => none
noncomputable def C_laws_eqScreen : List Value → Mem → Option VM := fcall X_laws_eqScreen
@[simp] theorem c_laws_eqScreen : C_laws_eqScreen = fcall X_laws_eqScreen := (rfl)
theorem cok_laws_eqScreen : codeOk CT Try.f22 (Try.f22.body.get rfl) = true := by kernel_rfl
theorem xe_laws_eqScreen (t0 t1 : Value) (m : Mem) : ex CT cf_laws_eqScreen Try.f22 2 m.length [] (fun _ _ _ => none) 400 [.code (Try.f22.body.get rfl)] (argsT 0 [t0, t1]) m = X_laws_eqScreen [t0, t1] m := by kernel_rfl
theorem okc_laws_eqScreen : CallOK CT cf_laws_eqScreen := cfc_ok ok_C_laws_eqGrid (cfc_ok ok_C_laws_eqBoolS (cfc_ok ok_C_laws_eqInt64S cfn_ok))
theorem ok_X_laws_eqScreen : OkX CT 22 X_laws_eqScreen := OkX.of_ex (cf := cf_laws_eqScreen) (np := 2) (LL := []) (J := (fun _ _ _ _ => none)) CT_ok rfl Try.func22 rfl (Nat.le_of_ble_eq_true rfl) (by decide) cok_laws_eqScreen okc_laws_eqScreen (fun k => noLoops rfl) (fun args m r h => match args, h with
    | [t0, t1], h => ⟨rfl, (xe_laws_eqScreen t0 t1 m).trans h⟩)
theorem ok_C_laws_eqScreen : OkC CT 22 C_laws_eqScreen := fcall_ok rfl ok_X_laws_eqScreen

/-! ### laws.eqScreenResult -/
noncomputable def cf_laws_eqScreenResult : CallF := cfc 22 C_laws_eqScreen cfn
noncomputable def X_laws_eqScreenResult : List Value → Mem → Option VM
  | [t0, t1], m =>
    (boxX m t0) |> bo fun r1 =>
    (boxX r1.2 t1) |> bo fun r2 =>
    (fadX 0 r1.1) |> bo fun t5 =>
    (ld1 r2.2 t5) |> bo fun t6 =>
    (fadX 0 r2.1) |> bo fun t7 =>
    (ld1 r2.2 t7) |> bo fun t8 =>
    (binX .neq .no t6 t8) |> bo fun t9 =>
    brX t9
      (
        retK m.length r2.2 [t0, t1] (.bool false))
      (
        (fadX 1 r1.1) |> bo fun t10 =>
        (ldS r2.2 20 t10) |> bo fun t11 =>
        (fadX 1 r2.1) |> bo fun t12 =>
        (ldS r2.2 20 t12) |> bo fun t13 =>
        (C_laws_eqScreen [t11, t13] r2.2) |> bo fun r12 =>
        (uop .not r12.1) |> bo fun t15 =>
        brX t15
          (
            retK m.length r12.2 [t0, t1] (.bool false))
          (
            retK m.length r12.2 [t0, t1] (.bool true)))
  | _, _ => none
noncomputable def C_laws_eqScreenResult : List Value → Mem → Option VM := fcall X_laws_eqScreenResult
@[simp] theorem c_laws_eqScreenResult : C_laws_eqScreenResult = fcall X_laws_eqScreenResult := (rfl)
theorem cok_laws_eqScreenResult : codeOk CT Try.f21 (Try.f21.body.get rfl) = true := by kernel_rfl
theorem xe_laws_eqScreenResult (t0 t1 : Value) (m : Mem) : ex CT cf_laws_eqScreenResult Try.f21 2 m.length [] (fun _ _ _ => none) 400 [.code (Try.f21.body.get rfl)] (argsT 0 [t0, t1]) m = X_laws_eqScreenResult [t0, t1] m := by kernel_rfl
theorem okc_laws_eqScreenResult : CallOK CT cf_laws_eqScreenResult := cfc_ok ok_C_laws_eqScreen cfn_ok
theorem ok_X_laws_eqScreenResult : OkX CT 21 X_laws_eqScreenResult := OkX.of_ex (cf := cf_laws_eqScreenResult) (np := 2) (LL := []) (J := (fun _ _ _ _ => none)) CT_ok rfl Try.func21 rfl (Nat.le_of_ble_eq_true rfl) (by decide) cok_laws_eqScreenResult okc_laws_eqScreenResult (fun k => noLoops rfl) (fun args m r h => match args, h with
    | [t0, t1], h => ⟨rfl, (xe_laws_eqScreenResult t0 t1 m).trans h⟩)
theorem ok_C_laws_eqScreenResult : OkC CT 21 C_laws_eqScreenResult := fcall_ok rfl ok_X_laws_eqScreenResult

/-! ### laws.markCellS -/
noncomputable def cf_laws_markCellS : CallF := cfn
noncomputable def L_laws_markCellS (k : Nat) : Nat → Nat → List Value → Mem → Option VM
  | q + 1, 0, [t0, t1, t5], m =>
    (lenX t0) |> bo fun t8 =>
    (binX .lss .no t5 t8) |> bo fun t9 =>
    brX t9
      (
        (ixaX 2 t0 t5) |> bo fun t15 =>
        (fadX 0 t15) |> bo fun t16 =>
        (stX m 1 t16 t1) |> bo fun m5 =>
        (binX .add .no t1 (.int .i64 1)) |> bo fun t18 =>
        (ixaX 2 t0 t5) |> bo fun t22 =>
        (fadX 1 t22) |> bo fun t23 =>
        (stX m5 1 t23 t18) |> bo fun m9 =>
        (binX .add .no t18 (.int .i64 1)) |> bo fun t25 =>
        (binX .add .no t5 (.int .i64 1)) |> bo fun t11 =>
        cutK k m9 [t0, t25] [t0, t25, t11] (L_laws_markCellS k q 0))
      (
        retK k m [t0, t1] t1)
  | _, _, _, _ => none
noncomputable def J_laws_markCellS (k q l : Nat) : List Value → Mem → Option VM := cond (Nat.beq l 2) (L_laws_markCellS k q 0) (fun _ _ => none)
def LL_laws_markCellS : List (Nat × List Tmp) := [(2, [0, 1, 5])]
noncomputable def X_laws_markCellS : List Value → Mem → Option VM
  | [t0, t1], m =>
    cutK m.length m [t0, t1] [t0, t1, (.int .i64 0)] (L_laws_markCellS m.length QQ 0)
  | _, _ => none
noncomputable def C_laws_markCellS : List Value → Mem → Option VM := rcall X_laws_markCellS
@[simp] theorem c_laws_markCellS : C_laws_markCellS = rcall X_laws_markCellS := (rfl)
theorem cok_laws_markCellS : codeOk CT Try.f116 (Try.f116.body.get rfl) = true := by kernel_rfl
theorem xe_laws_markCellS (t0 t1 : Value) (m : Mem) : ex CT cf_laws_markCellS Try.f116 2 m.length LL_laws_markCellS (J_laws_markCellS m.length QQ) 400 [.code (Try.f116.body.get rfl)] (argsT 0 [t0, t1]) m = X_laws_markCellS [t0, t1] m := by kernel_rfl
theorem okc_laws_markCellS : CallOK CT cf_laws_markCellS := cfn_ok
theorem le_laws_markCellS_0 (k q : Nat) (t0 t1 t5 : Value) (m : Mem) : ex CT cf_laws_markCellS Try.f116 2 k LL_laws_markCellS (J_laws_markCellS k q) 400 (atLoop Try.f116 0) [(0, t0), (1, t1), (5, t5)] m = J_laws_markCellS k (q + 1) 2 [t0, t1, t5] m := by kernel_rfl
theorem gl_laws_markCellS (k : Nat) : ∀ q i, i < 1 → GoodL CT k Try.f116 LL_laws_markCellS (J_laws_markCellS k q) (atLoop Try.f116 i)
  | 0, 0, _ => goodL_zero (l := 2) (by kernel_rfl) (fun vs m => by kernel_rfl)
  | 0, _ + 1, h => absurd h (by omega)
  | q + 1, 0, _ => goodL_succ (np := 2) (l := 2) (live := [0, 1, 5]) (n := 1) CT_ok rfl okc_laws_markCellS (c := (Try.f116.body.get rfl)) rfl cok_laws_markCellS (by kernel_rfl) (gl_laws_markCellS k q) (by kernel_rfl) rfl (fun vs m r hl h => match vs, hl with
    | [t0, t1, t5], _ => (le_laws_markCellS_0 k q t0 t1 t5 m).trans h)
  | _ + 1, _ + 1, h => absurd h (by omega)
theorem ok_X_laws_markCellS : OkX CT 116 X_laws_markCellS := OkX.of_ex (cf := cf_laws_markCellS) (np := 2) (LL := LL_laws_markCellS) (J := (fun k => J_laws_markCellS k QQ)) CT_ok rfl Try.func116 rfl (Nat.le_of_ble_eq_true rfl) (by decide) cok_laws_markCellS okc_laws_markCellS (fun k => allLoops rfl (by kernel_rfl) (gl_laws_markCellS k QQ)) (fun args m r h => match args, h with
    | [t0, t1], h => ⟨rfl, (xe_laws_markCellS t0 t1 m).trans h⟩)
theorem ok_C_laws_markCellS : OkC CT 116 C_laws_markCellS := rcall_ok rfl ok_X_laws_markCellS

/-! ### laws.markGrid -/
noncomputable def cf_laws_markGrid : CallF := cfc 116 C_laws_markCellS cfn
noncomputable def X_laws_markGrid : List Value → Mem → Option VM
  | [t0, t1], m =>
    (boxX m t0) |> bo fun r1 =>
    (fadX 2 r1.1) |> bo fun t5 =>
    (ld1 r1.2 t5) |> bo fun t6 =>
    (C_laws_markCellS [t6, t1] r1.2) |> bo fun r4 =>
    (fadX 3 r1.1) |> bo fun t9 =>
    (ld1 r4.2 t9) |> bo fun t10 =>
    (C_laws_markCellS [t10, r4.1] r4.2) |> bo fun r7 =>
    retK m.length r7.2 [t0, r7.1] r7.1
  | _, _ => none
noncomputable def C_laws_markGrid : List Value → Mem → Option VM := rcall X_laws_markGrid
@[simp] theorem c_laws_markGrid : C_laws_markGrid = rcall X_laws_markGrid := (rfl)
theorem cok_laws_markGrid : codeOk CT Try.f68 (Try.f68.body.get rfl) = true := by kernel_rfl
theorem xe_laws_markGrid (t0 t1 : Value) (m : Mem) : ex CT cf_laws_markGrid Try.f68 2 m.length [] (fun _ _ _ => none) 400 [.code (Try.f68.body.get rfl)] (argsT 0 [t0, t1]) m = X_laws_markGrid [t0, t1] m := by kernel_rfl
theorem okc_laws_markGrid : CallOK CT cf_laws_markGrid := cfc_ok ok_C_laws_markCellS cfn_ok
theorem ok_X_laws_markGrid : OkX CT 68 X_laws_markGrid := OkX.of_ex (cf := cf_laws_markGrid) (np := 2) (LL := []) (J := (fun _ _ _ _ => none)) CT_ok rfl Try.func68 rfl (Nat.le_of_ble_eq_true rfl) (by decide) cok_laws_markGrid okc_laws_markGrid (fun k => noLoops rfl) (fun args m r h => match args, h with
    | [t0, t1], h => ⟨rfl, (xe_laws_markGrid t0 t1 m).trans h⟩)
theorem ok_C_laws_markGrid : OkC CT 68 C_laws_markGrid := rcall_ok rfl ok_X_laws_markGrid

/-! ### laws.markBoolS -/
noncomputable def cf_laws_markBoolS : CallF := cfn
noncomputable def L_laws_markBoolS (k : Nat) : Nat → Nat → List Value → Mem → Option VM
  | q + 1, 0, [t0, t1, t5], m =>
    (lenX t0) |> bo fun t8 =>
    (binX .lss .no t5 t8) |> bo fun t9 =>
    brX t9
      (
        (binX .rem .no t1 (.int .i64 3)) |> bo fun t15 =>
        (binX .eql .no t15 (.int .i64 0)) |> bo fun t16 =>
        (ixaX 1 t0 t5) |> bo fun t17 =>
        (stX m 1 t17 t16) |> bo fun m6 =>
        (binX .add .no t1 (.int .i64 1)) |> bo fun t19 =>
        (binX .add .no t5 (.int .i64 1)) |> bo fun t11 =>
        cutK k m6 [t0, t19] [t0, t19, t11] (L_laws_markBoolS k q 0))
      (
        retK k m [t0, t1] t1)
  | _, _, _, _ => none
noncomputable def J_laws_markBoolS (k q l : Nat) : List Value → Mem → Option VM := cond (Nat.beq l 2) (L_laws_markBoolS k q 0) (fun _ _ => none)
def LL_laws_markBoolS : List (Nat × List Tmp) := [(2, [0, 1, 5])]
noncomputable def X_laws_markBoolS : List Value → Mem → Option VM
  | [t0, t1], m =>
    cutK m.length m [t0, t1] [t0, t1, (.int .i64 0)] (L_laws_markBoolS m.length QQ 0)
  | _, _ => none
noncomputable def C_laws_markBoolS : List Value → Mem → Option VM := rcall X_laws_markBoolS
@[simp] theorem c_laws_markBoolS : C_laws_markBoolS = rcall X_laws_markBoolS := (rfl)
theorem cok_laws_markBoolS : codeOk CT Try.f69 (Try.f69.body.get rfl) = true := by kernel_rfl
theorem xe_laws_markBoolS (t0 t1 : Value) (m : Mem) : ex CT cf_laws_markBoolS Try.f69 2 m.length LL_laws_markBoolS (J_laws_markBoolS m.length QQ) 400 [.code (Try.f69.body.get rfl)] (argsT 0 [t0, t1]) m = X_laws_markBoolS [t0, t1] m := by kernel_rfl
theorem okc_laws_markBoolS : CallOK CT cf_laws_markBoolS := cfn_ok
theorem le_laws_markBoolS_0 (k q : Nat) (t0 t1 t5 : Value) (m : Mem) : ex CT cf_laws_markBoolS Try.f69 2 k LL_laws_markBoolS (J_laws_markBoolS k q) 400 (atLoop Try.f69 0) [(0, t0), (1, t1), (5, t5)] m = J_laws_markBoolS k (q + 1) 2 [t0, t1, t5] m := by kernel_rfl
theorem gl_laws_markBoolS (k : Nat) : ∀ q i, i < 1 → GoodL CT k Try.f69 LL_laws_markBoolS (J_laws_markBoolS k q) (atLoop Try.f69 i)
  | 0, 0, _ => goodL_zero (l := 2) (by kernel_rfl) (fun vs m => by kernel_rfl)
  | 0, _ + 1, h => absurd h (by omega)
  | q + 1, 0, _ => goodL_succ (np := 2) (l := 2) (live := [0, 1, 5]) (n := 1) CT_ok rfl okc_laws_markBoolS (c := (Try.f69.body.get rfl)) rfl cok_laws_markBoolS (by kernel_rfl) (gl_laws_markBoolS k q) (by kernel_rfl) rfl (fun vs m r hl h => match vs, hl with
    | [t0, t1, t5], _ => (le_laws_markBoolS_0 k q t0 t1 t5 m).trans h)
  | _ + 1, _ + 1, h => absurd h (by omega)
theorem ok_X_laws_markBoolS : OkX CT 69 X_laws_markBoolS := OkX.of_ex (cf := cf_laws_markBoolS) (np := 2) (LL := LL_laws_markBoolS) (J := (fun k => J_laws_markBoolS k QQ)) CT_ok rfl Try.func69 rfl (Nat.le_of_ble_eq_true rfl) (by decide) cok_laws_markBoolS okc_laws_markBoolS (fun k => allLoops rfl (by kernel_rfl) (gl_laws_markBoolS k QQ)) (fun args m r h => match args, h with
    | [t0, t1], h => ⟨rfl, (xe_laws_markBoolS t0 t1 m).trans h⟩)
theorem ok_C_laws_markBoolS : OkC CT 69 C_laws_markBoolS := rcall_ok rfl ok_X_laws_markBoolS

/-! ### laws.markInt64S -/
noncomputable def cf_laws_markInt64S : CallF := cfn
noncomputable def L_laws_markInt64S (k : Nat) : Nat → Nat → List Value → Mem → Option VM
  | q + 1, 0, [t0, t1, t5], m =>
    (lenX t0) |> bo fun t8 =>
    (binX .lss .no t5 t8) |> bo fun t9 =>
    brX t9
      (
        (ixaX 1 t0 t5) |> bo fun t15 =>
        (stX m 1 t15 t1) |> bo fun m4 =>
        (binX .add .no t1 (.int .i64 1)) |> bo fun t17 =>
        (binX .add .no t5 (.int .i64 1)) |> bo fun t11 =>
        cutK k m4 [t0, t17] [t0, t17, t11] (L_laws_markInt64S k q 0))
      (
        retK k m [t0, t1] t1)
  | _, _, _, _ => none
noncomputable def J_laws_markInt64S (k q l : Nat) : List Value → Mem → Option VM := cond (Nat.beq l 2) (L_laws_markInt64S k q 0) (fun _ _ => none)
def LL_laws_markInt64S : List (Nat × List Tmp) := [(2, [0, 1, 5])]
noncomputable def X_laws_markInt64S : List Value → Mem → Option VM
  | [t0, t1], m =>
    cutK m.length m [t0, t1] [t0, t1, (.int .i64 0)] (L_laws_markInt64S m.length QQ 0)
  | _, _ => none
noncomputable def C_laws_markInt64S : List Value → Mem → Option VM := rcall X_laws_markInt64S
@[simp] theorem c_laws_markInt64S : C_laws_markInt64S = rcall X_laws_markInt64S := (rfl)
theorem cok_laws_markInt64S : codeOk CT Try.f70 (Try.f70.body.get rfl) = true := by kernel_rfl
theorem xe_laws_markInt64S (t0 t1 : Value) (m : Mem) : ex CT cf_laws_markInt64S Try.f70 2 m.length LL_laws_markInt64S (J_laws_markInt64S m.length QQ) 400 [.code (Try.f70.body.get rfl)] (argsT 0 [t0, t1]) m = X_laws_markInt64S [t0, t1] m := by kernel_rfl
theorem okc_laws_markInt64S : CallOK CT cf_laws_markInt64S := cfn_ok
theorem le_laws_markInt64S_0 (k q : Nat) (t0 t1 t5 : Value) (m : Mem) : ex CT cf_laws_markInt64S Try.f70 2 k LL_laws_markInt64S (J_laws_markInt64S k q) 400 (atLoop Try.f70 0) [(0, t0), (1, t1), (5, t5)] m = J_laws_markInt64S k (q + 1) 2 [t0, t1, t5] m := by kernel_rfl
theorem gl_laws_markInt64S (k : Nat) : ∀ q i, i < 1 → GoodL CT k Try.f70 LL_laws_markInt64S (J_laws_markInt64S k q) (atLoop Try.f70 i)
  | 0, 0, _ => goodL_zero (l := 2) (by kernel_rfl) (fun vs m => by kernel_rfl)
  | 0, _ + 1, h => absurd h (by omega)
  | q + 1, 0, _ => goodL_succ (np := 2) (l := 2) (live := [0, 1, 5]) (n := 1) CT_ok rfl okc_laws_markInt64S (c := (Try.f70.body.get rfl)) rfl cok_laws_markInt64S (by kernel_rfl) (gl_laws_markInt64S k q) (by kernel_rfl) rfl (fun vs m r hl h => match vs, hl with
    | [t0, t1, t5], _ => (le_laws_markInt64S_0 k q t0 t1 t5 m).trans h)
  | _ + 1, _ + 1, h => absurd h (by omega)
theorem ok_X_laws_markInt64S : OkX CT 70 X_laws_markInt64S := OkX.of_ex (cf := cf_laws_markInt64S) (np := 2) (LL := LL_laws_markInt64S) (J := (fun k => J_laws_markInt64S k QQ)) CT_ok rfl Try.func70 rfl (Nat.le_of_ble_eq_true rfl) (by decide) cok_laws_markInt64S okc_laws_markInt64S (fun k => allLoops rfl (by kernel_rfl) (gl_laws_markInt64S k QQ)) (fun args m r h => match args, h with
    | [t0, t1], h => ⟨rfl, (xe_laws_markInt64S t0 t1 m).trans h⟩)
theorem ok_C_laws_markInt64S : OkC CT 70 C_laws_markInt64S := rcall_ok rfl ok_X_laws_markInt64S

/-! ### laws.markScreen -/
noncomputable def cf_laws_markScreen : CallF := cfc 68 C_laws_markGrid (cfc 69 C_laws_markBoolS (cfc 70 C_laws_markInt64S cfn))
noncomputable def X_laws_markScreen : List Value → Mem → Option VM
  | [t0, t1], m =>
    (boxX m t0) |> bo fun r1 =>
    (fadX 0 r1.1) |> bo fun t5 =>
    (ldS r1.2 4 t5) |> bo fun t6 =>
    (C_laws_markGrid [t6, t1] r1.2) |> bo fun r4 =>
    (fadX 13 r1.1) |> bo fun t9 =>
    (ld1 r4.2 t9) |> bo fun t10 =>
    (C_laws_markBoolS [t10, r4.1] r4.2) |> bo fun r7 =>
    (fadX 17 r1.1) |> bo fun t13 =>
    (ld1 r7.2 t13) |> bo fun t14 =>
    (C_laws_markInt64S [t14, r7.1] r7.2) |> bo fun r10 =>
    retK m.length r10.2 [t0, r10.1] r10.1
  | _, _ => none
noncomputable def C_laws_markScreen : List Value → Mem → Option VM := rcall X_laws_markScreen
@[simp] theorem c_laws_markScreen : C_laws_markScreen = rcall X_laws_markScreen := (rfl)
theorem cok_laws_markScreen : codeOk CT Try.f23 (Try.f23.body.get rfl) = true := by kernel_rfl
theorem xe_laws_markScreen (t0 t1 : Value) (m : Mem) : ex CT cf_laws_markScreen Try.f23 2 m.length [] (fun _ _ _ => none) 400 [.code (Try.f23.body.get rfl)] (argsT 0 [t0, t1]) m = X_laws_markScreen [t0, t1] m := by kernel_rfl
theorem okc_laws_markScreen : CallOK CT cf_laws_markScreen := cfc_ok ok_C_laws_markGrid (cfc_ok ok_C_laws_markBoolS (cfc_ok ok_C_laws_markInt64S cfn_ok))
theorem ok_X_laws_markScreen : OkX CT 23 X_laws_markScreen := OkX.of_ex (cf := cf_laws_markScreen) (np := 2) (LL := []) (J := (fun _ _ _ _ => none)) CT_ok rfl Try.func23 rfl (Nat.le_of_ble_eq_true rfl) (by decide) cok_laws_markScreen okc_laws_markScreen (fun k => noLoops rfl) (fun args m r h => match args, h with
    | [t0, t1], h => ⟨rfl, (xe_laws_markScreen t0 t1 m).trans h⟩)
theorem ok_C_laws_markScreen : OkC CT 23 C_laws_markScreen := rcall_ok rfl ok_X_laws_markScreen

/-! ### laws.markScreenResult -/
noncomputable def cf_laws_markScreenResult : CallF := cfc 23 C_laws_markScreen cfn
noncomputable def X_laws_markScreenResult : List Value → Mem → Option VM
  | [t0, t1], m =>
    (boxX m t0) |> bo fun r1 =>
    (fadX 1 r1.1) |> bo fun t5 =>
    (ldS r1.2 20 t5) |> bo fun t6 =>
    (C_laws_markScreen [t6, t1] r1.2) |> bo fun r4 =>
    retK m.length r4.2 [t0, r4.1] r4.1
  | _, _ => none
noncomputable def C_laws_markScreenResult : List Value → Mem → Option VM := rcall X_laws_markScreenResult
@[simp] theorem c_laws_markScreenResult : C_laws_markScreenResult = rcall X_laws_markScreenResult := (rfl)
theorem cok_laws_markScreenResult : codeOk CT Try.f24 (Try.f24.body.get rfl) = true := by kernel_rfl
theorem xe_laws_markScreenResult (t0 t1 : Value) (m : Mem) : ex CT cf_laws_markScreenResult Try.f24 2 m.length [] (fun _ _ _ => none) 400 [.code (Try.f24.body.get rfl)] (argsT 0 [t0, t1]) m = X_laws_markScreenResult [t0, t1] m := by kernel_rfl
theorem okc_laws_markScreenResult : CallOK CT cf_laws_markScreenResult := cfc_ok ok_C_laws_markScreen cfn_ok
theorem ok_X_laws_markScreenResult : OkX CT 24 X_laws_markScreenResult := OkX.of_ex (cf := cf_laws_markScreenResult) (np := 2) (LL := []) (J := (fun _ _ _ _ => none)) CT_ok rfl Try.func24 rfl (Nat.le_of_ble_eq_true rfl) (by decide) cok_laws_markScreenResult okc_laws_markScreenResult (fun k => noLoops rfl) (fun args m r h => match args, h with
    | [t0, t1], h => ⟨rfl, (xe_laws_markScreenResult t0 t1 m).trans h⟩)
theorem ok_C_laws_markScreenResult : OkC CT 24 C_laws_markScreenResult := rcall_ok rfl ok_X_laws_markScreenResult

/-! ### laws.heldBoolS -/
noncomputable def cf_laws_heldBoolS : CallF := cfn
noncomputable def L_laws_heldBoolS (k : Nat) : Nat → Nat → List Value → Mem → Option VM
  | q + 1, 0, [t0, t1, t5], m =>
    (lenX t0) |> bo fun t8 =>
    (binX .lss .no t5 t8) |> bo fun t9 =>
    brX t9
      (
        (ixaX 1 t0 t5) |> bo fun t14 =>
        (ld1 m t14) |> bo fun t15 =>
        (binX .rem .no t1 (.int .i64 3)) |> bo fun t17 =>
        (binX .eql .no t17 (.int .i64 0)) |> bo fun t18 =>
        (binX .neq .bool t15 t18) |> bo fun t19 =>
        brX t19
          (
            retK k m [t0, t1] (.int .i64 (-1)))
          (
            (binX .add .no t1 (.int .i64 1)) |> bo fun t21 =>
            (binX .add .no t5 (.int .i64 1)) |> bo fun t11 =>
            cutK k m [t0, t21] [t0, t21, t11] (L_laws_heldBoolS k q 0)))
      (
        retK k m [t0, t1] t1)
  | _, _, _, _ => none
noncomputable def J_laws_heldBoolS (k q l : Nat) : List Value → Mem → Option VM := cond (Nat.beq l 2) (L_laws_heldBoolS k q 0) (fun _ _ => none)
def LL_laws_heldBoolS : List (Nat × List Tmp) := [(2, [0, 1, 5])]
noncomputable def X_laws_heldBoolS : List Value → Mem → Option VM
  | [t0, t1], m =>
    cutK m.length m [t0, t1] [t0, t1, (.int .i64 0)] (L_laws_heldBoolS m.length QQ 0)
  | _, _ => none
noncomputable def C_laws_heldBoolS : List Value → Mem → Option VM := fcall X_laws_heldBoolS
@[simp] theorem c_laws_heldBoolS : C_laws_heldBoolS = fcall X_laws_heldBoolS := (rfl)
theorem cok_laws_heldBoolS : codeOk CT Try.f87 (Try.f87.body.get rfl) = true := by kernel_rfl
theorem xe_laws_heldBoolS (t0 t1 : Value) (m : Mem) : ex CT cf_laws_heldBoolS Try.f87 2 m.length LL_laws_heldBoolS (J_laws_heldBoolS m.length QQ) 400 [.code (Try.f87.body.get rfl)] (argsT 0 [t0, t1]) m = X_laws_heldBoolS [t0, t1] m := by kernel_rfl
theorem okc_laws_heldBoolS : CallOK CT cf_laws_heldBoolS := cfn_ok
theorem le_laws_heldBoolS_0 (k q : Nat) (t0 t1 t5 : Value) (m : Mem) : ex CT cf_laws_heldBoolS Try.f87 2 k LL_laws_heldBoolS (J_laws_heldBoolS k q) 400 (atLoop Try.f87 0) [(0, t0), (1, t1), (5, t5)] m = J_laws_heldBoolS k (q + 1) 2 [t0, t1, t5] m := by kernel_rfl
theorem gl_laws_heldBoolS (k : Nat) : ∀ q i, i < 1 → GoodL CT k Try.f87 LL_laws_heldBoolS (J_laws_heldBoolS k q) (atLoop Try.f87 i)
  | 0, 0, _ => goodL_zero (l := 2) (by kernel_rfl) (fun vs m => by kernel_rfl)
  | 0, _ + 1, h => absurd h (by omega)
  | q + 1, 0, _ => goodL_succ (np := 2) (l := 2) (live := [0, 1, 5]) (n := 1) CT_ok rfl okc_laws_heldBoolS (c := (Try.f87.body.get rfl)) rfl cok_laws_heldBoolS (by kernel_rfl) (gl_laws_heldBoolS k q) (by kernel_rfl) rfl (fun vs m r hl h => match vs, hl with
    | [t0, t1, t5], _ => (le_laws_heldBoolS_0 k q t0 t1 t5 m).trans h)
  | _ + 1, _ + 1, h => absurd h (by omega)
theorem ok_X_laws_heldBoolS : OkX CT 87 X_laws_heldBoolS := OkX.of_ex (cf := cf_laws_heldBoolS) (np := 2) (LL := LL_laws_heldBoolS) (J := (fun k => J_laws_heldBoolS k QQ)) CT_ok rfl Try.func87 rfl (Nat.le_of_ble_eq_true rfl) (by decide) cok_laws_heldBoolS okc_laws_heldBoolS (fun k => allLoops rfl (by kernel_rfl) (gl_laws_heldBoolS k QQ)) (fun args m r h => match args, h with
    | [t0, t1], h => ⟨rfl, (xe_laws_heldBoolS t0 t1 m).trans h⟩)
theorem ok_C_laws_heldBoolS : OkC CT 87 C_laws_heldBoolS := fcall_ok rfl ok_X_laws_heldBoolS

/-! ### laws.heldCellS -/
noncomputable def cf_laws_heldCellS : CallF := cfn
noncomputable def L_laws_heldCellS (k : Nat) : Nat → Nat → List Value → Mem → Option VM
  | q + 1, 0, [t0, t1, t5], m =>
    (lenX t0) |> bo fun t8 =>
    (binX .lss .no t5 t8) |> bo fun t9 =>
    brX t9
      (
        (ixaX 2 t0 t5) |> bo fun t14 =>
        (fadX 0 t14) |> bo fun t15 =>
        (ld1 m t15) |> bo fun t16 =>
        (binX .neq .no t16 t1) |> bo fun t18 =>
        brX t18
          (
            retK k m [t0, t1] (.int .i64 (-1)))
          (
            (binX .add .no t1 (.int .i64 1)) |> bo fun t20 =>
            (ixaX 2 t0 t5) |> bo fun t23 =>
            (fadX 1 t23) |> bo fun t24 =>
            (ld1 m t24) |> bo fun t25 =>
            (binX .neq .no t25 t20) |> bo fun t27 =>
            brX t27
              (
                retK k m [t0, t20] (.int .i64 (-1)))
              (
                (binX .add .no t20 (.int .i64 1)) |> bo fun t29 =>
                (binX .add .no t5 (.int .i64 1)) |> bo fun t11 =>
                cutK k m [t0, t29] [t0, t29, t11] (L_laws_heldCellS k q 0))))
      (
        retK k m [t0, t1] t1)
  | _, _, _, _ => none
noncomputable def J_laws_heldCellS (k q l : Nat) : List Value → Mem → Option VM := cond (Nat.beq l 2) (L_laws_heldCellS k q 0) (fun _ _ => none)
def LL_laws_heldCellS : List (Nat × List Tmp) := [(2, [0, 1, 5])]
noncomputable def X_laws_heldCellS : List Value → Mem → Option VM
  | [t0, t1], m =>
    cutK m.length m [t0, t1] [t0, t1, (.int .i64 0)] (L_laws_heldCellS m.length QQ 0)
  | _, _ => none
noncomputable def C_laws_heldCellS : List Value → Mem → Option VM := fcall X_laws_heldCellS
@[simp] theorem c_laws_heldCellS : C_laws_heldCellS = fcall X_laws_heldCellS := (rfl)
theorem cok_laws_heldCellS : codeOk CT Try.f126 (Try.f126.body.get rfl) = true := by kernel_rfl
theorem xe_laws_heldCellS (t0 t1 : Value) (m : Mem) : ex CT cf_laws_heldCellS Try.f126 2 m.length LL_laws_heldCellS (J_laws_heldCellS m.length QQ) 400 [.code (Try.f126.body.get rfl)] (argsT 0 [t0, t1]) m = X_laws_heldCellS [t0, t1] m := by kernel_rfl
theorem okc_laws_heldCellS : CallOK CT cf_laws_heldCellS := cfn_ok
theorem le_laws_heldCellS_0 (k q : Nat) (t0 t1 t5 : Value) (m : Mem) : ex CT cf_laws_heldCellS Try.f126 2 k LL_laws_heldCellS (J_laws_heldCellS k q) 400 (atLoop Try.f126 0) [(0, t0), (1, t1), (5, t5)] m = J_laws_heldCellS k (q + 1) 2 [t0, t1, t5] m := by kernel_rfl
theorem gl_laws_heldCellS (k : Nat) : ∀ q i, i < 1 → GoodL CT k Try.f126 LL_laws_heldCellS (J_laws_heldCellS k q) (atLoop Try.f126 i)
  | 0, 0, _ => goodL_zero (l := 2) (by kernel_rfl) (fun vs m => by kernel_rfl)
  | 0, _ + 1, h => absurd h (by omega)
  | q + 1, 0, _ => goodL_succ (np := 2) (l := 2) (live := [0, 1, 5]) (n := 1) CT_ok rfl okc_laws_heldCellS (c := (Try.f126.body.get rfl)) rfl cok_laws_heldCellS (by kernel_rfl) (gl_laws_heldCellS k q) (by kernel_rfl) rfl (fun vs m r hl h => match vs, hl with
    | [t0, t1, t5], _ => (le_laws_heldCellS_0 k q t0 t1 t5 m).trans h)
  | _ + 1, _ + 1, h => absurd h (by omega)
theorem ok_X_laws_heldCellS : OkX CT 126 X_laws_heldCellS := OkX.of_ex (cf := cf_laws_heldCellS) (np := 2) (LL := LL_laws_heldCellS) (J := (fun k => J_laws_heldCellS k QQ)) CT_ok rfl Try.func126 rfl (Nat.le_of_ble_eq_true rfl) (by decide) cok_laws_heldCellS okc_laws_heldCellS (fun k => allLoops rfl (by kernel_rfl) (gl_laws_heldCellS k QQ)) (fun args m r h => match args, h with
    | [t0, t1], h => ⟨rfl, (xe_laws_heldCellS t0 t1 m).trans h⟩)
theorem ok_C_laws_heldCellS : OkC CT 126 C_laws_heldCellS := fcall_ok rfl ok_X_laws_heldCellS

/-! ### laws.heldGrid -/
noncomputable def cf_laws_heldGrid : CallF := cfc 126 C_laws_heldCellS cfn
noncomputable def X_laws_heldGrid : List Value → Mem → Option VM
  | [t0, t1], m =>
    (boxX m t0) |> bo fun r1 =>
    (fadX 2 r1.1) |> bo fun t5 =>
    (ld1 r1.2 t5) |> bo fun t6 =>
    (C_laws_heldCellS [t6, t1] r1.2) |> bo fun r4 =>
    (binX .lss .no r4.1 (.int .i64 0)) |> bo fun t10 =>
    brX t10
      (
        retK m.length r4.2 [t0, r4.1] (.int .i64 (-1)))
      (
        (fadX 3 r1.1) |> bo fun t11 =>
        (ld1 r4.2 t11) |> bo fun t12 =>
        (C_laws_heldCellS [t12, r4.1] r4.2) |> bo fun r8 =>
        (binX .lss .no r8.1 (.int .i64 0)) |> bo fun t16 =>
        brX t16
          (
            retK m.length r8.2 [t0, r8.1] (.int .i64 (-1)))
          (
            retK m.length r8.2 [t0, r8.1] r8.1))
  | _, _ => none
noncomputable def C_laws_heldGrid : List Value → Mem → Option VM := fcall X_laws_heldGrid
@[simp] theorem c_laws_heldGrid : C_laws_heldGrid = fcall X_laws_heldGrid := (rfl)
theorem cok_laws_heldGrid : codeOk CT Try.f117 (Try.f117.body.get rfl) = true := by kernel_rfl
theorem xe_laws_heldGrid (t0 t1 : Value) (m : Mem) : ex CT cf_laws_heldGrid Try.f117 2 m.length [] (fun _ _ _ => none) 400 [.code (Try.f117.body.get rfl)] (argsT 0 [t0, t1]) m = X_laws_heldGrid [t0, t1] m := by kernel_rfl
theorem okc_laws_heldGrid : CallOK CT cf_laws_heldGrid := cfc_ok ok_C_laws_heldCellS cfn_ok
theorem ok_X_laws_heldGrid : OkX CT 117 X_laws_heldGrid := OkX.of_ex (cf := cf_laws_heldGrid) (np := 2) (LL := []) (J := (fun _ _ _ _ => none)) CT_ok rfl Try.func117 rfl (Nat.le_of_ble_eq_true rfl) (by decide) cok_laws_heldGrid okc_laws_heldGrid (fun k => noLoops rfl) (fun args m r h => match args, h with
    | [t0, t1], h => ⟨rfl, (xe_laws_heldGrid t0 t1 m).trans h⟩)
theorem ok_C_laws_heldGrid : OkC CT 117 C_laws_heldGrid := fcall_ok rfl ok_X_laws_heldGrid

/-! ### laws.heldInt64S -/
noncomputable def cf_laws_heldInt64S : CallF := cfn
noncomputable def L_laws_heldInt64S (k : Nat) : Nat → Nat → List Value → Mem → Option VM
  | q + 1, 0, [t0, t1, t5], m =>
    (lenX t0) |> bo fun t8 =>
    (binX .lss .no t5 t8) |> bo fun t9 =>
    brX t9
      (
        (ixaX 1 t0 t5) |> bo fun t14 =>
        (ld1 m t14) |> bo fun t15 =>
        (binX .neq .no t15 t1) |> bo fun t17 =>
        brX t17
          (
            retK k m [t0, t1] (.int .i64 (-1)))
          (
            (binX .add .no t1 (.int .i64 1)) |> bo fun t19 =>
            (binX .add .no t5 (.int .i64 1)) |> bo fun t11 =>
            cutK k m [t0, t19] [t0, t19, t11] (L_laws_heldInt64S k q 0)))
      (
        retK k m [t0, t1] t1)
  | _, _, _, _ => none
noncomputable def J_laws_heldInt64S (k q l : Nat) : List Value → Mem → Option VM := cond (Nat.beq l 2) (L_laws_heldInt64S k q 0) (fun _ _ => none)
def LL_laws_heldInt64S : List (Nat × List Tmp) := [(2, [0, 1, 5])]
noncomputable def X_laws_heldInt64S : List Value → Mem → Option VM
  | [t0, t1], m =>
    cutK m.length m [t0, t1] [t0, t1, (.int .i64 0)] (L_laws_heldInt64S m.length QQ 0)
  | _, _ => none
noncomputable def C_laws_heldInt64S : List Value → Mem → Option VM := fcall X_laws_heldInt64S
@[simp] theorem c_laws_heldInt64S : C_laws_heldInt64S = fcall X_laws_heldInt64S := (rfl)
theorem cok_laws_heldInt64S : codeOk CT Try.f118 (Try.f118.body.get rfl) = true := by kernel_rfl
theorem xe_laws_heldInt64S (t0 t1 : Value) (m : Mem) : ex CT cf_laws_heldInt64S Try.f118 2 m.length LL_laws_heldInt64S (J_laws_heldInt64S m.length QQ) 400 [.code (Try.f118.body.get rfl)] (argsT 0 [t0, t1]) m = X_laws_heldInt64S [t0, t1] m := by kernel_rfl
theorem okc_laws_heldInt64S : CallOK CT cf_laws_heldInt64S := cfn_ok
theorem le_laws_heldInt64S_0 (k q : Nat) (t0 t1 t5 : Value) (m : Mem) : ex CT cf_laws_heldInt64S Try.f118 2 k LL_laws_heldInt64S (J_laws_heldInt64S k q) 400 (atLoop Try.f118 0) [(0, t0), (1, t1), (5, t5)] m = J_laws_heldInt64S k (q + 1) 2 [t0, t1, t5] m := by kernel_rfl
theorem gl_laws_heldInt64S (k : Nat) : ∀ q i, i < 1 → GoodL CT k Try.f118 LL_laws_heldInt64S (J_laws_heldInt64S k q) (atLoop Try.f118 i)
  | 0, 0, _ => goodL_zero (l := 2) (by kernel_rfl) (fun vs m => by kernel_rfl)
  | 0, _ + 1, h => absurd h (by omega)
  | q + 1, 0, _ => goodL_succ (np := 2) (l := 2) (live := [0, 1, 5]) (n := 1) CT_ok rfl okc_laws_heldInt64S (c := (Try.f118.body.get rfl)) rfl cok_laws_heldInt64S (by kernel_rfl) (gl_laws_heldInt64S k q) (by kernel_rfl) rfl (fun vs m r hl h => match vs, hl with
    | [t0, t1, t5], _ => (le_laws_heldInt64S_0 k q t0 t1 t5 m).trans h)
  | _ + 1, _ + 1, h => absurd h (by omega)
theorem ok_X_laws_heldInt64S : OkX CT 118 X_laws_heldInt64S := OkX.of_ex (cf := cf_laws_heldInt64S) (np := 2) (LL := LL_laws_heldInt64S) (J := (fun k => J_laws_heldInt64S k QQ)) CT_ok rfl Try.func118 rfl (Nat.le_of_ble_eq_true rfl) (by decide) cok_laws_heldInt64S okc_laws_heldInt64S (fun k => allLoops rfl (by kernel_rfl) (gl_laws_heldInt64S k QQ)) (fun args m r h => match args, h with
    | [t0, t1], h => ⟨rfl, (xe_laws_heldInt64S t0 t1 m).trans h⟩)
theorem ok_C_laws_heldInt64S : OkC CT 118 C_laws_heldInt64S := fcall_ok rfl ok_X_laws_heldInt64S

/-! ### laws.heldScreen -/
noncomputable def cf_laws_heldScreen : CallF := cfc 87 C_laws_heldBoolS (cfc 117 C_laws_heldGrid (cfc 118 C_laws_heldInt64S cfn))
noncomputable def X_laws_heldScreen : List Value → Mem → Option VM
  | [t0, t1], m =>
    (boxX m t0) |> bo fun r1 =>
    (fadX 0 r1.1) |> bo fun t5 =>
    (ldS r1.2 4 t5) |> bo fun t6 =>
    (C_laws_heldGrid [t6, t1] r1.2) |> bo fun r4 =>
    (binX .lss .no r4.1 (.int .i64 0)) |> bo fun t10 =>
    brX t10
      (
        retK m.length r4.2 [t0, r4.1] (.int .i64 (-1)))
      (
        (fadX 13 r1.1) |> bo fun t11 =>
        (ld1 r4.2 t11) |> bo fun t12 =>
        (C_laws_heldBoolS [t12, r4.1] r4.2) |> bo fun r8 =>
        (binX .lss .no r8.1 (.int .i64 0)) |> bo fun t16 =>
        brX t16
          (
            retK m.length r8.2 [t0, r8.1] (.int .i64 (-1)))
          (
            (fadX 17 r1.1) |> bo fun t17 =>
            (ld1 r8.2 t17) |> bo fun t18 =>
            (C_laws_heldInt64S [t18, r8.1] r8.2) |> bo fun r12 =>
            (binX .lss .no r12.1 (.int .i64 0)) |> bo fun t22 =>
            brX t22
              (
                retK m.length r12.2 [t0, r12.1] (.int .i64 (-1)))
              (
                retK m.length r12.2 [t0, r12.1] r12.1)))
  | _, _ => none
noncomputable def C_laws_heldScreen : List Value → Mem → Option VM := fcall X_laws_heldScreen
@[simp] theorem c_laws_heldScreen : C_laws_heldScreen = fcall X_laws_heldScreen := (rfl)
theorem cok_laws_heldScreen : codeOk CT Try.f71 (Try.f71.body.get rfl) = true := by kernel_rfl
theorem xe_laws_heldScreen (t0 t1 : Value) (m : Mem) : ex CT cf_laws_heldScreen Try.f71 2 m.length [] (fun _ _ _ => none) 400 [.code (Try.f71.body.get rfl)] (argsT 0 [t0, t1]) m = X_laws_heldScreen [t0, t1] m := by kernel_rfl
theorem okc_laws_heldScreen : CallOK CT cf_laws_heldScreen := cfc_ok ok_C_laws_heldBoolS (cfc_ok ok_C_laws_heldGrid (cfc_ok ok_C_laws_heldInt64S cfn_ok))
theorem ok_X_laws_heldScreen : OkX CT 71 X_laws_heldScreen := OkX.of_ex (cf := cf_laws_heldScreen) (np := 2) (LL := []) (J := (fun _ _ _ _ => none)) CT_ok rfl Try.func71 rfl (Nat.le_of_ble_eq_true rfl) (by decide) cok_laws_heldScreen okc_laws_heldScreen (fun k => noLoops rfl) (fun args m r h => match args, h with
    | [t0, t1], h => ⟨rfl, (xe_laws_heldScreen t0 t1 m).trans h⟩)
theorem ok_C_laws_heldScreen : OkC CT 71 C_laws_heldScreen := fcall_ok rfl ok_X_laws_heldScreen

/-! ### laws.heldScreenResult -/
noncomputable def cf_laws_heldScreenResult : CallF := cfc 71 C_laws_heldScreen cfn
noncomputable def X_laws_heldScreenResult : List Value → Mem → Option VM
  | [t0, t1], m =>
    (boxX m t0) |> bo fun r1 =>
    (fadX 1 r1.1) |> bo fun t5 =>
    (ldS r1.2 20 t5) |> bo fun t6 =>
    (C_laws_heldScreen [t6, t1] r1.2) |> bo fun r4 =>
    (binX .lss .no r4.1 (.int .i64 0)) |> bo fun t10 =>
    brX t10
      (
        retK m.length r4.2 [t0, r4.1] (.int .i64 (-1)))
      (
        retK m.length r4.2 [t0, r4.1] r4.1)
  | _, _ => none
noncomputable def C_laws_heldScreenResult : List Value → Mem → Option VM := fcall X_laws_heldScreenResult
@[simp] theorem c_laws_heldScreenResult : C_laws_heldScreenResult = fcall X_laws_heldScreenResult := (rfl)
theorem cok_laws_heldScreenResult : codeOk CT Try.f25 (Try.f25.body.get rfl) = true := by kernel_rfl
theorem xe_laws_heldScreenResult (t0 t1 : Value) (m : Mem) : ex CT cf_laws_heldScreenResult Try.f25 2 m.length [] (fun _ _ _ => none) 400 [.code (Try.f25.body.get rfl)] (argsT 0 [t0, t1]) m = X_laws_heldScreenResult [t0, t1] m := by kernel_rfl
theorem okc_laws_heldScreenResult : CallOK CT cf_laws_heldScreenResult := cfc_ok ok_C_laws_heldScreen cfn_ok
theorem ok_X_laws_heldScreenResult : OkX CT 25 X_laws_heldScreenResult := OkX.of_ex (cf := cf_laws_heldScreenResult) (np := 2) (LL := []) (J := (fun _ _ _ _ => none)) CT_ok rfl Try.func25 rfl (Nat.le_of_ble_eq_true rfl) (by decide) cok_laws_heldScreenResult okc_laws_heldScreenResult (fun k => noLoops rfl) (fun args m r h => match args, h with
    | [t0, t1], h => ⟨rfl, (xe_laws_heldScreenResult t0 t1 m).trans h⟩)
theorem ok_C_laws_heldScreenResult : OkC CT 25 C_laws_heldScreenResult := fcall_ok rfl ok_X_laws_heldScreenResult

/-! ### laws.FnExactResizeScreen -/
noncomputable def cf_laws_FnExactResizeScreen : CallF := cfc 17 C_laws_szScreen (cfc 18 C_spec_ResizeScreen (cfc 19 C_laws_toScreen (cfc 20 C_impl_ResizeScreen (cfc 21 C_laws_eqScreenResult (cfc 22 C_laws_eqScreen (cfc 23 C_laws_markScreen (cfc 24 C_laws_markScreenResult (cfc 25 C_laws_heldScreenResult cfn))))))))
noncomputable def X_laws_FnExactResizeScreen : List Value → Mem → Option VM
  | [t0, t1, t2], m =>
    (boxX m t0) |> bo fun r1 =>
    (ldS r1.2 20 r1.1) |> bo fun t15 =>
    (C_laws_szScreen [t15, (.int .i64 1048576)] r1.2) |> bo fun r3 =>
    (binX .lss .no r3.1 (.int .i64 0)) |> bo fun t19 =>
    brX t19
      (
        retK m.length r3.2 [t0, t1, t2] (.bool true))
      (
        (ldS r3.2 20 r1.1) |> bo fun t20 =>
        (C_laws_toScreen [t20] r3.2) |> bo fun r6 =>
        (C_spec_ResizeScreen [r6.1, t1, t2] r6.2) |> bo fun r7 =>
        (alX r7.2 [.int .i64 0, .int .i64 0, .int .i64 0, .slice none 0 0, .slice none 0 0, .int .i64 0, .int .i64 0, .bool false, .int .i64 0, .int .i64 0, .int .i64 0, .bool false, .bool false, .bool false, .slice none 0 0, .int .i64 0, .int .i64 0, .int .i64 0, .slice none 0 0, .int .i64 0, .int .i64 0]) |> bo fun r8 =>
        (stX r8.2 21 r8.1 r7.1) |> bo fun m9 =>
        (ldS m9 20 r1.1) |> bo fun t25 =>
        (C_laws_toScreen [t25] m9) |> bo fun r11 =>
        (alX r11.2 [.int .i64 0, .int .i64 0, .slice none 0 0, .slice none 0 0, .int .i64 0, .int .i64 0, .bool false, .int .i64 0, .int .i64 0, .int .i64 0, .bool false, .bool false, .bool false, .slice none 0 0, .int .i64 0, .int .i64 0, .int .i64 0, .slice none 0 0, .int .i64 0, .int .i64 0]) |> bo fun r12 =>
        (stX r12.2 20 r12.1 r11.1) |> bo fun m13 =>
        (ldS m13 20 r12.1) |> bo fun t27 =>
        (C_impl_ResizeScreen [t27, t1, t2] m13) |> bo fun r15 =>
        (alX r15.2 [.int .i64 0, .int .i64 0, .int .i64 0, .slice none 0 0, .slice none 0 0, .int .i64 0, .int .i64 0, .bool false, .int .i64 0, .int .i64 0, .int .i64 0, .bool false, .bool false, .bool false, .slice none 0 0, .int .i64 0, .int .i64 0, .int .i64 0, .slice none 0 0, .int .i64 0, .int .i64 0]) |> bo fun r16 =>
        (stX r16.2 21 r16.1 r15.1) |> bo fun m17 =>
        (ldS m17 21 r16.1) |> bo fun t31 =>
        (ldS m17 21 r8.1) |> bo fun t32 =>
        (C_laws_eqScreenResult [t31, t32] m17) |> bo fun r20 =>
        (uop .not r20.1) |> bo fun t34 =>
        brX t34
          (
            retK m.length r20.2 [t0, t1, t2] (.bool false))
          (
            (ldS r20.2 20 r12.1) |> bo fun t35 =>
            (ldS r20.2 20 r1.1) |> bo fun t36 =>
            (C_laws_toScreen [t36] r20.2) |> bo fun r24 =>
            (C_laws_eqScreen [t35, r24.1] r24.2) |> bo fun r25 =>
            (uop .not r25.1) |> bo fun t39 =>
            gP (stbL [((rdN r12.1), r20.2, r24.2)])
              (
                brX t39
                  (
                    retK m.length r25.2 [t0, t1, t2] (.bool false))
                  (
                    (ldS r25.2 20 r12.1) |> bo fun t40 =>
                    (C_laws_markScreen [t40, (.int .i64 1)] r25.2) |> bo fun r28 =>
                    (binX .lss .no r28.1 (.int .i64 0)) |> bo fun t44 =>
                    (gd t44 false ((ldS r28.2 21 r16.1) |> bo fun v => some (v, r28.2)) r28.2) |> bo fun r30 =>
                    (gd t44 false ((ldS r30.2 21 r8.1) |> bo fun v => some (v, r30.2)) r30.2) |> bo fun r31 =>
                    (gd t44 false ((C_laws_eqScreenResult [r30.1, r31.1] r31.2) |> bo fun r => some (r.1, r.2)) r31.2) |> bo fun r32 =>
                    (gd t44 false ((uop .not r32.1) |> bo fun v => some (v, r32.2)) r32.2) |> bo fun r33 =>
                    (pickX t44 (.bool true) r33.1) |> bo fun t50 =>
                    brX t50
                      (
                        retK m.length r33.2 [t0, t1, t2] (.bool false))
                      (
                        (ldS r33.2 21 r16.1) |> bo fun t51 =>
                        (C_laws_markScreenResult [t51, (.int .i64 1)] r33.2) |> bo fun r36 =>
                        (ldS r36.2 21 r16.1) |> bo fun t54 =>
                        (C_laws_heldScreenResult [t54, (.int .i64 1)] r36.2) |> bo fun r38 =>
                        (binX .lss .no r38.1 (.int .i64 0)) |> bo fun t58 =>
                        brX t58
                          (
                            retK m.length r38.2 [t0, t1, t2] (.bool false))
                          (
                            (binX .neq .no r38.1 r36.1) |> bo fun t61 =>
                            brX t61
                              (
                                retK m.length r38.2 [t0, t1, t2] (.bool false))
                              (
                                (ldS r38.2 20 r1.1) |> bo fun t62 =>
                                (C_laws_toScreen [t62] r38.2) |> bo fun r42 =>
                                (C_impl_ResizeScreen [r42.1, t1, t2] r42.2) |> bo fun r43 =>
                                (alX r43.2 [.int .i64 0, .int .i64 0, .int .i64 0, .slice none 0 0, .slice none 0 0, .int .i64 0, .int .i64 0, .bool false, .int .i64 0, .int .i64 0, .int .i64 0, .bool false, .bool false, .bool false, .slice none 0 0, .int .i64 0, .int .i64 0, .int .i64 0, .slice none 0 0, .int .i64 0, .int .i64 0]) |> bo fun r44 =>
                                (stX r44.2 21 r44.1 r43.1) |> bo fun m45 =>
                                (ldS m45 21 r44.1) |> bo fun t67 =>
                                (ldS m45 21 r8.1) |> bo fun t68 =>
                                (C_laws_eqScreenResult [t67, t68] m45) |> bo fun r48 =>
                                (uop .not r48.1) |> bo fun t70 =>
                                brX t70
                                  (
                                    retK m.length r48.2 [t0, t1, t2] (.bool false))
                                  (
                                    (ldS r48.2 21 r16.1) |> bo fun t71 =>
                                    (C_laws_heldScreenResult [t71, (.int .i64 1)] r48.2) |> bo fun r51 =>
                                    (binX .lss .no r51.1 (.int .i64 0)) |> bo fun t75 =>
                                    brX t75
                                      (
                                        retK m.length r51.2 [t0, t1, t2] (.bool false))
                                      (
                                        (binX .neq .no r51.1 r36.1) |> bo fun t78 =>
                                        brX t78
                                          (
                                            retK m.length r51.2 [t0, t1, t2] (.bool false))
                                          (
                                            retK m.length r51.2 [t0, t1, t2] (.bool true)))))))))))
  | _, _ => none
noncomputable def C_laws_FnExactResizeScreen : List Value → Mem → Option VM := fcall X_laws_FnExactResizeScreen
@[simp] theorem c_laws_FnExactResizeScreen : C_laws_FnExactResizeScreen = fcall X_laws_FnExactResizeScreen := (rfl)
theorem cok_laws_FnExactResizeScreen : codeOk CT Try.f5 (Try.f5.body.get rfl) = true := by kernel_rfl
theorem xe_laws_FnExactResizeScreen (t0 t1 t2 : Value) (m : Mem) : ex CT cf_laws_FnExactResizeScreen Try.f5 3 m.length [] (fun _ _ _ => none) 400 [.code (Try.f5.body.get rfl)] (argsT 0 [t0, t1, t2]) m = X_laws_FnExactResizeScreen [t0, t1, t2] m := by kernel_rfl
theorem okc_laws_FnExactResizeScreen : CallOK CT cf_laws_FnExactResizeScreen := cfc_ok ok_C_laws_szScreen (cfc_ok ok_C_spec_ResizeScreen (cfc_ok ok_C_laws_toScreen (cfc_ok ok_C_impl_ResizeScreen (cfc_ok ok_C_laws_eqScreenResult (cfc_ok ok_C_laws_eqScreen (cfc_ok ok_C_laws_markScreen (cfc_ok ok_C_laws_markScreenResult (cfc_ok ok_C_laws_heldScreenResult cfn_ok))))))))
theorem ok_X_laws_FnExactResizeScreen : OkX CT 5 X_laws_FnExactResizeScreen := OkX.of_ex (cf := cf_laws_FnExactResizeScreen) (np := 3) (LL := []) (J := (fun _ _ _ _ => none)) CT_ok rfl Try.func5 rfl (Nat.le_of_ble_eq_true rfl) (by decide) cok_laws_FnExactResizeScreen okc_laws_FnExactResizeScreen (fun k => noLoops rfl) (fun args m r h => match args, h with
    | [t0, t1, t2], h => ⟨rfl, (xe_laws_FnExactResizeScreen t0 t1 t2 m).trans h⟩)
theorem ok_C_laws_FnExactResizeScreen : OkC CT 5 C_laws_FnExactResizeScreen := fcall_ok rfl ok_X_laws_FnExactResizeScreen

end Go.Ab
