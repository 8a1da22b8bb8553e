/- Plain forms of functions, printed by gen.py. -/
import Derived.Test.YtnmjgjedkdmefaaCf4
import Derived.Test.YtnmjgjedkdmefaaFC
set_option linter.unusedVariables false
set_option linter.unusedSimpArgs false
namespace Go.Ab
open Go.Proofs
set_option maxRecDepth 100000
set_option linter.unusedVariables false
/-! ### laws.szByteS -/
noncomputable def cf_laws_szByteS : CallF := cfn
noncomputable def X_laws_szByteS : List Value → Mem → Option VM
  | [t0, t1], m =>
    (lenX t0) |> bo fun t7 =>
    (binX .sub .no t1 t7) |> bo fun t8 =>
    (binX .lss .no t8 (.int .i64 0)) |> bo fun t10 =>
    brX t10
      (
        retK m.length m [t0, t8] (.int .i64 (-1)))
      (
        retK m.length m [t0, t8] t8)
  | _, _ => none
noncomputable def C_laws_szByteS : List Value → Mem → Option VM := fcall X_laws_szByteS
@[simp] theorem c_laws_szByteS : C_laws_szByteS = fcall X_laws_szByteS := (rfl)
theorem cok_laws_szByteS : codeOk CT Try.f48 (Try.f48.body.get rfl) = true := by kernel_rfl
theorem xe_laws_szByteS (t0 t1 : Value) (m : Mem) : ex CT cf_laws_szByteS Try.f48 2 m.length [] (fun _ _ _ => none) 400 [.code (Try.f48.body.get rfl)] (argsT 0 [t0, t1]) m = X_laws_szByteS [t0, t1] m := by kernel_rfl
theorem okc_laws_szByteS : CallOK CT cf_laws_szByteS := cfn_ok
theorem ok_X_laws_szByteS : OkX CT 48 X_laws_szByteS := OkX.of_ex (cf := cf_laws_szByteS) (np := 2) (LL := []) (J := (fun _ _ _ _ => none)) CT_ok rfl Try.func48 rfl (Nat.le_of_ble_eq_true rfl) (by decide) cok_laws_szByteS okc_laws_szByteS (fun k => noLoops rfl) (fun args m r h => match args, h with
    | [t0, t1], h => ⟨rfl, (xe_laws_szByteS t0 t1 m).trans h⟩)
theorem ok_C_laws_szByteS : OkC CT 48 C_laws_szByteS := fcall_ok rfl ok_X_laws_szByteS

/-! ### laws.szByteSS -/
noncomputable def cf_laws_szByteSS : CallF := cfc 48 C_laws_szByteS cfn
noncomputable def L_laws_szByteSS (k : Nat) : Nat → Nat → List Value → Mem → Option VM
  | q + 1, 0, [t0, t1, t5], m =>
    (lenX t0) |> bo fun t14 =>
    (binX .lss .no t5 t14) |> bo fun t15 =>
    brX t15
      (
        (ixaX 1 t0 t5) |> bo fun t20 =>
        (ld1 m t20) |> bo fun t21 =>
        (C_laws_szByteS [t21, t1] m) |> bo fun r5 =>
        (binX .lss .no r5.1 (.int .i64 0)) |> bo fun t25 =>
        brX t25
          (
            retK k r5.2 [t0, r5.1] (.int .i64 (-1)))
          (
            (binX .add .no t5 (.int .i64 1)) |> bo fun t17 =>
            cutK k r5.2 [t0, r5.1] [t0, r5.1, t17] (L_laws_szByteSS k q 0)))
      (
        retK k m [t0, t1] t1)
  | _, _, _, _ => none
noncomputable def J_laws_szByteSS (k q l : Nat) : List Value → Mem → Option VM := cond (Nat.beq l 5) (L_laws_szByteSS k q 0) (fun _ _ => none)
def LL_laws_szByteSS : List (Nat × List Tmp) := [(5, [0, 1, 5])]
noncomputable def X_laws_szByteSS : List Value → Mem → Option VM
  | [t0, t1], m =>
    (lenX t0) |> bo fun t8 =>
    (binX .sub .no t1 t8) |> bo fun t9 =>
    (binX .lss .no t9 (.int .i64 0)) |> bo fun t11 =>
    brX t11
      (
        retK m.length m [t0, t9] (.int .i64 (-1)))
      (
        cutK m.length m [t0, t9] [t0, t9, (.int .i64 0)] (L_laws_szByteSS m.length QQ 0))
  | _, _ => none
noncomputable def C_laws_szByteSS : List Value → Mem → Option VM := fcall X_laws_szByteSS
@[simp] theorem c_laws_szByteSS : C_laws_szByteSS = fcall X_laws_szByteSS := (rfl)
theorem cok_laws_szByteSS : codeOk CT Try.f47 (Try.f47.body.get rfl) = true := by kernel_rfl
theorem xe_laws_szByteSS (t0 t1 : Value) (m : Mem) : ex CT cf_laws_szByteSS Try.f47 2 m.length LL_laws_szByteSS (J_laws_szByteSS m.length QQ) 400 [.code (Try.f47.body.get rfl)] (argsT 0 [t0, t1]) m = X_laws_szByteSS [t0, t1] m := by kernel_rfl
theorem okc_laws_szByteSS : CallOK CT cf_laws_szByteSS := cfc_ok ok_C_laws_szByteS cfn_ok
theorem le_laws_szByteSS_0 (k q : Nat) (t0 t1 t5 : Value) (m : Mem) : ex CT cf_laws_szByteSS Try.f47 2 k LL_laws_szByteSS (J_laws_szByteSS k q) 400 (atLoop Try.f47 0) [(0, t0), (1, t1), (5, t5)] m = J_laws_szByteSS k (q + 1) 5 [t0, t1, t5] m := by kernel_rfl
theorem gl_laws_szByteSS (k : Nat) : ∀ q i, i < 1 → GoodL CT k Try.f47 LL_laws_szByteSS (J_laws_szByteSS k q) (atLoop Try.f47 i)
  | 0, 0, _ => goodL_zero (l := 5) (by kernel_rfl) (fun vs m => by kernel_rfl)
  | 0, _ + 1, h => absurd h (by omega)
  | q + 1, 0, _ => goodL_succ (np := 2) (l := 5) (live := [0, 1, 5]) (n := 1) CT_ok rfl okc_laws_szByteSS (c := (Try.f47.body.get rfl)) rfl cok_laws_szByteSS (by kernel_rfl) (gl_laws_szByteSS k q) (by kernel_rfl) rfl (fun vs m r hl h => match vs, hl with
    | [t0, t1, t5], _ => (le_laws_szByteSS_0 k q t0 t1 t5 m).trans h)
  | _ + 1, _ + 1, h => absurd h (by omega)
theorem ok_X_laws_szByteSS : OkX CT 47 X_laws_szByteSS := OkX.of_ex (cf := cf_laws_szByteSS) (np := 2) (LL := LL_laws_szByteSS) (J := (fun k => J_laws_szByteSS k QQ)) CT_ok rfl Try.func47 rfl (Nat.le_of_ble_eq_true rfl) (by decide) cok_laws_szByteSS okc_laws_szByteSS (fun k => allLoops rfl (by kernel_rfl) (gl_laws_szByteSS k QQ)) (fun args m r h => match args, h with
    | [t0, t1], h => ⟨rfl, (xe_laws_szByteSS t0 t1 m).trans h⟩)
theorem ok_C_laws_szByteSS : OkC CT 47 C_laws_szByteSS := fcall_ok rfl ok_X_laws_szByteSS

/-! ### laws.szLine -/
noncomputable def cf_laws_szLine : CallF := cfc 47 C_laws_szByteSS (cfc 48 C_laws_szByteS cfn)
noncomputable def X_laws_szLine : List Value → Mem → Option VM
  | [t0, t1], m =>
    (boxX m t0) |> bo fun r1 =>
    (fadX 0 r1.1) |> bo fun t5 =>
    (ld1 r1.2 t5) |> bo fun t6 =>
    (C_laws_szByteSS [t6, t1] r1.2) |> bo fun r4 =>
    (binX .lss .no r4.1 (.int .i64 0)) |> bo fun t10 =>
    brX t10
      (
        retK m.length r4.2 [t0, r4.1] (.int .i64 (-1)))
      (
        (fadX 1 r1.1) |> bo fun t11 =>
        (ld1 r4.2 t11) |> bo fun t12 =>
        (C_laws_szByteS [t12, r4.1] r4.2) |> bo fun r8 =>
        (binX .lss .no r8.1 (.int .i64 0)) |> bo fun t16 =>
        brX t16
          (
            retK m.length r8.2 [t0, r8.1] (.int .i64 (-1)))
          (
            retK m.length r8.2 [t0, r8.1] r8.1))
  | _, _ => none
noncomputable def C_laws_szLine : List Value → Mem → Option VM := fcall X_laws_szLine
@[simp] theorem c_laws_szLine : C_laws_szLine = fcall X_laws_szLine := (rfl)
theorem cok_laws_szLine : codeOk CT Try.f9 (Try.f9.body.get rfl) = true := by kernel_rfl
theorem xe_laws_szLine (t0 t1 : Value) (m : Mem) : ex CT cf_laws_szLine Try.f9 2 m.length [] (fun _ _ _ => none) 400 [.code (Try.f9.body.get rfl)] (argsT 0 [t0, t1]) m = X_laws_szLine [t0, t1] m := by kernel_rfl
theorem okc_laws_szLine : CallOK CT cf_laws_szLine := cfc_ok ok_C_laws_szByteSS (cfc_ok ok_C_laws_szByteS cfn_ok)
theorem ok_X_laws_szLine : OkX CT 9 X_laws_szLine := OkX.of_ex (cf := cf_laws_szLine) (np := 2) (LL := []) (J := (fun _ _ _ _ => none)) CT_ok rfl Try.func9 rfl (Nat.le_of_ble_eq_true rfl) (by decide) cok_laws_szLine okc_laws_szLine (fun k => noLoops rfl) (fun args m r h => match args, h with
    | [t0, t1], h => ⟨rfl, (xe_laws_szLine t0 t1 m).trans h⟩)
theorem ok_C_laws_szLine : OkC CT 9 C_laws_szLine := fcall_ok rfl ok_X_laws_szLine

/-! ### laws.szInt64S -/
noncomputable def cf_laws_szInt64S : CallF := cfn
noncomputable def X_laws_szInt64S : List Value → Mem → Option VM
  | [t0, t1], m =>
    (lenX t0) |> bo fun t7 =>
    (binX .sub .no t1 t7) |> bo fun t8 =>
    (binX .lss .no t8 (.int .i64 0)) |> bo fun t10 =>
    brX t10
      (
        retK m.length m [t0, t8] (.int .i64 (-1)))
      (
        retK m.length m [t0, t8] t8)
  | _, _ => none
noncomputable def C_laws_szInt64S : List Value → Mem → Option VM := fcall X_laws_szInt64S
@[simp] theorem c_laws_szInt64S : C_laws_szInt64S = fcall X_laws_szInt64S := (rfl)
theorem cok_laws_szInt64S : codeOk CT Try.f110 (Try.f110.body.get rfl) = true := by kernel_rfl
theorem xe_laws_szInt64S (t0 t1 : Value) (m : Mem) : ex CT cf_laws_szInt64S Try.f110 2 m.length [] (fun _ _ _ => none) 400 [.code (Try.f110.body.get rfl)] (argsT 0 [t0, t1]) m = X_laws_szInt64S [t0, t1] m := by kernel_rfl
theorem okc_laws_szInt64S : CallOK CT cf_laws_szInt64S := cfn_ok
theorem ok_X_laws_szInt64S : OkX CT 110 X_laws_szInt64S := OkX.of_ex (cf := cf_laws_szInt64S) (np := 2) (LL := []) (J := (fun _ _ _ _ => none)) CT_ok rfl Try.func110 rfl (Nat.le_of_ble_eq_true rfl) (by decide) cok_laws_szInt64S okc_laws_szInt64S (fun k => noLoops rfl) (fun args m r h => match args, h with
    | [t0, t1], h => ⟨rfl, (xe_laws_szInt64S t0 t1 m).trans h⟩)
theorem ok_C_laws_szInt64S : OkC CT 110 C_laws_szInt64S := fcall_ok rfl ok_X_laws_szInt64S

/-! ### laws.szParser -/
noncomputable def cf_laws_szParser : CallF := cfc 110 C_laws_szInt64S cfn
noncomputable def X_laws_szParser : List Value → Mem → Option VM
  | [t0, t1], m =>
    (boxX m t0) |> bo fun r1 =>
    (fadX 3 r1.1) |> bo fun t5 =>
    (ld1 r1.2 t5) |> bo fun t6 =>
    (C_laws_szInt64S [t6, t1] r1.2) |> bo fun r4 =>
    (binX .lss .no r4.1 (.int .i64 0)) |> bo fun t10 =>
    brX t10
      (
        retK m.length r4.2 [t0, r4.1] (.int .i64 (-1)))
      (
        retK m.length r4.2 [t0, r4.1] r4.1)
  | _, _ => none
noncomputable def C_laws_szParser : List Value → Mem → Option VM := fcall X_laws_szParser
@[simp] theorem c_laws_szParser : C_laws_szParser = fcall X_laws_szParser := (rfl)
theorem cok_laws_szParser : codeOk CT Try.f70 (Try.f70.body.get rfl) = true := by kernel_rfl
theorem xe_laws_szParser (t0 t1 : Value) (m : Mem) : ex CT cf_laws_szParser Try.f70 2 m.length [] (fun _ _ _ => none) 400 [.code (Try.f70.body.get rfl)] (argsT 0 [t0, t1]) m = X_laws_szParser [t0, t1] m := by kernel_rfl
theorem okc_laws_szParser : CallOK CT cf_laws_szParser := cfc_ok ok_C_laws_szInt64S cfn_ok
theorem ok_X_laws_szParser : OkX CT 70 X_laws_szParser := OkX.of_ex (cf := cf_laws_szParser) (np := 2) (LL := []) (J := (fun _ _ _ _ => none)) CT_ok rfl Try.func70 rfl (Nat.le_of_ble_eq_true rfl) (by decide) cok_laws_szParser okc_laws_szParser (fun k => noLoops rfl) (fun args m r h => match args, h with
    | [t0, t1], h => ⟨rfl, (xe_laws_szParser t0 t1 m).trans h⟩)
theorem ok_C_laws_szParser : OkC CT 70 C_laws_szParser := fcall_ok rfl ok_X_laws_szParser

/-! ### laws.szCellS -/
noncomputable def cf_laws_szCellS : CallF := cfn
noncomputable def X_laws_szCellS : List Value → Mem → Option VM
  | [t0, t1], m =>
    (lenX t0) |> bo fun t7 =>
    (binX .sub .no t1 t7) |> bo fun t8 =>
    (binX .lss .no t8 (.int .i64 0)) |> bo fun t10 =>
    brX t10
      (
        retK m.length m [t0, t8] (.int .i64 (-1)))
      (
        retK m.length m [t0, t8] t8)
  | _, _ => none
noncomputable def C_laws_szCellS : List Value → Mem → Option VM := fcall X_laws_szCellS
@[simp] theorem c_laws_szCellS : C_laws_szCellS = fcall X_laws_szCellS := (rfl)
theorem cok_laws_szCellS : codeOk CT Try.f153 (Try.f153.body.get rfl) = true := by kernel_rfl
theorem xe_laws_szCellS (t0 t1 : Value) (m : Mem) : ex CT cf_laws_szCellS Try.f153 2 m.length [] (fun _ _ _ => none) 400 [.code (Try.f153.body.get rfl)] (argsT 0 [t0, t1]) m = X_laws_szCellS [t0, t1] m := by kernel_rfl
theorem okc_laws_szCellS : CallOK CT cf_laws_szCellS := cfn_ok
theorem ok_X_laws_szCellS : OkX CT 153 X_laws_szCellS := OkX.of_ex (cf := cf_laws_szCellS) (np := 2) (LL := []) (J := (fun _ _ _ _ => none)) CT_ok rfl Try.func153 rfl (Nat.le_of_ble_eq_true rfl) (by decide) cok_laws_szCellS okc_laws_szCellS (fun k => noLoops rfl) (fun args m r h => match args, h with
    | [t0, t1], h => ⟨rfl, (xe_laws_szCellS t0 t1 m).trans h⟩)
theorem ok_C_laws_szCellS : OkC CT 153 C_laws_szCellS := fcall_ok rfl ok_X_laws_szCellS

/-! ### laws.szGrid -/
noncomputable def cf_laws_szGrid : CallF := cfc 153 C_laws_szCellS cfn
noncomputable def X_laws_szGrid : List Value → Mem → Option VM
  | [t0, t1], m =>
    (boxX m t0) |> bo fun r1 =>
    (fadX 2 r1.1) |> bo fun t5 =>
    (ld1 r1.2 t5) |> bo fun t6 =>
    (C_laws_szCellS [t6, t1] r1.2) |> bo fun r4 =>
    (binX .lss .no r4.1 (.int .i64 0)) |> bo fun t10 =>
    brX t10
      (
        retK m.length r4.2 [t0, r4.1] (.int .i64 (-1)))
      (
        (fadX 3 r1.1) |> bo fun t11 =>
        (ld1 r4.2 t11) |> bo fun t12 =>
        (C_laws_szCellS [t12, r4.1] r4.2) |> bo fun r8 =>
        (binX .lss .no r8.1 (.int .i64 0)) |> bo fun t16 =>
        brX t16
          (
            retK m.length r8.2 [t0, r8.1] (.int .i64 (-1)))
          (
            retK m.length r8.2 [t0, r8.1] r8.1))
  | _, _ => none
noncomputable def C_laws_szGrid : List Value → Mem → Option VM := fcall X_laws_szGrid
@[simp] theorem c_laws_szGrid : C_laws_szGrid = fcall X_laws_szGrid := (rfl)
theorem cok_laws_szGrid : codeOk CT Try.f111 (Try.f111.body.get rfl) = true := by kernel_rfl
theorem xe_laws_szGrid (t0 t1 : Value) (m : Mem) : ex CT cf_laws_szGrid Try.f111 2 m.length [] (fun _ _ _ => none) 400 [.code (Try.f111.body.get rfl)] (argsT 0 [t0, t1]) m = X_laws_szGrid [t0, t1] m := by kernel_rfl
theorem okc_laws_szGrid : CallOK CT cf_laws_szGrid := cfc_ok ok_C_laws_szCellS cfn_ok
theorem ok_X_laws_szGrid : OkX CT 111 X_laws_szGrid := OkX.of_ex (cf := cf_laws_szGrid) (np := 2) (LL := []) (J := (fun _ _ _ _ => none)) CT_ok rfl Try.func111 rfl (Nat.le_of_ble_eq_true rfl) (by decide) cok_laws_szGrid okc_laws_szGrid (fun k => noLoops rfl) (fun args m r h => match args, h with
    | [t0, t1], h => ⟨rfl, (xe_laws_szGrid t0 t1 m).trans h⟩)
theorem ok_C_laws_szGrid : OkC CT 111 C_laws_szGrid := fcall_ok rfl ok_X_laws_szGrid

/-! ### laws.szBoolS -/
noncomputable def cf_laws_szBoolS : CallF := cfn
noncomputable def X_laws_szBoolS : List Value → Mem → Option VM
  | [t0, t1], m =>
    (lenX t0) |> bo fun t7 =>
    (binX .sub .no t1 t7) |> bo fun t8 =>
    (binX .lss .no t8 (.int .i64 0)) |> bo fun t10 =>
    brX t10
      (
        retK m.length m [t0, t8] (.int .i64 (-1)))
      (
        retK m.length m [t0, t8] t8)
  | _, _ => none
noncomputable def C_laws_szBoolS : List Value → Mem → Option VM := fcall X_laws_szBoolS
@[simp] theorem c_laws_szBoolS : C_laws_szBoolS = fcall X_laws_szBoolS := (rfl)
theorem cok_laws_szBoolS : codeOk CT Try.f112 (Try.f112.body.get rfl) = true := by kernel_rfl
theorem xe_laws_szBoolS (t0 t1 : Value) (m : Mem) : ex CT cf_laws_szBoolS Try.f112 2 m.length [] (fun _ _ _ => none) 400 [.code (Try.f112.body.get rfl)] (argsT 0 [t0, t1]) m = X_laws_szBoolS [t0, t1] m := by kernel_rfl
theorem okc_laws_szBoolS : CallOK CT cf_laws_szBoolS := cfn_ok
theorem ok_X_laws_szBoolS : OkX CT 112 X_laws_szBoolS := OkX.of_ex (cf := cf_laws_szBoolS) (np := 2) (LL := []) (J := (fun _ _ _ _ => none)) CT_ok rfl Try.func112 rfl (Nat.le_of_ble_eq_true rfl) (by decide) cok_laws_szBoolS okc_laws_szBoolS (fun k => noLoops rfl) (fun args m r h => match args, h with
    | [t0, t1], h => ⟨rfl, (xe_laws_szBoolS t0 t1 m).trans h⟩)
theorem ok_C_laws_szBoolS : OkC CT 112 C_laws_szBoolS := fcall_ok rfl ok_X_laws_szBoolS

/-! ### laws.szScreen -/
noncomputable def cf_laws_szScreen : CallF := cfc 110 C_laws_szInt64S (cfc 111 C_laws_szGrid (cfc 112 C_laws_szBoolS cfn))
noncomputable def X_laws_szScreen : List Value → Mem → Option VM
  | [t0, t1], m =>
    (boxX m t0) |> bo fun r1 =>
    (fadX 0 r1.1) |> bo fun t5 =>
    (ldS r1.2 4 t5) |> bo fun t6 =>
    (C_laws_szGrid [t6, t1] r1.2) |> bo fun r4 =>
    (binX .lss .no r4.1 (.int .i64 0)) |> bo fun t10 =>
    brX t10
      (
        retK m.length r4.2 [t0, r4.1] (.int .i64 (-1)))
      (
        (fadX 13 r1.1) |> bo fun t11 =>
        (ld1 r4.2 t11) |> bo fun t12 =>
        (C_laws_szBoolS [t12, r4.1] r4.2) |> bo fun r8 =>
        (binX .lss .no r8.1 (.int .i64 0)) |> bo fun t16 =>
        brX t16
          (
            retK m.length r8.2 [t0, r8.1] (.int .i64 (-1)))
          (
            (fadX 17 r1.1) |> bo fun t17 =>
            (ld1 r8.2 t17) |> bo fun t18 =>
            (C_laws_szInt64S [t18, r8.1] r8.2) |> bo fun r12 =>
            (binX .lss .no r12.1 (.int .i64 0)) |> bo fun t22 =>
            brX t22
              (
                retK m.length r12.2 [t0, r12.1] (.int .i64 (-1)))
              (
                retK m.length r12.2 [t0, r12.1] r12.1)))
  | _, _ => none
noncomputable def C_laws_szScreen : List Value → Mem → Option VM := fcall X_laws_szScreen
@[simp] theorem c_laws_szScreen : C_laws_szScreen = fcall X_laws_szScreen := (rfl)
theorem cok_laws_szScreen : codeOk CT Try.f71 (Try.f71.body.get rfl) = true := by kernel_rfl
theorem xe_laws_szScreen (t0 t1 : Value) (m : Mem) : ex CT cf_laws_szScreen Try.f71 2 m.length [] (fun _ _ _ => none) 400 [.code (Try.f71.body.get rfl)] (argsT 0 [t0, t1]) m = X_laws_szScreen [t0, t1] m := by kernel_rfl
theorem okc_laws_szScreen : CallOK CT cf_laws_szScreen := cfc_ok ok_C_laws_szInt64S (cfc_ok ok_C_laws_szGrid (cfc_ok ok_C_laws_szBoolS cfn_ok))
theorem ok_X_laws_szScreen : OkX CT 71 X_laws_szScreen := OkX.of_ex (cf := cf_laws_szScreen) (np := 2) (LL := []) (J := (fun _ _ _ _ => none)) CT_ok rfl Try.func71 rfl (Nat.le_of_ble_eq_true rfl) (by decide) cok_laws_szScreen okc_laws_szScreen (fun k => noLoops rfl) (fun args m r h => match args, h with
    | [t0, t1], h => ⟨rfl, (xe_laws_szScreen t0 t1 m).trans h⟩)
theorem ok_C_laws_szScreen : OkC CT 71 C_laws_szScreen := fcall_ok rfl ok_X_laws_szScreen

/-! ### laws.szVt -/
noncomputable def cf_laws_szVt : CallF := cfc 70 C_laws_szParser (cfc 71 C_laws_szScreen cfn)
noncomputable def X_laws_szVt : List Value → Mem → Option VM
  | [t0, t1], m =>
    (boxX m t0) |> bo fun r1 =>
    (fadX 3 r1.1) |> bo fun t5 =>
    (ldS r1.2 4 t5) |> bo fun t6 =>
    (C_laws_szParser [t6, t1] r1.2) |> bo fun r4 =>
    (binX .lss .no r4.1 (.int .i64 0)) |> bo fun t10 =>
    brX t10
      (
        retK m.length r4.2 [t0, r4.1] (.int .i64 (-1)))
      (
        (fadX 7 r1.1) |> bo fun t11 =>
        (ldS r4.2 20 t11) |> bo fun t12 =>
        (C_laws_szScreen [t12, r4.1] r4.2) |> bo fun r8 =>
        (binX .lss .no r8.1 (.int .i64 0)) |> bo fun t16 =>
        brX t16
          (
            retK m.length r8.2 [t0, r8.1] (.int .i64 (-1)))
          (
            retK m.length r8.2 [t0, r8.1] r8.1))
  | _, _ => none
noncomputable def C_laws_szVt : List Value → Mem → Option VM := fcall X_laws_szVt
@[simp] theorem c_laws_szVt : C_laws_szVt = fcall X_laws_szVt := (rfl)
theorem cok_laws_szVt : codeOk CT Try.f32 (Try.f32.body.get rfl) = true := by kernel_rfl
theorem xe_laws_szVt (t0 t1 : Value) (m : Mem) : ex CT cf_laws_szVt Try.f32 2 m.length [] (fun _ _ _ => none) 400 [.code (Try.f32.body.get rfl)] (argsT 0 [t0, t1]) m = X_laws_szVt [t0, t1] m := by kernel_rfl
theorem okc_laws_szVt : CallOK CT cf_laws_szVt := cfc_ok ok_C_laws_szParser (cfc_ok ok_C_laws_szScreen cfn_ok)
theorem ok_X_laws_szVt : OkX CT 32 X_laws_szVt := OkX.of_ex (cf := cf_laws_szVt) (np := 2) (LL := []) (J := (fun _ _ _ _ => none)) CT_ok rfl Try.func32 rfl (Nat.le_of_ble_eq_true rfl) (by decide) cok_laws_szVt okc_laws_szVt (fun k => noLoops rfl) (fun args m r h => match args, h with
    | [t0, t1], h => ⟨rfl, (xe_laws_szVt t0 t1 m).trans h⟩)
theorem ok_C_laws_szVt : OkC CT 32 C_laws_szVt := fcall_ok rfl ok_X_laws_szVt

/-! ### laws.szConsole -/
noncomputable def cf_laws_szConsole : CallF := cfc 9 C_laws_szLine (cfc 32 C_laws_szVt cfn)
noncomputable def X_laws_szConsole : List Value → Mem → Option VM
  | [t0, t1], m =>
    (boxX m t0) |> bo fun r1 =>
    (fadX 0 r1.1) |> bo fun t5 =>
    (ldS r1.2 27 t5) |> bo fun t6 =>
    (C_laws_szVt [t6, t1] r1.2) |> bo fun r4 =>
    (binX .lss .no r4.1 (.int .i64 0)) |> bo fun t10 =>
    brX t10
      (
        retK m.length r4.2 [t0, r4.1] (.int .i64 (-1)))
      (
        (fadX 34 r1.1) |> bo fun t11 =>
        (ldS r4.2 4 t11) |> bo fun t12 =>
        (C_laws_szLine [t12, r4.1] r4.2) |> bo fun r8 =>
        (binX .lss .no r8.1 (.int .i64 0)) |> bo fun t16 =>
        brX t16
          (
            retK m.length r8.2 [t0, r8.1] (.int .i64 (-1)))
          (
            retK m.length r8.2 [t0, r8.1] r8.1))
  | _, _ => none
noncomputable def C_laws_szConsole : List Value → Mem → Option VM := fcall X_laws_szConsole
@[simp] theorem c_laws_szConsole : C_laws_szConsole = fcall X_laws_szConsole := (rfl)
theorem cok_laws_szConsole : codeOk CT Try.f42 (Try.f42.body.get rfl) = true := by kernel_rfl
theorem xe_laws_szConsole (t0 t1 : Value) (m : Mem) : ex CT cf_laws_szConsole Try.f42 2 m.length [] (fun _ _ _ => none) 400 [.code (Try.f42.body.get rfl)] (argsT 0 [t0, t1]) m = X_laws_szConsole [t0, t1] m := by kernel_rfl
theorem okc_laws_szConsole : CallOK CT cf_laws_szConsole := cfc_ok ok_C_laws_szLine (cfc_ok ok_C_laws_szVt cfn_ok)
theorem ok_X_laws_szConsole : OkX CT 42 X_laws_szConsole := OkX.of_ex (cf := cf_laws_szConsole) (np := 2) (LL := []) (J := (fun _ _ _ _ => none)) CT_ok rfl Try.func42 rfl (Nat.le_of_ble_eq_true rfl) (by decide) cok_laws_szConsole okc_laws_szConsole (fun k => noLoops rfl) (fun args m r h => match args, h with
    | [t0, t1], h => ⟨rfl, (xe_laws_szConsole t0 t1 m).trans h⟩)
theorem ok_C_laws_szConsole : OkC CT 42 C_laws_szConsole := fcall_ok rfl ok_X_laws_szConsole

/-! ### spec.l4Ints -/
noncomputable def cf_spec_l4Ints : CallF := cfn
noncomputable def L_spec_l4Ints (k : Nat) : Nat → Nat → List Value → Mem → Option VM
  | q + 1, 0, [t0, t1, t5], m =>
    (lenX t0) |> bo fun t13 =>
    (binX .lss .no t5 t13) |> bo fun t14 =>
    brX t14
      (
        (ixaX 1 t0 t5) |> bo fun t19 =>
        (ld1 m t19) |> bo fun t20 =>
        (ixaX 1 t1 t5) |> bo fun t23 =>
        (ld1 m t23) |> bo fun t24 =>
        (binX .neq .no t20 t24) |> bo fun t25 =>
        brX t25
          (
            retK k m [t0, t1] (.bool false))
          (
            (binX .add .no t5 (.int .i64 1)) |> bo fun t16 =>
            cutK k m [t0, t1] [t0, t1, t16] (L_spec_l4Ints k q 0)))
      (
        retK k m [t0, t1] (.bool true))
  | _, _, _, _ => none
noncomputable def J_spec_l4Ints (k q l : Nat) : List Value → Mem → Option VM := cond (Nat.beq l 4) (L_spec_l4Ints k q 0) (fun _ _ => none)
def LL_spec_l4Ints : List (Nat × List Tmp) := [(4, [0, 1, 5])]
noncomputable def X_spec_l4Ints : List Value → Mem → Option VM
  | [t0, t1], m =>
    (lenX t0) |> bo fun t7 =>
    (lenX t1) |> bo fun t9 =>
    (binX .neq .no t7 t9) |> bo fun t10 =>
    brX t10
      (
        retK m.length m [t0, t1] (.bool false))
      (
        cutK m.length m [t0, t1] [t0, t1, (.int .i64 0)] (L_spec_l4Ints m.length QQ 0))
  | _, _ => none
noncomputable def C_spec_l4Ints : List Value → Mem → Option VM := fcall X_spec_l4Ints
@[simp] theorem c_spec_l4Ints : C_spec_l4Ints = fcall X_spec_l4Ints := (rfl)
theorem cok_spec_l4Ints : codeOk CT Try.f213 (Try.f213.body.get rfl) = true := by kernel_rfl
theorem xe_spec_l4Ints (t0 t1 : Value) (m : Mem) : ex CT cf_spec_l4Ints Try.f213 2 m.length LL_spec_l4Ints (J_spec_l4Ints m.length QQ) 400 [.code (Try.f213.body.get rfl)] (argsT 0 [t0, t1]) m = X_spec_l4Ints [t0, t1] m := by kernel_rfl
theorem okc_spec_l4Ints : CallOK CT cf_spec_l4Ints := cfn_ok
theorem le_spec_l4Ints_0 (k q : Nat) (t0 t1 t5 : Value) (m : Mem) : ex CT cf_spec_l4Ints Try.f213 2 k LL_spec_l4Ints (J_spec_l4Ints k q) 400 (atLoop Try.f213 0) [(0, t0), (1, t1), (5, t5)] m = J_spec_l4Ints k (q + 1) 4 [t0, t1, t5] m := by kernel_rfl
theorem gl_spec_l4Ints (k : Nat) : ∀ q i, i < 1 → GoodL CT k Try.f213 LL_spec_l4Ints (J_spec_l4Ints k q) (atLoop Try.f213 i)
  | 0, 0, _ => goodL_zero (l := 4) (by kernel_rfl) (fun vs m => by kernel_rfl)
  | 0, _ + 1, h => absurd h (by omega)
  | q + 1, 0, _ => goodL_succ (np := 2) (l := 4) (live := [0, 1, 5]) (n := 1) CT_ok rfl okc_spec_l4Ints (c := (Try.f213.body.get rfl)) rfl cok_spec_l4Ints (by kernel_rfl) (gl_spec_l4Ints k q) (by kernel_rfl) rfl (fun vs m r hl h => match vs, hl with
    | [t0, t1, t5], _ => (le_spec_l4Ints_0 k q t0 t1 t5 m).trans h)
  | _ + 1, _ + 1, h => absurd h (by omega)
theorem ok_X_spec_l4Ints : OkX CT 213 X_spec_l4Ints := OkX.of_ex (cf := cf_spec_l4Ints) (np := 2) (LL := LL_spec_l4Ints) (J := (fun k => J_spec_l4Ints k QQ)) CT_ok rfl Try.func213 rfl (Nat.le_of_ble_eq_true rfl) (by decide) cok_spec_l4Ints okc_spec_l4Ints (fun k => allLoops rfl (by kernel_rfl) (gl_spec_l4Ints k QQ)) (fun args m r h => match args, h with
    | [t0, t1], h => ⟨rfl, (xe_spec_l4Ints t0 t1 m).trans h⟩)
theorem ok_C_spec_l4Ints : OkC CT 213 C_spec_l4Ints := fcall_ok rfl ok_X_spec_l4Ints

/-! ### spec.l4Same -/
noncomputable def cf_spec_l4Same : CallF := cfc 213 C_spec_l4Ints cfn
noncomputable def X_spec_l4Same : List Value → Mem → Option VM
  | [t0, t1], m =>
    (nilX t0) |> bo fun t6 =>
    (fadX 0 t6) |> bo fun t7 =>
    (ld1 m t7) |> bo fun t8 =>
    (nilX t1) |> bo fun t10 =>
    (fadX 0 t10) |> bo fun t11 =>
    (ld1 m t11) |> bo fun t12 =>
    (binX .eql .no t8 t12) |> bo fun t13 =>
    (gd t13 true (some (t0, m)) m) |> bo fun r8 =>
    (gd t13 true ((nilX r8.1) |> bo fun v => some (v, r8.2)) r8.2) |> bo fun r9 =>
    (gd t13 true ((fadX 1 r9.1) |> bo fun v => some (v, r9.2)) r9.2) |> bo fun r10 =>
    (gd t13 true ((ld1 r10.2 r10.1) |> bo fun v => some (v, r10.2)) r10.2) |> bo fun r11 =>
    (gd t13 true (some (t1, r11.2)) r11.2) |> bo fun r12 =>
    (gd t13 true ((nilX r12.1) |> bo fun v => some (v, r12.2)) r12.2) |> bo fun r13 =>
    (gd t13 true ((fadX 1 r13.1) |> bo fun v => some (v, r13.2)) r13.2) |> bo fun r14 =>
    (gd t13 true ((ld1 r14.2 r14.1) |> bo fun v => some (v, r14.2)) r14.2) |> bo fun r15 =>
    (gd t13 true ((binX .eql .no r11.1 r15.1) |> bo fun v => some (v, r15.2)) r15.2) |> bo fun r16 =>
    (pickX t13 r16.1 (.bool false)) |> bo fun t24 =>
    (gd t24 true (some (t0, r16.2)) r16.2) |> bo fun r18 =>
    (gd t24 true ((nilX r18.1) |> bo fun v => some (v, r18.2)) r18.2) |> bo fun r19 =>
    (gd t24 true ((fadX 2 r19.1) |> bo fun v => some (v, r19.2)) r19.2) |> bo fun r20 =>
    (gd t24 true ((ld1 r20.2 r20.1) |> bo fun v => some (v, r20.2)) r20.2) |> bo fun r21 =>
    (gd t24 true (some (t1, r21.2)) r21.2) |> bo fun r22 =>
    (gd t24 true ((nilX r22.1) |> bo fun v => some (v, r22.2)) r22.2) |> bo fun r23 =>
    (gd t24 true ((fadX 2 r23.1) |> bo fun v => some (v, r23.2)) r23.2) |> bo fun r24 =>
    (gd t24 true ((ld1 r24.2 r24.1) |> bo fun v => some (v, r24.2)) r24.2) |> bo fun r25 =>
    (gd t24 true ((binX .eql .bool r21.1 r25.1) |> bo fun v => some (v, r25.2)) r25.2) |> bo fun r26 =>
    (pickX t24 r26.1 (.bool false)) |> bo fun t35 =>
    (gd t35 true (some (t0, r26.2)) r26.2) |> bo fun r28 =>
    (gd t35 true ((nilX r28.1) |> bo fun v => some (v, r28.2)) r28.2) |> bo fun r29 =>
    (gd t35 true ((fadX 3 r29.1) |> bo fun v => some (v, r29.2)) r29.2) |> bo fun r30 =>
    (gd t35 true ((ld1 r30.2 r30.1) |> bo fun v => some (v, r30.2)) r30.2) |> bo fun r31 =>
    (gd t35 true (some (t1, r31.2)) r31.2) |> bo fun r32 =>
    (gd t35 true ((nilX r32.1) |> bo fun v => some (v, r32.2)) r32.2) |> bo fun r33 =>
    (gd t35 true ((fadX 3 r33.1) |> bo fun v => some (v, r33.2)) r33.2) |> bo fun r34 =>
    (gd t35 true ((ld1 r34.2 r34.1) |> bo fun v => some (v, r34.2)) r34.2) |> bo fun r35 =>
    (gd t35 true ((C_spec_l4Ints [r31.1, r35.1] r35.2) |> bo fun r => some (r.1, r.2)) r35.2) |> bo fun r36 =>
    (pickX t35 r36.1 (.bool false)) |> bo fun t46 =>
    retK m.length r36.2 [t0, t1] t46
  | _, _ => none
noncomputable def C_spec_l4Same : List Value → Mem → Option VM := fcall X_spec_l4Same
@[simp] theorem c_spec_l4Same : C_spec_l4Same = fcall X_spec_l4Same := (rfl)
theorem cok_spec_l4Same : codeOk CT Try.f179 (Try.f179.body.get rfl) = true := by kernel_rfl
theorem xe_spec_l4Same (t0 t1 : Value) (m : Mem) : ex CT cf_spec_l4Same Try.f179 2 m.length [] (fun _ _ _ => none) 400 [.code (Try.f179.body.get rfl)] (argsT 0 [t0, t1]) m = X_spec_l4Same [t0, t1] m := by kernel_rfl
theorem okc_spec_l4Same : CallOK CT cf_spec_l4Same := cfc_ok ok_C_spec_l4Ints cfn_ok
theorem ok_X_spec_l4Same : OkX CT 179 X_spec_l4Same := OkX.of_ex (cf := cf_spec_l4Same) (np := 2) (LL := []) (J := (fun _ _ _ _ => none)) CT_ok rfl Try.func179 rfl (Nat.le_of_ble_eq_true rfl) (by decide) cok_spec_l4Same okc_spec_l4Same (fun k => noLoops rfl) (fun args m r h => match args, h with
    | [t0, t1], h => ⟨rfl, (xe_spec_l4Same t0 t1 m).trans h⟩)
theorem ok_C_spec_l4Same : OkC CT 179 C_spec_l4Same := fcall_ok rfl ok_X_spec_l4Same

/-! ### spec.l3SameCells -/
noncomputable def cf_spec_l3SameCells : CallF := cfn
noncomputable def L_spec_l3SameCells (k : Nat) : Nat → Nat → List Value → Mem → Option VM
  | q + 1, 0, [t0, t1, t5], m =>
    (lenX t0) |> bo fun t13 =>
    (binX .lss .no t5 t13) |> bo fun t14 =>
    brX t14
      (
        (ixaX 2 t0 t5) |> bo fun t19 =>
        (ldS m 2 t19) |> bo fun t20 =>
        (ixaX 2 t1 t5) |> bo fun t23 =>
        (ldS m 2 t23) |> bo fun t24 =>
        (binX .neq (.st [0, 1]) t20 t24) |> bo fun t25 =>
        brX t25
          (
            retK k m [t0, t1] (.bool false))
          (
            (binX .add .no t5 (.int .i64 1)) |> bo fun t16 =>
            cutK k m [t0, t1] [t0, t1, t16] (L_spec_l3SameCells k q 0)))
      (
        retK k m [t0, t1] (.bool true))
  | _, _, _, _ => none
noncomputable def J_spec_l3SameCells (k q l : Nat) : List Value → Mem → Option VM := cond (Nat.beq l 4) (L_spec_l3SameCells k q 0) (fun _ _ => none)
def LL_spec_l3SameCells : List (Nat × List Tmp) := [(4, [0, 1, 5])]
noncomputable def X_spec_l3SameCells : List Value → Mem → Option VM
  | [t0, t1], m =>
    (lenX t0) |> bo fun t7 =>
    (lenX t1) |> bo fun t9 =>
    (binX .neq .no t7 t9) |> bo fun t10 =>
    brX t10
      (
        retK m.length m [t0, t1] (.bool false))
      (
        cutK m.length m [t0, t1] [t0, t1, (.int .i64 0)] (L_spec_l3SameCells m.length QQ 0))
  | _, _ => none
noncomputable def C_spec_l3SameCells : List Value → Mem → Option VM := fcall X_spec_l3SameCells
@[simp] theorem c_spec_l3SameCells : C_spec_l3SameCells = fcall X_spec_l3SameCells := (rfl)
theorem cok_spec_l3SameCells : codeOk CT Try.f181 (Try.f181.body.get rfl) = true := by kernel_rfl
theorem xe_spec_l3SameCells (t0 t1 : Value) (m : Mem) : ex CT cf_spec_l3SameCells Try.f181 2 m.length LL_spec_l3SameCells (J_spec_l3SameCells m.length QQ) 400 [.code (Try.f181.body.get rfl)] (argsT 0 [t0, t1]) m = X_spec_l3SameCells [t0, t1] m := by kernel_rfl
theorem okc_spec_l3SameCells : CallOK CT cf_spec_l3SameCells := cfn_ok
theorem le_spec_l3SameCells_0 (k q : Nat) (t0 t1 t5 : Value) (m : Mem) : ex CT cf_spec_l3SameCells Try.f181 2 k LL_spec_l3SameCells (J_spec_l3SameCells k q) 400 (atLoop Try.f181 0) [(0, t0), (1, t1), (5, t5)] m = J_spec_l3SameCells k (q + 1) 4 [t0, t1, t5] m := by kernel_rfl
theorem gl_spec_l3SameCells (k : Nat) : ∀ q i, i < 1 → GoodL CT k Try.f181 LL_spec_l3SameCells (J_spec_l3SameCells k q) (atLoop Try.f181 i)
  | 0, 0, _ => goodL_zero (l := 4) (by kernel_rfl) (fun vs m => by kernel_rfl)
  | 0, _ + 1, h => absurd h (by omega)
  | q + 1, 0, _ => goodL_succ (np := 2) (l := 4) (live := [0, 1, 5]) (n := 1) CT_ok rfl okc_spec_l3SameCells (c := (Try.f181.body.get rfl)) rfl cok_spec_l3SameCells (by kernel_rfl) (gl_spec_l3SameCells k q) (by kernel_rfl) rfl (fun vs m r hl h => match vs, hl with
    | [t0, t1, t5], _ => (le_spec_l3SameCells_0 k q t0 t1 t5 m).trans h)
  | _ + 1, _ + 1, h => absurd h (by omega)
theorem ok_X_spec_l3SameCells : OkX CT 181 X_spec_l3SameCells := OkX.of_ex (cf := cf_spec_l3SameCells) (np := 2) (LL := LL_spec_l3SameCells) (J := (fun k => J_spec_l3SameCells k QQ)) CT_ok rfl Try.func181 rfl (Nat.le_of_ble_eq_true rfl) (by decide) cok_spec_l3SameCells okc_spec_l3SameCells (fun k => allLoops rfl (by kernel_rfl) (gl_spec_l3SameCells k QQ)) (fun args m r h => match args, h with
    | [t0, t1], h => ⟨rfl, (xe_spec_l3SameCells t0 t1 m).trans h⟩)
theorem ok_C_spec_l3SameCells : OkC CT 181 C_spec_l3SameCells := fcall_ok rfl ok_X_spec_l3SameCells

/-! ### spec.l5Bools -/
noncomputable def cf_spec_l5Bools : CallF := cfn
noncomputable def L_spec_l5Bools (k : Nat) : Nat → Nat → List Value → Mem → Option VM
  | q + 1, 0, [t0, t1, t5], m =>
    (lenX t0) |> bo fun t13 =>
    (binX .lss .no t5 t13) |> bo fun t14 =>
    brX t14
      (
        (ixaX 1 t0 t5) |> bo fun t19 =>
        (ld1 m t19) |> bo fun t20 =>
        (ixaX 1 t1 t5) |> bo fun t23 =>
        (ld1 m t23) |> bo fun t24 =>
        (binX .neq .bool t20 t24) |> bo fun t25 =>
        brX t25
          (
            retK k m [t0, t1] (.bool false))
          (
            (binX .add .no t5 (.int .i64 1)) |> bo fun t16 =>
            cutK k m [t0, t1] [t0, t1, t16] (L_spec_l5Bools k q 0)))
      (
        retK k m [t0, t1] (.bool true))
  | _, _, _, _ => none
noncomputable def J_spec_l5Bools (k q l : Nat) : List Value → Mem → Option VM := cond (Nat.beq l 4) (L_spec_l5Bools k q 0) (fun _ _ => none)
def LL_spec_l5Bools : List (Nat × List Tmp) := [(4, [0, 1, 5])]
noncomputable def X_spec_l5Bools : List Value → Mem → Option VM
  | [t0, t1], m =>
    (lenX t0) |> bo fun t7 =>
    (lenX t1) |> bo fun t9 =>
    (binX .neq .no t7 t9) |> bo fun t10 =>
    brX t10
      (
        retK m.length m [t0, t1] (.bool false))
      (
        cutK m.length m [t0, t1] [t0, t1, (.int .i64 0)] (L_spec_l5Bools m.length QQ 0))
  | _, _ => none
noncomputable def C_spec_l5Bools : List Value → Mem → Option VM := fcall X_spec_l5Bools
@[simp] theorem c_spec_l5Bools : C_spec_l5Bools = fcall X_spec_l5Bools := (rfl)
theorem cok_spec_l5Bools : codeOk CT Try.f214 (Try.f214.body.get rfl) = true := by kernel_rfl
theorem xe_spec_l5Bools (t0 t1 : Value) (m : Mem) : ex CT cf_spec_l5Bools Try.f214 2 m.length LL_spec_l5Bools (J_spec_l5Bools m.length QQ) 400 [.code (Try.f214.body.get rfl)] (argsT 0 [t0, t1]) m = X_spec_l5Bools [t0, t1] m := by kernel_rfl
theorem okc_spec_l5Bools : CallOK CT cf_spec_l5Bools := cfn_ok
theorem le_spec_l5Bools_0 (k q : Nat) (t0 t1 t5 : Value) (m : Mem) : ex CT cf_spec_l5Bools Try.f214 2 k LL_spec_l5Bools (J_spec_l5Bools k q) 400 (atLoop Try.f214 0) [(0, t0), (1, t1), (5, t5)] m = J_spec_l5Bools k (q + 1) 4 [t0, t1, t5] m := by kernel_rfl
theorem gl_spec_l5Bools (k : Nat) : ∀ q i, i < 1 → GoodL CT k Try.f214 LL_spec_l5Bools (J_spec_l5Bools k q) (atLoop Try.f214 i)
  | 0, 0, _ => goodL_zero (l := 4) (by kernel_rfl) (fun vs m => by kernel_rfl)
  | 0, _ + 1, h => absurd h (by omega)
  | q + 1, 0, _ => goodL_succ (np := 2) (l := 4) (live := [0, 1, 5]) (n := 1) CT_ok rfl okc_spec_l5Bools (c := (Try.f214.body.get rfl)) rfl cok_spec_l5Bools (by kernel_rfl) (gl_spec_l5Bools k q) (by kernel_rfl) rfl (fun vs m r hl h => match vs, hl with
    | [t0, t1, t5], _ => (le_spec_l5Bools_0 k q t0 t1 t5 m).trans h)
  | _ + 1, _ + 1, h => absurd h (by omega)
theorem ok_X_spec_l5Bools : OkX CT 214 X_spec_l5Bools := OkX.of_ex (cf := cf_spec_l5Bools) (np := 2) (LL := LL_spec_l5Bools) (J := (fun k => J_spec_l5Bools k QQ)) CT_ok rfl Try.func214 rfl (Nat.le_of_ble_eq_true rfl) (by decide) cok_spec_l5Bools okc_spec_l5Bools (fun k => allLoops rfl (by kernel_rfl) (gl_spec_l5Bools k QQ)) (fun args m r h => match args, h with
    | [t0, t1], h => ⟨rfl, (xe_spec_l5Bools t0 t1 m).trans h⟩)
theorem ok_C_spec_l5Bools : OkC CT 214 C_spec_l5Bools := fcall_ok rfl ok_X_spec_l5Bools

/-! ### spec.l5Shown -/
noncomputable def cf_spec_l5Shown : CallF := cfc 181 C_spec_l3SameCells (cfc 213 C_spec_l4Ints (cfc 214 C_spec_l5Bools cfn))
noncomputable def X_spec_l5Shown : List Value → Mem → Option VM
  | [t0, t1], m =>
    (nilX t0) |> bo fun t6 =>
    (fadX 0 t6) |> bo fun t7 =>
    (fadX 0 t7) |> bo fun t8 =>
    (ld1 m t8) |> bo fun t9 =>
    (nilX t1) |> bo fun t11 =>
    (fadX 0 t11) |> bo fun t12 =>
    (fadX 0 t12) |> bo fun t13 =>
    (ld1 m t13) |> bo fun t14 =>
    (binX .neq .no t9 t14) |> bo fun t15 =>
    (gd t15 false (some (t0, m)) m) |> bo fun r10 =>
    (gd t15 false ((nilX r10.1) |> bo fun v => some (v, r10.2)) r10.2) |> bo fun r11 =>
    (gd t15 false ((fadX 0 r11.1) |> bo fun v => some (v, r11.2)) r11.2) |> bo fun r12 =>
    (gd t15 false ((fadX 1 r12.1) |> bo fun v => some (v, r12.2)) r12.2) |> bo fun r13 =>
    (gd t15 false ((ld1 r13.2 r13.1) |> bo fun v => some (v, r13.2)) r13.2) |> bo fun r14 =>
    (gd t15 false (some (t1, r14.2)) r14.2) |> bo fun r15 =>
    (gd t15 false ((nilX r15.1) |> bo fun v => some (v, r15.2)) r15.2) |> bo fun r16 =>
    (gd t15 false ((fadX 0 r16.1) |> bo fun v => some (v, r16.2)) r16.2) |> bo fun r17 =>
    (gd t15 false ((fadX 1 r17.1) |> bo fun v => some (v, r17.2)) r17.2) |> bo fun r18 =>
    (gd t15 false ((ld1 r18.2 r18.1) |> bo fun v => some (v, r18.2)) r18.2) |> bo fun r19 =>
    (gd t15 false ((binX .neq .no r14.1 r19.1) |> bo fun v => some (v, r19.2)) r19.2) |> bo fun r20 =>
    (pickX t15 (.bool true) r20.1) |> bo fun t28 =>
    (gd t28 false (some (t0, r20.2)) r20.2) |> bo fun r22 =>
    (gd t28 false ((nilX r22.1) |> bo fun v => some (v, r22.2)) r22.2) |> bo fun r23 =>
    (gd t28 false ((fadX 0 r23.1) |> bo fun v => some (v, r23.2)) r23.2) |> bo fun r24 =>
    (gd t28 false ((fadX 2 r24.1) |> bo fun v => some (v, r24.2)) r24.2) |> bo fun r25 =>
    (gd t28 false ((ld1 r25.2 r25.1) |> bo fun v => some (v, r25.2)) r25.2) |> bo fun r26 =>
    (gd t28 false (some (t1, r26.2)) r26.2) |> bo fun r27 =>
    (gd t28 false ((nilX r27.1) |> bo fun v => some (v, r27.2)) r27.2) |> bo fun r28 =>
    (gd t28 false ((fadX 0 r28.1) |> bo fun v => some (v, r28.2)) r28.2) |> bo fun r29 =>
    (gd t28 false ((fadX 2 r29.1) |> bo fun v => some (v, r29.2)) r29.2) |> bo fun r30 =>
    (gd t28 false ((ld1 r30.2 r30.1) |> bo fun v => some (v, r30.2)) r30.2) |> bo fun r31 =>
    (gd t28 false ((C_spec_l3SameCells [r26.1, r31.1] r31.2) |> bo fun r => some (r.1, r.2)) r31.2) |> bo fun r32 =>
    (gd t28 false ((uop .not r32.1) |> bo fun v => some (v, r32.2)) r32.2) |> bo fun r33 =>
    (pickX t28 (.bool true) r33.1) |> bo fun t42 =>
    brX t42
      (
        retK m.length r33.2 [t0, t1] (.bool false))
      (
        (nilX t0) |> bo fun t44 =>
        (fadX 4 t44) |> bo fun t45 =>
        (ld1 r33.2 t45) |> bo fun t46 =>
        (nilX t1) |> bo fun t48 =>
        (fadX 4 t48) |> bo fun t49 =>
        (ld1 r33.2 t49) |> bo fun t50 =>
        (binX .neq .no t46 t50) |> bo fun t51 =>
        (gd t51 false (some (t0, r33.2)) r33.2) |> bo fun r42 =>
        (gd t51 false ((nilX r42.1) |> bo fun v => some (v, r42.2)) r42.2) |> bo fun r43 =>
        (gd t51 false ((fadX 5 r43.1) |> bo fun v => some (v, r43.2)) r43.2) |> bo fun r44 =>
        (gd t51 false ((ld1 r44.2 r44.1) |> bo fun v => some (v, r44.2)) r44.2) |> bo fun r45 =>
        (gd t51 false (some (t1, r45.2)) r45.2) |> bo fun r46 =>
        (gd t51 false ((nilX r46.1) |> bo fun v => some (v, r46.2)) r46.2) |> bo fun r47 =>
        (gd t51 false ((fadX 5 r47.1) |> bo fun v => some (v, r47.2)) r47.2) |> bo fun r48 =>
        (gd t51 false ((ld1 r48.2 r48.1) |> bo fun v => some (v, r48.2)) r48.2) |> bo fun r49 =>
        (gd t51 false ((binX .neq .no r45.1 r49.1) |> bo fun v => some (v, r49.2)) r49.2) |> bo fun r50 =>
        (pickX t51 (.bool true) r50.1) |> bo fun t62 =>
        (gd t62 false (some (t0, r50.2)) r50.2) |> bo fun r52 =>
        (gd t62 false ((nilX r52.1) |> bo fun v => some (v, r52.2)) r52.2) |> bo fun r53 =>
        (gd t62 false ((fadX 6 r53.1) |> bo fun v => some (v, r53.2)) r53.2) |> bo fun r54 =>
        (gd t62 false ((ld1 r54.2 r54.1) |> bo fun v => some (v, r54.2)) r54.2) |> bo fun r55 =>
        (gd t62 false (some (t1, r55.2)) r55.2) |> bo fun r56 =>
        (gd t62 false ((nilX r56.1) |> bo fun v => some (v, r56.2)) r56.2) |> bo fun r57 =>
        (gd t62 false ((fadX 6 r57.1) |> bo fun v => some (v, r57.2)) r57.2) |> bo fun r58 =>
        (gd t62 false ((ld1 r58.2 r58.1) |> bo fun v => some (v, r58.2)) r58.2) |> bo fun r59 =>
        (gd t62 false ((binX .neq .bool r55.1 r59.1) |> bo fun v => some (v, r59.2)) r59.2) |> bo fun r60 =>
        (pickX t62 (.bool true) r60.1) |> bo fun t73 =>
        (gd t73 false (some (t0, r60.2)) r60.2) |> bo fun r62 =>
        (gd t73 false ((nilX r62.1) |> bo fun v => some (v, r62.2)) r62.2) |> bo fun r63 =>
        (gd t73 false ((fadX 7 r63.1) |> bo fun v => some (v, r63.2)) r63.2) |> bo fun r64 =>
        (gd t73 false ((ld1 r64.2 r64.1) |> bo fun v => some (v, r64.2)) r64.2) |> bo fun r65 =>
        (gd t73 false (some (t1, r65.2)) r65.2) |> bo fun r66 =>
        (gd t73 false ((nilX r66.1) |> bo fun v => some (v, r66.2)) r66.2) |> bo fun r67 =>
        (gd t73 false ((fadX 7 r67.1) |> bo fun v => some (v, r67.2)) r67.2) |> bo fun r68 =>
        (gd t73 false ((ld1 r68.2 r68.1) |> bo fun v => some (v, r68.2)) r68.2) |> bo fun r69 =>
        (gd t73 false ((binX .neq .no r65.1 r69.1) |> bo fun v => some (v, r69.2)) r69.2) |> bo fun r70 =>
        (pickX t73 (.bool true) r70.1) |> bo fun t84 =>
        (gd t84 false (some (t0, r70.2)) r70.2) |> bo fun r72 =>
        (gd t84 false ((nilX r72.1) |> bo fun v => some (v, r72.2)) r72.2) |> bo fun r73 =>
        (gd t84 false ((fadX 8 r73.1) |> bo fun v => some (v, r73.2)) r73.2) |> bo fun r74 =>
        (gd t84 false ((ld1 r74.2 r74.1) |> bo fun v => some (v, r74.2)) r74.2) |> bo fun r75 =>
        (gd t84 false (some (t1, r75.2)) r75.2) |> bo fun r76 =>
        (gd t84 false ((nilX r76.1) |> bo fun v => some (v, r76.2)) r76.2) |> bo fun r77 =>
        (gd t84 false ((fadX 8 r77.1) |> bo fun v => some (v, r77.2)) r77.2) |> bo fun r78 =>
        (gd t84 false ((ld1 r78.2 r78.1) |> bo fun v => some (v, r78.2)) r78.2) |> bo fun r79 =>
        (gd t84 false ((binX .neq .no r75.1 r79.1) |> bo fun v => some (v, r79.2)) r79.2) |> bo fun r80 =>
        (pickX t84 (.bool true) r80.1) |> bo fun t95 =>
        (gd t95 false (some (t0, r80.2)) r80.2) |> bo fun r82 =>
        (gd t95 false ((nilX r82.1) |> bo fun v => some (v, r82.2)) r82.2) |> bo fun r83 =>
        (gd t95 false ((fadX 9 r83.1) |> bo fun v => some (v, r83.2)) r83.2) |> bo fun r84 =>
        (gd t95 false ((ld1 r84.2 r84.1) |> bo fun v => some (v, r84.2)) r84.2) |> bo fun r85 =>
        (gd t95 false (some (t1, r85.2)) r85.2) |> bo fun r86 =>
        (gd t95 false ((nilX r86.1) |> bo fun v => some (v, r86.2)) r86.2) |> bo fun r87 =>
        (gd t95 false ((fadX 9 r87.1) |> bo fun v => some (v, r87.2)) r87.2) |> bo fun r88 =>
        (gd t95 false ((ld1 r88.2 r88.1) |> bo fun v => some (v, r88.2)) r88.2) |> bo fun r89 =>
        (gd t95 false ((binX .neq .no r85.1 r89.1) |> bo fun v => some (v, r89.2)) r89.2) |> bo fun r90 =>
        (pickX t95 (.bool true) r90.1) |> bo fun t106 =>
        brX t106
          (
            retK m.length r90.2 [t0, t1] (.bool false))
          (
            (nilX t0) |> bo fun t108 =>
            (fadX 10 t108) |> bo fun t109 =>
            (ld1 r90.2 t109) |> bo fun t110 =>
            (nilX t1) |> bo fun t112 =>
            (fadX 10 t112) |> bo fun t113 =>
            (ld1 r90.2 t113) |> bo fun t114 =>
            (binX .neq .bool t110 t114) |> bo fun t115 =>
            (gd t115 false (some (t0, r90.2)) r90.2) |> bo fun r99 =>
            (gd t115 false ((nilX r99.1) |> bo fun v => some (v, r99.2)) r99.2) |> bo fun r100 =>
            (gd t115 false ((fadX 11 r100.1) |> bo fun v => some (v, r100.2)) r100.2) |> bo fun r101 =>
            (gd t115 false ((ld1 r101.2 r101.1) |> bo fun v => some (v, r101.2)) r101.2) |> bo fun r102 =>
            (gd t115 false (some (t1, r102.2)) r102.2) |> bo fun r103 =>
            (gd t115 false ((nilX r103.1) |> bo fun v => some (v, r103.2)) r103.2) |> bo fun r104 =>
            (gd t115 false ((fadX 11 r104.1) |> bo fun v => some (v, r104.2)) r104.2) |> bo fun r105 =>
            (gd t115 false ((ld1 r105.2 r105.1) |> bo fun v => some (v, r105.2)) r105.2) |> bo fun r106 =>
            (gd t115 false ((binX .neq .bool r102.1 r106.1) |> bo fun v => some (v, r106.2)) r106.2) |> bo fun r107 =>
            (pickX t115 (.bool true) r107.1) |> bo fun t126 =>
            (gd t126 false (some (t0, r107.2)) r107.2) |> bo fun r109 =>
            (gd t126 false ((nilX r109.1) |> bo fun v => some (v, r109.2)) r109.2) |> bo fun r110 =>
            (gd t126 false ((fadX 12 r110.1) |> bo fun v => some (v, r110.2)) r110.2) |> bo fun r111 =>
            (gd t126 false ((ld1 r111.2 r111.1) |> bo fun v => some (v, r111.2)) r111.2) |> bo fun r112 =>
            (gd t126 false (some (t1, r112.2)) r112.2) |> bo fun r113 =>
            (gd t126 false ((nilX r113.1) |> bo fun v => some (v, r113.2)) r113.2) |> bo fun r114 =>
            (gd t126 false ((fadX 12 r114.1) |> bo fun v => some (v, r114.2)) r114.2) |> bo fun r115 =>
            (gd t126 false ((ld1 r115.2 r115.1) |> bo fun v => some (v, r115.2)) r115.2) |> bo fun r116 =>
            (gd t126 false ((binX .neq .bool r112.1 r116.1) |> bo fun v => some (v, r116.2)) r116.2) |> bo fun r117 =>
            (pickX t126 (.bool true) r117.1) |> bo fun t137 =>
            (gd t137 false (some (t0, r117.2)) r117.2) |> bo fun r119 =>
            (gd t137 false ((nilX r119.1) |> bo fun v => some (v, r119.2)) r119.2) |> bo fun r120 =>
            (gd t137 false ((fadX 18 r120.1) |> bo fun v => some (v, r120.2)) r120.2) |> bo fun r121 =>
            (gd t137 false ((ld1 r121.2 r121.1) |> bo fun v => some (v, r121.2)) r121.2) |> bo fun r122 =>
            (gd t137 false (some (t1, r122.2)) r122.2) |> bo fun r123 =>
            (gd t137 false ((nilX r123.1) |> bo fun v => some (v, r123.2)) r123.2) |> bo fun r124 =>
            (gd t137 false ((fadX 18 r124.1) |> bo fun v => some (v, r124.2)) r124.2) |> bo fun r125 =>
            (gd t137 false ((ld1 r125.2 r125.1) |> bo fun v => some (v, r125.2)) r125.2) |> bo fun r126 =>
            (gd t137 false ((binX .neq .no r122.1 r126.1) |> bo fun v => some (v, r126.2)) r126.2) |> bo fun r127 =>
            (pickX t137 (.bool true) r127.1) |> bo fun t148 =>
            brX t148
              (
                retK m.length r127.2 [t0, t1] (.bool false))
              (
                (nilX t0) |> bo fun t150 =>
                (fadX 13 t150) |> bo fun t151 =>
                (ld1 r127.2 t151) |> bo fun t152 =>
                (nilX t1) |> bo fun t154 =>
                (fadX 13 t154) |> bo fun t155 =>
                (ld1 r127.2 t155) |> bo fun t156 =>
                (C_spec_l5Bools [t152, t156] r127.2) |> bo fun r135 =>
                (gd r135.1 true (some (t0, r135.2)) r135.2) |> bo fun r136 =>
                (gd r135.1 true ((nilX r136.1) |> bo fun v => some (v, r136.2)) r136.2) |> bo fun r137 =>
                (gd r135.1 true ((fadX 17 r137.1) |> bo fun v => some (v, r137.2)) r137.2) |> bo fun r138 =>
                (gd r135.1 true ((ld1 r138.2 r138.1) |> bo fun v => some (v, r138.2)) r138.2) |> bo fun r139 =>
                (gd r135.1 true (some (t1, r139.2)) r139.2) |> bo fun r140 =>
                (gd r135.1 true ((nilX r140.1) |> bo fun v => some (v, r140.2)) r140.2) |> bo fun r141 =>
                (gd r135.1 true ((fadX 17 r141.1) |> bo fun v => some (v, r141.2)) r141.2) |> bo fun r142 =>
                (gd r135.1 true ((ld1 r142.2 r142.1) |> bo fun v => some (v, r142.2)) r142.2) |> bo fun r143 =>
                (gd r135.1 true ((C_spec_l4Ints [r139.1, r143.1] r143.2) |> bo fun r => some (r.1, r.2)) r143.2) |> bo fun r144 =>
                (pickX r135.1 r144.1 (.bool false)) |> bo fun t168 =>
                retK m.length r144.2 [t0, t1] t168)))
  | _, _ => none
noncomputable def C_spec_l5Shown : List Value → Mem → Option VM := fcall X_spec_l5Shown
@[simp] theorem c_spec_l5Shown : C_spec_l5Shown = fcall X_spec_l5Shown := (rfl)
theorem cok_spec_l5Shown : codeOk CT Try.f180 (Try.f180.body.get rfl) = true := by kernel_rfl
theorem xe_spec_l5Shown (t0 t1 : Value) (m : Mem) : ex CT cf_spec_l5Shown Try.f180 2 m.length [] (fun _ _ _ => none) 400 [.code (Try.f180.body.get rfl)] (argsT 0 [t0, t1]) m = X_spec_l5Shown [t0, t1] m := by kernel_rfl
theorem okc_spec_l5Shown : CallOK CT cf_spec_l5Shown := cfc_ok ok_C_spec_l3SameCells (cfc_ok ok_C_spec_l4Ints (cfc_ok ok_C_spec_l5Bools cfn_ok))
theorem ok_X_spec_l5Shown : OkX CT 180 X_spec_l5Shown := OkX.of_ex (cf := cf_spec_l5Shown) (np := 2) (LL := []) (J := (fun _ _ _ _ => none)) CT_ok rfl Try.func180 rfl (Nat.le_of_ble_eq_true rfl) (by decide) cok_spec_l5Shown okc_spec_l5Shown (fun k => noLoops rfl) (fun args m r h => match args, h with
    | [t0, t1], h => ⟨rfl, (xe_spec_l5Shown t0 t1 m).trans h⟩)
theorem ok_C_spec_l5Shown : OkC CT 180 C_spec_l5Shown := fcall_ok rfl ok_X_spec_l5Shown

/-! ### spec.l6Same -/
noncomputable def cf_spec_l6Same : CallF := cfc 179 C_spec_l4Same (cfc 180 C_spec_l5Shown (cfc 181 C_spec_l3SameCells cfn))
noncomputable def X_spec_l6Same : List Value → Mem → Option VM
  | [t0, t1], m =>
    (nilX t0) |> bo fun t8 =>
    (fadX 7 t8) |> bo fun t9 =>
    (nilX t1) |> bo fun t11 =>
    (fadX 7 t11) |> bo fun t12 =>
    (nilX t0) |> bo fun t14 =>
    (fadX 0 t14) |> bo fun t15 =>
    (ldS m 3 t15) |> bo fun t16 =>
    (nilX t1) |> bo fun t18 =>
    (fadX 0 t18) |> bo fun t19 =>
    (ldS m 3 t19) |> bo fun t20 =>
    (binX .neq (.st [0, 1, 2]) t16 t20) |> bo fun t21 =>
    (gd t21 false (some (t0, m)) m) |> bo fun r12 =>
    (gd t21 false ((nilX r12.1) |> bo fun v => some (v, r12.2)) r12.2) |> bo fun r13 =>
    (gd t21 false ((fadX 3 r13.1) |> bo fun v => some (v, r13.2)) r13.2) |> bo fun r14 =>
    (gd t21 false (some (t1, r14.2)) r14.2) |> bo fun r15 =>
    (gd t21 false ((nilX r15.1) |> bo fun v => some (v, r15.2)) r15.2) |> bo fun r16 =>
    (gd t21 false ((fadX 3 r16.1) |> bo fun v => some (v, r16.2)) r16.2) |> bo fun r17 =>
    (gd t21 false ((C_spec_l4Same [r14.1, r17.1] r17.2) |> bo fun r => some (r.1, r.2)) r17.2) |> bo fun r18 =>
    (gd t21 false ((uop .not r18.1) |> bo fun v => some (v, r18.2)) r18.2) |> bo fun r19 =>
    (pickX t21 (.bool true) r19.1) |> bo fun t31 =>
    (gd t31 false (some (t9, r19.2)) r19.2) |> bo fun r21 =>
    (gd t31 false (some (t12, r21.2)) r21.2) |> bo fun r22 =>
    (gd t31 false ((C_spec_l5Shown [r21.1, r22.1] r22.2) |> bo fun r => some (r.1, r.2)) r22.2) |> bo fun r23 =>
    (gd t31 false ((uop .not r23.1) |> bo fun v => some (v, r23.2)) r23.2) |> bo fun r24 =>
    (pickX t31 (.bool true) r24.1) |> bo fun t37 =>
    (gd t37 false (some (t9, r24.2)) r24.2) |> bo fun r26 =>
    (gd t37 false ((nilX r26.1) |> bo fun v => some (v, r26.2)) r26.2) |> bo fun r27 =>
    (gd t37 false ((fadX 0 r27.1) |> bo fun v => some (v, r27.2)) r27.2) |> bo fun r28 =>
    (gd t37 false ((fadX 3 r28.1) |> bo fun v => some (v, r28.2)) r28.2) |> bo fun r29 =>
    (gd t37 false ((ld1 r29.2 r29.1) |> bo fun v => some (v, r29.2)) r29.2) |> bo fun r30 =>
    (gd t37 false (some (t12, r30.2)) r30.2) |> bo fun r31 =>
    (gd t37 false ((nilX r31.1) |> bo fun v => some (v, r31.2)) r31.2) |> bo fun r32 =>
    (gd t37 false ((fadX 0 r32.1) |> bo fun v => some (v, r32.2)) r32.2) |> bo fun r33 =>
    (gd t37 false ((fadX 3 r33.1) |> bo fun v => some (v, r33.2)) r33.2) |> bo fun r34 =>
    (gd t37 false ((ld1 r34.2 r34.1) |> bo fun v => some (v, r34.2)) r34.2) |> bo fun r35 =>
    (gd t37 false ((C_spec_l3SameCells [r30.1, r35.1] r35.2) |> bo fun r => some (r.1, r.2)) r35.2) |> bo fun r36 =>
    (gd t37 false ((uop .not r36.1) |> bo fun v => some (v, r36.2)) r36.2) |> bo fun r37 =>
    (pickX t37 (.bool true) r37.1) |> bo fun t51 =>
    brX t51
      (
        retK m.length r37.2 [t0, t1] (.bool false))
      (
        (nilX t9) |> bo fun t53 =>
        (fadX 14 t53) |> bo fun t54 =>
        (ld1 r37.2 t54) |> bo fun t55 =>
        (nilX t12) |> bo fun t57 =>
        (fadX 14 t57) |> bo fun t58 =>
        (ld1 r37.2 t58) |> bo fun t59 =>
        (binX .eql .no t55 t59) |> bo fun t60 =>
        (gd t60 true (some (t9, r37.2)) r37.2) |> bo fun r46 =>
        (gd t60 true ((nilX r46.1) |> bo fun v => some (v, r46.2)) r46.2) |> bo fun r47 =>
        (gd t60 true ((fadX 15 r47.1) |> bo fun v => some (v, r47.2)) r47.2) |> bo fun r48 =>
        (gd t60 true ((ld1 r48.2 r48.1) |> bo fun v => some (v, r48.2)) r48.2) |> bo fun r49 =>
        (gd t60 true (some (t12, r49.2)) r49.2) |> bo fun r50 =>
        (gd t60 true ((nilX r50.1) |> bo fun v => some (v, r50.2)) r50.2) |> bo fun r51 =>
        (gd t60 true ((fadX 15 r51.1) |> bo fun v => some (v, r51.2)) r51.2) |> bo fun r52 =>
        (gd t60 true ((ld1 r52.2 r52.1) |> bo fun v => some (v, r52.2)) r52.2) |> bo fun r53 =>
        (gd t60 true ((binX .eql .no r49.1 r53.1) |> bo fun v => some (v, r53.2)) r53.2) |> bo fun r54 =>
        (pickX t60 r54.1 (.bool false)) |> bo fun t71 =>
        (gd t71 true (some (t9, r54.2)) r54.2) |> bo fun r56 =>
        (gd t71 true ((nilX r56.1) |> bo fun v => some (v, r56.2)) r56.2) |> bo fun r57 =>
        (gd t71 true ((fadX 16 r57.1) |> bo fun v => some (v, r57.2)) r57.2) |> bo fun r58 =>
        (gd t71 true ((ld1 r58.2 r58.1) |> bo fun v => some (v, r58.2)) r58.2) |> bo fun r59 =>
        (gd t71 true (some (t12, r59.2)) r59.2) |> bo fun r60 =>
        (gd t71 true ((nilX r60.1) |> bo fun v => some (v, r60.2)) r60.2) |> bo fun r61 =>
        (gd t71 true ((fadX 16 r61.1) |> bo fun v => some (v, r61.2)) r61.2) |> bo fun r62 =>
        (gd t71 true ((ld1 r62.2 r62.1) |> bo fun v => some (v, r62.2)) r62.2) |> bo fun r63 =>
        (gd t71 true ((binX .eql .no r59.1 r63.1) |> bo fun v => some (v, r63.2)) r63.2) |> bo fun r64 =>
        (pickX t71 r64.1 (.bool false)) |> bo fun t82 =>
        (gd t82 true (some (t9, r64.2)) r64.2) |> bo fun r66 =>
        (gd t82 true ((nilX r66.1) |> bo fun v => some (v, r66.2)) r66.2) |> bo fun r67 =>
        (gd t82 true ((fadX 19 r67.1) |> bo fun v => some (v, r67.2)) r67.2) |> bo fun r68 =>
        (gd t82 true ((ld1 r68.2 r68.1) |> bo fun v => some (v, r68.2)) r68.2) |> bo fun r69 =>
        (gd t82 true (some (t12, r69.2)) r69.2) |> bo fun r70 =>
        (gd t82 true ((nilX r70.1) |> bo fun v => some (v, r70.2)) r70.2) |> bo fun r71 =>
        (gd t82 true ((fadX 19 r71.1) |> bo fun v => some (v, r71.2)) r71.2) |> bo fun r72 =>
        (gd t82 true ((ld1 r72.2 r72.1) |> bo fun v => some (v, r72.2)) r72.2) |> bo fun r73 =>
        (gd t82 true ((binX .eql .no r69.1 r73.1) |> bo fun v => some (v, r73.2)) r73.2) |> bo fun r74 =>
        (pickX t82 r74.1 (.bool false)) |> bo fun t93 =>
        retK m.length r74.2 [t0, t1] t93)
  | _, _ => none
noncomputable def C_spec_l6Same : List Value → Mem → Option VM := fcall X_spec_l6Same
@[simp] theorem c_spec_l6Same : C_spec_l6Same = fcall X_spec_l6Same := (rfl)
theorem cok_spec_l6Same : codeOk CT Try.f134 (Try.f134.body.get rfl) = true := by kernel_rfl
theorem xe_spec_l6Same (t0 t1 : Value) (m : Mem) : ex CT cf_spec_l6Same Try.f134 2 m.length [] (fun _ _ _ => none) 400 [.code (Try.f134.body.get rfl)] (argsT 0 [t0, t1]) m = X_spec_l6Same [t0, t1] m := by kernel_rfl
theorem okc_spec_l6Same : CallOK CT cf_spec_l6Same := cfc_ok ok_C_spec_l4Same (cfc_ok ok_C_spec_l5Shown (cfc_ok ok_C_spec_l3SameCells cfn_ok))
theorem ok_X_spec_l6Same : OkX CT 134 X_spec_l6Same := OkX.of_ex (cf := cf_spec_l6Same) (np := 2) (LL := []) (J := (fun _ _ _ _ => none)) CT_ok rfl Try.func134 rfl (Nat.le_of_ble_eq_true rfl) (by decide) cok_spec_l6Same okc_spec_l6Same (fun k => noLoops rfl) (fun args m r h => match args, h with
    | [t0, t1], h => ⟨rfl, (xe_spec_l6Same t0 t1 m).trans h⟩)
theorem ok_C_spec_l6Same : OkC CT 134 C_spec_l6Same := fcall_ok rfl ok_X_spec_l6Same

/-! ### spec.l11Same -/
noncomputable def cf_spec_l11Same : CallF := cfn
noncomputable def L_spec_l11Same (k : Nat) : Nat → Nat → List Value → Mem → Option VM
  | q + 1, 0, [t0, t1, t5], m =>
    (nilX t0) |> bo fun t54 =>
    (fadX 0 t54) |> bo fun t55 =>
    (ld1 m t55) |> bo fun t56 =>
    (lenX t56) |> bo fun t57 =>
    (binX .lss .no t5 t57) |> bo fun t58 =>
    brX t58
      (
        (nilX t0) |> bo fun t62 =>
        (fadX 0 t62) |> bo fun t63 =>
        (ld1 m t63) |> bo fun t64 =>
        (ixaX 1 t64 t5) |> bo fun t66 =>
        (ld1 m t66) |> bo fun t67 =>
        (cvBS m t67) |> bo fun t68 =>
        (nilX t1) |> bo fun t70 =>
        (fadX 0 t70) |> bo fun t71 =>
        (ld1 m t71) |> bo fun t72 =>
        (ixaX 1 t72 t5) |> bo fun t74 =>
        (ld1 m t74) |> bo fun t75 =>
        (cvBS m t75) |> bo fun t76 =>
        (binX .neq .no t68 t76) |> bo fun t77 =>
        brX t77
          (
            retK k m [t0, t1] (.bool false))
          (
            (binX .add .no t5 (.int .i64 1)) |> bo fun t60 =>
            cutK k m [t0, t1] [t0, t1, t60] (L_spec_l11Same k q 0)))
      (
        retK k m [t0, t1] (.bool true))
  | _, _, _, _ => none
noncomputable def J_spec_l11Same (k q l : Nat) : List Value → Mem → Option VM := cond (Nat.beq l 4) (L_spec_l11Same k q 0) (fun _ _ => none)
def LL_spec_l11Same : List (Nat × List Tmp) := [(4, [0, 1, 5])]
noncomputable def X_spec_l11Same : List Value → Mem → Option VM
  | [t0, t1], m =>
    (nilX t0) |> bo fun t7 =>
    (fadX 1 t7) |> bo fun t8 =>
    (ld1 m t8) |> bo fun t9 =>
    (cvBS m t9) |> bo fun t10 =>
    (nilX t1) |> bo fun t12 =>
    (fadX 1 t12) |> bo fun t13 =>
    (ld1 m t13) |> bo fun t14 =>
    (cvBS m t14) |> bo fun t15 =>
    (binX .neq .no t10 t15) |> bo fun t16 =>
    (gd t16 false (some (t0, m)) m) |> bo fun r10 =>
    (gd t16 false ((nilX r10.1) |> bo fun v => some (v, r10.2)) r10.2) |> bo fun r11 =>
    (gd t16 false ((fadX 2 r11.1) |> bo fun v => some (v, r11.2)) r11.2) |> bo fun r12 =>
    (gd t16 false ((ld1 r12.2 r12.1) |> bo fun v => some (v, r12.2)) r12.2) |> bo fun r13 =>
    (gd t16 false (some (t1, r13.2)) r13.2) |> bo fun r14 =>
    (gd t16 false ((nilX r14.1) |> bo fun v => some (v, r14.2)) r14.2) |> bo fun r15 =>
    (gd t16 false ((fadX 2 r15.1) |> bo fun v => some (v, r15.2)) r15.2) |> bo fun r16 =>
    (gd t16 false ((ld1 r16.2 r16.1) |> bo fun v => some (v, r16.2)) r16.2) |> bo fun r17 =>
    (gd t16 false ((binX .neq .bool r13.1 r17.1) |> bo fun v => some (v, r17.2)) r17.2) |> bo fun r18 =>
    (pickX t16 (.bool true) r18.1) |> bo fun t27 =>
    (gd t27 false (some (t0, r18.2)) r18.2) |> bo fun r20 =>
    (gd t27 false ((nilX r20.1) |> bo fun v => some (v, r20.2)) r20.2) |> bo fun r21 =>
    (gd t27 false ((fadX 3 r21.1) |> bo fun v => some (v, r21.2)) r21.2) |> bo fun r22 =>
    (gd t27 false ((ld1 r22.2 r22.1) |> bo fun v => some (v, r22.2)) r22.2) |> bo fun r23 =>
    (gd t27 false (some (t1, r23.2)) r23.2) |> bo fun r24 =>
    (gd t27 false ((nilX r24.1) |> bo fun v => some (v, r24.2)) r24.2) |> bo fun r25 =>
    (gd t27 false ((fadX 3 r25.1) |> bo fun v => some (v, r25.2)) r25.2) |> bo fun r26 =>
    (gd t27 false ((ld1 r26.2 r26.1) |> bo fun v => some (v, r26.2)) r26.2) |> bo fun r27 =>
    (gd t27 false ((binX .neq .no r23.1 r27.1) |> bo fun v => some (v, r27.2)) r27.2) |> bo fun r28 =>
    (pickX t27 (.bool true) r28.1) |> bo fun t38 =>
    (gd t38 false (some (t0, r28.2)) r28.2) |> bo fun r30 =>
    (gd t38 false ((nilX r30.1) |> bo fun v => some (v, r30.2)) r30.2) |> bo fun r31 =>
    (gd t38 false ((fadX 0 r31.1) |> bo fun v => some (v, r31.2)) r31.2) |> bo fun r32 =>
    (gd t38 false ((ld1 r32.2 r32.1) |> bo fun v => some (v, r32.2)) r32.2) |> bo fun r33 =>
    (gd t38 false ((lenX r33.1) |> bo fun v => some (v, r33.2)) r33.2) |> bo fun r34 =>
    (gd t38 false (some (t1, r34.2)) r34.2) |> bo fun r35 =>
    (gd t38 false ((nilX r35.1) |> bo fun v => some (v, r35.2)) r35.2) |> bo fun r36 =>
    (gd t38 false ((fadX 0 r36.1) |> bo fun v => some (v, r36.2)) r36.2) |> bo fun r37 =>
    (gd t38 false ((ld1 r37.2 r37.1) |> bo fun v => some (v, r37.2)) r37.2) |> bo fun r38 =>
    (gd t38 false ((lenX r38.1) |> bo fun v => some (v, r38.2)) r38.2) |> bo fun r39 =>
    (gd t38 false ((binX .neq .no r34.1 r39.1) |> bo fun v => some (v, r39.2)) r39.2) |> bo fun r40 =>
    (pickX t38 (.bool true) r40.1) |> bo fun t51 =>
    brX t51
      (
        retK m.length r40.2 [t0, t1] (.bool false))
      (
        cutK m.length r40.2 [t0, t1] [t0, t1, (.int .i64 0)] (L_spec_l11Same m.length QQ 0))
  | _, _ => none
noncomputable def C_spec_l11Same : List Value → Mem → Option VM := fcall X_spec_l11Same
@[simp] theorem c_spec_l11Same : C_spec_l11Same = fcall X_spec_l11Same := (rfl)
theorem cok_spec_l11Same : codeOk CT Try.f135 (Try.f135.body.get rfl) = true := by kernel_rfl
theorem xe_spec_l11Same (t0 t1 : Value) (m : Mem) : ex CT cf_spec_l11Same Try.f135 2 m.length LL_spec_l11Same (J_spec_l11Same m.length QQ) 400 [.code (Try.f135.body.get rfl)] (argsT 0 [t0, t1]) m = X_spec_l11Same [t0, t1] m := by kernel_rfl
theorem okc_spec_l11Same : CallOK CT cf_spec_l11Same := cfn_ok
theorem le_spec_l11Same_0 (k q : Nat) (t0 t1 t5 : Value) (m : Mem) : ex CT cf_spec_l11Same Try.f135 2 k LL_spec_l11Same (J_spec_l11Same k q) 400 (atLoop Try.f135 0) [(0, t0), (1, t1), (5, t5)] m = J_spec_l11Same k (q + 1) 4 [t0, t1, t5] m := by kernel_rfl
theorem gl_spec_l11Same (k : Nat) : ∀ q i, i < 1 → GoodL CT k Try.f135 LL_spec_l11Same (J_spec_l11Same k q) (atLoop Try.f135 i)
  | 0, 0, _ => goodL_zero (l := 4) (by kernel_rfl) (fun vs m => by kernel_rfl)
  | 0, _ + 1, h => absurd h (by omega)
  | q + 1, 0, _ => goodL_succ (np := 2) (l := 4) (live := [0, 1, 5]) (n := 1) CT_ok rfl okc_spec_l11Same (c := (Try.f135.body.get rfl)) rfl cok_spec_l11Same (by kernel_rfl) (gl_spec_l11Same k q) (by kernel_rfl) rfl (fun vs m r hl h => match vs, hl with
    | [t0, t1, t5], _ => (le_spec_l11Same_0 k q t0 t1 t5 m).trans h)
  | _ + 1, _ + 1, h => absurd h (by omega)
theorem ok_X_spec_l11Same : OkX CT 135 X_spec_l11Same := OkX.of_ex (cf := cf_spec_l11Same) (np := 2) (LL := LL_spec_l11Same) (J := (fun k => J_spec_l11Same k QQ)) CT_ok rfl Try.func135 rfl (Nat.le_of_ble_eq_true rfl) (by decide) cok_spec_l11Same okc_spec_l11Same (fun k => allLoops rfl (by kernel_rfl) (gl_spec_l11Same k QQ)) (fun args m r h => match args, h with
    | [t0, t1], h => ⟨rfl, (xe_spec_l11Same t0 t1 m).trans h⟩)
theorem ok_C_spec_l11Same : OkC CT 135 C_spec_l11Same := fcall_ok rfl ok_X_spec_l11Same

/-! ### spec.l13Same -/
noncomputable def cf_spec_l13Same : CallF := cfc 134 C_spec_l6Same (cfc 135 C_spec_l11Same cfn)
noncomputable def X_spec_l13Same : List Value → Mem → Option VM
  | [t0, t1], m =>
    (nilX t0) |> bo fun t6 =>
    (fadX 0 t6) |> bo fun t7 =>
    (nilX t1) |> bo fun t9 =>
    (fadX 0 t9) |> bo fun t10 =>
    (C_spec_l6Same [t7, t10] m) |> bo fun r5 =>
    (gd r5.1 true (some (t0, r5.2)) r5.2) |> bo fun r6 =>
    (gd r5.1 true ((nilX r6.1) |> bo fun v => some (v, r6.2)) r6.2) |> bo fun r7 =>
    (gd r5.1 true ((fadX 27 r7.1) |> bo fun v => some (v, r7.2)) r7.2) |> bo fun r8 =>
    (gd r5.1 true ((ldS r8.2 7 r8.1) |> bo fun v => some (v, r8.2)) r8.2) |> bo fun r9 =>
    (gd r5.1 true (some (t1, r9.2)) r9.2) |> bo fun r10 =>
    (gd r5.1 true ((nilX r10.1) |> bo fun v => some (v, r10.2)) r10.2) |> bo fun r11 =>
    (gd r5.1 true ((fadX 27 r11.1) |> bo fun v => some (v, r11.2)) r11.2) |> bo fun r12 =>
    (gd r5.1 true ((ldS r12.2 7 r12.1) |> bo fun v => some (v, r12.2)) r12.2) |> bo fun r13 =>
    (gd r5.1 true ((binX .eql (.st [0, 1, 2, 3, 4, 5, 6]) r9.1 r13.1) |> bo fun v => some (v, r13.2)) r13.2) |> bo fun r14 =>
    (pickX r5.1 r14.1 (.bool false)) |> bo fun t22 =>
    (gd t22 true (some (t0, r14.2)) r14.2) |> bo fun r16 =>
    (gd t22 true ((nilX r16.1) |> bo fun v => some (v, r16.2)) r16.2) |> bo fun r17 =>
    (gd t22 true ((fadX 34 r17.1) |> bo fun v => some (v, r17.2)) r17.2) |> bo fun r18 =>
    (gd t22 true (some (t1, r18.2)) r18.2) |> bo fun r19 =>
    (gd t22 true ((nilX r19.1) |> bo fun v => some (v, r19.2)) r19.2) |> bo fun r20 =>
    (gd t22 true ((fadX 34 r20.1) |> bo fun v => some (v, r20.2)) r20.2) |> bo fun r21 =>
    (gd t22 true ((C_spec_l11Same [r18.1, r21.1] r21.2) |> bo fun r => some (r.1, r.2)) r21.2) |> bo fun r22 =>
    (pickX t22 r22.1 (.bool false)) |> bo fun t31 =>
    retK m.length r22.2 [t0, t1] t31
  | _, _ => none
noncomputable def C_spec_l13Same : List Value → Mem → Option VM := fcall X_spec_l13Same
@[simp] theorem c_spec_l13Same : C_spec_l13Same = fcall X_spec_l13Same := (rfl)
theorem cok_spec_l13Same : codeOk CT Try.f89 (Try.f89.body.get rfl) = true := by kernel_rfl
theorem xe_spec_l13Same (t0 t1 : Value) (m : Mem) : ex CT cf_spec_l13Same Try.f89 2 m.length [] (fun _ _ _ => none) 400 [.code (Try.f89.body.get rfl)] (argsT 0 [t0, t1]) m = X_spec_l13Same [t0, t1] m := by kernel_rfl
theorem okc_spec_l13Same : CallOK CT cf_spec_l13Same := cfc_ok ok_C_spec_l6Same (cfc_ok ok_C_spec_l11Same cfn_ok)
theorem ok_X_spec_l13Same : OkX CT 89 X_spec_l13Same := OkX.of_ex (cf := cf_spec_l13Same) (np := 2) (LL := []) (J := (fun _ _ _ _ => none)) CT_ok rfl Try.func89 rfl (Nat.le_of_ble_eq_true rfl) (by decide) cok_spec_l13Same okc_spec_l13Same (fun k => noLoops rfl) (fun args m r h => match args, h with
    | [t0, t1], h => ⟨rfl, (xe_spec_l13Same t0 t1 m).trans h⟩)
theorem ok_C_spec_l13Same : OkC CT 89 C_spec_l13Same := fcall_ok rfl ok_X_spec_l13Same

/-! ### spec.SameConsoles -/
noncomputable def cf_spec_SameConsoles : CallF := cfc 89 C_spec_l13Same cfn
noncomputable def X_spec_SameConsoles : List Value → Mem → Option VM
  | [t0, t1], m =>
    (boxX m t0) |> bo fun r1 =>
    (boxX r1.2 t1) |> bo fun r2 =>
    (C_spec_l13Same [r1.1, r2.1] r2.2) |> bo fun r3 =>
    retK m.length r3.2 [t0, t1] r3.1
  | _, _ => none
noncomputable def C_spec_SameConsoles : List Value → Mem → Option VM := fcall X_spec_SameConsoles
@[simp] theorem c_spec_SameConsoles : C_spec_SameConsoles = fcall X_spec_SameConsoles := (rfl)
theorem cok_spec_SameConsoles : codeOk CT Try.f43 (Try.f43.body.get rfl) = true := by kernel_rfl
theorem xe_spec_SameConsoles (t0 t1 : Value) (m : Mem) : ex CT cf_spec_SameConsoles Try.f43 2 m.length [] (fun _ _ _ => none) 400 [.code (Try.f43.body.get rfl)] (argsT 0 [t0, t1]) m = X_spec_SameConsoles [t0, t1] m := by kernel_rfl
theorem okc_spec_SameConsoles : CallOK CT cf_spec_SameConsoles := cfc_ok ok_C_spec_l13Same cfn_ok
theorem ok_X_spec_SameConsoles : OkX CT 43 X_spec_SameConsoles := OkX.of_ex (cf := cf_spec_SameConsoles) (np := 2) (LL := []) (J := (fun _ _ _ _ => none)) CT_ok rfl Try.func43 rfl (Nat.le_of_ble_eq_true rfl) (by decide) cok_spec_SameConsoles okc_spec_SameConsoles (fun k => noLoops rfl) (fun args m r h => match args, h with
    | [t0, t1], h => ⟨rfl, (xe_spec_SameConsoles t0 t1 m).trans h⟩)
theorem ok_C_spec_SameConsoles : OkC CT 43 C_spec_SameConsoles := fcall_ok rfl ok_X_spec_SameConsoles

/-! ### laws.toWay -/
noncomputable def cf_laws_toWay : CallF := cfn
noncomputable def X_laws_toWay : List Value → Mem → Option VM
  | [t0], m =>
    (boxX m t0) |> bo fun r1 =>
    (alX r1.2 [.int .i64 0, .int .i64 0, .int .i64 0, .int .i64 0, .int .i64 0, .int .i64 0, .int .i64 0]) |> bo fun r2 =>
    (alX r2.2 [.int .i64 0, .int .i64 0, .int .i64 0, .int .i64 0, .int .i64 0, .int .i64 0, .int .i64 0]) |> bo fun r3 =>
    (fadX 0 r1.1) |> bo fun t4 =>
    (ld1 r3.2 t4) |> bo fun t5 =>
    (fadX 0 r3.1) |> bo fun t6 =>
    (stX r3.2 1 t6 t5) |> bo fun m7 =>
    (fadX 1 r1.1) |> bo fun t7 =>
    (ld1 m7 t7) |> bo fun t8 =>
    (fadX 1 r3.1) |> bo fun t9 =>
    (stX m7 1 t9 t8) |> bo fun m11 =>
    (fadX 2 r1.1) |> bo fun t10 =>
    (ld1 m11 t10) |> bo fun t11 =>
    (fadX 2 r3.1) |> bo fun t12 =>
    (stX m11 1 t12 t11) |> bo fun m15 =>
    (fadX 3 r1.1) |> bo fun t13 =>
    (ld1 m15 t13) |> bo fun t14 =>
    (fadX 3 r3.1) |> bo fun t15 =>
    (stX m15 1 t15 t14) |> bo fun m19 =>
    (fadX 4 r1.1) |> bo fun t16 =>
    (ld1 m19 t16) |> bo fun t17 =>
    (fadX 4 r3.1) |> bo fun t18 =>
    (stX m19 1 t18 t17) |> bo fun m23 =>
    (fadX 5 r1.1) |> bo fun t19 =>
    (ld1 m23 t19) |> bo fun t20 =>
    (fadX 5 r3.1) |> bo fun t21 =>
    (stX m23 1 t21 t20) |> bo fun m27 =>
    (fadX 6 r1.1) |> bo fun t22 =>
    (ld1 m27 t22) |> bo fun t23 =>
    (fadX 6 r3.1) |> bo fun t24 =>
    (stX m27 1 t24 t23) |> bo fun m31 =>
    (ldS m31 7 r3.1) |> bo fun t25 =>
    (stX m31 7 r2.1 t25) |> bo fun m33 =>
    (resP (some 7) m33 r2.1) |> bo fun c34 =>
    retK m.length m33 [t0] c34
  | _, _ => none
noncomputable def C_laws_toWay : List Value → Mem → Option VM := fcall X_laws_toWay
@[simp] theorem c_laws_toWay : C_laws_toWay = fcall X_laws_toWay := (rfl)
theorem cok_laws_toWay : codeOk CT Try.f11 (Try.f11.body.get rfl) = true := by kernel_rfl
theorem xe_laws_toWay (t0 : Value) (m : Mem) : ex CT cf_laws_toWay Try.f11 1 m.length [] (fun _ _ _ => none) 400 [.code (Try.f11.body.get rfl)] (argsT 0 [t0]) m = X_laws_toWay [t0] m := by kernel_rfl
theorem okc_laws_toWay : CallOK CT cf_laws_toWay := cfn_ok
theorem ok_X_laws_toWay : OkX CT 11 X_laws_toWay := OkX.of_ex (cf := cf_laws_toWay) (np := 1) (LL := []) (J := (fun _ _ _ _ => none)) CT_ok rfl Try.func11 rfl (Nat.le_of_ble_eq_true rfl) (by decide) cok_laws_toWay okc_laws_toWay (fun k => noLoops rfl) (fun args m r h => match args, h with
    | [t0], h => ⟨rfl, (xe_laws_toWay t0 m).trans h⟩)
theorem ok_C_laws_toWay : OkC CT 11 C_laws_toWay := fcall_ok rfl ok_X_laws_toWay

/-! ### laws.toByteS -/
noncomputable def cf_laws_toByteS : CallF := cfn
noncomputable def L_laws_toByteS (k : Nat) : Nat → Nat → List Value → Mem → Option VM
  | q + 1, 0, [t0, t3, t4], m =>
    (lenX t0) |> bo fun t10 =>
    (binX .lss .no t4 t10) |> bo fun t11 =>
    brX t11
      (
        (ixaX 1 t0 t4) |> bo fun t18 =>
        (ld1 m t18) |> bo fun t19 =>
        (ixaX 1 t3 t4) |> bo fun t20 =>
        (stX m 1 t20 t19) |> bo fun m6 =>
        (binX .add .no t4 (.int .i64 1)) |> bo fun t13 =>
        cutK k m6 [t0] [t0, t3, t13] (L_laws_toByteS k q 0))
      (
        retK k m [t0] t3)
  | _, _, _, _ => none
noncomputable def J_laws_toByteS (k q l : Nat) : List Value → Mem → Option VM := cond (Nat.beq l 3) (L_laws_toByteS k q 0) (fun _ _ => none)
def LL_laws_toByteS : List (Nat × List Tmp) := [(3, [0, 3, 4])]
noncomputable def X_laws_toByteS : List Value → Mem → Option VM
  | [t0], m =>
    (lenX t0) |> bo fun t6 =>
    (mkX m 1 1 [.int .u8 0] t6 t6) |> bo fun r2 =>
    cutK m.length r2.2 [t0] [t0, r2.1, (.int .i64 0)] (L_laws_toByteS m.length QQ 0)
  | _, _ => none
noncomputable def C_laws_toByteS : List Value → Mem → Option VM := icall X_laws_toByteS
@[simp] theorem c_laws_toByteS : C_laws_toByteS = icall X_laws_toByteS := (rfl)
theorem cok_laws_toByteS : codeOk CT Try.f20 (Try.f20.body.get rfl) = true := by kernel_rfl
theorem xe_laws_toByteS (t0 : Value) (m : Mem) : ex CT cf_laws_toByteS Try.f20 1 m.length LL_laws_toByteS (J_laws_toByteS m.length QQ) 400 [.code (Try.f20.body.get rfl)] (argsT 0 [t0]) m = X_laws_toByteS [t0] m := by kernel_rfl
theorem okc_laws_toByteS : CallOK CT cf_laws_toByteS := cfn_ok
theorem le_laws_toByteS_0 (k q : Nat) (t0 t3 t4 : Value) (m : Mem) : ex CT cf_laws_toByteS Try.f20 1 k LL_laws_toByteS (J_laws_toByteS k q) 400 (atLoop Try.f20 0) [(0, t0), (3, t3), (4, t4)] m = J_laws_toByteS k (q + 1) 3 [t0, t3, t4] m := by kernel_rfl
theorem gl_laws_toByteS (k : Nat) : ∀ q i, i < 1 → GoodL CT k Try.f20 LL_laws_toByteS (J_laws_toByteS k q) (atLoop Try.f20 i)
  | 0, 0, _ => goodL_zero (l := 3) (by kernel_rfl) (fun vs m => by kernel_rfl)
  | 0, _ + 1, h => absurd h (by omega)
  | q + 1, 0, _ => goodL_succ (np := 1) (l := 3) (live := [0, 3, 4]) (n := 1) CT_ok rfl okc_laws_toByteS (c := (Try.f20.body.get rfl)) rfl cok_laws_toByteS (by kernel_rfl) (gl_laws_toByteS k q) (by kernel_rfl) rfl (fun vs m r hl h => match vs, hl with
    | [t0, t3, t4], _ => (le_laws_toByteS_0 k q t0 t3 t4 m).trans h)
  | _ + 1, _ + 1, h => absurd h (by omega)
theorem ok_X_laws_toByteS : OkX CT 20 X_laws_toByteS := OkX.of_ex (cf := cf_laws_toByteS) (np := 1) (LL := LL_laws_toByteS) (J := (fun k => J_laws_toByteS k QQ)) CT_ok rfl Try.func20 rfl (Nat.le_of_ble_eq_true rfl) (by decide) cok_laws_toByteS okc_laws_toByteS (fun k => allLoops rfl (by kernel_rfl) (gl_laws_toByteS k QQ)) (fun args m r h => match args, h with
    | [t0], h => ⟨rfl, (xe_laws_toByteS t0 m).trans h⟩)
theorem ok_C_laws_toByteS : OkC CT 20 C_laws_toByteS := icall_ok rfl ok_X_laws_toByteS

/-! ### laws.toByteSS -/
noncomputable def cf_laws_toByteSS : CallF := cfc 20 C_laws_toByteS cfn
noncomputable def L_laws_toByteSS (k : Nat) : Nat → Nat → List Value → Mem → Option VM
  | q + 1, 0, [t0, t3, t4], m =>
    (lenX t0) |> bo fun t10 =>
    (binX .lss .no t4 t10) |> bo fun t11 =>
    brX t11
      (
        (ixaX 1 t0 t4) |> bo fun t18 =>
        (ld1 m t18) |> bo fun t19 =>
        (C_laws_toByteS [t19] m) |> bo fun r5 =>
        (ixaX 1 t3 t4) |> bo fun t21 =>
        (stX r5.2 1 t21 r5.1) |> bo fun m7 =>
        (binX .add .no t4 (.int .i64 1)) |> bo fun t13 =>
        cutK k m7 [t0] [t0, t3, t13] (L_laws_toByteSS k q 0))
      (
        retK k m [t0] t3)
  | _, _, _, _ => none
noncomputable def J_laws_toByteSS (k q l : Nat) : List Value → Mem → Option VM := cond (Nat.beq l 3) (L_laws_toByteSS k q 0) (fun _ _ => none)
def LL_laws_toByteSS : List (Nat × List Tmp) := [(3, [0, 3, 4])]
noncomputable def X_laws_toByteSS : List Value → Mem → Option VM
  | [t0], m =>
    (lenX t0) |> bo fun t6 =>
    (mkX m 1 24 [.slice none 0 0] t6 t6) |> bo fun r2 =>
    cutK m.length r2.2 [t0] [t0, r2.1, (.int .i64 0)] (L_laws_toByteSS m.length QQ 0)
  | _, _ => none
noncomputable def C_laws_toByteSS : List Value → Mem → Option VM := icall X_laws_toByteSS
@[simp] theorem c_laws_toByteSS : C_laws_toByteSS = icall X_laws_toByteSS := (rfl)
theorem cok_laws_toByteSS : codeOk CT Try.f52 (Try.f52.body.get rfl) = true := by kernel_rfl
theorem xe_laws_toByteSS (t0 : Value) (m : Mem) : ex CT cf_laws_toByteSS Try.f52 1 m.length LL_laws_toByteSS (J_laws_toByteSS m.length QQ) 400 [.code (Try.f52.body.get rfl)] (argsT 0 [t0]) m = X_laws_toByteSS [t0] m := by kernel_rfl
theorem okc_laws_toByteSS : CallOK CT cf_laws_toByteSS := cfc_ok ok_C_laws_toByteS cfn_ok
theorem le_laws_toByteSS_0 (k q : Nat) (t0 t3 t4 : Value) (m : Mem) : ex CT cf_laws_toByteSS Try.f52 1 k LL_laws_toByteSS (J_laws_toByteSS k q) 400 (atLoop Try.f52 0) [(0, t0), (3, t3), (4, t4)] m = J_laws_toByteSS k (q + 1) 3 [t0, t3, t4] m := by kernel_rfl
theorem gl_laws_toByteSS (k : Nat) : ∀ q i, i < 1 → GoodL CT k Try.f52 LL_laws_toByteSS (J_laws_toByteSS k q) (atLoop Try.f52 i)
  | 0, 0, _ => goodL_zero (l := 3) (by kernel_rfl) (fun vs m => by kernel_rfl)
  | 0, _ + 1, h => absurd h (by omega)
  | q + 1, 0, _ => goodL_succ (np := 1) (l := 3) (live := [0, 3, 4]) (n := 1) CT_ok rfl okc_laws_toByteSS (c := (Try.f52.body.get rfl)) rfl cok_laws_toByteSS (by kernel_rfl) (gl_laws_toByteSS k q) (by kernel_rfl) rfl (fun vs m r hl h => match vs, hl with
    | [t0, t3, t4], _ => (le_laws_toByteSS_0 k q t0 t3 t4 m).trans h)
  | _ + 1, _ + 1, h => absurd h (by omega)
theorem ok_X_laws_toByteSS : OkX CT 52 X_laws_toByteSS := OkX.of_ex (cf := cf_laws_toByteSS) (np := 1) (LL := LL_laws_toByteSS) (J := (fun k => J_laws_toByteSS k QQ)) CT_ok rfl Try.func52 rfl (Nat.le_of_ble_eq_true rfl) (by decide) cok_laws_toByteSS okc_laws_toByteSS (fun k => allLoops rfl (by kernel_rfl) (gl_laws_toByteSS k QQ)) (fun args m r h => match args, h with
    | [t0], h => ⟨rfl, (xe_laws_toByteSS t0 m).trans h⟩)
theorem ok_C_laws_toByteSS : OkC CT 52 C_laws_toByteSS := icall_ok rfl ok_X_laws_toByteSS

/-! ### laws.toLine -/
noncomputable def cf_laws_toLine : CallF := cfc 20 C_laws_toByteS (cfc 52 C_laws_toByteSS cfn)
noncomputable def X_laws_toLine : List Value → Mem → Option VM
  | [t0], m =>
    (boxX m t0) |> bo fun r1 =>
    (alX r1.2 [.slice none 0 0, .slice none 0 0, .bool false, .int .i64 0]) |> bo fun r2 =>
    (alX r2.2 [.slice none 0 0, .slice none 0 0, .bool false, .int .i64 0]) |> bo fun r3 =>
    (fadX 0 r1.1) |> bo fun t4 =>
    (ld1 r3.2 t4) |> bo fun t5 =>
    (C_laws_toByteSS [t5] r3.2) |> bo fun r6 =>
    (fadX 0 r3.1) |> bo fun t7 =>
    (stX r6.2 1 t7 r6.1) |> bo fun m8 =>
    (fadX 1 r1.1) |> bo fun t8 =>
    (ld1 m8 t8) |> bo fun t9 =>
    (C_laws_toByteS [t9] m8) |> bo fun r11 =>
    (fadX 1 r3.1) |> bo fun t11 =>
    (stX r11.2 1 t11 r11.1) |> bo fun m13 =>
    (fadX 2 r1.1) |> bo fun t12 =>
    (ld1 m13 t12) |> bo fun t13 =>
    (fadX 2 r3.1) |> bo fun t14 =>
    (stX m13 1 t14 t13) |> bo fun m17 =>
    (fadX 3 r1.1) |> bo fun t15 =>
    (ld1 m17 t15) |> bo fun t16 =>
    (fadX 3 r3.1) |> bo fun t17 =>
    (stX m17 1 t17 t16) |> bo fun m21 =>
    (ldS m21 4 r3.1) |> bo fun t18 =>
    (stX m21 4 r2.1 t18) |> bo fun m23 =>
    (resP (some 4) m23 r2.1) |> bo fun c24 =>
    retK m.length m23 [t0] c24
  | _, _ => none
noncomputable def C_laws_toLine : List Value → Mem → Option VM := icall X_laws_toLine
@[simp] theorem c_laws_toLine : C_laws_toLine = icall X_laws_toLine := (rfl)
theorem cok_laws_toLine : codeOk CT Try.f12 (Try.f12.body.get rfl) = true := by kernel_rfl
theorem xe_laws_toLine (t0 : Value) (m : Mem) : ex CT cf_laws_toLine Try.f12 1 m.length [] (fun _ _ _ => none) 400 [.code (Try.f12.body.get rfl)] (argsT 0 [t0]) m = X_laws_toLine [t0] m := by kernel_rfl
theorem okc_laws_toLine : CallOK CT cf_laws_toLine := cfc_ok ok_C_laws_toByteS (cfc_ok ok_C_laws_toByteSS cfn_ok)
theorem ok_X_laws_toLine : OkX CT 12 X_laws_toLine := OkX.of_ex (cf := cf_laws_toLine) (np := 1) (LL := []) (J := (fun _ _ _ _ => none)) CT_ok rfl Try.func12 rfl (Nat.le_of_ble_eq_true rfl) (by decide) cok_laws_toLine okc_laws_toLine (fun k => noLoops rfl) (fun args m r h => match args, h with
    | [t0], h => ⟨rfl, (xe_laws_toLine t0 m).trans h⟩)
theorem ok_C_laws_toLine : OkC CT 12 C_laws_toLine := icall_ok rfl ok_X_laws_toLine

/-! ### laws.toDecoder -/
noncomputable def cf_laws_toDecoder : CallF := cfn
noncomputable def X_laws_toDecoder : List Value → Mem → Option VM
  | [t0], m =>
    (boxX m t0) |> bo fun r1 =>
    (alX r1.2 [.int .i64 0, .int .i64 0, .int .i64 0]) |> bo fun r2 =>
    (alX r2.2 [.int .i64 0, .int .i64 0, .int .i64 0]) |> bo fun r3 =>
    (fadX 0 r1.1) |> bo fun t4 =>
    (ld1 r3.2 t4) |> bo fun t5 =>
    (fadX 0 r3.1) |> bo fun t6 =>
    (stX r3.2 1 t6 t5) |> bo fun m7 =>
    (fadX 1 r1.1) |> bo fun t7 =>
    (ld1 m7 t7) |> bo fun t8 =>
    (fadX 1 r3.1) |> bo fun t9 =>
    (stX m7 1 t9 t8) |> bo fun m11 =>
    (fadX 2 r1.1) |> bo fun t10 =>
    (ld1 m11 t10) |> bo fun t11 =>
    (fadX 2 r3.1) |> bo fun t12 =>
    (stX m11 1 t12 t11) |> bo fun m15 =>
    (ldS m15 3 r3.1) |> bo fun t13 =>
    (stX m15 3 r2.1 t13) |> bo fun m17 =>
    (resP (some 3) m17 r2.1) |> bo fun c18 =>
    retK m.length m17 [t0] c18
  | _, _ => none
noncomputable def C_laws_toDecoder : List Value → Mem → Option VM := fcall X_laws_toDecoder
@[simp] theorem c_laws_toDecoder : C_laws_toDecoder = fcall X_laws_toDecoder := (rfl)
theorem cok_laws_toDecoder : codeOk CT Try.f73 (Try.f73.body.get rfl) = true := by kernel_rfl
theorem xe_laws_toDecoder (t0 : Value) (m : Mem) : ex CT cf_laws_toDecoder Try.f73 1 m.length [] (fun _ _ _ => none) 400 [.code (Try.f73.body.get rfl)] (argsT 0 [t0]) m = X_laws_toDecoder [t0] m := by kernel_rfl
theorem okc_laws_toDecoder : CallOK CT cf_laws_toDecoder := cfn_ok
theorem ok_X_laws_toDecoder : OkX CT 73 X_laws_toDecoder := OkX.of_ex (cf := cf_laws_toDecoder) (np := 1) (LL := []) (J := (fun _ _ _ _ => none)) CT_ok rfl Try.func73 rfl (Nat.le_of_ble_eq_true rfl) (by decide) cok_laws_toDecoder okc_laws_toDecoder (fun k => noLoops rfl) (fun args m r h => match args, h with
    | [t0], h => ⟨rfl, (xe_laws_toDecoder t0 m).trans h⟩)
theorem ok_C_laws_toDecoder : OkC CT 73 C_laws_toDecoder := fcall_ok rfl ok_X_laws_toDecoder

/-! ### laws.toInt64S -/
noncomputable def cf_laws_toInt64S : CallF := cfn
noncomputable def L_laws_toInt64S (k : Nat) : Nat → Nat → List Value → Mem → Option VM
  | q + 1, 0, [t0, t3, t4], m =>
    (lenX t0) |> bo fun t10 =>
    (binX .lss .no t4 t10) |> bo fun t11 =>
    brX t11
      (
        (ixaX 1 t0 t4) |> bo fun t18 =>
        (ld1 m t18) |> bo fun t19 =>
        (ixaX 1 t3 t4) |> bo fun t20 =>
        (stX m 1 t20 t19) |> bo fun m6 =>
        (binX .add .no t4 (.int .i64 1)) |> bo fun t13 =>
        cutK k m6 [t0] [t0, t3, t13] (L_laws_toInt64S k q 0))
      (
        retK k m [t0] t3)
  | _, _, _, _ => none
noncomputable def J_laws_toInt64S (k q l : Nat) : List Value → Mem → Option VM := cond (Nat.beq l 3) (L_laws_toInt64S k q 0) (fun _ _ => none)
def LL_laws_toInt64S : List (Nat × List Tmp) := [(3, [0, 3, 4])]
noncomputable def X_laws_toInt64S : List Value → Mem → Option VM
  | [t0], m =>
    (lenX t0) |> bo fun t6 =>
    (mkX m 1 8 [.int .i64 0] t6 t6) |> bo fun r2 =>
    cutK m.length r2.2 [t0] [t0, r2.1, (.int .i64 0)] (L_laws_toInt64S m.length QQ 0)
  | _, _ => none
noncomputable def C_laws_toInt64S : List Value → Mem → Option VM := fcall X_laws_toInt64S
@[simp] theorem c_laws_toInt64S : C_laws_toInt64S = fcall X_laws_toInt64S := (rfl)
theorem cok_laws_toInt64S : codeOk CT Try.f116 (Try.f116.body.get rfl) = true := by kernel_rfl
theorem xe_laws_toInt64S (t0 : Value) (m : Mem) : ex CT cf_laws_toInt64S Try.f116 1 m.length LL_laws_toInt64S (J_laws_toInt64S m.length QQ) 400 [.code (Try.f116.body.get rfl)] (argsT 0 [t0]) m = X_laws_toInt64S [t0] m := by kernel_rfl
theorem okc_laws_toInt64S : CallOK CT cf_laws_toInt64S := cfn_ok
theorem le_laws_toInt64S_0 (k q : Nat) (t0 t3 t4 : Value) (m : Mem) : ex CT cf_laws_toInt64S Try.f116 1 k LL_laws_toInt64S (J_laws_toInt64S k q) 400 (atLoop Try.f116 0) [(0, t0), (3, t3), (4, t4)] m = J_laws_toInt64S k (q + 1) 3 [t0, t3, t4] m := by kernel_rfl
theorem gl_laws_toInt64S (k : Nat) : ∀ q i, i < 1 → GoodL CT k Try.f116 LL_laws_toInt64S (J_laws_toInt64S k q) (atLoop Try.f116 i)
  | 0, 0, _ => goodL_zero (l := 3) (by kernel_rfl) (fun vs m => by kernel_rfl)
  | 0, _ + 1, h => absurd h (by omega)
  | q + 1, 0, _ => goodL_succ (np := 1) (l := 3) (live := [0, 3, 4]) (n := 1) CT_ok rfl okc_laws_toInt64S (c := (Try.f116.body.get rfl)) rfl cok_laws_toInt64S (by kernel_rfl) (gl_laws_toInt64S k q) (by kernel_rfl) rfl (fun vs m r hl h => match vs, hl with
    | [t0, t3, t4], _ => (le_laws_toInt64S_0 k q t0 t3 t4 m).trans h)
  | _ + 1, _ + 1, h => absurd h (by omega)
theorem ok_X_laws_toInt64S : OkX CT 116 X_laws_toInt64S := OkX.of_ex (cf := cf_laws_toInt64S) (np := 1) (LL := LL_laws_toInt64S) (J := (fun k => J_laws_toInt64S k QQ)) CT_ok rfl Try.func116 rfl (Nat.le_of_ble_eq_true rfl) (by decide) cok_laws_toInt64S okc_laws_toInt64S (fun k => allLoops rfl (by kernel_rfl) (gl_laws_toInt64S k QQ)) (fun args m r h => match args, h with
    | [t0], h => ⟨rfl, (xe_laws_toInt64S t0 m).trans h⟩)
theorem ok_C_laws_toInt64S : OkC CT 116 C_laws_toInt64S := fcall_ok rfl ok_X_laws_toInt64S

/-! ### laws.toParser -/
noncomputable def cf_laws_toParser : CallF := cfc 116 C_laws_toInt64S cfn
noncomputable def X_laws_toParser : List Value → Mem → Option VM
  | [t0], m =>
    (boxX m t0) |> bo fun r1 =>
    (alX r1.2 [.int .i64 0, .int .i64 0, .bool false, .slice none 0 0]) |> bo fun r2 =>
    (alX r2.2 [.int .i64 0, .int .i64 0, .bool false, .slice none 0 0]) |> bo fun r3 =>
    (fadX 0 r1.1) |> bo fun t4 =>
    (ld1 r3.2 t4) |> bo fun t5 =>
    (fadX 0 r3.1) |> bo fun t6 =>
    (stX r3.2 1 t6 t5) |> bo fun m7 =>
    (fadX 1 r1.1) |> bo fun t7 =>
    (ld1 m7 t7) |> bo fun t8 =>
    (fadX 1 r3.1) |> bo fun t9 =>
    (stX m7 1 t9 t8) |> bo fun m11 =>
    (fadX 2 r1.1) |> bo fun t10 =>
    (ld1 m11 t10) |> bo fun t11 =>
    (fadX 2 r3.1) |> bo fun t12 =>
    (stX m11 1 t12 t11) |> bo fun m15 =>
    (fadX 3 r1.1) |> bo fun t13 =>
    (ld1 m15 t13) |> bo fun t14 =>
    (C_laws_toInt64S [t14] m15) |> bo fun r18 =>
    (fadX 3 r3.1) |> bo fun t16 =>
    (stX r18.2 1 t16 r18.1) |> bo fun m20 =>
    (ldS m20 4 r3.1) |> bo fun t17 =>
    (stX m20 4 r2.1 t17) |> bo fun m22 =>
    (resP (some 4) m22 r2.1) |> bo fun c23 =>
    retK m.length m22 [t0] c23
  | _, _ => none
noncomputable def C_laws_toParser : List Value → Mem → Option VM := fcall X_laws_toParser
@[simp] theorem c_laws_toParser : C_laws_toParser = fcall X_laws_toParser := (rfl)
theorem cok_laws_toParser : codeOk CT Try.f74 (Try.f74.body.get rfl) = true := by kernel_rfl
theorem xe_laws_toParser (t0 : Value) (m : Mem) : ex CT cf_laws_toParser Try.f74 1 m.length [] (fun _ _ _ => none) 400 [.code (Try.f74.body.get rfl)] (argsT 0 [t0]) m = X_laws_toParser [t0] m := by kernel_rfl
theorem okc_laws_toParser : CallOK CT cf_laws_toParser := cfc_ok ok_C_laws_toInt64S cfn_ok
theorem ok_X_laws_toParser : OkX CT 74 X_laws_toParser := OkX.of_ex (cf := cf_laws_toParser) (np := 1) (LL := []) (J := (fun _ _ _ _ => none)) CT_ok rfl Try.func74 rfl (Nat.le_of_ble_eq_true rfl) (by decide) cok_laws_toParser okc_laws_toParser (fun k => noLoops rfl) (fun args m r h => match args, h with
    | [t0], h => ⟨rfl, (xe_laws_toParser t0 m).trans h⟩)
theorem ok_C_laws_toParser : OkC CT 74 C_laws_toParser := fcall_ok rfl ok_X_laws_toParser

/-! ### laws.toCell -/
noncomputable def cf_laws_toCell : CallF := cfn
noncomputable def X_laws_toCell : List Value → Mem → Option VM
  | [t0], m =>
    (boxX m t0) |> bo fun r1 =>
    (alX r1.2 [.int .i64 0, .int .i64 0]) |> bo fun r2 =>
    (alX r2.2 [.int .i64 0, .int .i64 0]) |> bo fun r3 =>
    (fadX 0 r1.1) |> bo fun t4 =>
    (ld1 r3.2 t4) |> bo fun t5 =>
    (fadX 0 r3.1) |> bo fun t6 =>
    (stX r3.2 1 t6 t5) |> bo fun m7 =>
    (fadX 1 r1.1) |> bo fun t7 =>
    (ld1 m7 t7) |> bo fun t8 =>
    (fadX 1 r3.1) |> bo fun t9 =>
    (stX m7 1 t9 t8) |> bo fun m11 =>
    (ldS m11 2 r3.1) |> bo fun t10 =>
    (stX m11 2 r2.1 t10) |> bo fun m13 =>
    (resP (some 2) m13 r2.1) |> bo fun c14 =>
    retK m.length m13 [t0] c14
  | _, _ => none
noncomputable def C_laws_toCell : List Value → Mem → Option VM := fcall X_laws_toCell
@[simp] theorem c_laws_toCell : C_laws_toCell = fcall X_laws_toCell := (rfl)
theorem cok_laws_toCell : codeOk CT Try.f200 (Try.f200.body.get rfl) = true := by kernel_rfl
theorem xe_laws_toCell (t0 : Value) (m : Mem) : ex CT cf_laws_toCell Try.f200 1 m.length [] (fun _ _ _ => none) 400 [.code (Try.f200.body.get rfl)] (argsT 0 [t0]) m = X_laws_toCell [t0] m := by kernel_rfl
theorem okc_laws_toCell : CallOK CT cf_laws_toCell := cfn_ok
theorem ok_X_laws_toCell : OkX CT 200 X_laws_toCell := OkX.of_ex (cf := cf_laws_toCell) (np := 1) (LL := []) (J := (fun _ _ _ _ => none)) CT_ok rfl Try.func200 rfl (Nat.le_of_ble_eq_true rfl) (by decide) cok_laws_toCell okc_laws_toCell (fun k => noLoops rfl) (fun args m r h => match args, h with
    | [t0], h => ⟨rfl, (xe_laws_toCell t0 m).trans h⟩)
theorem ok_C_laws_toCell : OkC CT 200 C_laws_toCell := fcall_ok rfl ok_X_laws_toCell

/-! ### laws.toCellS -/
noncomputable def cf_laws_toCellS : CallF := cfc 200 C_laws_toCell cfn
noncomputable def L_laws_toCellS (k : Nat) : Nat → Nat → List Value → Mem → Option VM
  | q + 1, 0, [t0, t3, t4], m =>
    (lenX t0) |> bo fun t10 =>
    (binX .lss .no t4 t10) |> bo fun t11 =>
    brX t11
      (
        (ixaX 2 t0 t4) |> bo fun t18 =>
        (ldS m 2 t18) |> bo fun t19 =>
        (C_laws_toCell [t19] m) |> bo fun r5 =>
        (ixaX 2 t3 t4) |> bo fun t21 =>
        (stX r5.2 2 t21 r5.1) |> bo fun m7 =>
        (binX .add .no t4 (.int .i64 1)) |> bo fun t13 =>
        cutK k m7 [t0] [t0, t3, t13] (L_laws_toCellS k q 0))
      (
        retK k m [t0] t3)
  | _, _, _, _ => none
noncomputable def J_laws_toCellS (k q l : Nat) : List Value → Mem → Option VM := cond (Nat.beq l 3) (L_laws_toCellS k q 0) (fun _ _ => none)
def LL_laws_toCellS : List (Nat × List Tmp) := [(3, [0, 3, 4])]
noncomputable def X_laws_toCellS : List Value → Mem → Option VM
  | [t0], m =>
    (lenX t0) |> bo fun t6 =>
    (mkX m 2 16 [.int .i64 0, .int .i64 0] t6 t6) |> bo fun r2 =>
    cutK m.length r2.2 [t0] [t0, r2.1, (.int .i64 0)] (L_laws_toCellS m.length QQ 0)
  | _, _ => none
noncomputable def C_laws_toCellS : List Value → Mem → Option VM := fcall X_laws_toCellS
@[simp] theorem c_laws_toCellS : C_laws_toCellS = fcall X_laws_toCellS := (rfl)
theorem cok_laws_toCellS : codeOk CT Try.f158 (Try.f158.body.get rfl) = true := by kernel_rfl
theorem xe_laws_toCellS (t0 : Value) (m : Mem) : ex CT cf_laws_toCellS Try.f158 1 m.length LL_laws_toCellS (J_laws_toCellS m.length QQ) 400 [.code (Try.f158.body.get rfl)] (argsT 0 [t0]) m = X_laws_toCellS [t0] m := by kernel_rfl
theorem okc_laws_toCellS : CallOK CT cf_laws_toCellS := cfc_ok ok_C_laws_toCell cfn_ok
theorem le_laws_toCellS_0 (k q : Nat) (t0 t3 t4 : Value) (m : Mem) : ex CT cf_laws_toCellS Try.f158 1 k LL_laws_toCellS (J_laws_toCellS k q) 400 (atLoop Try.f158 0) [(0, t0), (3, t3), (4, t4)] m = J_laws_toCellS k (q + 1) 3 [t0, t3, t4] m := by kernel_rfl
theorem gl_laws_toCellS (k : Nat) : ∀ q i, i < 1 → GoodL CT k Try.f158 LL_laws_toCellS (J_laws_toCellS k q) (atLoop Try.f158 i)
  | 0, 0, _ => goodL_zero (l := 3) (by kernel_rfl) (fun vs m => by kernel_rfl)
  | 0, _ + 1, h => absurd h (by omega)
  | q + 1, 0, _ => goodL_succ (np := 1) (l := 3) (live := [0, 3, 4]) (n := 1) CT_ok rfl okc_laws_toCellS (c := (Try.f158.body.get rfl)) rfl cok_laws_toCellS (by kernel_rfl) (gl_laws_toCellS k q) (by kernel_rfl) rfl (fun vs m r hl h => match vs, hl with
    | [t0, t3, t4], _ => (le_laws_toCellS_0 k q t0 t3 t4 m).trans h)
  | _ + 1, _ + 1, h => absurd h (by omega)
theorem ok_X_laws_toCellS : OkX CT 158 X_laws_toCellS := OkX.of_ex (cf := cf_laws_toCellS) (np := 1) (LL := LL_laws_toCellS) (J := (fun k => J_laws_toCellS k QQ)) CT_ok rfl Try.func158 rfl (Nat.le_of_ble_eq_true rfl) (by decide) cok_laws_toCellS okc_laws_toCellS (fun k => allLoops rfl (by kernel_rfl) (gl_laws_toCellS k QQ)) (fun args m r h => match args, h with
    | [t0], h => ⟨rfl, (xe_laws_toCellS t0 m).trans h⟩)
theorem ok_C_laws_toCellS : OkC CT 158 C_laws_toCellS := fcall_ok rfl ok_X_laws_toCellS

/-! ### laws.toGrid -/
noncomputable def cf_laws_toGrid : CallF := cfc 158 C_laws_toCellS cfn
noncomputable def X_laws_toGrid : List Value → Mem → Option VM
  | [t0], m =>
    (boxX m t0) |> bo fun r1 =>
    (alX r1.2 [.int .i64 0, .int .i64 0, .slice none 0 0, .slice none 0 0]) |> bo fun r2 =>
    (alX r2.2 [.int .i64 0, .int .i64 0, .slice none 0 0, .slice none 0 0]) |> bo fun r3 =>
    (fadX 0 r1.1) |> bo fun t4 =>
    (ld1 r3.2 t4) |> bo fun t5 =>
    (fadX 0 r3.1) |> bo fun t6 =>
    (stX r3.2 1 t6 t5) |> bo fun m7 =>
    (fadX 1 r1.1) |> bo fun t7 =>
    (ld1 m7 t7) |> bo fun t8 =>
    (fadX 1 r3.1) |> bo fun t9 =>
    (stX m7 1 t9 t8) |> bo fun m11 =>
    (fadX 2 r1.1) |> bo fun t10 =>
    (ld1 m11 t10) |> bo fun t11 =>
    (C_laws_toCellS [t11] m11) |> bo fun r14 =>
    (fadX 2 r3.1) |> bo fun t13 =>
    (stX r14.2 1 t13 r14.1) |> bo fun m16 =>
    (fadX 3 r1.1) |> bo fun t14 =>
    (ld1 m16 t14) |> bo fun t15 =>
    (C_laws_toCellS [t15] m16) |> bo fun r19 =>
    (fadX 3 r3.1) |> bo fun t17 =>
    (stX r19.2 1 t17 r19.1) |> bo fun m21 =>
    (ldS m21 4 r3.1) |> bo fun t18 =>
    (stX m21 4 r2.1 t18) |> bo fun m23 =>
    (resP (some 4) m23 r2.1) |> bo fun c24 =>
    retK m.length m23 [t0] c24
  | _, _ => none
noncomputable def C_laws_toGrid : List Value → Mem → Option VM := fcall X_laws_toGrid
@[simp] theorem c_laws_toGrid : C_laws_toGrid = fcall X_laws_toGrid := (rfl)
theorem cok_laws_toGrid : codeOk CT Try.f117 (Try.f117.body.get rfl) = true := by kernel_rfl
theorem xe_laws_toGrid (t0 : Value) (m : Mem) : ex CT cf_laws_toGrid Try.f117 1 m.length [] (fun _ _ _ => none) 400 [.code (Try.f117.body.get rfl)] (argsT 0 [t0]) m = X_laws_toGrid [t0] m := by kernel_rfl
theorem okc_laws_toGrid : CallOK CT cf_laws_toGrid := cfc_ok ok_C_laws_toCellS cfn_ok
theorem ok_X_laws_toGrid : OkX CT 117 X_laws_toGrid := OkX.of_ex (cf := cf_laws_toGrid) (np := 1) (LL := []) (J := (fun _ _ _ _ => none)) CT_ok rfl Try.func117 rfl (Nat.le_of_ble_eq_true rfl) (by decide) cok_laws_toGrid okc_laws_toGrid (fun k => noLoops rfl) (fun args m r h => match args, h with
    | [t0], h => ⟨rfl, (xe_laws_toGrid t0 m).trans h⟩)
theorem ok_C_laws_toGrid : OkC CT 117 C_laws_toGrid := fcall_ok rfl ok_X_laws_toGrid

/-! ### laws.toBoolS -/
noncomputable def cf_laws_toBoolS : CallF := cfn
noncomputable def L_laws_toBoolS (k : Nat) : Nat → Nat → List Value → Mem → Option VM
  | q + 1, 0, [t0, t3, t4], m =>
    (lenX t0) |> bo fun t10 =>
    (binX .lss .no t4 t10) |> bo fun t11 =>
    brX t11
      (
        (ixaX 1 t0 t4) |> bo fun t18 =>
        (ld1 m t18) |> bo fun t19 =>
        (ixaX 1 t3 t4) |> bo fun t20 =>
        (stX m 1 t20 t19) |> bo fun m6 =>
        (binX .add .no t4 (.int .i64 1)) |> bo fun t13 =>
        cutK k m6 [t0] [t0, t3, t13] (L_laws_toBoolS k q 0))
      (
        retK k m [t0] t3)
  | _, _, _, _ => none
noncomputable def J_laws_toBoolS (k q l : Nat) : List Value → Mem → Option VM := cond (Nat.beq l 3) (L_laws_toBoolS k q 0) (fun _ _ => none)
def LL_laws_toBoolS : List (Nat × List Tmp) := [(3, [0, 3, 4])]
noncomputable def X_laws_toBoolS : List Value → Mem → Option VM
  | [t0], m =>
    (lenX t0) |> bo fun t6 =>
    (mkX m 1 1 [.bool false] t6 t6) |> bo fun r2 =>
    cutK m.length r2.2 [t0] [t0, r2.1, (.int .i64 0)] (L_laws_toBoolS m.length QQ 0)
  | _, _ => none
noncomputable def C_laws_toBoolS : List Value → Mem → Option VM := fcall X_laws_toBoolS
@[simp] theorem c_laws_toBoolS : C_laws_toBoolS = fcall X_laws_toBoolS := (rfl)
theorem cok_laws_toBoolS : codeOk CT Try.f118 (Try.f118.body.get rfl) = true := by kernel_rfl
theorem xe_laws_toBoolS (t0 : Value) (m : Mem) : ex CT cf_laws_toBoolS Try.f118 1 m.length LL_laws_toBoolS (J_laws_toBoolS m.length QQ) 400 [.code (Try.f118.body.get rfl)] (argsT 0 [t0]) m = X_laws_toBoolS [t0] m := by kernel_rfl
theorem okc_laws_toBoolS : CallOK CT cf_laws_toBoolS := cfn_ok
theorem le_laws_toBoolS_0 (k q : Nat) (t0 t3 t4 : Value) (m : Mem) : ex CT cf_laws_toBoolS Try.f118 1 k LL_laws_toBoolS (J_laws_toBoolS k q) 400 (atLoop Try.f118 0) [(0, t0), (3, t3), (4, t4)] m = J_laws_toBoolS k (q + 1) 3 [t0, t3, t4] m := by kernel_rfl
theorem gl_laws_toBoolS (k : Nat) : ∀ q i, i < 1 → GoodL CT k Try.f118 LL_laws_toBoolS (J_laws_toBoolS k q) (atLoop Try.f118 i)
  | 0, 0, _ => goodL_zero (l := 3) (by kernel_rfl) (fun vs m => by kernel_rfl)
  | 0, _ + 1, h => absurd h (by omega)
  | q + 1, 0, _ => goodL_succ (np := 1) (l := 3) (live := [0, 3, 4]) (n := 1) CT_ok rfl okc_laws_toBoolS (c := (Try.f118.body.get rfl)) rfl cok_laws_toBoolS (by kernel_rfl) (gl_laws_toBoolS k q) (by kernel_rfl) rfl (fun vs m r hl h => match vs, hl with
    | [t0, t3, t4], _ => (le_laws_toBoolS_0 k q t0 t3 t4 m).trans h)
  | _ + 1, _ + 1, h => absurd h (by omega)
theorem ok_X_laws_toBoolS : OkX CT 118 X_laws_toBoolS := OkX.of_ex (cf := cf_laws_toBoolS) (np := 1) (LL := LL_laws_toBoolS) (J := (fun k => J_laws_toBoolS k QQ)) CT_ok rfl Try.func118 rfl (Nat.le_of_ble_eq_true rfl) (by decide) cok_laws_toBoolS okc_laws_toBoolS (fun k => allLoops rfl (by kernel_rfl) (gl_laws_toBoolS k QQ)) (fun args m r h => match args, h with
    | [t0], h => ⟨rfl, (xe_laws_toBoolS t0 m).trans h⟩)
theorem ok_C_laws_toBoolS : OkC CT 118 C_laws_toBoolS := fcall_ok rfl ok_X_laws_toBoolS

/-! ### laws.toScreen -/
noncomputable def cf_laws_toScreen : CallF := cfc 116 C_laws_toInt64S (cfc 117 C_laws_toGrid (cfc 118 C_laws_toBoolS cfn))
noncomputable def X_laws_toScreen : List Value → Mem → Option VM
  | [t0], m =>
    (boxX m t0) |> bo fun r1 =>
    (alX r1.2 [.int .i64 0, .int .i64 0, .slice none 0 0, .slice none 0 0, .int .i64 0, .int .i64 0, .bool false, .int .i64 0, .int .i64 0, .int .i64 0, .bool false, .bool false, .bool false, .slice none 0 0, .int .i64 0, .int .i64 0, .int .i64 0, .slice none 0 0, .int .i64 0, .int .i64 0]) |> bo fun r2 =>
    (alX r2.2 [.int .i64 0, .int .i64 0, .slice none 0 0, .slice none 0 0, .int .i64 0, .int .i64 0, .bool false, .int .i64 0, .int .i64 0, .int .i64 0, .bool false, .bool false, .bool false, .slice none 0 0, .int .i64 0, .int .i64 0, .int .i64 0, .slice none 0 0, .int .i64 0, .int .i64 0]) |> bo fun r3 =>
    (fadX 0 r1.1) |> bo fun t4 =>
    (ldS r3.2 4 t4) |> bo fun t5 =>
    (C_laws_toGrid [t5] r3.2) |> bo fun r6 =>
    (fadX 0 r3.1) |> bo fun t7 =>
    (stX r6.2 4 t7 r6.1) |> bo fun m8 =>
    (fadX 4 r1.1) |> bo fun t8 =>
    (ld1 m8 t8) |> bo fun t9 =>
    (fadX 4 r3.1) |> bo fun t10 =>
    (stX m8 1 t10 t9) |> bo fun m12 =>
    (fadX 5 r1.1) |> bo fun t11 =>
    (ld1 m12 t11) |> bo fun t12 =>
    (fadX 5 r3.1) |> bo fun t13 =>
    (stX m12 1 t13 t12) |> bo fun m16 =>
    (fadX 6 r1.1) |> bo fun t14 =>
    (ld1 m16 t14) |> bo fun t15 =>
    (fadX 6 r3.1) |> bo fun t16 =>
    (stX m16 1 t16 t15) |> bo fun m20 =>
    (fadX 7 r1.1) |> bo fun t17 =>
    (ld1 m20 t17) |> bo fun t18 =>
    (fadX 7 r3.1) |> bo fun t19 =>
    (stX m20 1 t19 t18) |> bo fun m24 =>
    (fadX 8 r1.1) |> bo fun t20 =>
    (ld1 m24 t20) |> bo fun t21 =>
    (fadX 8 r3.1) |> bo fun t22 =>
    (stX m24 1 t22 t21) |> bo fun m28 =>
    (fadX 9 r1.1) |> bo fun t23 =>
    (ld1 m28 t23) |> bo fun t24 =>
    (fadX 9 r3.1) |> bo fun t25 =>
    (stX m28 1 t25 t24) |> bo fun m32 =>
    (fadX 10 r1.1) |> bo fun t26 =>
    (ld1 m32 t26) |> bo fun t27 =>
    (fadX 10 r3.1) |> bo fun t28 =>
    (stX m32 1 t28 t27) |> bo fun m36 =>
    (fadX 11 r1.1) |> bo fun t29 =>
    (ld1 m36 t29) |> bo fun t30 =>
    (fadX 11 r3.1) |> bo fun t31 =>
    (stX m36 1 t31 t30) |> bo fun m40 =>
    (fadX 12 r1.1) |> bo fun t32 =>
    (ld1 m40 t32) |> bo fun t33 =>
    (fadX 12 r3.1) |> bo fun t34 =>
    (stX m40 1 t34 t33) |> bo fun m44 =>
    (fadX 13 r1.1) |> bo fun t35 =>
    (ld1 m44 t35) |> bo fun t36 =>
    (C_laws_toBoolS [t36] m44) |> bo fun r47 =>
    (fadX 13 r3.1) |> bo fun t38 =>
    (stX r47.2 1 t38 r47.1) |> bo fun m49 =>
    (fadX 14 r1.1) |> bo fun t39 =>
    (ld1 m49 t39) |> bo fun t40 =>
    (fadX 14 r3.1) |> bo fun t41 =>
    (stX m49 1 t41 t40) |> bo fun m53 =>
    (fadX 15 r1.1) |> bo fun t42 =>
    (ld1 m53 t42) |> bo fun t43 =>
    (fadX 15 r3.1) |> bo fun t44 =>
    (stX m53 1 t44 t43) |> bo fun m57 =>
    (fadX 16 r1.1) |> bo fun t45 =>
    (ld1 m57 t45) |> bo fun t46 =>
    (fadX 16 r3.1) |> bo fun t47 =>
    (stX m57 1 t47 t46) |> bo fun m61 =>
    (fadX 17 r1.1) |> bo fun t48 =>
    (ld1 m61 t48) |> bo fun t49 =>
    (C_laws_toInt64S [t49] m61) |> bo fun r64 =>
    (fadX 17 r3.1) |> bo fun t51 =>
    (stX r64.2 1 t51 r64.1) |> bo fun m66 =>
    (fadX 18 r1.1) |> bo fun t52 =>
    (ld1 m66 t52) |> bo fun t53 =>
    (fadX 18 r3.1) |> bo fun t54 =>
    (stX m66 1 t54 t53) |> bo fun m70 =>
    (fadX 19 r1.1) |> bo fun t55 =>
    (ld1 m70 t55) |> bo fun t56 =>
    (fadX 19 r3.1) |> bo fun t57 =>
    (stX m70 1 t57 t56) |> bo fun m74 =>
    (ldS m74 20 r3.1) |> bo fun t58 =>
    (stX m74 20 r2.1 t58) |> bo fun m76 =>
    (resP (some 20) m76 r2.1) |> bo fun c77 =>
    retK m.length m76 [t0] c77
  | _, _ => none
noncomputable def C_laws_toScreen : List Value → Mem → Option VM := fcall X_laws_toScreen
@[simp] theorem c_laws_toScreen : C_laws_toScreen = fcall X_laws_toScreen := (rfl)
theorem cok_laws_toScreen : codeOk CT Try.f75 (Try.f75.body.get rfl) = true := by kernel_rfl
theorem xe_laws_toScreen (t0 : Value) (m : Mem) : ex CT cf_laws_toScreen Try.f75 1 m.length [] (fun _ _ _ => none) 400 [.code (Try.f75.body.get rfl)] (argsT 0 [t0]) m = X_laws_toScreen [t0] m := by kernel_rfl
theorem okc_laws_toScreen : CallOK CT cf_laws_toScreen := cfc_ok ok_C_laws_toInt64S (cfc_ok ok_C_laws_toGrid (cfc_ok ok_C_laws_toBoolS cfn_ok))
theorem ok_X_laws_toScreen : OkX CT 75 X_laws_toScreen := OkX.of_ex (cf := cf_laws_toScreen) (np := 1) (LL := []) (J := (fun _ _ _ _ => none)) CT_ok rfl Try.func75 rfl (Nat.le_of_ble_eq_true rfl) (by decide) cok_laws_toScreen okc_laws_toScreen (fun k => noLoops rfl) (fun args m r h => match args, h with
    | [t0], h => ⟨rfl, (xe_laws_toScreen t0 m).trans h⟩)
theorem ok_C_laws_toScreen : OkC CT 75 C_laws_toScreen := fcall_ok rfl ok_X_laws_toScreen

/-! ### laws.toVt -/
noncomputable def cf_laws_toVt : CallF := cfc 73 C_laws_toDecoder (cfc 74 C_laws_toParser (cfc 75 C_laws_toScreen cfn))
noncomputable def X_laws_toVt : List Value → Mem → Option VM
  | [t0], m =>
    (boxX m t0) |> bo fun r1 =>
    (alX r1.2 [.int .i64 0, .int .i64 0, .int .i64 0, .int .i64 0, .int .i64 0, .bool false, .slice none 0 0, .int .i64 0, .int .i64 0, .slice none 0 0, .slice none 0 0, .int .i64 0, .int .i64 0, .bool false, .int .i64 0, .int .i64 0, .int .i64 0, .bool false, .bool false, .bool false, .slice none 0 0, .int .i64 0, .int .i64 0, .int .i64 0, .slice none 0 0, .int .i64 0, .int .i64 0]) |> bo fun r2 =>
    (alX r2.2 [.int .i64 0, .int .i64 0, .int .i64 0, .int .i64 0, .int .i64 0, .bool false, .slice none 0 0, .int .i64 0, .int .i64 0, .slice none 0 0, .slice none 0 0, .int .i64 0, .int .i64 0, .bool false, .int .i64 0, .int .i64 0, .int .i64 0, .bool false, .bool false, .bool false, .slice none 0 0, .int .i64 0, .int .i64 0, .int .i64 0, .slice none 0 0, .int .i64 0, .int .i64 0]) |> bo fun r3 =>
    (fadX 0 r1.1) |> bo fun t4 =>
    (ldS r3.2 3 t4) |> bo fun t5 =>
    (C_laws_toDecoder [t5] r3.2) |> bo fun r6 =>
    (fadX 0 r3.1) |> bo fun t7 =>
    (stX r6.2 3 t7 r6.1) |> bo fun m8 =>
    (fadX 3 r1.1) |> bo fun t8 =>
    (ldS m8 4 t8) |> bo fun t9 =>
    (C_laws_toParser [t9] m8) |> bo fun r11 =>
    (fadX 3 r3.1) |> bo fun t11 =>
    (stX r11.2 4 t11 r11.1) |> bo fun m13 =>
    (fadX 7 r1.1) |> bo fun t12 =>
    (ldS m13 20 t12) |> bo fun t13 =>
    (C_laws_toScreen [t13] m13) |> bo fun r16 =>
    (fadX 7 r3.1) |> bo fun t15 =>
    (stX r16.2 20 t15 r16.1) |> bo fun m18 =>
    (ldS m18 27 r3.1) |> bo fun t16 =>
    (stX m18 27 r2.1 t16) |> bo fun m20 =>
    (resP (some 27) m20 r2.1) |> bo fun c21 =>
    retK m.length m20 [t0] c21
  | _, _ => none
noncomputable def C_laws_toVt : List Value → Mem → Option VM := fcall X_laws_toVt
@[simp] theorem c_laws_toVt : C_laws_toVt = fcall X_laws_toVt := (rfl)
theorem cok_laws_toVt : codeOk CT Try.f34 (Try.f34.body.get rfl) = true := by kernel_rfl
theorem xe_laws_toVt (t0 : Value) (m : Mem) : ex CT cf_laws_toVt Try.f34 1 m.length [] (fun _ _ _ => none) 400 [.code (Try.f34.body.get rfl)] (argsT 0 [t0]) m = X_laws_toVt [t0] m := by kernel_rfl
theorem okc_laws_toVt : CallOK CT cf_laws_toVt := cfc_ok ok_C_laws_toDecoder (cfc_ok ok_C_laws_toParser (cfc_ok ok_C_laws_toScreen cfn_ok))
theorem ok_X_laws_toVt : OkX CT 34 X_laws_toVt := OkX.of_ex (cf := cf_laws_toVt) (np := 1) (LL := []) (J := (fun _ _ _ _ => none)) CT_ok rfl Try.func34 rfl (Nat.le_of_ble_eq_true rfl) (by decide) cok_laws_toVt okc_laws_toVt (fun k => noLoops rfl) (fun args m r h => match args, h with
    | [t0], h => ⟨rfl, (xe_laws_toVt t0 m).trans h⟩)
theorem ok_C_laws_toVt : OkC CT 34 C_laws_toVt := fcall_ok rfl ok_X_laws_toVt

/-! ### laws.toConsole -/
noncomputable def cf_laws_toConsole : CallF := cfc 11 C_laws_toWay (cfc 12 C_laws_toLine (cfc 34 C_laws_toVt cfn))
noncomputable def X_laws_toConsole : List Value → Mem → Option VM
  | [t0], m =>
    (boxX m t0) |> bo fun r1 =>
    (alX r1.2 [.int .i64 0, .int .i64 0, .int .i64 0, .int .i64 0, .int .i64 0, .bool false, .slice none 0 0, .int .i64 0, .int .i64 0, .slice none 0 0, .slice none 0 0, .int .i64 0, .int .i64 0, .bool false, .int .i64 0, .int .i64 0, .int .i64 0, .bool false, .bool false, .bool false, .slice none 0 0, .int .i64 0, .int .i64 0, .int .i64 0, .slice none 0 0, .int .i64 0, .int .i64 0, .int .i64 0, .int .i64 0, .int .i64 0, .int .i64 0, .int .i64 0, .int .i64 0, .int .i64 0, .slice none 0 0, .slice none 0 0, .bool false, .int .i64 0]) |> bo fun r2 =>
    (alX r2.2 [.int .i64 0, .int .i64 0, .int .i64 0, .int .i64 0, .int .i64 0, .bool false, .slice none 0 0, .int .i64 0, .int .i64 0, .slice none 0 0, .slice none 0 0, .int .i64 0, .int .i64 0, .bool false, .int .i64 0, .int .i64 0, .int .i64 0, .bool false, .bool false, .bool false, .slice none 0 0, .int .i64 0, .int .i64 0, .int .i64 0, .slice none 0 0, .int .i64 0, .int .i64 0, .int .i64 0, .int .i64 0, .int .i64 0, .int .i64 0, .int .i64 0, .int .i64 0, .int .i64 0, .slice none 0 0, .slice none 0 0, .bool false, .int .i64 0]) |> bo fun r3 =>
    (fadX 0 r1.1) |> bo fun t4 =>
    (ldS r3.2 27 t4) |> bo fun t5 =>
    (C_laws_toVt [t5] r3.2) |> bo fun r6 =>
    (fadX 0 r3.1) |> bo fun t7 =>
    (stX r6.2 27 t7 r6.1) |> bo fun m8 =>
    (fadX 27 r1.1) |> bo fun t8 =>
    (ldS m8 7 t8) |> bo fun t9 =>
    (C_laws_toWay [t9] m8) |> bo fun r11 =>
    (fadX 27 r3.1) |> bo fun t11 =>
    (stX r11.2 7 t11 r11.1) |> bo fun m13 =>
    (fadX 34 r1.1) |> bo fun t12 =>
    (ldS m13 4 t12) |> bo fun t13 =>
    (C_laws_toLine [t13] m13) |> bo fun r16 =>
    (fadX 34 r3.1) |> bo fun t15 =>
    (stX r16.2 4 t15 r16.1) |> bo fun m18 =>
    (ldS m18 38 r3.1) |> bo fun t16 =>
    (stX m18 38 r2.1 t16) |> bo fun m20 =>
    (resP (some 38) m20 r2.1) |> bo fun c21 =>
    retK m.length m20 [t0] c21
  | _, _ => none
noncomputable def C_laws_toConsole : List Value → Mem → Option VM := icall X_laws_toConsole
@[simp] theorem c_laws_toConsole : C_laws_toConsole = icall X_laws_toConsole := (rfl)
theorem cok_laws_toConsole : codeOk CT Try.f44 (Try.f44.body.get rfl) = true := by kernel_rfl
theorem xe_laws_toConsole (t0 : Value) (m : Mem) : ex CT cf_laws_toConsole Try.f44 1 m.length [] (fun _ _ _ => none) 400 [.code (Try.f44.body.get rfl)] (argsT 0 [t0]) m = X_laws_toConsole [t0] m := by kernel_rfl
theorem okc_laws_toConsole : CallOK CT cf_laws_toConsole := cfc_ok ok_C_laws_toWay (cfc_ok ok_C_laws_toLine (cfc_ok ok_C_laws_toVt cfn_ok))
theorem ok_X_laws_toConsole : OkX CT 44 X_laws_toConsole := OkX.of_ex (cf := cf_laws_toConsole) (np := 1) (LL := []) (J := (fun _ _ _ _ => none)) CT_ok rfl Try.func44 rfl (Nat.le_of_ble_eq_true rfl) (by decide) cok_laws_toConsole okc_laws_toConsole (fun k => noLoops rfl) (fun args m r h => match args, h with
    | [t0], h => ⟨rfl, (xe_laws_toConsole t0 m).trans h⟩)
theorem ok_C_laws_toConsole : OkC CT 44 C_laws_toConsole := icall_ok rfl ok_X_laws_toConsole

/-! ### slices.Equal[[]byte,byte] -/
noncomputable def cf_slices_Equal_byte_byte : CallF := cfn
noncomputable def L_slices_Equal_byte_byte (k : Nat) : Nat → Nat → List Value → Mem → Option VM
  | q + 1, 0, [t0, t1, t12, t13], m =>
    (binX .lss .no t13 t12) |> bo fun t14 =>
    brX t14
      (
        (ixaX 1 t0 t13) |> bo fun t18 =>
        (ld1 m t18) |> bo fun t19 =>
        (ixaX 1 t1 t13) |> bo fun t22 =>
        (ld1 m t22) |> bo fun t23 =>
        (binX .neq .no t19 t23) |> bo fun t24 =>
        brX t24
          (
            retK k m [t0, t1] (.bool false))
          (
            (binX .add .no t13 (.int .i64 1)) |> bo fun t25 =>
            cutK k m [t0, t1] [t0, t1, t12, t25] (L_slices_Equal_byte_byte k q 0)))
      (
        retK k m [t0, t1] (.bool true))
  | _, _, _, _ => none
noncomputable def J_slices_Equal_byte_byte (k q l : Nat) : List Value → Mem → Option VM := cond (Nat.beq l 4) (L_slices_Equal_byte_byte k q 0) (fun _ _ => none)
def LL_slices_Equal_byte_byte : List (Nat × List Tmp) := [(4, [0, 1, 12, 13])]
noncomputable def X_slices_Equal_byte_byte : List Value → Mem → Option VM
  | [t0, t1], m =>
    (lenX t0) |> bo fun t7 =>
    (lenX t1) |> bo fun t9 =>
    (binX .neq .no t7 t9) |> bo fun t10 =>
    brX t10
      (
        retK m.length m [t0, t1] (.bool false))
      (
        (lenX t0) |> bo fun t12 =>
        cutK m.length m [t0, t1] [t0, t1, t12, (.int .i64 0)] (L_slices_Equal_byte_byte m.length QQ 0))
  | _, _ => none
noncomputable def C_slices_Equal_byte_byte : List Value → Mem → Option VM := fcall X_slices_Equal_byte_byte
@[simp] theorem c_slices_Equal_byte_byte : C_slices_Equal_byte_byte = fcall X_slices_Equal_byte_byte := (rfl)
theorem cok_slices_Equal_byte_byte : codeOk CT Try.f68 (Try.f68.body.get rfl) = true := by kernel_rfl
theorem xe_slices_Equal_byte_byte (t0 t1 : Value) (m : Mem) : ex CT cf_slices_Equal_byte_byte Try.f68 2 m.length LL_slices_Equal_byte_byte (J_slices_Equal_byte_byte m.length QQ) 400 [.code (Try.f68.body.get rfl)] (argsT 0 [t0, t1]) m = X_slices_Equal_byte_byte [t0, t1] m := by kernel_rfl
theorem okc_slices_Equal_byte_byte : CallOK CT cf_slices_Equal_byte_byte := cfn_ok
theorem le_slices_Equal_byte_byte_0 (k q : Nat) (t0 t1 t12 t13 : Value) (m : Mem) : ex CT cf_slices_Equal_byte_byte Try.f68 2 k LL_slices_Equal_byte_byte (J_slices_Equal_byte_byte k q) 400 (atLoop Try.f68 0) [(0, t0), (1, t1), (12, t12), (13, t13)] m = J_slices_Equal_byte_byte k (q + 1) 4 [t0, t1, t12, t13] m := by kernel_rfl
theorem gl_slices_Equal_byte_byte (k : Nat) : ∀ q i, i < 1 → GoodL CT k Try.f68 LL_slices_Equal_byte_byte (J_slices_Equal_byte_byte k q) (atLoop Try.f68 i)
  | 0, 0, _ => goodL_zero (l := 4) (by kernel_rfl) (fun vs m => by kernel_rfl)
  | 0, _ + 1, h => absurd h (by omega)
  | q + 1, 0, _ => goodL_succ (np := 2) (l := 4) (live := [0, 1, 12, 13]) (n := 1) CT_ok rfl okc_slices_Equal_byte_byte (c := (Try.f68.body.get rfl)) rfl cok_slices_Equal_byte_byte (by kernel_rfl) (gl_slices_Equal_byte_byte k q) (by kernel_rfl) rfl (fun vs m r hl h => match vs, hl with
    | [t0, t1, t12, t13], _ => (le_slices_Equal_byte_byte_0 k q t0 t1 t12 t13 m).trans h)
  | _ + 1, _ + 1, h => absurd h (by omega)
theorem ok_X_slices_Equal_byte_byte : OkX CT 68 X_slices_Equal_byte_byte := OkX.of_ex (cf := cf_slices_Equal_byte_byte) (np := 2) (LL := LL_slices_Equal_byte_byte) (J := (fun k => J_slices_Equal_byte_byte k QQ)) CT_ok rfl Try.func68 rfl (Nat.le_of_ble_eq_true rfl) (by decide) cok_slices_Equal_byte_byte okc_slices_Equal_byte_byte (fun k => allLoops rfl (by kernel_rfl) (gl_slices_Equal_byte_byte k QQ)) (fun args m r h => match args, h with
    | [t0, t1], h => ⟨rfl, (xe_slices_Equal_byte_byte t0 t1 m).trans h⟩)
theorem ok_C_slices_Equal_byte_byte : OkC CT 68 C_slices_Equal_byte_byte := fcall_ok rfl ok_X_slices_Equal_byte_byte

/-! ### slices.EqualFunc[[][]byte,[][]byte,[]byte,[]byte] -/
noncomputable def cf_slices_EqualFunc_byte_byte_byte_byte : CallF := cfc 68 C_slices_Equal_byte_byte cfn
noncomputable def L_slices_EqualFunc_byte_byte_byte_byte (k : Nat) : Nat → Nat → List Value → Mem → Option VM
  | q + 1, 0, [t1, t2, t15, t16, t17], m =>
    (binX .lss .no t17 t16) |> bo fun t18 =>
    brX t18
      (
        (ixaX 1 t15 t17) |> bo fun t20 =>
        (ld1 m t20) |> bo fun t21 =>
        (ixaX 1 t1 t17) |> bo fun t24 =>
        (ld1 m t24) |> bo fun t25 =>
        (callV cf_slices_EqualFunc_byte_byte_byte_byte t2 [t21, t25] m) |> bo fun r6 =>
        (uop .not r6.1) |> bo fun t30 =>
        brX t30
          (
            retK k r6.2 [t1, t2] (.bool false))
          (
            (binX .add .no t17 (.int .i64 1)) |> bo fun t31 =>
            cutK k r6.2 [t1, t2] [t1, t2, t15, t16, t31] (L_slices_EqualFunc_byte_byte_byte_byte k q 0)))
      (
        retK k m [t1, t2] (.bool true))
  | _, _, _, _ => none
noncomputable def J_slices_EqualFunc_byte_byte_byte_byte (k q l : Nat) : List Value → Mem → Option VM := cond (Nat.beq l 4) (L_slices_EqualFunc_byte_byte_byte_byte k q 0) (fun _ _ => none)
def LL_slices_EqualFunc_byte_byte_byte_byte : List (Nat × List Tmp) := [(4, [1, 2, 15, 16, 17])]
noncomputable def X_slices_EqualFunc_byte_byte_byte_byte : List Value → Mem → Option VM
  | [t0, t1, t2], m =>
    (lenX t0) |> bo fun t11 =>
    (lenX t1) |> bo fun t13 =>
    (binX .neq .no t11 t13) |> bo fun t14 =>
    brX t14
      (
        retK m.length m [t0, t1, t2] (.bool false))
      (
        (lenX t0) |> bo fun t16 =>
        cutK m.length m [t0, t1, t2] [t1, t2, t0, t16, (.int .i64 0)] (L_slices_EqualFunc_byte_byte_byte_byte m.length QQ 0))
  | _, _ => none
noncomputable def C_slices_EqualFunc_byte_byte_byte_byte : List Value → Mem → Option VM := fcall X_slices_EqualFunc_byte_byte_byte_byte
@[simp] theorem c_slices_EqualFunc_byte_byte_byte_byte : C_slices_EqualFunc_byte_byte_byte_byte = fcall X_slices_EqualFunc_byte_byte_byte_byte := (rfl)
theorem cok_slices_EqualFunc_byte_byte_byte_byte : codeOk CT Try.f67 (Try.f67.body.get rfl) = true := by kernel_rfl
theorem xe_slices_EqualFunc_byte_byte_byte_byte (t0 t1 t2 : Value) (m : Mem) : ex CT cf_slices_EqualFunc_byte_byte_byte_byte Try.f67 3 m.length LL_slices_EqualFunc_byte_byte_byte_byte (J_slices_EqualFunc_byte_byte_byte_byte m.length QQ) 400 [.code (Try.f67.body.get rfl)] (argsT 0 [t0, t1, t2]) m = X_slices_EqualFunc_byte_byte_byte_byte [t0, t1, t2] m := by kernel_rfl
theorem okc_slices_EqualFunc_byte_byte_byte_byte : CallOK CT cf_slices_EqualFunc_byte_byte_byte_byte := cfc_ok ok_C_slices_Equal_byte_byte cfn_ok
theorem le_slices_EqualFunc_byte_byte_byte_byte_0 (k q : Nat) (t1 t2 t15 t16 t17 : Value) (m : Mem) : ex CT cf_slices_EqualFunc_byte_byte_byte_byte Try.f67 3 k LL_slices_EqualFunc_byte_byte_byte_byte (J_slices_EqualFunc_byte_byte_byte_byte k q) 400 (atLoop Try.f67 0) [(1, t1), (2, t2), (15, t15), (16, t16), (17, t17)] m = J_slices_EqualFunc_byte_byte_byte_byte k (q + 1) 4 [t1, t2, t15, t16, t17] m := by kernel_rfl
theorem gl_slices_EqualFunc_byte_byte_byte_byte (k : Nat) : ∀ q i, i < 1 → GoodL CT k Try.f67 LL_slices_EqualFunc_byte_byte_byte_byte (J_slices_EqualFunc_byte_byte_byte_byte k q) (atLoop Try.f67 i)
  | 0, 0, _ => goodL_zero (l := 4) (by kernel_rfl) (fun vs m => by kernel_rfl)
  | 0, _ + 1, h => absurd h (by omega)
  | q + 1, 0, _ => goodL_succ (np := 3) (l := 4) (live := [1, 2, 15, 16, 17]) (n := 1) CT_ok rfl okc_slices_EqualFunc_byte_byte_byte_byte (c := (Try.f67.body.get rfl)) rfl cok_slices_EqualFunc_byte_byte_byte_byte (by kernel_rfl) (gl_slices_EqualFunc_byte_byte_byte_byte k q) (by kernel_rfl) rfl (fun vs m r hl h => match vs, hl with
    | [t1, t2, t15, t16, t17], _ => (le_slices_EqualFunc_byte_byte_byte_byte_0 k q t1 t2 t15 t16 t17 m).trans h)
  | _ + 1, _ + 1, h => absurd h (by omega)
theorem ok_X_slices_EqualFunc_byte_byte_byte_byte : OkX CT 67 X_slices_EqualFunc_byte_byte_byte_byte := OkX.of_ex (cf := cf_slices_EqualFunc_byte_byte_byte_byte) (np := 3) (LL := LL_slices_EqualFunc_byte_byte_byte_byte) (J := (fun k => J_slices_EqualFunc_byte_byte_byte_byte k QQ)) CT_ok rfl Try.func67 rfl (Nat.le_of_ble_eq_true rfl) (by decide) cok_slices_EqualFunc_byte_byte_byte_byte okc_slices_EqualFunc_byte_byte_byte_byte (fun k => allLoops rfl (by kernel_rfl) (gl_slices_EqualFunc_byte_byte_byte_byte k QQ)) (fun args m r h => match args, h with
    | [t0, t1, t2], h => ⟨rfl, (xe_slices_EqualFunc_byte_byte_byte_byte t0 t1 t2 m).trans h⟩)
theorem ok_C_slices_EqualFunc_byte_byte_byte_byte : OkC CT 67 C_slices_EqualFunc_byte_byte_byte_byte := fcall_ok rfl ok_X_slices_EqualFunc_byte_byte_byte_byte

/-! ### impl.SameLines -/
noncomputable def cf_impl_SameLines : CallF := cfc 67 C_slices_EqualFunc_byte_byte_byte_byte (cfc 68 C_slices_Equal_byte_byte cfn)
noncomputable def X_impl_SameLines : List Value → Mem → Option VM
  | [t0, t1], m =>
    (boxX m t0) |> bo fun r1 =>
    (boxX r1.2 t1) |> bo fun r2 =>
    (fadX 0 r1.1) |> bo fun t5 =>
    (ld1 r2.2 t5) |> bo fun t6 =>
    (fadX 0 r2.1) |> bo fun t7 =>
    (ld1 r2.2 t7) |> bo fun t8 =>
    (C_slices_EqualFunc_byte_byte_byte_byte [t6, t8, (.func (.func 68) #[] #[])] r2.2) |> bo fun r7 =>
    (gd r7.1 true ((fadX 1 r1.1) |> bo fun v => some (v, r7.2)) r7.2) |> bo fun r8 =>
    (gd r7.1 true ((ld1 r8.2 r8.1) |> bo fun v => some (v, r8.2)) r8.2) |> bo fun r9 =>
    (gd r7.1 true ((fadX 1 r2.1) |> bo fun v => some (v, r9.2)) r9.2) |> bo fun r10 =>
    (gd r7.1 true ((ld1 r10.2 r10.1) |> bo fun v => some (v, r10.2)) r10.2) |> bo fun r11 =>
    (gd r7.1 true ((C_slices_Equal_byte_byte [r9.1, r11.1] r11.2) |> bo fun r => some (r.1, r.2)) r11.2) |> bo fun r12 =>
    (pickX r7.1 r12.1 (.bool false)) |> bo fun t16 =>
    (gd t16 true ((fadX 2 r1.1) |> bo fun v => some (v, r12.2)) r12.2) |> bo fun r14 =>
    (gd t16 true ((ld1 r14.2 r14.1) |> bo fun v => some (v, r14.2)) r14.2) |> bo fun r15 =>
    (gd t16 true ((fadX 2 r2.1) |> bo fun v => some (v, r15.2)) r15.2) |> bo fun r16 =>
    (gd t16 true ((ld1 r16.2 r16.1) |> bo fun v => some (v, r16.2)) r16.2) |> bo fun r17 =>
    (gd t16 true ((binX .eql .bool r15.1 r17.1) |> bo fun v => some (v, r17.2)) r17.2) |> bo fun r18 =>
    (pickX t16 r18.1 (.bool false)) |> bo fun t23 =>
    (gd t23 true ((fadX 3 r1.1) |> bo fun v => some (v, r18.2)) r18.2) |> bo fun r20 =>
    (gd t23 true ((ld1 r20.2 r20.1) |> bo fun v => some (v, r20.2)) r20.2) |> bo fun r21 =>
    (gd t23 true ((fadX 3 r2.1) |> bo fun v => some (v, r21.2)) r21.2) |> bo fun r22 =>
    (gd t23 true ((ld1 r22.2 r22.1) |> bo fun v => some (v, r22.2)) r22.2) |> bo fun r23 =>
    (gd t23 true ((binX .eql .no r21.1 r23.1) |> bo fun v => some (v, r23.2)) r23.2) |> bo fun r24 =>
    (pickX t23 r24.1 (.bool false)) |> bo fun t30 =>
    retK m.length r24.2 [t0, t1] t30
  | _, _ => none
noncomputable def C_impl_SameLines : List Value → Mem → Option VM := fcall X_impl_SameLines
@[simp] theorem c_impl_SameLines : C_impl_SameLines = fcall X_impl_SameLines := (rfl)
theorem cok_impl_SameLines : codeOk CT Try.f29 (Try.f29.body.get rfl) = true := by kernel_rfl
theorem xe_impl_SameLines (t0 t1 : Value) (m : Mem) : ex CT cf_impl_SameLines Try.f29 2 m.length [] (fun _ _ _ => none) 400 [.code (Try.f29.body.get rfl)] (argsT 0 [t0, t1]) m = X_impl_SameLines [t0, t1] m := by kernel_rfl
theorem okc_impl_SameLines : CallOK CT cf_impl_SameLines := cfc_ok ok_C_slices_EqualFunc_byte_byte_byte_byte (cfc_ok ok_C_slices_Equal_byte_byte cfn_ok)
theorem ok_X_impl_SameLines : OkX CT 29 X_impl_SameLines := OkX.of_ex (cf := cf_impl_SameLines) (np := 2) (LL := []) (J := (fun _ _ _ _ => none)) CT_ok rfl Try.func29 rfl (Nat.le_of_ble_eq_true rfl) (by decide) cok_impl_SameLines okc_impl_SameLines (fun k => noLoops rfl) (fun args m r h => match args, h with
    | [t0, t1], h => ⟨rfl, (xe_impl_SameLines t0 t1 m).trans h⟩)
theorem ok_C_impl_SameLines : OkC CT 29 C_impl_SameLines := fcall_ok rfl ok_X_impl_SameLines

/-! ### slices.Equal[[]int64,int64] -/
noncomputable def cf_slices_Equal_int64_int64 : CallF := cfn
noncomputable def L_slices_Equal_int64_int64 (k : Nat) : Nat → Nat → List Value → Mem → Option VM
  | q + 1, 0, [t0, t1, t12, t13], m =>
    (binX .lss .no t13 t12) |> bo fun t14 =>
    brX t14
      (
        (ixaX 1 t0 t13) |> bo fun t18 =>
        (ld1 m t18) |> bo fun t19 =>
        (ixaX 1 t1 t13) |> bo fun t22 =>
        (ld1 m t22) |> bo fun t23 =>
        (binX .neq .no t19 t23) |> bo fun t24 =>
        brX t24
          (
            retK k m [t0, t1] (.bool false))
          (
            (binX .add .no t13 (.int .i64 1)) |> bo fun t25 =>
            cutK k m [t0, t1] [t0, t1, t12, t25] (L_slices_Equal_int64_int64 k q 0)))
      (
        retK k m [t0, t1] (.bool true))
  | _, _, _, _ => none
noncomputable def J_slices_Equal_int64_int64 (k q l : Nat) : List Value → Mem → Option VM := cond (Nat.beq l 4) (L_slices_Equal_int64_int64 k q 0) (fun _ _ => none)
def LL_slices_Equal_int64_int64 : List (Nat × List Tmp) := [(4, [0, 1, 12, 13])]
noncomputable def X_slices_Equal_int64_int64 : List Value → Mem → Option VM
  | [t0, t1], m =>
    (lenX t0) |> bo fun t7 =>
    (lenX t1) |> bo fun t9 =>
    (binX .neq .no t7 t9) |> bo fun t10 =>
    brX t10
      (
        retK m.length m [t0, t1] (.bool false))
      (
        (lenX t0) |> bo fun t12 =>
        cutK m.length m [t0, t1] [t0, t1, t12, (.int .i64 0)] (L_slices_Equal_int64_int64 m.length QQ 0))
  | _, _ => none
noncomputable def C_slices_Equal_int64_int64 : List Value → Mem → Option VM := fcall X_slices_Equal_int64_int64
@[simp] theorem c_slices_Equal_int64_int64 : C_slices_Equal_int64_int64 = fcall X_slices_Equal_int64_int64 := (rfl)
theorem cok_slices_Equal_int64_int64 : codeOk CT Try.f182 (Try.f182.body.get rfl) = true := by kernel_rfl
theorem xe_slices_Equal_int64_int64 (t0 t1 : Value) (m : Mem) : ex CT cf_slices_Equal_int64_int64 Try.f182 2 m.length LL_slices_Equal_int64_int64 (J_slices_Equal_int64_int64 m.length QQ) 400 [.code (Try.f182.body.get rfl)] (argsT 0 [t0, t1]) m = X_slices_Equal_int64_int64 [t0, t1] m := by kernel_rfl
theorem okc_slices_Equal_int64_int64 : CallOK CT cf_slices_Equal_int64_int64 := cfn_ok
theorem le_slices_Equal_int64_int64_0 (k q : Nat) (t0 t1 t12 t13 : Value) (m : Mem) : ex CT cf_slices_Equal_int64_int64 Try.f182 2 k LL_slices_Equal_int64_int64 (J_slices_Equal_int64_int64 k q) 400 (atLoop Try.f182 0) [(0, t0), (1, t1), (12, t12), (13, t13)] m = J_slices_Equal_int64_int64 k (q + 1) 4 [t0, t1, t12, t13] m := by kernel_rfl
theorem gl_slices_Equal_int64_int64 (k : Nat) : ∀ q i, i < 1 → GoodL CT k Try.f182 LL_slices_Equal_int64_int64 (J_slices_Equal_int64_int64 k q) (atLoop Try.f182 i)
  | 0, 0, _ => goodL_zero (l := 4) (by kernel_rfl) (fun vs m => by kernel_rfl)
  | 0, _ + 1, h => absurd h (by omega)
  | q + 1, 0, _ => goodL_succ (np := 2) (l := 4) (live := [0, 1, 12, 13]) (n := 1) CT_ok rfl okc_slices_Equal_int64_int64 (c := (Try.f182.body.get rfl)) rfl cok_slices_Equal_int64_int64 (by kernel_rfl) (gl_slices_Equal_int64_int64 k q) (by kernel_rfl) rfl (fun vs m r hl h => match vs, hl with
    | [t0, t1, t12, t13], _ => (le_slices_Equal_int64_int64_0 k q t0 t1 t12 t13 m).trans h)
  | _ + 1, _ + 1, h => absurd h (by omega)
theorem ok_X_slices_Equal_int64_int64 : OkX CT 182 X_slices_Equal_int64_int64 := OkX.of_ex (cf := cf_slices_Equal_int64_int64) (np := 2) (LL := LL_slices_Equal_int64_int64) (J := (fun k => J_slices_Equal_int64_int64 k QQ)) CT_ok rfl Try.func182 rfl (Nat.le_of_ble_eq_true rfl) (by decide) cok_slices_Equal_int64_int64 okc_slices_Equal_int64_int64 (fun k => allLoops rfl (by kernel_rfl) (gl_slices_Equal_int64_int64 k QQ)) (fun args m r h => match args, h with
    | [t0, t1], h => ⟨rfl, (xe_slices_Equal_int64_int64 t0 t1 m).trans h⟩)
theorem ok_C_slices_Equal_int64_int64 : OkC CT 182 C_slices_Equal_int64_int64 := fcall_ok rfl ok_X_slices_Equal_int64_int64

/-! ### impl.SameParsers -/
noncomputable def cf_impl_SameParsers : CallF := cfc 182 C_slices_Equal_int64_int64 cfn
noncomputable def X_impl_SameParsers : List Value → Mem → Option VM
  | [t0, t1], m =>
    (boxX m t0) |> bo fun r1 =>
    (boxX r1.2 t1) |> bo fun r2 =>
    (fadX 0 r1.1) |> bo fun t5 =>
    (ld1 r2.2 t5) |> bo fun t6 =>
    (fadX 0 r2.1) |> bo fun t7 =>
    (ld1 r2.2 t7) |> bo fun t8 =>
    (binX .eql .no t6 t8) |> bo fun t9 =>
    (gd t9 true ((fadX 1 r1.1) |> bo fun v => some (v, r2.2)) r2.2) |> bo fun r8 =>
    (gd t9 true ((ld1 r8.2 r8.1) |> bo fun v => some (v, r8.2)) r8.2) |> bo fun r9 =>
    (gd t9 true ((fadX 1 r2.1) |> bo fun v => some (v, r9.2)) r9.2) |> bo fun r10 =>
    (gd t9 true ((ld1 r10.2 r10.1) |> bo fun v => some (v, r10.2)) r10.2) |> bo fun r11 =>
    (gd t9 true ((binX .eql .no r9.1 r11.1) |> bo fun v => some (v, r11.2)) r11.2) |> bo fun r12 =>
    (pickX t9 r12.1 (.bool false)) |> bo fun t16 =>
    (gd t16 true ((fadX 2 r1.1) |> bo fun v => some (v, r12.2)) r12.2) |> bo fun r14 =>
    (gd t16 true ((ld1 r14.2 r14.1) |> bo fun v => some (v, r14.2)) r14.2) |> bo fun r15 =>
    (gd t16 true ((fadX 2 r2.1) |> bo fun v => some (v, r15.2)) r15.2) |> bo fun r16 =>
    (gd t16 true ((ld1 r16.2 r16.1) |> bo fun v => some (v, r16.2)) r16.2) |> bo fun r17 =>
    (gd t16 true ((binX .eql .bool r15.1 r17.1) |> bo fun v => some (v, r17.2)) r17.2) |> bo fun r18 =>
    (pickX t16 r18.1 (.bool false)) |> bo fun t23 =>
    (gd t23 true ((fadX 3 r1.1) |> bo fun v => some (v, r18.2)) r18.2) |> bo fun r20 =>
    (gd t23 true ((ld1 r20.2 r20.1) |> bo fun v => some (v, r20.2)) r20.2) |> bo fun r21 =>
    (gd t23 true ((fadX 3 r2.1) |> bo fun v => some (v, r21.2)) r21.2) |> bo fun r22 =>
    (gd t23 true ((ld1 r22.2 r22.1) |> bo fun v => some (v, r22.2)) r22.2) |> bo fun r23 =>
    (gd t23 true ((C_slices_Equal_int64_int64 [r21.1, r23.1] r23.2) |> bo fun r => some (r.1, r.2)) r23.2) |> bo fun r24 =>
    (pickX t23 r24.1 (.bool false)) |> bo fun t30 =>
    retK m.length r24.2 [t0, t1] t30
  | _, _ => none
noncomputable def C_impl_SameParsers : List Value → Mem → Option VM := fcall X_impl_SameParsers
@[simp] theorem c_impl_SameParsers : C_impl_SameParsers = fcall X_impl_SameParsers := (rfl)
theorem cok_impl_SameParsers : codeOk CT Try.f136 (Try.f136.body.get rfl) = true := by kernel_rfl
theorem xe_impl_SameParsers (t0 t1 : Value) (m : Mem) : ex CT cf_impl_SameParsers Try.f136 2 m.length [] (fun _ _ _ => none) 400 [.code (Try.f136.body.get rfl)] (argsT 0 [t0, t1]) m = X_impl_SameParsers [t0, t1] m := by kernel_rfl
theorem okc_impl_SameParsers : CallOK CT cf_impl_SameParsers := cfc_ok ok_C_slices_Equal_int64_int64 cfn_ok
theorem ok_X_impl_SameParsers : OkX CT 136 X_impl_SameParsers := OkX.of_ex (cf := cf_impl_SameParsers) (np := 2) (LL := []) (J := (fun _ _ _ _ => none)) CT_ok rfl Try.func136 rfl (Nat.le_of_ble_eq_true rfl) (by decide) cok_impl_SameParsers okc_impl_SameParsers (fun k => noLoops rfl) (fun args m r h => match args, h with
    | [t0, t1], h => ⟨rfl, (xe_impl_SameParsers t0 t1 m).trans h⟩)
theorem ok_C_impl_SameParsers : OkC CT 136 C_impl_SameParsers := fcall_ok rfl ok_X_impl_SameParsers

/-! ### slices.Equal[[]impl.Cell,impl.Cell] -/
noncomputable def cf_slices_Equal_impl_Cell_impl_Cell : CallF := cfn
noncomputable def L_slices_Equal_impl_Cell_impl_Cell (k : Nat) : Nat → Nat → List Value → Mem → Option VM
  | q + 1, 0, [t0, t1, t12, t13], m =>
    (binX .lss .no t13 t12) |> bo fun t14 =>
    brX t14
      (
        (ixaX 2 t0 t13) |> bo fun t18 =>
        (ldS m 2 t18) |> bo fun t19 =>
        (ixaX 2 t1 t13) |> bo fun t22 =>
        (ldS m 2 t22) |> bo fun t23 =>
        (binX .neq (.st [0, 1]) t19 t23) |> bo fun t24 =>
        brX t24
          (
            retK k m [t0, t1] (.bool false))
          (
            (binX .add .no t13 (.int .i64 1)) |> bo fun t25 =>
            cutK k m [t0, t1] [t0, t1, t12, t25] (L_slices_Equal_impl_Cell_impl_Cell k q 0)))
      (
        retK k m [t0, t1] (.bool true))
  | _, _, _, _ => none
noncomputable def J_slices_Equal_impl_Cell_impl_Cell (k q l : Nat) : List Value → Mem → Option VM := cond (Nat.beq l 4) (L_slices_Equal_impl_Cell_impl_Cell k q 0) (fun _ _ => none)
def LL_slices_Equal_impl_Cell_impl_Cell : List (Nat × List Tmp) := [(4, [0, 1, 12, 13])]
noncomputable def X_slices_Equal_impl_Cell_impl_Cell : List Value → Mem → Option VM
  | [t0, t1], m =>
    (lenX t0) |> bo fun t7 =>
    (lenX t1) |> bo fun t9 =>
    (binX .neq .no t7 t9) |> bo fun t10 =>
    brX t10
      (
        retK m.length m [t0, t1] (.bool false))
      (
        (lenX t0) |> bo fun t12 =>
        cutK m.length m [t0, t1] [t0, t1, t12, (.int .i64 0)] (L_slices_Equal_impl_Cell_impl_Cell m.length QQ 0))
  | _, _ => none
noncomputable def C_slices_Equal_impl_Cell_impl_Cell : List Value → Mem → Option VM := fcall X_slices_Equal_impl_Cell_impl_Cell
@[simp] theorem c_slices_Equal_impl_Cell_impl_Cell : C_slices_Equal_impl_Cell_impl_Cell = fcall X_slices_Equal_impl_Cell_impl_Cell := (rfl)
theorem cok_slices_Equal_impl_Cell_impl_Cell : codeOk CT Try.f216 (Try.f216.body.get rfl) = true := by kernel_rfl
theorem xe_slices_Equal_impl_Cell_impl_Cell (t0 t1 : Value) (m : Mem) : ex CT cf_slices_Equal_impl_Cell_impl_Cell Try.f216 2 m.length LL_slices_Equal_impl_Cell_impl_Cell (J_slices_Equal_impl_Cell_impl_Cell m.length QQ) 400 [.code (Try.f216.body.get rfl)] (argsT 0 [t0, t1]) m = X_slices_Equal_impl_Cell_impl_Cell [t0, t1] m := by kernel_rfl
theorem okc_slices_Equal_impl_Cell_impl_Cell : CallOK CT cf_slices_Equal_impl_Cell_impl_Cell := cfn_ok
theorem le_slices_Equal_impl_Cell_impl_Cell_0 (k q : Nat) (t0 t1 t12 t13 : Value) (m : Mem) : ex CT cf_slices_Equal_impl_Cell_impl_Cell Try.f216 2 k LL_slices_Equal_impl_Cell_impl_Cell (J_slices_Equal_impl_Cell_impl_Cell k q) 400 (atLoop Try.f216 0) [(0, t0), (1, t1), (12, t12), (13, t13)] m = J_slices_Equal_impl_Cell_impl_Cell k (q + 1) 4 [t0, t1, t12, t13] m := by kernel_rfl
theorem gl_slices_Equal_impl_Cell_impl_Cell (k : Nat) : ∀ q i, i < 1 → GoodL CT k Try.f216 LL_slices_Equal_impl_Cell_impl_Cell (J_slices_Equal_impl_Cell_impl_Cell k q) (atLoop Try.f216 i)
  | 0, 0, _ => goodL_zero (l := 4) (by kernel_rfl) (fun vs m => by kernel_rfl)
  | 0, _ + 1, h => absurd h (by omega)
  | q + 1, 0, _ => goodL_succ (np := 2) (l := 4) (live := [0, 1, 12, 13]) (n := 1) CT_ok rfl okc_slices_Equal_impl_Cell_impl_Cell (c := (Try.f216.body.get rfl)) rfl cok_slices_Equal_impl_Cell_impl_Cell (by kernel_rfl) (gl_slices_Equal_impl_Cell_impl_Cell k q) (by kernel_rfl) rfl (fun vs m r hl h => match vs, hl with
    | [t0, t1, t12, t13], _ => (le_slices_Equal_impl_Cell_impl_Cell_0 k q t0 t1 t12 t13 m).trans h)
  | _ + 1, _ + 1, h => absurd h (by omega)
theorem ok_X_slices_Equal_impl_Cell_impl_Cell : OkX CT 216 X_slices_Equal_impl_Cell_impl_Cell := OkX.of_ex (cf := cf_slices_Equal_impl_Cell_impl_Cell) (np := 2) (LL := LL_slices_Equal_impl_Cell_impl_Cell) (J := (fun k => J_slices_Equal_impl_Cell_impl_Cell k QQ)) CT_ok rfl Try.func216 rfl (Nat.le_of_ble_eq_true rfl) (by decide) cok_slices_Equal_impl_Cell_impl_Cell okc_slices_Equal_impl_Cell_impl_Cell (fun k => allLoops rfl (by kernel_rfl) (gl_slices_Equal_impl_Cell_impl_Cell k QQ)) (fun args m r h => match args, h with
    | [t0, t1], h => ⟨rfl, (xe_slices_Equal_impl_Cell_impl_Cell t0 t1 m).trans h⟩)
theorem ok_C_slices_Equal_impl_Cell_impl_Cell : OkC CT 216 C_slices_Equal_impl_Cell_impl_Cell := fcall_ok rfl ok_X_slices_Equal_impl_Cell_impl_Cell

/-! ### impl.SameGrids -/
noncomputable def cf_impl_SameGrids : CallF := cfc 216 C_slices_Equal_impl_Cell_impl_Cell cfn
noncomputable def X_impl_SameGrids : List Value → Mem → Option VM
  | [t0, t1], m =>
    (boxX m t0) |> bo fun r1 =>
    (boxX r1.2 t1) |> bo fun r2 =>
    (fadX 0 r1.1) |> bo fun t5 =>
    (ld1 r2.2 t5) |> bo fun t6 =>
    (fadX 0 r2.1) |> bo fun t7 =>
    (ld1 r2.2 t7) |> bo fun t8 =>
    (binX .eql .no t6 t8) |> bo fun t9 =>
    (gd t9 true ((fadX 1 r1.1) |> bo fun v => some (v, r2.2)) r2.2) |> bo fun r8 =>
    (gd t9 true ((ld1 r8.2 r8.1) |> bo fun v => some (v, r8.2)) r8.2) |> bo fun r9 =>
    (gd t9 true ((fadX 1 r2.1) |> bo fun v => some (v, r9.2)) r9.2) |> bo fun r10 =>
    (gd t9 true ((ld1 r10.2 r10.1) |> bo fun v => some (v, r10.2)) r10.2) |> bo fun r11 =>
    (gd t9 true ((binX .eql .no r9.1 r11.1) |> bo fun v => some (v, r11.2)) r11.2) |> bo fun r12 =>
    (pickX t9 r12.1 (.bool false)) |> bo fun t16 =>
    (gd t16 true ((fadX 2 r1.1) |> bo fun v => some (v, r12.2)) r12.2) |> bo fun r14 =>
    (gd t16 true ((ld1 r14.2 r14.1) |> bo fun v => some (v, r14.2)) r14.2) |> bo fun r15 =>
    (gd t16 true ((fadX 2 r2.1) |> bo fun v => some (v, r15.2)) r15.2) |> bo fun r16 =>
    (gd t16 true ((ld1 r16.2 r16.1) |> bo fun v => some (v, r16.2)) r16.2) |> bo fun r17 =>
    (gd t16 true ((C_slices_Equal_impl_Cell_impl_Cell [r15.1, r17.1] r17.2) |> bo fun r => some (r.1, r.2)) r17.2) |> bo fun r18 =>
    (pickX t16 r18.1 (.bool false)) |> bo fun t23 =>
    (gd t23 true ((fadX 3 r1.1) |> bo fun v => some (v, r18.2)) r18.2) |> bo fun r20 =>
    (gd t23 true ((ld1 r20.2 r20.1) |> bo fun v => some (v, r20.2)) r20.2) |> bo fun r21 =>
    (gd t23 true ((fadX 3 r2.1) |> bo fun v => some (v, r21.2)) r21.2) |> bo fun r22 =>
    (gd t23 true ((ld1 r22.2 r22.1) |> bo fun v => some (v, r22.2)) r22.2) |> bo fun r23 =>
    (gd t23 true ((C_slices_Equal_impl_Cell_impl_Cell [r21.1, r23.1] r23.2) |> bo fun r => some (r.1, r.2)) r23.2) |> bo fun r24 =>
    (pickX t23 r24.1 (.bool false)) |> bo fun t30 =>
    retK m.length r24.2 [t0, t1] t30
  | _, _ => none
noncomputable def C_impl_SameGrids : List Value → Mem → Option VM := fcall X_impl_SameGrids
@[simp] theorem c_impl_SameGrids : C_impl_SameGrids = fcall X_impl_SameGrids := (rfl)
theorem cok_impl_SameGrids : codeOk CT Try.f184 (Try.f184.body.get rfl) = true := by kernel_rfl
theorem xe_impl_SameGrids (t0 t1 : Value) (m : Mem) : ex CT cf_impl_SameGrids Try.f184 2 m.length [] (fun _ _ _ => none) 400 [.code (Try.f184.body.get rfl)] (argsT 0 [t0, t1]) m = X_impl_SameGrids [t0, t1] m := by kernel_rfl
theorem okc_impl_SameGrids : CallOK CT cf_impl_SameGrids := cfc_ok ok_C_slices_Equal_impl_Cell_impl_Cell cfn_ok
theorem ok_X_impl_SameGrids : OkX CT 184 X_impl_SameGrids := OkX.of_ex (cf := cf_impl_SameGrids) (np := 2) (LL := []) (J := (fun _ _ _ _ => none)) CT_ok rfl Try.func184 rfl (Nat.le_of_ble_eq_true rfl) (by decide) cok_impl_SameGrids okc_impl_SameGrids (fun k => noLoops rfl) (fun args m r h => match args, h with
    | [t0, t1], h => ⟨rfl, (xe_impl_SameGrids t0 t1 m).trans h⟩)
theorem ok_C_impl_SameGrids : OkC CT 184 C_impl_SameGrids := fcall_ok rfl ok_X_impl_SameGrids

/-! ### slices.Equal[[]bool,bool] -/
noncomputable def cf_slices_Equal_bool_bool : CallF := cfn
noncomputable def L_slices_Equal_bool_bool (k : Nat) : Nat → Nat → List Value → Mem → Option VM
  | q + 1, 0, [t0, t1, t12, t13], m =>
    (binX .lss .no t13 t12) |> bo fun t14 =>
    brX t14
      (
        (ixaX 1 t0 t13) |> bo fun t18 =>
        (ld1 m t18) |> bo fun t19 =>
        (ixaX 1 t1 t13) |> bo fun t22 =>
        (ld1 m t22) |> bo fun t23 =>
        (binX .neq .bool t19 t23) |> bo fun t24 =>
        brX t24
          (
            retK k m [t0, t1] (.bool false))
          (
            (binX .add .no t13 (.int .i64 1)) |> bo fun t25 =>
            cutK k m [t0, t1] [t0, t1, t12, t25] (L_slices_Equal_bool_bool k q 0)))
      (
        retK k m [t0, t1] (.bool true))
  | _, _, _, _ => none
noncomputable def J_slices_Equal_bool_bool (k q l : Nat) : List Value → Mem → Option VM := cond (Nat.beq l 4) (L_slices_Equal_bool_bool k q 0) (fun _ _ => none)
def LL_slices_Equal_bool_bool : List (Nat × List Tmp) := [(4, [0, 1, 12, 13])]
noncomputable def X_slices_Equal_bool_bool : List Value → Mem → Option VM
  | [t0, t1], m =>
    (lenX t0) |> bo fun t7 =>
    (lenX t1) |> bo fun t9 =>
    (binX .neq .no t7 t9) |> bo fun t10 =>
    brX t10
      (
        retK m.length m [t0, t1] (.bool false))
      (
        (lenX t0) |> bo fun t12 =>
        cutK m.length m [t0, t1] [t0, t1, t12, (.int .i64 0)] (L_slices_Equal_bool_bool m.length QQ 0))
  | _, _ => none
noncomputable def C_slices_Equal_bool_bool : List Value → Mem → Option VM := fcall X_slices_Equal_bool_bool
@[simp] theorem c_slices_Equal_bool_bool : C_slices_Equal_bool_bool = fcall X_slices_Equal_bool_bool := (rfl)
theorem cok_slices_Equal_bool_bool : codeOk CT Try.f215 (Try.f215.body.get rfl) = true := by kernel_rfl
theorem xe_slices_Equal_bool_bool (t0 t1 : Value) (m : Mem) : ex CT cf_slices_Equal_bool_bool Try.f215 2 m.length LL_slices_Equal_bool_bool (J_slices_Equal_bool_bool m.length QQ) 400 [.code (Try.f215.body.get rfl)] (argsT 0 [t0, t1]) m = X_slices_Equal_bool_bool [t0, t1] m := by kernel_rfl
theorem okc_slices_Equal_bool_bool : CallOK CT cf_slices_Equal_bool_bool := cfn_ok
theorem le_slices_Equal_bool_bool_0 (k q : Nat) (t0 t1 t12 t13 : Value) (m : Mem) : ex CT cf_slices_Equal_bool_bool Try.f215 2 k LL_slices_Equal_bool_bool (J_slices_Equal_bool_bool k q) 400 (atLoop Try.f215 0) [(0, t0), (1, t1), (12, t12), (13, t13)] m = J_slices_Equal_bool_bool k (q + 1) 4 [t0, t1, t12, t13] m := by kernel_rfl
theorem gl_slices_Equal_bool_bool (k : Nat) : ∀ q i, i < 1 → GoodL CT k Try.f215 LL_slices_Equal_bool_bool (J_slices_Equal_bool_bool k q) (atLoop Try.f215 i)
  | 0, 0, _ => goodL_zero (l := 4) (by kernel_rfl) (fun vs m => by kernel_rfl)
  | 0, _ + 1, h => absurd h (by omega)
  | q + 1, 0, _ => goodL_succ (np := 2) (l := 4) (live := [0, 1, 12, 13]) (n := 1) CT_ok rfl okc_slices_Equal_bool_bool (c := (Try.f215.body.get rfl)) rfl cok_slices_Equal_bool_bool (by kernel_rfl) (gl_slices_Equal_bool_bool k q) (by kernel_rfl) rfl (fun vs m r hl h => match vs, hl with
    | [t0, t1, t12, t13], _ => (le_slices_Equal_bool_bool_0 k q t0 t1 t12 t13 m).trans h)
  | _ + 1, _ + 1, h => absurd h (by omega)
theorem ok_X_slices_Equal_bool_bool : OkX CT 215 X_slices_Equal_bool_bool := OkX.of_ex (cf := cf_slices_Equal_bool_bool) (np := 2) (LL := LL_slices_Equal_bool_bool) (J := (fun k => J_slices_Equal_bool_bool k QQ)) CT_ok rfl Try.func215 rfl (Nat.le_of_ble_eq_true rfl) (by decide) cok_slices_Equal_bool_bool okc_slices_Equal_bool_bool (fun k => allLoops rfl (by kernel_rfl) (gl_slices_Equal_bool_bool k QQ)) (fun args m r h => match args, h with
    | [t0, t1], h => ⟨rfl, (xe_slices_Equal_bool_bool t0 t1 m).trans h⟩)
theorem ok_C_slices_Equal_bool_bool : OkC CT 215 C_slices_Equal_bool_bool := fcall_ok rfl ok_X_slices_Equal_bool_bool

/-! ### impl.SameShown -/
noncomputable def cf_impl_SameShown : CallF := cfc 182 C_slices_Equal_int64_int64 (cfc 184 C_impl_SameGrids (cfc 215 C_slices_Equal_bool_bool cfn))
noncomputable def X_impl_SameShown : List Value → Mem → Option VM
  | [t0, t1], m =>
    (boxX m t0) |> bo fun r1 =>
    (boxX r1.2 t1) |> bo fun r2 =>
    (fadX 0 r1.1) |> bo fun t7 =>
    (fadX 3 t7) |> bo fun t8 =>
    (stX r2.2 1 t8 (.slice none 0 0)) |> bo fun m5 =>
    (fadX 0 r2.1) |> bo fun t9 =>
    (fadX 3 t9) |> bo fun t10 =>
    (stX m5 1 t10 (.slice none 0 0)) |> bo fun m8 =>
    (fadX 6 r1.1) |> bo fun t11 =>
    (ld1 m8 t11) |> bo fun t12 =>
    (fadX 6 r2.1) |> bo fun t13 =>
    (ld1 m8 t13) |> bo fun t14 =>
    (binX .eql .bool t12 t14) |> bo fun t15 =>
    (gd t15 true ((fadX 10 r1.1) |> bo fun v => some (v, m8)) m8) |> bo fun r14 =>
    (gd t15 true ((ld1 r14.2 r14.1) |> bo fun v => some (v, r14.2)) r14.2) |> bo fun r15 =>
    (gd t15 true ((fadX 10 r2.1) |> bo fun v => some (v, r15.2)) r15.2) |> bo fun r16 =>
    (gd t15 true ((ld1 r16.2 r16.1) |> bo fun v => some (v, r16.2)) r16.2) |> bo fun r17 =>
    (gd t15 true ((binX .eql .bool r15.1 r17.1) |> bo fun v => some (v, r17.2)) r17.2) |> bo fun r18 =>
    (pickX t15 r18.1 (.bool false)) |> bo fun t22 =>
    (gd t22 true ((fadX 11 r1.1) |> bo fun v => some (v, r18.2)) r18.2) |> bo fun r20 =>
    (gd t22 true ((ld1 r20.2 r20.1) |> bo fun v => some (v, r20.2)) r20.2) |> bo fun r21 =>
    (gd t22 true ((fadX 11 r2.1) |> bo fun v => some (v, r21.2)) r21.2) |> bo fun r22 =>
    (gd t22 true ((ld1 r22.2 r22.1) |> bo fun v => some (v, r22.2)) r22.2) |> bo fun r23 =>
    (gd t22 true ((binX .eql .bool r21.1 r23.1) |> bo fun v => some (v, r23.2)) r23.2) |> bo fun r24 =>
    (pickX t22 r24.1 (.bool false)) |> bo fun t29 =>
    (gd t29 true ((fadX 12 r1.1) |> bo fun v => some (v, r24.2)) r24.2) |> bo fun r26 =>
    (gd t29 true ((ld1 r26.2 r26.1) |> bo fun v => some (v, r26.2)) r26.2) |> bo fun r27 =>
    (gd t29 true ((fadX 12 r2.1) |> bo fun v => some (v, r27.2)) r27.2) |> bo fun r28 =>
    (gd t29 true ((ld1 r28.2 r28.1) |> bo fun v => some (v, r28.2)) r28.2) |> bo fun r29 =>
    (gd t29 true ((binX .eql .bool r27.1 r29.1) |> bo fun v => some (v, r29.2)) r29.2) |> bo fun r30 =>
    (pickX t29 r30.1 (.bool false)) |> bo fun t36 =>
    (fadX 4 r1.1) |> bo fun t37 =>
    (ld1 r30.2 t37) |> bo fun t38 =>
    (fadX 4 r2.1) |> bo fun t39 =>
    (ld1 r30.2 t39) |> bo fun t40 =>
    (binX .eql .no t38 t40) |> bo fun t41 =>
    (gd t41 true ((fadX 5 r1.1) |> bo fun v => some (v, r30.2)) r30.2) |> bo fun r37 =>
    (gd t41 true ((ld1 r37.2 r37.1) |> bo fun v => some (v, r37.2)) r37.2) |> bo fun r38 =>
    (gd t41 true ((fadX 5 r2.1) |> bo fun v => some (v, r38.2)) r38.2) |> bo fun r39 =>
    (gd t41 true ((ld1 r39.2 r39.1) |> bo fun v => some (v, r39.2)) r39.2) |> bo fun r40 =>
    (gd t41 true ((binX .eql .no r38.1 r40.1) |> bo fun v => some (v, r40.2)) r40.2) |> bo fun r41 =>
    (pickX t41 r41.1 (.bool false)) |> bo fun t48 =>
    (gd t48 true ((fadX 7 r1.1) |> bo fun v => some (v, r41.2)) r41.2) |> bo fun r43 =>
    (gd t48 true ((ld1 r43.2 r43.1) |> bo fun v => some (v, r43.2)) r43.2) |> bo fun r44 =>
    (gd t48 true ((fadX 7 r2.1) |> bo fun v => some (v, r44.2)) r44.2) |> bo fun r45 =>
    (gd t48 true ((ld1 r45.2 r45.1) |> bo fun v => some (v, r45.2)) r45.2) |> bo fun r46 =>
    (gd t48 true ((binX .eql .no r44.1 r46.1) |> bo fun v => some (v, r46.2)) r46.2) |> bo fun r47 =>
    (pickX t48 r47.1 (.bool false)) |> bo fun t55 =>
    (gd t55 true ((fadX 8 r1.1) |> bo fun v => some (v, r47.2)) r47.2) |> bo fun r49 =>
    (gd t55 true ((ld1 r49.2 r49.1) |> bo fun v => some (v, r49.2)) r49.2) |> bo fun r50 =>
    (gd t55 true ((fadX 8 r2.1) |> bo fun v => some (v, r50.2)) r50.2) |> bo fun r51 =>
    (gd t55 true ((ld1 r51.2 r51.1) |> bo fun v => some (v, r51.2)) r51.2) |> bo fun r52 =>
    (gd t55 true ((binX .eql .no r50.1 r52.1) |> bo fun v => some (v, r52.2)) r52.2) |> bo fun r53 =>
    (pickX t55 r53.1 (.bool false)) |> bo fun t62 =>
    (gd t62 true ((fadX 9 r1.1) |> bo fun v => some (v, r53.2)) r53.2) |> bo fun r55 =>
    (gd t62 true ((ld1 r55.2 r55.1) |> bo fun v => some (v, r55.2)) r55.2) |> bo fun r56 =>
    (gd t62 true ((fadX 9 r2.1) |> bo fun v => some (v, r56.2)) r56.2) |> bo fun r57 =>
    (gd t62 true ((ld1 r57.2 r57.1) |> bo fun v => some (v, r57.2)) r57.2) |> bo fun r58 =>
    (gd t62 true ((binX .eql .no r56.1 r58.1) |> bo fun v => some (v, r58.2)) r58.2) |> bo fun r59 =>
    (pickX t62 r59.1 (.bool false)) |> bo fun t69 =>
    (gd t69 true ((fadX 18 r1.1) |> bo fun v => some (v, r59.2)) r59.2) |> bo fun r61 =>
    (gd t69 true ((ld1 r61.2 r61.1) |> bo fun v => some (v, r61.2)) r61.2) |> bo fun r62 =>
    (gd t69 true ((fadX 18 r2.1) |> bo fun v => some (v, r62.2)) r62.2) |> bo fun r63 =>
    (gd t69 true ((ld1 r63.2 r63.1) |> bo fun v => some (v, r63.2)) r63.2) |> bo fun r64 =>
    (gd t69 true ((binX .eql .no r62.1 r64.1) |> bo fun v => some (v, r64.2)) r64.2) |> bo fun r65 =>
    (pickX t69 r65.1 (.bool false)) |> bo fun t76 =>
    (gd t36 true (some (t76, r65.2)) r65.2) |> bo fun r67 =>
    (pickX t36 r67.1 (.bool false)) |> bo fun t80 =>
    (gd t80 true ((fadX 0 r1.1) |> bo fun v => some (v, r67.2)) r67.2) |> bo fun r69 =>
    (gd t80 true ((ldS r69.2 4 r69.1) |> bo fun v => some (v, r69.2)) r69.2) |> bo fun r70 =>
    (gd t80 true ((fadX 0 r2.1) |> bo fun v => some (v, r70.2)) r70.2) |> bo fun r71 =>
    (gd t80 true ((ldS r71.2 4 r71.1) |> bo fun v => some (v, r71.2)) r71.2) |> bo fun r72 =>
    (gd t80 true ((C_impl_SameGrids [r70.1, r72.1] r72.2) |> bo fun r => some (r.1, r.2)) r72.2) |> bo fun r73 =>
    (pickX t80 r73.1 (.bool false)) |> bo fun t87 =>
    (gd t87 true ((fadX 13 r1.1) |> bo fun v => some (v, r73.2)) r73.2) |> bo fun r75 =>
    (gd t87 true ((ld1 r75.2 r75.1) |> bo fun v => some (v, r75.2)) r75.2) |> bo fun r76 =>
    (gd t87 true ((fadX 13 r2.1) |> bo fun v => some (v, r76.2)) r76.2) |> bo fun r77 =>
    (gd t87 true ((ld1 r77.2 r77.1) |> bo fun v => some (v, r77.2)) r77.2) |> bo fun r78 =>
    (gd t87 true ((C_slices_Equal_bool_bool [r76.1, r78.1] r78.2) |> bo fun r => some (r.1, r.2)) r78.2) |> bo fun r79 =>
    (pickX t87 r79.1 (.bool false)) |> bo fun t94 =>
    (gd t94 true ((fadX 17 r1.1) |> bo fun v => some (v, r79.2)) r79.2) |> bo fun r81 =>
    (gd t94 true ((ld1 r81.2 r81.1) |> bo fun v => some (v, r81.2)) r81.2) |> bo fun r82 =>
    (gd t94 true ((fadX 17 r2.1) |> bo fun v => some (v, r82.2)) r82.2) |> bo fun r83 =>
    (gd t94 true ((ld1 r83.2 r83.1) |> bo fun v => some (v, r83.2)) r83.2) |> bo fun r84 =>
    (gd t94 true ((C_slices_Equal_int64_int64 [r82.1, r84.1] r84.2) |> bo fun r => some (r.1, r.2)) r84.2) |> bo fun r85 =>
    (pickX t94 r85.1 (.bool false)) |> bo fun t101 =>
    retK m.length r85.2 [t0, t1] t101
  | _, _ => none
noncomputable def C_impl_SameShown : List Value → Mem → Option VM := fcall X_impl_SameShown
@[simp] theorem c_impl_SameShown : C_impl_SameShown = fcall X_impl_SameShown := (rfl)
theorem cok_impl_SameShown : codeOk CT Try.f183 (Try.f183.body.get rfl) = true := by kernel_rfl
theorem xe_impl_SameShown (t0 t1 : Value) (m : Mem) : ex CT cf_impl_SameShown Try.f183 2 m.length [] (fun _ _ _ => none) 400 [.code (Try.f183.body.get rfl)] (argsT 0 [t0, t1]) m = X_impl_SameShown [t0, t1] m := by kernel_rfl
theorem okc_impl_SameShown : CallOK CT cf_impl_SameShown := cfc_ok ok_C_slices_Equal_int64_int64 (cfc_ok ok_C_impl_SameGrids (cfc_ok ok_C_slices_Equal_bool_bool cfn_ok))
theorem ok_X_impl_SameShown : OkX CT 183 X_impl_SameShown := OkX.of_ex (cf := cf_impl_SameShown) (np := 2) (LL := []) (J := (fun _ _ _ _ => none)) CT_ok rfl Try.func183 rfl (Nat.le_of_ble_eq_true rfl) (by decide) cok_impl_SameShown okc_impl_SameShown (fun k => noLoops rfl) (fun args m r h => match args, h with
    | [t0, t1], h => ⟨rfl, (xe_impl_SameShown t0 t1 m).trans h⟩)
theorem ok_C_impl_SameShown : OkC CT 183 C_impl_SameShown := fcall_ok rfl ok_X_impl_SameShown

/-! ### impl.sameScreens -/
noncomputable def cf_impl_sameScreens : CallF := cfc 183 C_impl_SameShown (cfc 184 C_impl_SameGrids cfn)
noncomputable def X_impl_sameScreens : List Value → Mem → Option VM
  | [t0, t1], m =>
    (boxX m t0) |> bo fun r1 =>
    (boxX r1.2 t1) |> bo fun r2 =>
    (ldS r2.2 20 r1.1) |> bo fun t5 =>
    (ldS r2.2 20 r2.1) |> bo fun t6 =>
    (C_impl_SameShown [t5, t6] r2.2) |> bo fun r5 =>
    (gd r5.1 true ((fadX 0 r1.1) |> bo fun v => some (v, r5.2)) r5.2) |> bo fun r6 =>
    (gd r5.1 true ((ldS r6.2 4 r6.1) |> bo fun v => some (v, r6.2)) r6.2) |> bo fun r7 =>
    (gd r5.1 true ((fadX 0 r2.1) |> bo fun v => some (v, r7.2)) r7.2) |> bo fun r8 =>
    (gd r5.1 true ((ldS r8.2 4 r8.1) |> bo fun v => some (v, r8.2)) r8.2) |> bo fun r9 =>
    (gd r5.1 true ((C_impl_SameGrids [r7.1, r9.1] r9.2) |> bo fun r => some (r.1, r.2)) r9.2) |> bo fun r10 =>
    (pickX r5.1 r10.1 (.bool false)) |> bo fun t14 =>
    (gd t14 true ((fadX 14 r1.1) |> bo fun v => some (v, r10.2)) r10.2) |> bo fun r12 =>
    (gd t14 true ((ld1 r12.2 r12.1) |> bo fun v => some (v, r12.2)) r12.2) |> bo fun r13 =>
    (gd t14 true ((fadX 14 r2.1) |> bo fun v => some (v, r13.2)) r13.2) |> bo fun r14 =>
    (gd t14 true ((ld1 r14.2 r14.1) |> bo fun v => some (v, r14.2)) r14.2) |> bo fun r15 =>
    (gd t14 true ((binX .eql .no r13.1 r15.1) |> bo fun v => some (v, r15.2)) r15.2) |> bo fun r16 =>
    (pickX t14 r16.1 (.bool false)) |> bo fun t21 =>
    (gd t21 true ((fadX 15 r1.1) |> bo fun v => some (v, r16.2)) r16.2) |> bo fun r18 =>
    (gd t21 true ((ld1 r18.2 r18.1) |> bo fun v => some (v, r18.2)) r18.2) |> bo fun r19 =>
    (gd t21 true ((fadX 15 r2.1) |> bo fun v => some (v, r19.2)) r19.2) |> bo fun r20 =>
    (gd t21 true ((ld1 r20.2 r20.1) |> bo fun v => some (v, r20.2)) r20.2) |> bo fun r21 =>
    (gd t21 true ((binX .eql .no r19.1 r21.1) |> bo fun v => some (v, r21.2)) r21.2) |> bo fun r22 =>
    (pickX t21 r22.1 (.bool false)) |> bo fun t28 =>
    (gd t28 true ((fadX 16 r1.1) |> bo fun v => some (v, r22.2)) r22.2) |> bo fun r24 =>
    (gd t28 true ((ld1 r24.2 r24.1) |> bo fun v => some (v, r24.2)) r24.2) |> bo fun r25 =>
    (gd t28 true ((fadX 16 r2.1) |> bo fun v => some (v, r25.2)) r25.2) |> bo fun r26 =>
    (gd t28 true ((ld1 r26.2 r26.1) |> bo fun v => some (v, r26.2)) r26.2) |> bo fun r27 =>
    (gd t28 true ((binX .eql .no r25.1 r27.1) |> bo fun v => some (v, r27.2)) r27.2) |> bo fun r28 =>
    (pickX t28 r28.1 (.bool false)) |> bo fun t35 =>
    (gd t35 true ((fadX 19 r1.1) |> bo fun v => some (v, r28.2)) r28.2) |> bo fun r30 =>
    (gd t35 true ((ld1 r30.2 r30.1) |> bo fun v => some (v, r30.2)) r30.2) |> bo fun r31 =>
    (gd t35 true ((fadX 19 r2.1) |> bo fun v => some (v, r31.2)) r31.2) |> bo fun r32 =>
    (gd t35 true ((ld1 r32.2 r32.1) |> bo fun v => some (v, r32.2)) r32.2) |> bo fun r33 =>
    (gd t35 true ((binX .eql .no r31.1 r33.1) |> bo fun v => some (v, r33.2)) r33.2) |> bo fun r34 =>
    (pickX t35 r34.1 (.bool false)) |> bo fun t42 =>
    retK m.length r34.2 [t0, t1] t42
  | _, _ => none
noncomputable def C_impl_sameScreens : List Value → Mem → Option VM := fcall X_impl_sameScreens
@[simp] theorem c_impl_sameScreens : C_impl_sameScreens = fcall X_impl_sameScreens := (rfl)
theorem cok_impl_sameScreens : codeOk CT Try.f137 (Try.f137.body.get rfl) = true := by kernel_rfl
theorem xe_impl_sameScreens (t0 t1 : Value) (m : Mem) : ex CT cf_impl_sameScreens Try.f137 2 m.length [] (fun _ _ _ => none) 400 [.code (Try.f137.body.get rfl)] (argsT 0 [t0, t1]) m = X_impl_sameScreens [t0, t1] m := by kernel_rfl
theorem okc_impl_sameScreens : CallOK CT cf_impl_sameScreens := cfc_ok ok_C_impl_SameShown (cfc_ok ok_C_impl_SameGrids cfn_ok)
theorem ok_X_impl_sameScreens : OkX CT 137 X_impl_sameScreens := OkX.of_ex (cf := cf_impl_sameScreens) (np := 2) (LL := []) (J := (fun _ _ _ _ => none)) CT_ok rfl Try.func137 rfl (Nat.le_of_ble_eq_true rfl) (by decide) cok_impl_sameScreens okc_impl_sameScreens (fun k => noLoops rfl) (fun args m r h => match args, h with
    | [t0, t1], h => ⟨rfl, (xe_impl_sameScreens t0 t1 m).trans h⟩)
theorem ok_C_impl_sameScreens : OkC CT 137 C_impl_sameScreens := fcall_ok rfl ok_X_impl_sameScreens

/-! ### impl.SameVts -/
noncomputable def cf_impl_SameVts : CallF := cfc 136 C_impl_SameParsers (cfc 137 C_impl_sameScreens cfn)
noncomputable def X_impl_SameVts : List Value → Mem → Option VM
  | [t0, t1], m =>
    (boxX m t0) |> bo fun r1 =>
    (boxX r1.2 t1) |> bo fun r2 =>
    (fadX 0 r1.1) |> bo fun t5 =>
    (ldS r2.2 3 t5) |> bo fun t6 =>
    (fadX 0 r2.1) |> bo fun t7 =>
    (ldS r2.2 3 t7) |> bo fun t8 =>
    (binX .eql (.st [0, 1, 2]) t6 t8) |> bo fun t9 =>
    (gd t9 true ((fadX 3 r1.1) |> bo fun v => some (v, r2.2)) r2.2) |> bo fun r8 =>
    (gd t9 true ((ldS r8.2 4 r8.1) |> bo fun v => some (v, r8.2)) r8.2) |> bo fun r9 =>
    (gd t9 true ((fadX 3 r2.1) |> bo fun v => some (v, r9.2)) r9.2) |> bo fun r10 =>
    (gd t9 true ((ldS r10.2 4 r10.1) |> bo fun v => some (v, r10.2)) r10.2) |> bo fun r11 =>
    (gd t9 true ((C_impl_SameParsers [r9.1, r11.1] r11.2) |> bo fun r => some (r.1, r.2)) r11.2) |> bo fun r12 =>
    (pickX t9 r12.1 (.bool false)) |> bo fun t16 =>
    (gd t16 true ((fadX 7 r1.1) |> bo fun v => some (v, r12.2)) r12.2) |> bo fun r14 =>
    (gd t16 true ((ldS r14.2 20 r14.1) |> bo fun v => some (v, r14.2)) r14.2) |> bo fun r15 =>
    (gd t16 true ((fadX 7 r2.1) |> bo fun v => some (v, r15.2)) r15.2) |> bo fun r16 =>
    (gd t16 true ((ldS r16.2 20 r16.1) |> bo fun v => some (v, r16.2)) r16.2) |> bo fun r17 =>
    (gd t16 true ((C_impl_sameScreens [r15.1, r17.1] r17.2) |> bo fun r => some (r.1, r.2)) r17.2) |> bo fun r18 =>
    (pickX t16 r18.1 (.bool false)) |> bo fun t23 =>
    retK m.length r18.2 [t0, t1] t23
  | _, _ => none
noncomputable def C_impl_SameVts : List Value → Mem → Option VM := fcall X_impl_SameVts
@[simp] theorem c_impl_SameVts : C_impl_SameVts = fcall X_impl_SameVts := (rfl)
theorem cok_impl_SameVts : codeOk CT Try.f90 (Try.f90.body.get rfl) = true := by kernel_rfl
theorem xe_impl_SameVts (t0 t1 : Value) (m : Mem) : ex CT cf_impl_SameVts Try.f90 2 m.length [] (fun _ _ _ => none) 400 [.code (Try.f90.body.get rfl)] (argsT 0 [t0, t1]) m = X_impl_SameVts [t0, t1] m := by kernel_rfl
theorem okc_impl_SameVts : CallOK CT cf_impl_SameVts := cfc_ok ok_C_impl_SameParsers (cfc_ok ok_C_impl_sameScreens cfn_ok)
theorem ok_X_impl_SameVts : OkX CT 90 X_impl_SameVts := OkX.of_ex (cf := cf_impl_SameVts) (np := 2) (LL := []) (J := (fun _ _ _ _ => none)) CT_ok rfl Try.func90 rfl (Nat.le_of_ble_eq_true rfl) (by decide) cok_impl_SameVts okc_impl_SameVts (fun k => noLoops rfl) (fun args m r h => match args, h with
    | [t0, t1], h => ⟨rfl, (xe_impl_SameVts t0 t1 m).trans h⟩)
theorem ok_C_impl_SameVts : OkC CT 90 C_impl_SameVts := fcall_ok rfl ok_X_impl_SameVts

/-! ### impl.SameConsoles -/
noncomputable def cf_impl_SameConsoles : CallF := cfc 29 C_impl_SameLines (cfc 90 C_impl_SameVts cfn)
noncomputable def X_impl_SameConsoles : List Value → Mem → Option VM
  | [t0, t1], m =>
    (boxX m t0) |> bo fun r1 =>
    (boxX r1.2 t1) |> bo fun r2 =>
    (fadX 0 r1.1) |> bo fun t5 =>
    (ldS r2.2 27 t5) |> bo fun t6 =>
    (fadX 0 r2.1) |> bo fun t7 =>
    (ldS r2.2 27 t7) |> bo fun t8 =>
    (C_impl_SameVts [t6, t8] r2.2) |> bo fun r7 =>
    (gd r7.1 true ((fadX 27 r1.1) |> bo fun v => some (v, r7.2)) r7.2) |> bo fun r8 =>
    (gd r7.1 true ((ldS r8.2 7 r8.1) |> bo fun v => some (v, r8.2)) r8.2) |> bo fun r9 =>
    (gd r7.1 true ((fadX 27 r2.1) |> bo fun v => some (v, r9.2)) r9.2) |> bo fun r10 =>
    (gd r7.1 true ((ldS r10.2 7 r10.1) |> bo fun v => some (v, r10.2)) r10.2) |> bo fun r11 =>
    (gd r7.1 true ((binX .eql (.st [0, 1, 2, 3, 4, 5, 6]) r9.1 r11.1) |> bo fun v => some (v, r11.2)) r11.2) |> bo fun r12 =>
    (pickX r7.1 r12.1 (.bool false)) |> bo fun t16 =>
    (gd t16 true ((fadX 34 r1.1) |> bo fun v => some (v, r12.2)) r12.2) |> bo fun r14 =>
    (gd t16 true ((ldS r14.2 4 r14.1) |> bo fun v => some (v, r14.2)) r14.2) |> bo fun r15 =>
    (gd t16 true ((fadX 34 r2.1) |> bo fun v => some (v, r15.2)) r15.2) |> bo fun r16 =>
    (gd t16 true ((ldS r16.2 4 r16.1) |> bo fun v => some (v, r16.2)) r16.2) |> bo fun r17 =>
    (gd t16 true ((C_impl_SameLines [r15.1, r17.1] r17.2) |> bo fun r => some (r.1, r.2)) r17.2) |> bo fun r18 =>
    (pickX t16 r18.1 (.bool false)) |> bo fun t23 =>
    retK m.length r18.2 [t0, t1] t23
  | _, _ => none
noncomputable def C_impl_SameConsoles : List Value → Mem → Option VM := fcall X_impl_SameConsoles
@[simp] theorem c_impl_SameConsoles : C_impl_SameConsoles = fcall X_impl_SameConsoles := (rfl)
theorem cok_impl_SameConsoles : codeOk CT Try.f45 (Try.f45.body.get rfl) = true := by kernel_rfl
theorem xe_impl_SameConsoles (t0 t1 : Value) (m : Mem) : ex CT cf_impl_SameConsoles Try.f45 2 m.length [] (fun _ _ _ => none) 400 [.code (Try.f45.body.get rfl)] (argsT 0 [t0, t1]) m = X_impl_SameConsoles [t0, t1] m := by kernel_rfl
theorem okc_impl_SameConsoles : CallOK CT cf_impl_SameConsoles := cfc_ok ok_C_impl_SameLines (cfc_ok ok_C_impl_SameVts cfn_ok)
theorem ok_X_impl_SameConsoles : OkX CT 45 X_impl_SameConsoles := OkX.of_ex (cf := cf_impl_SameConsoles) (np := 2) (LL := []) (J := (fun _ _ _ _ => none)) CT_ok rfl Try.func45 rfl (Nat.le_of_ble_eq_true rfl) (by decide) cok_impl_SameConsoles okc_impl_SameConsoles (fun k => noLoops rfl) (fun args m r h => match args, h with
    | [t0, t1], h => ⟨rfl, (xe_impl_SameConsoles t0 t1 m).trans h⟩)
theorem ok_C_impl_SameConsoles : OkC CT 45 C_impl_SameConsoles := fcall_ok rfl ok_X_impl_SameConsoles

/-! ### laws.eqByteS -/
noncomputable def cf_laws_eqByteS : CallF := cfn
noncomputable def L_laws_eqByteS (k : Nat) : Nat → Nat → List Value → Mem → Option VM
  | q + 1, 0, [t0, t1, t5], m =>
    (lenX t0) |> bo fun t13 =>
    (binX .lss .no t5 t13) |> bo fun t14 =>
    brX t14
      (
        (ixaX 1 t0 t5) |> bo fun t19 =>
        (ld1 m t19) |> bo fun t20 =>
        (ixaX 1 t1 t5) |> bo fun t23 =>
        (ld1 m t23) |> bo fun t24 =>
        (binX .neq .no t20 t24) |> bo fun t25 =>
        brX t25
          (
            retK k m [t0, t1] (.bool false))
          (
            (binX .add .no t5 (.int .i64 1)) |> bo fun t16 =>
            cutK k m [t0, t1] [t0, t1, t16] (L_laws_eqByteS k q 0)))
      (
        retK k m [t0, t1] (.bool true))
  | _, _, _, _ => none
noncomputable def J_laws_eqByteS (k q l : Nat) : List Value → Mem → Option VM := cond (Nat.beq l 4) (L_laws_eqByteS k q 0) (fun _ _ => none)
def LL_laws_eqByteS : List (Nat × List Tmp) := [(4, [0, 1, 5])]
noncomputable def X_laws_eqByteS : List Value → Mem → Option VM
  | [t0, t1], m =>
    (lenX t0) |> bo fun t7 =>
    (lenX t1) |> bo fun t9 =>
    (binX .neq .no t7 t9) |> bo fun t10 =>
    brX t10
      (
        retK m.length m [t0, t1] (.bool false))
      (
        cutK m.length m [t0, t1] [t0, t1, (.int .i64 0)] (L_laws_eqByteS m.length QQ 0))
  | _, _ => none
noncomputable def C_laws_eqByteS : List Value → Mem → Option VM := fcall X_laws_eqByteS
@[simp] theorem c_laws_eqByteS : C_laws_eqByteS = fcall X_laws_eqByteS := (rfl)
theorem cok_laws_eqByteS : codeOk CT Try.f22 (Try.f22.body.get rfl) = true := by kernel_rfl
theorem xe_laws_eqByteS (t0 t1 : Value) (m : Mem) : ex CT cf_laws_eqByteS Try.f22 2 m.length LL_laws_eqByteS (J_laws_eqByteS m.length QQ) 400 [.code (Try.f22.body.get rfl)] (argsT 0 [t0, t1]) m = X_laws_eqByteS [t0, t1] m := by kernel_rfl
theorem okc_laws_eqByteS : CallOK CT cf_laws_eqByteS := cfn_ok
theorem le_laws_eqByteS_0 (k q : Nat) (t0 t1 t5 : Value) (m : Mem) : ex CT cf_laws_eqByteS Try.f22 2 k LL_laws_eqByteS (J_laws_eqByteS k q) 400 (atLoop Try.f22 0) [(0, t0), (1, t1), (5, t5)] m = J_laws_eqByteS k (q + 1) 4 [t0, t1, t5] m := by kernel_rfl
theorem gl_laws_eqByteS (k : Nat) : ∀ q i, i < 1 → GoodL CT k Try.f22 LL_laws_eqByteS (J_laws_eqByteS k q) (atLoop Try.f22 i)
  | 0, 0, _ => goodL_zero (l := 4) (by kernel_rfl) (fun vs m => by kernel_rfl)
  | 0, _ + 1, h => absurd h (by omega)
  | q + 1, 0, _ => goodL_succ (np := 2) (l := 4) (live := [0, 1, 5]) (n := 1) CT_ok rfl okc_laws_eqByteS (c := (Try.f22.body.get rfl)) rfl cok_laws_eqByteS (by kernel_rfl) (gl_laws_eqByteS k q) (by kernel_rfl) rfl (fun vs m r hl h => match vs, hl with
    | [t0, t1, t5], _ => (le_laws_eqByteS_0 k q t0 t1 t5 m).trans h)
  | _ + 1, _ + 1, h => absurd h (by omega)
theorem ok_X_laws_eqByteS : OkX CT 22 X_laws_eqByteS := OkX.of_ex (cf := cf_laws_eqByteS) (np := 2) (LL := LL_laws_eqByteS) (J := (fun k => J_laws_eqByteS k QQ)) CT_ok rfl Try.func22 rfl (Nat.le_of_ble_eq_true rfl) (by decide) cok_laws_eqByteS okc_laws_eqByteS (fun k => allLoops rfl (by kernel_rfl) (gl_laws_eqByteS k QQ)) (fun args m r h => match args, h with
    | [t0, t1], h => ⟨rfl, (xe_laws_eqByteS t0 t1 m).trans h⟩)
theorem ok_C_laws_eqByteS : OkC CT 22 C_laws_eqByteS := fcall_ok rfl ok_X_laws_eqByteS

/-! ### laws.eqByteSS -/
noncomputable def cf_laws_eqByteSS : CallF := cfc 22 C_laws_eqByteS cfn
noncomputable def L_laws_eqByteSS (k : Nat) : Nat → Nat → List Value → Mem → Option VM
  | q + 1, 0, [t0, t1, t5], m =>
    (lenX t0) |> bo fun t13 =>
    (binX .lss .no t5 t13) |> bo fun t14 =>
    brX t14
      (
        (ixaX 1 t0 t5) |> bo fun t19 =>
        (ld1 m t19) |> bo fun t20 =>
        (ixaX 1 t1 t5) |> bo fun t23 =>
        (ld1 m t23) |> bo fun t24 =>
        (C_laws_eqByteS [t20, t24] m) |> bo fun r7 =>
        (uop .not r7.1) |> bo fun t26 =>
        brX t26
          (
            retK k r7.2 [t0, t1] (.bool false))
          (
            (binX .add .no t5 (.int .i64 1)) |> bo fun t16 =>
            cutK k r7.2 [t0, t1] [t0, t1, t16] (L_laws_eqByteSS k q 0)))
      (
        retK k m [t0, t1] (.bool true))
  | _, _, _, _ => none
noncomputable def J_laws_eqByteSS (k q l : Nat) : List Value → Mem → Option VM := cond (Nat.beq l 4) (L_laws_eqByteSS k q 0) (fun _ _ => none)
def LL_laws_eqByteSS : List (Nat × List Tmp) := [(4, [0, 1, 5])]
noncomputable def X_laws_eqByteSS : List Value → Mem → Option VM
  | [t0, t1], m =>
    (lenX t0) |> bo fun t7 =>
    (lenX t1) |> bo fun t9 =>
    (binX .neq .no t7 t9) |> bo fun t10 =>
    brX t10
      (
        retK m.length m [t0, t1] (.bool false))
      (
        cutK m.length m [t0, t1] [t0, t1, (.int .i64 0)] (L_laws_eqByteSS m.length QQ 0))
  | _, _ => none
noncomputable def C_laws_eqByteSS : List Value → Mem → Option VM := fcall X_laws_eqByteSS
@[simp] theorem c_laws_eqByteSS : C_laws_eqByteSS = fcall X_laws_eqByteSS := (rfl)
theorem cok_laws_eqByteSS : codeOk CT Try.f56 (Try.f56.body.get rfl) = true := by kernel_rfl
theorem xe_laws_eqByteSS (t0 t1 : Value) (m : Mem) : ex CT cf_laws_eqByteSS Try.f56 2 m.length LL_laws_eqByteSS (J_laws_eqByteSS m.length QQ) 400 [.code (Try.f56.body.get rfl)] (argsT 0 [t0, t1]) m = X_laws_eqByteSS [t0, t1] m := by kernel_rfl
theorem okc_laws_eqByteSS : CallOK CT cf_laws_eqByteSS := cfc_ok ok_C_laws_eqByteS cfn_ok
theorem le_laws_eqByteSS_0 (k q : Nat) (t0 t1 t5 : Value) (m : Mem) : ex CT cf_laws_eqByteSS Try.f56 2 k LL_laws_eqByteSS (J_laws_eqByteSS k q) 400 (atLoop Try.f56 0) [(0, t0), (1, t1), (5, t5)] m = J_laws_eqByteSS k (q + 1) 4 [t0, t1, t5] m := by kernel_rfl
theorem gl_laws_eqByteSS (k : Nat) : ∀ q i, i < 1 → GoodL CT k Try.f56 LL_laws_eqByteSS (J_laws_eqByteSS k q) (atLoop Try.f56 i)
  | 0, 0, _ => goodL_zero (l := 4) (by kernel_rfl) (fun vs m => by kernel_rfl)
  | 0, _ + 1, h => absurd h (by omega)
  | q + 1, 0, _ => goodL_succ (np := 2) (l := 4) (live := [0, 1, 5]) (n := 1) CT_ok rfl okc_laws_eqByteSS (c := (Try.f56.body.get rfl)) rfl cok_laws_eqByteSS (by kernel_rfl) (gl_laws_eqByteSS k q) (by kernel_rfl) rfl (fun vs m r hl h => match vs, hl with
    | [t0, t1, t5], _ => (le_laws_eqByteSS_0 k q t0 t1 t5 m).trans h)
  | _ + 1, _ + 1, h => absurd h (by omega)
theorem ok_X_laws_eqByteSS : OkX CT 56 X_laws_eqByteSS := OkX.of_ex (cf := cf_laws_eqByteSS) (np := 2) (LL := LL_laws_eqByteSS) (J := (fun k => J_laws_eqByteSS k QQ)) CT_ok rfl Try.func56 rfl (Nat.le_of_ble_eq_true rfl) (by decide) cok_laws_eqByteSS okc_laws_eqByteSS (fun k => allLoops rfl (by kernel_rfl) (gl_laws_eqByteSS k QQ)) (fun args m r h => match args, h with
    | [t0, t1], h => ⟨rfl, (xe_laws_eqByteSS t0 t1 m).trans h⟩)
theorem ok_C_laws_eqByteSS : OkC CT 56 C_laws_eqByteSS := fcall_ok rfl ok_X_laws_eqByteSS

/-! ### laws.eqLine -/
noncomputable def cf_laws_eqLine : CallF := cfc 22 C_laws_eqByteS (cfc 56 C_laws_eqByteSS cfn)
noncomputable def X_laws_eqLine : List Value → Mem → Option VM
  | [t0, t1], m =>
    (boxX m t0) |> bo fun r1 =>
    (boxX r1.2 t1) |> bo fun r2 =>
    (fadX 0 r1.1) |> bo fun t5 =>
    (ld1 r2.2 t5) |> bo fun t6 =>
    (fadX 0 r2.1) |> bo fun t7 =>
    (ld1 r2.2 t7) |> bo fun t8 =>
    (C_laws_eqByteSS [t6, t8] r2.2) |> bo fun r7 =>
    (uop .not r7.1) |> bo fun t10 =>
    brX t10
      (
        retK m.length r7.2 [t0, t1] (.bool false))
      (
        (fadX 1 r1.1) |> bo fun t11 =>
        (ld1 r7.2 t11) |> bo fun t12 =>
        (fadX 1 r2.1) |> bo fun t13 =>
        (ld1 r7.2 t13) |> bo fun t14 =>
        (C_laws_eqByteS [t12, t14] r7.2) |> bo fun r13 =>
        (uop .not r13.1) |> bo fun t16 =>
        brX t16
          (
            retK m.length r13.2 [t0, t1] (.bool false))
          (
            (fadX 2 r1.1) |> bo fun t17 =>
            (ld1 r13.2 t17) |> bo fun t18 =>
            (fadX 2 r2.1) |> bo fun t19 =>
            (ld1 r13.2 t19) |> bo fun t20 =>
            (binX .neq .bool t18 t20) |> bo fun t21 =>
            brX t21
              (
                retK m.length r13.2 [t0, t1] (.bool false))
              (
                (fadX 3 r1.1) |> bo fun t22 =>
                (ld1 r13.2 t22) |> bo fun t23 =>
                (fadX 3 r2.1) |> bo fun t24 =>
                (ld1 r13.2 t24) |> bo fun t25 =>
                (binX .neq .no t23 t25) |> bo fun t26 =>
                brX t26
                  (
                    retK m.length r13.2 [t0, t1] (.bool false))
                  (
                    retK m.length r13.2 [t0, t1] (.bool true)))))
  | _, _ => none
noncomputable def C_laws_eqLine : List Value → Mem → Option VM := fcall X_laws_eqLine
@[simp] theorem c_laws_eqLine : C_laws_eqLine = fcall X_laws_eqLine := (rfl)
theorem cok_laws_eqLine : codeOk CT Try.f15 (Try.f15.body.get rfl) = true := by kernel_rfl
theorem xe_laws_eqLine (t0 t1 : Value) (m : Mem) : ex CT cf_laws_eqLine Try.f15 2 m.length [] (fun _ _ _ => none) 400 [.code (Try.f15.body.get rfl)] (argsT 0 [t0, t1]) m = X_laws_eqLine [t0, t1] m := by kernel_rfl
theorem okc_laws_eqLine : CallOK CT cf_laws_eqLine := cfc_ok ok_C_laws_eqByteS (cfc_ok ok_C_laws_eqByteSS cfn_ok)
theorem ok_X_laws_eqLine : OkX CT 15 X_laws_eqLine := OkX.of_ex (cf := cf_laws_eqLine) (np := 2) (LL := []) (J := (fun _ _ _ _ => none)) CT_ok rfl Try.func15 rfl (Nat.le_of_ble_eq_true rfl) (by decide) cok_laws_eqLine okc_laws_eqLine (fun k => noLoops rfl) (fun args m r h => match args, h with
    | [t0, t1], h => ⟨rfl, (xe_laws_eqLine t0 t1 m).trans h⟩)
theorem ok_C_laws_eqLine : OkC CT 15 C_laws_eqLine := fcall_ok rfl ok_X_laws_eqLine

/-! ### laws.eqDecoder -/
noncomputable def cf_laws_eqDecoder : CallF := cfn
noncomputable def X_laws_eqDecoder : List Value → Mem → Option VM
  | [t0, t1], m =>
    (boxX m t0) |> bo fun r1 =>
    (boxX r1.2 t1) |> bo fun r2 =>
    (fadX 0 r1.1) |> bo fun t5 =>
    (ld1 r2.2 t5) |> bo fun t6 =>
    (fadX 0 r2.1) |> bo fun t7 =>
    (ld1 r2.2 t7) |> bo fun t8 =>
    (binX .neq .no t6 t8) |> bo fun t9 =>
    brX t9
      (
        retK m.length r2.2 [t0, t1] (.bool false))
      (
        (fadX 1 r1.1) |> bo fun t10 =>
        (ld1 r2.2 t10) |> bo fun t11 =>
        (fadX 1 r2.1) |> bo fun t12 =>
        (ld1 r2.2 t12) |> bo fun t13 =>
        (binX .neq .no t11 t13) |> bo fun t14 =>
        brX t14
          (
            retK m.length r2.2 [t0, t1] (.bool false))
          (
            (fadX 2 r1.1) |> bo fun t15 =>
            (ld1 r2.2 t15) |> bo fun t16 =>
            (fadX 2 r2.1) |> bo fun t17 =>
            (ld1 r2.2 t17) |> bo fun t18 =>
            (binX .neq .no t16 t18) |> bo fun t19 =>
            brX t19
              (
                retK m.length r2.2 [t0, t1] (.bool false))
              (
                retK m.length r2.2 [t0, t1] (.bool true))))
  | _, _ => none
noncomputable def C_laws_eqDecoder : List Value → Mem → Option VM := fcall X_laws_eqDecoder
@[simp] theorem c_laws_eqDecoder : C_laws_eqDecoder = fcall X_laws_eqDecoder := (rfl)
theorem cok_laws_eqDecoder : codeOk CT Try.f79 (Try.f79.body.get rfl) = true := by kernel_rfl
theorem xe_laws_eqDecoder (t0 t1 : Value) (m : Mem) : ex CT cf_laws_eqDecoder Try.f79 2 m.length [] (fun _ _ _ => none) 400 [.code (Try.f79.body.get rfl)] (argsT 0 [t0, t1]) m = X_laws_eqDecoder [t0, t1] m := by kernel_rfl
theorem okc_laws_eqDecoder : CallOK CT cf_laws_eqDecoder := cfn_ok
theorem ok_X_laws_eqDecoder : OkX CT 79 X_laws_eqDecoder := OkX.of_ex (cf := cf_laws_eqDecoder) (np := 2) (LL := []) (J := (fun _ _ _ _ => none)) CT_ok rfl Try.func79 rfl (Nat.le_of_ble_eq_true rfl) (by decide) cok_laws_eqDecoder okc_laws_eqDecoder (fun k => noLoops rfl) (fun args m r h => match args, h with
    | [t0, t1], h => ⟨rfl, (xe_laws_eqDecoder t0 t1 m).trans h⟩)
theorem ok_C_laws_eqDecoder : OkC CT 79 C_laws_eqDecoder := fcall_ok rfl ok_X_laws_eqDecoder

/-! ### laws.eqInt64S -/
noncomputable def cf_laws_eqInt64S : CallF := cfn
noncomputable def L_laws_eqInt64S (k : Nat) : Nat → Nat → List Value → Mem → Option VM
  | q + 1, 0, [t0, t1, t5], m =>
    (lenX t0) |> bo fun t13 =>
    (binX .lss .no t5 t13) |> bo fun t14 =>
    brX t14
      (
        (ixaX 1 t0 t5) |> bo fun t19 =>
        (ld1 m t19) |> bo fun t20 =>
        (ixaX 1 t1 t5) |> bo fun t23 =>
        (ld1 m t23) |> bo fun t24 =>
        (binX .neq .no t20 t24) |> bo fun t25 =>
        brX t25
          (
            retK k m [t0, t1] (.bool false))
          (
            (binX .add .no t5 (.int .i64 1)) |> bo fun t16 =>
            cutK k m [t0, t1] [t0, t1, t16] (L_laws_eqInt64S k q 0)))
      (
        retK k m [t0, t1] (.bool true))
  | _, _, _, _ => none
noncomputable def J_laws_eqInt64S (k q l : Nat) : List Value → Mem → Option VM := cond (Nat.beq l 4) (L_laws_eqInt64S k q 0) (fun _ _ => none)
def LL_laws_eqInt64S : List (Nat × List Tmp) := [(4, [0, 1, 5])]
noncomputable def X_laws_eqInt64S : List Value → Mem → Option VM
  | [t0, t1], m =>
    (lenX t0) |> bo fun t7 =>
    (lenX t1) |> bo fun t9 =>
    (binX .neq .no t7 t9) |> bo fun t10 =>
    brX t10
      (
        retK m.length m [t0, t1] (.bool false))
      (
        cutK m.length m [t0, t1] [t0, t1, (.int .i64 0)] (L_laws_eqInt64S m.length QQ 0))
  | _, _ => none
noncomputable def C_laws_eqInt64S : List Value → Mem → Option VM := fcall X_laws_eqInt64S
@[simp] theorem c_laws_eqInt64S : C_laws_eqInt64S = fcall X_laws_eqInt64S := (rfl)
theorem cok_laws_eqInt64S : codeOk CT Try.f124 (Try.f124.body.get rfl) = true := by kernel_rfl
theorem xe_laws_eqInt64S (t0 t1 : Value) (m : Mem) : ex CT cf_laws_eqInt64S Try.f124 2 m.length LL_laws_eqInt64S (J_laws_eqInt64S m.length QQ) 400 [.code (Try.f124.body.get rfl)] (argsT 0 [t0, t1]) m = X_laws_eqInt64S [t0, t1] m := by kernel_rfl
theorem okc_laws_eqInt64S : CallOK CT cf_laws_eqInt64S := cfn_ok
theorem le_laws_eqInt64S_0 (k q : Nat) (t0 t1 t5 : Value) (m : Mem) : ex CT cf_laws_eqInt64S Try.f124 2 k LL_laws_eqInt64S (J_laws_eqInt64S k q) 400 (atLoop Try.f124 0) [(0, t0), (1, t1), (5, t5)] m = J_laws_eqInt64S k (q + 1) 4 [t0, t1, t5] m := by kernel_rfl
theorem gl_laws_eqInt64S (k : Nat) : ∀ q i, i < 1 → GoodL CT k Try.f124 LL_laws_eqInt64S (J_laws_eqInt64S k q) (atLoop Try.f124 i)
  | 0, 0, _ => goodL_zero (l := 4) (by kernel_rfl) (fun vs m => by kernel_rfl)
  | 0, _ + 1, h => absurd h (by omega)
  | q + 1, 0, _ => goodL_succ (np := 2) (l := 4) (live := [0, 1, 5]) (n := 1) CT_ok rfl okc_laws_eqInt64S (c := (Try.f124.body.get rfl)) rfl cok_laws_eqInt64S (by kernel_rfl) (gl_laws_eqInt64S k q) (by kernel_rfl) rfl (fun vs m r hl h => match vs, hl with
    | [t0, t1, t5], _ => (le_laws_eqInt64S_0 k q t0 t1 t5 m).trans h)
  | _ + 1, _ + 1, h => absurd h (by omega)
theorem ok_X_laws_eqInt64S : OkX CT 124 X_laws_eqInt64S := OkX.of_ex (cf := cf_laws_eqInt64S) (np := 2) (LL := LL_laws_eqInt64S) (J := (fun k => J_laws_eqInt64S k QQ)) CT_ok rfl Try.func124 rfl (Nat.le_of_ble_eq_true rfl) (by decide) cok_laws_eqInt64S okc_laws_eqInt64S (fun k => allLoops rfl (by kernel_rfl) (gl_laws_eqInt64S k QQ)) (fun args m r h => match args, h with
    | [t0, t1], h => ⟨rfl, (xe_laws_eqInt64S t0 t1 m).trans h⟩)
theorem ok_C_laws_eqInt64S : OkC CT 124 C_laws_eqInt64S := fcall_ok rfl ok_X_laws_eqInt64S

/-! ### laws.eqParser -/
noncomputable def cf_laws_eqParser : CallF := cfc 124 C_laws_eqInt64S cfn
noncomputable def X_laws_eqParser : List Value → Mem → Option VM
  | [t0, t1], m =>
    (boxX m t0) |> bo fun r1 =>
    (boxX r1.2 t1) |> bo fun r2 =>
    (fadX 0 r1.1) |> bo fun t5 =>
    (ld1 r2.2 t5) |> bo fun t6 =>
    (fadX 0 r2.1) |> bo fun t7 =>
    (ld1 r2.2 t7) |> bo fun t8 =>
    (binX .neq .no t6 t8) |> bo fun t9 =>
    brX t9
      (
        retK m.length r2.2 [t0, t1] (.bool false))
      (
        (fadX 1 r1.1) |> bo fun t10 =>
        (ld1 r2.2 t10) |> bo fun t11 =>
        (fadX 1 r2.1) |> bo fun t12 =>
        (ld1 r2.2 t12) |> bo fun t13 =>
        (binX .neq .no t11 t13) |> bo fun t14 =>
        brX t14
          (
            retK m.length r2.2 [t0, t1] (.bool false))
          (
            (fadX 2 r1.1) |> bo fun t15 =>
            (ld1 r2.2 t15) |> bo fun t16 =>
            (fadX 2 r2.1) |> bo fun t17 =>
            (ld1 r2.2 t17) |> bo fun t18 =>
            (binX .neq .bool t16 t18) |> bo fun t19 =>
            brX t19
              (
                retK m.length r2.2 [t0, t1] (.bool false))
              (
                (fadX 3 r1.1) |> bo fun t20 =>
                (ld1 r2.2 t20) |> bo fun t21 =>
                (fadX 3 r2.1) |> bo fun t22 =>
                (ld1 r2.2 t22) |> bo fun t23 =>
                (C_laws_eqInt64S [t21, t23] r2.2) |> bo fun r22 =>
                (uop .not r22.1) |> bo fun t25 =>
                brX t25
                  (
                    retK m.length r22.2 [t0, t1] (.bool false))
                  (
                    retK m.length r22.2 [t0, t1] (.bool true)))))
  | _, _ => none
noncomputable def C_laws_eqParser : List Value → Mem → Option VM := fcall X_laws_eqParser
@[simp] theorem c_laws_eqParser : C_laws_eqParser = fcall X_laws_eqParser := (rfl)
theorem cok_laws_eqParser : codeOk CT Try.f80 (Try.f80.body.get rfl) = true := by kernel_rfl
theorem xe_laws_eqParser (t0 t1 : Value) (m : Mem) : ex CT cf_laws_eqParser Try.f80 2 m.length [] (fun _ _ _ => none) 400 [.code (Try.f80.body.get rfl)] (argsT 0 [t0, t1]) m = X_laws_eqParser [t0, t1] m := by kernel_rfl
theorem okc_laws_eqParser : CallOK CT cf_laws_eqParser := cfc_ok ok_C_laws_eqInt64S cfn_ok
theorem ok_X_laws_eqParser : OkX CT 80 X_laws_eqParser := OkX.of_ex (cf := cf_laws_eqParser) (np := 2) (LL := []) (J := (fun _ _ _ _ => none)) CT_ok rfl Try.func80 rfl (Nat.le_of_ble_eq_true rfl) (by decide) cok_laws_eqParser okc_laws_eqParser (fun k => noLoops rfl) (fun args m r h => match args, h with
    | [t0, t1], h => ⟨rfl, (xe_laws_eqParser t0 t1 m).trans h⟩)
theorem ok_C_laws_eqParser : OkC CT 80 C_laws_eqParser := fcall_ok rfl ok_X_laws_eqParser

/-! ### laws.eqCell -/
noncomputable def cf_laws_eqCell : CallF := cfn
noncomputable def X_laws_eqCell : List Value → Mem → Option VM
  | [t0, t1], m =>
    (boxX m t0) |> bo fun r1 =>
    (boxX r1.2 t1) |> bo fun r2 =>
    (fadX 0 r1.1) |> bo fun t5 =>
    (ld1 r2.2 t5) |> bo fun t6 =>
    (fadX 0 r2.1) |> bo fun t7 =>
    (ld1 r2.2 t7) |> bo fun t8 =>
    (binX .neq .no t6 t8) |> bo fun t9 =>
    brX t9
      (
        retK m.length r2.2 [t0, t1] (.bool false))
      (
        (fadX 1 r1.1) |> bo fun t10 =>
        (ld1 r2.2 t10) |> bo fun t11 =>
        (fadX 1 r2.1) |> bo fun t12 =>
        (ld1 r2.2 t12) |> bo fun t13 =>
        (binX .neq .no t11 t13) |> bo fun t14 =>
        brX t14
          (
            retK m.length r2.2 [t0, t1] (.bool false))
          (
            retK m.length r2.2 [t0, t1] (.bool true)))
  | _, _ => none
noncomputable def C_laws_eqCell : List Value → Mem → Option VM := fcall X_laws_eqCell
@[simp] theorem c_laws_eqCell : C_laws_eqCell = fcall X_laws_eqCell := (rfl)
theorem cok_laws_eqCell : codeOk CT Try.f204 (Try.f204.body.get rfl) = true := by kernel_rfl
theorem xe_laws_eqCell (t0 t1 : Value) (m : Mem) : ex CT cf_laws_eqCell Try.f204 2 m.length [] (fun _ _ _ => none) 400 [.code (Try.f204.body.get rfl)] (argsT 0 [t0, t1]) m = X_laws_eqCell [t0, t1] m := by kernel_rfl
theorem okc_laws_eqCell : CallOK CT cf_laws_eqCell := cfn_ok
theorem ok_X_laws_eqCell : OkX CT 204 X_laws_eqCell := OkX.of_ex (cf := cf_laws_eqCell) (np := 2) (LL := []) (J := (fun _ _ _ _ => none)) CT_ok rfl Try.func204 rfl (Nat.le_of_ble_eq_true rfl) (by decide) cok_laws_eqCell okc_laws_eqCell (fun k => noLoops rfl) (fun args m r h => match args, h with
    | [t0, t1], h => ⟨rfl, (xe_laws_eqCell t0 t1 m).trans h⟩)
theorem ok_C_laws_eqCell : OkC CT 204 C_laws_eqCell := fcall_ok rfl ok_X_laws_eqCell

/-! ### laws.eqCellS -/
noncomputable def cf_laws_eqCellS : CallF := cfc 204 C_laws_eqCell cfn
noncomputable def L_laws_eqCellS (k : Nat) : Nat → Nat → List Value → Mem → Option VM
  | q + 1, 0, [t0, t1, t5], m =>
    (lenX t0) |> bo fun t13 =>
    (binX .lss .no t5 t13) |> bo fun t14 =>
    brX t14
      (
        (ixaX 2 t0 t5) |> bo fun t19 =>
        (ldS m 2 t19) |> bo fun t20 =>
        (ixaX 2 t1 t5) |> bo fun t23 =>
        (ldS m 2 t23) |> bo fun t24 =>
        (C_laws_eqCell [t20, t24] m) |> bo fun r7 =>
        (uop .not r7.1) |> bo fun t26 =>
        brX t26
          (
            retK k r7.2 [t0, t1] (.bool false))
          (
            (binX .add .no t5 (.int .i64 1)) |> bo fun t16 =>
            cutK k r7.2 [t0, t1] [t0, t1, t16] (L_laws_eqCellS k q 0)))
      (
        retK k m [t0, t1] (.bool true))
  | _, _, _, _ => none
noncomputable def J_laws_eqCellS (k q l : Nat) : List Value → Mem → Option VM := cond (Nat.beq l 4) (L_laws_eqCellS k q 0) (fun _ _ => none)
def LL_laws_eqCellS : List (Nat × List Tmp) := [(4, [0, 1, 5])]
noncomputable def X_laws_eqCellS : List Value → Mem → Option VM
  | [t0, t1], m =>
    (lenX t0) |> bo fun t7 =>
    (lenX t1) |> bo fun t9 =>
    (binX .neq .no t7 t9) |> bo fun t10 =>
    brX t10
      (
        retK m.length m [t0, t1] (.bool false))
      (
        cutK m.length m [t0, t1] [t0, t1, (.int .i64 0)] (L_laws_eqCellS m.length QQ 0))
  | _, _ => none
noncomputable def C_laws_eqCellS : List Value → Mem → Option VM := fcall X_laws_eqCellS
@[simp] theorem c_laws_eqCellS : C_laws_eqCellS = fcall X_laws_eqCellS := (rfl)
theorem cok_laws_eqCellS : codeOk CT Try.f170 (Try.f170.body.get rfl) = true := by kernel_rfl
theorem xe_laws_eqCellS (t0 t1 : Value) (m : Mem) : ex CT cf_laws_eqCellS Try.f170 2 m.length LL_laws_eqCellS (J_laws_eqCellS m.length QQ) 400 [.code (Try.f170.body.get rfl)] (argsT 0 [t0, t1]) m = X_laws_eqCellS [t0, t1] m := by kernel_rfl
theorem okc_laws_eqCellS : CallOK CT cf_laws_eqCellS := cfc_ok ok_C_laws_eqCell cfn_ok
theorem le_laws_eqCellS_0 (k q : Nat) (t0 t1 t5 : Value) (m : Mem) : ex CT cf_laws_eqCellS Try.f170 2 k LL_laws_eqCellS (J_laws_eqCellS k q) 400 (atLoop Try.f170 0) [(0, t0), (1, t1), (5, t5)] m = J_laws_eqCellS k (q + 1) 4 [t0, t1, t5] m := by kernel_rfl
theorem gl_laws_eqCellS (k : Nat) : ∀ q i, i < 1 → GoodL CT k Try.f170 LL_laws_eqCellS (J_laws_eqCellS k q) (atLoop Try.f170 i)
  | 0, 0, _ => goodL_zero (l := 4) (by kernel_rfl) (fun vs m => by kernel_rfl)
  | 0, _ + 1, h => absurd h (by omega)
  | q + 1, 0, _ => goodL_succ (np := 2) (l := 4) (live := [0, 1, 5]) (n := 1) CT_ok rfl okc_laws_eqCellS (c := (Try.f170.body.get rfl)) rfl cok_laws_eqCellS (by kernel_rfl) (gl_laws_eqCellS k q) (by kernel_rfl) rfl (fun vs m r hl h => match vs, hl with
    | [t0, t1, t5], _ => (le_laws_eqCellS_0 k q t0 t1 t5 m).trans h)
  | _ + 1, _ + 1, h => absurd h (by omega)
theorem ok_X_laws_eqCellS : OkX CT 170 X_laws_eqCellS := OkX.of_ex (cf := cf_laws_eqCellS) (np := 2) (LL := LL_laws_eqCellS) (J := (fun k => J_laws_eqCellS k QQ)) CT_ok rfl Try.func170 rfl (Nat.le_of_ble_eq_true rfl) (by decide) cok_laws_eqCellS okc_laws_eqCellS (fun k => allLoops rfl (by kernel_rfl) (gl_laws_eqCellS k QQ)) (fun args m r h => match args, h with
    | [t0, t1], h => ⟨rfl, (xe_laws_eqCellS t0 t1 m).trans h⟩)
theorem ok_C_laws_eqCellS : OkC CT 170 C_laws_eqCellS := fcall_ok rfl ok_X_laws_eqCellS

/-! ### laws.eqGrid -/
noncomputable def cf_laws_eqGrid : CallF := cfc 170 C_laws_eqCellS cfn
noncomputable def X_laws_eqGrid : List Value → Mem → Option VM
  | [t0, t1], m =>
    (boxX m t0) |> bo fun r1 =>
    (boxX r1.2 t1) |> bo fun r2 =>
    (fadX 0 r1.1) |> bo fun t5 =>
    (ld1 r2.2 t5) |> bo fun t6 =>
    (fadX 0 r2.1) |> bo fun t7 =>
    (ld1 r2.2 t7) |> bo fun t8 =>
    (binX .neq .no t6 t8) |> bo fun t9 =>
    brX t9
      (
        retK m.length r2.2 [t0, t1] (.bool false))
      (
        (fadX 1 r1.1) |> bo fun t10 =>
        (ld1 r2.2 t10) |> bo fun t11 =>
        (fadX 1 r2.1) |> bo fun t12 =>
        (ld1 r2.2 t12) |> bo fun t13 =>
        (binX .neq .no t11 t13) |> bo fun t14 =>
        brX t14
          (
            retK m.length r2.2 [t0, t1] (.bool false))
          (
            (fadX 2 r1.1) |> bo fun t15 =>
            (ld1 r2.2 t15) |> bo fun t16 =>
            (fadX 2 r2.1) |> bo fun t17 =>
            (ld1 r2.2 t17) |> bo fun t18 =>
            (C_laws_eqCellS [t16, t18] r2.2) |> bo fun r17 =>
            (uop .not r17.1) |> bo fun t20 =>
            brX t20
              (
                retK m.length r17.2 [t0, t1] (.bool false))
              (
                (fadX 3 r1.1) |> bo fun t21 =>
                (ld1 r17.2 t21) |> bo fun t22 =>
                (fadX 3 r2.1) |> bo fun t23 =>
                (ld1 r17.2 t23) |> bo fun t24 =>
                (C_laws_eqCellS [t22, t24] r17.2) |> bo fun r23 =>
                (uop .not r23.1) |> bo fun t26 =>
                brX t26
                  (
                    retK m.length r23.2 [t0, t1] (.bool false))
                  (
                    retK m.length r23.2 [t0, t1] (.bool true)))))
  | _, _ => none
noncomputable def C_laws_eqGrid : List Value → Mem → Option VM := fcall X_laws_eqGrid
@[simp] theorem c_laws_eqGrid : C_laws_eqGrid = fcall X_laws_eqGrid := (rfl)
theorem cok_laws_eqGrid : codeOk CT Try.f125 (Try.f125.body.get rfl) = true := by kernel_rfl
theorem xe_laws_eqGrid (t0 t1 : Value) (m : Mem) : ex CT cf_laws_eqGrid Try.f125 2 m.length [] (fun _ _ _ => none) 400 [.code (Try.f125.body.get rfl)] (argsT 0 [t0, t1]) m = X_laws_eqGrid [t0, t1] m := by kernel_rfl
theorem okc_laws_eqGrid : CallOK CT cf_laws_eqGrid := cfc_ok ok_C_laws_eqCellS cfn_ok
theorem ok_X_laws_eqGrid : OkX CT 125 X_laws_eqGrid := OkX.of_ex (cf := cf_laws_eqGrid) (np := 2) (LL := []) (J := (fun _ _ _ _ => none)) CT_ok rfl Try.func125 rfl (Nat.le_of_ble_eq_true rfl) (by decide) cok_laws_eqGrid okc_laws_eqGrid (fun k => noLoops rfl) (fun args m r h => match args, h with
    | [t0, t1], h => ⟨rfl, (xe_laws_eqGrid t0 t1 m).trans h⟩)
theorem ok_C_laws_eqGrid : OkC CT 125 C_laws_eqGrid := fcall_ok rfl ok_X_laws_eqGrid

/-! ### laws.eqBoolS -/
noncomputable def cf_laws_eqBoolS : CallF := cfn
noncomputable def L_laws_eqBoolS (k : Nat) : Nat → Nat → List Value → Mem → Option VM
  | q + 1, 0, [t0, t1, t5], m =>
    (lenX t0) |> bo fun t13 =>
    (binX .lss .no t5 t13) |> bo fun t14 =>
    brX t14
      (
        (ixaX 1 t0 t5) |> bo fun t19 =>
        (ld1 m t19) |> bo fun t20 =>
        (ixaX 1 t1 t5) |> bo fun t23 =>
        (ld1 m t23) |> bo fun t24 =>
        (binX .neq .bool t20 t24) |> bo fun t25 =>
        brX t25
          (
            retK k m [t0, t1] (.bool false))
          (
            (binX .add .no t5 (.int .i64 1)) |> bo fun t16 =>
            cutK k m [t0, t1] [t0, t1, t16] (L_laws_eqBoolS k q 0)))
      (
        retK k m [t0, t1] (.bool true))
  | _, _, _, _ => none
noncomputable def J_laws_eqBoolS (k q l : Nat) : List Value → Mem → Option VM := cond (Nat.beq l 4) (L_laws_eqBoolS k q 0) (fun _ _ => none)
def LL_laws_eqBoolS : List (Nat × List Tmp) := [(4, [0, 1, 5])]
noncomputable def X_laws_eqBoolS : List Value → Mem → Option VM
  | [t0, t1], m =>
    (lenX t0) |> bo fun t7 =>
    (lenX t1) |> bo fun t9 =>
    (binX .neq .no t7 t9) |> bo fun t10 =>
    brX t10
      (
        retK m.length m [t0, t1] (.bool false))
      (
        cutK m.length m [t0, t1] [t0, t1, (.int .i64 0)] (L_laws_eqBoolS m.length QQ 0))
  | _, _ => none
noncomputable def C_laws_eqBoolS : List Value → Mem → Option VM := fcall X_laws_eqBoolS
@[simp] theorem c_laws_eqBoolS : C_laws_eqBoolS = fcall X_laws_eqBoolS := (rfl)
theorem cok_laws_eqBoolS : codeOk CT Try.f126 (Try.f126.body.get rfl) = true := by kernel_rfl
theorem xe_laws_eqBoolS (t0 t1 : Value) (m : Mem) : ex CT cf_laws_eqBoolS Try.f126 2 m.length LL_laws_eqBoolS (J_laws_eqBoolS m.length QQ) 400 [.code (Try.f126.body.get rfl)] (argsT 0 [t0, t1]) m = X_laws_eqBoolS [t0, t1] m := by kernel_rfl
theorem okc_laws_eqBoolS : CallOK CT cf_laws_eqBoolS := cfn_ok
theorem le_laws_eqBoolS_0 (k q : Nat) (t0 t1 t5 : Value) (m : Mem) : ex CT cf_laws_eqBoolS Try.f126 2 k LL_laws_eqBoolS (J_laws_eqBoolS k q) 400 (atLoop Try.f126 0) [(0, t0), (1, t1), (5, t5)] m = J_laws_eqBoolS k (q + 1) 4 [t0, t1, t5] m := by kernel_rfl
theorem gl_laws_eqBoolS (k : Nat) : ∀ q i, i < 1 → GoodL CT k Try.f126 LL_laws_eqBoolS (J_laws_eqBoolS k q) (atLoop Try.f126 i)
  | 0, 0, _ => goodL_zero (l := 4) (by kernel_rfl) (fun vs m => by kernel_rfl)
  | 0, _ + 1, h => absurd h (by omega)
  | q + 1, 0, _ => goodL_succ (np := 2) (l := 4) (live := [0, 1, 5]) (n := 1) CT_ok rfl okc_laws_eqBoolS (c := (Try.f126.body.get rfl)) rfl cok_laws_eqBoolS (by kernel_rfl) (gl_laws_eqBoolS k q) (by kernel_rfl) rfl (fun vs m r hl h => match vs, hl with
    | [t0, t1, t5], _ => (le_laws_eqBoolS_0 k q t0 t1 t5 m).trans h)
  | _ + 1, _ + 1, h => absurd h (by omega)
theorem ok_X_laws_eqBoolS : OkX CT 126 X_laws_eqBoolS := OkX.of_ex (cf := cf_laws_eqBoolS) (np := 2) (LL := LL_laws_eqBoolS) (J := (fun k => J_laws_eqBoolS k QQ)) CT_ok rfl Try.func126 rfl (Nat.le_of_ble_eq_true rfl) (by decide) cok_laws_eqBoolS okc_laws_eqBoolS (fun k => allLoops rfl (by kernel_rfl) (gl_laws_eqBoolS k QQ)) (fun args m r h => match args, h with
    | [t0, t1], h => ⟨rfl, (xe_laws_eqBoolS t0 t1 m).trans h⟩)
theorem ok_C_laws_eqBoolS : OkC CT 126 C_laws_eqBoolS := fcall_ok rfl ok_X_laws_eqBoolS

/-! ### laws.eqScreen -/
noncomputable def cf_laws_eqScreen : CallF := cfc 124 C_laws_eqInt64S (cfc 125 C_laws_eqGrid (cfc 126 C_laws_eqBoolS cfn))
noncomputable def X_laws_eqScreen : List Value → Mem → Option VM
  | [t0, t1], m =>
    (boxX m t0) |> bo fun r1 =>
    (boxX r1.2 t1) |> bo fun r2 =>
    (fadX 0 r1.1) |> bo fun t5 =>
    (ldS r2.2 4 t5) |> bo fun t6 =>
    (fadX 0 r2.1) |> bo fun t7 =>
    (ldS r2.2 4 t7) |> bo fun t8 =>
    (C_laws_eqGrid [t6, t8] r2.2) |> bo fun r7 =>
    (uop .not r7.1) |> bo fun t10 =>
    brX t10
      (
        retK m.length r7.2 [t0, t1] (.bool false))
      (
        (fadX 4 r1.1) |> bo fun t11 =>
        (ld1 r7.2 t11) |> bo fun t12 =>
        (fadX 4 r2.1) |> bo fun t13 =>
        (ld1 r7.2 t13) |> bo fun t14 =>
        (binX .neq .no t12 t14) |> bo fun t15 =>
        brX t15
          (
            retK m.length r7.2 [t0, t1] (.bool false))
          (
            (fadX 5 r1.1) |> bo fun t16 =>
            (ld1 r7.2 t16) |> bo fun t17 =>
            (fadX 5 r2.1) |> bo fun t18 =>
            (ld1 r7.2 t18) |> bo fun t19 =>
            (binX .neq .no t17 t19) |> bo fun t20 =>
            brX t20
              (
                retK m.length r7.2 [t0, t1] (.bool false))
              (
                (fadX 6 r1.1) |> bo fun t21 =>
                (ld1 r7.2 t21) |> bo fun t22 =>
                (fadX 6 r2.1) |> bo fun t23 =>
                (ld1 r7.2 t23) |> bo fun t24 =>
                (binX .neq .bool t22 t24) |> bo fun t25 =>
                brX t25
                  (
                    retK m.length r7.2 [t0, t1] (.bool false))
                  (
                    (fadX 7 r1.1) |> bo fun t26 =>
                    (ld1 r7.2 t26) |> bo fun t27 =>
                    (fadX 7 r2.1) |> bo fun t28 =>
                    (ld1 r7.2 t28) |> bo fun t29 =>
                    (binX .neq .no t27 t29) |> bo fun t30 =>
                    brX t30
                      (
                        retK m.length r7.2 [t0, t1] (.bool false))
                      (
                        (fadX 8 r1.1) |> bo fun t31 =>
                        (ld1 r7.2 t31) |> bo fun t32 =>
                        (fadX 8 r2.1) |> bo fun t33 =>
                        (ld1 r7.2 t33) |> bo fun t34 =>
                        (binX .neq .no t32 t34) |> bo fun t35 =>
                        brX t35
                          (
                            retK m.length r7.2 [t0, t1] (.bool false))
                          (
                            (fadX 9 r1.1) |> bo fun t36 =>
                            (ld1 r7.2 t36) |> bo fun t37 =>
                            (fadX 9 r2.1) |> bo fun t38 =>
                            (ld1 r7.2 t38) |> bo fun t39 =>
                            (binX .neq .no t37 t39) |> bo fun t40 =>
                            brX t40
                              (
                                retK m.length r7.2 [t0, t1] (.bool false))
                              (
                                (fadX 10 r1.1) |> bo fun t41 =>
                                (ld1 r7.2 t41) |> bo fun t42 =>
                                (fadX 10 r2.1) |> bo fun t43 =>
                                (ld1 r7.2 t43) |> bo fun t44 =>
                                (binX .neq .bool t42 t44) |> bo fun t45 =>
                                brX t45
                                  (
                                    retK m.length r7.2 [t0, t1] (.bool false))
                                  (
                                    (fadX 11 r1.1) |> bo fun t46 =>
                                    (ld1 r7.2 t46) |> bo fun t47 =>
                                    (fadX 11 r2.1) |> bo fun t48 =>
                                    (ld1 r7.2 t48) |> bo fun t49 =>
                                    (binX .neq .bool t47 t49) |> bo fun t50 =>
                                    brX t50
                                      (
                                        retK m.length r7.2 [t0, t1] (.bool false))
                                      (
                                        (fadX 12 r1.1) |> bo fun t51 =>
                                        (ld1 r7.2 t51) |> bo fun t52 =>
                                        (fadX 12 r2.1) |> bo fun t53 =>
                                        (ld1 r7.2 t53) |> bo fun t54 =>
                                        (binX .neq .bool t52 t54) |> bo fun t55 =>
                                        brX t55
                                          (
                                            retK m.length r7.2 [t0, t1] (.bool false))
                                          (
                                            (fadX 13 r1.1) |> bo fun t56 =>
                                            (ld1 r7.2 t56) |> bo fun t57 =>
                                            (fadX 13 r2.1) |> bo fun t58 =>
                                            (ld1 r7.2 t58) |> bo fun t59 =>
                                            (C_laws_eqBoolS [t57, t59] r7.2) |> bo fun r58 =>
                                            (uop .not r58.1) |> bo fun t61 =>
                                            brX t61
                                              (
                                                retK m.length r58.2 [t0, t1] (.bool false))
                                              (
                                                (fadX 14 r1.1) |> bo fun t62 =>
                                                (ld1 r58.2 t62) |> bo fun t63 =>
                                                (fadX 14 r2.1) |> bo fun t64 =>
                                                (ld1 r58.2 t64) |> bo fun t65 =>
                                                (binX .neq .no t63 t65) |> bo fun t66 =>
                                                brX t66
                                                  (
                                                    retK m.length r58.2 [t0, t1] (.bool false))
                                                  (
                                                    (fadX 15 r1.1) |> bo fun t67 =>
                                                    (ld1 r58.2 t67) |> bo fun t68 =>
                                                    (fadX 15 r2.1) |> bo fun t69 =>
                                                    (ld1 r58.2 t69) |> bo fun t70 =>
                                                    (binX .neq .no t68 t70) |> bo fun t71 =>
                                                    brX t71
                                                      (
                                                        retK m.length r58.2 [t0, t1] (.bool false))
                                                      (
                                                        (fadX 16 r1.1) |> bo fun t72 =>
                                                        (ld1 r58.2 t72) |> bo fun t73 =>
                                                        (fadX 16 r2.1) |> bo fun t74 =>
                                                        (ld1 r58.2 t74) |> bo fun t75 =>
                                                        (binX .neq .no t73 t75) |> bo fun t76 =>
                                                        brX t76
                                                          (
                                                            retK m.length r58.2 [t0, t1] (.bool false))
                                                          (
                                                            (fadX 17 r1.1) |> bo fun t77 =>
                                                            (ld1 r58.2 t77) |> bo fun t78 =>
                                                            (fadX 17 r2.1) |> bo fun t79 =>
                                                            (ld1 r58.2 t79) |> bo fun t80 =>
                                                            (C_laws_eqInt64S [t78, t80] r58.2) |> bo fun r79 =>
                                                            (uop .not r79.1) |> bo fun t82 =>
                                                            brX t82
                                                              (
                                                                retK m.length r79.2 [t0, t1] (.bool false))
                                                              (
                                                                (fadX 18 r1.1) |> bo fun t83 =>
                                                                (ld1 r79.2 t83) |> bo fun t84 =>
                                                                (fadX 18 r2.1) |> bo fun t85 =>
                                                                (ld1 r79.2 t85) |> bo fun t86 =>
                                                                (binX .neq .no t84 t86) |> bo fun t87 =>
                                                                brX t87
                                                                  (
                                                                    retK m.length r79.2 [t0, t1] (.bool false))
                                                                  (
                                                                    (fadX 19 r1.1) |> bo fun t88 =>
                                                                    (ld1 r79.2 t88) |> bo fun t89 =>
                                                                    (fadX 19 r2.1) |> bo fun t90 =>
                                                                    (ld1 r79.2 t90) |> bo fun t91 =>
                                                                    (binX .neq .no t89 t91) |> bo fun t92 =>
                                                                    brX t92
                                                                      (
                                                                        retK m.length r79.2 [t0, t1] (.bool false))
                                                                      (
                                                                        retK m.length r79.2 [t0, t1] (.bool true))))))))))))))))))
  | _, _ => none
noncomputable def C_laws_eqScreen : List Value → Mem → Option VM := fcall X_laws_eqScreen
@[simp] theorem c_laws_eqScreen : C_laws_eqScreen = fcall X_laws_eqScreen := (rfl)
theorem cok_laws_eqScreen : codeOk CT Try.f81 (Try.f81.body.get rfl) = true := by kernel_rfl
theorem xe_laws_eqScreen (t0 t1 : Value) (m : Mem) : ex CT cf_laws_eqScreen Try.f81 2 m.length [] (fun _ _ _ => none) 400 [.code (Try.f81.body.get rfl)] (argsT 0 [t0, t1]) m = X_laws_eqScreen [t0, t1] m := by kernel_rfl
theorem okc_laws_eqScreen : CallOK CT cf_laws_eqScreen := cfc_ok ok_C_laws_eqInt64S (cfc_ok ok_C_laws_eqGrid (cfc_ok ok_C_laws_eqBoolS cfn_ok))
theorem ok_X_laws_eqScreen : OkX CT 81 X_laws_eqScreen := OkX.of_ex (cf := cf_laws_eqScreen) (np := 2) (LL := []) (J := (fun _ _ _ _ => none)) CT_ok rfl Try.func81 rfl (Nat.le_of_ble_eq_true rfl) (by decide) cok_laws_eqScreen okc_laws_eqScreen (fun k => noLoops rfl) (fun args m r h => match args, h with
    | [t0, t1], h => ⟨rfl, (xe_laws_eqScreen t0 t1 m).trans h⟩)
theorem ok_C_laws_eqScreen : OkC CT 81 C_laws_eqScreen := fcall_ok rfl ok_X_laws_eqScreen

/-! ### laws.eqVt -/
noncomputable def cf_laws_eqVt : CallF := cfc 79 C_laws_eqDecoder (cfc 80 C_laws_eqParser (cfc 81 C_laws_eqScreen cfn))
noncomputable def X_laws_eqVt : List Value → Mem → Option VM
  | [t0, t1], m =>
    (boxX m t0) |> bo fun r1 =>
    (boxX r1.2 t1) |> bo fun r2 =>
    (fadX 0 r1.1) |> bo fun t5 =>
    (ldS r2.2 3 t5) |> bo fun t6 =>
    (fadX 0 r2.1) |> bo fun t7 =>
    (ldS r2.2 3 t7) |> bo fun t8 =>
    (C_laws_eqDecoder [t6, t8] r2.2) |> bo fun r7 =>
    (uop .not r7.1) |> bo fun t10 =>
    brX t10
      (
        retK m.length r7.2 [t0, t1] (.bool false))
      (
        (fadX 3 r1.1) |> bo fun t11 =>
        (ldS r7.2 4 t11) |> bo fun t12 =>
        (fadX 3 r2.1) |> bo fun t13 =>
        (ldS r7.2 4 t13) |> bo fun t14 =>
        (C_laws_eqParser [t12, t14] r7.2) |> bo fun r13 =>
        (uop .not r13.1) |> bo fun t16 =>
        brX t16
          (
            retK m.length r13.2 [t0, t1] (.bool false))
          (
            (fadX 7 r1.1) |> bo fun t17 =>
            (ldS r13.2 20 t17) |> bo fun t18 =>
            (fadX 7 r2.1) |> bo fun t19 =>
            (ldS r13.2 20 t19) |> bo fun t20 =>
            (C_laws_eqScreen [t18, t20] r13.2) |> bo fun r19 =>
            (uop .not r19.1) |> bo fun t22 =>
            brX t22
              (
                retK m.length r19.2 [t0, t1] (.bool false))
              (
                retK m.length r19.2 [t0, t1] (.bool true))))
  | _, _ => none
noncomputable def C_laws_eqVt : List Value → Mem → Option VM := fcall X_laws_eqVt
@[simp] theorem c_laws_eqVt : C_laws_eqVt = fcall X_laws_eqVt := (rfl)
theorem cok_laws_eqVt : codeOk CT Try.f36 (Try.f36.body.get rfl) = true := by kernel_rfl
theorem xe_laws_eqVt (t0 t1 : Value) (m : Mem) : ex CT cf_laws_eqVt Try.f36 2 m.length [] (fun _ _ _ => none) 400 [.code (Try.f36.body.get rfl)] (argsT 0 [t0, t1]) m = X_laws_eqVt [t0, t1] m := by kernel_rfl
theorem okc_laws_eqVt : CallOK CT cf_laws_eqVt := cfc_ok ok_C_laws_eqDecoder (cfc_ok ok_C_laws_eqParser (cfc_ok ok_C_laws_eqScreen cfn_ok))
theorem ok_X_laws_eqVt : OkX CT 36 X_laws_eqVt := OkX.of_ex (cf := cf_laws_eqVt) (np := 2) (LL := []) (J := (fun _ _ _ _ => none)) CT_ok rfl Try.func36 rfl (Nat.le_of_ble_eq_true rfl) (by decide) cok_laws_eqVt okc_laws_eqVt (fun k => noLoops rfl) (fun args m r h => match args, h with
    | [t0, t1], h => ⟨rfl, (xe_laws_eqVt t0 t1 m).trans h⟩)
theorem ok_C_laws_eqVt : OkC CT 36 C_laws_eqVt := fcall_ok rfl ok_X_laws_eqVt

/-! ### laws.eqWay -/
noncomputable def cf_laws_eqWay : CallF := cfn
noncomputable def X_laws_eqWay : List Value → Mem → Option VM
  | [t0, t1], m =>
    (boxX m t0) |> bo fun r1 =>
    (boxX r1.2 t1) |> bo fun r2 =>
    (fadX 0 r1.1) |> bo fun t5 =>
    (ld1 r2.2 t5) |> bo fun t6 =>
    (fadX 0 r2.1) |> bo fun t7 =>
    (ld1 r2.2 t7) |> bo fun t8 =>
    (binX .neq .no t6 t8) |> bo fun t9 =>
    brX t9
      (
        retK m.length r2.2 [t0, t1] (.bool false))
      (
        (fadX 1 r1.1) |> bo fun t10 =>
        (ld1 r2.2 t10) |> bo fun t11 =>
        (fadX 1 r2.1) |> bo fun t12 =>
        (ld1 r2.2 t12) |> bo fun t13 =>
        (binX .neq .no t11 t13) |> bo fun t14 =>
        brX t14
          (
            retK m.length r2.2 [t0, t1] (.bool false))
          (
            (fadX 2 r1.1) |> bo fun t15 =>
            (ld1 r2.2 t15) |> bo fun t16 =>
            (fadX 2 r2.1) |> bo fun t17 =>
            (ld1 r2.2 t17) |> bo fun t18 =>
            (binX .neq .no t16 t18) |> bo fun t19 =>
            brX t19
              (
                retK m.length r2.2 [t0, t1] (.bool false))
              (
                (fadX 3 r1.1) |> bo fun t20 =>
                (ld1 r2.2 t20) |> bo fun t21 =>
                (fadX 3 r2.1) |> bo fun t22 =>
                (ld1 r2.2 t22) |> bo fun t23 =>
                (binX .neq .no t21 t23) |> bo fun t24 =>
                brX t24
                  (
                    retK m.length r2.2 [t0, t1] (.bool false))
                  (
                    (fadX 4 r1.1) |> bo fun t25 =>
                    (ld1 r2.2 t25) |> bo fun t26 =>
                    (fadX 4 r2.1) |> bo fun t27 =>
                    (ld1 r2.2 t27) |> bo fun t28 =>
                    (binX .neq .no t26 t28) |> bo fun t29 =>
                    brX t29
                      (
                        retK m.length r2.2 [t0, t1] (.bool false))
                      (
                        (fadX 5 r1.1) |> bo fun t30 =>
                        (ld1 r2.2 t30) |> bo fun t31 =>
                        (fadX 5 r2.1) |> bo fun t32 =>
                        (ld1 r2.2 t32) |> bo fun t33 =>
                        (binX .neq .no t31 t33) |> bo fun t34 =>
                        brX t34
                          (
                            retK m.length r2.2 [t0, t1] (.bool false))
                          (
                            (fadX 6 r1.1) |> bo fun t35 =>
                            (ld1 r2.2 t35) |> bo fun t36 =>
                            (fadX 6 r2.1) |> bo fun t37 =>
                            (ld1 r2.2 t37) |> bo fun t38 =>
                            (binX .neq .no t36 t38) |> bo fun t39 =>
                            brX t39
                              (
                                retK m.length r2.2 [t0, t1] (.bool false))
                              (
                                retK m.length r2.2 [t0, t1] (.bool true))))))))
  | _, _ => none
noncomputable def C_laws_eqWay : List Value → Mem → Option VM := fcall X_laws_eqWay
@[simp] theorem c_laws_eqWay : C_laws_eqWay = fcall X_laws_eqWay := (rfl)
theorem cok_laws_eqWay : codeOk CT Try.f91 (Try.f91.body.get rfl) = true := by kernel_rfl
theorem xe_laws_eqWay (t0 t1 : Value) (m : Mem) : ex CT cf_laws_eqWay Try.f91 2 m.length [] (fun _ _ _ => none) 400 [.code (Try.f91.body.get rfl)] (argsT 0 [t0, t1]) m = X_laws_eqWay [t0, t1] m := by kernel_rfl
theorem okc_laws_eqWay : CallOK CT cf_laws_eqWay := cfn_ok
theorem ok_X_laws_eqWay : OkX CT 91 X_laws_eqWay := OkX.of_ex (cf := cf_laws_eqWay) (np := 2) (LL := []) (J := (fun _ _ _ _ => none)) CT_ok rfl Try.func91 rfl (Nat.le_of_ble_eq_true rfl) (by decide) cok_laws_eqWay okc_laws_eqWay (fun k => noLoops rfl) (fun args m r h => match args, h with
    | [t0, t1], h => ⟨rfl, (xe_laws_eqWay t0 t1 m).trans h⟩)
theorem ok_C_laws_eqWay : OkC CT 91 C_laws_eqWay := fcall_ok rfl ok_X_laws_eqWay

/-! ### laws.eqConsole -/
noncomputable def cf_laws_eqConsole : CallF := cfc 15 C_laws_eqLine (cfc 36 C_laws_eqVt (cfc 91 C_laws_eqWay cfn))
noncomputable def X_laws_eqConsole : List Value → Mem → Option VM
  | [t0, t1], m =>
    (boxX m t0) |> bo fun r1 =>
    (boxX r1.2 t1) |> bo fun r2 =>
    (fadX 0 r1.1) |> bo fun t5 =>
    (ldS r2.2 27 t5) |> bo fun t6 =>
    (fadX 0 r2.1) |> bo fun t7 =>
    (ldS r2.2 27 t7) |> bo fun t8 =>
    (C_laws_eqVt [t6, t8] r2.2) |> bo fun r7 =>
    (uop .not r7.1) |> bo fun t10 =>
    brX t10
      (
        retK m.length r7.2 [t0, t1] (.bool false))
      (
        (fadX 27 r1.1) |> bo fun t11 =>
        (ldS r7.2 7 t11) |> bo fun t12 =>
        (fadX 27 r2.1) |> bo fun t13 =>
        (ldS r7.2 7 t13) |> bo fun t14 =>
        (C_laws_eqWay [t12, t14] r7.2) |> bo fun r13 =>
        (uop .not r13.1) |> bo fun t16 =>
        brX t16
          (
            retK m.length r13.2 [t0, t1] (.bool false))
          (
            (fadX 34 r1.1) |> bo fun t17 =>
            (ldS r13.2 4 t17) |> bo fun t18 =>
            (fadX 34 r2.1) |> bo fun t19 =>
            (ldS r13.2 4 t19) |> bo fun t20 =>
            (C_laws_eqLine [t18, t20] r13.2) |> bo fun r19 =>
            (uop .not r19.1) |> bo fun t22 =>
            brX t22
              (
                retK m.length r19.2 [t0, t1] (.bool false))
              (
                retK m.length r19.2 [t0, t1] (.bool true))))
  | _, _ => none
noncomputable def C_laws_eqConsole : List Value → Mem → Option VM := fcall X_laws_eqConsole
@[simp] theorem c_laws_eqConsole : C_laws_eqConsole = fcall X_laws_eqConsole := (rfl)
theorem cok_laws_eqConsole : codeOk CT Try.f46 (Try.f46.body.get rfl) = true := by kernel_rfl
theorem xe_laws_eqConsole (t0 t1 : Value) (m : Mem) : ex CT cf_laws_eqConsole Try.f46 2 m.length [] (fun _ _ _ => none) 400 [.code (Try.f46.body.get rfl)] (argsT 0 [t0, t1]) m = X_laws_eqConsole [t0, t1] m := by kernel_rfl
theorem okc_laws_eqConsole : CallOK CT cf_laws_eqConsole := cfc_ok ok_C_laws_eqLine (cfc_ok ok_C_laws_eqVt (cfc_ok ok_C_laws_eqWay cfn_ok))
theorem ok_X_laws_eqConsole : OkX CT 46 X_laws_eqConsole := OkX.of_ex (cf := cf_laws_eqConsole) (np := 2) (LL := []) (J := (fun _ _ _ _ => none)) CT_ok rfl Try.func46 rfl (Nat.le_of_ble_eq_true rfl) (by decide) cok_laws_eqConsole okc_laws_eqConsole (fun k => noLoops rfl) (fun args m r h => match args, h with
    | [t0, t1], h => ⟨rfl, (xe_laws_eqConsole t0 t1 m).trans h⟩)
theorem ok_C_laws_eqConsole : OkC CT 46 C_laws_eqConsole := fcall_ok rfl ok_X_laws_eqConsole

/-! ### laws.FnExactSameConsoles -/
noncomputable def cf_laws_FnExactSameConsoles : CallF := cfc 42 C_laws_szConsole (cfc 43 C_spec_SameConsoles (cfc 44 C_laws_toConsole (cfc 45 C_impl_SameConsoles (cfc 46 C_laws_eqConsole cfn))))
noncomputable def X_laws_FnExactSameConsoles : List Value → Mem → Option VM
  | [t0, t1], m =>
    (boxX m t0) |> bo fun r1 =>
    (boxX r1.2 t1) |> bo fun r2 =>
    (ldS r2.2 38 r1.1) |> bo fun t10 =>
    (C_laws_szConsole [t10, (.int .i64 1048576)] r2.2) |> bo fun r4 =>
    (binX .lss .no r4.1 (.int .i64 0)) |> bo fun t14 =>
    brX t14
      (
        retK m.length r4.2 [t0, t1] (.bool true))
      (
        (ldS r4.2 38 r2.1) |> bo fun t15 =>
        (C_laws_szConsole [t15, r4.1] r4.2) |> bo fun r7 =>
        (binX .lss .no r7.1 (.int .i64 0)) |> bo fun t19 =>
        brX t19
          (
            retK m.length r7.2 [t0, t1] (.bool true))
          (
            (ldS r7.2 38 r1.1) |> bo fun t20 =>
            (C_laws_toConsole [t20] r7.2) |> bo fun r10 =>
            (ldS r10.2 38 r2.1) |> bo fun t22 =>
            (C_laws_toConsole [t22] r10.2) |> bo fun r12 =>
            (C_spec_SameConsoles [r10.1, r12.1] r12.2) |> bo fun r13 =>
            gP (stbL [((rdN r2.1), r7.2, r10.2)])
              (
                (ldS r13.2 38 r1.1) |> bo fun t25 =>
                (C_laws_toConsole [t25] r13.2) |> bo fun r15 =>
                (alX r15.2 [.int .i64 0, .int .i64 0, .int .i64 0, .int .i64 0, .int .i64 0, .bool false, .slice none 0 0, .int .i64 0, .int .i64 0, .slice none 0 0, .slice none 0 0, .int .i64 0, .int .i64 0, .bool false, .int .i64 0, .int .i64 0, .int .i64 0, .bool false, .bool false, .bool false, .slice none 0 0, .int .i64 0, .int .i64 0, .int .i64 0, .slice none 0 0, .int .i64 0, .int .i64 0, .int .i64 0, .int .i64 0, .int .i64 0, .int .i64 0, .int .i64 0, .int .i64 0, .int .i64 0, .slice none 0 0, .slice none 0 0, .bool false, .int .i64 0]) |> bo fun r16 =>
                (stX r16.2 38 r16.1 r15.1) |> bo fun m17 =>
                (ldS m17 38 r2.1) |> bo fun t27 =>
                (C_laws_toConsole [t27] m17) |> bo fun r19 =>
                (alX r19.2 [.int .i64 0, .int .i64 0, .int .i64 0, .int .i64 0, .int .i64 0, .bool false, .slice none 0 0, .int .i64 0, .int .i64 0, .slice none 0 0, .slice none 0 0, .int .i64 0, .int .i64 0, .bool false, .int .i64 0, .int .i64 0, .int .i64 0, .bool false, .bool false, .bool false, .slice none 0 0, .int .i64 0, .int .i64 0, .int .i64 0, .slice none 0 0, .int .i64 0, .int .i64 0, .int .i64 0, .int .i64 0, .int .i64 0, .int .i64 0, .int .i64 0, .int .i64 0, .int .i64 0, .slice none 0 0, .slice none 0 0, .bool false, .int .i64 0]) |> bo fun r20 =>
                (stX r20.2 38 r20.1 r19.1) |> bo fun m21 =>
                (ldS m21 38 r16.1) |> bo fun t29 =>
                (ldS m21 38 r20.1) |> bo fun t30 =>
                (C_impl_SameConsoles [t29, t30] m21) |> bo fun r24 =>
                (binX .neq .bool r24.1 r13.1) |> bo fun t34 =>
                brX t34
                  (
                    retK m.length r24.2 [t0, t1] (.bool false))
                  (
                    (ldS r24.2 38 r16.1) |> bo fun t35 =>
                    (ldS r24.2 38 r1.1) |> bo fun t36 =>
                    (C_laws_toConsole [t36] r24.2) |> bo fun r28 =>
                    (C_laws_eqConsole [t35, r28.1] r28.2) |> bo fun r29 =>
                    (uop .not r29.1) |> bo fun t39 =>
                    gP (stbL [((rdN r16.1), r24.2, r28.2)])
                      (
                        brX t39
                          (
                            retK m.length r29.2 [t0, t1] (.bool false))
                          (
                            (ldS r29.2 38 r20.1) |> bo fun t40 =>
                            (ldS r29.2 38 r2.1) |> bo fun t41 =>
                            (C_laws_toConsole [t41] r29.2) |> bo fun r33 =>
                            (C_laws_eqConsole [t40, r33.1] r33.2) |> bo fun r34 =>
                            (uop .not r34.1) |> bo fun t44 =>
                            gP (stbL [((rdN r20.1), r29.2, r33.2)])
                              (
                                brX t44
                                  (
                                    retK m.length r34.2 [t0, t1] (.bool false))
                                  (
                                    retK m.length r34.2 [t0, t1] (.bool true)))))))))
  | _, _ => none
noncomputable def C_laws_FnExactSameConsoles : List Value → Mem → Option VM := fcall X_laws_FnExactSameConsoles
@[simp] theorem c_laws_FnExactSameConsoles : C_laws_FnExactSameConsoles = fcall X_laws_FnExactSameConsoles := (rfl)
theorem cok_laws_FnExactSameConsoles : codeOk CT Try.f8 (Try.f8.body.get rfl) = true := by kernel_rfl
theorem xe_laws_FnExactSameConsoles (t0 t1 : Value) (m : Mem) : ex CT cf_laws_FnExactSameConsoles Try.f8 2 m.length [] (fun _ _ _ => none) 400 [.code (Try.f8.body.get rfl)] (argsT 0 [t0, t1]) m = X_laws_FnExactSameConsoles [t0, t1] m := by kernel_rfl
theorem okc_laws_FnExactSameConsoles : CallOK CT cf_laws_FnExactSameConsoles := cfc_ok ok_C_laws_szConsole (cfc_ok ok_C_spec_SameConsoles (cfc_ok ok_C_laws_toConsole (cfc_ok ok_C_impl_SameConsoles (cfc_ok ok_C_laws_eqConsole cfn_ok))))
theorem ok_X_laws_FnExactSameConsoles : OkX CT 8 X_laws_FnExactSameConsoles := OkX.of_ex (cf := cf_laws_FnExactSameConsoles) (np := 2) (LL := []) (J := (fun _ _ _ _ => none)) CT_ok rfl Try.func8 rfl (Nat.le_of_ble_eq_true rfl) (by decide) cok_laws_FnExactSameConsoles okc_laws_FnExactSameConsoles (fun k => noLoops rfl) (fun args m r h => match args, h with
    | [t0, t1], h => ⟨rfl, (xe_laws_FnExactSameConsoles t0 t1 m).trans h⟩)
theorem ok_C_laws_FnExactSameConsoles : OkC CT 8 C_laws_FnExactSameConsoles := fcall_ok rfl ok_X_laws_FnExactSameConsoles

end Go.Ab
