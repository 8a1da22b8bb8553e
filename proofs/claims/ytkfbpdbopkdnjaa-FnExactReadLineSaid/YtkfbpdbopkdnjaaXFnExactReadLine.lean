/- Plain forms of functions, printed by gen.py. -/
import Derived.Test.YtkfbpdbopkdnjaaCf3
import Derived.Test.YtkfbpdbopkdnjaaFC
import Derived.Test.YtkfbpdbopkdnjaaFD
set_option linter.unusedVariables false
set_option linter.unusedSimpArgs false
namespace Go.Ab
open Go.Proofs
set_option maxRecDepth 100000
set_option linter.unusedVariables false
/-! ### laws.szByteS -/
noncomputable def cf_laws_szByteS : CallF := cfn
noncomputable def X_laws_szByteS : List Value → Mem → Option VM
  | [t0, t1], m =>
    (lenX t0) |> bo fun t7 =>
    (binX .sub .no t1 t7) |> bo fun t8 =>
    (binX .lss .no t8 (.int .i64 0)) |> bo fun t10 =>
    brX t10
      (
        retK m.length m [t0, t8] (.int .i64 (-1)))
      (
        retK m.length m [t0, t8] t8)
  | _, _ => none
noncomputable def C_laws_szByteS : List Value → Mem → Option VM := fcall X_laws_szByteS
@[simp] theorem c_laws_szByteS : C_laws_szByteS = fcall X_laws_szByteS := (rfl)
theorem cok_laws_szByteS : codeOk CT Try.f135 (Try.f135.body.get rfl) = true := by kernel_rfl
theorem xe_laws_szByteS (t0 t1 : Value) (m : Mem) : ex CT cf_laws_szByteS Try.f135 2 m.length [] (fun _ _ _ => none) 400 [.code (Try.f135.body.get rfl)] (argsT 0 [t0, t1]) m = X_laws_szByteS [t0, t1] m := by kernel_rfl
theorem okc_laws_szByteS : CallOK CT cf_laws_szByteS := cfn_ok
theorem ok_X_laws_szByteS : OkX CT 135 X_laws_szByteS := OkX.of_ex (cf := cf_laws_szByteS) (np := 2) (LL := []) (J := (fun _ _ _ _ => none)) CT_ok rfl Try.func135 rfl (Nat.le_of_ble_eq_true rfl) (by decide) cok_laws_szByteS okc_laws_szByteS (fun k => noLoops rfl) (fun args m r h => match args, h with
    | [t0, t1], h => ⟨rfl, (xe_laws_szByteS t0 t1 m).trans h⟩)
theorem ok_C_laws_szByteS : OkC CT 135 C_laws_szByteS := fcall_ok rfl ok_X_laws_szByteS

/-! ### laws.szByteSS -/
noncomputable def cf_laws_szByteSS : CallF := cfc 135 C_laws_szByteS cfn
noncomputable def L_laws_szByteSS (k : Nat) : Nat → Nat → List Value → Mem → Option VM
  | q + 1, 0, [t0, t1, t5], m =>
    (lenX t0) |> bo fun t14 =>
    (binX .lss .no t5 t14) |> bo fun t15 =>
    brX t15
      (
        (ixaX 1 t0 t5) |> bo fun t20 =>
        (ld1 m t20) |> bo fun t21 =>
        (C_laws_szByteS [t21, t1] m) |> bo fun r5 =>
        (binX .lss .no r5.1 (.int .i64 0)) |> bo fun t25 =>
        brX t25
          (
            retK k r5.2 [t0, r5.1] (.int .i64 (-1)))
          (
            (binX .add .no t5 (.int .i64 1)) |> bo fun t17 =>
            cutK k r5.2 [t0, r5.1] [t0, r5.1, t17] (L_laws_szByteSS k q 0)))
      (
        retK k m [t0, t1] t1)
  | _, _, _, _ => none
noncomputable def J_laws_szByteSS (k q l : Nat) : List Value → Mem → Option VM := cond (Nat.beq l 5) (L_laws_szByteSS k q 0) (fun _ _ => none)
def LL_laws_szByteSS : List (Nat × List Tmp) := [(5, [0, 1, 5])]
noncomputable def X_laws_szByteSS : List Value → Mem → Option VM
  | [t0, t1], m =>
    (lenX t0) |> bo fun t8 =>
    (binX .sub .no t1 t8) |> bo fun t9 =>
    (binX .lss .no t9 (.int .i64 0)) |> bo fun t11 =>
    brX t11
      (
        retK m.length m [t0, t9] (.int .i64 (-1)))
      (
        cutK m.length m [t0, t9] [t0, t9, (.int .i64 0)] (L_laws_szByteSS m.length QQ 0))
  | _, _ => none
noncomputable def C_laws_szByteSS : List Value → Mem → Option VM := fcall X_laws_szByteSS
@[simp] theorem c_laws_szByteSS : C_laws_szByteSS = fcall X_laws_szByteSS := (rfl)
theorem cok_laws_szByteSS : codeOk CT Try.f52 (Try.f52.body.get rfl) = true := by kernel_rfl
theorem xe_laws_szByteSS (t0 t1 : Value) (m : Mem) : ex CT cf_laws_szByteSS Try.f52 2 m.length LL_laws_szByteSS (J_laws_szByteSS m.length QQ) 400 [.code (Try.f52.body.get rfl)] (argsT 0 [t0, t1]) m = X_laws_szByteSS [t0, t1] m := by kernel_rfl
theorem okc_laws_szByteSS : CallOK CT cf_laws_szByteSS := cfc_ok ok_C_laws_szByteS cfn_ok
theorem le_laws_szByteSS_0 (k q : Nat) (t0 t1 t5 : Value) (m : Mem) : ex CT cf_laws_szByteSS Try.f52 2 k LL_laws_szByteSS (J_laws_szByteSS k q) 400 (atLoop Try.f52 0) [(0, t0), (1, t1), (5, t5)] m = J_laws_szByteSS k (q + 1) 5 [t0, t1, t5] m := by kernel_rfl
theorem gl_laws_szByteSS (k : Nat) : ∀ q i, i < 1 → GoodL CT k Try.f52 LL_laws_szByteSS (J_laws_szByteSS k q) (atLoop Try.f52 i)
  | 0, 0, _ => goodL_zero (l := 5) (by kernel_rfl) (fun vs m => by kernel_rfl)
  | 0, _ + 1, h => absurd h (by omega)
  | q + 1, 0, _ => goodL_succ (np := 2) (l := 5) (live := [0, 1, 5]) (n := 1) CT_ok rfl okc_laws_szByteSS (c := (Try.f52.body.get rfl)) rfl cok_laws_szByteSS (by kernel_rfl) (gl_laws_szByteSS k q) (by kernel_rfl) rfl (fun vs m r hl h => match vs, hl with
    | [t0, t1, t5], _ => (le_laws_szByteSS_0 k q t0 t1 t5 m).trans h)
  | _ + 1, _ + 1, h => absurd h (by omega)
theorem ok_X_laws_szByteSS : OkX CT 52 X_laws_szByteSS := OkX.of_ex (cf := cf_laws_szByteSS) (np := 2) (LL := LL_laws_szByteSS) (J := (fun k => J_laws_szByteSS k QQ)) CT_ok rfl Try.func52 rfl (Nat.le_of_ble_eq_true rfl) (by decide) cok_laws_szByteSS okc_laws_szByteSS (fun k => allLoops rfl (by kernel_rfl) (gl_laws_szByteSS k QQ)) (fun args m r h => match args, h with
    | [t0, t1], h => ⟨rfl, (xe_laws_szByteSS t0 t1 m).trans h⟩)
theorem ok_C_laws_szByteSS : OkC CT 52 C_laws_szByteSS := fcall_ok rfl ok_X_laws_szByteSS

/-! ### laws.szLine -/
noncomputable def cf_laws_szLine : CallF := cfc 52 C_laws_szByteSS (cfc 135 C_laws_szByteS cfn)
noncomputable def X_laws_szLine : List Value → Mem → Option VM
  | [t0, t1], m =>
    (boxX m t0) |> bo fun r1 =>
    (fadX 0 r1.1) |> bo fun t5 =>
    (ld1 r1.2 t5) |> bo fun t6 =>
    (C_laws_szByteSS [t6, t1] r1.2) |> bo fun r4 =>
    (binX .lss .no r4.1 (.int .i64 0)) |> bo fun t10 =>
    brX t10
      (
        retK m.length r4.2 [t0, r4.1] (.int .i64 (-1)))
      (
        (fadX 1 r1.1) |> bo fun t11 =>
        (ld1 r4.2 t11) |> bo fun t12 =>
        (C_laws_szByteS [t12, r4.1] r4.2) |> bo fun r8 =>
        (binX .lss .no r8.1 (.int .i64 0)) |> bo fun t16 =>
        brX t16
          (
            retK m.length r8.2 [t0, r8.1] (.int .i64 (-1)))
          (
            retK m.length r8.2 [t0, r8.1] r8.1))
  | _, _ => none
noncomputable def C_laws_szLine : List Value → Mem → Option VM := fcall X_laws_szLine
@[simp] theorem c_laws_szLine : C_laws_szLine = fcall X_laws_szLine := (rfl)
theorem cok_laws_szLine : codeOk CT Try.f69 (Try.f69.body.get rfl) = true := by kernel_rfl
theorem xe_laws_szLine (t0 t1 : Value) (m : Mem) : ex CT cf_laws_szLine Try.f69 2 m.length [] (fun _ _ _ => none) 400 [.code (Try.f69.body.get rfl)] (argsT 0 [t0, t1]) m = X_laws_szLine [t0, t1] m := by kernel_rfl
theorem okc_laws_szLine : CallOK CT cf_laws_szLine := cfc_ok ok_C_laws_szByteSS (cfc_ok ok_C_laws_szByteS cfn_ok)
theorem ok_X_laws_szLine : OkX CT 69 X_laws_szLine := OkX.of_ex (cf := cf_laws_szLine) (np := 2) (LL := []) (J := (fun _ _ _ _ => none)) CT_ok rfl Try.func69 rfl (Nat.le_of_ble_eq_true rfl) (by decide) cok_laws_szLine okc_laws_szLine (fun k => noLoops rfl) (fun args m r h => match args, h with
    | [t0, t1], h => ⟨rfl, (xe_laws_szLine t0 t1 m).trans h⟩)
theorem ok_C_laws_szLine : OkC CT 69 C_laws_szLine := fcall_ok rfl ok_X_laws_szLine

/-! ### spec.l1In -/
noncomputable def cf_spec_l1In : CallF := cfn
noncomputable def X_spec_l1In : List Value → Mem → Option VM
  | [t0, t1, t2], m =>
    (binX .geq .no t0 t1) |> bo fun t9 =>
    (gd t9 true (some (t0, m)) m) |> bo fun r2 =>
    (gd t9 true (some (t2, r2.2)) r2.2) |> bo fun r3 =>
    (gd t9 true ((binX .leq .no r2.1 r3.1) |> bo fun v => some (v, r3.2)) r3.2) |> bo fun r4 =>
    (pickX t9 r4.1 (.bool false)) |> bo fun t14 =>
    retK m.length r4.2 [t0, t1, t2] t14
  | _, _ => none
noncomputable def C_spec_l1In : List Value → Mem → Option VM := fcall X_spec_l1In
@[simp] theorem c_spec_l1In : C_spec_l1In = fcall X_spec_l1In := (rfl)
theorem cok_spec_l1In : codeOk CT Try.f119 (Try.f119.body.get rfl) = true := by kernel_rfl
theorem xe_spec_l1In (t0 t1 t2 : Value) (m : Mem) : ex CT cf_spec_l1In Try.f119 3 m.length [] (fun _ _ _ => none) 400 [.code (Try.f119.body.get rfl)] (argsT 0 [t0, t1, t2]) m = X_spec_l1In [t0, t1, t2] m := by kernel_rfl
theorem okc_spec_l1In : CallOK CT cf_spec_l1In := cfn_ok
theorem ok_X_spec_l1In : OkX CT 119 X_spec_l1In := OkX.of_ex (cf := cf_spec_l1In) (np := 3) (LL := []) (J := (fun _ _ _ _ => none)) CT_ok rfl Try.func119 rfl (Nat.le_of_ble_eq_true rfl) (by decide) cok_spec_l1In okc_spec_l1In (fun k => noLoops rfl) (fun args m r h => match args, h with
    | [t0, t1, t2], h => ⟨rfl, (xe_spec_l1In t0 t1 t2 m).trans h⟩)
theorem ok_C_spec_l1In : OkC CT 119 C_spec_l1In := fcall_ok rfl ok_X_spec_l1In

/-! ### spec.l10List -/
noncomputable def cf_spec_l10List : CallF := cfn
noncomputable def X_spec_l10List : List Value → Mem → Option VM
  | [t0], m =>
    (nilX t0) |> bo fun t4 =>
    (fadX 0 t4) |> bo fun t5 =>
    (ld1 m t5) |> bo fun t6 =>
    (nilX t0) |> bo fun t8 =>
    (fadX 1 t8) |> bo fun t9 =>
    (ld1 m t9) |> bo fun t10 =>
    (nilX t0) |> bo fun t12 =>
    (fadX 2 t12) |> bo fun t13 =>
    (ld1 m t13) |> bo fun t14 =>
    (nilX t0) |> bo fun t16 =>
    (fadX 3 t16) |> bo fun t17 =>
    (ld1 m t17) |> bo fun t18 =>
    (nilX t0) |> bo fun t20 =>
    (fadX 4 t20) |> bo fun t21 =>
    (ld1 m t21) |> bo fun t22 =>
    (nilX t0) |> bo fun t24 =>
    (fadX 5 t24) |> bo fun t25 =>
    (ld1 m t25) |> bo fun t26 =>
    (nilX t0) |> bo fun t28 =>
    (fadX 6 t28) |> bo fun t29 =>
    (ld1 m t29) |> bo fun t30 =>
    (bslX m 7 1 [.int .i64 0] [(0, 1, t6), (1, 1, t10), (2, 1, t14), (3, 1, t18), (4, 1, t22), (5, 1, t26), (6, 1, t30)]) |> bo fun r22 =>
    retK m.length r22.2 [t0] r22.1
  | _, _ => none
noncomputable def C_spec_l10List : List Value → Mem → Option VM := fcall X_spec_l10List
@[simp] theorem c_spec_l10List : C_spec_l10List = fcall X_spec_l10List := (rfl)
theorem cok_spec_l10List : codeOk CT Try.f184 (Try.f184.body.get rfl) = true := by kernel_rfl
theorem xe_spec_l10List (t0 : Value) (m : Mem) : ex CT cf_spec_l10List Try.f184 1 m.length [] (fun _ _ _ => none) 400 [.code (Try.f184.body.get rfl)] (argsT 0 [t0]) m = X_spec_l10List [t0] m := by kernel_rfl
theorem okc_spec_l10List : CallOK CT cf_spec_l10List := cfn_ok
theorem ok_X_spec_l10List : OkX CT 184 X_spec_l10List := OkX.of_ex (cf := cf_spec_l10List) (np := 1) (LL := []) (J := (fun _ _ _ _ => none)) CT_ok rfl Try.func184 rfl (Nat.le_of_ble_eq_true rfl) (by decide) cok_spec_l10List okc_spec_l10List (fun k => noLoops rfl) (fun args m r h => match args, h with
    | [t0], h => ⟨rfl, (xe_spec_l10List t0 m).trans h⟩)
theorem ok_C_spec_l10List : OkC CT 184 C_spec_l10List := fcall_ok rfl ok_X_spec_l10List

/-! ### spec.l10Fault -/
noncomputable def cf_spec_l10Fault : CallF := cfc 119 C_spec_l1In (cfc 184 C_spec_l10List cfn)
noncomputable def L_spec_l10Fault (k : Nat) : Nat → Nat → List Value → Mem → Option VM
  | q + 1, 0, [t3, t4], m =>
    (lenX t3) |> bo fun t10 =>
    (binX .lss .no t4 t10) |> bo fun t11 =>
    brX t11
      (
        (binX .eql .no t4 (.int .i64 0)) |> bo fun t15 =>
        brX t15
          (
            (ixaX 1 t3 t4) |> bo fun t18 =>
            (ld1 m t18) |> bo fun t19 =>
            (C_spec_l1In [t19, (.int .i64 0), (.int .i64 511)] m) |> bo fun r6 =>
            (uop .not r6.1) |> bo fun t22 =>
            brX t22
              (
                retK k r6.2 [] (.int .i64 3))
              (
                (binX .add .no t4 (.int .i64 1)) |> bo fun t13 =>
                cutK k r6.2 [] [t3, t13] (L_spec_l10Fault k q 0)))
          (
            (ixaX 1 t3 t4) |> bo fun t18 =>
            (ld1 m t18) |> bo fun t19 =>
            (C_spec_l1In [t19, (.int .i64 0), (.int .i64 255)] m) |> bo fun r11 =>
            (uop .not r11.1) |> bo fun t22 =>
            brX t22
              (
                retK k r11.2 [] (.int .i64 3))
              (
                (binX .add .no t4 (.int .i64 1)) |> bo fun t13 =>
                cutK k r11.2 [] [t3, t13] (L_spec_l10Fault k q 0))))
      (
        retK k m [] (.int .i64 0))
  | _, _, _, _ => none
noncomputable def J_spec_l10Fault (k q l : Nat) : List Value → Mem → Option VM := cond (Nat.beq l 3) (L_spec_l10Fault k q 0) (fun _ _ => none)
def LL_spec_l10Fault : List (Nat × List Tmp) := [(3, [3, 4])]
noncomputable def X_spec_l10Fault : List Value → Mem → Option VM
  | [t0], m =>
    (C_spec_l10List [t0] m) |> bo fun r1 =>
    cutK m.length r1.2 [t0] [r1.1, (.int .i64 0)] (L_spec_l10Fault m.length QQ 0)
  | _, _ => none
noncomputable def C_spec_l10Fault : List Value → Mem → Option VM := fcall X_spec_l10Fault
@[simp] theorem c_spec_l10Fault : C_spec_l10Fault = fcall X_spec_l10Fault := (rfl)
theorem cok_spec_l10Fault : codeOk CT Try.f174 (Try.f174.body.get rfl) = true := by kernel_rfl
theorem xe_spec_l10Fault (t0 : Value) (m : Mem) : ex CT cf_spec_l10Fault Try.f174 1 m.length LL_spec_l10Fault (J_spec_l10Fault m.length QQ) 400 [.code (Try.f174.body.get rfl)] (argsT 0 [t0]) m = X_spec_l10Fault [t0] m := by kernel_rfl
theorem okc_spec_l10Fault : CallOK CT cf_spec_l10Fault := cfc_ok ok_C_spec_l1In (cfc_ok ok_C_spec_l10List cfn_ok)
theorem le_spec_l10Fault_0 (k q : Nat) (t3 t4 : Value) (m : Mem) : ex CT cf_spec_l10Fault Try.f174 1 k LL_spec_l10Fault (J_spec_l10Fault k q) 400 (atLoop Try.f174 0) [(3, t3), (4, t4)] m = J_spec_l10Fault k (q + 1) 3 [t3, t4] m := by kernel_rfl
theorem gl_spec_l10Fault (k : Nat) : ∀ q i, i < 1 → GoodL CT k Try.f174 LL_spec_l10Fault (J_spec_l10Fault k q) (atLoop Try.f174 i)
  | 0, 0, _ => goodL_zero (l := 3) (by kernel_rfl) (fun vs m => by kernel_rfl)
  | 0, _ + 1, h => absurd h (by omega)
  | q + 1, 0, _ => goodL_succ (np := 1) (l := 3) (live := [3, 4]) (n := 1) CT_ok rfl okc_spec_l10Fault (c := (Try.f174.body.get rfl)) rfl cok_spec_l10Fault (by kernel_rfl) (gl_spec_l10Fault k q) (by kernel_rfl) rfl (fun vs m r hl h => match vs, hl with
    | [t3, t4], _ => (le_spec_l10Fault_0 k q t3 t4 m).trans h)
  | _ + 1, _ + 1, h => absurd h (by omega)
theorem ok_X_spec_l10Fault : OkX CT 174 X_spec_l10Fault := OkX.of_ex (cf := cf_spec_l10Fault) (np := 1) (LL := LL_spec_l10Fault) (J := (fun k => J_spec_l10Fault k QQ)) CT_ok rfl Try.func174 rfl (Nat.le_of_ble_eq_true rfl) (by decide) cok_spec_l10Fault okc_spec_l10Fault (fun k => allLoops rfl (by kernel_rfl) (gl_spec_l10Fault k QQ)) (fun args m r h => match args, h with
    | [t0], h => ⟨rfl, (xe_spec_l10Fault t0 m).trans h⟩)
theorem ok_C_spec_l10Fault : OkC CT 174 C_spec_l10Fault := fcall_ok rfl ok_X_spec_l10Fault

/-! ### spec.l11Size -/
noncomputable def cf_spec_l11Size : CallF := cfn
noncomputable def L_spec_l11Size (k : Nat) : Nat → Nat → List Value → Mem → Option VM
  | q + 1, 0, [t0, t3, t4], m =>
    (nilX t0) |> bo fun t12 =>
    (fadX 0 t12) |> bo fun t13 =>
    (ld1 m t13) |> bo fun t14 =>
    (lenX t14) |> bo fun t15 =>
    (binX .lss .no t4 t15) |> bo fun t16 =>
    brX t16
      (
        (nilX t0) |> bo fun t21 =>
        (fadX 0 t21) |> bo fun t22 =>
        (ld1 m t22) |> bo fun t23 =>
        (ixaX 1 t23 t4) |> bo fun t25 =>
        (ld1 m t25) |> bo fun t26 =>
        (lenX t26) |> bo fun t27 =>
        (binX .add .no t3 t27) |> bo fun t28 =>
        (binX .add .no t4 (.int .i64 1)) |> bo fun t18 =>
        cutK k m [t0] [t0, t28, t18] (L_spec_l11Size k q 0))
      (
        retK k m [t0] t3)
  | _, _, _, _ => none
noncomputable def J_spec_l11Size (k q l : Nat) : List Value → Mem → Option VM := cond (Nat.beq l 3) (L_spec_l11Size k q 0) (fun _ _ => none)
def LL_spec_l11Size : List (Nat × List Tmp) := [(3, [0, 3, 4])]
noncomputable def X_spec_l11Size : List Value → Mem → Option VM
  | [t0], m =>
    (nilX t0) |> bo fun t6 =>
    (fadX 1 t6) |> bo fun t7 =>
    (ld1 m t7) |> bo fun t8 =>
    (lenX t8) |> bo fun t9 =>
    cutK m.length m [t0] [t0, t9, (.int .i64 0)] (L_spec_l11Size m.length QQ 0)
  | _, _ => none
noncomputable def C_spec_l11Size : List Value → Mem → Option VM := fcall X_spec_l11Size
@[simp] theorem c_spec_l11Size : C_spec_l11Size = fcall X_spec_l11Size := (rfl)
theorem cok_spec_l11Size : codeOk CT Try.f185 (Try.f185.body.get rfl) = true := by kernel_rfl
theorem xe_spec_l11Size (t0 : Value) (m : Mem) : ex CT cf_spec_l11Size Try.f185 1 m.length LL_spec_l11Size (J_spec_l11Size m.length QQ) 400 [.code (Try.f185.body.get rfl)] (argsT 0 [t0]) m = X_spec_l11Size [t0] m := by kernel_rfl
theorem okc_spec_l11Size : CallOK CT cf_spec_l11Size := cfn_ok
theorem le_spec_l11Size_0 (k q : Nat) (t0 t3 t4 : Value) (m : Mem) : ex CT cf_spec_l11Size Try.f185 1 k LL_spec_l11Size (J_spec_l11Size k q) 400 (atLoop Try.f185 0) [(0, t0), (3, t3), (4, t4)] m = J_spec_l11Size k (q + 1) 3 [t0, t3, t4] m := by kernel_rfl
theorem gl_spec_l11Size (k : Nat) : ∀ q i, i < 1 → GoodL CT k Try.f185 LL_spec_l11Size (J_spec_l11Size k q) (atLoop Try.f185 i)
  | 0, 0, _ => goodL_zero (l := 3) (by kernel_rfl) (fun vs m => by kernel_rfl)
  | 0, _ + 1, h => absurd h (by omega)
  | q + 1, 0, _ => goodL_succ (np := 1) (l := 3) (live := [0, 3, 4]) (n := 1) CT_ok rfl okc_spec_l11Size (c := (Try.f185.body.get rfl)) rfl cok_spec_l11Size (by kernel_rfl) (gl_spec_l11Size k q) (by kernel_rfl) rfl (fun vs m r hl h => match vs, hl with
    | [t0, t3, t4], _ => (le_spec_l11Size_0 k q t0 t3 t4 m).trans h)
  | _ + 1, _ + 1, h => absurd h (by omega)
theorem ok_X_spec_l11Size : OkX CT 185 X_spec_l11Size := OkX.of_ex (cf := cf_spec_l11Size) (np := 1) (LL := LL_spec_l11Size) (J := (fun k => J_spec_l11Size k QQ)) CT_ok rfl Try.func185 rfl (Nat.le_of_ble_eq_true rfl) (by decide) cok_spec_l11Size okc_spec_l11Size (fun k => allLoops rfl (by kernel_rfl) (gl_spec_l11Size k QQ)) (fun args m r h => match args, h with
    | [t0], h => ⟨rfl, (xe_spec_l11Size t0 m).trans h⟩)
theorem ok_C_spec_l11Size : OkC CT 185 C_spec_l11Size := fcall_ok rfl ok_X_spec_l11Size

/-! ### spec.l11Fault -/
noncomputable def cf_spec_l11Fault : CallF := cfc 119 C_spec_l1In (cfc 185 C_spec_l11Size cfn)
noncomputable def X_spec_l11Fault : List Value → Mem → Option VM
  | [t0], m =>
    (nilX t0) |> bo fun t4 =>
    (fadX 0 t4) |> bo fun t5 =>
    (ld1 m t5) |> bo fun t6 =>
    (lenX t6) |> bo fun t7 =>
    (binX .gtr .no t7 (.int .i64 40)) |> bo fun t8 =>
    (gd t8 false (some (t0, m)) m) |> bo fun r6 =>
    (gd t8 false ((C_spec_l11Size [r6.1] r6.2) |> bo fun r => some (r.1, r.2)) r6.2) |> bo fun r7 =>
    (gd t8 false ((binX .gtr .no r7.1 (.int .i64 40)) |> bo fun v => some (v, r7.2)) r7.2) |> bo fun r8 =>
    (pickX t8 (.bool true) r8.1) |> bo fun t13 =>
    brX t13
      (
        retK m.length r8.2 [t0] (.int .i64 2))
      (
        (nilX t0) |> bo fun t15 =>
        (fadX 3 t15) |> bo fun t16 =>
        (ld1 r8.2 t16) |> bo fun t17 =>
        (C_spec_l1In [t17, (.int .i64 0), (.int .i64 999)] r8.2) |> bo fun r13 =>
        (uop .not r13.1) |> bo fun t19 =>
        brX t19
          (
            retK m.length r13.2 [t0] (.int .i64 3))
          (
            retK m.length r13.2 [t0] (.int .i64 0)))
  | _, _ => none
noncomputable def C_spec_l11Fault : List Value → Mem → Option VM := fcall X_spec_l11Fault
@[simp] theorem c_spec_l11Fault : C_spec_l11Fault = fcall X_spec_l11Fault := (rfl)
theorem cok_spec_l11Fault : codeOk CT Try.f175 (Try.f175.body.get rfl) = true := by kernel_rfl
theorem xe_spec_l11Fault (t0 : Value) (m : Mem) : ex CT cf_spec_l11Fault Try.f175 1 m.length [] (fun _ _ _ => none) 400 [.code (Try.f175.body.get rfl)] (argsT 0 [t0]) m = X_spec_l11Fault [t0] m := by kernel_rfl
theorem okc_spec_l11Fault : CallOK CT cf_spec_l11Fault := cfc_ok ok_C_spec_l1In (cfc_ok ok_C_spec_l11Size cfn_ok)
theorem ok_X_spec_l11Fault : OkX CT 175 X_spec_l11Fault := OkX.of_ex (cf := cf_spec_l11Fault) (np := 1) (LL := []) (J := (fun _ _ _ _ => none)) CT_ok rfl Try.func175 rfl (Nat.le_of_ble_eq_true rfl) (by decide) cok_spec_l11Fault okc_spec_l11Fault (fun k => noLoops rfl) (fun args m r h => match args, h with
    | [t0], h => ⟨rfl, (xe_spec_l11Fault t0 m).trans h⟩)
theorem ok_C_spec_l11Fault : OkC CT 175 C_spec_l11Fault := fcall_ok rfl ok_X_spec_l11Fault

/-! ### spec.l11Asked -/
noncomputable def cf_spec_l11Asked : CallF := cfc 174 C_spec_l10Fault (cfc 175 C_spec_l11Fault cfn)
noncomputable def X_spec_l11Asked : List Value → Mem → Option VM
  | [t0, t1], m =>
    (C_spec_l10Fault [t0] m) |> bo fun r1 =>
    (binX .neq .no r1.1 (.int .i64 0)) |> bo fun t9 =>
    brX t9
      (
        retK m.length r1.2 [t0, t1] r1.1)
      (
        (C_spec_l11Fault [t1] r1.2) |> bo fun r3 =>
        retK m.length r3.2 [t0, t1] r3.1)
  | _, _ => none
noncomputable def C_spec_l11Asked : List Value → Mem → Option VM := fcall X_spec_l11Asked
@[simp] theorem c_spec_l11Asked : C_spec_l11Asked = fcall X_spec_l11Asked := (rfl)
theorem cok_spec_l11Asked : codeOk CT Try.f142 (Try.f142.body.get rfl) = true := by kernel_rfl
theorem xe_spec_l11Asked (t0 t1 : Value) (m : Mem) : ex CT cf_spec_l11Asked Try.f142 2 m.length [] (fun _ _ _ => none) 400 [.code (Try.f142.body.get rfl)] (argsT 0 [t0, t1]) m = X_spec_l11Asked [t0, t1] m := by kernel_rfl
theorem okc_spec_l11Asked : CallOK CT cf_spec_l11Asked := cfc_ok ok_C_spec_l10Fault (cfc_ok ok_C_spec_l11Fault cfn_ok)
theorem ok_X_spec_l11Asked : OkX CT 142 X_spec_l11Asked := OkX.of_ex (cf := cf_spec_l11Asked) (np := 2) (LL := []) (J := (fun _ _ _ _ => none)) CT_ok rfl Try.func142 rfl (Nat.le_of_ble_eq_true rfl) (by decide) cok_spec_l11Asked okc_spec_l11Asked (fun k => noLoops rfl) (fun args m r h => match args, h with
    | [t0, t1], h => ⟨rfl, (xe_spec_l11Asked t0 t1 m).trans h⟩)
theorem ok_C_spec_l11Asked : OkC CT 142 C_spec_l11Asked := fcall_ok rfl ok_X_spec_l11Asked

/-! ### spec.l1Copy -/
noncomputable def cf_spec_l1Copy : CallF := cfn
noncomputable def X_spec_l1Copy : List Value → Mem → Option VM
  | [t0], m =>
    (bslX m 0 1 [.int .u8 0] []) |> bo fun r1 =>
    (apL r1.2 1 1 r1.1 t0) |> bo fun r2 =>
    retK m.length r2.2 [t0] r2.1
  | _, _ => none
noncomputable def C_spec_l1Copy : List Value → Mem → Option VM := icall X_spec_l1Copy
@[simp] theorem c_spec_l1Copy : C_spec_l1Copy = icall X_spec_l1Copy := (rfl)
theorem cok_spec_l1Copy : codeOk CT Try.f172 (Try.f172.body.get rfl) = true := by kernel_rfl
theorem xe_spec_l1Copy (t0 : Value) (m : Mem) : ex CT cf_spec_l1Copy Try.f172 1 m.length [] (fun _ _ _ => none) 400 [.code (Try.f172.body.get rfl)] (argsT 0 [t0]) m = X_spec_l1Copy [t0] m := by kernel_rfl
theorem okc_spec_l1Copy : CallOK CT cf_spec_l1Copy := cfn_ok
theorem ok_X_spec_l1Copy : OkX CT 172 X_spec_l1Copy := OkX.of_ex (cf := cf_spec_l1Copy) (np := 1) (LL := []) (J := (fun _ _ _ _ => none)) CT_ok rfl Try.func172 rfl (Nat.le_of_ble_eq_true rfl) (by decide) cok_spec_l1Copy okc_spec_l1Copy (fun k => noLoops rfl) (fun args m r h => match args, h with
    | [t0], h => ⟨rfl, (xe_spec_l1Copy t0 m).trans h⟩)
theorem ok_C_spec_l1Copy : OkC CT 172 C_spec_l1Copy := icall_ok rfl ok_X_spec_l1Copy

/-! ### spec.l11Copy -/
noncomputable def cf_spec_l11Copy : CallF := cfc 172 C_spec_l1Copy cfn
noncomputable def L_spec_l11Copy (k : Nat) : Nat → Nat → List Value → Mem → Option VM
  | q + 1, 0, [t0, t1, t2, t3, t4], m =>
    (fadX 0 t1) |> bo fun t14 =>
    (ld1 m t14) |> bo fun t15 =>
    (lenX t15) |> bo fun t16 =>
    (binX .lss .no t4 t16) |> bo fun t17 =>
    brX t17
      (
        (fadX 0 t3) |> bo fun t20 =>
        (ld1 m t20) |> bo fun t21 =>
        (fadX 0 t1) |> bo fun t22 =>
        (ld1 m t22) |> bo fun t23 =>
        (ixaX 1 t23 t4) |> bo fun t25 =>
        (ld1 m t25) |> bo fun t26 =>
        (C_spec_l1Copy [t26] m) |> bo fun r11 =>
        (bslX r11.2 1 1 [.slice none 0 0] [(0, 1, r11.1)]) |> bo fun r12 =>
        (apL r12.2 1 24 t21 r12.1) |> bo fun r13 =>
        (fadX 0 t3) |> bo fun t30 =>
        (stX r13.2 1 t30 r13.1) |> bo fun m15 =>
        gP (stbL [((rdN t20), m, r11.2)])
          (
            (binX .add .no t4 (.int .i64 1)) |> bo fun t19 =>
            cutK k m15 [t0] [t0, t1, t2, t3, t19] (L_spec_l11Copy k q 0)))
      (
        (ldS m 4 t3) |> bo fun t31 =>
        (stX m 4 t2 t31) |> bo fun m18 =>
        (resP (some 4) m18 t2) |> bo fun c19 =>
        retK k m18 [t0] c19)
  | _, _, _, _ => none
noncomputable def J_spec_l11Copy (k q l : Nat) : List Value → Mem → Option VM := cond (Nat.beq l 3) (L_spec_l11Copy k q 0) (fun _ _ => none)
def LL_spec_l11Copy : List (Nat × List Tmp) := [(3, [0, 1, 2, 3, 4])]
noncomputable def X_spec_l11Copy : List Value → Mem → Option VM
  | [t0], m =>
    (boxX m t0) |> bo fun r1 =>
    (alX r1.2 [.slice none 0 0, .slice none 0 0, .bool false, .int .i64 0]) |> bo fun r2 =>
    (fadX 1 r1.1) |> bo fun t5 =>
    (ld1 r2.2 t5) |> bo fun t6 =>
    (C_spec_l1Copy [t6] r2.2) |> bo fun r5 =>
    (fadX 2 r1.1) |> bo fun t8 =>
    (ld1 r5.2 t8) |> bo fun t9 =>
    (fadX 3 r1.1) |> bo fun t10 =>
    (ld1 r5.2 t10) |> bo fun t11 =>
    (bldX [.slice none 0 0, .slice none 0 0, .bool false, .int .i64 0] [(1, 1, r5.1), (2, 1, t9), (3, 1, t11)]) |> bo fun t12 =>
    (alX r5.2 [.slice none 0 0, .slice none 0 0, .bool false, .int .i64 0]) |> bo fun r11 =>
    (stX r11.2 4 r11.1 t12) |> bo fun m12 =>
    gP (stbL [((rdN t8), r2.2, r5.2), ((rdN t10), r2.2, r5.2)])
      (
        cutK m.length m12 [t0] [t0, r1.1, r2.1, r11.1, (.int .i64 0)] (L_spec_l11Copy m.length QQ 0))
  | _, _ => none
noncomputable def C_spec_l11Copy : List Value → Mem → Option VM := rcall X_spec_l11Copy
@[simp] theorem c_spec_l11Copy : C_spec_l11Copy = rcall X_spec_l11Copy := (rfl)
theorem cok_spec_l11Copy : codeOk CT Try.f143 (Try.f143.body.get rfl) = true := by kernel_rfl
theorem xe_spec_l11Copy (t0 : Value) (m : Mem) : ex CT cf_spec_l11Copy Try.f143 1 m.length LL_spec_l11Copy (J_spec_l11Copy m.length QQ) 400 [.code (Try.f143.body.get rfl)] (argsT 0 [t0]) m = X_spec_l11Copy [t0] m := by kernel_rfl
theorem okc_spec_l11Copy : CallOK CT cf_spec_l11Copy := cfc_ok ok_C_spec_l1Copy cfn_ok
theorem le_spec_l11Copy_0 (k q : Nat) (t0 t1 t2 t3 t4 : Value) (m : Mem) : ex CT cf_spec_l11Copy Try.f143 1 k LL_spec_l11Copy (J_spec_l11Copy k q) 400 (atLoop Try.f143 0) [(0, t0), (1, t1), (2, t2), (3, t3), (4, t4)] m = J_spec_l11Copy k (q + 1) 3 [t0, t1, t2, t3, t4] m := by kernel_rfl
theorem gl_spec_l11Copy (k : Nat) : ∀ q i, i < 1 → GoodL CT k Try.f143 LL_spec_l11Copy (J_spec_l11Copy k q) (atLoop Try.f143 i)
  | 0, 0, _ => goodL_zero (l := 3) (by kernel_rfl) (fun vs m => by kernel_rfl)
  | 0, _ + 1, h => absurd h (by omega)
  | q + 1, 0, _ => goodL_succ (np := 1) (l := 3) (live := [0, 1, 2, 3, 4]) (n := 1) CT_ok rfl okc_spec_l11Copy (c := (Try.f143.body.get rfl)) rfl cok_spec_l11Copy (by kernel_rfl) (gl_spec_l11Copy k q) (by kernel_rfl) rfl (fun vs m r hl h => match vs, hl with
    | [t0, t1, t2, t3, t4], _ => (le_spec_l11Copy_0 k q t0 t1 t2 t3 t4 m).trans h)
  | _ + 1, _ + 1, h => absurd h (by omega)
theorem ok_X_spec_l11Copy : OkX CT 143 X_spec_l11Copy := OkX.of_ex (cf := cf_spec_l11Copy) (np := 1) (LL := LL_spec_l11Copy) (J := (fun k => J_spec_l11Copy k QQ)) CT_ok rfl Try.func143 rfl (Nat.le_of_ble_eq_true rfl) (by decide) cok_spec_l11Copy okc_spec_l11Copy (fun k => allLoops rfl (by kernel_rfl) (gl_spec_l11Copy k QQ)) (fun args m r h => match args, h with
    | [t0], h => ⟨rfl, (xe_spec_l11Copy t0 m).trans h⟩)
theorem ok_C_spec_l11Copy : OkC CT 143 C_spec_l11Copy := rcall_ok rfl ok_X_spec_l11Copy

/-! ### spec.l1Min -/
noncomputable def cf_spec_l1Min : CallF := cfn
noncomputable def X_spec_l1Min : List Value → Mem → Option VM
  | [t0, t1], m =>
    (binX .lss .no t0 t1) |> bo fun t7 =>
    brX t7
      (
        retK m.length m [t0, t1] t0)
      (
        retK m.length m [t0, t1] t1)
  | _, _ => none
noncomputable def C_spec_l1Min : List Value → Mem → Option VM := fcall X_spec_l1Min
@[simp] theorem c_spec_l1Min : C_spec_l1Min = fcall X_spec_l1Min := (rfl)
theorem cok_spec_l1Min : codeOk CT Try.f176 (Try.f176.body.get rfl) = true := by kernel_rfl
theorem xe_spec_l1Min (t0 t1 : Value) (m : Mem) : ex CT cf_spec_l1Min Try.f176 2 m.length [] (fun _ _ _ => none) 400 [.code (Try.f176.body.get rfl)] (argsT 0 [t0, t1]) m = X_spec_l1Min [t0, t1] m := by kernel_rfl
theorem okc_spec_l1Min : CallOK CT cf_spec_l1Min := cfn_ok
theorem ok_X_spec_l1Min : OkX CT 176 X_spec_l1Min := OkX.of_ex (cf := cf_spec_l1Min) (np := 2) (LL := []) (J := (fun _ _ _ _ => none)) CT_ok rfl Try.func176 rfl (Nat.le_of_ble_eq_true rfl) (by decide) cok_spec_l1Min okc_spec_l1Min (fun k => noLoops rfl) (fun args m r h => match args, h with
    | [t0, t1], h => ⟨rfl, (xe_spec_l1Min t0 t1 m).trans h⟩)
theorem ok_C_spec_l1Min : OkC CT 176 C_spec_l1Min := fcall_ok rfl ok_X_spec_l1Min

/-! ### spec.l10Has -/
noncomputable def cf_spec_l10Has : CallF := cfn
noncomputable def X_spec_l10Has : List Value → Mem → Option VM
  | [t0, t1], m =>
    (nilX t0) |> bo fun t6 =>
    (fadX 0 t6) |> bo fun t7 =>
    (ld1 m t7) |> bo fun t8 =>
    (binX .and .no t8 t1) |> bo fun t10 =>
    (binX .neq .no t10 (.int .i64 0)) |> bo fun t11 =>
    retK m.length m [t0, t1] t11
  | _, _ => none
noncomputable def C_spec_l10Has : List Value → Mem → Option VM := fcall X_spec_l10Has
@[simp] theorem c_spec_l10Has : C_spec_l10Has = fcall X_spec_l10Has := (rfl)
theorem cok_spec_l10Has : codeOk CT Try.f177 (Try.f177.body.get rfl) = true := by kernel_rfl
theorem xe_spec_l10Has (t0 t1 : Value) (m : Mem) : ex CT cf_spec_l10Has Try.f177 2 m.length [] (fun _ _ _ => none) 400 [.code (Try.f177.body.get rfl)] (argsT 0 [t0, t1]) m = X_spec_l10Has [t0, t1] m := by kernel_rfl
theorem okc_spec_l10Has : CallOK CT cf_spec_l10Has := cfn_ok
theorem ok_X_spec_l10Has : OkX CT 177 X_spec_l10Has := OkX.of_ex (cf := cf_spec_l10Has) (np := 2) (LL := []) (J := (fun _ _ _ _ => none)) CT_ok rfl Try.func177 rfl (Nat.le_of_ble_eq_true rfl) (by decide) cok_spec_l10Has okc_spec_l10Has (fun k => noLoops rfl) (fun args m r h => match args, h with
    | [t0, t1], h => ⟨rfl, (xe_spec_l10Has t0 t1 m).trans h⟩)
theorem ok_C_spec_l10Has : OkC CT 177 C_spec_l10Has := fcall_ok rfl ok_X_spec_l10Has

/-! ### spec.l11Read -/
noncomputable def cf_spec_l11Read : CallF := cfc 172 C_spec_l1Copy (cfc 176 C_spec_l1Min (cfc 177 C_spec_l10Has cfn))
noncomputable def L_spec_l11Read (k : Nat) : Nat → Nat → List Value → Mem → Option VM
  | q + 1, 0, [t0, t1, t2, t7], m =>
    (nilX t1) |> bo fun t12 =>
    (fadX 0 t12) |> bo fun t13 =>
    (ld1 m t13) |> bo fun t14 =>
    (lenX t14) |> bo fun t15 =>
    (binX .gtr .no t15 (.int .i64 0)) |> bo fun t16 =>
    (gd t16 true (some (t7, m)) m) |> bo fun r6 =>
    (gd t16 true ((lenX r6.1) |> bo fun v => some (v, r6.2)) r6.2) |> bo fun r7 =>
    (gd t16 true (some (t2, r7.2)) r7.2) |> bo fun r8 =>
    (gd t16 true ((binX .lss .no r7.1 r8.1) |> bo fun v => some (v, r8.2)) r8.2) |> bo fun r9 =>
    (pickX t16 r9.1 (.bool false)) |> bo fun t22 =>
    brX t22
      (
        (nilX t1) |> bo fun t24 =>
        (fadX 0 t24) |> bo fun t25 =>
        (ld1 r9.2 t25) |> bo fun t26 =>
        (ixaX 1 t26 (.int .i64 0)) |> bo fun t27 =>
        (ld1 r9.2 t27) |> bo fun t28 =>
        (lenX t28) |> bo fun t30 =>
        (lenX t7) |> bo fun t33 =>
        (binX .sub .no t2 t33) |> bo fun t34 =>
        (C_spec_l1Min [t30, t34] r9.2) |> bo fun r19 =>
        (slX r19.2 1 t28 none (some r19.1)) |> bo fun t39 =>
        (apL r19.2 1 1 t7 t39) |> bo fun r21 =>
        (lenX t28) |> bo fun t43 =>
        (binX .lss .no r19.1 t43) |> bo fun t44 =>
        brX t44
          (
            (nilX t1) |> bo fun t46 =>
            (fadX 0 t46) |> bo fun t47 =>
            (ld1 r21.2 t47) |> bo fun t48 =>
            (slX r21.2 1 t28 (some r19.1) none) |> bo fun t51 =>
            (C_spec_l1Copy [t51] r21.2) |> bo fun r28 =>
            (ixaX 1 t48 (.int .i64 0)) |> bo fun t53 =>
            (stX r28.2 1 t53 r28.1) |> bo fun m30 =>
            gP (stbL [((rdN t47), r21.2, r28.2)])
              (
                retK k m30 [t0, t1, t2] r21.1))
          (
            (nilX t1) |> bo fun t57 =>
            (fadX 0 t57) |> bo fun t58 =>
            (ld1 r21.2 t58) |> bo fun t59 =>
            (slX r21.2 1 t59 (some (.int .i64 1)) none) |> bo fun t60 =>
            (nilX t1) |> bo fun t61 =>
            (fadX 0 t61) |> bo fun t62 =>
            (stX r21.2 1 t62 t60) |> bo fun m37 =>
            (C_spec_l10Has [t0, (.int .i64 1)] m37) |> bo fun r38 =>
            brX r38.1
              (
                retK k r38.2 [t0, t1, t2] r21.1)
              (
                cutK k r38.2 [t0, t1, t2] [t0, t1, t2, r21.1] (L_spec_l11Read k q 0))))
      (
        retK k r9.2 [t0, t1, t2] t7)
  | _, _, _, _ => none
noncomputable def J_spec_l11Read (k q l : Nat) : List Value → Mem → Option VM := cond (Nat.beq l 2) (L_spec_l11Read k q 0) (fun _ _ => none)
def LL_spec_l11Read : List (Nat × List Tmp) := [(2, [0, 1, 2, 7])]
noncomputable def X_spec_l11Read : List Value → Mem → Option VM
  | [t0, t1, t2], m =>
    (bslX m 0 1 [.int .u8 0] []) |> bo fun r1 =>
    cutK m.length r1.2 [t0, t1, t2] [t0, t1, t2, r1.1] (L_spec_l11Read m.length QQ 0)
  | _, _ => none
noncomputable def C_spec_l11Read : List Value → Mem → Option VM := rcall X_spec_l11Read
@[simp] theorem c_spec_l11Read : C_spec_l11Read = rcall X_spec_l11Read := (rfl)
theorem cok_spec_l11Read : codeOk CT Try.f144 (Try.f144.body.get rfl) = true := by kernel_rfl
theorem xe_spec_l11Read (t0 t1 t2 : Value) (m : Mem) : ex CT cf_spec_l11Read Try.f144 3 m.length LL_spec_l11Read (J_spec_l11Read m.length QQ) 400 [.code (Try.f144.body.get rfl)] (argsT 0 [t0, t1, t2]) m = X_spec_l11Read [t0, t1, t2] m := by kernel_rfl
theorem okc_spec_l11Read : CallOK CT cf_spec_l11Read := cfc_ok ok_C_spec_l1Copy (cfc_ok ok_C_spec_l1Min (cfc_ok ok_C_spec_l10Has cfn_ok))
theorem le_spec_l11Read_0 (k q : Nat) (t0 t1 t2 t7 : Value) (m : Mem) : ex CT cf_spec_l11Read Try.f144 3 k LL_spec_l11Read (J_spec_l11Read k q) 400 (atLoop Try.f144 0) [(0, t0), (1, t1), (2, t2), (7, t7)] m = J_spec_l11Read k (q + 1) 2 [t0, t1, t2, t7] m := by kernel_rfl
theorem gl_spec_l11Read (k : Nat) : ∀ q i, i < 1 → GoodL CT k Try.f144 LL_spec_l11Read (J_spec_l11Read k q) (atLoop Try.f144 i)
  | 0, 0, _ => goodL_zero (l := 2) (by kernel_rfl) (fun vs m => by kernel_rfl)
  | 0, _ + 1, h => absurd h (by omega)
  | q + 1, 0, _ => goodL_succ (np := 3) (l := 2) (live := [0, 1, 2, 7]) (n := 1) CT_ok rfl okc_spec_l11Read (c := (Try.f144.body.get rfl)) rfl cok_spec_l11Read (by kernel_rfl) (gl_spec_l11Read k q) (by kernel_rfl) rfl (fun vs m r hl h => match vs, hl with
    | [t0, t1, t2, t7], _ => (le_spec_l11Read_0 k q t0 t1 t2 t7 m).trans h)
  | _ + 1, _ + 1, h => absurd h (by omega)
theorem ok_X_spec_l11Read : OkX CT 144 X_spec_l11Read := OkX.of_ex (cf := cf_spec_l11Read) (np := 3) (LL := LL_spec_l11Read) (J := (fun k => J_spec_l11Read k QQ)) CT_ok rfl Try.func144 rfl (Nat.le_of_ble_eq_true rfl) (by decide) cok_spec_l11Read okc_spec_l11Read (fun k => allLoops rfl (by kernel_rfl) (gl_spec_l11Read k QQ)) (fun args m r h => match args, h with
    | [t0, t1, t2], h => ⟨rfl, (xe_spec_l11Read t0 t1 t2 m).trans h⟩)
theorem ok_C_spec_l11Read : OkC CT 144 C_spec_l11Read := rcall_ok rfl ok_X_spec_l11Read

/-! ### spec.ReadLine -/
noncomputable def cf_spec_ReadLine : CallF := cfc 119 C_spec_l1In (cfc 142 C_spec_l11Asked (cfc 143 C_spec_l11Copy (cfc 144 C_spec_l11Read cfn)))
noncomputable def X_spec_ReadLine : List Value → Mem → Option VM
  | [t0, t1, t2], m =>
    (boxX m t0) |> bo fun r1 =>
    (boxX r1.2 t1) |> bo fun r2 =>
    (alX r2.2 [.int .i64 0, .bool false, .slice none 0 0, .slice none 0 0, .slice none 0 0, .slice none 0 0, .bool false, .int .i64 0]) |> bo fun r3 =>
    (C_spec_l11Asked [r1.1, r2.1] r3.2) |> bo fun r4 =>
    (binX .neq .no r4.1 (.int .i64 0)) |> bo fun t11 =>
    brX t11
      (
        (bldX [.int .i64 0, .bool false, .slice none 0 0, .slice none 0 0, .slice none 0 0, .slice none 0 0, .bool false, .int .i64 0] [(0, 1, r4.1)]) |> bo fun t13 =>
        (stX r4.2 8 r3.1 t13) |> bo fun m7 =>
        (resP (some 8) m7 r3.1) |> bo fun c8 =>
        retK m.length m7 [t0, t1, t2] c8)
      (
        (C_spec_l1In [t2, (.int .i64 1), (.int .i64 99)] r4.2) |> bo fun r9 =>
        (uop .not r9.1) |> bo fun t16 =>
        brX t16
          (
            (bldX [.int .i64 0, .bool false, .slice none 0 0, .slice none 0 0, .slice none 0 0, .slice none 0 0, .bool false, .int .i64 0] [(0, 1, (.int .i64 3))]) |> bo fun t17 =>
            (stX r9.2 8 r3.1 t17) |> bo fun m12 =>
            (resP (some 8) m12 r3.1) |> bo fun c13 =>
            retK m.length m12 [t0, t1, t2] c13)
          (
            (ldS r9.2 4 r2.1) |> bo fun t18 =>
            (C_spec_l11Copy [t18] r9.2) |> bo fun r15 =>
            (fadX 0 r2.1) |> bo fun t20 =>
            (ld1 r15.2 t20) |> bo fun t21 =>
            (lenX t21) |> bo fun t22 =>
            (binX .gtr .no t22 (.int .i64 0)) |> bo fun t23 =>
            (bldX [.int .i64 0, .bool false, .slice none 0 0, .slice none 0 0, .slice none 0 0, .slice none 0 0, .bool false, .int .i64 0] [(4, 4, r15.1), (1, 1, t23)]) |> bo fun t24 =>
            (alX r15.2 [.int .i64 0, .bool false, .slice none 0 0, .slice none 0 0, .slice none 0 0, .slice none 0 0, .bool false, .int .i64 0]) |> bo fun r21 =>
            (stX r21.2 8 r21.1 t24) |> bo fun m22 =>
            gP (stbL [((rdN t20), r9.2, r15.2)])
              (
                (fadX 4 r21.1) |> bo fun t25 =>
                (C_spec_l11Read [r1.1, t25, t2] m22) |> bo fun r24 =>
                (fadX 2 r21.1) |> bo fun t28 =>
                (stX r24.2 1 t28 r24.1) |> bo fun m26 =>
                (ldS m26 8 r21.1) |> bo fun t29 =>
                (stX m26 8 r3.1 t29) |> bo fun m28 =>
                (resP (some 8) m28 r3.1) |> bo fun c29 =>
                retK m.length m28 [t0, t1, t2] c29)))
  | _, _ => none
noncomputable def C_spec_ReadLine : List Value → Mem → Option VM := ncall X_spec_ReadLine
@[simp] theorem c_spec_ReadLine : C_spec_ReadLine = ncall X_spec_ReadLine := (rfl)
theorem cok_spec_ReadLine : codeOk CT Try.f70 (Try.f70.body.get rfl) = true := by kernel_rfl
theorem xe_spec_ReadLine (t0 t1 t2 : Value) (m : Mem) : ex CT cf_spec_ReadLine Try.f70 3 m.length [] (fun _ _ _ => none) 400 [.code (Try.f70.body.get rfl)] (argsT 0 [t0, t1, t2]) m = X_spec_ReadLine [t0, t1, t2] m := by kernel_rfl
theorem okc_spec_ReadLine : CallOK CT cf_spec_ReadLine := cfc_ok ok_C_spec_l1In (cfc_ok ok_C_spec_l11Asked (cfc_ok ok_C_spec_l11Copy (cfc_ok ok_C_spec_l11Read cfn_ok)))
theorem ok_X_spec_ReadLine : OkX CT 70 X_spec_ReadLine := OkX.of_ex (cf := cf_spec_ReadLine) (np := 3) (LL := []) (J := (fun _ _ _ _ => none)) CT_ok rfl Try.func70 rfl (Nat.le_of_ble_eq_true rfl) (by decide) cok_spec_ReadLine okc_spec_ReadLine (fun k => noLoops rfl) (fun args m r h => match args, h with
    | [t0, t1, t2], h => ⟨rfl, (xe_spec_ReadLine t0 t1 t2 m).trans h⟩)
theorem ok_C_spec_ReadLine : OkC CT 70 C_spec_ReadLine := ncall_ok rfl ok_X_spec_ReadLine

/-! ### laws.toWay -/
noncomputable def cf_laws_toWay : CallF := cfn
noncomputable def X_laws_toWay : List Value → Mem → Option VM
  | [t0], m =>
    (boxX m t0) |> bo fun r1 =>
    (alX r1.2 [.int .i64 0, .int .i64 0, .int .i64 0, .int .i64 0, .int .i64 0, .int .i64 0, .int .i64 0]) |> bo fun r2 =>
    (alX r2.2 [.int .i64 0, .int .i64 0, .int .i64 0, .int .i64 0, .int .i64 0, .int .i64 0, .int .i64 0]) |> bo fun r3 =>
    (fadX 0 r1.1) |> bo fun t4 =>
    (ld1 r3.2 t4) |> bo fun t5 =>
    (fadX 0 r3.1) |> bo fun t6 =>
    (stX r3.2 1 t6 t5) |> bo fun m7 =>
    (fadX 1 r1.1) |> bo fun t7 =>
    (ld1 m7 t7) |> bo fun t8 =>
    (fadX 1 r3.1) |> bo fun t9 =>
    (stX m7 1 t9 t8) |> bo fun m11 =>
    (fadX 2 r1.1) |> bo fun t10 =>
    (ld1 m11 t10) |> bo fun t11 =>
    (fadX 2 r3.1) |> bo fun t12 =>
    (stX m11 1 t12 t11) |> bo fun m15 =>
    (fadX 3 r1.1) |> bo fun t13 =>
    (ld1 m15 t13) |> bo fun t14 =>
    (fadX 3 r3.1) |> bo fun t15 =>
    (stX m15 1 t15 t14) |> bo fun m19 =>
    (fadX 4 r1.1) |> bo fun t16 =>
    (ld1 m19 t16) |> bo fun t17 =>
    (fadX 4 r3.1) |> bo fun t18 =>
    (stX m19 1 t18 t17) |> bo fun m23 =>
    (fadX 5 r1.1) |> bo fun t19 =>
    (ld1 m23 t19) |> bo fun t20 =>
    (fadX 5 r3.1) |> bo fun t21 =>
    (stX m23 1 t21 t20) |> bo fun m27 =>
    (fadX 6 r1.1) |> bo fun t22 =>
    (ld1 m27 t22) |> bo fun t23 =>
    (fadX 6 r3.1) |> bo fun t24 =>
    (stX m27 1 t24 t23) |> bo fun m31 =>
    (ldS m31 7 r3.1) |> bo fun t25 =>
    (stX m31 7 r2.1 t25) |> bo fun m33 =>
    (resP (some 7) m33 r2.1) |> bo fun c34 =>
    retK m.length m33 [t0] c34
  | _, _ => none
noncomputable def C_laws_toWay : List Value → Mem → Option VM := fcall X_laws_toWay
@[simp] theorem c_laws_toWay : C_laws_toWay = fcall X_laws_toWay := (rfl)
theorem cok_laws_toWay : codeOk CT Try.f71 (Try.f71.body.get rfl) = true := by kernel_rfl
theorem xe_laws_toWay (t0 : Value) (m : Mem) : ex CT cf_laws_toWay Try.f71 1 m.length [] (fun _ _ _ => none) 400 [.code (Try.f71.body.get rfl)] (argsT 0 [t0]) m = X_laws_toWay [t0] m := by kernel_rfl
theorem okc_laws_toWay : CallOK CT cf_laws_toWay := cfn_ok
theorem ok_X_laws_toWay : OkX CT 71 X_laws_toWay := OkX.of_ex (cf := cf_laws_toWay) (np := 1) (LL := []) (J := (fun _ _ _ _ => none)) CT_ok rfl Try.func71 rfl (Nat.le_of_ble_eq_true rfl) (by decide) cok_laws_toWay okc_laws_toWay (fun k => noLoops rfl) (fun args m r h => match args, h with
    | [t0], h => ⟨rfl, (xe_laws_toWay t0 m).trans h⟩)
theorem ok_C_laws_toWay : OkC CT 71 C_laws_toWay := fcall_ok rfl ok_X_laws_toWay

/-! ### laws.toByteS -/
noncomputable def cf_laws_toByteS : CallF := cfn
noncomputable def L_laws_toByteS (k : Nat) : Nat → Nat → List Value → Mem → Option VM
  | q + 1, 0, [t0, t3, t4], m =>
    (lenX t0) |> bo fun t10 =>
    (binX .lss .no t4 t10) |> bo fun t11 =>
    brX t11
      (
        (ixaX 1 t0 t4) |> bo fun t18 =>
        (ld1 m t18) |> bo fun t19 =>
        (ixaX 1 t3 t4) |> bo fun t20 =>
        (stX m 1 t20 t19) |> bo fun m6 =>
        (binX .add .no t4 (.int .i64 1)) |> bo fun t13 =>
        cutK k m6 [t0] [t0, t3, t13] (L_laws_toByteS k q 0))
      (
        retK k m [t0] t3)
  | _, _, _, _ => none
noncomputable def J_laws_toByteS (k q l : Nat) : List Value → Mem → Option VM := cond (Nat.beq l 3) (L_laws_toByteS k q 0) (fun _ _ => none)
def LL_laws_toByteS : List (Nat × List Tmp) := [(3, [0, 3, 4])]
noncomputable def X_laws_toByteS : List Value → Mem → Option VM
  | [t0], m =>
    (lenX t0) |> bo fun t6 =>
    (mkX m 1 1 [.int .u8 0] t6 t6) |> bo fun r2 =>
    cutK m.length r2.2 [t0] [t0, r2.1, (.int .i64 0)] (L_laws_toByteS m.length QQ 0)
  | _, _ => none
noncomputable def C_laws_toByteS : List Value → Mem → Option VM := fcall X_laws_toByteS
@[simp] theorem c_laws_toByteS : C_laws_toByteS = fcall X_laws_toByteS := (rfl)
theorem cok_laws_toByteS : codeOk CT Try.f137 (Try.f137.body.get rfl) = true := by kernel_rfl
theorem xe_laws_toByteS (t0 : Value) (m : Mem) : ex CT cf_laws_toByteS Try.f137 1 m.length LL_laws_toByteS (J_laws_toByteS m.length QQ) 400 [.code (Try.f137.body.get rfl)] (argsT 0 [t0]) m = X_laws_toByteS [t0] m := by kernel_rfl
theorem okc_laws_toByteS : CallOK CT cf_laws_toByteS := cfn_ok
theorem le_laws_toByteS_0 (k q : Nat) (t0 t3 t4 : Value) (m : Mem) : ex CT cf_laws_toByteS Try.f137 1 k LL_laws_toByteS (J_laws_toByteS k q) 400 (atLoop Try.f137 0) [(0, t0), (3, t3), (4, t4)] m = J_laws_toByteS k (q + 1) 3 [t0, t3, t4] m := by kernel_rfl
theorem gl_laws_toByteS (k : Nat) : ∀ q i, i < 1 → GoodL CT k Try.f137 LL_laws_toByteS (J_laws_toByteS k q) (atLoop Try.f137 i)
  | 0, 0, _ => goodL_zero (l := 3) (by kernel_rfl) (fun vs m => by kernel_rfl)
  | 0, _ + 1, h => absurd h (by omega)
  | q + 1, 0, _ => goodL_succ (np := 1) (l := 3) (live := [0, 3, 4]) (n := 1) CT_ok rfl okc_laws_toByteS (c := (Try.f137.body.get rfl)) rfl cok_laws_toByteS (by kernel_rfl) (gl_laws_toByteS k q) (by kernel_rfl) rfl (fun vs m r hl h => match vs, hl with
    | [t0, t3, t4], _ => (le_laws_toByteS_0 k q t0 t3 t4 m).trans h)
  | _ + 1, _ + 1, h => absurd h (by omega)
theorem ok_X_laws_toByteS : OkX CT 137 X_laws_toByteS := OkX.of_ex (cf := cf_laws_toByteS) (np := 1) (LL := LL_laws_toByteS) (J := (fun k => J_laws_toByteS k QQ)) CT_ok rfl Try.func137 rfl (Nat.le_of_ble_eq_true rfl) (by decide) cok_laws_toByteS okc_laws_toByteS (fun k => allLoops rfl (by kernel_rfl) (gl_laws_toByteS k QQ)) (fun args m r h => match args, h with
    | [t0], h => ⟨rfl, (xe_laws_toByteS t0 m).trans h⟩)
theorem ok_C_laws_toByteS : OkC CT 137 C_laws_toByteS := fcall_ok rfl ok_X_laws_toByteS

/-! ### laws.toByteSS -/
noncomputable def cf_laws_toByteSS : CallF := cfc 137 C_laws_toByteS cfn
noncomputable def L_laws_toByteSS (k : Nat) : Nat → Nat → List Value → Mem → Option VM
  | q + 1, 0, [t0, t3, t4], m =>
    (lenX t0) |> bo fun t10 =>
    (binX .lss .no t4 t10) |> bo fun t11 =>
    brX t11
      (
        (ixaX 1 t0 t4) |> bo fun t18 =>
        (ld1 m t18) |> bo fun t19 =>
        (C_laws_toByteS [t19] m) |> bo fun r5 =>
        (ixaX 1 t3 t4) |> bo fun t21 =>
        (stX r5.2 1 t21 r5.1) |> bo fun m7 =>
        (binX .add .no t4 (.int .i64 1)) |> bo fun t13 =>
        cutK k m7 [t0] [t0, t3, t13] (L_laws_toByteSS k q 0))
      (
        retK k m [t0] t3)
  | _, _, _, _ => none
noncomputable def J_laws_toByteSS (k q l : Nat) : List Value → Mem → Option VM := cond (Nat.beq l 3) (L_laws_toByteSS k q 0) (fun _ _ => none)
def LL_laws_toByteSS : List (Nat × List Tmp) := [(3, [0, 3, 4])]
noncomputable def X_laws_toByteSS : List Value → Mem → Option VM
  | [t0], m =>
    (lenX t0) |> bo fun t6 =>
    (mkX m 1 24 [.slice none 0 0] t6 t6) |> bo fun r2 =>
    cutK m.length r2.2 [t0] [t0, r2.1, (.int .i64 0)] (L_laws_toByteSS m.length QQ 0)
  | _, _ => none
noncomputable def C_laws_toByteSS : List Value → Mem → Option VM := fcall X_laws_toByteSS
@[simp] theorem c_laws_toByteSS : C_laws_toByteSS = fcall X_laws_toByteSS := (rfl)
theorem cok_laws_toByteSS : codeOk CT Try.f55 (Try.f55.body.get rfl) = true := by kernel_rfl
theorem xe_laws_toByteSS (t0 : Value) (m : Mem) : ex CT cf_laws_toByteSS Try.f55 1 m.length LL_laws_toByteSS (J_laws_toByteSS m.length QQ) 400 [.code (Try.f55.body.get rfl)] (argsT 0 [t0]) m = X_laws_toByteSS [t0] m := by kernel_rfl
theorem okc_laws_toByteSS : CallOK CT cf_laws_toByteSS := cfc_ok ok_C_laws_toByteS cfn_ok
theorem le_laws_toByteSS_0 (k q : Nat) (t0 t3 t4 : Value) (m : Mem) : ex CT cf_laws_toByteSS Try.f55 1 k LL_laws_toByteSS (J_laws_toByteSS k q) 400 (atLoop Try.f55 0) [(0, t0), (3, t3), (4, t4)] m = J_laws_toByteSS k (q + 1) 3 [t0, t3, t4] m := by kernel_rfl
theorem gl_laws_toByteSS (k : Nat) : ∀ q i, i < 1 → GoodL CT k Try.f55 LL_laws_toByteSS (J_laws_toByteSS k q) (atLoop Try.f55 i)
  | 0, 0, _ => goodL_zero (l := 3) (by kernel_rfl) (fun vs m => by kernel_rfl)
  | 0, _ + 1, h => absurd h (by omega)
  | q + 1, 0, _ => goodL_succ (np := 1) (l := 3) (live := [0, 3, 4]) (n := 1) CT_ok rfl okc_laws_toByteSS (c := (Try.f55.body.get rfl)) rfl cok_laws_toByteSS (by kernel_rfl) (gl_laws_toByteSS k q) (by kernel_rfl) rfl (fun vs m r hl h => match vs, hl with
    | [t0, t3, t4], _ => (le_laws_toByteSS_0 k q t0 t3 t4 m).trans h)
  | _ + 1, _ + 1, h => absurd h (by omega)
theorem ok_X_laws_toByteSS : OkX CT 55 X_laws_toByteSS := OkX.of_ex (cf := cf_laws_toByteSS) (np := 1) (LL := LL_laws_toByteSS) (J := (fun k => J_laws_toByteSS k QQ)) CT_ok rfl Try.func55 rfl (Nat.le_of_ble_eq_true rfl) (by decide) cok_laws_toByteSS okc_laws_toByteSS (fun k => allLoops rfl (by kernel_rfl) (gl_laws_toByteSS k QQ)) (fun args m r h => match args, h with
    | [t0], h => ⟨rfl, (xe_laws_toByteSS t0 m).trans h⟩)
theorem ok_C_laws_toByteSS : OkC CT 55 C_laws_toByteSS := fcall_ok rfl ok_X_laws_toByteSS

/-! ### laws.toLine -/
noncomputable def cf_laws_toLine : CallF := cfc 55 C_laws_toByteSS (cfc 137 C_laws_toByteS cfn)
noncomputable def X_laws_toLine : List Value → Mem → Option VM
  | [t0], m =>
    (boxX m t0) |> bo fun r1 =>
    (alX r1.2 [.slice none 0 0, .slice none 0 0, .bool false, .int .i64 0]) |> bo fun r2 =>
    (alX r2.2 [.slice none 0 0, .slice none 0 0, .bool false, .int .i64 0]) |> bo fun r3 =>
    (fadX 0 r1.1) |> bo fun t4 =>
    (ld1 r3.2 t4) |> bo fun t5 =>
    (C_laws_toByteSS [t5] r3.2) |> bo fun r6 =>
    (fadX 0 r3.1) |> bo fun t7 =>
    (stX r6.2 1 t7 r6.1) |> bo fun m8 =>
    (fadX 1 r1.1) |> bo fun t8 =>
    (ld1 m8 t8) |> bo fun t9 =>
    (C_laws_toByteS [t9] m8) |> bo fun r11 =>
    (fadX 1 r3.1) |> bo fun t11 =>
    (stX r11.2 1 t11 r11.1) |> bo fun m13 =>
    (fadX 2 r1.1) |> bo fun t12 =>
    (ld1 m13 t12) |> bo fun t13 =>
    (fadX 2 r3.1) |> bo fun t14 =>
    (stX m13 1 t14 t13) |> bo fun m17 =>
    (fadX 3 r1.1) |> bo fun t15 =>
    (ld1 m17 t15) |> bo fun t16 =>
    (fadX 3 r3.1) |> bo fun t17 =>
    (stX m17 1 t17 t16) |> bo fun m21 =>
    (ldS m21 4 r3.1) |> bo fun t18 =>
    (stX m21 4 r2.1 t18) |> bo fun m23 =>
    (resP (some 4) m23 r2.1) |> bo fun c24 =>
    retK m.length m23 [t0] c24
  | _, _ => none
noncomputable def C_laws_toLine : List Value → Mem → Option VM := fcall X_laws_toLine
@[simp] theorem c_laws_toLine : C_laws_toLine = fcall X_laws_toLine := (rfl)
theorem cok_laws_toLine : codeOk CT Try.f72 (Try.f72.body.get rfl) = true := by kernel_rfl
theorem xe_laws_toLine (t0 : Value) (m : Mem) : ex CT cf_laws_toLine Try.f72 1 m.length [] (fun _ _ _ => none) 400 [.code (Try.f72.body.get rfl)] (argsT 0 [t0]) m = X_laws_toLine [t0] m := by kernel_rfl
theorem okc_laws_toLine : CallOK CT cf_laws_toLine := cfc_ok ok_C_laws_toByteSS (cfc_ok ok_C_laws_toByteS cfn_ok)
theorem ok_X_laws_toLine : OkX CT 72 X_laws_toLine := OkX.of_ex (cf := cf_laws_toLine) (np := 1) (LL := []) (J := (fun _ _ _ _ => none)) CT_ok rfl Try.func72 rfl (Nat.le_of_ble_eq_true rfl) (by decide) cok_laws_toLine okc_laws_toLine (fun k => noLoops rfl) (fun args m r h => match args, h with
    | [t0], h => ⟨rfl, (xe_laws_toLine t0 m).trans h⟩)
theorem ok_C_laws_toLine : OkC CT 72 C_laws_toLine := fcall_ok rfl ok_X_laws_toLine

/-! ### impl.first -/
noncomputable def cf_impl_first : CallF := cfn
noncomputable def L_impl_first (k : Nat) : Nat → Nat → List Value → Mem → Option VM
  | q + 1, 0, [t5, t6, t7], m =>
    (binX .lss .no t7 t6) |> bo fun t8 =>
    brX t8
      (
        (ixaX 1 t5 t7) |> bo fun t9 =>
        (ld1 m t9) |> bo fun t10 =>
        (binX .neq .no t10 (.int .i64 0)) |> bo fun t12 =>
        brX t12
          (
            retK k m [] t10)
          (
            (binX .add .no t7 (.int .i64 1)) |> bo fun t14 =>
            cutK k m [] [t5, t6, t14] (L_impl_first k q 0)))
      (
        retK k m [] (.int .i64 0))
  | _, _, _, _ => none
noncomputable def J_impl_first (k q l : Nat) : List Value → Mem → Option VM := cond (Nat.beq l 2) (L_impl_first k q 0) (fun _ _ => none)
def LL_impl_first : List (Nat × List Tmp) := [(2, [5, 6, 7])]
noncomputable def X_impl_first : List Value → Mem → Option VM
  | [t0], m =>
    (lenX t0) |> bo fun t6 =>
    cutK m.length m [t0] [t0, t6, (.int .i64 0)] (L_impl_first m.length QQ 0)
  | _, _ => none
noncomputable def C_impl_first : List Value → Mem → Option VM := fcall X_impl_first
@[simp] theorem c_impl_first : C_impl_first = fcall X_impl_first := (rfl)
theorem cok_impl_first : codeOk CT Try.f88 (Try.f88.body.get rfl) = true := by kernel_rfl
theorem xe_impl_first (t0 : Value) (m : Mem) : ex CT cf_impl_first Try.f88 1 m.length LL_impl_first (J_impl_first m.length QQ) 400 [.code (Try.f88.body.get rfl)] (argsT 0 [t0]) m = X_impl_first [t0] m := by kernel_rfl
theorem okc_impl_first : CallOK CT cf_impl_first := cfn_ok
theorem le_impl_first_0 (k q : Nat) (t5 t6 t7 : Value) (m : Mem) : ex CT cf_impl_first Try.f88 1 k LL_impl_first (J_impl_first k q) 400 (atLoop Try.f88 0) [(5, t5), (6, t6), (7, t7)] m = J_impl_first k (q + 1) 2 [t5, t6, t7] m := by kernel_rfl
theorem gl_impl_first (k : Nat) : ∀ q i, i < 1 → GoodL CT k Try.f88 LL_impl_first (J_impl_first k q) (atLoop Try.f88 i)
  | 0, 0, _ => goodL_zero (l := 2) (by kernel_rfl) (fun vs m => by kernel_rfl)
  | 0, _ + 1, h => absurd h (by omega)
  | q + 1, 0, _ => goodL_succ (np := 1) (l := 2) (live := [5, 6, 7]) (n := 1) CT_ok rfl okc_impl_first (c := (Try.f88.body.get rfl)) rfl cok_impl_first (by kernel_rfl) (gl_impl_first k q) (by kernel_rfl) rfl (fun vs m r hl h => match vs, hl with
    | [t5, t6, t7], _ => (le_impl_first_0 k q t5 t6 t7 m).trans h)
  | _ + 1, _ + 1, h => absurd h (by omega)
theorem ok_X_impl_first : OkX CT 88 X_impl_first := OkX.of_ex (cf := cf_impl_first) (np := 1) (LL := LL_impl_first) (J := (fun k => J_impl_first k QQ)) CT_ok rfl Try.func88 rfl (Nat.le_of_ble_eq_true rfl) (by decide) cok_impl_first okc_impl_first (fun k => allLoops rfl (by kernel_rfl) (gl_impl_first k QQ)) (fun args m r h => match args, h with
    | [t0], h => ⟨rfl, (xe_impl_first t0 m).trans h⟩)
theorem ok_C_impl_first : OkC CT 88 C_impl_first := fcall_ok rfl ok_X_impl_first

/-! ### impl.unless -/
noncomputable def cf_impl_unless : CallF := cfn
noncomputable def X_impl_unless : List Value → Mem → Option VM
  | [t0, t1], m =>
    brX t0
      (
        retK m.length m [t0, t1] (.int .i64 0))
      (
        retK m.length m [t0, t1] t1)
  | _, _ => none
noncomputable def C_impl_unless : List Value → Mem → Option VM := fcall X_impl_unless
@[simp] theorem c_impl_unless : C_impl_unless = fcall X_impl_unless := (rfl)
theorem cok_impl_unless : codeOk CT Try.f89 (Try.f89.body.get rfl) = true := by kernel_rfl
theorem xe_impl_unless (t0 t1 : Value) (m : Mem) : ex CT cf_impl_unless Try.f89 2 m.length [] (fun _ _ _ => none) 400 [.code (Try.f89.body.get rfl)] (argsT 0 [t0, t1]) m = X_impl_unless [t0, t1] m := by kernel_rfl
theorem okc_impl_unless : CallOK CT cf_impl_unless := cfn_ok
theorem ok_X_impl_unless : OkX CT 89 X_impl_unless := OkX.of_ex (cf := cf_impl_unless) (np := 2) (LL := []) (J := (fun _ _ _ _ => none)) CT_ok rfl Try.func89 rfl (Nat.le_of_ble_eq_true rfl) (by decide) cok_impl_unless okc_impl_unless (fun k => noLoops rfl) (fun args m r h => match args, h with
    | [t0, t1], h => ⟨rfl, (xe_impl_unless t0 t1 m).trans h⟩)
theorem ok_C_impl_unless : OkC CT 89 C_impl_unless := fcall_ok rfl ok_X_impl_unless

/-! ### impl.in -/
noncomputable def cf_impl_in : CallF := cfn
noncomputable def X_impl_in : List Value → Mem → Option VM
  | [t0, t1, t2], m =>
    (binX .leq .no t1 t0) |> bo fun t9 =>
    (gd t9 true (some (t0, m)) m) |> bo fun r2 =>
    (gd t9 true (some (t2, r2.2)) r2.2) |> bo fun r3 =>
    (gd t9 true ((binX .leq .no r2.1 r3.1) |> bo fun v => some (v, r3.2)) r3.2) |> bo fun r4 =>
    (pickX t9 r4.1 (.bool false)) |> bo fun t14 =>
    retK m.length r4.2 [t0, t1, t2] t14
  | _, _ => none
noncomputable def C_impl_in : List Value → Mem → Option VM := fcall X_impl_in
@[simp] theorem c_impl_in : C_impl_in = fcall X_impl_in := (rfl)
theorem cok_impl_in : codeOk CT Try.f99 (Try.f99.body.get rfl) = true := by kernel_rfl
theorem xe_impl_in (t0 t1 t2 : Value) (m : Mem) : ex CT cf_impl_in Try.f99 3 m.length [] (fun _ _ _ => none) 400 [.code (Try.f99.body.get rfl)] (argsT 0 [t0, t1, t2]) m = X_impl_in [t0, t1, t2] m := by kernel_rfl
theorem okc_impl_in : CallOK CT cf_impl_in := cfn_ok
theorem ok_X_impl_in : OkX CT 99 X_impl_in := OkX.of_ex (cf := cf_impl_in) (np := 3) (LL := []) (J := (fun _ _ _ _ => none)) CT_ok rfl Try.func99 rfl (Nat.le_of_ble_eq_true rfl) (by decide) cok_impl_in okc_impl_in (fun k => noLoops rfl) (fun args m r h => match args, h with
    | [t0, t1, t2], h => ⟨rfl, (xe_impl_in t0 t1 t2 m).trans h⟩)
theorem ok_C_impl_in : OkC CT 99 C_impl_in := fcall_ok rfl ok_X_impl_in

/-! ### (impl.Line).size -/
noncomputable def cf_impl_Line_size : CallF := cfn
noncomputable def L_impl_Line_size (k : Nat) : Nat → Nat → List Value → Mem → Option VM
  | q + 1, 0, [t3, t10, t11, t12], m =>
    (binX .lss .no t12 t11) |> bo fun t13 =>
    brX t13
      (
        (ixaX 1 t10 t12) |> bo fun t14 =>
        (ld1 m t14) |> bo fun t15 =>
        (lenX t15) |> bo fun t18 =>
        (binX .add .no t3 t18) |> bo fun t19 =>
        (binX .add .no t12 (.int .i64 1)) |> bo fun t20 =>
        cutK k m [] [t19, t10, t11, t20] (L_impl_Line_size k q 0))
      (
        retK k m [] t3)
  | _, _, _, _ => none
noncomputable def J_impl_Line_size (k q l : Nat) : List Value → Mem → Option VM := cond (Nat.beq l 3) (L_impl_Line_size k q 0) (fun _ _ => none)
def LL_impl_Line_size : List (Nat × List Tmp) := [(3, [3, 10, 11, 12])]
noncomputable def X_impl_Line_size : List Value → Mem → Option VM
  | [t0], m =>
    (boxX m t0) |> bo fun r1 =>
    (fadX 1 r1.1) |> bo fun t6 =>
    (ld1 r1.2 t6) |> bo fun t7 =>
    (lenX t7) |> bo fun t8 =>
    (fadX 0 r1.1) |> bo fun t9 =>
    (ld1 r1.2 t9) |> bo fun t10 =>
    (lenX t10) |> bo fun t11 =>
    cutK m.length r1.2 [t0] [t8, t10, t11, (.int .i64 0)] (L_impl_Line_size m.length QQ 0)
  | _, _ => none
noncomputable def C_impl_Line_size : List Value → Mem → Option VM := fcall X_impl_Line_size
@[simp] theorem c_impl_Line_size : C_impl_Line_size = fcall X_impl_Line_size := (rfl)
theorem cok_impl_Line_size : codeOk CT Try.f151 (Try.f151.body.get rfl) = true := by kernel_rfl
theorem xe_impl_Line_size (t0 : Value) (m : Mem) : ex CT cf_impl_Line_size Try.f151 1 m.length LL_impl_Line_size (J_impl_Line_size m.length QQ) 400 [.code (Try.f151.body.get rfl)] (argsT 0 [t0]) m = X_impl_Line_size [t0] m := by kernel_rfl
theorem okc_impl_Line_size : CallOK CT cf_impl_Line_size := cfn_ok
theorem le_impl_Line_size_0 (k q : Nat) (t3 t10 t11 t12 : Value) (m : Mem) : ex CT cf_impl_Line_size Try.f151 1 k LL_impl_Line_size (J_impl_Line_size k q) 400 (atLoop Try.f151 0) [(3, t3), (10, t10), (11, t11), (12, t12)] m = J_impl_Line_size k (q + 1) 3 [t3, t10, t11, t12] m := by kernel_rfl
theorem gl_impl_Line_size (k : Nat) : ∀ q i, i < 1 → GoodL CT k Try.f151 LL_impl_Line_size (J_impl_Line_size k q) (atLoop Try.f151 i)
  | 0, 0, _ => goodL_zero (l := 3) (by kernel_rfl) (fun vs m => by kernel_rfl)
  | 0, _ + 1, h => absurd h (by omega)
  | q + 1, 0, _ => goodL_succ (np := 1) (l := 3) (live := [3, 10, 11, 12]) (n := 1) CT_ok rfl okc_impl_Line_size (c := (Try.f151.body.get rfl)) rfl cok_impl_Line_size (by kernel_rfl) (gl_impl_Line_size k q) (by kernel_rfl) rfl (fun vs m r hl h => match vs, hl with
    | [t3, t10, t11, t12], _ => (le_impl_Line_size_0 k q t3 t10 t11 t12 m).trans h)
  | _ + 1, _ + 1, h => absurd h (by omega)
theorem ok_X_impl_Line_size : OkX CT 151 X_impl_Line_size := OkX.of_ex (cf := cf_impl_Line_size) (np := 1) (LL := LL_impl_Line_size) (J := (fun k => J_impl_Line_size k QQ)) CT_ok rfl Try.func151 rfl (Nat.le_of_ble_eq_true rfl) (by decide) cok_impl_Line_size okc_impl_Line_size (fun k => allLoops rfl (by kernel_rfl) (gl_impl_Line_size k QQ)) (fun args m r h => match args, h with
    | [t0], h => ⟨rfl, (xe_impl_Line_size t0 m).trans h⟩)
theorem ok_C_impl_Line_size : OkC CT 151 C_impl_Line_size := fcall_ok rfl ok_X_impl_Line_size

/-! ### impl.LineFault -/
noncomputable def cf_impl_LineFault : CallF := cfc 88 C_impl_first (cfc 89 C_impl_unless (cfc 99 C_impl_in (cfc 151 C_impl_Line_size cfn)))
noncomputable def X_impl_LineFault : List Value → Mem → Option VM
  | [t0], m =>
    (boxX m t0) |> bo fun r1 =>
    (fadX 0 r1.1) |> bo fun t3 =>
    (ld1 r1.2 t3) |> bo fun t4 =>
    (lenX t4) |> bo fun t5 =>
    (binX .leq .no t5 (.int .i64 40)) |> bo fun t6 =>
    (gd t6 true ((ldS r1.2 4 r1.1) |> bo fun v => some (v, r1.2)) r1.2) |> bo fun r6 =>
    (gd t6 true ((C_impl_Line_size [r6.1] r6.2) |> bo fun r => some (r.1, r.2)) r6.2) |> bo fun r7 =>
    (gd t6 true ((binX .leq .no r7.1 (.int .i64 40)) |> bo fun v => some (v, r7.2)) r7.2) |> bo fun r8 =>
    (pickX t6 r8.1 (.bool false)) |> bo fun t11 =>
    (C_impl_unless [t11, (.int .i64 2)] r8.2) |> bo fun r10 =>
    (fadX 3 r1.1) |> bo fun t13 =>
    (ld1 r10.2 t13) |> bo fun t14 =>
    (C_impl_in [t14, (.int .i64 0), (.int .i64 999)] r10.2) |> bo fun r13 =>
    (C_impl_unless [r13.1, (.int .i64 3)] r13.2) |> bo fun r14 =>
    (bslX r14.2 2 1 [.int .i64 0] [(0, 1, r10.1), (1, 1, r14.1)]) |> bo fun r15 =>
    (C_impl_first [r15.1] r15.2) |> bo fun r16 =>
    gP (stbL [((rdN t13), r6.2, r7.2), ((rdN t13), r8.2, r10.2)])
      (
        retK m.length r16.2 [t0] r16.1)
  | _, _ => none
noncomputable def C_impl_LineFault : List Value → Mem → Option VM := fcall X_impl_LineFault
@[simp] theorem c_impl_LineFault : C_impl_LineFault = fcall X_impl_LineFault := (rfl)
theorem cok_impl_LineFault : codeOk CT Try.f82 (Try.f82.body.get rfl) = true := by kernel_rfl
theorem xe_impl_LineFault (t0 : Value) (m : Mem) : ex CT cf_impl_LineFault Try.f82 1 m.length [] (fun _ _ _ => none) 400 [.code (Try.f82.body.get rfl)] (argsT 0 [t0]) m = X_impl_LineFault [t0] m := by kernel_rfl
theorem okc_impl_LineFault : CallOK CT cf_impl_LineFault := cfc_ok ok_C_impl_first (cfc_ok ok_C_impl_unless (cfc_ok ok_C_impl_in (cfc_ok ok_C_impl_Line_size cfn_ok)))
theorem ok_X_impl_LineFault : OkX CT 82 X_impl_LineFault := OkX.of_ex (cf := cf_impl_LineFault) (np := 1) (LL := []) (J := (fun _ _ _ _ => none)) CT_ok rfl Try.func82 rfl (Nat.le_of_ble_eq_true rfl) (by decide) cok_impl_LineFault okc_impl_LineFault (fun k => noLoops rfl) (fun args m r h => match args, h with
    | [t0], h => ⟨rfl, (xe_impl_LineFault t0 m).trans h⟩)
theorem ok_C_impl_LineFault : OkC CT 82 C_impl_LineFault := fcall_ok rfl ok_X_impl_LineFault

/-! ### (impl.Way).numbers -/
noncomputable def cf_impl_Way_numbers : CallF := cfn
noncomputable def X_impl_Way_numbers : List Value → Mem → Option VM
  | [t0], m =>
    (boxX m t0) |> bo fun r1 =>
    (fadX 0 r1.1) |> bo fun t3 =>
    (ld1 r1.2 t3) |> bo fun t4 =>
    (fadX 1 r1.1) |> bo fun t5 =>
    (ld1 r1.2 t5) |> bo fun t6 =>
    (fadX 2 r1.1) |> bo fun t7 =>
    (ld1 r1.2 t7) |> bo fun t8 =>
    (fadX 3 r1.1) |> bo fun t9 =>
    (ld1 r1.2 t9) |> bo fun t10 =>
    (fadX 4 r1.1) |> bo fun t11 =>
    (ld1 r1.2 t11) |> bo fun t12 =>
    (fadX 5 r1.1) |> bo fun t13 =>
    (ld1 r1.2 t13) |> bo fun t14 =>
    (fadX 6 r1.1) |> bo fun t15 =>
    (ld1 r1.2 t15) |> bo fun t16 =>
    (bslX r1.2 7 1 [.int .i64 0] [(0, 1, t4), (1, 1, t6), (2, 1, t8), (3, 1, t10), (4, 1, t12), (5, 1, t14), (6, 1, t16)]) |> bo fun r16 =>
    retK m.length r16.2 [t0] r16.1
  | _, _ => none
noncomputable def C_impl_Way_numbers : List Value → Mem → Option VM := fcall X_impl_Way_numbers
@[simp] theorem c_impl_Way_numbers : C_impl_Way_numbers = fcall X_impl_Way_numbers := (rfl)
theorem cok_impl_Way_numbers : codeOk CT Try.f178 (Try.f178.body.get rfl) = true := by kernel_rfl
theorem xe_impl_Way_numbers (t0 : Value) (m : Mem) : ex CT cf_impl_Way_numbers Try.f178 1 m.length [] (fun _ _ _ => none) 400 [.code (Try.f178.body.get rfl)] (argsT 0 [t0]) m = X_impl_Way_numbers [t0] m := by kernel_rfl
theorem okc_impl_Way_numbers : CallOK CT cf_impl_Way_numbers := cfn_ok
theorem ok_X_impl_Way_numbers : OkX CT 178 X_impl_Way_numbers := OkX.of_ex (cf := cf_impl_Way_numbers) (np := 1) (LL := []) (J := (fun _ _ _ _ => none)) CT_ok rfl Try.func178 rfl (Nat.le_of_ble_eq_true rfl) (by decide) cok_impl_Way_numbers okc_impl_Way_numbers (fun k => noLoops rfl) (fun args m r h => match args, h with
    | [t0], h => ⟨rfl, (xe_impl_Way_numbers t0 m).trans h⟩)
theorem ok_C_impl_Way_numbers : OkC CT 178 C_impl_Way_numbers := fcall_ok rfl ok_X_impl_Way_numbers

/-! ### impl.WayFault -/
noncomputable def cf_impl_WayFault : CallF := cfc 99 C_impl_in (cfc 178 C_impl_Way_numbers cfn)
noncomputable def L_impl_WayFault (k : Nat) : Nat → Nat → List Value → Mem → Option VM
  | q + 1, 0, [t6, t7, t8], m =>
    (binX .lss .no t8 t7) |> bo fun t9 =>
    brX t9
      (
        (ixaX 1 t6 t8) |> bo fun t11 =>
        (ld1 m t11) |> bo fun t12 =>
        (C_impl_in [t12, (.int .i64 0), (.int .i64 255)] m) |> bo fun r4 =>
        (uop .not r4.1) |> bo fun t15 =>
        (gd t15 true (some (t8, r4.2)) r4.2) |> bo fun r6 =>
        (gd t15 true ((binX .eql .no r6.1 (.int .i64 0)) |> bo fun v => some (v, r6.2)) r6.2) |> bo fun r7 =>
        (gd t15 true (some (r7.1, r7.2)) r7.2) |> bo fun r8 =>
        (gd r8.1 true (some (t12, r8.2)) r8.2) |> bo fun r9 =>
        (gd r8.1 true ((C_impl_in [r9.1, (.int .i64 0), (.int .i64 511)] r9.2) |> bo fun r => some (r.1, r.2)) r9.2) |> bo fun r10 =>
        (gd t15 true ((pickX r8.1 r10.1 (.bool false)) |> bo fun v => some (v, r10.2)) r10.2) |> bo fun r11 =>
        (gd t15 true ((uop .not r11.1) |> bo fun v => some (v, r11.2)) r11.2) |> bo fun r12 =>
        (pickX t15 r12.1 (.bool false)) |> bo fun t24 =>
        brX t24
          (
            retK k r12.2 [] (.int .i64 3))
          (
            (binX .add .no t8 (.int .i64 1)) |> bo fun t25 =>
            cutK k r12.2 [] [t6, t7, t25] (L_impl_WayFault k q 0)))
      (
        retK k m [] (.int .i64 0))
  | _, _, _, _ => none
noncomputable def J_impl_WayFault (k q l : Nat) : List Value → Mem → Option VM := cond (Nat.beq l 2) (L_impl_WayFault k q 0) (fun _ _ => none)
def LL_impl_WayFault : List (Nat × List Tmp) := [(2, [6, 7, 8])]
noncomputable def X_impl_WayFault : List Value → Mem → Option VM
  | [t0], m =>
    (boxX m t0) |> bo fun r1 =>
    (ldS r1.2 7 r1.1) |> bo fun t5 =>
    (C_impl_Way_numbers [t5] r1.2) |> bo fun r3 =>
    (lenX r3.1) |> bo fun t7 =>
    cutK m.length r3.2 [t0] [r3.1, t7, (.int .i64 0)] (L_impl_WayFault m.length QQ 0)
  | _, _ => none
noncomputable def C_impl_WayFault : List Value → Mem → Option VM := fcall X_impl_WayFault
@[simp] theorem c_impl_WayFault : C_impl_WayFault = fcall X_impl_WayFault := (rfl)
theorem cok_impl_WayFault : codeOk CT Try.f145 (Try.f145.body.get rfl) = true := by kernel_rfl
theorem xe_impl_WayFault (t0 : Value) (m : Mem) : ex CT cf_impl_WayFault Try.f145 1 m.length LL_impl_WayFault (J_impl_WayFault m.length QQ) 400 [.code (Try.f145.body.get rfl)] (argsT 0 [t0]) m = X_impl_WayFault [t0] m := by kernel_rfl
theorem okc_impl_WayFault : CallOK CT cf_impl_WayFault := cfc_ok ok_C_impl_in (cfc_ok ok_C_impl_Way_numbers cfn_ok)
theorem le_impl_WayFault_0 (k q : Nat) (t6 t7 t8 : Value) (m : Mem) : ex CT cf_impl_WayFault Try.f145 1 k LL_impl_WayFault (J_impl_WayFault k q) 400 (atLoop Try.f145 0) [(6, t6), (7, t7), (8, t8)] m = J_impl_WayFault k (q + 1) 2 [t6, t7, t8] m := by kernel_rfl
theorem gl_impl_WayFault (k : Nat) : ∀ q i, i < 1 → GoodL CT k Try.f145 LL_impl_WayFault (J_impl_WayFault k q) (atLoop Try.f145 i)
  | 0, 0, _ => goodL_zero (l := 2) (by kernel_rfl) (fun vs m => by kernel_rfl)
  | 0, _ + 1, h => absurd h (by omega)
  | q + 1, 0, _ => goodL_succ (np := 1) (l := 2) (live := [6, 7, 8]) (n := 1) CT_ok rfl okc_impl_WayFault (c := (Try.f145.body.get rfl)) rfl cok_impl_WayFault (by kernel_rfl) (gl_impl_WayFault k q) (by kernel_rfl) rfl (fun vs m r hl h => match vs, hl with
    | [t6, t7, t8], _ => (le_impl_WayFault_0 k q t6 t7 t8 m).trans h)
  | _ + 1, _ + 1, h => absurd h (by omega)
theorem ok_X_impl_WayFault : OkX CT 145 X_impl_WayFault := OkX.of_ex (cf := cf_impl_WayFault) (np := 1) (LL := LL_impl_WayFault) (J := (fun k => J_impl_WayFault k QQ)) CT_ok rfl Try.func145 rfl (Nat.le_of_ble_eq_true rfl) (by decide) cok_impl_WayFault okc_impl_WayFault (fun k => allLoops rfl (by kernel_rfl) (gl_impl_WayFault k QQ)) (fun args m r h => match args, h with
    | [t0], h => ⟨rfl, (xe_impl_WayFault t0 m).trans h⟩)
theorem ok_C_impl_WayFault : OkC CT 145 C_impl_WayFault := fcall_ok rfl ok_X_impl_WayFault

/-! ### slices.Clone[[]byte,byte] -/
noncomputable def cf_slices_Clone_byte_byte : CallF := cfn
noncomputable def X_slices_Clone_byte_byte : List Value → Mem → Option VM
  | [t0], m =>
    (nlX .eql t0) |> bo fun t4 =>
    brX t4
      (
        retK m.length m [t0] (.slice none 0 0))
      (
        (bslX m 0 1 [.int .u8 0] []) |> bo fun r2 =>
        (apL r2.2 1 1 r2.1 t0) |> bo fun r3 =>
        retK m.length r3.2 [t0] r3.1)
  | _, _ => none
theorem cok_slices_Clone_byte_byte : codeOk CT Try.f173 (Try.f173.body.get rfl) = true := by kernel_rfl
theorem xe_slices_Clone_byte_byte (t0 : Value) (m : Mem) : ex CT cf_slices_Clone_byte_byte Try.f173 1 m.length [] (fun _ _ _ => none) 400 [.code (Try.f173.body.get rfl)] (argsT 0 [t0]) m = X_slices_Clone_byte_byte [t0] m := by kernel_rfl
theorem okc_slices_Clone_byte_byte : CallOK CT cf_slices_Clone_byte_byte := cfn_ok
theorem ok_X_slices_Clone_byte_byte : OkX CT 173 X_slices_Clone_byte_byte := OkX.of_ex (cf := cf_slices_Clone_byte_byte) (np := 1) (LL := []) (J := (fun _ _ _ _ => none)) CT_ok rfl Try.func173 rfl (Nat.le_of_ble_eq_true rfl) (by decide) cok_slices_Clone_byte_byte okc_slices_Clone_byte_byte (fun k => noLoops rfl) (fun args m r h => match args, h with
    | [t0], h => ⟨rfl, (xe_slices_Clone_byte_byte t0 m).trans h⟩)
noncomputable def C_slices_Clone_byte_byte : List Value → Mem → Option VM := cloneC 1
@[simp] theorem c_slices_Clone_byte_byte : C_slices_Clone_byte_byte = cloneC 1 := (rfl)
theorem cl0_slices_Clone_byte_byte : X_slices_Clone_byte_byte [.float .f64 0] [] = some (.slice none 0 0, []) := by simp -implicitDefEqProofs [X_slices_Clone_byte_byte, retK_eq]
theorem cl1_slices_Clone_byte_byte : X_slices_Clone_byte_byte [.float .f64 1] [] = some (.slice (some ⟨0, 0, none⟩) 0 0, [⟨[], 1, true, true⟩]) := by simp -implicitDefEqProofs [X_slices_Clone_byte_byte, retK_eq, apL_f1]
theorem cl2_slices_Clone_byte_byte (len : Nat) (cs : Array Value) (hl : len ≠ 0) (hs : cs.size = len * 1) (hk : len < 1000000000) (hh : cs.toList.all hard = true) : X_slices_Clone_byte_byte [.iface len (.agg cs)] [] = some (.slice (some ⟨0, 0, none⟩) len len, [⟨cs.toList, 1, true, true⟩]) := by
  have ha := fun m n o c => apL_agg (m := m) (sz := 1) (bytes := 1) (n := n) (o := o) (len := 0) (c := c) hs (by omega) (by omega)
  simp -implicitDefEqProofs [X_slices_Clone_byte_byte, retK_eq, ha, hl, hard_all hh]
theorem ok_C_slices_Clone_byte_byte : OkC CT 173 C_slices_Clone_byte_byte := cloneC_ok rfl ok_X_slices_Clone_byte_byte cl0_slices_Clone_byte_byte cl1_slices_Clone_byte_byte cl2_slices_Clone_byte_byte

/-! ### (impl.Line).clone -/
noncomputable def cf_impl_Line_clone : CallF := cfc 173 C_slices_Clone_byte_byte cfn
noncomputable def L_impl_Line_clone (k : Nat) : Nat → Nat → List Value → Mem → Option VM
  | q + 1, 0, [t1, t2, t3, t8, t9, t10], m =>
    (binX .lss .no t10 t9) |> bo fun t11 =>
    brX t11
      (
        (ixaX 1 t8 t10) |> bo fun t12 =>
        (ld1 m t12) |> bo fun t13 =>
        (C_slices_Clone_byte_byte [t13] m) |> bo fun r4 =>
        (bslX r4.2 1 1 [.slice none 0 0] [(0, 1, r4.1)]) |> bo fun r5 =>
        (apL r5.2 1 24 t3 r5.1) |> bo fun r6 =>
        (binX .add .no t10 (.int .i64 1)) |> bo fun t19 =>
        cutK k r6.2 [] [t1, t2, r6.1, t8, t9, t19] (L_impl_Line_clone k q 0))
      (
        (fadX 1 t1) |> bo fun t21 =>
        (ld1 m t21) |> bo fun t22 =>
        (C_slices_Clone_byte_byte [t22] m) |> bo fun r10 =>
        (fadX 0 t1) |> bo fun t24 =>
        (stX r10.2 1 t24 t3) |> bo fun m12 =>
        (fadX 1 t1) |> bo fun t25 =>
        (stX m12 1 t25 r10.1) |> bo fun m14 =>
        (ldS m14 4 t1) |> bo fun t26 =>
        (stX m14 4 t2 t26) |> bo fun m16 =>
        (resP (some 4) m16 t2) |> bo fun c17 =>
        retK k m16 [] c17)
  | _, _, _, _ => none
noncomputable def J_impl_Line_clone (k q l : Nat) : List Value → Mem → Option VM := cond (Nat.beq l 3) (L_impl_Line_clone k q 0) (fun _ _ => none)
def LL_impl_Line_clone : List (Nat × List Tmp) := [(3, [1, 2, 3, 8, 9, 10])]
noncomputable def X_impl_Line_clone : List Value → Mem → Option VM
  | [t0], m =>
    (boxX m t0) |> bo fun r1 =>
    (alX r1.2 [.slice none 0 0, .slice none 0 0, .bool false, .int .i64 0]) |> bo fun r2 =>
    (bslX r2.2 0 1 [.slice none 0 0] []) |> bo fun r3 =>
    (fadX 0 r1.1) |> bo fun t7 =>
    (ld1 r3.2 t7) |> bo fun t8 =>
    (lenX t8) |> bo fun t9 =>
    cutK m.length r3.2 [t0] [r1.1, r2.1, r3.1, t8, t9, (.int .i64 0)] (L_impl_Line_clone m.length QQ 0)
  | _, _ => none
noncomputable def C_impl_Line_clone : List Value → Mem → Option VM := fcall X_impl_Line_clone
@[simp] theorem c_impl_Line_clone : C_impl_Line_clone = fcall X_impl_Line_clone := (rfl)
theorem cok_impl_Line_clone : codeOk CT Try.f146 (Try.f146.body.get rfl) = true := by kernel_rfl
theorem xe_impl_Line_clone (t0 : Value) (m : Mem) : ex CT cf_impl_Line_clone Try.f146 1 m.length LL_impl_Line_clone (J_impl_Line_clone m.length QQ) 400 [.code (Try.f146.body.get rfl)] (argsT 0 [t0]) m = X_impl_Line_clone [t0] m := by kernel_rfl
theorem okc_impl_Line_clone : CallOK CT cf_impl_Line_clone := cfc_ok ok_C_slices_Clone_byte_byte cfn_ok
theorem le_impl_Line_clone_0 (k q : Nat) (t1 t2 t3 t8 t9 t10 : Value) (m : Mem) : ex CT cf_impl_Line_clone Try.f146 1 k LL_impl_Line_clone (J_impl_Line_clone k q) 400 (atLoop Try.f146 0) [(1, t1), (2, t2), (3, t3), (8, t8), (9, t9), (10, t10)] m = J_impl_Line_clone k (q + 1) 3 [t1, t2, t3, t8, t9, t10] m := by kernel_rfl
theorem gl_impl_Line_clone (k : Nat) : ∀ q i, i < 1 → GoodL CT k Try.f146 LL_impl_Line_clone (J_impl_Line_clone k q) (atLoop Try.f146 i)
  | 0, 0, _ => goodL_zero (l := 3) (by kernel_rfl) (fun vs m => by kernel_rfl)
  | 0, _ + 1, h => absurd h (by omega)
  | q + 1, 0, _ => goodL_succ (np := 1) (l := 3) (live := [1, 2, 3, 8, 9, 10]) (n := 1) CT_ok rfl okc_impl_Line_clone (c := (Try.f146.body.get rfl)) rfl cok_impl_Line_clone (by kernel_rfl) (gl_impl_Line_clone k q) (by kernel_rfl) rfl (fun vs m r hl h => match vs, hl with
    | [t1, t2, t3, t8, t9, t10], _ => (le_impl_Line_clone_0 k q t1 t2 t3 t8 t9 t10 m).trans h)
  | _ + 1, _ + 1, h => absurd h (by omega)
theorem ok_X_impl_Line_clone : OkX CT 146 X_impl_Line_clone := OkX.of_ex (cf := cf_impl_Line_clone) (np := 1) (LL := LL_impl_Line_clone) (J := (fun k => J_impl_Line_clone k QQ)) CT_ok rfl Try.func146 rfl (Nat.le_of_ble_eq_true rfl) (by decide) cok_impl_Line_clone okc_impl_Line_clone (fun k => allLoops rfl (by kernel_rfl) (gl_impl_Line_clone k QQ)) (fun args m r h => match args, h with
    | [t0], h => ⟨rfl, (xe_impl_Line_clone t0 m).trans h⟩)
theorem ok_C_impl_Line_clone : OkC CT 146 C_impl_Line_clone := fcall_ok rfl ok_X_impl_Line_clone

/-! ### (*impl.Line).next -/
noncomputable def cf_impl_Line_next : CallF := cfn
noncomputable def X_impl_Line_next : List Value → Mem → Option VM
  | [t0, t1], m =>
    (nilX t0) |> bo fun t7 =>
    (fadX 0 t7) |> bo fun t8 =>
    (ld1 m t8) |> bo fun t9 =>
    (ixaX 1 t9 (.int .i64 0)) |> bo fun t10 =>
    (ld1 m t10) |> bo fun t11 =>
    (lenX t11) |> bo fun t14 =>
    (minMax false t1 [t14]) |> bo fun t15 =>
    (nilX t0) |> bo fun t17 =>
    (fadX 0 t17) |> bo fun t18 =>
    (ld1 m t18) |> bo fun t19 =>
    (slX m 1 t11 (some t15) none) |> bo fun t22 =>
    (ixaX 1 t19 (.int .i64 0)) |> bo fun t23 =>
    (stX m 1 t23 t22) |> bo fun m13 =>
    (lenX t11) |> bo fun t26 =>
    (binX .eql .no t15 t26) |> bo fun t27 =>
    brX t27
      (
        (nilX t0) |> bo fun t30 =>
        (fadX 0 t30) |> bo fun t31 =>
        (ld1 m13 t31) |> bo fun t32 =>
        (slX m13 1 t32 (some (.int .i64 1)) none) |> bo fun t33 =>
        (nilX t0) |> bo fun t34 =>
        (fadX 0 t34) |> bo fun t35 =>
        (stX m13 1 t35 t33) |> bo fun m22 =>
        (slX m22 1 t11 none (some t15)) |> bo fun t38 =>
        retK m.length m22 [t0, t15] t38)
      (
        (slX m13 1 t11 none (some t15)) |> bo fun t38 =>
        retK m.length m13 [t0, t15] t38)
  | _, _ => none
noncomputable def C_impl_Line_next : List Value → Mem → Option VM := rcall X_impl_Line_next
@[simp] theorem c_impl_Line_next : C_impl_Line_next = rcall X_impl_Line_next := (rfl)
theorem cok_impl_Line_next : codeOk CT Try.f147 (Try.f147.body.get rfl) = true := by kernel_rfl
theorem xe_impl_Line_next (t0 t1 : Value) (m : Mem) : ex CT cf_impl_Line_next Try.f147 2 m.length [] (fun _ _ _ => none) 400 [.code (Try.f147.body.get rfl)] (argsT 0 [t0, t1]) m = X_impl_Line_next [t0, t1] m := by kernel_rfl
theorem okc_impl_Line_next : CallOK CT cf_impl_Line_next := cfn_ok
theorem ok_X_impl_Line_next : OkX CT 147 X_impl_Line_next := OkX.of_ex (cf := cf_impl_Line_next) (np := 2) (LL := []) (J := (fun _ _ _ _ => none)) CT_ok rfl Try.func147 rfl (Nat.le_of_ble_eq_true rfl) (by decide) cok_impl_Line_next okc_impl_Line_next (fun k => noLoops rfl) (fun args m r h => match args, h with
    | [t0, t1], h => ⟨rfl, (xe_impl_Line_next t0 t1 m).trans h⟩)
theorem ok_C_impl_Line_next : OkC CT 147 C_impl_Line_next := rcall_ok rfl ok_X_impl_Line_next

/-! ### (impl.Way).has -/
noncomputable def cf_impl_Way_has : CallF := cfn
noncomputable def X_impl_Way_has : List Value → Mem → Option VM
  | [t0, t1], m =>
    (boxX m t0) |> bo fun r1 =>
    (fadX 0 r1.1) |> bo fun t5 =>
    (ld1 r1.2 t5) |> bo fun t6 =>
    (binX .and .no t6 t1) |> bo fun t8 =>
    (binX .eql .no t8 t1) |> bo fun t10 =>
    retK m.length r1.2 [t0, t1] t10
  | _, _ => none
noncomputable def C_impl_Way_has : List Value → Mem → Option VM := fcall X_impl_Way_has
@[simp] theorem c_impl_Way_has : C_impl_Way_has = fcall X_impl_Way_has := (rfl)
theorem cok_impl_Way_has : codeOk CT Try.f148 (Try.f148.body.get rfl) = true := by kernel_rfl
theorem xe_impl_Way_has (t0 t1 : Value) (m : Mem) : ex CT cf_impl_Way_has Try.f148 2 m.length [] (fun _ _ _ => none) 400 [.code (Try.f148.body.get rfl)] (argsT 0 [t0, t1]) m = X_impl_Way_has [t0, t1] m := by kernel_rfl
theorem okc_impl_Way_has : CallOK CT cf_impl_Way_has := cfn_ok
theorem ok_X_impl_Way_has : OkX CT 148 X_impl_Way_has := OkX.of_ex (cf := cf_impl_Way_has) (np := 2) (LL := []) (J := (fun _ _ _ _ => none)) CT_ok rfl Try.func148 rfl (Nat.le_of_ble_eq_true rfl) (by decide) cok_impl_Way_has okc_impl_Way_has (fun k => noLoops rfl) (fun args m r h => match args, h with
    | [t0, t1], h => ⟨rfl, (xe_impl_Way_has t0 t1 m).trans h⟩)
theorem ok_C_impl_Way_has : OkC CT 148 C_impl_Way_has := fcall_ok rfl ok_X_impl_Way_has

/-! ### impl.ReadLine -/
noncomputable def cf_impl_ReadLine : CallF := cfc 82 C_impl_LineFault (cfc 88 C_impl_first (cfc 89 C_impl_unless (cfc 99 C_impl_in (cfc 145 C_impl_WayFault (cfc 146 C_impl_Line_clone (cfc 147 C_impl_Line_next (cfc 148 C_impl_Way_has cfn)))))))
noncomputable def L_impl_ReadLine (k : Nat) : Nat → Nat → List Value → Mem → Option VM
  | q + 1, 0, [t2, t3, t6, t8, t9], m =>
    (ldS m 7 t3) |> bo fun t36 =>
    (C_impl_Way_has [t36, (.int .i64 1)] m) |> bo fun r2 =>
    (uop .not r2.1) |> bo fun t38 =>
    (gd t38 true ((fadX 0 t8) |> bo fun v => some (v, r2.2)) r2.2) |> bo fun r4 =>
    (gd t38 true ((ld1 r4.2 r4.1) |> bo fun v => some (v, r4.2)) r4.2) |> bo fun r5 =>
    (gd t38 true ((lenX r5.1) |> bo fun v => some (v, r5.2)) r5.2) |> bo fun r6 =>
    (gd t38 true ((binX .gtr .no r6.1 (.int .i64 0)) |> bo fun v => some (v, r6.2)) r6.2) |> bo fun r7 =>
    (pickX t38 r7.1 (.bool false)) |> bo fun t44 =>
    (gd t44 true (some (t9, r7.2)) r7.2) |> bo fun r9 =>
    (gd t44 true ((lenX r9.1) |> bo fun v => some (v, r9.2)) r9.2) |> bo fun r10 =>
    (gd t44 true (some (t2, r10.2)) r10.2) |> bo fun r11 =>
    (gd t44 true ((binX .lss .no r10.1 r11.1) |> bo fun v => some (v, r11.2)) r11.2) |> bo fun r12 =>
    (pickX t44 r12.1 (.bool false)) |> bo fun t50 =>
    brX t50
      (
        (lenX t9) |> bo fun t54 =>
        (binX .sub .no t2 t54) |> bo fun t55 =>
        (C_impl_Line_next [t8, t55] r12.2) |> bo fun r16 =>
        (apL r16.2 1 1 t9 r16.1) |> bo fun r17 =>
        cutK k r17.2 [t2] [t2, t3, t6, t8, r17.1] (L_impl_ReadLine k q 0))
      (
        (ldS r12.2 4 t8) |> bo fun t59 =>
        (C_impl_Line_clone [t59] r12.2) |> bo fun r19 =>
        (bldX [.int .i64 0, .bool false, .slice none 0 0, .slice none 0 0, .slice none 0 0, .slice none 0 0, .bool false, .int .i64 0] [(1, 1, (.bool true)), (2, 1, t9), (4, 4, r19.1)]) |> bo fun t61 =>
        (stX r19.2 8 t6 t61) |> bo fun m21 =>
        (resP (some 8) m21 t6) |> bo fun c22 =>
        retK k m21 [t2] c22)
  | _, _, _, _ => none
noncomputable def J_impl_ReadLine (k q l : Nat) : List Value → Mem → Option VM := cond (Nat.beq l 8) (L_impl_ReadLine k q 0) (fun _ _ => none)
def LL_impl_ReadLine : List (Nat × List Tmp) := [(8, [2, 3, 6, 8, 9])]
noncomputable def X_impl_ReadLine : List Value → Mem → Option VM
  | [t0, t1, t2], m =>
    (boxX m t0) |> bo fun r1 =>
    (boxX r1.2 t1) |> bo fun r2 =>
    (alX r2.2 [.int .i64 0, .bool false, .slice none 0 0, .slice none 0 0, .slice none 0 0, .slice none 0 0, .bool false, .int .i64 0]) |> bo fun r3 =>
    (ldS r3.2 7 r1.1) |> bo fun t10 =>
    (C_impl_WayFault [t10] r3.2) |> bo fun r5 =>
    (ldS r5.2 4 r2.1) |> bo fun t12 =>
    (C_impl_LineFault [t12] r5.2) |> bo fun r7 =>
    (C_impl_in [t2, (.int .i64 1), (.int .i64 99)] r7.2) |> bo fun r8 =>
    (C_impl_unless [r8.1, (.int .i64 3)] r8.2) |> bo fun r9 =>
    (bslX r9.2 3 1 [.int .i64 0] [(0, 1, r5.1), (1, 1, r7.1), (2, 1, r9.1)]) |> bo fun r10 =>
    (C_impl_first [r10.1] r10.2) |> bo fun r11 =>
    gP (stbL [((rdN r2.1), r3.2, r5.2)])
      (
        (binX .neq .no r11.1 (.int .i64 0)) |> bo fun t20 =>
        brX t20
          (
            (bldX [.int .i64 0, .bool false, .slice none 0 0, .slice none 0 0, .slice none 0 0, .slice none 0 0, .bool false, .int .i64 0] [(0, 1, r11.1)]) |> bo fun t22 =>
            (stX r11.2 8 r3.1 t22) |> bo fun m14 =>
            (resP (some 8) m14 r3.1) |> bo fun c15 =>
            retK m.length m14 [t0, t1, t2] c15)
          (
            (ldS r11.2 4 r2.1) |> bo fun t23 =>
            (C_impl_Line_clone [t23] r11.2) |> bo fun r17 =>
            (bslX r17.2 0 1 [.int .u8 0] []) |> bo fun r18 =>
            (alX r18.2 [.slice none 0 0, .slice none 0 0, .bool false, .int .i64 0]) |> bo fun r19 =>
            (stX r19.2 4 r19.1 r17.1) |> bo fun m20 =>
            (fadX 0 r19.1) |> bo fun t26 =>
            (ld1 m20 t26) |> bo fun t27 =>
            (lenX t27) |> bo fun t28 =>
            (binX .eql .no t28 (.int .i64 0)) |> bo fun t29 =>
            brX t29
              (
                (ldS m20 4 r19.1) |> bo fun t30 =>
                (bldX [.int .i64 0, .bool false, .slice none 0 0, .slice none 0 0, .slice none 0 0, .slice none 0 0, .bool false, .int .i64 0] [(4, 4, t30)]) |> bo fun t31 =>
                (stX m20 8 r3.1 t31) |> bo fun m27 =>
                (resP (some 8) m27 r3.1) |> bo fun c28 =>
                retK m.length m27 [t0, t1, t2] c28)
              (
                (C_impl_Line_next [r19.1, t2] m20) |> bo fun r29 =>
                (apL r29.2 1 1 r18.1 r29.1) |> bo fun r30 =>
                cutK m.length r30.2 [t0, t1, t2] [t2, r1.1, r3.1, r19.1, r30.1] (L_impl_ReadLine m.length QQ 0))))
  | _, _ => none
noncomputable def C_impl_ReadLine : List Value → Mem → Option VM := fcall X_impl_ReadLine
@[simp] theorem c_impl_ReadLine : C_impl_ReadLine = fcall X_impl_ReadLine := (rfl)
theorem cok_impl_ReadLine : codeOk CT Try.f73 (Try.f73.body.get rfl) = true := by kernel_rfl
theorem xe_impl_ReadLine (t0 t1 t2 : Value) (m : Mem) : ex CT cf_impl_ReadLine Try.f73 3 m.length LL_impl_ReadLine (J_impl_ReadLine m.length QQ) 400 [.code (Try.f73.body.get rfl)] (argsT 0 [t0, t1, t2]) m = X_impl_ReadLine [t0, t1, t2] m := by kernel_rfl
theorem okc_impl_ReadLine : CallOK CT cf_impl_ReadLine := cfc_ok ok_C_impl_LineFault (cfc_ok ok_C_impl_first (cfc_ok ok_C_impl_unless (cfc_ok ok_C_impl_in (cfc_ok ok_C_impl_WayFault (cfc_ok ok_C_impl_Line_clone (cfc_ok ok_C_impl_Line_next (cfc_ok ok_C_impl_Way_has cfn_ok)))))))
theorem le_impl_ReadLine_0 (k q : Nat) (t2 t3 t6 t8 t9 : Value) (m : Mem) : ex CT cf_impl_ReadLine Try.f73 3 k LL_impl_ReadLine (J_impl_ReadLine k q) 400 (atLoop Try.f73 0) [(2, t2), (3, t3), (6, t6), (8, t8), (9, t9)] m = J_impl_ReadLine k (q + 1) 8 [t2, t3, t6, t8, t9] m := by kernel_rfl
theorem gl_impl_ReadLine (k : Nat) : ∀ q i, i < 1 → GoodL CT k Try.f73 LL_impl_ReadLine (J_impl_ReadLine k q) (atLoop Try.f73 i)
  | 0, 0, _ => goodL_zero (l := 8) (by kernel_rfl) (fun vs m => by kernel_rfl)
  | 0, _ + 1, h => absurd h (by omega)
  | q + 1, 0, _ => goodL_succ (np := 3) (l := 8) (live := [2, 3, 6, 8, 9]) (n := 1) CT_ok rfl okc_impl_ReadLine (c := (Try.f73.body.get rfl)) rfl cok_impl_ReadLine (by kernel_rfl) (gl_impl_ReadLine k q) (by kernel_rfl) rfl (fun vs m r hl h => match vs, hl with
    | [t2, t3, t6, t8, t9], _ => (le_impl_ReadLine_0 k q t2 t3 t6 t8 t9 m).trans h)
  | _ + 1, _ + 1, h => absurd h (by omega)
theorem ok_X_impl_ReadLine : OkX CT 73 X_impl_ReadLine := OkX.of_ex (cf := cf_impl_ReadLine) (np := 3) (LL := LL_impl_ReadLine) (J := (fun k => J_impl_ReadLine k QQ)) CT_ok rfl Try.func73 rfl (Nat.le_of_ble_eq_true rfl) (by decide) cok_impl_ReadLine okc_impl_ReadLine (fun k => allLoops rfl (by kernel_rfl) (gl_impl_ReadLine k QQ)) (fun args m r h => match args, h with
    | [t0, t1, t2], h => ⟨rfl, (xe_impl_ReadLine t0 t1 t2 m).trans h⟩)
theorem ok_C_impl_ReadLine : OkC CT 73 C_impl_ReadLine := fcall_ok rfl ok_X_impl_ReadLine

/-! ### laws.eqByteS -/
noncomputable def cf_laws_eqByteS : CallF := cfn
noncomputable def L_laws_eqByteS (k : Nat) : Nat → Nat → List Value → Mem → Option VM
  | q + 1, 0, [t0, t1, t5], m =>
    (lenX t0) |> bo fun t13 =>
    (binX .lss .no t5 t13) |> bo fun t14 =>
    brX t14
      (
        (ixaX 1 t0 t5) |> bo fun t19 =>
        (ld1 m t19) |> bo fun t20 =>
        (ixaX 1 t1 t5) |> bo fun t23 =>
        (ld1 m t23) |> bo fun t24 =>
        (binX .neq .no t20 t24) |> bo fun t25 =>
        brX t25
          (
            retK k m [t0, t1] (.bool false))
          (
            (binX .add .no t5 (.int .i64 1)) |> bo fun t16 =>
            cutK k m [t0, t1] [t0, t1, t16] (L_laws_eqByteS k q 0)))
      (
        retK k m [t0, t1] (.bool true))
  | _, _, _, _ => none
noncomputable def J_laws_eqByteS (k q l : Nat) : List Value → Mem → Option VM := cond (Nat.beq l 4) (L_laws_eqByteS k q 0) (fun _ _ => none)
def LL_laws_eqByteS : List (Nat × List Tmp) := [(4, [0, 1, 5])]
noncomputable def X_laws_eqByteS : List Value → Mem → Option VM
  | [t0, t1], m =>
    (lenX t0) |> bo fun t7 =>
    (lenX t1) |> bo fun t9 =>
    (binX .neq .no t7 t9) |> bo fun t10 =>
    brX t10
      (
        retK m.length m [t0, t1] (.bool false))
      (
        cutK m.length m [t0, t1] [t0, t1, (.int .i64 0)] (L_laws_eqByteS m.length QQ 0))
  | _, _ => none
noncomputable def C_laws_eqByteS : List Value → Mem → Option VM := fcall X_laws_eqByteS
@[simp] theorem c_laws_eqByteS : C_laws_eqByteS = fcall X_laws_eqByteS := (rfl)
theorem cok_laws_eqByteS : codeOk CT Try.f128 (Try.f128.body.get rfl) = true := by kernel_rfl
theorem xe_laws_eqByteS (t0 t1 : Value) (m : Mem) : ex CT cf_laws_eqByteS Try.f128 2 m.length LL_laws_eqByteS (J_laws_eqByteS m.length QQ) 400 [.code (Try.f128.body.get rfl)] (argsT 0 [t0, t1]) m = X_laws_eqByteS [t0, t1] m := by kernel_rfl
theorem okc_laws_eqByteS : CallOK CT cf_laws_eqByteS := cfn_ok
theorem le_laws_eqByteS_0 (k q : Nat) (t0 t1 t5 : Value) (m : Mem) : ex CT cf_laws_eqByteS Try.f128 2 k LL_laws_eqByteS (J_laws_eqByteS k q) 400 (atLoop Try.f128 0) [(0, t0), (1, t1), (5, t5)] m = J_laws_eqByteS k (q + 1) 4 [t0, t1, t5] m := by kernel_rfl
theorem gl_laws_eqByteS (k : Nat) : ∀ q i, i < 1 → GoodL CT k Try.f128 LL_laws_eqByteS (J_laws_eqByteS k q) (atLoop Try.f128 i)
  | 0, 0, _ => goodL_zero (l := 4) (by kernel_rfl) (fun vs m => by kernel_rfl)
  | 0, _ + 1, h => absurd h (by omega)
  | q + 1, 0, _ => goodL_succ (np := 2) (l := 4) (live := [0, 1, 5]) (n := 1) CT_ok rfl okc_laws_eqByteS (c := (Try.f128.body.get rfl)) rfl cok_laws_eqByteS (by kernel_rfl) (gl_laws_eqByteS k q) (by kernel_rfl) rfl (fun vs m r hl h => match vs, hl with
    | [t0, t1, t5], _ => (le_laws_eqByteS_0 k q t0 t1 t5 m).trans h)
  | _ + 1, _ + 1, h => absurd h (by omega)
theorem ok_X_laws_eqByteS : OkX CT 128 X_laws_eqByteS := OkX.of_ex (cf := cf_laws_eqByteS) (np := 2) (LL := LL_laws_eqByteS) (J := (fun k => J_laws_eqByteS k QQ)) CT_ok rfl Try.func128 rfl (Nat.le_of_ble_eq_true rfl) (by decide) cok_laws_eqByteS okc_laws_eqByteS (fun k => allLoops rfl (by kernel_rfl) (gl_laws_eqByteS k QQ)) (fun args m r h => match args, h with
    | [t0, t1], h => ⟨rfl, (xe_laws_eqByteS t0 t1 m).trans h⟩)
theorem ok_C_laws_eqByteS : OkC CT 128 C_laws_eqByteS := fcall_ok rfl ok_X_laws_eqByteS

/-! ### laws.eqByteSS -/
noncomputable def cf_laws_eqByteSS : CallF := cfc 128 C_laws_eqByteS cfn
noncomputable def L_laws_eqByteSS (k : Nat) : Nat → Nat → List Value → Mem → Option VM
  | q + 1, 0, [t0, t1, t5], m =>
    (lenX t0) |> bo fun t13 =>
    (binX .lss .no t5 t13) |> bo fun t14 =>
    brX t14
      (
        (ixaX 1 t0 t5) |> bo fun t19 =>
        (ld1 m t19) |> bo fun t20 =>
        (ixaX 1 t1 t5) |> bo fun t23 =>
        (ld1 m t23) |> bo fun t24 =>
        (C_laws_eqByteS [t20, t24] m) |> bo fun r7 =>
        (uop .not r7.1) |> bo fun t26 =>
        brX t26
          (
            retK k r7.2 [t0, t1] (.bool false))
          (
            (binX .add .no t5 (.int .i64 1)) |> bo fun t16 =>
            cutK k r7.2 [t0, t1] [t0, t1, t16] (L_laws_eqByteSS k q 0)))
      (
        retK k m [t0, t1] (.bool true))
  | _, _, _, _ => none
noncomputable def J_laws_eqByteSS (k q l : Nat) : List Value → Mem → Option VM := cond (Nat.beq l 4) (L_laws_eqByteSS k q 0) (fun _ _ => none)
def LL_laws_eqByteSS : List (Nat × List Tmp) := [(4, [0, 1, 5])]
noncomputable def X_laws_eqByteSS : List Value → Mem → Option VM
  | [t0, t1], m =>
    (lenX t0) |> bo fun t7 =>
    (lenX t1) |> bo fun t9 =>
    (binX .neq .no t7 t9) |> bo fun t10 =>
    brX t10
      (
        retK m.length m [t0, t1] (.bool false))
      (
        cutK m.length m [t0, t1] [t0, t1, (.int .i64 0)] (L_laws_eqByteSS m.length QQ 0))
  | _, _ => none
noncomputable def C_laws_eqByteSS : List Value → Mem → Option VM := fcall X_laws_eqByteSS
@[simp] theorem c_laws_eqByteSS : C_laws_eqByteSS = fcall X_laws_eqByteSS := (rfl)
theorem cok_laws_eqByteSS : codeOk CT Try.f59 (Try.f59.body.get rfl) = true := by kernel_rfl
theorem xe_laws_eqByteSS (t0 t1 : Value) (m : Mem) : ex CT cf_laws_eqByteSS Try.f59 2 m.length LL_laws_eqByteSS (J_laws_eqByteSS m.length QQ) 400 [.code (Try.f59.body.get rfl)] (argsT 0 [t0, t1]) m = X_laws_eqByteSS [t0, t1] m := by kernel_rfl
theorem okc_laws_eqByteSS : CallOK CT cf_laws_eqByteSS := cfc_ok ok_C_laws_eqByteS cfn_ok
theorem le_laws_eqByteSS_0 (k q : Nat) (t0 t1 t5 : Value) (m : Mem) : ex CT cf_laws_eqByteSS Try.f59 2 k LL_laws_eqByteSS (J_laws_eqByteSS k q) 400 (atLoop Try.f59 0) [(0, t0), (1, t1), (5, t5)] m = J_laws_eqByteSS k (q + 1) 4 [t0, t1, t5] m := by kernel_rfl
theorem gl_laws_eqByteSS (k : Nat) : ∀ q i, i < 1 → GoodL CT k Try.f59 LL_laws_eqByteSS (J_laws_eqByteSS k q) (atLoop Try.f59 i)
  | 0, 0, _ => goodL_zero (l := 4) (by kernel_rfl) (fun vs m => by kernel_rfl)
  | 0, _ + 1, h => absurd h (by omega)
  | q + 1, 0, _ => goodL_succ (np := 2) (l := 4) (live := [0, 1, 5]) (n := 1) CT_ok rfl okc_laws_eqByteSS (c := (Try.f59.body.get rfl)) rfl cok_laws_eqByteSS (by kernel_rfl) (gl_laws_eqByteSS k q) (by kernel_rfl) rfl (fun vs m r hl h => match vs, hl with
    | [t0, t1, t5], _ => (le_laws_eqByteSS_0 k q t0 t1 t5 m).trans h)
  | _ + 1, _ + 1, h => absurd h (by omega)
theorem ok_X_laws_eqByteSS : OkX CT 59 X_laws_eqByteSS := OkX.of_ex (cf := cf_laws_eqByteSS) (np := 2) (LL := LL_laws_eqByteSS) (J := (fun k => J_laws_eqByteSS k QQ)) CT_ok rfl Try.func59 rfl (Nat.le_of_ble_eq_true rfl) (by decide) cok_laws_eqByteSS okc_laws_eqByteSS (fun k => allLoops rfl (by kernel_rfl) (gl_laws_eqByteSS k QQ)) (fun args m r h => match args, h with
    | [t0, t1], h => ⟨rfl, (xe_laws_eqByteSS t0 t1 m).trans h⟩)
theorem ok_C_laws_eqByteSS : OkC CT 59 C_laws_eqByteSS := fcall_ok rfl ok_X_laws_eqByteSS

/-! ### laws.eqLine -/
noncomputable def cf_laws_eqLine : CallF := cfc 59 C_laws_eqByteSS (cfc 128 C_laws_eqByteS cfn)
noncomputable def X_laws_eqLine : List Value → Mem → Option VM
  | [t0, t1], m =>
    (boxX m t0) |> bo fun r1 =>
    (boxX r1.2 t1) |> bo fun r2 =>
    (fadX 0 r1.1) |> bo fun t5 =>
    (ld1 r2.2 t5) |> bo fun t6 =>
    (fadX 0 r2.1) |> bo fun t7 =>
    (ld1 r2.2 t7) |> bo fun t8 =>
    (C_laws_eqByteSS [t6, t8] r2.2) |> bo fun r7 =>
    (uop .not r7.1) |> bo fun t10 =>
    brX t10
      (
        retK m.length r7.2 [t0, t1] (.bool false))
      (
        (fadX 1 r1.1) |> bo fun t11 =>
        (ld1 r7.2 t11) |> bo fun t12 =>
        (fadX 1 r2.1) |> bo fun t13 =>
        (ld1 r7.2 t13) |> bo fun t14 =>
        (C_laws_eqByteS [t12, t14] r7.2) |> bo fun r13 =>
        (uop .not r13.1) |> bo fun t16 =>
        brX t16
          (
            retK m.length r13.2 [t0, t1] (.bool false))
          (
            (fadX 2 r1.1) |> bo fun t17 =>
            (ld1 r13.2 t17) |> bo fun t18 =>
            (fadX 2 r2.1) |> bo fun t19 =>
            (ld1 r13.2 t19) |> bo fun t20 =>
            (binX .neq .bool t18 t20) |> bo fun t21 =>
            brX t21
              (
                retK m.length r13.2 [t0, t1] (.bool false))
              (
                (fadX 3 r1.1) |> bo fun t22 =>
                (ld1 r13.2 t22) |> bo fun t23 =>
                (fadX 3 r2.1) |> bo fun t24 =>
                (ld1 r13.2 t24) |> bo fun t25 =>
                (binX .neq .no t23 t25) |> bo fun t26 =>
                brX t26
                  (
                    retK m.length r13.2 [t0, t1] (.bool false))
                  (
                    retK m.length r13.2 [t0, t1] (.bool true)))))
  | _, _ => none
noncomputable def C_laws_eqLine : List Value → Mem → Option VM := fcall X_laws_eqLine
@[simp] theorem c_laws_eqLine : C_laws_eqLine = fcall X_laws_eqLine := (rfl)
theorem cok_laws_eqLine : codeOk CT Try.f75 (Try.f75.body.get rfl) = true := by kernel_rfl
theorem xe_laws_eqLine (t0 t1 : Value) (m : Mem) : ex CT cf_laws_eqLine Try.f75 2 m.length [] (fun _ _ _ => none) 400 [.code (Try.f75.body.get rfl)] (argsT 0 [t0, t1]) m = X_laws_eqLine [t0, t1] m := by kernel_rfl
theorem okc_laws_eqLine : CallOK CT cf_laws_eqLine := cfc_ok ok_C_laws_eqByteSS (cfc_ok ok_C_laws_eqByteS cfn_ok)
theorem ok_X_laws_eqLine : OkX CT 75 X_laws_eqLine := OkX.of_ex (cf := cf_laws_eqLine) (np := 2) (LL := []) (J := (fun _ _ _ _ => none)) CT_ok rfl Try.func75 rfl (Nat.le_of_ble_eq_true rfl) (by decide) cok_laws_eqLine okc_laws_eqLine (fun k => noLoops rfl) (fun args m r h => match args, h with
    | [t0, t1], h => ⟨rfl, (xe_laws_eqLine t0 t1 m).trans h⟩)
theorem ok_C_laws_eqLine : OkC CT 75 C_laws_eqLine := fcall_ok rfl ok_X_laws_eqLine

/-! ### laws.eqLineResult -/
noncomputable def cf_laws_eqLineResult : CallF := cfc 75 C_laws_eqLine (cfc 128 C_laws_eqByteS cfn)
noncomputable def X_laws_eqLineResult : List Value → Mem → Option VM
  | [t0, t1], m =>
    (boxX m t0) |> bo fun r1 =>
    (boxX r1.2 t1) |> bo fun r2 =>
    (fadX 0 r1.1) |> bo fun t5 =>
    (ld1 r2.2 t5) |> bo fun t6 =>
    (fadX 0 r2.1) |> bo fun t7 =>
    (ld1 r2.2 t7) |> bo fun t8 =>
    (binX .neq .no t6 t8) |> bo fun t9 =>
    brX t9
      (
        retK m.length r2.2 [t0, t1] (.bool false))
      (
        (fadX 1 r1.1) |> bo fun t10 =>
        (ld1 r2.2 t10) |> bo fun t11 =>
        (fadX 1 r2.1) |> bo fun t12 =>
        (ld1 r2.2 t12) |> bo fun t13 =>
        (binX .neq .bool t11 t13) |> bo fun t14 =>
        brX t14
          (
            retK m.length r2.2 [t0, t1] (.bool false))
          (
            (fadX 2 r1.1) |> bo fun t15 =>
            (ld1 r2.2 t15) |> bo fun t16 =>
            (fadX 2 r2.1) |> bo fun t17 =>
            (ld1 r2.2 t17) |> bo fun t18 =>
            (C_laws_eqByteS [t16, t18] r2.2) |> bo fun r17 =>
            (uop .not r17.1) |> bo fun t20 =>
            brX t20
              (
                retK m.length r17.2 [t0, t1] (.bool false))
              (
                (fadX 3 r1.1) |> bo fun t21 =>
                (ld1 r17.2 t21) |> bo fun t22 =>
                (fadX 3 r2.1) |> bo fun t23 =>
                (ld1 r17.2 t23) |> bo fun t24 =>
                (C_laws_eqByteS [t22, t24] r17.2) |> bo fun r23 =>
                (uop .not r23.1) |> bo fun t26 =>
                brX t26
                  (
                    retK m.length r23.2 [t0, t1] (.bool false))
                  (
                    (fadX 4 r1.1) |> bo fun t27 =>
                    (ldS r23.2 4 t27) |> bo fun t28 =>
                    (fadX 4 r2.1) |> bo fun t29 =>
                    (ldS r23.2 4 t29) |> bo fun t30 =>
                    (C_laws_eqLine [t28, t30] r23.2) |> bo fun r29 =>
                    (uop .not r29.1) |> bo fun t32 =>
                    brX t32
                      (
                        retK m.length r29.2 [t0, t1] (.bool false))
                      (
                        retK m.length r29.2 [t0, t1] (.bool true))))))
  | _, _ => none
noncomputable def C_laws_eqLineResult : List Value → Mem → Option VM := fcall X_laws_eqLineResult
@[simp] theorem c_laws_eqLineResult : C_laws_eqLineResult = fcall X_laws_eqLineResult := (rfl)
theorem cok_laws_eqLineResult : codeOk CT Try.f74 (Try.f74.body.get rfl) = true := by kernel_rfl
theorem xe_laws_eqLineResult (t0 t1 : Value) (m : Mem) : ex CT cf_laws_eqLineResult Try.f74 2 m.length [] (fun _ _ _ => none) 400 [.code (Try.f74.body.get rfl)] (argsT 0 [t0, t1]) m = X_laws_eqLineResult [t0, t1] m := by kernel_rfl
theorem okc_laws_eqLineResult : CallOK CT cf_laws_eqLineResult := cfc_ok ok_C_laws_eqLine (cfc_ok ok_C_laws_eqByteS cfn_ok)
theorem ok_X_laws_eqLineResult : OkX CT 74 X_laws_eqLineResult := OkX.of_ex (cf := cf_laws_eqLineResult) (np := 2) (LL := []) (J := (fun _ _ _ _ => none)) CT_ok rfl Try.func74 rfl (Nat.le_of_ble_eq_true rfl) (by decide) cok_laws_eqLineResult okc_laws_eqLineResult (fun k => noLoops rfl) (fun args m r h => match args, h with
    | [t0, t1], h => ⟨rfl, (xe_laws_eqLineResult t0 t1 m).trans h⟩)
theorem ok_C_laws_eqLineResult : OkC CT 74 C_laws_eqLineResult := fcall_ok rfl ok_X_laws_eqLineResult

/-! ### laws.markByteS -/
noncomputable def cf_laws_markByteS : CallF := cfn
noncomputable def L_laws_markByteS (k : Nat) : Nat → Nat → List Value → Mem → Option VM
  | q + 1, 0, [t0, t1, t5], m =>
    (lenX t0) |> bo fun t8 =>
    (binX .lss .no t5 t8) |> bo fun t9 =>
    brX t9
      (
        (cvI .u8 t1) |> bo fun t15 =>
        (ixaX 1 t0 t5) |> bo fun t16 =>
        (stX m 1 t16 t15) |> bo fun m5 =>
        (binX .add .no t1 (.int .i64 1)) |> bo fun t18 =>
        (binX .add .no t5 (.int .i64 1)) |> bo fun t11 =>
        cutK k m5 [t0, t18] [t0, t18, t11] (L_laws_markByteS k q 0))
      (
        retK k m [t0, t1] t1)
  | _, _, _, _ => none
noncomputable def J_laws_markByteS (k q l : Nat) : List Value → Mem → Option VM := cond (Nat.beq l 2) (L_laws_markByteS k q 0) (fun _ _ => none)
def LL_laws_markByteS : List (Nat × List Tmp) := [(2, [0, 1, 5])]
noncomputable def X_laws_markByteS : List Value → Mem → Option VM
  | [t0, t1], m =>
    cutK m.length m [t0, t1] [t0, t1, (.int .i64 0)] (L_laws_markByteS m.length QQ 0)
  | _, _ => none
noncomputable def C_laws_markByteS : List Value → Mem → Option VM := rcall X_laws_markByteS
@[simp] theorem c_laws_markByteS : C_laws_markByteS = rcall X_laws_markByteS := (rfl)
theorem cok_laws_markByteS : codeOk CT Try.f131 (Try.f131.body.get rfl) = true := by kernel_rfl
theorem xe_laws_markByteS (t0 t1 : Value) (m : Mem) : ex CT cf_laws_markByteS Try.f131 2 m.length LL_laws_markByteS (J_laws_markByteS m.length QQ) 400 [.code (Try.f131.body.get rfl)] (argsT 0 [t0, t1]) m = X_laws_markByteS [t0, t1] m := by kernel_rfl
theorem okc_laws_markByteS : CallOK CT cf_laws_markByteS := cfn_ok
theorem le_laws_markByteS_0 (k q : Nat) (t0 t1 t5 : Value) (m : Mem) : ex CT cf_laws_markByteS Try.f131 2 k LL_laws_markByteS (J_laws_markByteS k q) 400 (atLoop Try.f131 0) [(0, t0), (1, t1), (5, t5)] m = J_laws_markByteS k (q + 1) 2 [t0, t1, t5] m := by kernel_rfl
theorem gl_laws_markByteS (k : Nat) : ∀ q i, i < 1 → GoodL CT k Try.f131 LL_laws_markByteS (J_laws_markByteS k q) (atLoop Try.f131 i)
  | 0, 0, _ => goodL_zero (l := 2) (by kernel_rfl) (fun vs m => by kernel_rfl)
  | 0, _ + 1, h => absurd h (by omega)
  | q + 1, 0, _ => goodL_succ (np := 2) (l := 2) (live := [0, 1, 5]) (n := 1) CT_ok rfl okc_laws_markByteS (c := (Try.f131.body.get rfl)) rfl cok_laws_markByteS (by kernel_rfl) (gl_laws_markByteS k q) (by kernel_rfl) rfl (fun vs m r hl h => match vs, hl with
    | [t0, t1, t5], _ => (le_laws_markByteS_0 k q t0 t1 t5 m).trans h)
  | _ + 1, _ + 1, h => absurd h (by omega)
theorem ok_X_laws_markByteS : OkX CT 131 X_laws_markByteS := OkX.of_ex (cf := cf_laws_markByteS) (np := 2) (LL := LL_laws_markByteS) (J := (fun k => J_laws_markByteS k QQ)) CT_ok rfl Try.func131 rfl (Nat.le_of_ble_eq_true rfl) (by decide) cok_laws_markByteS okc_laws_markByteS (fun k => allLoops rfl (by kernel_rfl) (gl_laws_markByteS k QQ)) (fun args m r h => match args, h with
    | [t0, t1], h => ⟨rfl, (xe_laws_markByteS t0 t1 m).trans h⟩)
theorem ok_C_laws_markByteS : OkC CT 131 C_laws_markByteS := rcall_ok rfl ok_X_laws_markByteS

/-! ### laws.markByteSS -/
noncomputable def cf_laws_markByteSS : CallF := cfc 131 C_laws_markByteS cfn
noncomputable def L_laws_markByteSS (k : Nat) : Nat → Nat → List Value → Mem → Option VM
  | q + 1, 0, [t0, t1, t5], m =>
    (lenX t0) |> bo fun t8 =>
    (binX .lss .no t5 t8) |> bo fun t9 =>
    brX t9
      (
        (ixaX 1 t0 t5) |> bo fun t14 =>
        (ld1 m t14) |> bo fun t15 =>
        (C_laws_markByteS [t15, t1] m) |> bo fun r5 =>
        (binX .add .no t5 (.int .i64 1)) |> bo fun t11 =>
        cutK k r5.2 [t0, r5.1] [t0, r5.1, t11] (L_laws_markByteSS k q 0))
      (
        retK k m [t0, t1] t1)
  | _, _, _, _ => none
noncomputable def J_laws_markByteSS (k q l : Nat) : List Value → Mem → Option VM := cond (Nat.beq l 2) (L_laws_markByteSS k q 0) (fun _ _ => none)
def LL_laws_markByteSS : List (Nat × List Tmp) := [(2, [0, 1, 5])]
noncomputable def X_laws_markByteSS : List Value → Mem → Option VM
  | [t0, t1], m =>
    cutK m.length m [t0, t1] [t0, t1, (.int .i64 0)] (L_laws_markByteSS m.length QQ 0)
  | _, _ => none
noncomputable def C_laws_markByteSS : List Value → Mem → Option VM := rcall X_laws_markByteSS
@[simp] theorem c_laws_markByteSS : C_laws_markByteSS = rcall X_laws_markByteSS := (rfl)
theorem cok_laws_markByteSS : codeOk CT Try.f61 (Try.f61.body.get rfl) = true := by kernel_rfl
theorem xe_laws_markByteSS (t0 t1 : Value) (m : Mem) : ex CT cf_laws_markByteSS Try.f61 2 m.length LL_laws_markByteSS (J_laws_markByteSS m.length QQ) 400 [.code (Try.f61.body.get rfl)] (argsT 0 [t0, t1]) m = X_laws_markByteSS [t0, t1] m := by kernel_rfl
theorem okc_laws_markByteSS : CallOK CT cf_laws_markByteSS := cfc_ok ok_C_laws_markByteS cfn_ok
theorem le_laws_markByteSS_0 (k q : Nat) (t0 t1 t5 : Value) (m : Mem) : ex CT cf_laws_markByteSS Try.f61 2 k LL_laws_markByteSS (J_laws_markByteSS k q) 400 (atLoop Try.f61 0) [(0, t0), (1, t1), (5, t5)] m = J_laws_markByteSS k (q + 1) 2 [t0, t1, t5] m := by kernel_rfl
theorem gl_laws_markByteSS (k : Nat) : ∀ q i, i < 1 → GoodL CT k Try.f61 LL_laws_markByteSS (J_laws_markByteSS k q) (atLoop Try.f61 i)
  | 0, 0, _ => goodL_zero (l := 2) (by kernel_rfl) (fun vs m => by kernel_rfl)
  | 0, _ + 1, h => absurd h (by omega)
  | q + 1, 0, _ => goodL_succ (np := 2) (l := 2) (live := [0, 1, 5]) (n := 1) CT_ok rfl okc_laws_markByteSS (c := (Try.f61.body.get rfl)) rfl cok_laws_markByteSS (by kernel_rfl) (gl_laws_markByteSS k q) (by kernel_rfl) rfl (fun vs m r hl h => match vs, hl with
    | [t0, t1, t5], _ => (le_laws_markByteSS_0 k q t0 t1 t5 m).trans h)
  | _ + 1, _ + 1, h => absurd h (by omega)
theorem ok_X_laws_markByteSS : OkX CT 61 X_laws_markByteSS := OkX.of_ex (cf := cf_laws_markByteSS) (np := 2) (LL := LL_laws_markByteSS) (J := (fun k => J_laws_markByteSS k QQ)) CT_ok rfl Try.func61 rfl (Nat.le_of_ble_eq_true rfl) (by decide) cok_laws_markByteSS okc_laws_markByteSS (fun k => allLoops rfl (by kernel_rfl) (gl_laws_markByteSS k QQ)) (fun args m r h => match args, h with
    | [t0, t1], h => ⟨rfl, (xe_laws_markByteSS t0 t1 m).trans h⟩)
theorem ok_C_laws_markByteSS : OkC CT 61 C_laws_markByteSS := rcall_ok rfl ok_X_laws_markByteSS

/-! ### laws.markLine -/
noncomputable def cf_laws_markLine : CallF := cfc 61 C_laws_markByteSS (cfc 131 C_laws_markByteS cfn)
noncomputable def X_laws_markLine : List Value → Mem → Option VM
  | [t0, t1], m =>
    (boxX m t0) |> bo fun r1 =>
    (fadX 0 r1.1) |> bo fun t5 =>
    (ld1 r1.2 t5) |> bo fun t6 =>
    (C_laws_markByteSS [t6, t1] r1.2) |> bo fun r4 =>
    (fadX 1 r1.1) |> bo fun t9 =>
    (ld1 r4.2 t9) |> bo fun t10 =>
    (C_laws_markByteS [t10, r4.1] r4.2) |> bo fun r7 =>
    retK m.length r7.2 [t0, r7.1] r7.1
  | _, _ => none
noncomputable def C_laws_markLine : List Value → Mem → Option VM := rcall X_laws_markLine
@[simp] theorem c_laws_markLine : C_laws_markLine = rcall X_laws_markLine := (rfl)
theorem cok_laws_markLine : codeOk CT Try.f76 (Try.f76.body.get rfl) = true := by kernel_rfl
theorem xe_laws_markLine (t0 t1 : Value) (m : Mem) : ex CT cf_laws_markLine Try.f76 2 m.length [] (fun _ _ _ => none) 400 [.code (Try.f76.body.get rfl)] (argsT 0 [t0, t1]) m = X_laws_markLine [t0, t1] m := by kernel_rfl
theorem okc_laws_markLine : CallOK CT cf_laws_markLine := cfc_ok ok_C_laws_markByteSS (cfc_ok ok_C_laws_markByteS cfn_ok)
theorem ok_X_laws_markLine : OkX CT 76 X_laws_markLine := OkX.of_ex (cf := cf_laws_markLine) (np := 2) (LL := []) (J := (fun _ _ _ _ => none)) CT_ok rfl Try.func76 rfl (Nat.le_of_ble_eq_true rfl) (by decide) cok_laws_markLine okc_laws_markLine (fun k => noLoops rfl) (fun args m r h => match args, h with
    | [t0, t1], h => ⟨rfl, (xe_laws_markLine t0 t1 m).trans h⟩)
theorem ok_C_laws_markLine : OkC CT 76 C_laws_markLine := rcall_ok rfl ok_X_laws_markLine

/-! ### laws.markLineResult -/
noncomputable def cf_laws_markLineResult : CallF := cfc 76 C_laws_markLine (cfc 131 C_laws_markByteS cfn)
noncomputable def X_laws_markLineResult : List Value → Mem → Option VM
  | [t0, t1], m =>
    (boxX m t0) |> bo fun r1 =>
    (fadX 2 r1.1) |> bo fun t5 =>
    (ld1 r1.2 t5) |> bo fun t6 =>
    (C_laws_markByteS [t6, t1] r1.2) |> bo fun r4 =>
    (fadX 3 r1.1) |> bo fun t9 =>
    (ld1 r4.2 t9) |> bo fun t10 =>
    (C_laws_markByteS [t10, r4.1] r4.2) |> bo fun r7 =>
    (fadX 4 r1.1) |> bo fun t13 =>
    (ldS r7.2 4 t13) |> bo fun t14 =>
    (C_laws_markLine [t14, r7.1] r7.2) |> bo fun r10 =>
    retK m.length r10.2 [t0, r10.1] r10.1
  | _, _ => none
noncomputable def C_laws_markLineResult : List Value → Mem → Option VM := rcall X_laws_markLineResult
@[simp] theorem c_laws_markLineResult : C_laws_markLineResult = rcall X_laws_markLineResult := (rfl)
theorem cok_laws_markLineResult : codeOk CT Try.f77 (Try.f77.body.get rfl) = true := by kernel_rfl
theorem xe_laws_markLineResult (t0 t1 : Value) (m : Mem) : ex CT cf_laws_markLineResult Try.f77 2 m.length [] (fun _ _ _ => none) 400 [.code (Try.f77.body.get rfl)] (argsT 0 [t0, t1]) m = X_laws_markLineResult [t0, t1] m := by kernel_rfl
theorem okc_laws_markLineResult : CallOK CT cf_laws_markLineResult := cfc_ok ok_C_laws_markLine (cfc_ok ok_C_laws_markByteS cfn_ok)
theorem ok_X_laws_markLineResult : OkX CT 77 X_laws_markLineResult := OkX.of_ex (cf := cf_laws_markLineResult) (np := 2) (LL := []) (J := (fun _ _ _ _ => none)) CT_ok rfl Try.func77 rfl (Nat.le_of_ble_eq_true rfl) (by decide) cok_laws_markLineResult okc_laws_markLineResult (fun k => noLoops rfl) (fun args m r h => match args, h with
    | [t0, t1], h => ⟨rfl, (xe_laws_markLineResult t0 t1 m).trans h⟩)
theorem ok_C_laws_markLineResult : OkC CT 77 C_laws_markLineResult := rcall_ok rfl ok_X_laws_markLineResult

/-! ### laws.heldByteS -/
noncomputable def cf_laws_heldByteS : CallF := cfn
noncomputable def L_laws_heldByteS (k : Nat) : Nat → Nat → List Value → Mem → Option VM
  | q + 1, 0, [t0, t1, t5], m =>
    (lenX t0) |> bo fun t8 =>
    (binX .lss .no t5 t8) |> bo fun t9 =>
    brX t9
      (
        (ixaX 1 t0 t5) |> bo fun t14 =>
        (ld1 m t14) |> bo fun t15 =>
        (cvI .u8 t1) |> bo fun t17 =>
        (binX .neq .no t15 t17) |> bo fun t18 =>
        brX t18
          (
            retK k m [t0, t1] (.int .i64 (-1)))
          (
            (binX .add .no t1 (.int .i64 1)) |> bo fun t20 =>
            (binX .add .no t5 (.int .i64 1)) |> bo fun t11 =>
            cutK k m [t0, t20] [t0, t20, t11] (L_laws_heldByteS k q 0)))
      (
        retK k m [t0, t1] t1)
  | _, _, _, _ => none
noncomputable def J_laws_heldByteS (k q l : Nat) : List Value → Mem → Option VM := cond (Nat.beq l 2) (L_laws_heldByteS k q 0) (fun _ _ => none)
def LL_laws_heldByteS : List (Nat × List Tmp) := [(2, [0, 1, 5])]
noncomputable def X_laws_heldByteS : List Value → Mem → Option VM
  | [t0, t1], m =>
    cutK m.length m [t0, t1] [t0, t1, (.int .i64 0)] (L_laws_heldByteS m.length QQ 0)
  | _, _ => none
noncomputable def C_laws_heldByteS : List Value → Mem → Option VM := fcall X_laws_heldByteS
@[simp] theorem c_laws_heldByteS : C_laws_heldByteS = fcall X_laws_heldByteS := (rfl)
theorem cok_laws_heldByteS : codeOk CT Try.f132 (Try.f132.body.get rfl) = true := by kernel_rfl
theorem xe_laws_heldByteS (t0 t1 : Value) (m : Mem) : ex CT cf_laws_heldByteS Try.f132 2 m.length LL_laws_heldByteS (J_laws_heldByteS m.length QQ) 400 [.code (Try.f132.body.get rfl)] (argsT 0 [t0, t1]) m = X_laws_heldByteS [t0, t1] m := by kernel_rfl
theorem okc_laws_heldByteS : CallOK CT cf_laws_heldByteS := cfn_ok
theorem le_laws_heldByteS_0 (k q : Nat) (t0 t1 t5 : Value) (m : Mem) : ex CT cf_laws_heldByteS Try.f132 2 k LL_laws_heldByteS (J_laws_heldByteS k q) 400 (atLoop Try.f132 0) [(0, t0), (1, t1), (5, t5)] m = J_laws_heldByteS k (q + 1) 2 [t0, t1, t5] m := by kernel_rfl
theorem gl_laws_heldByteS (k : Nat) : ∀ q i, i < 1 → GoodL CT k Try.f132 LL_laws_heldByteS (J_laws_heldByteS k q) (atLoop Try.f132 i)
  | 0, 0, _ => goodL_zero (l := 2) (by kernel_rfl) (fun vs m => by kernel_rfl)
  | 0, _ + 1, h => absurd h (by omega)
  | q + 1, 0, _ => goodL_succ (np := 2) (l := 2) (live := [0, 1, 5]) (n := 1) CT_ok rfl okc_laws_heldByteS (c := (Try.f132.body.get rfl)) rfl cok_laws_heldByteS (by kernel_rfl) (gl_laws_heldByteS k q) (by kernel_rfl) rfl (fun vs m r hl h => match vs, hl with
    | [t0, t1, t5], _ => (le_laws_heldByteS_0 k q t0 t1 t5 m).trans h)
  | _ + 1, _ + 1, h => absurd h (by omega)
theorem ok_X_laws_heldByteS : OkX CT 132 X_laws_heldByteS := OkX.of_ex (cf := cf_laws_heldByteS) (np := 2) (LL := LL_laws_heldByteS) (J := (fun k => J_laws_heldByteS k QQ)) CT_ok rfl Try.func132 rfl (Nat.le_of_ble_eq_true rfl) (by decide) cok_laws_heldByteS okc_laws_heldByteS (fun k => allLoops rfl (by kernel_rfl) (gl_laws_heldByteS k QQ)) (fun args m r h => match args, h with
    | [t0, t1], h => ⟨rfl, (xe_laws_heldByteS t0 t1 m).trans h⟩)
theorem ok_C_laws_heldByteS : OkC CT 132 C_laws_heldByteS := fcall_ok rfl ok_X_laws_heldByteS

/-! ### laws.heldByteSS -/
noncomputable def cf_laws_heldByteSS : CallF := cfc 132 C_laws_heldByteS cfn
noncomputable def L_laws_heldByteSS (k : Nat) : Nat → Nat → List Value → Mem → Option VM
  | q + 1, 0, [t0, t1, t5], m =>
    (lenX t0) |> bo fun t8 =>
    (binX .lss .no t5 t8) |> bo fun t9 =>
    brX t9
      (
        (ixaX 1 t0 t5) |> bo fun t14 =>
        (ld1 m t14) |> bo fun t15 =>
        (C_laws_heldByteS [t15, t1] m) |> bo fun r5 =>
        (binX .lss .no r5.1 (.int .i64 0)) |> bo fun t19 =>
        brX t19
          (
            retK k r5.2 [t0, r5.1] (.int .i64 (-1)))
          (
            (binX .add .no t5 (.int .i64 1)) |> bo fun t11 =>
            cutK k r5.2 [t0, r5.1] [t0, r5.1, t11] (L_laws_heldByteSS k q 0)))
      (
        retK k m [t0, t1] t1)
  | _, _, _, _ => none
noncomputable def J_laws_heldByteSS (k q l : Nat) : List Value → Mem → Option VM := cond (Nat.beq l 2) (L_laws_heldByteSS k q 0) (fun _ _ => none)
def LL_laws_heldByteSS : List (Nat × List Tmp) := [(2, [0, 1, 5])]
noncomputable def X_laws_heldByteSS : List Value → Mem → Option VM
  | [t0, t1], m =>
    cutK m.length m [t0, t1] [t0, t1, (.int .i64 0)] (L_laws_heldByteSS m.length QQ 0)
  | _, _ => none
noncomputable def C_laws_heldByteSS : List Value → Mem → Option VM := fcall X_laws_heldByteSS
@[simp] theorem c_laws_heldByteSS : C_laws_heldByteSS = fcall X_laws_heldByteSS := (rfl)
theorem cok_laws_heldByteSS : codeOk CT Try.f179 (Try.f179.body.get rfl) = true := by kernel_rfl
theorem xe_laws_heldByteSS (t0 t1 : Value) (m : Mem) : ex CT cf_laws_heldByteSS Try.f179 2 m.length LL_laws_heldByteSS (J_laws_heldByteSS m.length QQ) 400 [.code (Try.f179.body.get rfl)] (argsT 0 [t0, t1]) m = X_laws_heldByteSS [t0, t1] m := by kernel_rfl
theorem okc_laws_heldByteSS : CallOK CT cf_laws_heldByteSS := cfc_ok ok_C_laws_heldByteS cfn_ok
theorem le_laws_heldByteSS_0 (k q : Nat) (t0 t1 t5 : Value) (m : Mem) : ex CT cf_laws_heldByteSS Try.f179 2 k LL_laws_heldByteSS (J_laws_heldByteSS k q) 400 (atLoop Try.f179 0) [(0, t0), (1, t1), (5, t5)] m = J_laws_heldByteSS k (q + 1) 2 [t0, t1, t5] m := by kernel_rfl
theorem gl_laws_heldByteSS (k : Nat) : ∀ q i, i < 1 → GoodL CT k Try.f179 LL_laws_heldByteSS (J_laws_heldByteSS k q) (atLoop Try.f179 i)
  | 0, 0, _ => goodL_zero (l := 2) (by kernel_rfl) (fun vs m => by kernel_rfl)
  | 0, _ + 1, h => absurd h (by omega)
  | q + 1, 0, _ => goodL_succ (np := 2) (l := 2) (live := [0, 1, 5]) (n := 1) CT_ok rfl okc_laws_heldByteSS (c := (Try.f179.body.get rfl)) rfl cok_laws_heldByteSS (by kernel_rfl) (gl_laws_heldByteSS k q) (by kernel_rfl) rfl (fun vs m r hl h => match vs, hl with
    | [t0, t1, t5], _ => (le_laws_heldByteSS_0 k q t0 t1 t5 m).trans h)
  | _ + 1, _ + 1, h => absurd h (by omega)
theorem ok_X_laws_heldByteSS : OkX CT 179 X_laws_heldByteSS := OkX.of_ex (cf := cf_laws_heldByteSS) (np := 2) (LL := LL_laws_heldByteSS) (J := (fun k => J_laws_heldByteSS k QQ)) CT_ok rfl Try.func179 rfl (Nat.le_of_ble_eq_true rfl) (by decide) cok_laws_heldByteSS okc_laws_heldByteSS (fun k => allLoops rfl (by kernel_rfl) (gl_laws_heldByteSS k QQ)) (fun args m r h => match args, h with
    | [t0, t1], h => ⟨rfl, (xe_laws_heldByteSS t0 t1 m).trans h⟩)
theorem ok_C_laws_heldByteSS : OkC CT 179 C_laws_heldByteSS := fcall_ok rfl ok_X_laws_heldByteSS

/-! ### laws.heldLine -/
noncomputable def cf_laws_heldLine : CallF := cfc 132 C_laws_heldByteS (cfc 179 C_laws_heldByteSS cfn)
noncomputable def X_laws_heldLine : List Value → Mem → Option VM
  | [t0, t1], m =>
    (boxX m t0) |> bo fun r1 =>
    (fadX 0 r1.1) |> bo fun t5 =>
    (ld1 r1.2 t5) |> bo fun t6 =>
    (C_laws_heldByteSS [t6, t1] r1.2) |> bo fun r4 =>
    (binX .lss .no r4.1 (.int .i64 0)) |> bo fun t10 =>
    brX t10
      (
        retK m.length r4.2 [t0, r4.1] (.int .i64 (-1)))
      (
        (fadX 1 r1.1) |> bo fun t11 =>
        (ld1 r4.2 t11) |> bo fun t12 =>
        (C_laws_heldByteS [t12, r4.1] r4.2) |> bo fun r8 =>
        (binX .lss .no r8.1 (.int .i64 0)) |> bo fun t16 =>
        brX t16
          (
            retK m.length r8.2 [t0, r8.1] (.int .i64 (-1)))
          (
            retK m.length r8.2 [t0, r8.1] r8.1))
  | _, _ => none
noncomputable def C_laws_heldLine : List Value → Mem → Option VM := fcall X_laws_heldLine
@[simp] theorem c_laws_heldLine : C_laws_heldLine = fcall X_laws_heldLine := (rfl)
theorem cok_laws_heldLine : codeOk CT Try.f149 (Try.f149.body.get rfl) = true := by kernel_rfl
theorem xe_laws_heldLine (t0 t1 : Value) (m : Mem) : ex CT cf_laws_heldLine Try.f149 2 m.length [] (fun _ _ _ => none) 400 [.code (Try.f149.body.get rfl)] (argsT 0 [t0, t1]) m = X_laws_heldLine [t0, t1] m := by kernel_rfl
theorem okc_laws_heldLine : CallOK CT cf_laws_heldLine := cfc_ok ok_C_laws_heldByteS (cfc_ok ok_C_laws_heldByteSS cfn_ok)
theorem ok_X_laws_heldLine : OkX CT 149 X_laws_heldLine := OkX.of_ex (cf := cf_laws_heldLine) (np := 2) (LL := []) (J := (fun _ _ _ _ => none)) CT_ok rfl Try.func149 rfl (Nat.le_of_ble_eq_true rfl) (by decide) cok_laws_heldLine okc_laws_heldLine (fun k => noLoops rfl) (fun args m r h => match args, h with
    | [t0, t1], h => ⟨rfl, (xe_laws_heldLine t0 t1 m).trans h⟩)
theorem ok_C_laws_heldLine : OkC CT 149 C_laws_heldLine := fcall_ok rfl ok_X_laws_heldLine

/-! ### laws.heldLineResult -/
noncomputable def cf_laws_heldLineResult : CallF := cfc 132 C_laws_heldByteS (cfc 149 C_laws_heldLine cfn)
noncomputable def X_laws_heldLineResult : List Value → Mem → Option VM
  | [t0, t1], m =>
    (boxX m t0) |> bo fun r1 =>
    (fadX 2 r1.1) |> bo fun t5 =>
    (ld1 r1.2 t5) |> bo fun t6 =>
    (C_laws_heldByteS [t6, t1] r1.2) |> bo fun r4 =>
    (binX .lss .no r4.1 (.int .i64 0)) |> bo fun t10 =>
    brX t10
      (
        retK m.length r4.2 [t0, r4.1] (.int .i64 (-1)))
      (
        (fadX 3 r1.1) |> bo fun t11 =>
        (ld1 r4.2 t11) |> bo fun t12 =>
        (C_laws_heldByteS [t12, r4.1] r4.2) |> bo fun r8 =>
        (binX .lss .no r8.1 (.int .i64 0)) |> bo fun t16 =>
        brX t16
          (
            retK m.length r8.2 [t0, r8.1] (.int .i64 (-1)))
          (
            (fadX 4 r1.1) |> bo fun t17 =>
            (ldS r8.2 4 t17) |> bo fun t18 =>
            (C_laws_heldLine [t18, r8.1] r8.2) |> bo fun r12 =>
            (binX .lss .no r12.1 (.int .i64 0)) |> bo fun t22 =>
            brX t22
              (
                retK m.length r12.2 [t0, r12.1] (.int .i64 (-1)))
              (
                retK m.length r12.2 [t0, r12.1] r12.1)))
  | _, _ => none
noncomputable def C_laws_heldLineResult : List Value → Mem → Option VM := fcall X_laws_heldLineResult
@[simp] theorem c_laws_heldLineResult : C_laws_heldLineResult = fcall X_laws_heldLineResult := (rfl)
theorem cok_laws_heldLineResult : codeOk CT Try.f78 (Try.f78.body.get rfl) = true := by kernel_rfl
theorem xe_laws_heldLineResult (t0 t1 : Value) (m : Mem) : ex CT cf_laws_heldLineResult Try.f78 2 m.length [] (fun _ _ _ => none) 400 [.code (Try.f78.body.get rfl)] (argsT 0 [t0, t1]) m = X_laws_heldLineResult [t0, t1] m := by kernel_rfl
theorem okc_laws_heldLineResult : CallOK CT cf_laws_heldLineResult := cfc_ok ok_C_laws_heldByteS (cfc_ok ok_C_laws_heldLine cfn_ok)
theorem ok_X_laws_heldLineResult : OkX CT 78 X_laws_heldLineResult := OkX.of_ex (cf := cf_laws_heldLineResult) (np := 2) (LL := []) (J := (fun _ _ _ _ => none)) CT_ok rfl Try.func78 rfl (Nat.le_of_ble_eq_true rfl) (by decide) cok_laws_heldLineResult okc_laws_heldLineResult (fun k => noLoops rfl) (fun args m r h => match args, h with
    | [t0, t1], h => ⟨rfl, (xe_laws_heldLineResult t0 t1 m).trans h⟩)
theorem ok_C_laws_heldLineResult : OkC CT 78 C_laws_heldLineResult := fcall_ok rfl ok_X_laws_heldLineResult

/-! ### laws.FnExactReadLine -/
noncomputable def cf_laws_FnExactReadLine : CallF := cfc 69 C_laws_szLine (cfc 70 C_spec_ReadLine (cfc 71 C_laws_toWay (cfc 72 C_laws_toLine (cfc 73 C_impl_ReadLine (cfc 74 C_laws_eqLineResult (cfc 75 C_laws_eqLine (cfc 76 C_laws_markLine (cfc 77 C_laws_markLineResult (cfc 78 C_laws_heldLineResult cfn)))))))))
noncomputable def X_laws_FnExactReadLine : List Value → Mem → Option VM
  | [t0, t1, t2], m =>
    (boxX m t0) |> bo fun r1 =>
    (boxX r1.2 t1) |> bo fun r2 =>
    (ldS r2.2 4 r2.1) |> bo fun t15 =>
    (C_laws_szLine [t15, (.int .i64 1048576)] r2.2) |> bo fun r4 =>
    (binX .lss .no r4.1 (.int .i64 0)) |> bo fun t19 =>
    brX t19
      (
        retK m.length r4.2 [t0, t1, t2] (.bool true))
      (
        (ldS r4.2 7 r1.1) |> bo fun t20 =>
        (C_laws_toWay [t20] r4.2) |> bo fun r7 =>
        (ldS r7.2 4 r2.1) |> bo fun t22 =>
        (C_laws_toLine [t22] r7.2) |> bo fun r9 =>
        (C_spec_ReadLine [r7.1, r9.1, t2] r9.2) |> bo fun r10 =>
        (alX r10.2 [.int .i64 0, .bool false, .slice none 0 0, .slice none 0 0, .slice none 0 0, .slice none 0 0, .bool false, .int .i64 0]) |> bo fun r11 =>
        (stX r11.2 8 r11.1 r10.1) |> bo fun m12 =>
        gP (stbL [((rdN r2.1), r4.2, r7.2)])
          (
            (ldS m12 4 r2.1) |> bo fun t26 =>
            (C_laws_toLine [t26] m12) |> bo fun r14 =>
            (alX r14.2 [.slice none 0 0, .slice none 0 0, .bool false, .int .i64 0]) |> bo fun r15 =>
            (stX r15.2 4 r15.1 r14.1) |> bo fun m16 =>
            (ldS m16 7 r1.1) |> bo fun t28 =>
            (C_laws_toWay [t28] m16) |> bo fun r18 =>
            (ldS r18.2 4 r15.1) |> bo fun t30 =>
            (C_impl_ReadLine [r18.1, t30, t2] r18.2) |> bo fun r20 =>
            (alX r20.2 [.int .i64 0, .bool false, .slice none 0 0, .slice none 0 0, .slice none 0 0, .slice none 0 0, .bool false, .int .i64 0]) |> bo fun r21 =>
            (stX r21.2 8 r21.1 r20.1) |> bo fun m22 =>
            gP (stbL [((rdN r15.1), m16, r18.2)])
              (
                (ldS m22 8 r21.1) |> bo fun t33 =>
                (ldS m22 8 r11.1) |> bo fun t34 =>
                (C_laws_eqLineResult [t33, t34] m22) |> bo fun r25 =>
                (uop .not r25.1) |> bo fun t36 =>
                brX t36
                  (
                    retK m.length r25.2 [t0, t1, t2] (.bool false))
                  (
                    (ldS r25.2 4 r15.1) |> bo fun t37 =>
                    (ldS r25.2 4 r2.1) |> bo fun t38 =>
                    (C_laws_toLine [t38] r25.2) |> bo fun r29 =>
                    (C_laws_eqLine [t37, r29.1] r29.2) |> bo fun r30 =>
                    (uop .not r30.1) |> bo fun t41 =>
                    gP (stbL [((rdN r15.1), r25.2, r29.2)])
                      (
                        brX t41
                          (
                            retK m.length r30.2 [t0, t1, t2] (.bool false))
                          (
                            (ldS r30.2 4 r15.1) |> bo fun t42 =>
                            (C_laws_markLine [t42, (.int .i64 1)] r30.2) |> bo fun r33 =>
                            (binX .lss .no r33.1 (.int .i64 0)) |> bo fun t46 =>
                            (gd t46 false ((ldS r33.2 8 r21.1) |> bo fun v => some (v, r33.2)) r33.2) |> bo fun r35 =>
                            (gd t46 false ((ldS r35.2 8 r11.1) |> bo fun v => some (v, r35.2)) r35.2) |> bo fun r36 =>
                            (gd t46 false ((C_laws_eqLineResult [r35.1, r36.1] r36.2) |> bo fun r => some (r.1, r.2)) r36.2) |> bo fun r37 =>
                            (gd t46 false ((uop .not r37.1) |> bo fun v => some (v, r37.2)) r37.2) |> bo fun r38 =>
                            (pickX t46 (.bool true) r38.1) |> bo fun t52 =>
                            brX t52
                              (
                                retK m.length r38.2 [t0, t1, t2] (.bool false))
                              (
                                (ldS r38.2 8 r21.1) |> bo fun t53 =>
                                (C_laws_markLineResult [t53, (.int .i64 1)] r38.2) |> bo fun r41 =>
                                (ldS r41.2 8 r21.1) |> bo fun t56 =>
                                (C_laws_heldLineResult [t56, (.int .i64 1)] r41.2) |> bo fun r43 =>
                                (binX .lss .no r43.1 (.int .i64 0)) |> bo fun t60 =>
                                brX t60
                                  (
                                    retK m.length r43.2 [t0, t1, t2] (.bool false))
                                  (
                                    (binX .neq .no r43.1 r41.1) |> bo fun t63 =>
                                    brX t63
                                      (
                                        retK m.length r43.2 [t0, t1, t2] (.bool false))
                                      (
                                        (ldS r43.2 7 r1.1) |> bo fun t64 =>
                                        (C_laws_toWay [t64] r43.2) |> bo fun r47 =>
                                        (ldS r47.2 4 r2.1) |> bo fun t66 =>
                                        (C_laws_toLine [t66] r47.2) |> bo fun r49 =>
                                        (C_impl_ReadLine [r47.1, r49.1, t2] r49.2) |> bo fun r50 =>
                                        (alX r50.2 [.int .i64 0, .bool false, .slice none 0 0, .slice none 0 0, .slice none 0 0, .slice none 0 0, .bool false, .int .i64 0]) |> bo fun r51 =>
                                        (stX r51.2 8 r51.1 r50.1) |> bo fun m52 =>
                                        gP (stbL [((rdN r2.1), r43.2, r47.2)])
                                          (
                                            (ldS m52 8 r51.1) |> bo fun t70 =>
                                            (ldS m52 8 r11.1) |> bo fun t71 =>
                                            (C_laws_eqLineResult [t70, t71] m52) |> bo fun r55 =>
                                            (uop .not r55.1) |> bo fun t73 =>
                                            brX t73
                                              (
                                                retK m.length r55.2 [t0, t1, t2] (.bool false))
                                              (
                                                (ldS r55.2 8 r21.1) |> bo fun t74 =>
                                                (C_laws_heldLineResult [t74, (.int .i64 1)] r55.2) |> bo fun r58 =>
                                                (binX .lss .no r58.1 (.int .i64 0)) |> bo fun t78 =>
                                                brX t78
                                                  (
                                                    retK m.length r58.2 [t0, t1, t2] (.bool false))
                                                  (
                                                    (binX .neq .no r58.1 r41.1) |> bo fun t81 =>
                                                    brX t81
                                                      (
                                                        retK m.length r58.2 [t0, t1, t2] (.bool false))
                                                      (
                                                        retK m.length r58.2 [t0, t1, t2] (.bool true))))))))))))))
  | _, _ => none
noncomputable def C_laws_FnExactReadLine : List Value → Mem → Option VM := fcall X_laws_FnExactReadLine
@[simp] theorem c_laws_FnExactReadLine : C_laws_FnExactReadLine = fcall X_laws_FnExactReadLine := (rfl)
theorem cok_laws_FnExactReadLine : codeOk CT Try.f10 (Try.f10.body.get rfl) = true := by kernel_rfl
theorem xe_laws_FnExactReadLine (t0 t1 t2 : Value) (m : Mem) : ex CT cf_laws_FnExactReadLine Try.f10 3 m.length [] (fun _ _ _ => none) 400 [.code (Try.f10.body.get rfl)] (argsT 0 [t0, t1, t2]) m = X_laws_FnExactReadLine [t0, t1, t2] m := by kernel_rfl
theorem okc_laws_FnExactReadLine : CallOK CT cf_laws_FnExactReadLine := cfc_ok ok_C_laws_szLine (cfc_ok ok_C_spec_ReadLine (cfc_ok ok_C_laws_toWay (cfc_ok ok_C_laws_toLine (cfc_ok ok_C_impl_ReadLine (cfc_ok ok_C_laws_eqLineResult (cfc_ok ok_C_laws_eqLine (cfc_ok ok_C_laws_markLine (cfc_ok ok_C_laws_markLineResult (cfc_ok ok_C_laws_heldLineResult cfn_ok)))))))))
theorem ok_X_laws_FnExactReadLine : OkX CT 10 X_laws_FnExactReadLine := OkX.of_ex (cf := cf_laws_FnExactReadLine) (np := 3) (LL := []) (J := (fun _ _ _ _ => none)) CT_ok rfl Try.func10 rfl (Nat.le_of_ble_eq_true rfl) (by decide) cok_laws_FnExactReadLine okc_laws_FnExactReadLine (fun k => noLoops rfl) (fun args m r h => match args, h with
    | [t0, t1, t2], h => ⟨rfl, (xe_laws_FnExactReadLine t0 t1 t2 m).trans h⟩)
theorem ok_C_laws_FnExactReadLine : OkC CT 10 C_laws_FnExactReadLine := fcall_ok rfl ok_X_laws_FnExactReadLine

end Go.Ab
