/- Plain forms of functions, printed by gen.py. -/
import Derived.Test.YtkfbpdbopkdnjaaCf3
import Derived.Test.YtkfbpdbopkdnjaaFC
import Derived.Test.YtkfbpdbopkdnjaaFD
set_option linter.unusedVariables false
set_option linter.unusedSimpArgs false
namespace Go.Ab
open Go.Proofs
set_option maxRecDepth 100000
set_option linter.unusedVariables false
/-! ### laws.lwBig -/
noncomputable def cf_laws_lwBig : CallF := cfn
noncomputable def X_laws_lwBig : List Value → Mem → Option VM
  | [t0], m =>
    (lenX t0) |> bo fun t4 =>
    (binX .gtr .no t4 (.int .i64 1048576)) |> bo fun t5 =>
    retK m.length m [t0] t5
  | _, _ => none
noncomputable def C_laws_lwBig : List Value → Mem → Option VM := fcall X_laws_lwBig
@[simp] theorem c_laws_lwBig : C_laws_lwBig = fcall X_laws_lwBig := (rfl)
theorem cok_laws_lwBig : codeOk CT Try.f12 (Try.f12.body.get rfl) = true := by kernel_rfl
theorem xe_laws_lwBig (t0 : Value) (m : Mem) : ex CT cf_laws_lwBig Try.f12 1 m.length [] (fun _ _ _ => none) 400 [.code (Try.f12.body.get rfl)] (argsT 0 [t0]) m = X_laws_lwBig [t0] m := by kernel_rfl
theorem okc_laws_lwBig : CallOK CT cf_laws_lwBig := cfn_ok
theorem ok_X_laws_lwBig : OkX CT 12 X_laws_lwBig := OkX.of_ex (cf := cf_laws_lwBig) (np := 1) (LL := []) (J := (fun _ _ _ _ => none)) CT_ok rfl Try.func12 rfl (Nat.le_of_ble_eq_true rfl) (by decide) cok_laws_lwBig okc_laws_lwBig (fun k => noLoops rfl) (fun args m r h => match args, h with
    | [t0], h => ⟨rfl, (xe_laws_lwBig t0 m).trans h⟩)
theorem ok_C_laws_lwBig : OkC CT 12 C_laws_lwBig := fcall_ok rfl ok_X_laws_lwBig

/-! ### spec.l1In -/
noncomputable def cf_spec_l1In : CallF := cfn
noncomputable def X_spec_l1In : List Value → Mem → Option VM
  | [t0, t1, t2], m =>
    (binX .geq .no t0 t1) |> bo fun t9 =>
    (gd t9 true (some (t0, m)) m) |> bo fun r2 =>
    (gd t9 true (some (t2, r2.2)) r2.2) |> bo fun r3 =>
    (gd t9 true ((binX .leq .no r2.1 r3.1) |> bo fun v => some (v, r3.2)) r3.2) |> bo fun r4 =>
    (pickX t9 r4.1 (.bool false)) |> bo fun t14 =>
    retK m.length r4.2 [t0, t1, t2] t14
  | _, _ => none
noncomputable def C_spec_l1In : List Value → Mem → Option VM := fcall X_spec_l1In
@[simp] theorem c_spec_l1In : C_spec_l1In = fcall X_spec_l1In := (rfl)
theorem cok_spec_l1In : codeOk CT Try.f119 (Try.f119.body.get rfl) = true := by kernel_rfl
theorem xe_spec_l1In (t0 t1 t2 : Value) (m : Mem) : ex CT cf_spec_l1In Try.f119 3 m.length [] (fun _ _ _ => none) 400 [.code (Try.f119.body.get rfl)] (argsT 0 [t0, t1, t2]) m = X_spec_l1In [t0, t1, t2] m := by kernel_rfl
theorem okc_spec_l1In : CallOK CT cf_spec_l1In := cfn_ok
theorem ok_X_spec_l1In : OkX CT 119 X_spec_l1In := OkX.of_ex (cf := cf_spec_l1In) (np := 3) (LL := []) (J := (fun _ _ _ _ => none)) CT_ok rfl Try.func119 rfl (Nat.le_of_ble_eq_true rfl) (by decide) cok_spec_l1In okc_spec_l1In (fun k => noLoops rfl) (fun args m r h => match args, h with
    | [t0, t1, t2], h => ⟨rfl, (xe_spec_l1In t0 t1 t2 m).trans h⟩)
theorem ok_C_spec_l1In : OkC CT 119 C_spec_l1In := fcall_ok rfl ok_X_spec_l1In

/-! ### spec.l10List -/
noncomputable def cf_spec_l10List : CallF := cfn
noncomputable def X_spec_l10List : List Value → Mem → Option VM
  | [t0], m =>
    (nilX t0) |> bo fun t4 =>
    (fadX 0 t4) |> bo fun t5 =>
    (ld1 m t5) |> bo fun t6 =>
    (nilX t0) |> bo fun t8 =>
    (fadX 1 t8) |> bo fun t9 =>
    (ld1 m t9) |> bo fun t10 =>
    (nilX t0) |> bo fun t12 =>
    (fadX 2 t12) |> bo fun t13 =>
    (ld1 m t13) |> bo fun t14 =>
    (nilX t0) |> bo fun t16 =>
    (fadX 3 t16) |> bo fun t17 =>
    (ld1 m t17) |> bo fun t18 =>
    (nilX t0) |> bo fun t20 =>
    (fadX 4 t20) |> bo fun t21 =>
    (ld1 m t21) |> bo fun t22 =>
    (nilX t0) |> bo fun t24 =>
    (fadX 5 t24) |> bo fun t25 =>
    (ld1 m t25) |> bo fun t26 =>
    (nilX t0) |> bo fun t28 =>
    (fadX 6 t28) |> bo fun t29 =>
    (ld1 m t29) |> bo fun t30 =>
    (bslX m 7 1 [.int .i64 0] [(0, 1, t6), (1, 1, t10), (2, 1, t14), (3, 1, t18), (4, 1, t22), (5, 1, t26), (6, 1, t30)]) |> bo fun r22 =>
    retK m.length r22.2 [t0] r22.1
  | _, _ => none
noncomputable def C_spec_l10List : List Value → Mem → Option VM := fcall X_spec_l10List
@[simp] theorem c_spec_l10List : C_spec_l10List = fcall X_spec_l10List := (rfl)
theorem cok_spec_l10List : codeOk CT Try.f184 (Try.f184.body.get rfl) = true := by kernel_rfl
theorem xe_spec_l10List (t0 : Value) (m : Mem) : ex CT cf_spec_l10List Try.f184 1 m.length [] (fun _ _ _ => none) 400 [.code (Try.f184.body.get rfl)] (argsT 0 [t0]) m = X_spec_l10List [t0] m := by kernel_rfl
theorem okc_spec_l10List : CallOK CT cf_spec_l10List := cfn_ok
theorem ok_X_spec_l10List : OkX CT 184 X_spec_l10List := OkX.of_ex (cf := cf_spec_l10List) (np := 1) (LL := []) (J := (fun _ _ _ _ => none)) CT_ok rfl Try.func184 rfl (Nat.le_of_ble_eq_true rfl) (by decide) cok_spec_l10List okc_spec_l10List (fun k => noLoops rfl) (fun args m r h => match args, h with
    | [t0], h => ⟨rfl, (xe_spec_l10List t0 m).trans h⟩)
theorem ok_C_spec_l10List : OkC CT 184 C_spec_l10List := fcall_ok rfl ok_X_spec_l10List

/-! ### spec.l10Fault -/
noncomputable def cf_spec_l10Fault : CallF := cfc 119 C_spec_l1In (cfc 184 C_spec_l10List cfn)
noncomputable def L_spec_l10Fault (k : Nat) : Nat → Nat → List Value → Mem → Option VM
  | q + 1, 0, [t3, t4], m =>
    (lenX t3) |> bo fun t10 =>
    (binX .lss .no t4 t10) |> bo fun t11 =>
    brX t11
      (
        (binX .eql .no t4 (.int .i64 0)) |> bo fun t15 =>
        brX t15
          (
            (ixaX 1 t3 t4) |> bo fun t18 =>
            (ld1 m t18) |> bo fun t19 =>
            (C_spec_l1In [t19, (.int .i64 0), (.int .i64 511)] m) |> bo fun r6 =>
            (uop .not r6.1) |> bo fun t22 =>
            brX t22
              (
                retK k r6.2 [] (.int .i64 3))
              (
                (binX .add .no t4 (.int .i64 1)) |> bo fun t13 =>
                cutK k r6.2 [] [t3, t13] (L_spec_l10Fault k q 0)))
          (
            (ixaX 1 t3 t4) |> bo fun t18 =>
            (ld1 m t18) |> bo fun t19 =>
            (C_spec_l1In [t19, (.int .i64 0), (.int .i64 255)] m) |> bo fun r11 =>
            (uop .not r11.1) |> bo fun t22 =>
            brX t22
              (
                retK k r11.2 [] (.int .i64 3))
              (
                (binX .add .no t4 (.int .i64 1)) |> bo fun t13 =>
                cutK k r11.2 [] [t3, t13] (L_spec_l10Fault k q 0))))
      (
        retK k m [] (.int .i64 0))
  | _, _, _, _ => none
noncomputable def J_spec_l10Fault (k q l : Nat) : List Value → Mem → Option VM := cond (Nat.beq l 3) (L_spec_l10Fault k q 0) (fun _ _ => none)
def LL_spec_l10Fault : List (Nat × List Tmp) := [(3, [3, 4])]
noncomputable def X_spec_l10Fault : List Value → Mem → Option VM
  | [t0], m =>
    (C_spec_l10List [t0] m) |> bo fun r1 =>
    cutK m.length r1.2 [t0] [r1.1, (.int .i64 0)] (L_spec_l10Fault m.length QQ 0)
  | _, _ => none
noncomputable def C_spec_l10Fault : List Value → Mem → Option VM := fcall X_spec_l10Fault
@[simp] theorem c_spec_l10Fault : C_spec_l10Fault = fcall X_spec_l10Fault := (rfl)
theorem cok_spec_l10Fault : codeOk CT Try.f174 (Try.f174.body.get rfl) = true := by kernel_rfl
theorem xe_spec_l10Fault (t0 : Value) (m : Mem) : ex CT cf_spec_l10Fault Try.f174 1 m.length LL_spec_l10Fault (J_spec_l10Fault m.length QQ) 400 [.code (Try.f174.body.get rfl)] (argsT 0 [t0]) m = X_spec_l10Fault [t0] m := by kernel_rfl
theorem okc_spec_l10Fault : CallOK CT cf_spec_l10Fault := cfc_ok ok_C_spec_l1In (cfc_ok ok_C_spec_l10List cfn_ok)
theorem le_spec_l10Fault_0 (k q : Nat) (t3 t4 : Value) (m : Mem) : ex CT cf_spec_l10Fault Try.f174 1 k LL_spec_l10Fault (J_spec_l10Fault k q) 400 (atLoop Try.f174 0) [(3, t3), (4, t4)] m = J_spec_l10Fault k (q + 1) 3 [t3, t4] m := by kernel_rfl
theorem gl_spec_l10Fault (k : Nat) : ∀ q i, i < 1 → GoodL CT k Try.f174 LL_spec_l10Fault (J_spec_l10Fault k q) (atLoop Try.f174 i)
  | 0, 0, _ => goodL_zero (l := 3) (by kernel_rfl) (fun vs m => by kernel_rfl)
  | 0, _ + 1, h => absurd h (by omega)
  | q + 1, 0, _ => goodL_succ (np := 1) (l := 3) (live := [3, 4]) (n := 1) CT_ok rfl okc_spec_l10Fault (c := (Try.f174.body.get rfl)) rfl cok_spec_l10Fault (by kernel_rfl) (gl_spec_l10Fault k q) (by kernel_rfl) rfl (fun vs m r hl h => match vs, hl with
    | [t3, t4], _ => (le_spec_l10Fault_0 k q t3 t4 m).trans h)
  | _ + 1, _ + 1, h => absurd h (by omega)
theorem ok_X_spec_l10Fault : OkX CT 174 X_spec_l10Fault := OkX.of_ex (cf := cf_spec_l10Fault) (np := 1) (LL := LL_spec_l10Fault) (J := (fun k => J_spec_l10Fault k QQ)) CT_ok rfl Try.func174 rfl (Nat.le_of_ble_eq_true rfl) (by decide) cok_spec_l10Fault okc_spec_l10Fault (fun k => allLoops rfl (by kernel_rfl) (gl_spec_l10Fault k QQ)) (fun args m r h => match args, h with
    | [t0], h => ⟨rfl, (xe_spec_l10Fault t0 m).trans h⟩)
theorem ok_C_spec_l10Fault : OkC CT 174 C_spec_l10Fault := fcall_ok rfl ok_X_spec_l10Fault

/-! ### spec.l11Size -/
noncomputable def cf_spec_l11Size : CallF := cfn
noncomputable def L_spec_l11Size (k : Nat) : Nat → Nat → List Value → Mem → Option VM
  | q + 1, 0, [t0, t3, t4], m =>
    (nilX t0) |> bo fun t12 =>
    (fadX 0 t12) |> bo fun t13 =>
    (ld1 m t13) |> bo fun t14 =>
    (lenX t14) |> bo fun t15 =>
    (binX .lss .no t4 t15) |> bo fun t16 =>
    brX t16
      (
        (nilX t0) |> bo fun t21 =>
        (fadX 0 t21) |> bo fun t22 =>
        (ld1 m t22) |> bo fun t23 =>
        (ixaX 1 t23 t4) |> bo fun t25 =>
        (ld1 m t25) |> bo fun t26 =>
        (lenX t26) |> bo fun t27 =>
        (binX .add .no t3 t27) |> bo fun t28 =>
        (binX .add .no t4 (.int .i64 1)) |> bo fun t18 =>
        cutK k m [t0] [t0, t28, t18] (L_spec_l11Size k q 0))
      (
        retK k m [t0] t3)
  | _, _, _, _ => none
noncomputable def J_spec_l11Size (k q l : Nat) : List Value → Mem → Option VM := cond (Nat.beq l 3) (L_spec_l11Size k q 0) (fun _ _ => none)
def LL_spec_l11Size : List (Nat × List Tmp) := [(3, [0, 3, 4])]
noncomputable def X_spec_l11Size : List Value → Mem → Option VM
  | [t0], m =>
    (nilX t0) |> bo fun t6 =>
    (fadX 1 t6) |> bo fun t7 =>
    (ld1 m t7) |> bo fun t8 =>
    (lenX t8) |> bo fun t9 =>
    cutK m.length m [t0] [t0, t9, (.int .i64 0)] (L_spec_l11Size m.length QQ 0)
  | _, _ => none
noncomputable def C_spec_l11Size : List Value → Mem → Option VM := fcall X_spec_l11Size
@[simp] theorem c_spec_l11Size : C_spec_l11Size = fcall X_spec_l11Size := (rfl)
theorem cok_spec_l11Size : codeOk CT Try.f185 (Try.f185.body.get rfl) = true := by kernel_rfl
theorem xe_spec_l11Size (t0 : Value) (m : Mem) : ex CT cf_spec_l11Size Try.f185 1 m.length LL_spec_l11Size (J_spec_l11Size m.length QQ) 400 [.code (Try.f185.body.get rfl)] (argsT 0 [t0]) m = X_spec_l11Size [t0] m := by kernel_rfl
theorem okc_spec_l11Size : CallOK CT cf_spec_l11Size := cfn_ok
theorem le_spec_l11Size_0 (k q : Nat) (t0 t3 t4 : Value) (m : Mem) : ex CT cf_spec_l11Size Try.f185 1 k LL_spec_l11Size (J_spec_l11Size k q) 400 (atLoop Try.f185 0) [(0, t0), (3, t3), (4, t4)] m = J_spec_l11Size k (q + 1) 3 [t0, t3, t4] m := by kernel_rfl
theorem gl_spec_l11Size (k : Nat) : ∀ q i, i < 1 → GoodL CT k Try.f185 LL_spec_l11Size (J_spec_l11Size k q) (atLoop Try.f185 i)
  | 0, 0, _ => goodL_zero (l := 3) (by kernel_rfl) (fun vs m => by kernel_rfl)
  | 0, _ + 1, h => absurd h (by omega)
  | q + 1, 0, _ => goodL_succ (np := 1) (l := 3) (live := [0, 3, 4]) (n := 1) CT_ok rfl okc_spec_l11Size (c := (Try.f185.body.get rfl)) rfl cok_spec_l11Size (by kernel_rfl) (gl_spec_l11Size k q) (by kernel_rfl) rfl (fun vs m r hl h => match vs, hl with
    | [t0, t3, t4], _ => (le_spec_l11Size_0 k q t0 t3 t4 m).trans h)
  | _ + 1, _ + 1, h => absurd h (by omega)
theorem ok_X_spec_l11Size : OkX CT 185 X_spec_l11Size := OkX.of_ex (cf := cf_spec_l11Size) (np := 1) (LL := LL_spec_l11Size) (J := (fun k => J_spec_l11Size k QQ)) CT_ok rfl Try.func185 rfl (Nat.le_of_ble_eq_true rfl) (by decide) cok_spec_l11Size okc_spec_l11Size (fun k => allLoops rfl (by kernel_rfl) (gl_spec_l11Size k QQ)) (fun args m r h => match args, h with
    | [t0], h => ⟨rfl, (xe_spec_l11Size t0 m).trans h⟩)
theorem ok_C_spec_l11Size : OkC CT 185 C_spec_l11Size := fcall_ok rfl ok_X_spec_l11Size

/-! ### spec.l11Fault -/
noncomputable def cf_spec_l11Fault : CallF := cfc 119 C_spec_l1In (cfc 185 C_spec_l11Size cfn)
noncomputable def X_spec_l11Fault : List Value → Mem → Option VM
  | [t0], m =>
    (nilX t0) |> bo fun t4 =>
    (fadX 0 t4) |> bo fun t5 =>
    (ld1 m t5) |> bo fun t6 =>
    (lenX t6) |> bo fun t7 =>
    (binX .gtr .no t7 (.int .i64 40)) |> bo fun t8 =>
    (gd t8 false (some (t0, m)) m) |> bo fun r6 =>
    (gd t8 false ((C_spec_l11Size [r6.1] r6.2) |> bo fun r => some (r.1, r.2)) r6.2) |> bo fun r7 =>
    (gd t8 false ((binX .gtr .no r7.1 (.int .i64 40)) |> bo fun v => some (v, r7.2)) r7.2) |> bo fun r8 =>
    (pickX t8 (.bool true) r8.1) |> bo fun t13 =>
    brX t13
      (
        retK m.length r8.2 [t0] (.int .i64 2))
      (
        (nilX t0) |> bo fun t15 =>
        (fadX 3 t15) |> bo fun t16 =>
        (ld1 r8.2 t16) |> bo fun t17 =>
        (C_spec_l1In [t17, (.int .i64 0), (.int .i64 999)] r8.2) |> bo fun r13 =>
        (uop .not r13.1) |> bo fun t19 =>
        brX t19
          (
            retK m.length r13.2 [t0] (.int .i64 3))
          (
            retK m.length r13.2 [t0] (.int .i64 0)))
  | _, _ => none
noncomputable def C_spec_l11Fault : List Value → Mem → Option VM := fcall X_spec_l11Fault
@[simp] theorem c_spec_l11Fault : C_spec_l11Fault = fcall X_spec_l11Fault := (rfl)
theorem cok_spec_l11Fault : codeOk CT Try.f175 (Try.f175.body.get rfl) = true := by kernel_rfl
theorem xe_spec_l11Fault (t0 : Value) (m : Mem) : ex CT cf_spec_l11Fault Try.f175 1 m.length [] (fun _ _ _ => none) 400 [.code (Try.f175.body.get rfl)] (argsT 0 [t0]) m = X_spec_l11Fault [t0] m := by kernel_rfl
theorem okc_spec_l11Fault : CallOK CT cf_spec_l11Fault := cfc_ok ok_C_spec_l1In (cfc_ok ok_C_spec_l11Size cfn_ok)
theorem ok_X_spec_l11Fault : OkX CT 175 X_spec_l11Fault := OkX.of_ex (cf := cf_spec_l11Fault) (np := 1) (LL := []) (J := (fun _ _ _ _ => none)) CT_ok rfl Try.func175 rfl (Nat.le_of_ble_eq_true rfl) (by decide) cok_spec_l11Fault okc_spec_l11Fault (fun k => noLoops rfl) (fun args m r h => match args, h with
    | [t0], h => ⟨rfl, (xe_spec_l11Fault t0 m).trans h⟩)
theorem ok_C_spec_l11Fault : OkC CT 175 C_spec_l11Fault := fcall_ok rfl ok_X_spec_l11Fault

/-! ### spec.l11Asked -/
noncomputable def cf_spec_l11Asked : CallF := cfc 174 C_spec_l10Fault (cfc 175 C_spec_l11Fault cfn)
noncomputable def X_spec_l11Asked : List Value → Mem → Option VM
  | [t0, t1], m =>
    (C_spec_l10Fault [t0] m) |> bo fun r1 =>
    (binX .neq .no r1.1 (.int .i64 0)) |> bo fun t9 =>
    brX t9
      (
        retK m.length r1.2 [t0, t1] r1.1)
      (
        (C_spec_l11Fault [t1] r1.2) |> bo fun r3 =>
        retK m.length r3.2 [t0, t1] r3.1)
  | _, _ => none
noncomputable def C_spec_l11Asked : List Value → Mem → Option VM := fcall X_spec_l11Asked
@[simp] theorem c_spec_l11Asked : C_spec_l11Asked = fcall X_spec_l11Asked := (rfl)
theorem cok_spec_l11Asked : codeOk CT Try.f142 (Try.f142.body.get rfl) = true := by kernel_rfl
theorem xe_spec_l11Asked (t0 t1 : Value) (m : Mem) : ex CT cf_spec_l11Asked Try.f142 2 m.length [] (fun _ _ _ => none) 400 [.code (Try.f142.body.get rfl)] (argsT 0 [t0, t1]) m = X_spec_l11Asked [t0, t1] m := by kernel_rfl
theorem okc_spec_l11Asked : CallOK CT cf_spec_l11Asked := cfc_ok ok_C_spec_l10Fault (cfc_ok ok_C_spec_l11Fault cfn_ok)
theorem ok_X_spec_l11Asked : OkX CT 142 X_spec_l11Asked := OkX.of_ex (cf := cf_spec_l11Asked) (np := 2) (LL := []) (J := (fun _ _ _ _ => none)) CT_ok rfl Try.func142 rfl (Nat.le_of_ble_eq_true rfl) (by decide) cok_spec_l11Asked okc_spec_l11Asked (fun k => noLoops rfl) (fun args m r h => match args, h with
    | [t0, t1], h => ⟨rfl, (xe_spec_l11Asked t0 t1 m).trans h⟩)
theorem ok_C_spec_l11Asked : OkC CT 142 C_spec_l11Asked := fcall_ok rfl ok_X_spec_l11Asked

/-! ### spec.l1Copy -/
noncomputable def cf_spec_l1Copy : CallF := cfn
noncomputable def X_spec_l1Copy : List Value → Mem → Option VM
  | [t0], m =>
    (bslX m 0 1 [.int .u8 0] []) |> bo fun r1 =>
    (apL r1.2 1 1 r1.1 t0) |> bo fun r2 =>
    retK m.length r2.2 [t0] r2.1
  | _, _ => none
noncomputable def C_spec_l1Copy : List Value → Mem → Option VM := icall X_spec_l1Copy
@[simp] theorem c_spec_l1Copy : C_spec_l1Copy = icall X_spec_l1Copy := (rfl)
theorem cok_spec_l1Copy : codeOk CT Try.f172 (Try.f172.body.get rfl) = true := by kernel_rfl
theorem xe_spec_l1Copy (t0 : Value) (m : Mem) : ex CT cf_spec_l1Copy Try.f172 1 m.length [] (fun _ _ _ => none) 400 [.code (Try.f172.body.get rfl)] (argsT 0 [t0]) m = X_spec_l1Copy [t0] m := by kernel_rfl
theorem okc_spec_l1Copy : CallOK CT cf_spec_l1Copy := cfn_ok
theorem ok_X_spec_l1Copy : OkX CT 172 X_spec_l1Copy := OkX.of_ex (cf := cf_spec_l1Copy) (np := 1) (LL := []) (J := (fun _ _ _ _ => none)) CT_ok rfl Try.func172 rfl (Nat.le_of_ble_eq_true rfl) (by decide) cok_spec_l1Copy okc_spec_l1Copy (fun k => noLoops rfl) (fun args m r h => match args, h with
    | [t0], h => ⟨rfl, (xe_spec_l1Copy t0 m).trans h⟩)
theorem ok_C_spec_l1Copy : OkC CT 172 C_spec_l1Copy := icall_ok rfl ok_X_spec_l1Copy
noncomputable def Cf_spec_l1Copy : List Value → Mem → Option VM := fcall X_spec_l1Copy
@[simp] theorem cCf_spec_l1Copy : Cf_spec_l1Copy = fcall X_spec_l1Copy := (rfl)
theorem ok_Cf_spec_l1Copy : OkC CT 172 Cf_spec_l1Copy := fcall_ok rfl ok_X_spec_l1Copy

/-! ### spec.l11Copy -/
noncomputable def cf_spec_l11Copy : CallF := cfc 172 C_spec_l1Copy cfn
noncomputable def L_spec_l11Copy (k : Nat) : Nat → Nat → List Value → Mem → Option VM
  | q + 1, 0, [t0, t1, t2, t3, t4], m =>
    (fadX 0 t1) |> bo fun t14 =>
    (ld1 m t14) |> bo fun t15 =>
    (lenX t15) |> bo fun t16 =>
    (binX .lss .no t4 t16) |> bo fun t17 =>
    brX t17
      (
        (fadX 0 t3) |> bo fun t20 =>
        (ld1 m t20) |> bo fun t21 =>
        (fadX 0 t1) |> bo fun t22 =>
        (ld1 m t22) |> bo fun t23 =>
        (ixaX 1 t23 t4) |> bo fun t25 =>
        (ld1 m t25) |> bo fun t26 =>
        (C_spec_l1Copy [t26] m) |> bo fun r11 =>
        (bslX r11.2 1 1 [.slice none 0 0] [(0, 1, r11.1)]) |> bo fun r12 =>
        (apL r12.2 1 24 t21 r12.1) |> bo fun r13 =>
        (fadX 0 t3) |> bo fun t30 =>
        (stX r13.2 1 t30 r13.1) |> bo fun m15 =>
        gP (stbL [((rdN t20), m, r11.2)])
          (
            (binX .add .no t4 (.int .i64 1)) |> bo fun t19 =>
            cutK k m15 [t0] [t0, t1, t2, t3, t19] (L_spec_l11Copy k q 0)))
      (
        (ldS m 4 t3) |> bo fun t31 =>
        (stX m 4 t2 t31) |> bo fun m18 =>
        (resP (some 4) m18 t2) |> bo fun c19 =>
        retK k m18 [t0] c19)
  | _, _, _, _ => none
noncomputable def J_spec_l11Copy (k q l : Nat) : List Value → Mem → Option VM := cond (Nat.beq l 3) (L_spec_l11Copy k q 0) (fun _ _ => none)
def LL_spec_l11Copy : List (Nat × List Tmp) := [(3, [0, 1, 2, 3, 4])]
noncomputable def X_spec_l11Copy : List Value → Mem → Option VM
  | [t0], m =>
    (boxX m t0) |> bo fun r1 =>
    (alX r1.2 [.slice none 0 0, .slice none 0 0, .bool false, .int .i64 0]) |> bo fun r2 =>
    (fadX 1 r1.1) |> bo fun t5 =>
    (ld1 r2.2 t5) |> bo fun t6 =>
    (C_spec_l1Copy [t6] r2.2) |> bo fun r5 =>
    (fadX 2 r1.1) |> bo fun t8 =>
    (ld1 r5.2 t8) |> bo fun t9 =>
    (fadX 3 r1.1) |> bo fun t10 =>
    (ld1 r5.2 t10) |> bo fun t11 =>
    (bldX [.slice none 0 0, .slice none 0 0, .bool false, .int .i64 0] [(1, 1, r5.1), (2, 1, t9), (3, 1, t11)]) |> bo fun t12 =>
    (alX r5.2 [.slice none 0 0, .slice none 0 0, .bool false, .int .i64 0]) |> bo fun r11 =>
    (stX r11.2 4 r11.1 t12) |> bo fun m12 =>
    gP (stbL [((rdN t8), r2.2, r5.2), ((rdN t10), r2.2, r5.2)])
      (
        cutK m.length m12 [t0] [t0, r1.1, r2.1, r11.1, (.int .i64 0)] (L_spec_l11Copy m.length QQ 0))
  | _, _ => none
noncomputable def C_spec_l11Copy : List Value → Mem → Option VM := rcall X_spec_l11Copy
@[simp] theorem c_spec_l11Copy : C_spec_l11Copy = rcall X_spec_l11Copy := (rfl)
theorem cok_spec_l11Copy : codeOk CT Try.f143 (Try.f143.body.get rfl) = true := by kernel_rfl
theorem xe_spec_l11Copy (t0 : Value) (m : Mem) : ex CT cf_spec_l11Copy Try.f143 1 m.length LL_spec_l11Copy (J_spec_l11Copy m.length QQ) 400 [.code (Try.f143.body.get rfl)] (argsT 0 [t0]) m = X_spec_l11Copy [t0] m := by kernel_rfl
theorem okc_spec_l11Copy : CallOK CT cf_spec_l11Copy := cfc_ok ok_C_spec_l1Copy cfn_ok
theorem le_spec_l11Copy_0 (k q : Nat) (t0 t1 t2 t3 t4 : Value) (m : Mem) : ex CT cf_spec_l11Copy Try.f143 1 k LL_spec_l11Copy (J_spec_l11Copy k q) 400 (atLoop Try.f143 0) [(0, t0), (1, t1), (2, t2), (3, t3), (4, t4)] m = J_spec_l11Copy k (q + 1) 3 [t0, t1, t2, t3, t4] m := by kernel_rfl
theorem gl_spec_l11Copy (k : Nat) : ∀ q i, i < 1 → GoodL CT k Try.f143 LL_spec_l11Copy (J_spec_l11Copy k q) (atLoop Try.f143 i)
  | 0, 0, _ => goodL_zero (l := 3) (by kernel_rfl) (fun vs m => by kernel_rfl)
  | 0, _ + 1, h => absurd h (by omega)
  | q + 1, 0, _ => goodL_succ (np := 1) (l := 3) (live := [0, 1, 2, 3, 4]) (n := 1) CT_ok rfl okc_spec_l11Copy (c := (Try.f143.body.get rfl)) rfl cok_spec_l11Copy (by kernel_rfl) (gl_spec_l11Copy k q) (by kernel_rfl) rfl (fun vs m r hl h => match vs, hl with
    | [t0, t1, t2, t3, t4], _ => (le_spec_l11Copy_0 k q t0 t1 t2 t3 t4 m).trans h)
  | _ + 1, _ + 1, h => absurd h (by omega)
theorem ok_X_spec_l11Copy : OkX CT 143 X_spec_l11Copy := OkX.of_ex (cf := cf_spec_l11Copy) (np := 1) (LL := LL_spec_l11Copy) (J := (fun k => J_spec_l11Copy k QQ)) CT_ok rfl Try.func143 rfl (Nat.le_of_ble_eq_true rfl) (by decide) cok_spec_l11Copy okc_spec_l11Copy (fun k => allLoops rfl (by kernel_rfl) (gl_spec_l11Copy k QQ)) (fun args m r h => match args, h with
    | [t0], h => ⟨rfl, (xe_spec_l11Copy t0 m).trans h⟩)
theorem ok_C_spec_l11Copy : OkC CT 143 C_spec_l11Copy := rcall_ok rfl ok_X_spec_l11Copy

/-! ### spec.l1Min -/
noncomputable def cf_spec_l1Min : CallF := cfn
noncomputable def X_spec_l1Min : List Value → Mem → Option VM
  | [t0, t1], m =>
    (binX .lss .no t0 t1) |> bo fun t7 =>
    brX t7
      (
        retK m.length m [t0, t1] t0)
      (
        retK m.length m [t0, t1] t1)
  | _, _ => none
noncomputable def C_spec_l1Min : List Value → Mem → Option VM := fcall X_spec_l1Min
@[simp] theorem c_spec_l1Min : C_spec_l1Min = fcall X_spec_l1Min := (rfl)
theorem cok_spec_l1Min : codeOk CT Try.f176 (Try.f176.body.get rfl) = true := by kernel_rfl
theorem xe_spec_l1Min (t0 t1 : Value) (m : Mem) : ex CT cf_spec_l1Min Try.f176 2 m.length [] (fun _ _ _ => none) 400 [.code (Try.f176.body.get rfl)] (argsT 0 [t0, t1]) m = X_spec_l1Min [t0, t1] m := by kernel_rfl
theorem okc_spec_l1Min : CallOK CT cf_spec_l1Min := cfn_ok
theorem ok_X_spec_l1Min : OkX CT 176 X_spec_l1Min := OkX.of_ex (cf := cf_spec_l1Min) (np := 2) (LL := []) (J := (fun _ _ _ _ => none)) CT_ok rfl Try.func176 rfl (Nat.le_of_ble_eq_true rfl) (by decide) cok_spec_l1Min okc_spec_l1Min (fun k => noLoops rfl) (fun args m r h => match args, h with
    | [t0, t1], h => ⟨rfl, (xe_spec_l1Min t0 t1 m).trans h⟩)
theorem ok_C_spec_l1Min : OkC CT 176 C_spec_l1Min := fcall_ok rfl ok_X_spec_l1Min

/-! ### spec.l10Has -/
noncomputable def cf_spec_l10Has : CallF := cfn
noncomputable def X_spec_l10Has : List Value → Mem → Option VM
  | [t0, t1], m =>
    (nilX t0) |> bo fun t6 =>
    (fadX 0 t6) |> bo fun t7 =>
    (ld1 m t7) |> bo fun t8 =>
    (binX .and .no t8 t1) |> bo fun t10 =>
    (binX .neq .no t10 (.int .i64 0)) |> bo fun t11 =>
    retK m.length m [t0, t1] t11
  | _, _ => none
noncomputable def C_spec_l10Has : List Value → Mem → Option VM := fcall X_spec_l10Has
@[simp] theorem c_spec_l10Has : C_spec_l10Has = fcall X_spec_l10Has := (rfl)
theorem cok_spec_l10Has : codeOk CT Try.f177 (Try.f177.body.get rfl) = true := by kernel_rfl
theorem xe_spec_l10Has (t0 t1 : Value) (m : Mem) : ex CT cf_spec_l10Has Try.f177 2 m.length [] (fun _ _ _ => none) 400 [.code (Try.f177.body.get rfl)] (argsT 0 [t0, t1]) m = X_spec_l10Has [t0, t1] m := by kernel_rfl
theorem okc_spec_l10Has : CallOK CT cf_spec_l10Has := cfn_ok
theorem ok_X_spec_l10Has : OkX CT 177 X_spec_l10Has := OkX.of_ex (cf := cf_spec_l10Has) (np := 2) (LL := []) (J := (fun _ _ _ _ => none)) CT_ok rfl Try.func177 rfl (Nat.le_of_ble_eq_true rfl) (by decide) cok_spec_l10Has okc_spec_l10Has (fun k => noLoops rfl) (fun args m r h => match args, h with
    | [t0, t1], h => ⟨rfl, (xe_spec_l10Has t0 t1 m).trans h⟩)
theorem ok_C_spec_l10Has : OkC CT 177 C_spec_l10Has := fcall_ok rfl ok_X_spec_l10Has

/-! ### spec.l11Read -/
noncomputable def cf_spec_l11Read : CallF := cfc 172 C_spec_l1Copy (cfc 176 C_spec_l1Min (cfc 177 C_spec_l10Has cfn))
noncomputable def L_spec_l11Read (k : Nat) : Nat → Nat → List Value → Mem → Option VM
  | q + 1, 0, [t0, t1, t2, t7], m =>
    (nilX t1) |> bo fun t12 =>
    (fadX 0 t12) |> bo fun t13 =>
    (ld1 m t13) |> bo fun t14 =>
    (lenX t14) |> bo fun t15 =>
    (binX .gtr .no t15 (.int .i64 0)) |> bo fun t16 =>
    (gd t16 true (some (t7, m)) m) |> bo fun r6 =>
    (gd t16 true ((lenX r6.1) |> bo fun v => some (v, r6.2)) r6.2) |> bo fun r7 =>
    (gd t16 true (some (t2, r7.2)) r7.2) |> bo fun r8 =>
    (gd t16 true ((binX .lss .no r7.1 r8.1) |> bo fun v => some (v, r8.2)) r8.2) |> bo fun r9 =>
    (pickX t16 r9.1 (.bool false)) |> bo fun t22 =>
    brX t22
      (
        (nilX t1) |> bo fun t24 =>
        (fadX 0 t24) |> bo fun t25 =>
        (ld1 r9.2 t25) |> bo fun t26 =>
        (ixaX 1 t26 (.int .i64 0)) |> bo fun t27 =>
        (ld1 r9.2 t27) |> bo fun t28 =>
        (lenX t28) |> bo fun t30 =>
        (lenX t7) |> bo fun t33 =>
        (binX .sub .no t2 t33) |> bo fun t34 =>
        (C_spec_l1Min [t30, t34] r9.2) |> bo fun r19 =>
        (slX r19.2 1 t28 none (some r19.1)) |> bo fun t39 =>
        (apL r19.2 1 1 t7 t39) |> bo fun r21 =>
        (lenX t28) |> bo fun t43 =>
        (binX .lss .no r19.1 t43) |> bo fun t44 =>
        brX t44
          (
            (nilX t1) |> bo fun t46 =>
            (fadX 0 t46) |> bo fun t47 =>
            (ld1 r21.2 t47) |> bo fun t48 =>
            (slX r21.2 1 t28 (some r19.1) none) |> bo fun t51 =>
            (C_spec_l1Copy [t51] r21.2) |> bo fun r28 =>
            (ixaX 1 t48 (.int .i64 0)) |> bo fun t53 =>
            (stX r28.2 1 t53 r28.1) |> bo fun m30 =>
            gP (stbL [((rdN t47), r21.2, r28.2)])
              (
                retK k m30 [t0, t1, t2] r21.1))
          (
            (nilX t1) |> bo fun t57 =>
            (fadX 0 t57) |> bo fun t58 =>
            (ld1 r21.2 t58) |> bo fun t59 =>
            (slX r21.2 1 t59 (some (.int .i64 1)) none) |> bo fun t60 =>
            (nilX t1) |> bo fun t61 =>
            (fadX 0 t61) |> bo fun t62 =>
            (stX r21.2 1 t62 t60) |> bo fun m37 =>
            (C_spec_l10Has [t0, (.int .i64 1)] m37) |> bo fun r38 =>
            brX r38.1
              (
                retK k r38.2 [t0, t1, t2] r21.1)
              (
                cutK k r38.2 [t0, t1, t2] [t0, t1, t2, r21.1] (L_spec_l11Read k q 0))))
      (
        retK k r9.2 [t0, t1, t2] t7)
  | _, _, _, _ => none
noncomputable def J_spec_l11Read (k q l : Nat) : List Value → Mem → Option VM := cond (Nat.beq l 2) (L_spec_l11Read k q 0) (fun _ _ => none)
def LL_spec_l11Read : List (Nat × List Tmp) := [(2, [0, 1, 2, 7])]
noncomputable def X_spec_l11Read : List Value → Mem → Option VM
  | [t0, t1, t2], m =>
    (bslX m 0 1 [.int .u8 0] []) |> bo fun r1 =>
    cutK m.length r1.2 [t0, t1, t2] [t0, t1, t2, r1.1] (L_spec_l11Read m.length QQ 0)
  | _, _ => none
noncomputable def C_spec_l11Read : List Value → Mem → Option VM := rcall X_spec_l11Read
@[simp] theorem c_spec_l11Read : C_spec_l11Read = rcall X_spec_l11Read := (rfl)
theorem cok_spec_l11Read : codeOk CT Try.f144 (Try.f144.body.get rfl) = true := by kernel_rfl
theorem xe_spec_l11Read (t0 t1 t2 : Value) (m : Mem) : ex CT cf_spec_l11Read Try.f144 3 m.length LL_spec_l11Read (J_spec_l11Read m.length QQ) 400 [.code (Try.f144.body.get rfl)] (argsT 0 [t0, t1, t2]) m = X_spec_l11Read [t0, t1, t2] m := by kernel_rfl
theorem okc_spec_l11Read : CallOK CT cf_spec_l11Read := cfc_ok ok_C_spec_l1Copy (cfc_ok ok_C_spec_l1Min (cfc_ok ok_C_spec_l10Has cfn_ok))
theorem le_spec_l11Read_0 (k q : Nat) (t0 t1 t2 t7 : Value) (m : Mem) : ex CT cf_spec_l11Read Try.f144 3 k LL_spec_l11Read (J_spec_l11Read k q) 400 (atLoop Try.f144 0) [(0, t0), (1, t1), (2, t2), (7, t7)] m = J_spec_l11Read k (q + 1) 2 [t0, t1, t2, t7] m := by kernel_rfl
theorem gl_spec_l11Read (k : Nat) : ∀ q i, i < 1 → GoodL CT k Try.f144 LL_spec_l11Read (J_spec_l11Read k q) (atLoop Try.f144 i)
  | 0, 0, _ => goodL_zero (l := 2) (by kernel_rfl) (fun vs m => by kernel_rfl)
  | 0, _ + 1, h => absurd h (by omega)
  | q + 1, 0, _ => goodL_succ (np := 3) (l := 2) (live := [0, 1, 2, 7]) (n := 1) CT_ok rfl okc_spec_l11Read (c := (Try.f144.body.get rfl)) rfl cok_spec_l11Read (by kernel_rfl) (gl_spec_l11Read k q) (by kernel_rfl) rfl (fun vs m r hl h => match vs, hl with
    | [t0, t1, t2, t7], _ => (le_spec_l11Read_0 k q t0 t1 t2 t7 m).trans h)
  | _ + 1, _ + 1, h => absurd h (by omega)
theorem ok_X_spec_l11Read : OkX CT 144 X_spec_l11Read := OkX.of_ex (cf := cf_spec_l11Read) (np := 3) (LL := LL_spec_l11Read) (J := (fun k => J_spec_l11Read k QQ)) CT_ok rfl Try.func144 rfl (Nat.le_of_ble_eq_true rfl) (by decide) cok_spec_l11Read okc_spec_l11Read (fun k => allLoops rfl (by kernel_rfl) (gl_spec_l11Read k QQ)) (fun args m r h => match args, h with
    | [t0, t1, t2], h => ⟨rfl, (xe_spec_l11Read t0 t1 t2 m).trans h⟩)
theorem ok_C_spec_l11Read : OkC CT 144 C_spec_l11Read := rcall_ok rfl ok_X_spec_l11Read

/-! ### spec.ReadLine -/
noncomputable def cf_spec_ReadLine : CallF := cfc 119 C_spec_l1In (cfc 142 C_spec_l11Asked (cfc 143 C_spec_l11Copy (cfc 144 C_spec_l11Read cfn)))
noncomputable def X_spec_ReadLine : List Value → Mem → Option VM
  | [t0, t1, t2], m =>
    (boxX m t0) |> bo fun r1 =>
    (boxX r1.2 t1) |> bo fun r2 =>
    (alX r2.2 [.int .i64 0, .bool false, .slice none 0 0, .slice none 0 0, .slice none 0 0, .slice none 0 0, .bool false, .int .i64 0]) |> bo fun r3 =>
    (C_spec_l11Asked [r1.1, r2.1] r3.2) |> bo fun r4 =>
    (binX .neq .no r4.1 (.int .i64 0)) |> bo fun t11 =>
    brX t11
      (
        (bldX [.int .i64 0, .bool false, .slice none 0 0, .slice none 0 0, .slice none 0 0, .slice none 0 0, .bool false, .int .i64 0] [(0, 1, r4.1)]) |> bo fun t13 =>
        (stX r4.2 8 r3.1 t13) |> bo fun m7 =>
        (resP (some 8) m7 r3.1) |> bo fun c8 =>
        retK m.length m7 [t0, t1, t2] c8)
      (
        (C_spec_l1In [t2, (.int .i64 1), (.int .i64 99)] r4.2) |> bo fun r9 =>
        (uop .not r9.1) |> bo fun t16 =>
        brX t16
          (
            (bldX [.int .i64 0, .bool false, .slice none 0 0, .slice none 0 0, .slice none 0 0, .slice none 0 0, .bool false, .int .i64 0] [(0, 1, (.int .i64 3))]) |> bo fun t17 =>
            (stX r9.2 8 r3.1 t17) |> bo fun m12 =>
            (resP (some 8) m12 r3.1) |> bo fun c13 =>
            retK m.length m12 [t0, t1, t2] c13)
          (
            (ldS r9.2 4 r2.1) |> bo fun t18 =>
            (C_spec_l11Copy [t18] r9.2) |> bo fun r15 =>
            (fadX 0 r2.1) |> bo fun t20 =>
            (ld1 r15.2 t20) |> bo fun t21 =>
            (lenX t21) |> bo fun t22 =>
            (binX .gtr .no t22 (.int .i64 0)) |> bo fun t23 =>
            (bldX [.int .i64 0, .bool false, .slice none 0 0, .slice none 0 0, .slice none 0 0, .slice none 0 0, .bool false, .int .i64 0] [(4, 4, r15.1), (1, 1, t23)]) |> bo fun t24 =>
            (alX r15.2 [.int .i64 0, .bool false, .slice none 0 0, .slice none 0 0, .slice none 0 0, .slice none 0 0, .bool false, .int .i64 0]) |> bo fun r21 =>
            (stX r21.2 8 r21.1 t24) |> bo fun m22 =>
            gP (stbL [((rdN t20), r9.2, r15.2)])
              (
                (fadX 4 r21.1) |> bo fun t25 =>
                (C_spec_l11Read [r1.1, t25, t2] m22) |> bo fun r24 =>
                (fadX 2 r21.1) |> bo fun t28 =>
                (stX r24.2 1 t28 r24.1) |> bo fun m26 =>
                (ldS m26 8 r21.1) |> bo fun t29 =>
                (stX m26 8 r3.1 t29) |> bo fun m28 =>
                (resP (some 8) m28 r3.1) |> bo fun c29 =>
                retK m.length m28 [t0, t1, t2] c29)))
  | _, _ => none
noncomputable def C_spec_ReadLine : List Value → Mem → Option VM := icall X_spec_ReadLine
@[simp] theorem c_spec_ReadLine : C_spec_ReadLine = icall X_spec_ReadLine := (rfl)
theorem cok_spec_ReadLine : codeOk CT Try.f70 (Try.f70.body.get rfl) = true := by kernel_rfl
theorem xe_spec_ReadLine (t0 t1 t2 : Value) (m : Mem) : ex CT cf_spec_ReadLine Try.f70 3 m.length [] (fun _ _ _ => none) 400 [.code (Try.f70.body.get rfl)] (argsT 0 [t0, t1, t2]) m = X_spec_ReadLine [t0, t1, t2] m := by kernel_rfl
theorem okc_spec_ReadLine : CallOK CT cf_spec_ReadLine := cfc_ok ok_C_spec_l1In (cfc_ok ok_C_spec_l11Asked (cfc_ok ok_C_spec_l11Copy (cfc_ok ok_C_spec_l11Read cfn_ok)))
theorem ok_X_spec_ReadLine : OkX CT 70 X_spec_ReadLine := OkX.of_ex (cf := cf_spec_ReadLine) (np := 3) (LL := []) (J := (fun _ _ _ _ => none)) CT_ok rfl Try.func70 rfl (Nat.le_of_ble_eq_true rfl) (by decide) cok_spec_ReadLine okc_spec_ReadLine (fun k => noLoops rfl) (fun args m r h => match args, h with
    | [t0, t1, t2], h => ⟨rfl, (xe_spec_ReadLine t0 t1 t2 m).trans h⟩)
theorem ok_C_spec_ReadLine : OkC CT 70 C_spec_ReadLine := icall_ok rfl ok_X_spec_ReadLine

/-! ### impl.first -/
noncomputable def cf_impl_first : CallF := cfn
noncomputable def L_impl_first (k : Nat) : Nat → Nat → List Value → Mem → Option VM
  | q + 1, 0, [t5, t6, t7], m =>
    (binX .lss .no t7 t6) |> bo fun t8 =>
    brX t8
      (
        (ixaX 1 t5 t7) |> bo fun t9 =>
        (ld1 m t9) |> bo fun t10 =>
        (binX .neq .no t10 (.int .i64 0)) |> bo fun t12 =>
        brX t12
          (
            retK k m [] t10)
          (
            (binX .add .no t7 (.int .i64 1)) |> bo fun t14 =>
            cutK k m [] [t5, t6, t14] (L_impl_first k q 0)))
      (
        retK k m [] (.int .i64 0))
  | _, _, _, _ => none
noncomputable def J_impl_first (k q l : Nat) : List Value → Mem → Option VM := cond (Nat.beq l 2) (L_impl_first k q 0) (fun _ _ => none)
def LL_impl_first : List (Nat × List Tmp) := [(2, [5, 6, 7])]
noncomputable def X_impl_first : List Value → Mem → Option VM
  | [t0], m =>
    (lenX t0) |> bo fun t6 =>
    cutK m.length m [t0] [t0, t6, (.int .i64 0)] (L_impl_first m.length QQ 0)
  | _, _ => none
noncomputable def C_impl_first : List Value → Mem → Option VM := fcall X_impl_first
@[simp] theorem c_impl_first : C_impl_first = fcall X_impl_first := (rfl)
theorem cok_impl_first : codeOk CT Try.f88 (Try.f88.body.get rfl) = true := by kernel_rfl
theorem xe_impl_first (t0 : Value) (m : Mem) : ex CT cf_impl_first Try.f88 1 m.length LL_impl_first (J_impl_first m.length QQ) 400 [.code (Try.f88.body.get rfl)] (argsT 0 [t0]) m = X_impl_first [t0] m := by kernel_rfl
theorem okc_impl_first : CallOK CT cf_impl_first := cfn_ok
theorem le_impl_first_0 (k q : Nat) (t5 t6 t7 : Value) (m : Mem) : ex CT cf_impl_first Try.f88 1 k LL_impl_first (J_impl_first k q) 400 (atLoop Try.f88 0) [(5, t5), (6, t6), (7, t7)] m = J_impl_first k (q + 1) 2 [t5, t6, t7] m := by kernel_rfl
theorem gl_impl_first (k : Nat) : ∀ q i, i < 1 → GoodL CT k Try.f88 LL_impl_first (J_impl_first k q) (atLoop Try.f88 i)
  | 0, 0, _ => goodL_zero (l := 2) (by kernel_rfl) (fun vs m => by kernel_rfl)
  | 0, _ + 1, h => absurd h (by omega)
  | q + 1, 0, _ => goodL_succ (np := 1) (l := 2) (live := [5, 6, 7]) (n := 1) CT_ok rfl okc_impl_first (c := (Try.f88.body.get rfl)) rfl cok_impl_first (by kernel_rfl) (gl_impl_first k q) (by kernel_rfl) rfl (fun vs m r hl h => match vs, hl with
    | [t5, t6, t7], _ => (le_impl_first_0 k q t5 t6 t7 m).trans h)
  | _ + 1, _ + 1, h => absurd h (by omega)
theorem ok_X_impl_first : OkX CT 88 X_impl_first := OkX.of_ex (cf := cf_impl_first) (np := 1) (LL := LL_impl_first) (J := (fun k => J_impl_first k QQ)) CT_ok rfl Try.func88 rfl (Nat.le_of_ble_eq_true rfl) (by decide) cok_impl_first okc_impl_first (fun k => allLoops rfl (by kernel_rfl) (gl_impl_first k QQ)) (fun args m r h => match args, h with
    | [t0], h => ⟨rfl, (xe_impl_first t0 m).trans h⟩)
theorem ok_C_impl_first : OkC CT 88 C_impl_first := fcall_ok rfl ok_X_impl_first

/-! ### impl.unless -/
noncomputable def cf_impl_unless : CallF := cfn
noncomputable def X_impl_unless : List Value → Mem → Option VM
  | [t0, t1], m =>
    brX t0
      (
        retK m.length m [t0, t1] (.int .i64 0))
      (
        retK m.length m [t0, t1] t1)
  | _, _ => none
noncomputable def C_impl_unless : List Value → Mem → Option VM := fcall X_impl_unless
@[simp] theorem c_impl_unless : C_impl_unless = fcall X_impl_unless := (rfl)
theorem cok_impl_unless : codeOk CT Try.f89 (Try.f89.body.get rfl) = true := by kernel_rfl
theorem xe_impl_unless (t0 t1 : Value) (m : Mem) : ex CT cf_impl_unless Try.f89 2 m.length [] (fun _ _ _ => none) 400 [.code (Try.f89.body.get rfl)] (argsT 0 [t0, t1]) m = X_impl_unless [t0, t1] m := by kernel_rfl
theorem okc_impl_unless : CallOK CT cf_impl_unless := cfn_ok
theorem ok_X_impl_unless : OkX CT 89 X_impl_unless := OkX.of_ex (cf := cf_impl_unless) (np := 2) (LL := []) (J := (fun _ _ _ _ => none)) CT_ok rfl Try.func89 rfl (Nat.le_of_ble_eq_true rfl) (by decide) cok_impl_unless okc_impl_unless (fun k => noLoops rfl) (fun args m r h => match args, h with
    | [t0, t1], h => ⟨rfl, (xe_impl_unless t0 t1 m).trans h⟩)
theorem ok_C_impl_unless : OkC CT 89 C_impl_unless := fcall_ok rfl ok_X_impl_unless

/-! ### impl.in -/
noncomputable def cf_impl_in : CallF := cfn
noncomputable def X_impl_in : List Value → Mem → Option VM
  | [t0, t1, t2], m =>
    (binX .leq .no t1 t0) |> bo fun t9 =>
    (gd t9 true (some (t0, m)) m) |> bo fun r2 =>
    (gd t9 true (some (t2, r2.2)) r2.2) |> bo fun r3 =>
    (gd t9 true ((binX .leq .no r2.1 r3.1) |> bo fun v => some (v, r3.2)) r3.2) |> bo fun r4 =>
    (pickX t9 r4.1 (.bool false)) |> bo fun t14 =>
    retK m.length r4.2 [t0, t1, t2] t14
  | _, _ => none
noncomputable def C_impl_in : List Value → Mem → Option VM := fcall X_impl_in
@[simp] theorem c_impl_in : C_impl_in = fcall X_impl_in := (rfl)
theorem cok_impl_in : codeOk CT Try.f99 (Try.f99.body.get rfl) = true := by kernel_rfl
theorem xe_impl_in (t0 t1 t2 : Value) (m : Mem) : ex CT cf_impl_in Try.f99 3 m.length [] (fun _ _ _ => none) 400 [.code (Try.f99.body.get rfl)] (argsT 0 [t0, t1, t2]) m = X_impl_in [t0, t1, t2] m := by kernel_rfl
theorem okc_impl_in : CallOK CT cf_impl_in := cfn_ok
theorem ok_X_impl_in : OkX CT 99 X_impl_in := OkX.of_ex (cf := cf_impl_in) (np := 3) (LL := []) (J := (fun _ _ _ _ => none)) CT_ok rfl Try.func99 rfl (Nat.le_of_ble_eq_true rfl) (by decide) cok_impl_in okc_impl_in (fun k => noLoops rfl) (fun args m r h => match args, h with
    | [t0, t1, t2], h => ⟨rfl, (xe_impl_in t0 t1 t2 m).trans h⟩)
theorem ok_C_impl_in : OkC CT 99 C_impl_in := fcall_ok rfl ok_X_impl_in

/-! ### (impl.Line).size -/
noncomputable def cf_impl_Line_size : CallF := cfn
noncomputable def L_impl_Line_size (k : Nat) : Nat → Nat → List Value → Mem → Option VM
  | q + 1, 0, [t3, t10, t11, t12], m =>
    (binX .lss .no t12 t11) |> bo fun t13 =>
    brX t13
      (
        (ixaX 1 t10 t12) |> bo fun t14 =>
        (ld1 m t14) |> bo fun t15 =>
        (lenX t15) |> bo fun t18 =>
        (binX .add .no t3 t18) |> bo fun t19 =>
        (binX .add .no t12 (.int .i64 1)) |> bo fun t20 =>
        cutK k m [] [t19, t10, t11, t20] (L_impl_Line_size k q 0))
      (
        retK k m [] t3)
  | _, _, _, _ => none
noncomputable def J_impl_Line_size (k q l : Nat) : List Value → Mem → Option VM := cond (Nat.beq l 3) (L_impl_Line_size k q 0) (fun _ _ => none)
def LL_impl_Line_size : List (Nat × List Tmp) := [(3, [3, 10, 11, 12])]
noncomputable def X_impl_Line_size : List Value → Mem → Option VM
  | [t0], m =>
    (boxX m t0) |> bo fun r1 =>
    (fadX 1 r1.1) |> bo fun t6 =>
    (ld1 r1.2 t6) |> bo fun t7 =>
    (lenX t7) |> bo fun t8 =>
    (fadX 0 r1.1) |> bo fun t9 =>
    (ld1 r1.2 t9) |> bo fun t10 =>
    (lenX t10) |> bo fun t11 =>
    cutK m.length r1.2 [t0] [t8, t10, t11, (.int .i64 0)] (L_impl_Line_size m.length QQ 0)
  | _, _ => none
noncomputable def C_impl_Line_size : List Value → Mem → Option VM := fcall X_impl_Line_size
@[simp] theorem c_impl_Line_size : C_impl_Line_size = fcall X_impl_Line_size := (rfl)
theorem cok_impl_Line_size : codeOk CT Try.f151 (Try.f151.body.get rfl) = true := by kernel_rfl
theorem xe_impl_Line_size (t0 : Value) (m : Mem) : ex CT cf_impl_Line_size Try.f151 1 m.length LL_impl_Line_size (J_impl_Line_size m.length QQ) 400 [.code (Try.f151.body.get rfl)] (argsT 0 [t0]) m = X_impl_Line_size [t0] m := by kernel_rfl
theorem okc_impl_Line_size : CallOK CT cf_impl_Line_size := cfn_ok
theorem le_impl_Line_size_0 (k q : Nat) (t3 t10 t11 t12 : Value) (m : Mem) : ex CT cf_impl_Line_size Try.f151 1 k LL_impl_Line_size (J_impl_Line_size k q) 400 (atLoop Try.f151 0) [(3, t3), (10, t10), (11, t11), (12, t12)] m = J_impl_Line_size k (q + 1) 3 [t3, t10, t11, t12] m := by kernel_rfl
theorem gl_impl_Line_size (k : Nat) : ∀ q i, i < 1 → GoodL CT k Try.f151 LL_impl_Line_size (J_impl_Line_size k q) (atLoop Try.f151 i)
  | 0, 0, _ => goodL_zero (l := 3) (by kernel_rfl) (fun vs m => by kernel_rfl)
  | 0, _ + 1, h => absurd h (by omega)
  | q + 1, 0, _ => goodL_succ (np := 1) (l := 3) (live := [3, 10, 11, 12]) (n := 1) CT_ok rfl okc_impl_Line_size (c := (Try.f151.body.get rfl)) rfl cok_impl_Line_size (by kernel_rfl) (gl_impl_Line_size k q) (by kernel_rfl) rfl (fun vs m r hl h => match vs, hl with
    | [t3, t10, t11, t12], _ => (le_impl_Line_size_0 k q t3 t10 t11 t12 m).trans h)
  | _ + 1, _ + 1, h => absurd h (by omega)
theorem ok_X_impl_Line_size : OkX CT 151 X_impl_Line_size := OkX.of_ex (cf := cf_impl_Line_size) (np := 1) (LL := LL_impl_Line_size) (J := (fun k => J_impl_Line_size k QQ)) CT_ok rfl Try.func151 rfl (Nat.le_of_ble_eq_true rfl) (by decide) cok_impl_Line_size okc_impl_Line_size (fun k => allLoops rfl (by kernel_rfl) (gl_impl_Line_size k QQ)) (fun args m r h => match args, h with
    | [t0], h => ⟨rfl, (xe_impl_Line_size t0 m).trans h⟩)
theorem ok_C_impl_Line_size : OkC CT 151 C_impl_Line_size := fcall_ok rfl ok_X_impl_Line_size

/-! ### impl.LineFault -/
noncomputable def cf_impl_LineFault : CallF := cfc 88 C_impl_first (cfc 89 C_impl_unless (cfc 99 C_impl_in (cfc 151 C_impl_Line_size cfn)))
noncomputable def X_impl_LineFault : List Value → Mem → Option VM
  | [t0], m =>
    (boxX m t0) |> bo fun r1 =>
    (fadX 0 r1.1) |> bo fun t3 =>
    (ld1 r1.2 t3) |> bo fun t4 =>
    (lenX t4) |> bo fun t5 =>
    (binX .leq .no t5 (.int .i64 40)) |> bo fun t6 =>
    (gd t6 true ((ldS r1.2 4 r1.1) |> bo fun v => some (v, r1.2)) r1.2) |> bo fun r6 =>
    (gd t6 true ((C_impl_Line_size [r6.1] r6.2) |> bo fun r => some (r.1, r.2)) r6.2) |> bo fun r7 =>
    (gd t6 true ((binX .leq .no r7.1 (.int .i64 40)) |> bo fun v => some (v, r7.2)) r7.2) |> bo fun r8 =>
    (pickX t6 r8.1 (.bool false)) |> bo fun t11 =>
    (C_impl_unless [t11, (.int .i64 2)] r8.2) |> bo fun r10 =>
    (fadX 3 r1.1) |> bo fun t13 =>
    (ld1 r10.2 t13) |> bo fun t14 =>
    (C_impl_in [t14, (.int .i64 0), (.int .i64 999)] r10.2) |> bo fun r13 =>
    (C_impl_unless [r13.1, (.int .i64 3)] r13.2) |> bo fun r14 =>
    (bslX r14.2 2 1 [.int .i64 0] [(0, 1, r10.1), (1, 1, r14.1)]) |> bo fun r15 =>
    (C_impl_first [r15.1] r15.2) |> bo fun r16 =>
    gP (stbL [((rdN t13), r6.2, r7.2), ((rdN t13), r8.2, r10.2)])
      (
        retK m.length r16.2 [t0] r16.1)
  | _, _ => none
noncomputable def C_impl_LineFault : List Value → Mem → Option VM := fcall X_impl_LineFault
@[simp] theorem c_impl_LineFault : C_impl_LineFault = fcall X_impl_LineFault := (rfl)
theorem cok_impl_LineFault : codeOk CT Try.f82 (Try.f82.body.get rfl) = true := by kernel_rfl
theorem xe_impl_LineFault (t0 : Value) (m : Mem) : ex CT cf_impl_LineFault Try.f82 1 m.length [] (fun _ _ _ => none) 400 [.code (Try.f82.body.get rfl)] (argsT 0 [t0]) m = X_impl_LineFault [t0] m := by kernel_rfl
theorem okc_impl_LineFault : CallOK CT cf_impl_LineFault := cfc_ok ok_C_impl_first (cfc_ok ok_C_impl_unless (cfc_ok ok_C_impl_in (cfc_ok ok_C_impl_Line_size cfn_ok)))
theorem ok_X_impl_LineFault : OkX CT 82 X_impl_LineFault := OkX.of_ex (cf := cf_impl_LineFault) (np := 1) (LL := []) (J := (fun _ _ _ _ => none)) CT_ok rfl Try.func82 rfl (Nat.le_of_ble_eq_true rfl) (by decide) cok_impl_LineFault okc_impl_LineFault (fun k => noLoops rfl) (fun args m r h => match args, h with
    | [t0], h => ⟨rfl, (xe_impl_LineFault t0 m).trans h⟩)
theorem ok_C_impl_LineFault : OkC CT 82 C_impl_LineFault := fcall_ok rfl ok_X_impl_LineFault

/-! ### (impl.Way).numbers -/
noncomputable def cf_impl_Way_numbers : CallF := cfn
noncomputable def X_impl_Way_numbers : List Value → Mem → Option VM
  | [t0], m =>
    (boxX m t0) |> bo fun r1 =>
    (fadX 0 r1.1) |> bo fun t3 =>
    (ld1 r1.2 t3) |> bo fun t4 =>
    (fadX 1 r1.1) |> bo fun t5 =>
    (ld1 r1.2 t5) |> bo fun t6 =>
    (fadX 2 r1.1) |> bo fun t7 =>
    (ld1 r1.2 t7) |> bo fun t8 =>
    (fadX 3 r1.1) |> bo fun t9 =>
    (ld1 r1.2 t9) |> bo fun t10 =>
    (fadX 4 r1.1) |> bo fun t11 =>
    (ld1 r1.2 t11) |> bo fun t12 =>
    (fadX 5 r1.1) |> bo fun t13 =>
    (ld1 r1.2 t13) |> bo fun t14 =>
    (fadX 6 r1.1) |> bo fun t15 =>
    (ld1 r1.2 t15) |> bo fun t16 =>
    (bslX r1.2 7 1 [.int .i64 0] [(0, 1, t4), (1, 1, t6), (2, 1, t8), (3, 1, t10), (4, 1, t12), (5, 1, t14), (6, 1, t16)]) |> bo fun r16 =>
    retK m.length r16.2 [t0] r16.1
  | _, _ => none
noncomputable def C_impl_Way_numbers : List Value → Mem → Option VM := fcall X_impl_Way_numbers
@[simp] theorem c_impl_Way_numbers : C_impl_Way_numbers = fcall X_impl_Way_numbers := (rfl)
theorem cok_impl_Way_numbers : codeOk CT Try.f178 (Try.f178.body.get rfl) = true := by kernel_rfl
theorem xe_impl_Way_numbers (t0 : Value) (m : Mem) : ex CT cf_impl_Way_numbers Try.f178 1 m.length [] (fun _ _ _ => none) 400 [.code (Try.f178.body.get rfl)] (argsT 0 [t0]) m = X_impl_Way_numbers [t0] m := by kernel_rfl
theorem okc_impl_Way_numbers : CallOK CT cf_impl_Way_numbers := cfn_ok
theorem ok_X_impl_Way_numbers : OkX CT 178 X_impl_Way_numbers := OkX.of_ex (cf := cf_impl_Way_numbers) (np := 1) (LL := []) (J := (fun _ _ _ _ => none)) CT_ok rfl Try.func178 rfl (Nat.le_of_ble_eq_true rfl) (by decide) cok_impl_Way_numbers okc_impl_Way_numbers (fun k => noLoops rfl) (fun args m r h => match args, h with
    | [t0], h => ⟨rfl, (xe_impl_Way_numbers t0 m).trans h⟩)
theorem ok_C_impl_Way_numbers : OkC CT 178 C_impl_Way_numbers := fcall_ok rfl ok_X_impl_Way_numbers

/-! ### impl.WayFault -/
noncomputable def cf_impl_WayFault : CallF := cfc 99 C_impl_in (cfc 178 C_impl_Way_numbers cfn)
noncomputable def L_impl_WayFault (k : Nat) : Nat → Nat → List Value → Mem → Option VM
  | q + 1, 0, [t6, t7, t8], m =>
    (binX .lss .no t8 t7) |> bo fun t9 =>
    brX t9
      (
        (ixaX 1 t6 t8) |> bo fun t11 =>
        (ld1 m t11) |> bo fun t12 =>
        (C_impl_in [t12, (.int .i64 0), (.int .i64 255)] m) |> bo fun r4 =>
        (uop .not r4.1) |> bo fun t15 =>
        (gd t15 true (some (t8, r4.2)) r4.2) |> bo fun r6 =>
        (gd t15 true ((binX .eql .no r6.1 (.int .i64 0)) |> bo fun v => some (v, r6.2)) r6.2) |> bo fun r7 =>
        (gd t15 true (some (r7.1, r7.2)) r7.2) |> bo fun r8 =>
        (gd r8.1 true (some (t12, r8.2)) r8.2) |> bo fun r9 =>
        (gd r8.1 true ((C_impl_in [r9.1, (.int .i64 0), (.int .i64 511)] r9.2) |> bo fun r => some (r.1, r.2)) r9.2) |> bo fun r10 =>
        (gd t15 true ((pickX r8.1 r10.1 (.bool false)) |> bo fun v => some (v, r10.2)) r10.2) |> bo fun r11 =>
        (gd t15 true ((uop .not r11.1) |> bo fun v => some (v, r11.2)) r11.2) |> bo fun r12 =>
        (pickX t15 r12.1 (.bool false)) |> bo fun t24 =>
        brX t24
          (
            retK k r12.2 [] (.int .i64 3))
          (
            (binX .add .no t8 (.int .i64 1)) |> bo fun t25 =>
            cutK k r12.2 [] [t6, t7, t25] (L_impl_WayFault k q 0)))
      (
        retK k m [] (.int .i64 0))
  | _, _, _, _ => none
noncomputable def J_impl_WayFault (k q l : Nat) : List Value → Mem → Option VM := cond (Nat.beq l 2) (L_impl_WayFault k q 0) (fun _ _ => none)
def LL_impl_WayFault : List (Nat × List Tmp) := [(2, [6, 7, 8])]
noncomputable def X_impl_WayFault : List Value → Mem → Option VM
  | [t0], m =>
    (boxX m t0) |> bo fun r1 =>
    (ldS r1.2 7 r1.1) |> bo fun t5 =>
    (C_impl_Way_numbers [t5] r1.2) |> bo fun r3 =>
    (lenX r3.1) |> bo fun t7 =>
    cutK m.length r3.2 [t0] [r3.1, t7, (.int .i64 0)] (L_impl_WayFault m.length QQ 0)
  | _, _ => none
noncomputable def C_impl_WayFault : List Value → Mem → Option VM := fcall X_impl_WayFault
@[simp] theorem c_impl_WayFault : C_impl_WayFault = fcall X_impl_WayFault := (rfl)
theorem cok_impl_WayFault : codeOk CT Try.f145 (Try.f145.body.get rfl) = true := by kernel_rfl
theorem xe_impl_WayFault (t0 : Value) (m : Mem) : ex CT cf_impl_WayFault Try.f145 1 m.length LL_impl_WayFault (J_impl_WayFault m.length QQ) 400 [.code (Try.f145.body.get rfl)] (argsT 0 [t0]) m = X_impl_WayFault [t0] m := by kernel_rfl
theorem okc_impl_WayFault : CallOK CT cf_impl_WayFault := cfc_ok ok_C_impl_in (cfc_ok ok_C_impl_Way_numbers cfn_ok)
theorem le_impl_WayFault_0 (k q : Nat) (t6 t7 t8 : Value) (m : Mem) : ex CT cf_impl_WayFault Try.f145 1 k LL_impl_WayFault (J_impl_WayFault k q) 400 (atLoop Try.f145 0) [(6, t6), (7, t7), (8, t8)] m = J_impl_WayFault k (q + 1) 2 [t6, t7, t8] m := by kernel_rfl
theorem gl_impl_WayFault (k : Nat) : ∀ q i, i < 1 → GoodL CT k Try.f145 LL_impl_WayFault (J_impl_WayFault k q) (atLoop Try.f145 i)
  | 0, 0, _ => goodL_zero (l := 2) (by kernel_rfl) (fun vs m => by kernel_rfl)
  | 0, _ + 1, h => absurd h (by omega)
  | q + 1, 0, _ => goodL_succ (np := 1) (l := 2) (live := [6, 7, 8]) (n := 1) CT_ok rfl okc_impl_WayFault (c := (Try.f145.body.get rfl)) rfl cok_impl_WayFault (by kernel_rfl) (gl_impl_WayFault k q) (by kernel_rfl) rfl (fun vs m r hl h => match vs, hl with
    | [t6, t7, t8], _ => (le_impl_WayFault_0 k q t6 t7 t8 m).trans h)
  | _ + 1, _ + 1, h => absurd h (by omega)
theorem ok_X_impl_WayFault : OkX CT 145 X_impl_WayFault := OkX.of_ex (cf := cf_impl_WayFault) (np := 1) (LL := LL_impl_WayFault) (J := (fun k => J_impl_WayFault k QQ)) CT_ok rfl Try.func145 rfl (Nat.le_of_ble_eq_true rfl) (by decide) cok_impl_WayFault okc_impl_WayFault (fun k => allLoops rfl (by kernel_rfl) (gl_impl_WayFault k QQ)) (fun args m r h => match args, h with
    | [t0], h => ⟨rfl, (xe_impl_WayFault t0 m).trans h⟩)
theorem ok_C_impl_WayFault : OkC CT 145 C_impl_WayFault := fcall_ok rfl ok_X_impl_WayFault

/-! ### slices.Clone[[]byte,byte] -/
noncomputable def cf_slices_Clone_byte_byte : CallF := cfn
noncomputable def X_slices_Clone_byte_byte : List Value → Mem → Option VM
  | [t0], m =>
    (nlX .eql t0) |> bo fun t4 =>
    brX t4
      (
        retK m.length m [t0] (.slice none 0 0))
      (
        (bslX m 0 1 [.int .u8 0] []) |> bo fun r2 =>
        (apL r2.2 1 1 r2.1 t0) |> bo fun r3 =>
        retK m.length r3.2 [t0] r3.1)
  | _, _ => none
theorem cok_slices_Clone_byte_byte : codeOk CT Try.f173 (Try.f173.body.get rfl) = true := by kernel_rfl
theorem xe_slices_Clone_byte_byte (t0 : Value) (m : Mem) : ex CT cf_slices_Clone_byte_byte Try.f173 1 m.length [] (fun _ _ _ => none) 400 [.code (Try.f173.body.get rfl)] (argsT 0 [t0]) m = X_slices_Clone_byte_byte [t0] m := by kernel_rfl
theorem okc_slices_Clone_byte_byte : CallOK CT cf_slices_Clone_byte_byte := cfn_ok
theorem ok_X_slices_Clone_byte_byte : OkX CT 173 X_slices_Clone_byte_byte := OkX.of_ex (cf := cf_slices_Clone_byte_byte) (np := 1) (LL := []) (J := (fun _ _ _ _ => none)) CT_ok rfl Try.func173 rfl (Nat.le_of_ble_eq_true rfl) (by decide) cok_slices_Clone_byte_byte okc_slices_Clone_byte_byte (fun k => noLoops rfl) (fun args m r h => match args, h with
    | [t0], h => ⟨rfl, (xe_slices_Clone_byte_byte t0 m).trans h⟩)
noncomputable def C_slices_Clone_byte_byte : List Value → Mem → Option VM := cloneC 1
@[simp] theorem c_slices_Clone_byte_byte : C_slices_Clone_byte_byte = cloneC 1 := (rfl)
theorem cl0_slices_Clone_byte_byte : X_slices_Clone_byte_byte [.float .f64 0] [] = some (.slice none 0 0, []) := by simp -implicitDefEqProofs [X_slices_Clone_byte_byte, retK_eq]
theorem cl1_slices_Clone_byte_byte : X_slices_Clone_byte_byte [.float .f64 1] [] = some (.slice (some ⟨0, 0, none⟩) 0 0, [⟨[], 1, true, true⟩]) := by simp -implicitDefEqProofs [X_slices_Clone_byte_byte, retK_eq, apL_f1]
theorem cl2_slices_Clone_byte_byte (len : Nat) (cs : Array Value) (hl : len ≠ 0) (hs : cs.size = len * 1) (hk : len < 1000000000) (hh : cs.toList.all hard = true) : X_slices_Clone_byte_byte [.iface len (.agg cs)] [] = some (.slice (some ⟨0, 0, none⟩) len len, [⟨cs.toList, 1, true, true⟩]) := by
  have ha := fun m n o c => apL_agg (m := m) (sz := 1) (bytes := 1) (n := n) (o := o) (len := 0) (c := c) hs (by omega) (by omega)
  simp -implicitDefEqProofs [X_slices_Clone_byte_byte, retK_eq, ha, hl, hard_all hh]
theorem ok_C_slices_Clone_byte_byte : OkC CT 173 C_slices_Clone_byte_byte := cloneC_ok rfl ok_X_slices_Clone_byte_byte cl0_slices_Clone_byte_byte cl1_slices_Clone_byte_byte cl2_slices_Clone_byte_byte

/-! ### (impl.Line).clone -/
noncomputable def cf_impl_Line_clone : CallF := cfc 173 C_slices_Clone_byte_byte cfn
noncomputable def L_impl_Line_clone (k : Nat) : Nat → Nat → List Value → Mem → Option VM
  | q + 1, 0, [t1, t2, t3, t8, t9, t10], m =>
    (binX .lss .no t10 t9) |> bo fun t11 =>
    brX t11
      (
        (ixaX 1 t8 t10) |> bo fun t12 =>
        (ld1 m t12) |> bo fun t13 =>
        (C_slices_Clone_byte_byte [t13] m) |> bo fun r4 =>
        (bslX r4.2 1 1 [.slice none 0 0] [(0, 1, r4.1)]) |> bo fun r5 =>
        (apL r5.2 1 24 t3 r5.1) |> bo fun r6 =>
        (binX .add .no t10 (.int .i64 1)) |> bo fun t19 =>
        cutK k r6.2 [] [t1, t2, r6.1, t8, t9, t19] (L_impl_Line_clone k q 0))
      (
        (fadX 1 t1) |> bo fun t21 =>
        (ld1 m t21) |> bo fun t22 =>
        (C_slices_Clone_byte_byte [t22] m) |> bo fun r10 =>
        (fadX 0 t1) |> bo fun t24 =>
        (stX r10.2 1 t24 t3) |> bo fun m12 =>
        (fadX 1 t1) |> bo fun t25 =>
        (stX m12 1 t25 r10.1) |> bo fun m14 =>
        (ldS m14 4 t1) |> bo fun t26 =>
        (stX m14 4 t2 t26) |> bo fun m16 =>
        (resP (some 4) m16 t2) |> bo fun c17 =>
        retK k m16 [] c17)
  | _, _, _, _ => none
noncomputable def J_impl_Line_clone (k q l : Nat) : List Value → Mem → Option VM := cond (Nat.beq l 3) (L_impl_Line_clone k q 0) (fun _ _ => none)
def LL_impl_Line_clone : List (Nat × List Tmp) := [(3, [1, 2, 3, 8, 9, 10])]
noncomputable def X_impl_Line_clone : List Value → Mem → Option VM
  | [t0], m =>
    (boxX m t0) |> bo fun r1 =>
    (alX r1.2 [.slice none 0 0, .slice none 0 0, .bool false, .int .i64 0]) |> bo fun r2 =>
    (bslX r2.2 0 1 [.slice none 0 0] []) |> bo fun r3 =>
    (fadX 0 r1.1) |> bo fun t7 =>
    (ld1 r3.2 t7) |> bo fun t8 =>
    (lenX t8) |> bo fun t9 =>
    cutK m.length r3.2 [t0] [r1.1, r2.1, r3.1, t8, t9, (.int .i64 0)] (L_impl_Line_clone m.length QQ 0)
  | _, _ => none
noncomputable def C_impl_Line_clone : List Value → Mem → Option VM := fcall X_impl_Line_clone
@[simp] theorem c_impl_Line_clone : C_impl_Line_clone = fcall X_impl_Line_clone := (rfl)
theorem cok_impl_Line_clone : codeOk CT Try.f146 (Try.f146.body.get rfl) = true := by kernel_rfl
theorem xe_impl_Line_clone (t0 : Value) (m : Mem) : ex CT cf_impl_Line_clone Try.f146 1 m.length LL_impl_Line_clone (J_impl_Line_clone m.length QQ) 400 [.code (Try.f146.body.get rfl)] (argsT 0 [t0]) m = X_impl_Line_clone [t0] m := by kernel_rfl
theorem okc_impl_Line_clone : CallOK CT cf_impl_Line_clone := cfc_ok ok_C_slices_Clone_byte_byte cfn_ok
theorem le_impl_Line_clone_0 (k q : Nat) (t1 t2 t3 t8 t9 t10 : Value) (m : Mem) : ex CT cf_impl_Line_clone Try.f146 1 k LL_impl_Line_clone (J_impl_Line_clone k q) 400 (atLoop Try.f146 0) [(1, t1), (2, t2), (3, t3), (8, t8), (9, t9), (10, t10)] m = J_impl_Line_clone k (q + 1) 3 [t1, t2, t3, t8, t9, t10] m := by kernel_rfl
theorem gl_impl_Line_clone (k : Nat) : ∀ q i, i < 1 → GoodL CT k Try.f146 LL_impl_Line_clone (J_impl_Line_clone k q) (atLoop Try.f146 i)
  | 0, 0, _ => goodL_zero (l := 3) (by kernel_rfl) (fun vs m => by kernel_rfl)
  | 0, _ + 1, h => absurd h (by omega)
  | q + 1, 0, _ => goodL_succ (np := 1) (l := 3) (live := [1, 2, 3, 8, 9, 10]) (n := 1) CT_ok rfl okc_impl_Line_clone (c := (Try.f146.body.get rfl)) rfl cok_impl_Line_clone (by kernel_rfl) (gl_impl_Line_clone k q) (by kernel_rfl) rfl (fun vs m r hl h => match vs, hl with
    | [t1, t2, t3, t8, t9, t10], _ => (le_impl_Line_clone_0 k q t1 t2 t3 t8 t9 t10 m).trans h)
  | _ + 1, _ + 1, h => absurd h (by omega)
theorem ok_X_impl_Line_clone : OkX CT 146 X_impl_Line_clone := OkX.of_ex (cf := cf_impl_Line_clone) (np := 1) (LL := LL_impl_Line_clone) (J := (fun k => J_impl_Line_clone k QQ)) CT_ok rfl Try.func146 rfl (Nat.le_of_ble_eq_true rfl) (by decide) cok_impl_Line_clone okc_impl_Line_clone (fun k => allLoops rfl (by kernel_rfl) (gl_impl_Line_clone k QQ)) (fun args m r h => match args, h with
    | [t0], h => ⟨rfl, (xe_impl_Line_clone t0 m).trans h⟩)
theorem ok_C_impl_Line_clone : OkC CT 146 C_impl_Line_clone := fcall_ok rfl ok_X_impl_Line_clone

/-! ### (*impl.Line).next -/
noncomputable def cf_impl_Line_next : CallF := cfn
noncomputable def X_impl_Line_next : List Value → Mem → Option VM
  | [t0, t1], m =>
    (nilX t0) |> bo fun t7 =>
    (fadX 0 t7) |> bo fun t8 =>
    (ld1 m t8) |> bo fun t9 =>
    (ixaX 1 t9 (.int .i64 0)) |> bo fun t10 =>
    (ld1 m t10) |> bo fun t11 =>
    (lenX t11) |> bo fun t14 =>
    (minMax false t1 [t14]) |> bo fun t15 =>
    (nilX t0) |> bo fun t17 =>
    (fadX 0 t17) |> bo fun t18 =>
    (ld1 m t18) |> bo fun t19 =>
    (slX m 1 t11 (some t15) none) |> bo fun t22 =>
    (ixaX 1 t19 (.int .i64 0)) |> bo fun t23 =>
    (stX m 1 t23 t22) |> bo fun m13 =>
    (lenX t11) |> bo fun t26 =>
    (binX .eql .no t15 t26) |> bo fun t27 =>
    brX t27
      (
        (nilX t0) |> bo fun t30 =>
        (fadX 0 t30) |> bo fun t31 =>
        (ld1 m13 t31) |> bo fun t32 =>
        (slX m13 1 t32 (some (.int .i64 1)) none) |> bo fun t33 =>
        (nilX t0) |> bo fun t34 =>
        (fadX 0 t34) |> bo fun t35 =>
        (stX m13 1 t35 t33) |> bo fun m22 =>
        (slX m22 1 t11 none (some t15)) |> bo fun t38 =>
        retK m.length m22 [t0, t15] t38)
      (
        (slX m13 1 t11 none (some t15)) |> bo fun t38 =>
        retK m.length m13 [t0, t15] t38)
  | _, _ => none
noncomputable def C_impl_Line_next : List Value → Mem → Option VM := rcall X_impl_Line_next
@[simp] theorem c_impl_Line_next : C_impl_Line_next = rcall X_impl_Line_next := (rfl)
theorem cok_impl_Line_next : codeOk CT Try.f147 (Try.f147.body.get rfl) = true := by kernel_rfl
theorem xe_impl_Line_next (t0 t1 : Value) (m : Mem) : ex CT cf_impl_Line_next Try.f147 2 m.length [] (fun _ _ _ => none) 400 [.code (Try.f147.body.get rfl)] (argsT 0 [t0, t1]) m = X_impl_Line_next [t0, t1] m := by kernel_rfl
theorem okc_impl_Line_next : CallOK CT cf_impl_Line_next := cfn_ok
theorem ok_X_impl_Line_next : OkX CT 147 X_impl_Line_next := OkX.of_ex (cf := cf_impl_Line_next) (np := 2) (LL := []) (J := (fun _ _ _ _ => none)) CT_ok rfl Try.func147 rfl (Nat.le_of_ble_eq_true rfl) (by decide) cok_impl_Line_next okc_impl_Line_next (fun k => noLoops rfl) (fun args m r h => match args, h with
    | [t0, t1], h => ⟨rfl, (xe_impl_Line_next t0 t1 m).trans h⟩)
theorem ok_C_impl_Line_next : OkC CT 147 C_impl_Line_next := rcall_ok rfl ok_X_impl_Line_next

/-! ### (impl.Way).has -/
noncomputable def cf_impl_Way_has : CallF := cfn
noncomputable def X_impl_Way_has : List Value → Mem → Option VM
  | [t0, t1], m =>
    (boxX m t0) |> bo fun r1 =>
    (fadX 0 r1.1) |> bo fun t5 =>
    (ld1 r1.2 t5) |> bo fun t6 =>
    (binX .and .no t6 t1) |> bo fun t8 =>
    (binX .eql .no t8 t1) |> bo fun t10 =>
    retK m.length r1.2 [t0, t1] t10
  | _, _ => none
noncomputable def C_impl_Way_has : List Value → Mem → Option VM := fcall X_impl_Way_has
@[simp] theorem c_impl_Way_has : C_impl_Way_has = fcall X_impl_Way_has := (rfl)
theorem cok_impl_Way_has : codeOk CT Try.f148 (Try.f148.body.get rfl) = true := by kernel_rfl
theorem xe_impl_Way_has (t0 t1 : Value) (m : Mem) : ex CT cf_impl_Way_has Try.f148 2 m.length [] (fun _ _ _ => none) 400 [.code (Try.f148.body.get rfl)] (argsT 0 [t0, t1]) m = X_impl_Way_has [t0, t1] m := by kernel_rfl
theorem okc_impl_Way_has : CallOK CT cf_impl_Way_has := cfn_ok
theorem ok_X_impl_Way_has : OkX CT 148 X_impl_Way_has := OkX.of_ex (cf := cf_impl_Way_has) (np := 2) (LL := []) (J := (fun _ _ _ _ => none)) CT_ok rfl Try.func148 rfl (Nat.le_of_ble_eq_true rfl) (by decide) cok_impl_Way_has okc_impl_Way_has (fun k => noLoops rfl) (fun args m r h => match args, h with
    | [t0, t1], h => ⟨rfl, (xe_impl_Way_has t0 t1 m).trans h⟩)
theorem ok_C_impl_Way_has : OkC CT 148 C_impl_Way_has := fcall_ok rfl ok_X_impl_Way_has

/-! ### impl.ReadLine -/
noncomputable def cf_impl_ReadLine : CallF := cfc 82 C_impl_LineFault (cfc 88 C_impl_first (cfc 89 C_impl_unless (cfc 99 C_impl_in (cfc 145 C_impl_WayFault (cfc 146 C_impl_Line_clone (cfc 147 C_impl_Line_next (cfc 148 C_impl_Way_has cfn)))))))
noncomputable def L_impl_ReadLine (k : Nat) : Nat → Nat → List Value → Mem → Option VM
  | q + 1, 0, [t2, t3, t6, t8, t9], m =>
    (ldS m 7 t3) |> bo fun t36 =>
    (C_impl_Way_has [t36, (.int .i64 1)] m) |> bo fun r2 =>
    (uop .not r2.1) |> bo fun t38 =>
    (gd t38 true ((fadX 0 t8) |> bo fun v => some (v, r2.2)) r2.2) |> bo fun r4 =>
    (gd t38 true ((ld1 r4.2 r4.1) |> bo fun v => some (v, r4.2)) r4.2) |> bo fun r5 =>
    (gd t38 true ((lenX r5.1) |> bo fun v => some (v, r5.2)) r5.2) |> bo fun r6 =>
    (gd t38 true ((binX .gtr .no r6.1 (.int .i64 0)) |> bo fun v => some (v, r6.2)) r6.2) |> bo fun r7 =>
    (pickX t38 r7.1 (.bool false)) |> bo fun t44 =>
    (gd t44 true (some (t9, r7.2)) r7.2) |> bo fun r9 =>
    (gd t44 true ((lenX r9.1) |> bo fun v => some (v, r9.2)) r9.2) |> bo fun r10 =>
    (gd t44 true (some (t2, r10.2)) r10.2) |> bo fun r11 =>
    (gd t44 true ((binX .lss .no r10.1 r11.1) |> bo fun v => some (v, r11.2)) r11.2) |> bo fun r12 =>
    (pickX t44 r12.1 (.bool false)) |> bo fun t50 =>
    brX t50
      (
        (lenX t9) |> bo fun t54 =>
        (binX .sub .no t2 t54) |> bo fun t55 =>
        (C_impl_Line_next [t8, t55] r12.2) |> bo fun r16 =>
        (apL r16.2 1 1 t9 r16.1) |> bo fun r17 =>
        cutK k r17.2 [t2] [t2, t3, t6, t8, r17.1] (L_impl_ReadLine k q 0))
      (
        (ldS r12.2 4 t8) |> bo fun t59 =>
        (C_impl_Line_clone [t59] r12.2) |> bo fun r19 =>
        (bldX [.int .i64 0, .bool false, .slice none 0 0, .slice none 0 0, .slice none 0 0, .slice none 0 0, .bool false, .int .i64 0] [(1, 1, (.bool true)), (2, 1, t9), (4, 4, r19.1)]) |> bo fun t61 =>
        (stX r19.2 8 t6 t61) |> bo fun m21 =>
        (resP (some 8) m21 t6) |> bo fun c22 =>
        retK k m21 [t2] c22)
  | _, _, _, _ => none
noncomputable def J_impl_ReadLine (k q l : Nat) : List Value → Mem → Option VM := cond (Nat.beq l 8) (L_impl_ReadLine k q 0) (fun _ _ => none)
def LL_impl_ReadLine : List (Nat × List Tmp) := [(8, [2, 3, 6, 8, 9])]
noncomputable def X_impl_ReadLine : List Value → Mem → Option VM
  | [t0, t1, t2], m =>
    (boxX m t0) |> bo fun r1 =>
    (boxX r1.2 t1) |> bo fun r2 =>
    (alX r2.2 [.int .i64 0, .bool false, .slice none 0 0, .slice none 0 0, .slice none 0 0, .slice none 0 0, .bool false, .int .i64 0]) |> bo fun r3 =>
    (ldS r3.2 7 r1.1) |> bo fun t10 =>
    (C_impl_WayFault [t10] r3.2) |> bo fun r5 =>
    (ldS r5.2 4 r2.1) |> bo fun t12 =>
    (C_impl_LineFault [t12] r5.2) |> bo fun r7 =>
    (C_impl_in [t2, (.int .i64 1), (.int .i64 99)] r7.2) |> bo fun r8 =>
    (C_impl_unless [r8.1, (.int .i64 3)] r8.2) |> bo fun r9 =>
    (bslX r9.2 3 1 [.int .i64 0] [(0, 1, r5.1), (1, 1, r7.1), (2, 1, r9.1)]) |> bo fun r10 =>
    (C_impl_first [r10.1] r10.2) |> bo fun r11 =>
    gP (stbL [((rdN r2.1), r3.2, r5.2)])
      (
        (binX .neq .no r11.1 (.int .i64 0)) |> bo fun t20 =>
        brX t20
          (
            (bldX [.int .i64 0, .bool false, .slice none 0 0, .slice none 0 0, .slice none 0 0, .slice none 0 0, .bool false, .int .i64 0] [(0, 1, r11.1)]) |> bo fun t22 =>
            (stX r11.2 8 r3.1 t22) |> bo fun m14 =>
            (resP (some 8) m14 r3.1) |> bo fun c15 =>
            retK m.length m14 [t0, t1, t2] c15)
          (
            (ldS r11.2 4 r2.1) |> bo fun t23 =>
            (C_impl_Line_clone [t23] r11.2) |> bo fun r17 =>
            (bslX r17.2 0 1 [.int .u8 0] []) |> bo fun r18 =>
            (alX r18.2 [.slice none 0 0, .slice none 0 0, .bool false, .int .i64 0]) |> bo fun r19 =>
            (stX r19.2 4 r19.1 r17.1) |> bo fun m20 =>
            (fadX 0 r19.1) |> bo fun t26 =>
            (ld1 m20 t26) |> bo fun t27 =>
            (lenX t27) |> bo fun t28 =>
            (binX .eql .no t28 (.int .i64 0)) |> bo fun t29 =>
            brX t29
              (
                (ldS m20 4 r19.1) |> bo fun t30 =>
                (bldX [.int .i64 0, .bool false, .slice none 0 0, .slice none 0 0, .slice none 0 0, .slice none 0 0, .bool false, .int .i64 0] [(4, 4, t30)]) |> bo fun t31 =>
                (stX m20 8 r3.1 t31) |> bo fun m27 =>
                (resP (some 8) m27 r3.1) |> bo fun c28 =>
                retK m.length m27 [t0, t1, t2] c28)
              (
                (C_impl_Line_next [r19.1, t2] m20) |> bo fun r29 =>
                (apL r29.2 1 1 r18.1 r29.1) |> bo fun r30 =>
                cutK m.length r30.2 [t0, t1, t2] [t2, r1.1, r3.1, r19.1, r30.1] (L_impl_ReadLine m.length QQ 0))))
  | _, _ => none
noncomputable def C_impl_ReadLine : List Value → Mem → Option VM := icall X_impl_ReadLine
@[simp] theorem c_impl_ReadLine : C_impl_ReadLine = icall X_impl_ReadLine := (rfl)
theorem cok_impl_ReadLine : codeOk CT Try.f73 (Try.f73.body.get rfl) = true := by kernel_rfl
theorem xe_impl_ReadLine (t0 t1 t2 : Value) (m : Mem) : ex CT cf_impl_ReadLine Try.f73 3 m.length LL_impl_ReadLine (J_impl_ReadLine m.length QQ) 400 [.code (Try.f73.body.get rfl)] (argsT 0 [t0, t1, t2]) m = X_impl_ReadLine [t0, t1, t2] m := by kernel_rfl
theorem okc_impl_ReadLine : CallOK CT cf_impl_ReadLine := cfc_ok ok_C_impl_LineFault (cfc_ok ok_C_impl_first (cfc_ok ok_C_impl_unless (cfc_ok ok_C_impl_in (cfc_ok ok_C_impl_WayFault (cfc_ok ok_C_impl_Line_clone (cfc_ok ok_C_impl_Line_next (cfc_ok ok_C_impl_Way_has cfn_ok)))))))
theorem le_impl_ReadLine_0 (k q : Nat) (t2 t3 t6 t8 t9 : Value) (m : Mem) : ex CT cf_impl_ReadLine Try.f73 3 k LL_impl_ReadLine (J_impl_ReadLine k q) 400 (atLoop Try.f73 0) [(2, t2), (3, t3), (6, t6), (8, t8), (9, t9)] m = J_impl_ReadLine k (q + 1) 8 [t2, t3, t6, t8, t9] m := by kernel_rfl
theorem gl_impl_ReadLine (k : Nat) : ∀ q i, i < 1 → GoodL CT k Try.f73 LL_impl_ReadLine (J_impl_ReadLine k q) (atLoop Try.f73 i)
  | 0, 0, _ => goodL_zero (l := 8) (by kernel_rfl) (fun vs m => by kernel_rfl)
  | 0, _ + 1, h => absurd h (by omega)
  | q + 1, 0, _ => goodL_succ (np := 3) (l := 8) (live := [2, 3, 6, 8, 9]) (n := 1) CT_ok rfl okc_impl_ReadLine (c := (Try.f73.body.get rfl)) rfl cok_impl_ReadLine (by kernel_rfl) (gl_impl_ReadLine k q) (by kernel_rfl) rfl (fun vs m r hl h => match vs, hl with
    | [t2, t3, t6, t8, t9], _ => (le_impl_ReadLine_0 k q t2 t3 t6 t8 t9 m).trans h)
  | _ + 1, _ + 1, h => absurd h (by omega)
theorem ok_X_impl_ReadLine : OkX CT 73 X_impl_ReadLine := OkX.of_ex (cf := cf_impl_ReadLine) (np := 3) (LL := LL_impl_ReadLine) (J := (fun k => J_impl_ReadLine k QQ)) CT_ok rfl Try.func73 rfl (Nat.le_of_ble_eq_true rfl) (by decide) cok_impl_ReadLine okc_impl_ReadLine (fun k => allLoops rfl (by kernel_rfl) (gl_impl_ReadLine k QQ)) (fun args m r h => match args, h with
    | [t0, t1, t2], h => ⟨rfl, (xe_impl_ReadLine t0 t1 t2 m).trans h⟩)
theorem ok_C_impl_ReadLine : OkC CT 73 C_impl_ReadLine := icall_ok rfl ok_X_impl_ReadLine

/-! ### spec.l1Source -/
noncomputable def cf_spec_l1Source : CallF := cfn
noncomputable def X_spec_l1Source : List Value → Mem → Option VM
  | [t0], m =>
    (bldX [.slice none 0 0, .int .i64 0] [(0, 1, t0)]) |> bo fun t4 =>
    (boxX m t4) |> bo fun r2 =>
    retK m.length r2.2 [t0] r2.1
  | _, _ => none
noncomputable def C_spec_l1Source : List Value → Mem → Option VM := rcall X_spec_l1Source
@[simp] theorem c_spec_l1Source : C_spec_l1Source = rcall X_spec_l1Source := (rfl)
theorem cok_spec_l1Source : codeOk CT Try.f83 (Try.f83.body.get rfl) = true := by kernel_rfl
theorem xe_spec_l1Source (t0 : Value) (m : Mem) : ex CT cf_spec_l1Source Try.f83 1 m.length [] (fun _ _ _ => none) 400 [.code (Try.f83.body.get rfl)] (argsT 0 [t0]) m = X_spec_l1Source [t0] m := by kernel_rfl
theorem okc_spec_l1Source : CallOK CT cf_spec_l1Source := cfn_ok
theorem ok_X_spec_l1Source : OkX CT 83 X_spec_l1Source := OkX.of_ex (cf := cf_spec_l1Source) (np := 1) (LL := []) (J := (fun _ _ _ _ => none)) CT_ok rfl Try.func83 rfl (Nat.le_of_ble_eq_true rfl) (by decide) cok_spec_l1Source okc_spec_l1Source (fun k => noLoops rfl) (fun args m r h => match args, h with
    | [t0], h => ⟨rfl, (xe_spec_l1Source t0 m).trans h⟩)
theorem ok_C_spec_l1Source : OkC CT 83 C_spec_l1Source := rcall_ok rfl ok_X_spec_l1Source

/-! ### spec.l1Next -/
noncomputable def cf_spec_l1Next : CallF := cfn
noncomputable def X_spec_l1Next : List Value → Mem → Option VM
  | [t0, t1], m =>
    (nilX t0) |> bo fun t10 =>
    (fadX 1 t10) |> bo fun t11 =>
    (ld1 m t11) |> bo fun t12 =>
    (binX .add .no t12 (.int .i64 1)) |> bo fun t13 =>
    (nilX t0) |> bo fun t14 =>
    (fadX 1 t14) |> bo fun t15 =>
    (stX m 1 t15 t13) |> bo fun m7 =>
    (binX .lss .no t1 (.int .i64 1)) |> bo fun t17 =>
    brX t17
      (
        retK m.length m7 [t0, t1] (.int .i64 0))
      (
        (nilX t0) |> bo fun t19 =>
        (fadX 1 t19) |> bo fun t20 =>
        (ld1 m7 t20) |> bo fun t21 =>
        (binX .sub .no t21 (.int .i64 1)) |> bo fun t22 =>
        (nilX t0) |> bo fun t24 =>
        (fadX 0 t24) |> bo fun t25 =>
        (ld1 m7 t25) |> bo fun t26 =>
        (lenX t26) |> bo fun t27 =>
        (binX .eql .no t27 (.int .i64 0)) |> bo fun t29 =>
        brX t29
          (
            (binX .mul .no t22 (.int .i64 7)) |> bo fun t31 =>
            (binX .rem .no t31 t1) |> bo fun t33 =>
            retK m.length m7 [t0, t1] t33)
          (
            (nilX t0) |> bo fun t35 =>
            (fadX 0 t35) |> bo fun t36 =>
            (ld1 m7 t36) |> bo fun t37 =>
            (binX .rem .no t22 t27) |> bo fun t40 =>
            (ixaX 1 t37 t40) |> bo fun t41 =>
            (ld1 m7 t41) |> bo fun t42 =>
            (cvI .i64 t42) |> bo fun t43 =>
            (binX .quo .no t22 t27) |> bo fun t46 =>
            (binX .mul .no t46 (.int .i64 37)) |> bo fun t47 =>
            (binX .add .no t43 t47) |> bo fun t48 =>
            (binX .gtr .no t1 (.int .i64 200)) |> bo fun t50 =>
            brX t50
              (
                (binX .mul .no t48 (.int .i64 251)) |> bo fun t52 =>
                (nilX t0) |> bo fun t54 =>
                (fadX 0 t54) |> bo fun t55 =>
                (ld1 m7 t55) |> bo fun t56 =>
                (binX .add .no t22 (.int .i64 1)) |> bo fun t58 =>
                (binX .rem .no t58 t27) |> bo fun t60 =>
                (ixaX 1 t56 t60) |> bo fun t61 =>
                (ld1 m7 t61) |> bo fun t62 =>
                (cvI .i64 t62) |> bo fun t63 =>
                (binX .mul .no t63 (.int .i64 13)) |> bo fun t64 =>
                (binX .add .no t52 t64) |> bo fun t65 =>
                (binX .add .no t65 t22) |> bo fun t67 =>
                (binX .rem .no t67 t1) |> bo fun t70 =>
                retK m.length m7 [t0, t1] t70)
              (
                (binX .rem .no t48 t1) |> bo fun t70 =>
                retK m.length m7 [t0, t1] t70)))
  | _, _ => none
noncomputable def C_spec_l1Next : List Value → Mem → Option VM := rcall X_spec_l1Next
@[simp] theorem c_spec_l1Next : C_spec_l1Next = rcall X_spec_l1Next := (rfl)
theorem cok_spec_l1Next : codeOk CT Try.f87 (Try.f87.body.get rfl) = true := by kernel_rfl
theorem xe_spec_l1Next (t0 t1 : Value) (m : Mem) : ex CT cf_spec_l1Next Try.f87 2 m.length [] (fun _ _ _ => none) 400 [.code (Try.f87.body.get rfl)] (argsT 0 [t0, t1]) m = X_spec_l1Next [t0, t1] m := by kernel_rfl
theorem okc_spec_l1Next : CallOK CT cf_spec_l1Next := cfn_ok
theorem ok_X_spec_l1Next : OkX CT 87 X_spec_l1Next := OkX.of_ex (cf := cf_spec_l1Next) (np := 2) (LL := []) (J := (fun _ _ _ _ => none)) CT_ok rfl Try.func87 rfl (Nat.le_of_ble_eq_true rfl) (by decide) cok_spec_l1Next okc_spec_l1Next (fun k => noLoops rfl) (fun args m r h => match args, h with
    | [t0, t1], h => ⟨rfl, (xe_spec_l1Next t0 t1 m).trans h⟩)
theorem ok_C_spec_l1Next : OkC CT 87 C_spec_l1Next := rcall_ok rfl ok_X_spec_l1Next

/-! ### spec.l1Pick -/
noncomputable def cf_spec_l1Pick : CallF := cfc 87 C_spec_l1Next cfn
noncomputable def X_spec_l1Pick : List Value → Mem → Option VM
  | [t0, t1], m =>
    (lenX t1) |> bo fun t8 =>
    (C_spec_l1Next [t0, t8] m) |> bo fun r2 =>
    (ixaX 1 t1 r2.1) |> bo fun t10 =>
    (ld1 r2.2 t10) |> bo fun t11 =>
    retK m.length r2.2 [t0, t1] t11
  | _, _ => none
noncomputable def C_spec_l1Pick : List Value → Mem → Option VM := rcall X_spec_l1Pick
@[simp] theorem c_spec_l1Pick : C_spec_l1Pick = rcall X_spec_l1Pick := (rfl)
theorem cok_spec_l1Pick : codeOk CT Try.f94 (Try.f94.body.get rfl) = true := by kernel_rfl
theorem xe_spec_l1Pick (t0 t1 : Value) (m : Mem) : ex CT cf_spec_l1Pick Try.f94 2 m.length [] (fun _ _ _ => none) 400 [.code (Try.f94.body.get rfl)] (argsT 0 [t0, t1]) m = X_spec_l1Pick [t0, t1] m := by kernel_rfl
theorem okc_spec_l1Pick : CallOK CT cf_spec_l1Pick := cfc_ok ok_C_spec_l1Next cfn_ok
theorem ok_X_spec_l1Pick : OkX CT 94 X_spec_l1Pick := OkX.of_ex (cf := cf_spec_l1Pick) (np := 2) (LL := []) (J := (fun _ _ _ _ => none)) CT_ok rfl Try.func94 rfl (Nat.le_of_ble_eq_true rfl) (by decide) cok_spec_l1Pick okc_spec_l1Pick (fun k => noLoops rfl) (fun args m r h => match args, h with
    | [t0, t1], h => ⟨rfl, (xe_spec_l1Pick t0 t1 m).trans h⟩)
theorem ok_C_spec_l1Pick : OkC CT 94 C_spec_l1Pick := rcall_ok rfl ok_X_spec_l1Pick

/-! ### spec.l1Chance -/
noncomputable def cf_spec_l1Chance : CallF := cfc 87 C_spec_l1Next cfn
noncomputable def X_spec_l1Chance : List Value → Mem → Option VM
  | [t0, t1], m =>
    (C_spec_l1Next [t0, t1] m) |> bo fun r1 =>
    (binX .eql .no r1.1 (.int .i64 0)) |> bo fun t8 =>
    retK m.length r1.2 [t0, t1] t8
  | _, _ => none
noncomputable def C_spec_l1Chance : List Value → Mem → Option VM := rcall X_spec_l1Chance
@[simp] theorem c_spec_l1Chance : C_spec_l1Chance = rcall X_spec_l1Chance := (rfl)
theorem cok_spec_l1Chance : codeOk CT Try.f85 (Try.f85.body.get rfl) = true := by kernel_rfl
theorem xe_spec_l1Chance (t0 t1 : Value) (m : Mem) : ex CT cf_spec_l1Chance Try.f85 2 m.length [] (fun _ _ _ => none) 400 [.code (Try.f85.body.get rfl)] (argsT 0 [t0, t1]) m = X_spec_l1Chance [t0, t1] m := by kernel_rfl
theorem okc_spec_l1Chance : CallOK CT cf_spec_l1Chance := cfc_ok ok_C_spec_l1Next cfn_ok
theorem ok_X_spec_l1Chance : OkX CT 85 X_spec_l1Chance := OkX.of_ex (cf := cf_spec_l1Chance) (np := 2) (LL := []) (J := (fun _ _ _ _ => none)) CT_ok rfl Try.func85 rfl (Nat.le_of_ble_eq_true rfl) (by decide) cok_spec_l1Chance okc_spec_l1Chance (fun k => noLoops rfl) (fun args m r h => match args, h with
    | [t0, t1], h => ⟨rfl, (xe_spec_l1Chance t0 t1 m).trans h⟩)
theorem ok_C_spec_l1Chance : OkC CT 85 C_spec_l1Chance := rcall_ok rfl ok_X_spec_l1Chance

/-! ### spec.l10Usual -/
noncomputable def cf_spec_l10Usual : CallF := cfn
noncomputable def X_spec_l10Usual : List Value → Mem → Option VM
  | [t0], m =>
    (alX m [.int .i64 0, .int .i64 0, .int .i64 0, .int .i64 0, .int .i64 0, .int .i64 0, .int .i64 0]) |> bo fun r1 =>
    (bldX [.int .i64 0, .int .i64 0, .int .i64 0, .int .i64 0, .int .i64 0, .int .i64 0, .int .i64 0] [(0, 1, t0), (1, 1, (.int .i64 127)), (2, 1, (.int .i64 21)), (3, 1, (.int .i64 23)), (4, 1, (.int .i64 4)), (5, 1, (.int .i64 3)), (6, 1, (.int .i64 22))]) |> bo fun t4 =>
    (stX r1.2 7 r1.1 t4) |> bo fun m3 =>
    (resP (some 7) m3 r1.1) |> bo fun c4 =>
    retK m.length m3 [t0] c4
  | _, _ => none
noncomputable def C_spec_l10Usual : List Value → Mem → Option VM := fcall X_spec_l10Usual
@[simp] theorem c_spec_l10Usual : C_spec_l10Usual = fcall X_spec_l10Usual := (rfl)
theorem cok_spec_l10Usual : codeOk CT Try.f189 (Try.f189.body.get rfl) = true := by kernel_rfl
theorem xe_spec_l10Usual (t0 : Value) (m : Mem) : ex CT cf_spec_l10Usual Try.f189 1 m.length [] (fun _ _ _ => none) 400 [.code (Try.f189.body.get rfl)] (argsT 0 [t0]) m = X_spec_l10Usual [t0] m := by kernel_rfl
theorem okc_spec_l10Usual : CallOK CT cf_spec_l10Usual := cfn_ok
theorem ok_X_spec_l10Usual : OkX CT 189 X_spec_l10Usual := OkX.of_ex (cf := cf_spec_l10Usual) (np := 1) (LL := []) (J := (fun _ _ _ _ => none)) CT_ok rfl Try.func189 rfl (Nat.le_of_ble_eq_true rfl) (by decide) cok_spec_l10Usual okc_spec_l10Usual (fun k => noLoops rfl) (fun args m r h => match args, h with
    | [t0], h => ⟨rfl, (xe_spec_l10Usual t0 m).trans h⟩)
theorem ok_C_spec_l10Usual : OkC CT 189 C_spec_l10Usual := fcall_ok rfl ok_X_spec_l10Usual

/-! ### spec.l10Draw -/
noncomputable def cf_spec_l10Draw : CallF := cfc 87 C_spec_l1Next (cfc 94 C_spec_l1Pick (cfc 189 C_spec_l10Usual cfn))
noncomputable def X_spec_l10Draw : List Value → Mem → Option VM
  | [t0], m =>
    (alX m [.int .i64 0, .int .i64 0, .int .i64 0, .int .i64 0, .int .i64 0, .int .i64 0, .int .i64 0]) |> bo fun r1 =>
    (C_spec_l1Next [t0, (.int .i64 512)] r1.2) |> bo fun r2 =>
    (bslX r2.2 6 1 [.int .i64 0] [(0, 1, (.int .i64 511)), (1, 1, (.int .i64 511)), (2, 1, (.int .i64 507)), (3, 1, r2.1), (4, 1, (.int .i64 2)), (5, 1, (.int .i64 510))]) |> bo fun r3 =>
    (C_spec_l1Pick [t0, r3.1] r3.2) |> bo fun r4 =>
    (C_spec_l10Usual [r4.1] r4.2) |> bo fun r5 =>
    (stX r5.2 7 r1.1 r5.1) |> bo fun m6 =>
    (resP (some 7) m6 r1.1) |> bo fun c7 =>
    retK m.length m6 [t0] c7
  | _, _ => none
noncomputable def C_spec_l10Draw : List Value → Mem → Option VM := rcall X_spec_l10Draw
@[simp] theorem c_spec_l10Draw : C_spec_l10Draw = rcall X_spec_l10Draw := (rfl)
theorem cok_spec_l10Draw : codeOk CT Try.f186 (Try.f186.body.get rfl) = true := by kernel_rfl
theorem xe_spec_l10Draw (t0 : Value) (m : Mem) : ex CT cf_spec_l10Draw Try.f186 1 m.length [] (fun _ _ _ => none) 400 [.code (Try.f186.body.get rfl)] (argsT 0 [t0]) m = X_spec_l10Draw [t0] m := by kernel_rfl
theorem okc_spec_l10Draw : CallOK CT cf_spec_l10Draw := cfc_ok ok_C_spec_l1Next (cfc_ok ok_C_spec_l1Pick (cfc_ok ok_C_spec_l10Usual cfn_ok))
theorem ok_X_spec_l10Draw : OkX CT 186 X_spec_l10Draw := OkX.of_ex (cf := cf_spec_l10Draw) (np := 1) (LL := []) (J := (fun _ _ _ _ => none)) CT_ok rfl Try.func186 rfl (Nat.le_of_ble_eq_true rfl) (by decide) cok_spec_l10Draw okc_spec_l10Draw (fun k => noLoops rfl) (fun args m r h => match args, h with
    | [t0], h => ⟨rfl, (xe_spec_l10Draw t0 m).trans h⟩)
theorem ok_C_spec_l10Draw : OkC CT 186 C_spec_l10Draw := rcall_ok rfl ok_X_spec_l10Draw

/-! ### spec.l1Encode -/
noncomputable def cf_spec_l1Encode : CallF := cfn
noncomputable def X_spec_l1Encode : List Value → Mem → Option VM
  | [t0], m =>
    (binX .lss .no t0 (.int .i64 128)) |> bo fun t4 =>
    brX t4
      (
        (cvI .u8 t0) |> bo fun t6 =>
        (bslX m 1 1 [.int .u8 0] [(0, 1, t6)]) |> bo fun r3 =>
        retK m.length r3.2 [t0] r3.1)
      (
        (binX .lss .no t0 (.int .i64 2048)) |> bo fun t9 =>
        brX t9
          (
            (binX .quo .no t0 (.int .i64 64)) |> bo fun t11 =>
            (binX .add .no (.int .i64 192) t11) |> bo fun t12 =>
            (cvI .u8 t12) |> bo fun t13 =>
            (binX .rem .no t0 (.int .i64 64)) |> bo fun t15 =>
            (binX .add .no (.int .i64 128) t15) |> bo fun t16 =>
            (cvI .u8 t16) |> bo fun t17 =>
            (bslX m 2 1 [.int .u8 0] [(0, 1, t13), (1, 1, t17)]) |> bo fun r11 =>
            retK m.length r11.2 [t0] r11.1)
          (
            (binX .quo .no t0 (.int .i64 4096)) |> bo fun t20 =>
            (binX .add .no (.int .i64 224) t20) |> bo fun t21 =>
            (cvI .u8 t21) |> bo fun t22 =>
            (binX .quo .no t0 (.int .i64 64)) |> bo fun t24 =>
            (binX .rem .no t24 (.int .i64 64)) |> bo fun t25 =>
            (binX .add .no (.int .i64 128) t25) |> bo fun t26 =>
            (cvI .u8 t26) |> bo fun t27 =>
            (binX .rem .no t0 (.int .i64 64)) |> bo fun t29 =>
            (binX .add .no (.int .i64 128) t29) |> bo fun t30 =>
            (cvI .u8 t30) |> bo fun t31 =>
            (bslX m 3 1 [.int .u8 0] [(0, 1, t22), (1, 1, t27), (2, 1, t31)]) |> bo fun r22 =>
            retK m.length r22.2 [t0] r22.1))
  | _, _ => none
noncomputable def C_spec_l1Encode : List Value → Mem → Option VM := fcall X_spec_l1Encode
@[simp] theorem c_spec_l1Encode : C_spec_l1Encode = fcall X_spec_l1Encode := (rfl)
theorem cok_spec_l1Encode : codeOk CT Try.f98 (Try.f98.body.get rfl) = true := by kernel_rfl
theorem xe_spec_l1Encode (t0 : Value) (m : Mem) : ex CT cf_spec_l1Encode Try.f98 1 m.length [] (fun _ _ _ => none) 400 [.code (Try.f98.body.get rfl)] (argsT 0 [t0]) m = X_spec_l1Encode [t0] m := by kernel_rfl
theorem okc_spec_l1Encode : CallOK CT cf_spec_l1Encode := cfn_ok
theorem ok_X_spec_l1Encode : OkX CT 98 X_spec_l1Encode := OkX.of_ex (cf := cf_spec_l1Encode) (np := 1) (LL := []) (J := (fun _ _ _ _ => none)) CT_ok rfl Try.func98 rfl (Nat.le_of_ble_eq_true rfl) (by decide) cok_spec_l1Encode okc_spec_l1Encode (fun k => noLoops rfl) (fun args m r h => match args, h with
    | [t0], h => ⟨rfl, (xe_spec_l1Encode t0 m).trans h⟩)
theorem ok_C_spec_l1Encode : OkC CT 98 C_spec_l1Encode := fcall_ok rfl ok_X_spec_l1Encode

/-! ### spec.l11Typed -/
noncomputable def cf_spec_l11Typed : CallF := cfc 87 C_spec_l1Next (cfc 94 C_spec_l1Pick (cfc 98 C_spec_l1Encode cfn))
noncomputable def L_spec_l11Typed (k : Nat) : Nat → Nat → List Value → Mem → Option VM
  | q + 1, 0, [t0, t1, t5, t6], m =>
    (binX .gtr .no t6 (.int .i64 0)) |> bo fun t12 =>
    brX t12
      (
        (C_spec_l1Next [t0, (.int .i64 12)] m) |> bo fun r2 =>
        (binX .eql .no r2.1 (.int .i64 0)) |> bo fun t25 =>
        brX t25
          (
            (bslX r2.2 8 1 [.int .i64 0] [(0, 1, (.int .i64 127)), (1, 1, (.int .i64 21)), (2, 1, (.int .i64 23)), (3, 1, (.int .i64 4)), (4, 1, (.int .i64 3)), (5, 1, (.int .i64 22)), (6, 1, (.int .i64 13)), (7, 1, (.int .i64 10))]) |> bo fun r4 =>
            (C_spec_l1Pick [t0, r4.1] r4.2) |> bo fun r5 =>
            (cvI .u8 r5.1) |> bo fun t30 =>
            (bslX r5.2 1 1 [.int .u8 0] [(0, 1, t30)]) |> bo fun r7 =>
            (apL r7.2 1 1 t5 r7.1) |> bo fun r8 =>
            (binX .sub .no t6 (.int .i64 1)) |> bo fun t14 =>
            cutK k r8.2 [t0, t1] [t0, t1, r8.1, t14] (L_spec_l11Typed k q 0))
          (
            (binX .eql .no r2.1 (.int .i64 1)) |> bo fun t34 =>
            brX t34
              (
                (bslX r2.2 1 1 [.int .u8 0] [(0, 1, (.int .u8 127))]) |> bo fun r11 =>
                (apL r11.2 1 1 t5 r11.1) |> bo fun r12 =>
                (binX .sub .no t6 (.int .i64 1)) |> bo fun t14 =>
                cutK k r12.2 [t0, t1] [t0, t1, r12.1, t14] (L_spec_l11Typed k q 0))
              (
                (binX .eql .no r2.1 (.int .i64 2)) |> bo fun t39 =>
                brX t39
                  (
                    (bslX r2.2 3 1 [.int .i64 0] [(0, 1, (.int .i64 228)), (1, 1, (.int .i64 8364)), (2, 1, (.int .i64 1))]) |> bo fun r15 =>
                    (C_spec_l1Pick [t0, r15.1] r15.2) |> bo fun r16 =>
                    (C_spec_l1Encode [r16.1] r16.2) |> bo fun r17 =>
                    (apL r17.2 1 1 t5 r17.1) |> bo fun r18 =>
                    (binX .sub .no t6 (.int .i64 1)) |> bo fun t14 =>
                    cutK k r18.2 [t0, t1] [t0, t1, r18.1, t14] (L_spec_l11Typed k q 0))
                  (
                    (bslX r2.2 4 1 [.int .i64 0] [(0, 1, (.int .i64 97)), (1, 1, (.int .i64 98)), (2, 1, (.int .i64 99)), (3, 1, (.int .i64 32))]) |> bo fun r20 =>
                    (C_spec_l1Pick [t0, r20.1] r20.2) |> bo fun r21 =>
                    (cvI .u8 r21.1) |> bo fun t21 =>
                    (bslX r21.2 1 1 [.int .u8 0] [(0, 1, t21)]) |> bo fun r23 =>
                    (apL r23.2 1 1 t5 r23.1) |> bo fun r24 =>
                    (binX .sub .no t6 (.int .i64 1)) |> bo fun t14 =>
                    cutK k r24.2 [t0, t1] [t0, t1, r24.1, t14] (L_spec_l11Typed k q 0)))))
      (
        retK k m [t0, t1] t5)
  | _, _, _, _ => none
noncomputable def J_spec_l11Typed (k q l : Nat) : List Value → Mem → Option VM := cond (Nat.beq l 3) (L_spec_l11Typed k q 0) (fun _ _ => none)
def LL_spec_l11Typed : List (Nat × List Tmp) := [(3, [0, 1, 5, 6])]
noncomputable def X_spec_l11Typed : List Value → Mem → Option VM
  | [t0, t1], m =>
    (bslX m 0 1 [.int .u8 0] []) |> bo fun r1 =>
    (C_spec_l1Next [t0, t1] r1.2) |> bo fun r2 =>
    cutK m.length r2.2 [t0, t1] [t0, t1, r1.1, r2.1] (L_spec_l11Typed m.length QQ 0)
  | _, _ => none
noncomputable def C_spec_l11Typed : List Value → Mem → Option VM := rcall X_spec_l11Typed
@[simp] theorem c_spec_l11Typed : C_spec_l11Typed = rcall X_spec_l11Typed := (rfl)
theorem cok_spec_l11Typed : codeOk CT Try.f187 (Try.f187.body.get rfl) = true := by kernel_rfl
theorem xe_spec_l11Typed (t0 t1 : Value) (m : Mem) : ex CT cf_spec_l11Typed Try.f187 2 m.length LL_spec_l11Typed (J_spec_l11Typed m.length QQ) 400 [.code (Try.f187.body.get rfl)] (argsT 0 [t0, t1]) m = X_spec_l11Typed [t0, t1] m := by kernel_rfl
theorem okc_spec_l11Typed : CallOK CT cf_spec_l11Typed := cfc_ok ok_C_spec_l1Next (cfc_ok ok_C_spec_l1Pick (cfc_ok ok_C_spec_l1Encode cfn_ok))
theorem le_spec_l11Typed_0 (k q : Nat) (t0 t1 t5 t6 : Value) (m : Mem) : ex CT cf_spec_l11Typed Try.f187 2 k LL_spec_l11Typed (J_spec_l11Typed k q) 400 (atLoop Try.f187 0) [(0, t0), (1, t1), (5, t5), (6, t6)] m = J_spec_l11Typed k (q + 1) 3 [t0, t1, t5, t6] m := by kernel_rfl
theorem gl_spec_l11Typed (k : Nat) : ∀ q i, i < 1 → GoodL CT k Try.f187 LL_spec_l11Typed (J_spec_l11Typed k q) (atLoop Try.f187 i)
  | 0, 0, _ => goodL_zero (l := 3) (by kernel_rfl) (fun vs m => by kernel_rfl)
  | 0, _ + 1, h => absurd h (by omega)
  | q + 1, 0, _ => goodL_succ (np := 2) (l := 3) (live := [0, 1, 5, 6]) (n := 1) CT_ok rfl okc_spec_l11Typed (c := (Try.f187.body.get rfl)) rfl cok_spec_l11Typed (by kernel_rfl) (gl_spec_l11Typed k q) (by kernel_rfl) rfl (fun vs m r hl h => match vs, hl with
    | [t0, t1, t5, t6], _ => (le_spec_l11Typed_0 k q t0 t1 t5 t6 m).trans h)
  | _ + 1, _ + 1, h => absurd h (by omega)
theorem ok_X_spec_l11Typed : OkX CT 187 X_spec_l11Typed := OkX.of_ex (cf := cf_spec_l11Typed) (np := 2) (LL := LL_spec_l11Typed) (J := (fun k => J_spec_l11Typed k QQ)) CT_ok rfl Try.func187 rfl (Nat.le_of_ble_eq_true rfl) (by decide) cok_spec_l11Typed okc_spec_l11Typed (fun k => allLoops rfl (by kernel_rfl) (gl_spec_l11Typed k QQ)) (fun args m r h => match args, h with
    | [t0, t1], h => ⟨rfl, (xe_spec_l11Typed t0 t1 m).trans h⟩)
theorem ok_C_spec_l11Typed : OkC CT 187 C_spec_l11Typed := rcall_ok rfl ok_X_spec_l11Typed

/-! ### spec.l10Hidden -/
noncomputable def cf_spec_l10Hidden : CallF := cfn
noncomputable def X_spec_l10Hidden : List Value → Mem → Option VM
  | [t0], m =>
    (binX .lss .no t0 (.int .u8 32)) |> bo fun t4 =>
    (gd t4 true (some (t0, m)) m) |> bo fun r2 =>
    (gd t4 true ((binX .neq .no r2.1 (.int .u8 9)) |> bo fun v => some (v, r2.2)) r2.2) |> bo fun r3 =>
    (pickX t4 r3.1 (.bool false)) |> bo fun t8 =>
    (gd t8 true (some (t0, r3.2)) r3.2) |> bo fun r5 =>
    (gd t8 true ((binX .neq .no r5.1 (.int .u8 10)) |> bo fun v => some (v, r5.2)) r5.2) |> bo fun r6 =>
    (pickX t8 r6.1 (.bool false)) |> bo fun t12 =>
    (gd t12 false (some (t0, r6.2)) r6.2) |> bo fun r8 =>
    (gd t12 false ((binX .eql .no r8.1 (.int .u8 127)) |> bo fun v => some (v, r8.2)) r8.2) |> bo fun r9 =>
    (pickX t12 (.bool true) r9.1) |> bo fun t16 =>
    retK m.length r9.2 [t0] t16
  | _, _ => none
noncomputable def C_spec_l10Hidden : List Value → Mem → Option VM := fcall X_spec_l10Hidden
@[simp] theorem c_spec_l10Hidden : C_spec_l10Hidden = fcall X_spec_l10Hidden := (rfl)
theorem cok_spec_l10Hidden : codeOk CT Try.f198 (Try.f198.body.get rfl) = true := by kernel_rfl
theorem xe_spec_l10Hidden (t0 : Value) (m : Mem) : ex CT cf_spec_l10Hidden Try.f198 1 m.length [] (fun _ _ _ => none) 400 [.code (Try.f198.body.get rfl)] (argsT 0 [t0]) m = X_spec_l10Hidden [t0] m := by kernel_rfl
theorem okc_spec_l10Hidden : CallOK CT cf_spec_l10Hidden := cfn_ok
theorem ok_X_spec_l10Hidden : OkX CT 198 X_spec_l10Hidden := OkX.of_ex (cf := cf_spec_l10Hidden) (np := 1) (LL := []) (J := (fun _ _ _ _ => none)) CT_ok rfl Try.func198 rfl (Nat.le_of_ble_eq_true rfl) (by decide) cok_spec_l10Hidden okc_spec_l10Hidden (fun k => noLoops rfl) (fun args m r h => match args, h with
    | [t0], h => ⟨rfl, (xe_spec_l10Hidden t0 m).trans h⟩)
theorem ok_C_spec_l10Hidden : OkC CT 198 C_spec_l10Hidden := fcall_ok rfl ok_X_spec_l10Hidden

/-! ### spec.l10Shown -/
noncomputable def cf_spec_l10Shown : CallF := cfc 177 C_spec_l10Has (cfc 198 C_spec_l10Hidden cfn)
noncomputable def X_spec_l10Shown : List Value → Mem → Option VM
  | [t0, t1], m =>
    (C_spec_l10Has [t0, (.int .i64 16)] m) |> bo fun r1 =>
    (gd r1.1 true (some (t1, r1.2)) r1.2) |> bo fun r2 =>
    (gd r1.1 true ((C_spec_l10Hidden [r2.1] r2.2) |> bo fun r => some (r.1, r.2)) r2.2) |> bo fun r3 =>
    (pickX r1.1 r3.1 (.bool false)) |> bo fun t10 =>
    brX t10
      (
        (binX .xor .no t1 (.int .u8 64)) |> bo fun t12 =>
        (bslX r3.2 2 1 [.int .u8 0] [(0, 1, (.int .u8 94)), (1, 1, t12)]) |> bo fun r6 =>
        retK m.length r6.2 [t0, t1] r6.1)
      (
        (bslX r3.2 1 1 [.int .u8 0] [(0, 1, t1)]) |> bo fun r7 =>
        retK m.length r7.2 [t0, t1] r7.1)
  | _, _ => none
noncomputable def C_spec_l10Shown : List Value → Mem → Option VM := fcall X_spec_l10Shown
@[simp] theorem c_spec_l10Shown : C_spec_l10Shown = fcall X_spec_l10Shown := (rfl)
theorem cok_spec_l10Shown : codeOk CT Try.f195 (Try.f195.body.get rfl) = true := by kernel_rfl
theorem xe_spec_l10Shown (t0 t1 : Value) (m : Mem) : ex CT cf_spec_l10Shown Try.f195 2 m.length [] (fun _ _ _ => none) 400 [.code (Try.f195.body.get rfl)] (argsT 0 [t0, t1]) m = X_spec_l10Shown [t0, t1] m := by kernel_rfl
theorem okc_spec_l10Shown : CallOK CT cf_spec_l10Shown := cfc_ok ok_C_spec_l10Has (cfc_ok ok_C_spec_l10Hidden cfn_ok)
theorem ok_X_spec_l10Shown : OkX CT 195 X_spec_l10Shown := OkX.of_ex (cf := cf_spec_l10Shown) (np := 2) (LL := []) (J := (fun _ _ _ _ => none)) CT_ok rfl Try.func195 rfl (Nat.le_of_ble_eq_true rfl) (by decide) cok_spec_l10Shown okc_spec_l10Shown (fun k => noLoops rfl) (fun args m r h => match args, h with
    | [t0, t1], h => ⟨rfl, (xe_spec_l10Shown t0 t1 m).trans h⟩)
theorem ok_C_spec_l10Shown : OkC CT 195 C_spec_l10Shown := fcall_ok rfl ok_X_spec_l10Shown

/-! ### spec.l11Echo -/
noncomputable def cf_spec_l11Echo : CallF := cfc 177 C_spec_l10Has (cfc 195 C_spec_l10Shown cfn)
noncomputable def X_spec_l11Echo : List Value → Mem → Option VM
  | [t0, t1], m =>
    (C_spec_l10Has [t0, (.int .i64 2)] m) |> bo fun r1 =>
    brX r1.1
      (
        (C_spec_l10Shown [t0, t1] r1.2) |> bo fun r2 =>
        retK m.length r2.2 [t0, t1] r2.1)
      (
        (bslX r1.2 0 1 [.int .u8 0] []) |> bo fun r3 =>
        retK m.length r3.2 [t0, t1] r3.1)
  | _, _ => none
noncomputable def C_spec_l11Echo : List Value → Mem → Option VM := fcall X_spec_l11Echo
@[simp] theorem c_spec_l11Echo : C_spec_l11Echo = fcall X_spec_l11Echo := (rfl)
theorem cok_spec_l11Echo : codeOk CT Try.f192 (Try.f192.body.get rfl) = true := by kernel_rfl
theorem xe_spec_l11Echo (t0 t1 : Value) (m : Mem) : ex CT cf_spec_l11Echo Try.f192 2 m.length [] (fun _ _ _ => none) 400 [.code (Try.f192.body.get rfl)] (argsT 0 [t0, t1]) m = X_spec_l11Echo [t0, t1] m := by kernel_rfl
theorem okc_spec_l11Echo : CallOK CT cf_spec_l11Echo := cfc_ok ok_C_spec_l10Has (cfc_ok ok_C_spec_l10Shown cfn_ok)
theorem ok_X_spec_l11Echo : OkX CT 192 X_spec_l11Echo := OkX.of_ex (cf := cf_spec_l11Echo) (np := 2) (LL := []) (J := (fun _ _ _ _ => none)) CT_ok rfl Try.func192 rfl (Nat.le_of_ble_eq_true rfl) (by decide) cok_spec_l11Echo okc_spec_l11Echo (fun k => noLoops rfl) (fun args m r h => match args, h with
    | [t0, t1], h => ⟨rfl, (xe_spec_l11Echo t0 t1 m).trans h⟩)
theorem ok_C_spec_l11Echo : OkC CT 192 C_spec_l11Echo := fcall_ok rfl ok_X_spec_l11Echo

/-! ### spec.l11Take -/
noncomputable def cf_spec_l11Take : CallF := cfc 185 C_spec_l11Size (cfc 192 C_spec_l11Echo cfn)
noncomputable def X_spec_l11Take : List Value → Mem → Option VM
  | [t0, t1, t2], m =>
    (C_spec_l11Size [t1] m) |> bo fun r1 =>
    (binX .add .no r1.1 (.int .i64 2)) |> bo fun t9 =>
    (binX .gtr .no t9 (.int .i64 40)) |> bo fun t10 =>
    brX t10
      (
        (bslX r1.2 0 1 [.int .u8 0] []) |> bo fun r4 =>
        retK m.length r4.2 [t0, t1, t2] r4.1)
      (
        (nilX t1) |> bo fun t14 =>
        (fadX 1 t14) |> bo fun t15 =>
        (ld1 r1.2 t15) |> bo fun t16 =>
        (bslX r1.2 1 1 [.int .u8 0] [(0, 1, t2)]) |> bo fun r8 =>
        (apL r8.2 1 1 t16 r8.1) |> bo fun r9 =>
        (nilX t1) |> bo fun t20 =>
        (fadX 1 t20) |> bo fun t21 =>
        (stX r9.2 1 t21 r9.1) |> bo fun m12 =>
        (C_spec_l11Echo [t0, t2] m12) |> bo fun r13 =>
        retK m.length r13.2 [t0, t1, t2] r13.1)
  | _, _ => none
noncomputable def C_spec_l11Take : List Value → Mem → Option VM := rcall X_spec_l11Take
@[simp] theorem c_spec_l11Take : C_spec_l11Take = rcall X_spec_l11Take := (rfl)
theorem cok_spec_l11Take : codeOk CT Try.f190 (Try.f190.body.get rfl) = true := by kernel_rfl
theorem xe_spec_l11Take (t0 t1 t2 : Value) (m : Mem) : ex CT cf_spec_l11Take Try.f190 3 m.length [] (fun _ _ _ => none) 400 [.code (Try.f190.body.get rfl)] (argsT 0 [t0, t1, t2]) m = X_spec_l11Take [t0, t1, t2] m := by kernel_rfl
theorem okc_spec_l11Take : CallOK CT cf_spec_l11Take := cfc_ok ok_C_spec_l11Size (cfc_ok ok_C_spec_l11Echo cfn_ok)
theorem ok_X_spec_l11Take : OkX CT 190 X_spec_l11Take := OkX.of_ex (cf := cf_spec_l11Take) (np := 3) (LL := []) (J := (fun _ _ _ _ => none)) CT_ok rfl Try.func190 rfl (Nat.le_of_ble_eq_true rfl) (by decide) cok_spec_l11Take okc_spec_l11Take (fun k => noLoops rfl) (fun args m r h => match args, h with
    | [t0, t1, t2], h => ⟨rfl, (xe_spec_l11Take t0 t1 t2 m).trans h⟩)
theorem ok_C_spec_l11Take : OkC CT 190 C_spec_l11Take := rcall_ok rfl ok_X_spec_l11Take

/-! ### spec.l11Is -/
noncomputable def cf_spec_l11Is : CallF := cfn
noncomputable def X_spec_l11Is : List Value → Mem → Option VM
  | [t0, t1], m =>
    (binX .neq .no t0 (.int .i64 0)) |> bo fun t6 =>
    (gd t6 true (some (t0, m)) m) |> bo fun r2 =>
    (gd t6 true (some (t1, r2.2)) r2.2) |> bo fun r3 =>
    (gd t6 true ((cvI .i64 r3.1) |> bo fun v => some (v, r3.2)) r3.2) |> bo fun r4 =>
    (gd t6 true ((binX .eql .no r2.1 r4.1) |> bo fun v => some (v, r4.2)) r4.2) |> bo fun r5 =>
    (pickX t6 r5.1 (.bool false)) |> bo fun t12 =>
    retK m.length r5.2 [t0, t1] t12
  | _, _ => none
noncomputable def C_spec_l11Is : List Value → Mem → Option VM := fcall X_spec_l11Is
@[simp] theorem c_spec_l11Is : C_spec_l11Is = fcall X_spec_l11Is := (rfl)
theorem cok_spec_l11Is : codeOk CT Try.f191 (Try.f191.body.get rfl) = true := by kernel_rfl
theorem xe_spec_l11Is (t0 t1 : Value) (m : Mem) : ex CT cf_spec_l11Is Try.f191 2 m.length [] (fun _ _ _ => none) 400 [.code (Try.f191.body.get rfl)] (argsT 0 [t0, t1]) m = X_spec_l11Is [t0, t1] m := by kernel_rfl
theorem okc_spec_l11Is : CallOK CT cf_spec_l11Is := cfn_ok
theorem ok_X_spec_l11Is : OkX CT 191 X_spec_l11Is := OkX.of_ex (cf := cf_spec_l11Is) (np := 2) (LL := []) (J := (fun _ _ _ _ => none)) CT_ok rfl Try.func191 rfl (Nat.le_of_ble_eq_true rfl) (by decide) cok_spec_l11Is okc_spec_l11Is (fun k => noLoops rfl) (fun args m r h => match args, h with
    | [t0, t1], h => ⟨rfl, (xe_spec_l11Is t0 t1 m).trans h⟩)
theorem ok_C_spec_l11Is : OkC CT 191 C_spec_l11Is := fcall_ok rfl ok_X_spec_l11Is

/-! ### spec.l11Raw -/
noncomputable def cf_spec_l11Raw : CallF := cfc 185 C_spec_l11Size (cfc 192 C_spec_l11Echo cfn)
noncomputable def X_spec_l11Raw : List Value → Mem → Option VM
  | [t0, t1, t2], m =>
    (nilX t1) |> bo fun t8 =>
    (fadX 0 t8) |> bo fun t9 =>
    (ld1 m t9) |> bo fun t10 =>
    (lenX t10) |> bo fun t11 =>
    (binX .geq .no t11 (.int .i64 40)) |> bo fun t12 =>
    (gd t12 false (some (t1, m)) m) |> bo fun r6 =>
    (gd t12 false ((C_spec_l11Size [r6.1] r6.2) |> bo fun r => some (r.1, r.2)) r6.2) |> bo fun r7 =>
    (gd t12 false ((binX .geq .no r7.1 (.int .i64 40)) |> bo fun v => some (v, r7.2)) r7.2) |> bo fun r8 =>
    (pickX t12 (.bool true) r8.1) |> bo fun t17 =>
    brX t17
      (
        (bslX r8.2 0 1 [.int .u8 0] []) |> bo fun r10 =>
        retK m.length r10.2 [t0, t1, t2] r10.1)
      (
        (nilX t1) |> bo fun t21 =>
        (fadX 0 t21) |> bo fun t22 =>
        (ld1 r8.2 t22) |> bo fun t23 =>
        (bslX r8.2 1 1 [.int .u8 0] [(0, 1, t2)]) |> bo fun r14 =>
        (bslX r14.2 1 1 [.slice none 0 0] [(0, 1, r14.1)]) |> bo fun r15 =>
        (apL r15.2 1 24 t23 r15.1) |> bo fun r16 =>
        (nilX t1) |> bo fun t28 =>
        (fadX 0 t28) |> bo fun t29 =>
        (stX r16.2 1 t29 r16.1) |> bo fun m19 =>
        (C_spec_l11Echo [t0, t2] m19) |> bo fun r20 =>
        retK m.length r20.2 [t0, t1, t2] r20.1)
  | _, _ => none
noncomputable def C_spec_l11Raw : List Value → Mem → Option VM := zcall X_spec_l11Raw
@[simp] theorem c_spec_l11Raw : C_spec_l11Raw = zcall X_spec_l11Raw := (rfl)
theorem cok_spec_l11Raw : codeOk CT Try.f193 (Try.f193.body.get rfl) = true := by kernel_rfl
theorem xe_spec_l11Raw (t0 t1 t2 : Value) (m : Mem) : ex CT cf_spec_l11Raw Try.f193 3 m.length [] (fun _ _ _ => none) 400 [.code (Try.f193.body.get rfl)] (argsT 0 [t0, t1, t2]) m = X_spec_l11Raw [t0, t1, t2] m := by kernel_rfl
theorem okc_spec_l11Raw : CallOK CT cf_spec_l11Raw := cfc_ok ok_C_spec_l11Size (cfc_ok ok_C_spec_l11Echo cfn_ok)
theorem ok_X_spec_l11Raw : OkX CT 193 X_spec_l11Raw := OkX.of_ex (cf := cf_spec_l11Raw) (np := 3) (LL := []) (J := (fun _ _ _ _ => none)) CT_ok rfl Try.func193 rfl (Nat.le_of_ble_eq_true rfl) (by decide) cok_spec_l11Raw okc_spec_l11Raw (fun k => noLoops rfl) (fun args m r h => match args, h with
    | [t0, t1, t2], h => ⟨rfl, (xe_spec_l11Raw t0 t1 t2 m).trans h⟩)
theorem ok_C_spec_l11Raw : OkC CT 193 C_spec_l11Raw := zcall_ok rfl ok_X_spec_l11Raw

/-! ### spec.l11Last -/
noncomputable def cf_spec_l11Last : CallF := cfn
noncomputable def L_spec_l11Last (k : Nat) : Nat → Nat → List Value → Mem → Option VM
  | q + 1, 0, [t0, t3], m =>
    (binX .gtr .no t3 (.int .i64 0)) |> bo fun t8 =>
    (gd t8 true (some (t0, m)) m) |> bo fun r2 =>
    (gd t8 true (some (t3, r2.2)) r2.2) |> bo fun r3 =>
    (gd t8 true ((ixaX 1 r2.1 r3.1) |> bo fun v => some (v, r3.2)) r3.2) |> bo fun r4 =>
    (gd t8 true ((ld1 r4.2 r4.1) |> bo fun v => some (v, r4.2)) r4.2) |> bo fun r5 =>
    (gd t8 true ((binX .geq .no r5.1 (.int .u8 128)) |> bo fun v => some (v, r5.2)) r5.2) |> bo fun r6 =>
    (pickX t8 r6.1 (.bool false)) |> bo fun t15 =>
    (gd t15 true (some (t0, r6.2)) r6.2) |> bo fun r8 =>
    (gd t15 true (some (t3, r8.2)) r8.2) |> bo fun r9 =>
    (gd t15 true ((ixaX 1 r8.1 r9.1) |> bo fun v => some (v, r9.2)) r9.2) |> bo fun r10 =>
    (gd t15 true ((ld1 r10.2 r10.1) |> bo fun v => some (v, r10.2)) r10.2) |> bo fun r11 =>
    (gd t15 true ((binX .leq .no r11.1 (.int .u8 191)) |> bo fun v => some (v, r11.2)) r11.2) |> bo fun r12 =>
    (pickX t15 r12.1 (.bool false)) |> bo fun t22 =>
    brX t22
      (
        (binX .sub .no t3 (.int .i64 1)) |> bo fun t24 =>
        cutK k r12.2 [t0] [t0, t24] (L_spec_l11Last k q 0))
      (
        retK k r12.2 [t0] t3)
  | _, _, _, _ => none
noncomputable def J_spec_l11Last (k q l : Nat) : List Value → Mem → Option VM := cond (Nat.beq l 2) (L_spec_l11Last k q 0) (fun _ _ => none)
def LL_spec_l11Last : List (Nat × List Tmp) := [(2, [0, 3])]
noncomputable def X_spec_l11Last : List Value → Mem → Option VM
  | [t0], m =>
    (lenX t0) |> bo fun t5 =>
    (binX .sub .no t5 (.int .i64 1)) |> bo fun t6 =>
    cutK m.length m [t0] [t0, t6] (L_spec_l11Last m.length QQ 0)
  | _, _ => none
noncomputable def C_spec_l11Last : List Value → Mem → Option VM := fcall X_spec_l11Last
@[simp] theorem c_spec_l11Last : C_spec_l11Last = fcall X_spec_l11Last := (rfl)
theorem cok_spec_l11Last : codeOk CT Try.f201 (Try.f201.body.get rfl) = true := by kernel_rfl
theorem xe_spec_l11Last (t0 : Value) (m : Mem) : ex CT cf_spec_l11Last Try.f201 1 m.length LL_spec_l11Last (J_spec_l11Last m.length QQ) 400 [.code (Try.f201.body.get rfl)] (argsT 0 [t0]) m = X_spec_l11Last [t0] m := by kernel_rfl
theorem okc_spec_l11Last : CallOK CT cf_spec_l11Last := cfn_ok
theorem le_spec_l11Last_0 (k q : Nat) (t0 t3 : Value) (m : Mem) : ex CT cf_spec_l11Last Try.f201 1 k LL_spec_l11Last (J_spec_l11Last k q) 400 (atLoop Try.f201 0) [(0, t0), (3, t3)] m = J_spec_l11Last k (q + 1) 2 [t0, t3] m := by kernel_rfl
theorem gl_spec_l11Last (k : Nat) : ∀ q i, i < 1 → GoodL CT k Try.f201 LL_spec_l11Last (J_spec_l11Last k q) (atLoop Try.f201 i)
  | 0, 0, _ => goodL_zero (l := 2) (by kernel_rfl) (fun vs m => by kernel_rfl)
  | 0, _ + 1, h => absurd h (by omega)
  | q + 1, 0, _ => goodL_succ (np := 1) (l := 2) (live := [0, 3]) (n := 1) CT_ok rfl okc_spec_l11Last (c := (Try.f201.body.get rfl)) rfl cok_spec_l11Last (by kernel_rfl) (gl_spec_l11Last k q) (by kernel_rfl) rfl (fun vs m r hl h => match vs, hl with
    | [t0, t3], _ => (le_spec_l11Last_0 k q t0 t3 m).trans h)
  | _ + 1, _ + 1, h => absurd h (by omega)
theorem ok_X_spec_l11Last : OkX CT 201 X_spec_l11Last := OkX.of_ex (cf := cf_spec_l11Last) (np := 1) (LL := LL_spec_l11Last) (J := (fun k => J_spec_l11Last k QQ)) CT_ok rfl Try.func201 rfl (Nat.le_of_ble_eq_true rfl) (by decide) cok_spec_l11Last okc_spec_l11Last (fun k => allLoops rfl (by kernel_rfl) (gl_spec_l11Last k QQ)) (fun args m r h => match args, h with
    | [t0], h => ⟨rfl, (xe_spec_l11Last t0 m).trans h⟩)
theorem ok_C_spec_l11Last : OkC CT 201 C_spec_l11Last := fcall_ok rfl ok_X_spec_l11Last

/-! ### spec.l11Drop -/
noncomputable def cf_spec_l11Drop : CallF := cfc 177 C_spec_l10Has (cfc 198 C_spec_l10Hidden (cfc 201 C_spec_l11Last cfn))
noncomputable def X_spec_l11Drop : List Value → Mem → Option VM
  | [t0, t1], m =>
    (nilX t1) |> bo fun t8 =>
    (fadX 1 t8) |> bo fun t9 =>
    (ld1 m t9) |> bo fun t10 =>
    (C_spec_l11Last [t10] m) |> bo fun r4 =>
    (nilX t1) |> bo fun t13 =>
    (fadX 1 t13) |> bo fun t14 =>
    (ld1 r4.2 t14) |> bo fun t15 =>
    (ixaX 1 t15 r4.1) |> bo fun t17 =>
    (ld1 r4.2 t17) |> bo fun t18 =>
    (nilX t1) |> bo fun t21 =>
    (fadX 1 t21) |> bo fun t22 =>
    (ld1 r4.2 t22) |> bo fun t23 =>
    (slX r4.2 1 t23 none (some r4.1)) |> bo fun t25 =>
    (nilX t1) |> bo fun t26 =>
    (fadX 1 t26) |> bo fun t27 =>
    (stX r4.2 1 t27 t25) |> bo fun m16 =>
    (C_spec_l10Has [t0, (.int .i64 2)] m16) |> bo fun r17 =>
    (uop .not r17.1) |> bo fun t30 =>
    (gd t30 false (some (t0, r17.2)) r17.2) |> bo fun r19 =>
    (gd t30 false ((C_spec_l10Has [r19.1, (.int .i64 4)] r19.2) |> bo fun r => some (r.1, r.2)) r19.2) |> bo fun r20 =>
    (gd t30 false ((uop .not r20.1) |> bo fun v => some (v, r20.2)) r20.2) |> bo fun r21 =>
    (pickX t30 (.bool true) r21.1) |> bo fun t35 =>
    brX t35
      (
        (bslX r21.2 0 1 [.int .u8 0] []) |> bo fun r23 =>
        retK m.length r23.2 [t0, t1] r23.1)
      (
        (C_spec_l10Has [t0, (.int .i64 16)] r21.2) |> bo fun r24 =>
        (gd r24.1 true (some (t18, r24.2)) r24.2) |> bo fun r25 =>
        (gd r24.1 true ((C_spec_l10Hidden [r25.1] r25.2) |> bo fun r => some (r.1, r.2)) r25.2) |> bo fun r26 =>
        (pickX r24.1 r26.1 (.bool false)) |> bo fun t42 =>
        brX t42
          (
            (bslX r26.2 6 1 [.int .u8 0] [(0, 1, (.int .u8 8)), (1, 1, (.int .u8 32)), (2, 1, (.int .u8 8)), (3, 1, (.int .u8 8)), (4, 1, (.int .u8 32)), (5, 1, (.int .u8 8))]) |> bo fun r28 =>
            retK m.length r28.2 [t0, t1] r28.1)
          (
            (bslX r26.2 3 1 [.int .u8 0] [(0, 1, (.int .u8 8)), (1, 1, (.int .u8 32)), (2, 1, (.int .u8 8))]) |> bo fun r29 =>
            retK m.length r29.2 [t0, t1] r29.1))
  | _, _ => none
noncomputable def C_spec_l11Drop : List Value → Mem → Option VM := rcall X_spec_l11Drop
@[simp] theorem c_spec_l11Drop : C_spec_l11Drop = rcall X_spec_l11Drop := (rfl)
theorem cok_spec_l11Drop : codeOk CT Try.f199 (Try.f199.body.get rfl) = true := by kernel_rfl
theorem xe_spec_l11Drop (t0 t1 : Value) (m : Mem) : ex CT cf_spec_l11Drop Try.f199 2 m.length [] (fun _ _ _ => none) 400 [.code (Try.f199.body.get rfl)] (argsT 0 [t0, t1]) m = X_spec_l11Drop [t0, t1] m := by kernel_rfl
theorem okc_spec_l11Drop : CallOK CT cf_spec_l11Drop := cfc_ok ok_C_spec_l10Has (cfc_ok ok_C_spec_l10Hidden (cfc_ok ok_C_spec_l11Last cfn_ok))
theorem ok_X_spec_l11Drop : OkX CT 199 X_spec_l11Drop := OkX.of_ex (cf := cf_spec_l11Drop) (np := 2) (LL := []) (J := (fun _ _ _ _ => none)) CT_ok rfl Try.func199 rfl (Nat.le_of_ble_eq_true rfl) (by decide) cok_spec_l11Drop okc_spec_l11Drop (fun k => noLoops rfl) (fun args m r h => match args, h with
    | [t0, t1], h => ⟨rfl, (xe_spec_l11Drop t0 t1 m).trans h⟩)
theorem ok_C_spec_l11Drop : OkC CT 199 C_spec_l11Drop := rcall_ok rfl ok_X_spec_l11Drop

/-! ### spec.l11Word -/
noncomputable def cf_spec_l11Word : CallF := cfc 199 C_spec_l11Drop cfn
noncomputable def L_spec_l11Word (k : Nat) : Nat → Nat → List Value → Mem → Option VM
  | q + 1, 0, [t0, t1, t5], m =>
    (nilX t1) |> bo fun t8 =>
    (fadX 1 t8) |> bo fun t9 =>
    (ld1 m t9) |> bo fun t10 =>
    (lenX t10) |> bo fun t11 =>
    (binX .gtr .no t11 (.int .i64 0)) |> bo fun t12 =>
    (gd t12 true (some (t1, m)) m) |> bo fun r6 =>
    (gd t12 true ((nilX r6.1) |> bo fun v => some (v, r6.2)) r6.2) |> bo fun r7 =>
    (gd t12 true ((fadX 1 r7.1) |> bo fun v => some (v, r7.2)) r7.2) |> bo fun r8 =>
    (gd t12 true ((ld1 r8.2 r8.1) |> bo fun v => some (v, r8.2)) r8.2) |> bo fun r9 =>
    (gd t12 true (some (t1, r9.2)) r9.2) |> bo fun r10 =>
    (gd t12 true ((nilX r10.1) |> bo fun v => some (v, r10.2)) r10.2) |> bo fun r11 =>
    (gd t12 true ((fadX 1 r11.1) |> bo fun v => some (v, r11.2)) r11.2) |> bo fun r12 =>
    (gd t12 true ((ld1 r12.2 r12.1) |> bo fun v => some (v, r12.2)) r12.2) |> bo fun r13 =>
    (gd t12 true ((lenX r13.1) |> bo fun v => some (v, r13.2)) r13.2) |> bo fun r14 =>
    (gd t12 true ((binX .sub .no r14.1 (.int .i64 1)) |> bo fun v => some (v, r14.2)) r14.2) |> bo fun r15 =>
    (gd t12 true ((ixaX 1 r9.1 r15.1) |> bo fun v => some (v, r15.2)) r15.2) |> bo fun r16 =>
    (gd t12 true ((ld1 r16.2 r16.1) |> bo fun v => some (v, r16.2)) r16.2) |> bo fun r17 =>
    (gd t12 true ((binX .eql .no r17.1 (.int .u8 32)) |> bo fun v => some (v, r17.2)) r17.2) |> bo fun r18 =>
    (pickX t12 r18.1 (.bool false)) |> bo fun t27 =>
    brX t27
      (
        (C_spec_l11Drop [t0, t1] r18.2) |> bo fun r20 =>
        (apL r20.2 1 1 t5 r20.1) |> bo fun r21 =>
        cutK k r21.2 [t0, t1] [t0, t1, r21.1] (L_spec_l11Word k q 0))
      (
        cutK k r18.2 [t0, t1] [t0, t1, t5] (L_spec_l11Word k q 1))
  | q + 1, 1, [t0, t1, t5], m =>
    (nilX t1) |> bo fun t34 =>
    (fadX 1 t34) |> bo fun t35 =>
    (ld1 m t35) |> bo fun t36 =>
    (lenX t36) |> bo fun t37 =>
    (binX .gtr .no t37 (.int .i64 0)) |> bo fun t38 =>
    (gd t38 true (some (t1, m)) m) |> bo fun r6 =>
    (gd t38 true ((nilX r6.1) |> bo fun v => some (v, r6.2)) r6.2) |> bo fun r7 =>
    (gd t38 true ((fadX 1 r7.1) |> bo fun v => some (v, r7.2)) r7.2) |> bo fun r8 =>
    (gd t38 true ((ld1 r8.2 r8.1) |> bo fun v => some (v, r8.2)) r8.2) |> bo fun r9 =>
    (gd t38 true (some (t1, r9.2)) r9.2) |> bo fun r10 =>
    (gd t38 true ((nilX r10.1) |> bo fun v => some (v, r10.2)) r10.2) |> bo fun r11 =>
    (gd t38 true ((fadX 1 r11.1) |> bo fun v => some (v, r11.2)) r11.2) |> bo fun r12 =>
    (gd t38 true ((ld1 r12.2 r12.1) |> bo fun v => some (v, r12.2)) r12.2) |> bo fun r13 =>
    (gd t38 true ((lenX r13.1) |> bo fun v => some (v, r13.2)) r13.2) |> bo fun r14 =>
    (gd t38 true ((binX .sub .no r14.1 (.int .i64 1)) |> bo fun v => some (v, r14.2)) r14.2) |> bo fun r15 =>
    (gd t38 true ((ixaX 1 r9.1 r15.1) |> bo fun v => some (v, r15.2)) r15.2) |> bo fun r16 =>
    (gd t38 true ((ld1 r16.2 r16.1) |> bo fun v => some (v, r16.2)) r16.2) |> bo fun r17 =>
    (gd t38 true ((binX .neq .no r17.1 (.int .u8 32)) |> bo fun v => some (v, r17.2)) r17.2) |> bo fun r18 =>
    (pickX t38 r18.1 (.bool false)) |> bo fun t53 =>
    brX t53
      (
        (C_spec_l11Drop [t0, t1] r18.2) |> bo fun r20 =>
        (apL r20.2 1 1 t5 r20.1) |> bo fun r21 =>
        cutK k r21.2 [t0, t1] [t0, t1, r21.1] (L_spec_l11Word k q 1))
      (
        retK k r18.2 [t0, t1] t5)
  | _, _, _, _ => none
noncomputable def J_spec_l11Word (k q l : Nat) : List Value → Mem → Option VM := cond (Nat.beq l 2) (L_spec_l11Word k q 0) (cond (Nat.beq l 4) (L_spec_l11Word k q 1) (fun _ _ => none))
def LL_spec_l11Word : List (Nat × List Tmp) := [(2, [0, 1, 5]), (4, [0, 1, 5])]
noncomputable def X_spec_l11Word : List Value → Mem → Option VM
  | [t0, t1], m =>
    (bslX m 0 1 [.int .u8 0] []) |> bo fun r1 =>
    cutK m.length r1.2 [t0, t1] [t0, t1, r1.1] (L_spec_l11Word m.length QQ 0)
  | _, _ => none
noncomputable def C_spec_l11Word : List Value → Mem → Option VM := rcall X_spec_l11Word
@[simp] theorem c_spec_l11Word : C_spec_l11Word = rcall X_spec_l11Word := (rfl)
theorem cok_spec_l11Word : codeOk CT Try.f200 (Try.f200.body.get rfl) = true := by kernel_rfl
theorem xe_spec_l11Word (t0 t1 : Value) (m : Mem) : ex CT cf_spec_l11Word Try.f200 2 m.length LL_spec_l11Word (J_spec_l11Word m.length QQ) 400 [.code (Try.f200.body.get rfl)] (argsT 0 [t0, t1]) m = X_spec_l11Word [t0, t1] m := by kernel_rfl
theorem okc_spec_l11Word : CallOK CT cf_spec_l11Word := cfc_ok ok_C_spec_l11Drop cfn_ok
theorem le_spec_l11Word_0 (k q : Nat) (t0 t1 t5 : Value) (m : Mem) : ex CT cf_spec_l11Word Try.f200 2 k LL_spec_l11Word (J_spec_l11Word k q) 400 (atLoop Try.f200 0) [(0, t0), (1, t1), (5, t5)] m = J_spec_l11Word k (q + 1) 2 [t0, t1, t5] m := by kernel_rfl
theorem le_spec_l11Word_1 (k q : Nat) (t0 t1 t5 : Value) (m : Mem) : ex CT cf_spec_l11Word Try.f200 2 k LL_spec_l11Word (J_spec_l11Word k q) 400 (atLoop Try.f200 1) [(0, t0), (1, t1), (5, t5)] m = J_spec_l11Word k (q + 1) 4 [t0, t1, t5] m := by kernel_rfl
theorem gl_spec_l11Word (k : Nat) : ∀ q i, i < 2 → GoodL CT k Try.f200 LL_spec_l11Word (J_spec_l11Word k q) (atLoop Try.f200 i)
  | 0, 0, _ => goodL_zero (l := 2) (by kernel_rfl) (fun vs m => by kernel_rfl)
  | 0, 1, _ => goodL_zero (l := 4) (by kernel_rfl) (fun vs m => by kernel_rfl)
  | 0, _ + 2, h => absurd h (by omega)
  | q + 1, 0, _ => goodL_succ (np := 2) (l := 2) (live := [0, 1, 5]) (n := 2) CT_ok rfl okc_spec_l11Word (c := (Try.f200.body.get rfl)) rfl cok_spec_l11Word (by kernel_rfl) (gl_spec_l11Word k q) (by kernel_rfl) rfl (fun vs m r hl h => match vs, hl with
    | [t0, t1, t5], _ => (le_spec_l11Word_0 k q t0 t1 t5 m).trans h)
  | q + 1, 1, _ => goodL_succ (np := 2) (l := 4) (live := [0, 1, 5]) (n := 2) CT_ok rfl okc_spec_l11Word (c := (Try.f200.body.get rfl)) rfl cok_spec_l11Word (by kernel_rfl) (gl_spec_l11Word k q) (by kernel_rfl) rfl (fun vs m r hl h => match vs, hl with
    | [t0, t1, t5], _ => (le_spec_l11Word_1 k q t0 t1 t5 m).trans h)
  | _ + 1, _ + 2, h => absurd h (by omega)
theorem ok_X_spec_l11Word : OkX CT 200 X_spec_l11Word := OkX.of_ex (cf := cf_spec_l11Word) (np := 2) (LL := LL_spec_l11Word) (J := (fun k => J_spec_l11Word k QQ)) CT_ok rfl Try.func200 rfl (Nat.le_of_ble_eq_true rfl) (by decide) cok_spec_l11Word okc_spec_l11Word (fun k => allLoops rfl (by kernel_rfl) (gl_spec_l11Word k QQ)) (fun args m r h => match args, h with
    | [t0, t1], h => ⟨rfl, (xe_spec_l11Word t0 t1 m).trans h⟩)
theorem ok_C_spec_l11Word : OkC CT 200 C_spec_l11Word := rcall_ok rfl ok_X_spec_l11Word

/-! ### spec.l11Gone -/
noncomputable def cf_spec_l11Gone : CallF := cfc 177 C_spec_l10Has (cfc 191 C_spec_l11Is (cfc 192 C_spec_l11Echo (cfc 199 C_spec_l11Drop (cfc 200 C_spec_l11Word cfn))))
noncomputable def L_spec_l11Gone (k : Nat) : Nat → Nat → List Value → Mem → Option VM
  | q + 1, 0, [t0, t1, t2, t7, t8], m =>
    (nilX t1) |> bo fun t11 =>
    (fadX 1 t11) |> bo fun t12 =>
    (ld1 m t12) |> bo fun t13 =>
    (lenX t13) |> bo fun t14 =>
    (binX .gtr .no t14 (.int .i64 0)) |> bo fun t15 =>
    brX t15
      (
        (C_spec_l11Drop [t0, t1] m) |> bo fun r6 =>
        (apL r6.2 1 1 t7 r6.1) |> bo fun r7 =>
        cutK k r7.2 [t0, t1, t2] [t0, t1, t2, r7.1, t8] (L_spec_l11Gone k q 0))
      (
        (C_spec_l10Has [t0, (.int .i64 4)] m) |> bo fun r8 =>
        (uop .not r8.1) |> bo fun t49 =>
        brX t49
          (
            (C_spec_l11Echo [t0, t2] r8.2) |> bo fun r10 =>
            (gd t8 true (some (t0, r10.2)) r10.2) |> bo fun r11 =>
            (gd t8 true ((C_spec_l10Has [r11.1, (.int .i64 8)] r11.2) |> bo fun r => some (r.1, r.2)) r11.2) |> bo fun r12 =>
            (pickX t8 r12.1 (.bool false)) |> bo fun t57 =>
            (gd t57 true (some (t0, r12.2)) r12.2) |> bo fun r14 =>
            (gd t57 true ((C_spec_l10Has [r14.1, (.int .i64 2)] r14.2) |> bo fun r => some (r.1, r.2)) r14.2) |> bo fun r15 =>
            (pickX t57 r15.1 (.bool false)) |> bo fun t61 =>
            brX t61
              (
                (bslX r15.2 1 1 [.int .u8 0] [(0, 1, (.int .u8 10))]) |> bo fun r17 =>
                (apL r17.2 1 1 r10.1 r17.1) |> bo fun r18 =>
                retK k r18.2 [t0, t1, t2] r18.1)
              (
                retK k r15.2 [t0, t1, t2] r10.1))
          (
            retK k r8.2 [t0, t1, t2] t7))
  | _, _, _, _ => none
noncomputable def J_spec_l11Gone (k q l : Nat) : List Value → Mem → Option VM := cond (Nat.beq l 4) (L_spec_l11Gone k q 0) (fun _ _ => none)
def LL_spec_l11Gone : List (Nat × List Tmp) := [(4, [0, 1, 2, 7, 8])]
noncomputable def X_spec_l11Gone : List Value → Mem → Option VM
  | [t0, t1, t2], m =>
    (bslX m 0 1 [.int .u8 0] []) |> bo fun r1 =>
    (nilX t0) |> bo fun t23 =>
    (fadX 1 t23) |> bo fun t24 =>
    (ld1 r1.2 t24) |> bo fun t25 =>
    (C_spec_l11Is [t25, t2] r1.2) |> bo fun r5 =>
    brX r5.1
      (
        (nilX t1) |> bo fun t29 =>
        (fadX 1 t29) |> bo fun t30 =>
        (ld1 r5.2 t30) |> bo fun t31 =>
        (lenX t31) |> bo fun t32 =>
        (binX .gtr .no t32 (.int .i64 0)) |> bo fun t33 =>
        brX t33
          (
            (C_spec_l11Drop [t0, t1] r5.2) |> bo fun r11 =>
            (C_spec_l10Has [t0, (.int .i64 4)] r11.2) |> bo fun r12 =>
            (uop .not r12.1) |> bo fun t49 =>
            brX t49
              (
                (C_spec_l11Echo [t0, t2] r12.2) |> bo fun r14 =>
                (gd (.bool false) true (some (t0, r14.2)) r14.2) |> bo fun r15 =>
                (gd (.bool false) true ((C_spec_l10Has [r15.1, (.int .i64 8)] r15.2) |> bo fun r => some (r.1, r.2)) r15.2) |> bo fun r16 =>
                (pickX (.bool false) r16.1 (.bool false)) |> bo fun t57 =>
                (gd t57 true (some (t0, r16.2)) r16.2) |> bo fun r18 =>
                (gd t57 true ((C_spec_l10Has [r18.1, (.int .i64 2)] r18.2) |> bo fun r => some (r.1, r.2)) r18.2) |> bo fun r19 =>
                (pickX t57 r19.1 (.bool false)) |> bo fun t61 =>
                brX t61
                  (
                    (bslX r19.2 1 1 [.int .u8 0] [(0, 1, (.int .u8 10))]) |> bo fun r21 =>
                    (apL r21.2 1 1 r14.1 r21.1) |> bo fun r22 =>
                    retK m.length r22.2 [t0, t1, t2] r22.1)
                  (
                    retK m.length r19.2 [t0, t1, t2] r14.1))
              (
                retK m.length r12.2 [t0, t1, t2] r11.1))
          (
            (C_spec_l10Has [t0, (.int .i64 4)] r5.2) |> bo fun r23 =>
            (uop .not r23.1) |> bo fun t49 =>
            brX t49
              (
                (C_spec_l11Echo [t0, t2] r23.2) |> bo fun r25 =>
                (gd (.bool false) true (some (t0, r25.2)) r25.2) |> bo fun r26 =>
                (gd (.bool false) true ((C_spec_l10Has [r26.1, (.int .i64 8)] r26.2) |> bo fun r => some (r.1, r.2)) r26.2) |> bo fun r27 =>
                (pickX (.bool false) r27.1 (.bool false)) |> bo fun t57 =>
                (gd t57 true (some (t0, r27.2)) r27.2) |> bo fun r29 =>
                (gd t57 true ((C_spec_l10Has [r29.1, (.int .i64 2)] r29.2) |> bo fun r => some (r.1, r.2)) r29.2) |> bo fun r30 =>
                (pickX t57 r30.1 (.bool false)) |> bo fun t61 =>
                brX t61
                  (
                    (bslX r30.2 1 1 [.int .u8 0] [(0, 1, (.int .u8 10))]) |> bo fun r32 =>
                    (apL r32.2 1 1 r25.1 r32.1) |> bo fun r33 =>
                    retK m.length r33.2 [t0, t1, t2] r33.1)
                  (
                    retK m.length r30.2 [t0, t1, t2] r25.1))
              (
                retK m.length r23.2 [t0, t1, t2] r1.1)))
      (
        (nilX t0) |> bo fun t39 =>
        (fadX 3 t39) |> bo fun t40 =>
        (ld1 r5.2 t40) |> bo fun t41 =>
        (C_spec_l11Is [t41, t2] r5.2) |> bo fun r37 =>
        brX r37.1
          (
            (C_spec_l11Word [t0, t1] r37.2) |> bo fun r38 =>
            (C_spec_l10Has [t0, (.int .i64 4)] r38.2) |> bo fun r39 =>
            (uop .not r39.1) |> bo fun t49 =>
            brX t49
              (
                (C_spec_l11Echo [t0, t2] r39.2) |> bo fun r41 =>
                (gd (.bool false) true (some (t0, r41.2)) r41.2) |> bo fun r42 =>
                (gd (.bool false) true ((C_spec_l10Has [r42.1, (.int .i64 8)] r42.2) |> bo fun r => some (r.1, r.2)) r42.2) |> bo fun r43 =>
                (pickX (.bool false) r43.1 (.bool false)) |> bo fun t57 =>
                (gd t57 true (some (t0, r43.2)) r43.2) |> bo fun r45 =>
                (gd t57 true ((C_spec_l10Has [r45.1, (.int .i64 2)] r45.2) |> bo fun r => some (r.1, r.2)) r45.2) |> bo fun r46 =>
                (pickX t57 r46.1 (.bool false)) |> bo fun t61 =>
                brX t61
                  (
                    (bslX r46.2 1 1 [.int .u8 0] [(0, 1, (.int .u8 10))]) |> bo fun r48 =>
                    (apL r48.2 1 1 r41.1 r48.1) |> bo fun r49 =>
                    retK m.length r49.2 [t0, t1, t2] r49.1)
                  (
                    retK m.length r46.2 [t0, t1, t2] r41.1))
              (
                retK m.length r39.2 [t0, t1, t2] r38.1))
          (
            cutK m.length r37.2 [t0, t1, t2] [t0, t1, t2, r1.1, (.bool true)] (L_spec_l11Gone m.length QQ 0)))
  | _, _ => none
noncomputable def C_spec_l11Gone : List Value → Mem → Option VM := rcall X_spec_l11Gone
@[simp] theorem c_spec_l11Gone : C_spec_l11Gone = rcall X_spec_l11Gone := (rfl)
theorem cok_spec_l11Gone : codeOk CT Try.f196 (Try.f196.body.get rfl) = true := by kernel_rfl
theorem xe_spec_l11Gone (t0 t1 t2 : Value) (m : Mem) : ex CT cf_spec_l11Gone Try.f196 3 m.length LL_spec_l11Gone (J_spec_l11Gone m.length QQ) 400 [.code (Try.f196.body.get rfl)] (argsT 0 [t0, t1, t2]) m = X_spec_l11Gone [t0, t1, t2] m := by kernel_rfl
theorem okc_spec_l11Gone : CallOK CT cf_spec_l11Gone := cfc_ok ok_C_spec_l10Has (cfc_ok ok_C_spec_l11Is (cfc_ok ok_C_spec_l11Echo (cfc_ok ok_C_spec_l11Drop (cfc_ok ok_C_spec_l11Word cfn_ok))))
theorem le_spec_l11Gone_0 (k q : Nat) (t0 t1 t2 t7 t8 : Value) (m : Mem) : ex CT cf_spec_l11Gone Try.f196 3 k LL_spec_l11Gone (J_spec_l11Gone k q) 400 (atLoop Try.f196 0) [(0, t0), (1, t1), (2, t2), (7, t7), (8, t8)] m = J_spec_l11Gone k (q + 1) 4 [t0, t1, t2, t7, t8] m := by kernel_rfl
theorem gl_spec_l11Gone (k : Nat) : ∀ q i, i < 1 → GoodL CT k Try.f196 LL_spec_l11Gone (J_spec_l11Gone k q) (atLoop Try.f196 i)
  | 0, 0, _ => goodL_zero (l := 4) (by kernel_rfl) (fun vs m => by kernel_rfl)
  | 0, _ + 1, h => absurd h (by omega)
  | q + 1, 0, _ => goodL_succ (np := 3) (l := 4) (live := [0, 1, 2, 7, 8]) (n := 1) CT_ok rfl okc_spec_l11Gone (c := (Try.f196.body.get rfl)) rfl cok_spec_l11Gone (by kernel_rfl) (gl_spec_l11Gone k q) (by kernel_rfl) rfl (fun vs m r hl h => match vs, hl with
    | [t0, t1, t2, t7, t8], _ => (le_spec_l11Gone_0 k q t0 t1 t2 t7 t8 m).trans h)
  | _ + 1, _ + 1, h => absurd h (by omega)
theorem ok_X_spec_l11Gone : OkX CT 196 X_spec_l11Gone := OkX.of_ex (cf := cf_spec_l11Gone) (np := 3) (LL := LL_spec_l11Gone) (J := (fun k => J_spec_l11Gone k QQ)) CT_ok rfl Try.func196 rfl (Nat.le_of_ble_eq_true rfl) (by decide) cok_spec_l11Gone okc_spec_l11Gone (fun k => allLoops rfl (by kernel_rfl) (gl_spec_l11Gone k QQ)) (fun args m r h => match args, h with
    | [t0, t1, t2], h => ⟨rfl, (xe_spec_l11Gone t0 t1 t2 m).trans h⟩)
theorem ok_C_spec_l11Gone : OkC CT 196 C_spec_l11Gone := rcall_ok rfl ok_X_spec_l11Gone

/-! ### spec.l11Ends -/
noncomputable def cf_spec_l11Ends : CallF := cfc 172 Cf_spec_l1Copy (cfc 185 C_spec_l11Size cfn)
noncomputable def X_spec_l11Ends : List Value → Mem → Option VM
  | [t0, t1], m =>
    (nilX t0) |> bo fun t6 =>
    (fadX 0 t6) |> bo fun t7 =>
    (ld1 m t7) |> bo fun t8 =>
    (lenX t8) |> bo fun t9 =>
    (binX .geq .no t9 (.int .i64 40)) |> bo fun t10 =>
    (gd t10 false (some (t0, m)) m) |> bo fun r6 =>
    (gd t10 false ((C_spec_l11Size [r6.1] r6.2) |> bo fun r => some (r.1, r.2)) r6.2) |> bo fun r7 =>
    (gd t10 false (some (t1, r7.2)) r7.2) |> bo fun r8 =>
    (gd t10 false ((lenX r8.1) |> bo fun v => some (v, r8.2)) r8.2) |> bo fun r9 =>
    (gd t10 false ((binX .add .no r7.1 r9.1) |> bo fun v => some (v, r9.2)) r9.2) |> bo fun r10 =>
    (gd t10 false ((binX .gtr .no r10.1 (.int .i64 40)) |> bo fun v => some (v, r10.2)) r10.2) |> bo fun r11 =>
    (pickX t10 (.bool true) r11.1) |> bo fun t18 =>
    brX t18
      (
        retK m.length r11.2 [t0, t1] (.bool false))
      (
        (nilX t0) |> bo fun t21 =>
        (fadX 0 t21) |> bo fun t22 =>
        (ld1 r11.2 t22) |> bo fun t23 =>
        (nilX t0) |> bo fun t25 =>
        (fadX 1 t25) |> bo fun t26 =>
        (ld1 r11.2 t26) |> bo fun t27 =>
        (Cf_spec_l1Copy [t27] r11.2) |> bo fun r19 =>
        (apL r19.2 1 1 r19.1 t1) |> bo fun r20 =>
        (bslX r20.2 1 1 [.slice none 0 0] [(0, 1, r20.1)]) |> bo fun r21 =>
        (apL r21.2 1 24 t23 r21.1) |> bo fun r22 =>
        (nilX t0) |> bo fun t33 =>
        (fadX 0 t33) |> bo fun t34 =>
        (stX r22.2 1 t34 r22.1) |> bo fun m25 =>
        gP (stbL [((rdN t22), r11.2, r19.2), ((rdN t22), r19.2, r20.2)])
          (
            (nilX t0) |> bo fun t36 =>
            (fadX 1 t36) |> bo fun t37 =>
            (stX m25 1 t37 (.slice none 0 0)) |> bo fun m28 =>
            retK m.length m28 [t0, t1] (.bool true)))
  | _, _ => none
noncomputable def C_spec_l11Ends : List Value → Mem → Option VM := zcall X_spec_l11Ends
@[simp] theorem c_spec_l11Ends : C_spec_l11Ends = zcall X_spec_l11Ends := (rfl)
theorem cok_spec_l11Ends : codeOk CT Try.f197 (Try.f197.body.get rfl) = true := by kernel_rfl
theorem xe_spec_l11Ends (t0 t1 : Value) (m : Mem) : ex CT cf_spec_l11Ends Try.f197 2 m.length [] (fun _ _ _ => none) 400 [.code (Try.f197.body.get rfl)] (argsT 0 [t0, t1]) m = X_spec_l11Ends [t0, t1] m := by kernel_rfl
theorem okc_spec_l11Ends : CallOK CT cf_spec_l11Ends := cfc_ok ok_Cf_spec_l1Copy (cfc_ok ok_C_spec_l11Size cfn_ok)
theorem ok_X_spec_l11Ends : OkX CT 197 X_spec_l11Ends := OkX.of_ex (cf := cf_spec_l11Ends) (np := 2) (LL := []) (J := (fun _ _ _ _ => none)) CT_ok rfl Try.func197 rfl (Nat.le_of_ble_eq_true rfl) (by decide) cok_spec_l11Ends okc_spec_l11Ends (fun k => noLoops rfl) (fun args m r h => match args, h with
    | [t0, t1], h => ⟨rfl, (xe_spec_l11Ends t0 t1 m).trans h⟩)
theorem ok_C_spec_l11Ends : OkC CT 197 C_spec_l11Ends := zcall_ok rfl ok_X_spec_l11Ends

/-! ### spec.l11Canon -/
noncomputable def cf_spec_l11Canon : CallF := cfc 190 C_spec_l11Take (cfc 191 C_spec_l11Is (cfc 192 C_spec_l11Echo (cfc 196 C_spec_l11Gone (cfc 197 C_spec_l11Ends cfn))))
noncomputable def X_spec_l11Canon : List Value → Mem → Option VM
  | [t0, t1, t2], m =>
    (nilX t0) |> bo fun t9 =>
    (fadX 6 t9) |> bo fun t10 =>
    (ld1 m t10) |> bo fun t11 =>
    (C_spec_l11Is [t11, t2] m) |> bo fun r4 =>
    brX r4.1
      (
        (nilX t1) |> bo fun t15 =>
        (fadX 2 t15) |> bo fun t16 =>
        (stX r4.2 1 t16 (.bool true)) |> bo fun m7 =>
        (bslX m7 0 1 [.int .u8 0] []) |> bo fun r8 =>
        retK m.length r8.2 [t0, t1, t2] r8.1)
      (
        (nilX t0) |> bo fun t20 =>
        (fadX 1 t20) |> bo fun t21 =>
        (ld1 r4.2 t21) |> bo fun t22 =>
        (C_spec_l11Is [t22, t2] r4.2) |> bo fun r12 =>
        (gd r12.1 false (some (t0, r12.2)) r12.2) |> bo fun r13 =>
        (gd r12.1 false ((nilX r13.1) |> bo fun v => some (v, r13.2)) r13.2) |> bo fun r14 =>
        (gd r12.1 false ((fadX 3 r14.1) |> bo fun v => some (v, r14.2)) r14.2) |> bo fun r15 =>
        (gd r12.1 false ((ld1 r15.2 r15.1) |> bo fun v => some (v, r15.2)) r15.2) |> bo fun r16 =>
        (gd r12.1 false (some (t2, r16.2)) r16.2) |> bo fun r17 =>
        (gd r12.1 false ((C_spec_l11Is [r16.1, r17.1] r17.2) |> bo fun r => some (r.1, r.2)) r17.2) |> bo fun r18 =>
        (pickX r12.1 (.bool true) r18.1) |> bo fun t32 =>
        (gd t32 false (some (t0, r18.2)) r18.2) |> bo fun r20 =>
        (gd t32 false ((nilX r20.1) |> bo fun v => some (v, r20.2)) r20.2) |> bo fun r21 =>
        (gd t32 false ((fadX 2 r21.1) |> bo fun v => some (v, r21.2)) r21.2) |> bo fun r22 =>
        (gd t32 false ((ld1 r22.2 r22.1) |> bo fun v => some (v, r22.2)) r22.2) |> bo fun r23 =>
        (gd t32 false (some (t2, r23.2)) r23.2) |> bo fun r24 =>
        (gd t32 false ((C_spec_l11Is [r23.1, r24.1] r24.2) |> bo fun r => some (r.1, r.2)) r24.2) |> bo fun r25 =>
        (pickX t32 (.bool true) r25.1) |> bo fun t40 =>
        brX t40
          (
            (C_spec_l11Gone [t0, t1, t2] r25.2) |> bo fun r27 =>
            retK m.length r27.2 [t0, t1, t2] r27.1)
          (
            (nilX t0) |> bo fun t47 =>
            (fadX 4 t47) |> bo fun t48 =>
            (ld1 r25.2 t48) |> bo fun t49 =>
            (C_spec_l11Is [t49, t2] r25.2) |> bo fun r31 =>
            brX r31.1
              (
                (C_spec_l11Ends [t1, (.slice none 0 0)] r31.2) |> bo fun r32 =>
                (bslX r32.2 0 1 [.int .u8 0] []) |> bo fun r33 =>
                retK m.length r33.2 [t0, t1, t2] r33.1)
              (
                (binX .eql .no t2 (.int .u8 10)) |> bo fun t57 =>
                brX t57
                  (
                    (bslX r31.2 1 1 [.int .u8 0] [(0, 1, (.int .u8 10))]) |> bo fun r35 =>
                    (C_spec_l11Ends [t1, r35.1] r35.2) |> bo fun r36 =>
                    brX r36.1
                      (
                        (C_spec_l11Echo [t0, (.int .u8 10)] r36.2) |> bo fun r37 =>
                        retK m.length r37.2 [t0, t1, t2] r37.1)
                      (
                        (bslX r36.2 0 1 [.int .u8 0] []) |> bo fun r38 =>
                        retK m.length r38.2 [t0, t1, t2] r38.1))
                  (
                    (C_spec_l11Take [t0, t1, t2] r31.2) |> bo fun r39 =>
                    retK m.length r39.2 [t0, t1, t2] r39.1))))
  | _, _ => none
noncomputable def C_spec_l11Canon : List Value → Mem → Option VM := rcall X_spec_l11Canon
@[simp] theorem c_spec_l11Canon : C_spec_l11Canon = rcall X_spec_l11Canon := (rfl)
theorem cok_spec_l11Canon : codeOk CT Try.f194 (Try.f194.body.get rfl) = true := by kernel_rfl
theorem xe_spec_l11Canon (t0 t1 t2 : Value) (m : Mem) : ex CT cf_spec_l11Canon Try.f194 3 m.length [] (fun _ _ _ => none) 400 [.code (Try.f194.body.get rfl)] (argsT 0 [t0, t1, t2]) m = X_spec_l11Canon [t0, t1, t2] m := by kernel_rfl
theorem okc_spec_l11Canon : CallOK CT cf_spec_l11Canon := cfc_ok ok_C_spec_l11Take (cfc_ok ok_C_spec_l11Is (cfc_ok ok_C_spec_l11Echo (cfc_ok ok_C_spec_l11Gone (cfc_ok ok_C_spec_l11Ends cfn_ok))))
theorem ok_X_spec_l11Canon : OkX CT 194 X_spec_l11Canon := OkX.of_ex (cf := cf_spec_l11Canon) (np := 3) (LL := []) (J := (fun _ _ _ _ => none)) CT_ok rfl Try.func194 rfl (Nat.le_of_ble_eq_true rfl) (by decide) cok_spec_l11Canon okc_spec_l11Canon (fun k => noLoops rfl) (fun args m r h => match args, h with
    | [t0, t1, t2], h => ⟨rfl, (xe_spec_l11Canon t0 t1 t2 m).trans h⟩)
theorem ok_C_spec_l11Canon : OkC CT 194 C_spec_l11Canon := rcall_ok rfl ok_X_spec_l11Canon

/-! ### spec.l11Feed -/
noncomputable def cf_spec_l11Feed : CallF := cfc 176 C_spec_l1Min (cfc 177 C_spec_l10Has (cfc 190 C_spec_l11Take (cfc 191 C_spec_l11Is (cfc 192 C_spec_l11Echo (cfc 193 C_spec_l11Raw (cfc 194 C_spec_l11Canon cfn))))))
noncomputable def X_spec_l11Feed : List Value → Mem → Option VM
  | [t0, t1, t2], m =>
    (nilX t1) |> bo fun t8 =>
    (fadX 2 t8) |> bo fun t9 =>
    (ld1 m t9) |> bo fun t10 =>
    brX t10
      (
        (nilX t1) |> bo fun t12 =>
        (fadX 2 t12) |> bo fun t13 =>
        (stX m 1 t13 (.bool false)) |> bo fun m6 =>
        (C_spec_l11Take [t0, t1, t2] m6) |> bo fun r7 =>
        retK m.length r7.2 [t0, t1, t2] r7.1)
      (
        (binX .eql .no t2 (.int .u8 13)) |> bo fun t19 =>
        (gd t19 true (some (t0, m)) m) |> bo fun r9 =>
        (gd t19 true ((C_spec_l10Has [r9.1, (.int .i64 64)] r9.2) |> bo fun r => some (r.1, r.2)) r9.2) |> bo fun r10 =>
        (pickX t19 r10.1 (.bool false)) |> bo fun t23 =>
        brX t23
          (
            (C_spec_l10Has [t0, (.int .i64 32)] r10.2) |> bo fun r12 =>
            (gd r12.1 true (some (t0, r12.2)) r12.2) |> bo fun r13 =>
            (gd r12.1 true ((nilX r13.1) |> bo fun v => some (v, r13.2)) r13.2) |> bo fun r14 =>
            (gd r12.1 true ((fadX 5 r14.1) |> bo fun v => some (v, r14.2)) r14.2) |> bo fun r15 =>
            (gd r12.1 true ((ld1 r15.2 r15.1) |> bo fun v => some (v, r15.2)) r15.2) |> bo fun r16 =>
            (gd r12.1 true (some ((.int .u8 10), r16.2)) r16.2) |> bo fun r17 =>
            (gd r12.1 true ((C_spec_l11Is [r16.1, r17.1] r17.2) |> bo fun r => some (r.1, r.2)) r17.2) |> bo fun r18 =>
            (pickX r12.1 r18.1 (.bool false)) |> bo fun t33 =>
            brX t33
              (
                (nilX t1) |> bo fun t36 =>
                (fadX 3 t36) |> bo fun t37 =>
                (ld1 r18.2 t37) |> bo fun t38 =>
                (binX .add .no t38 (.int .i64 1)) |> bo fun t39 =>
                (C_spec_l1Min [(.int .i64 999), t39] r18.2) |> bo fun r24 =>
                (nilX t1) |> bo fun t41 =>
                (fadX 3 t41) |> bo fun t42 =>
                (stX r24.2 1 t42 r24.1) |> bo fun m27 =>
                (nilX t1) |> bo fun t44 =>
                (fadX 1 t44) |> bo fun t45 =>
                (stX m27 1 t45 (.slice none 0 0)) |> bo fun m30 =>
                (C_spec_l11Echo [t0, (.int .u8 10)] m30) |> bo fun r31 =>
                retK m.length r31.2 [t0, t1, (.int .u8 10)] r31.1)
              (
                (C_spec_l10Has [t0, (.int .i64 1)] r18.2) |> bo fun r32 =>
                (uop .not r32.1) |> bo fun t51 =>
                brX t51
                  (
                    (C_spec_l11Raw [t0, t1, (.int .u8 10)] r32.2) |> bo fun r34 =>
                    retK m.length r34.2 [t0, t1, (.int .u8 10)] r34.1)
                  (
                    (C_spec_l11Canon [t0, t1, (.int .u8 10)] r32.2) |> bo fun r35 =>
                    retK m.length r35.2 [t0, t1, (.int .u8 10)] r35.1)))
          (
            (C_spec_l10Has [t0, (.int .i64 32)] r10.2) |> bo fun r36 =>
            (gd r36.1 true (some (t0, r36.2)) r36.2) |> bo fun r37 =>
            (gd r36.1 true ((nilX r37.1) |> bo fun v => some (v, r37.2)) r37.2) |> bo fun r38 =>
            (gd r36.1 true ((fadX 5 r38.1) |> bo fun v => some (v, r38.2)) r38.2) |> bo fun r39 =>
            (gd r36.1 true ((ld1 r39.2 r39.1) |> bo fun v => some (v, r39.2)) r39.2) |> bo fun r40 =>
            (gd r36.1 true (some (t2, r40.2)) r40.2) |> bo fun r41 =>
            (gd r36.1 true ((C_spec_l11Is [r40.1, r41.1] r41.2) |> bo fun r => some (r.1, r.2)) r41.2) |> bo fun r42 =>
            (pickX r36.1 r42.1 (.bool false)) |> bo fun t33 =>
            brX t33
              (
                (nilX t1) |> bo fun t36 =>
                (fadX 3 t36) |> bo fun t37 =>
                (ld1 r42.2 t37) |> bo fun t38 =>
                (binX .add .no t38 (.int .i64 1)) |> bo fun t39 =>
                (C_spec_l1Min [(.int .i64 999), t39] r42.2) |> bo fun r48 =>
                (nilX t1) |> bo fun t41 =>
                (fadX 3 t41) |> bo fun t42 =>
                (stX r48.2 1 t42 r48.1) |> bo fun m51 =>
                (nilX t1) |> bo fun t44 =>
                (fadX 1 t44) |> bo fun t45 =>
                (stX m51 1 t45 (.slice none 0 0)) |> bo fun m54 =>
                (C_spec_l11Echo [t0, t2] m54) |> bo fun r55 =>
                retK m.length r55.2 [t0, t1, t2] r55.1)
              (
                (C_spec_l10Has [t0, (.int .i64 1)] r42.2) |> bo fun r56 =>
                (uop .not r56.1) |> bo fun t51 =>
                brX t51
                  (
                    (C_spec_l11Raw [t0, t1, t2] r56.2) |> bo fun r58 =>
                    retK m.length r58.2 [t0, t1, t2] r58.1)
                  (
                    (C_spec_l11Canon [t0, t1, t2] r56.2) |> bo fun r59 =>
                    retK m.length r59.2 [t0, t1, t2] r59.1))))
  | _, _ => none
noncomputable def C_spec_l11Feed : List Value → Mem → Option VM := rcall X_spec_l11Feed
@[simp] theorem c_spec_l11Feed : C_spec_l11Feed = rcall X_spec_l11Feed := (rfl)
theorem cok_spec_l11Feed : codeOk CT Try.f188 (Try.f188.body.get rfl) = true := by kernel_rfl
theorem xe_spec_l11Feed (t0 t1 t2 : Value) (m : Mem) : ex CT cf_spec_l11Feed Try.f188 3 m.length [] (fun _ _ _ => none) 400 [.code (Try.f188.body.get rfl)] (argsT 0 [t0, t1, t2]) m = X_spec_l11Feed [t0, t1, t2] m := by kernel_rfl
theorem okc_spec_l11Feed : CallOK CT cf_spec_l11Feed := cfc_ok ok_C_spec_l1Min (cfc_ok ok_C_spec_l10Has (cfc_ok ok_C_spec_l11Take (cfc_ok ok_C_spec_l11Is (cfc_ok ok_C_spec_l11Echo (cfc_ok ok_C_spec_l11Raw (cfc_ok ok_C_spec_l11Canon cfn_ok))))))
theorem ok_X_spec_l11Feed : OkX CT 188 X_spec_l11Feed := OkX.of_ex (cf := cf_spec_l11Feed) (np := 3) (LL := []) (J := (fun _ _ _ _ => none)) CT_ok rfl Try.func188 rfl (Nat.le_of_ble_eq_true rfl) (by decide) cok_spec_l11Feed okc_spec_l11Feed (fun k => noLoops rfl) (fun args m r h => match args, h with
    | [t0, t1, t2], h => ⟨rfl, (xe_spec_l11Feed t0 t1 t2 m).trans h⟩)
theorem ok_C_spec_l11Feed : OkC CT 188 C_spec_l11Feed := rcall_ok rfl ok_X_spec_l11Feed

/-! ### spec.l11Draw -/
noncomputable def cf_spec_l11Draw : CallF := cfc 85 C_spec_l1Chance (cfc 186 C_spec_l10Draw (cfc 187 C_spec_l11Typed (cfc 188 C_spec_l11Feed cfn)))
noncomputable def L_spec_l11Draw (k : Nat) : Nat → Nat → List Value → Mem → Option VM
  | q + 1, 0, [t0, t2, t3, t4, t5, t6, t7], m =>
    (lenX t6) |> bo fun t21 =>
    (binX .lss .no t7 t21) |> bo fun t22 =>
    brX t22
      (
        (ixaX 1 t6 t7) |> bo fun t27 =>
        (ld1 m t27) |> bo fun t28 =>
        (C_spec_l11Feed [t4, t5, t28] m) |> bo fun r5 =>
        (binX .add .no t7 (.int .i64 1)) |> bo fun t24 =>
        cutK k r5.2 [t0] [t0, t2, t3, t4, t5, t6, t24] (L_spec_l11Draw k q 0))
      (
        (ldS m 7 t4) |> bo fun t30 =>
        (ldS m 4 t5) |> bo fun t31 =>
        (stX m 7 t2 t30) |> bo fun m9 =>
        (stX m9 4 t3 t31) |> bo fun m10 =>
        gP (stbL [((rdN t5), m, m9)])
          (
            (resP (some 7) m10 t2) |> bo fun c11 =>
            (resP (some 4) m10 t3) |> bo fun c12 =>
            retK k m10 [t0] (.tuple #[c11, c12])))
  | _, _, _, _ => none
noncomputable def J_spec_l11Draw (k q l : Nat) : List Value → Mem → Option VM := cond (Nat.beq l 7) (L_spec_l11Draw k q 0) (fun _ _ => none)
def LL_spec_l11Draw : List (Nat × List Tmp) := [(7, [0, 2, 3, 4, 5, 6, 7])]
noncomputable def X_spec_l11Draw : List Value → Mem → Option VM
  | [t0], m =>
    (alX m [.int .i64 0, .int .i64 0, .int .i64 0, .int .i64 0, .int .i64 0, .int .i64 0, .int .i64 0]) |> bo fun r1 =>
    (alX r1.2 [.slice none 0 0, .slice none 0 0, .bool false, .int .i64 0]) |> bo fun r2 =>
    (C_spec_l10Draw [t0] r2.2) |> bo fun r3 =>
    (alX r3.2 [.int .i64 0, .int .i64 0, .int .i64 0, .int .i64 0, .int .i64 0, .int .i64 0, .int .i64 0]) |> bo fun r4 =>
    (stX r4.2 7 r4.1 r3.1) |> bo fun m5 =>
    (bldX [.slice none 0 0, .slice none 0 0, .bool false, .int .i64 0] []) |> bo fun t10 =>
    (alX m5 [.slice none 0 0, .slice none 0 0, .bool false, .int .i64 0]) |> bo fun r7 =>
    (stX r7.2 4 r7.1 t10) |> bo fun m8 =>
    (C_spec_l11Typed [t0, (.int .i64 20)] m8) |> bo fun r9 =>
    (C_spec_l1Chance [t0, (.int .i64 6)] r9.2) |> bo fun r10 =>
    brX r10.1
      (
        (C_spec_l11Typed [t0, (.int .i64 60)] r10.2) |> bo fun r11 =>
        (apL r11.2 1 1 r9.1 r11.1) |> bo fun r12 =>
        cutK m.length r12.2 [t0] [t0, r1.1, r2.1, r4.1, r7.1, r12.1, (.int .i64 0)] (L_spec_l11Draw m.length QQ 0))
      (
        cutK m.length r10.2 [t0] [t0, r1.1, r2.1, r4.1, r7.1, r9.1, (.int .i64 0)] (L_spec_l11Draw m.length QQ 0))
  | _, _ => none
noncomputable def C_spec_l11Draw : List Value → Mem → Option VM := qcall X_spec_l11Draw
@[simp] theorem c_spec_l11Draw : C_spec_l11Draw = qcall X_spec_l11Draw := (rfl)
theorem cok_spec_l11Draw : codeOk CT Try.f180 (Try.f180.body.get rfl) = true := by kernel_rfl
theorem xe_spec_l11Draw (t0 : Value) (m : Mem) : ex CT cf_spec_l11Draw Try.f180 1 m.length LL_spec_l11Draw (J_spec_l11Draw m.length QQ) 400 [.code (Try.f180.body.get rfl)] (argsT 0 [t0]) m = X_spec_l11Draw [t0] m := by kernel_rfl
theorem okc_spec_l11Draw : CallOK CT cf_spec_l11Draw := cfc_ok ok_C_spec_l1Chance (cfc_ok ok_C_spec_l10Draw (cfc_ok ok_C_spec_l11Typed (cfc_ok ok_C_spec_l11Feed cfn_ok)))
theorem le_spec_l11Draw_0 (k q : Nat) (t0 t2 t3 t4 t5 t6 t7 : Value) (m : Mem) : ex CT cf_spec_l11Draw Try.f180 1 k LL_spec_l11Draw (J_spec_l11Draw k q) 400 (atLoop Try.f180 0) [(0, t0), (2, t2), (3, t3), (4, t4), (5, t5), (6, t6), (7, t7)] m = J_spec_l11Draw k (q + 1) 7 [t0, t2, t3, t4, t5, t6, t7] m := by kernel_rfl
theorem gl_spec_l11Draw (k : Nat) : ∀ q i, i < 1 → GoodL CT k Try.f180 LL_spec_l11Draw (J_spec_l11Draw k q) (atLoop Try.f180 i)
  | 0, 0, _ => goodL_zero (l := 7) (by kernel_rfl) (fun vs m => by kernel_rfl)
  | 0, _ + 1, h => absurd h (by omega)
  | q + 1, 0, _ => goodL_succ (np := 1) (l := 7) (live := [0, 2, 3, 4, 5, 6, 7]) (n := 1) CT_ok rfl okc_spec_l11Draw (c := (Try.f180.body.get rfl)) rfl cok_spec_l11Draw (by kernel_rfl) (gl_spec_l11Draw k q) (by kernel_rfl) rfl (fun vs m r hl h => match vs, hl with
    | [t0, t2, t3, t4, t5, t6, t7], _ => (le_spec_l11Draw_0 k q t0 t2 t3 t4 t5 t6 t7 m).trans h)
  | _ + 1, _ + 1, h => absurd h (by omega)
theorem ok_X_spec_l11Draw : OkX CT 180 X_spec_l11Draw := OkX.of_ex (cf := cf_spec_l11Draw) (np := 1) (LL := LL_spec_l11Draw) (J := (fun k => J_spec_l11Draw k QQ)) CT_ok rfl Try.func180 rfl (Nat.le_of_ble_eq_true rfl) (by decide) cok_spec_l11Draw okc_spec_l11Draw (fun k => allLoops rfl (by kernel_rfl) (gl_spec_l11Draw k QQ)) (fun args m r h => match args, h with
    | [t0], h => ⟨rfl, (xe_spec_l11Draw t0 m).trans h⟩)
theorem ok_C_spec_l11Draw : OkC CT 180 C_spec_l11Draw := qcall_ok rfl ok_X_spec_l11Draw

/-! ### spec.l10Bent -/
noncomputable def cf_spec_l10Bent : CallF := cfc 87 C_spec_l1Next (cfc 94 C_spec_l1Pick (cfc 186 C_spec_l10Draw cfn))
noncomputable def X_spec_l10Bent : List Value → Mem → Option VM
  | [t0], m =>
    (alX m [.int .i64 0, .int .i64 0, .int .i64 0, .int .i64 0, .int .i64 0, .int .i64 0, .int .i64 0]) |> bo fun r1 =>
    (C_spec_l10Draw [t0] r1.2) |> bo fun r2 =>
    (alX r2.2 [.int .i64 0, .int .i64 0, .int .i64 0, .int .i64 0, .int .i64 0, .int .i64 0, .int .i64 0]) |> bo fun r3 =>
    (stX r3.2 7 r3.1 r2.1) |> bo fun m4 =>
    (C_spec_l1Next [t0, (.int .i64 12)] m4) |> bo fun r5 =>
    (binX .eql .no r5.1 (.int .i64 0)) |> bo fun t9 =>
    brX t9
      (
        (bslX r5.2 2 1 [.int .i64 0] [(0, 1, (.int .i64 (-1))), (1, 1, (.int .i64 512))]) |> bo fun r7 =>
        (C_spec_l1Pick [t0, r7.1] r7.2) |> bo fun r8 =>
        (fadX 0 r3.1) |> bo fun t13 =>
        (stX r8.2 1 t13 r8.1) |> bo fun m10 =>
        (ldS m10 7 r3.1) |> bo fun t20 =>
        (stX m10 7 r1.1 t20) |> bo fun m12 =>
        (resP (some 7) m12 r1.1) |> bo fun c13 =>
        retK m.length m12 [t0] c13)
      (
        (binX .eql .no r5.1 (.int .i64 1)) |> bo fun t15 =>
        brX t15
          (
            (bslX r5.2 4 1 [.int .i64 0] [(0, 1, (.int .i64 0)), (1, 1, (.int .i64 8)), (2, 1, (.int .i64 256)), (3, 1, (.int .i64 (-1)))]) |> bo fun r15 =>
            (C_spec_l1Pick [t0, r15.1] r15.2) |> bo fun r16 =>
            (fadX 1 r3.1) |> bo fun t19 =>
            (stX r16.2 1 t19 r16.1) |> bo fun m18 =>
            (ldS m18 7 r3.1) |> bo fun t20 =>
            (stX m18 7 r1.1 t20) |> bo fun m20 =>
            (resP (some 7) m20 r1.1) |> bo fun c21 =>
            retK m.length m20 [t0] c21)
          (
            (ldS r5.2 7 r3.1) |> bo fun t20 =>
            (stX r5.2 7 r1.1 t20) |> bo fun m23 =>
            (resP (some 7) m23 r1.1) |> bo fun c24 =>
            retK m.length m23 [t0] c24))
  | _, _ => none
noncomputable def C_spec_l10Bent : List Value → Mem → Option VM := rcall X_spec_l10Bent
@[simp] theorem c_spec_l10Bent : C_spec_l10Bent = rcall X_spec_l10Bent := (rfl)
theorem cok_spec_l10Bent : codeOk CT Try.f181 (Try.f181.body.get rfl) = true := by kernel_rfl
theorem xe_spec_l10Bent (t0 : Value) (m : Mem) : ex CT cf_spec_l10Bent Try.f181 1 m.length [] (fun _ _ _ => none) 400 [.code (Try.f181.body.get rfl)] (argsT 0 [t0]) m = X_spec_l10Bent [t0] m := by kernel_rfl
theorem okc_spec_l10Bent : CallOK CT cf_spec_l10Bent := cfc_ok ok_C_spec_l1Next (cfc_ok ok_C_spec_l1Pick (cfc_ok ok_C_spec_l10Draw cfn_ok))
theorem ok_X_spec_l10Bent : OkX CT 181 X_spec_l10Bent := OkX.of_ex (cf := cf_spec_l10Bent) (np := 1) (LL := []) (J := (fun _ _ _ _ => none)) CT_ok rfl Try.func181 rfl (Nat.le_of_ble_eq_true rfl) (by decide) cok_spec_l10Bent okc_spec_l10Bent (fun k => noLoops rfl) (fun args m r h => match args, h with
    | [t0], h => ⟨rfl, (xe_spec_l10Bent t0 m).trans h⟩)
theorem ok_C_spec_l10Bent : OkC CT 181 C_spec_l10Bent := rcall_ok rfl ok_X_spec_l10Bent

/-! ### spec.l11Bent -/
noncomputable def cf_spec_l11Bent : CallF := cfc 87 C_spec_l1Next (cfc 94 C_spec_l1Pick (cfc 180 C_spec_l11Draw (cfc 181 C_spec_l10Bent cfn)))
noncomputable def X_spec_l11Bent : List Value → Mem → Option VM
  | [t0], m =>
    (alX m [.int .i64 0, .int .i64 0, .int .i64 0, .int .i64 0, .int .i64 0, .int .i64 0, .int .i64 0]) |> bo fun r1 =>
    (alX r1.2 [.slice none 0 0, .slice none 0 0, .bool false, .int .i64 0]) |> bo fun r2 =>
    (C_spec_l11Draw [t0] r2.2) |> bo fun r3 =>
    (extX 0 r3.1) |> bo fun t9 =>
    (extX 1 r3.1) |> bo fun t10 =>
    (alX r3.2 [.int .i64 0, .int .i64 0, .int .i64 0, .int .i64 0, .int .i64 0, .int .i64 0, .int .i64 0]) |> bo fun r6 =>
    (alX r6.2 [.slice none 0 0, .slice none 0 0, .bool false, .int .i64 0]) |> bo fun r7 =>
    (stX r7.2 7 r6.1 t9) |> bo fun m8 =>
    (stX m8 4 r7.1 t10) |> bo fun m9 =>
    (C_spec_l1Next [t0, (.int .i64 14)] m9) |> bo fun r10 =>
    (binX .eql .no r10.1 (.int .i64 0)) |> bo fun t14 =>
    brX t14
      (
        (C_spec_l10Bent [t0] r10.2) |> bo fun r12 =>
        (stX r12.2 7 r6.1 r12.1) |> bo fun m13 =>
        (ldS m13 7 r6.1) |> bo fun t37 =>
        (ldS m13 4 r7.1) |> bo fun t38 =>
        (stX m13 7 r1.1 t37) |> bo fun m16 =>
        (stX m16 4 r2.1 t38) |> bo fun m17 =>
        gP (stbL [((rdN r7.1), m13, m16)])
          (
            (resP (some 7) m17 r1.1) |> bo fun c18 =>
            (resP (some 4) m17 r2.1) |> bo fun c19 =>
            retK m.length m17 [t0] (.tuple #[c18, c19])))
      (
        (binX .eql .no r10.1 (.int .i64 1)) |> bo fun t18 =>
        brX t18
          (
            (bslX r10.2 3 1 [.int .i64 0] [(0, 1, (.int .i64 (-1))), (1, 1, (.int .i64 999)), (2, 1, (.int .i64 1000))]) |> bo fun r21 =>
            (C_spec_l1Pick [t0, r21.1] r21.2) |> bo fun r22 =>
            (fadX 3 r7.1) |> bo fun t22 =>
            (stX r22.2 1 t22 r22.1) |> bo fun m24 =>
            (ldS m24 7 r6.1) |> bo fun t37 =>
            (ldS m24 4 r7.1) |> bo fun t38 =>
            (stX m24 7 r1.1 t37) |> bo fun m27 =>
            (stX m27 4 r2.1 t38) |> bo fun m28 =>
            gP (stbL [((rdN r7.1), m24, m27)])
              (
                (resP (some 7) m28 r1.1) |> bo fun c29 =>
                (resP (some 4) m28 r2.1) |> bo fun c30 =>
                retK m.length m28 [t0] (.tuple #[c29, c30])))
          (
            (binX .eql .no r10.1 (.int .i64 2)) |> bo fun t24 =>
            brX t24
              (
                (bslX r10.2 3 1 [.int .i64 0] [(0, 1, (.int .i64 39)), (1, 1, (.int .i64 40)), (2, 1, (.int .i64 41))]) |> bo fun r32 =>
                (C_spec_l1Pick [t0, r32.1] r32.2) |> bo fun r33 =>
                (mkX r33.2 1 1 [.int .u8 0] r33.1 r33.1) |> bo fun r34 =>
                (fadX 1 r7.1) |> bo fun t29 =>
                (stX r34.2 1 t29 r34.1) |> bo fun m36 =>
                (ldS m36 7 r6.1) |> bo fun t37 =>
                (ldS m36 4 r7.1) |> bo fun t38 =>
                (stX m36 7 r1.1 t37) |> bo fun m39 =>
                (stX m39 4 r2.1 t38) |> bo fun m40 =>
                gP (stbL [((rdN r7.1), m36, m39)])
                  (
                    (resP (some 7) m40 r1.1) |> bo fun c41 =>
                    (resP (some 4) m40 r2.1) |> bo fun c42 =>
                    retK m.length m40 [t0] (.tuple #[c41, c42])))
              (
                (binX .eql .no r10.1 (.int .i64 3)) |> bo fun t31 =>
                brX t31
                  (
                    (bslX r10.2 2 1 [.int .i64 0] [(0, 1, (.int .i64 40)), (1, 1, (.int .i64 41))]) |> bo fun r44 =>
                    (C_spec_l1Pick [t0, r44.1] r44.2) |> bo fun r45 =>
                    (mkX r45.2 1 24 [.slice none 0 0] r45.1 r45.1) |> bo fun r46 =>
                    (fadX 0 r7.1) |> bo fun t36 =>
                    (stX r46.2 1 t36 r46.1) |> bo fun m48 =>
                    (ldS m48 7 r6.1) |> bo fun t37 =>
                    (ldS m48 4 r7.1) |> bo fun t38 =>
                    (stX m48 7 r1.1 t37) |> bo fun m51 =>
                    (stX m51 4 r2.1 t38) |> bo fun m52 =>
                    gP (stbL [((rdN r7.1), m48, m51)])
                      (
                        (resP (some 7) m52 r1.1) |> bo fun c53 =>
                        (resP (some 4) m52 r2.1) |> bo fun c54 =>
                        retK m.length m52 [t0] (.tuple #[c53, c54])))
                  (
                    (ldS r10.2 7 r6.1) |> bo fun t37 =>
                    (ldS r10.2 4 r7.1) |> bo fun t38 =>
                    (stX r10.2 7 r1.1 t37) |> bo fun m57 =>
                    (stX m57 4 r2.1 t38) |> bo fun m58 =>
                    gP (stbL [((rdN r7.1), r10.2, m57)])
                      (
                        (resP (some 7) m58 r1.1) |> bo fun c59 =>
                        (resP (some 4) m58 r2.1) |> bo fun c60 =>
                        retK m.length m58 [t0] (.tuple #[c59, c60]))))))
  | _, _ => none
noncomputable def C_spec_l11Bent : List Value → Mem → Option VM := qcall X_spec_l11Bent
@[simp] theorem c_spec_l11Bent : C_spec_l11Bent = qcall X_spec_l11Bent := (rfl)
theorem cok_spec_l11Bent : codeOk CT Try.f150 (Try.f150.body.get rfl) = true := by kernel_rfl
theorem xe_spec_l11Bent (t0 : Value) (m : Mem) : ex CT cf_spec_l11Bent Try.f150 1 m.length [] (fun _ _ _ => none) 400 [.code (Try.f150.body.get rfl)] (argsT 0 [t0]) m = X_spec_l11Bent [t0] m := by kernel_rfl
theorem okc_spec_l11Bent : CallOK CT cf_spec_l11Bent := cfc_ok ok_C_spec_l1Next (cfc_ok ok_C_spec_l1Pick (cfc_ok ok_C_spec_l11Draw (cfc_ok ok_C_spec_l10Bent cfn_ok)))
theorem ok_X_spec_l11Bent : OkX CT 150 X_spec_l11Bent := OkX.of_ex (cf := cf_spec_l11Bent) (np := 1) (LL := []) (J := (fun _ _ _ _ => none)) CT_ok rfl Try.func150 rfl (Nat.le_of_ble_eq_true rfl) (by decide) cok_spec_l11Bent okc_spec_l11Bent (fun k => noLoops rfl) (fun args m r h => match args, h with
    | [t0], h => ⟨rfl, (xe_spec_l11Bent t0 m).trans h⟩)
theorem ok_C_spec_l11Bent : OkC CT 150 C_spec_l11Bent := qcall_ok rfl ok_X_spec_l11Bent

/-! ### spec.DrawReadLine -/
noncomputable def cf_spec_DrawReadLine : CallF := cfc 83 C_spec_l1Source (cfc 87 C_spec_l1Next (cfc 94 C_spec_l1Pick (cfc 150 C_spec_l11Bent cfn)))
noncomputable def X_spec_DrawReadLine : List Value → Mem → Option VM
  | [t0], m =>
    (alX m [.int .i64 0, .int .i64 0, .int .i64 0, .int .i64 0, .int .i64 0, .int .i64 0, .int .i64 0]) |> bo fun r1 =>
    (alX r1.2 [.slice none 0 0, .slice none 0 0, .bool false, .int .i64 0]) |> bo fun r2 =>
    (C_spec_l1Source [t0] r2.2) |> bo fun r3 =>
    (C_spec_l11Bent [r3.1] r3.2) |> bo fun r4 =>
    (extX 0 r4.1) |> bo fun t13 =>
    (extX 1 r4.1) |> bo fun t14 =>
    (alX r4.2 [.int .i64 0, .int .i64 0, .int .i64 0, .int .i64 0, .int .i64 0, .int .i64 0, .int .i64 0]) |> bo fun r7 =>
    (alX r7.2 [.slice none 0 0, .slice none 0 0, .bool false, .int .i64 0]) |> bo fun r8 =>
    (stX r8.2 7 r7.1 t13) |> bo fun m9 =>
    (stX m9 4 r8.1 t14) |> bo fun m10 =>
    (ldS m10 7 r7.1) |> bo fun t15 =>
    (ldS m10 4 r8.1) |> bo fun t16 =>
    (C_spec_l1Next [r3.1, (.int .i64 9)] m10) |> bo fun r13 =>
    (binX .add .no (.int .i64 1) r13.1) |> bo fun t20 =>
    (bslX r13.2 4 1 [.int .i64 0] [(0, 1, t20), (1, 1, (.int .i64 99)), (2, 1, (.int .i64 0)), (3, 1, (.int .i64 100))]) |> bo fun r15 =>
    (C_spec_l1Pick [r3.1, r15.1] r15.2) |> bo fun r16 =>
    (stX r16.2 7 r1.1 t15) |> bo fun m17 =>
    (stX m17 4 r2.1 t16) |> bo fun m18 =>
    gP (stbL [((rdN r7.1), m10, r13.2), ((rdN r7.1), r15.2, r16.2), ((rdN r8.1), m10, r13.2), ((rdN r8.1), r15.2, r16.2), ((rdN r8.1), r16.2, m17)])
      (
        (resP (some 7) m18 r1.1) |> bo fun c19 =>
        (resP (some 4) m18 r2.1) |> bo fun c20 =>
        retK m.length m18 [t0] (.tuple #[c19, c20, r16.1]))
  | _, _ => none
noncomputable def C_spec_DrawReadLine : List Value → Mem → Option VM := icall X_spec_DrawReadLine
@[simp] theorem c_spec_DrawReadLine : C_spec_DrawReadLine = icall X_spec_DrawReadLine := (rfl)
theorem cok_spec_DrawReadLine : codeOk CT Try.f79 (Try.f79.body.get rfl) = true := by kernel_rfl
theorem xe_spec_DrawReadLine (t0 : Value) (m : Mem) : ex CT cf_spec_DrawReadLine Try.f79 1 m.length [] (fun _ _ _ => none) 400 [.code (Try.f79.body.get rfl)] (argsT 0 [t0]) m = X_spec_DrawReadLine [t0] m := by kernel_rfl
theorem okc_spec_DrawReadLine : CallOK CT cf_spec_DrawReadLine := cfc_ok ok_C_spec_l1Source (cfc_ok ok_C_spec_l1Next (cfc_ok ok_C_spec_l1Pick (cfc_ok ok_C_spec_l11Bent cfn_ok)))
theorem ok_X_spec_DrawReadLine : OkX CT 79 X_spec_DrawReadLine := OkX.of_ex (cf := cf_spec_DrawReadLine) (np := 1) (LL := []) (J := (fun _ _ _ _ => none)) CT_ok rfl Try.func79 rfl (Nat.le_of_ble_eq_true rfl) (by decide) cok_spec_DrawReadLine okc_spec_DrawReadLine (fun k => noLoops rfl) (fun args m r h => match args, h with
    | [t0], h => ⟨rfl, (xe_spec_DrawReadLine t0 m).trans h⟩)
theorem ok_C_spec_DrawReadLine : OkC CT 79 C_spec_DrawReadLine := icall_ok rfl ok_X_spec_DrawReadLine

/-! ### impl.HasFlag -/
noncomputable def cf_impl_HasFlag : CallF := cfc 99 C_impl_in (cfc 145 C_impl_WayFault (cfc 148 C_impl_Way_has cfn))
noncomputable def X_impl_HasFlag : List Value → Mem → Option VM
  | [t0, t1], m =>
    (boxX m t0) |> bo fun r1 =>
    (ldS r1.2 7 r1.1) |> bo fun t5 =>
    (C_impl_WayFault [t5] r1.2) |> bo fun r3 =>
    (binX .eql .no r3.1 (.int .i64 0)) |> bo fun t7 =>
    (gd t7 true (some (t1, r3.2)) r3.2) |> bo fun r5 =>
    (gd t7 true ((C_impl_in [r5.1, (.int .i64 1), (.int .i64 511)] r5.2) |> bo fun r => some (r.1, r.2)) r5.2) |> bo fun r6 =>
    (pickX t7 r6.1 (.bool false)) |> bo fun t11 =>
    (gd t11 true (some (t1, r6.2)) r6.2) |> bo fun r8 =>
    (gd t11 true (some (t1, r8.2)) r8.2) |> bo fun r9 =>
    (gd t11 true ((binX .sub .no r9.1 (.int .i64 1)) |> bo fun v => some (v, r9.2)) r9.2) |> bo fun r10 =>
    (gd t11 true ((binX .and .no r8.1 r10.1) |> bo fun v => some (v, r10.2)) r10.2) |> bo fun r11 =>
    (gd t11 true ((binX .eql .no r11.1 (.int .i64 0)) |> bo fun v => some (v, r11.2)) r11.2) |> bo fun r12 =>
    (pickX t11 r12.1 (.bool false)) |> bo fun t18 =>
    (gd t18 true ((ldS r12.2 7 r1.1) |> bo fun v => some (v, r12.2)) r12.2) |> bo fun r14 =>
    (gd t18 true (some (t1, r14.2)) r14.2) |> bo fun r15 =>
    (gd t18 true ((C_impl_Way_has [r14.1, r15.1] r15.2) |> bo fun r => some (r.1, r.2)) r15.2) |> bo fun r16 =>
    (pickX t18 r16.1 (.bool false)) |> bo fun t23 =>
    retK m.length r16.2 [t0, t1] t23
  | _, _ => none
noncomputable def C_impl_HasFlag : List Value → Mem → Option VM := fcall X_impl_HasFlag
@[simp] theorem c_impl_HasFlag : C_impl_HasFlag = fcall X_impl_HasFlag := (rfl)
theorem cok_impl_HasFlag : codeOk CT Try.f80 (Try.f80.body.get rfl) = true := by kernel_rfl
theorem xe_impl_HasFlag (t0 t1 : Value) (m : Mem) : ex CT cf_impl_HasFlag Try.f80 2 m.length [] (fun _ _ _ => none) 400 [.code (Try.f80.body.get rfl)] (argsT 0 [t0, t1]) m = X_impl_HasFlag [t0, t1] m := by kernel_rfl
theorem okc_impl_HasFlag : CallOK CT cf_impl_HasFlag := cfc_ok ok_C_impl_in (cfc_ok ok_C_impl_WayFault (cfc_ok ok_C_impl_Way_has cfn_ok))
theorem ok_X_impl_HasFlag : OkX CT 80 X_impl_HasFlag := OkX.of_ex (cf := cf_impl_HasFlag) (np := 2) (LL := []) (J := (fun _ _ _ _ => none)) CT_ok rfl Try.func80 rfl (Nat.le_of_ble_eq_true rfl) (by decide) cok_impl_HasFlag okc_impl_HasFlag (fun k => noLoops rfl) (fun args m r h => match args, h with
    | [t0, t1], h => ⟨rfl, (xe_impl_HasFlag t0 t1 m).trans h⟩)
theorem ok_C_impl_HasFlag : OkC CT 80 C_impl_HasFlag := fcall_ok rfl ok_X_impl_HasFlag

/-! ### laws.lwSame -/
noncomputable def cf_laws_lwSame : CallF := cfn
noncomputable def X_laws_lwSame : List Value → Mem → Option VM
  | [t0, t1], m =>
    (cvBS m t0) |> bo fun t6 =>
    (cvBS m t1) |> bo fun t8 =>
    (binX .eql .no t6 t8) |> bo fun t9 =>
    retK m.length m [t0, t1] t9
  | _, _ => none
noncomputable def C_laws_lwSame : List Value → Mem → Option VM := fcall X_laws_lwSame
@[simp] theorem c_laws_lwSame : C_laws_lwSame = fcall X_laws_lwSame := (rfl)
theorem cok_laws_lwSame : codeOk CT Try.f81 (Try.f81.body.get rfl) = true := by kernel_rfl
theorem xe_laws_lwSame (t0 t1 : Value) (m : Mem) : ex CT cf_laws_lwSame Try.f81 2 m.length [] (fun _ _ _ => none) 400 [.code (Try.f81.body.get rfl)] (argsT 0 [t0, t1]) m = X_laws_lwSame [t0, t1] m := by kernel_rfl
theorem okc_laws_lwSame : CallOK CT cf_laws_lwSame := cfn_ok
theorem ok_X_laws_lwSame : OkX CT 81 X_laws_lwSame := OkX.of_ex (cf := cf_laws_lwSame) (np := 2) (LL := []) (J := (fun _ _ _ _ => none)) CT_ok rfl Try.func81 rfl (Nat.le_of_ble_eq_true rfl) (by decide) cok_laws_lwSame okc_laws_lwSame (fun k => noLoops rfl) (fun args m r h => match args, h with
    | [t0, t1], h => ⟨rfl, (xe_laws_lwSame t0 t1 m).trans h⟩)
theorem ok_C_laws_lwSame : OkC CT 81 C_laws_lwSame := fcall_ok rfl ok_X_laws_lwSame

/-! ### laws.FnReads -/
noncomputable def cf_laws_FnReads : CallF := cfc 12 C_laws_lwBig (cfc 70 C_spec_ReadLine (cfc 73 C_impl_ReadLine (cfc 79 C_spec_DrawReadLine (cfc 80 C_impl_HasFlag (cfc 81 C_laws_lwSame (cfc 82 C_impl_LineFault cfn))))))
noncomputable def L_laws_FnReads (k : Nat) : Nat → Nat → List Value → Mem → Option VM
  | q + 1, 0, [t3, t4, t5, t6, t7, t8], m =>
    (fadX 0 t4) |> bo fun t37 =>
    (ld1 m t37) |> bo fun t38 =>
    (lenX t38) |> bo fun t39 =>
    (binX .lss .no t8 t39) |> bo fun t40 =>
    brX t40
      (
        (fadX 0 t4) |> bo fun t44 =>
        (ld1 m t44) |> bo fun t45 =>
        (ixaX 1 t45 t8) |> bo fun t47 =>
        (ld1 m t47) |> bo fun t48 =>
        (apL m 1 1 t7 t48) |> bo fun r9 =>
        (binX .add .no t8 (.int .i64 1)) |> bo fun t42 =>
        cutK k r9.2 [] [t3, t4, t5, t6, r9.1, t42] (L_laws_FnReads k q 0))
      (
        (bslX m 0 1 [.int .u8 0] []) |> bo fun r11 =>
        cutK k r11.2 [] [t3, t4, t5, t6, t7, r11.1, (.int .i64 0)] (L_laws_FnReads k q 1))
  | q + 1, 1, [t3, t4, t5, t6, t7, t9, t10], m =>
    (fadX 4 t6) |> bo fun t52 =>
    (fadX 0 t52) |> bo fun t53 =>
    (ld1 m t53) |> bo fun t54 =>
    (lenX t54) |> bo fun t55 =>
    (binX .lss .no t10 t55) |> bo fun t56 =>
    brX t56
      (
        (fadX 4 t6) |> bo fun t60 =>
        (fadX 0 t60) |> bo fun t61 =>
        (ld1 m t61) |> bo fun t62 =>
        (ixaX 1 t62 t10) |> bo fun t64 =>
        (ld1 m t64) |> bo fun t65 =>
        (apL m 1 1 t9 t65) |> bo fun r11 =>
        (binX .add .no t10 (.int .i64 1)) |> bo fun t58 =>
        cutK k r11.2 [] [t3, t4, t5, t6, t7, r11.1, t58] (L_laws_FnReads k q 1))
      (
        (ldS m 7 t3) |> bo fun t67 =>
        (C_impl_HasFlag [t67, (.int .i64 1)] m) |> bo fun r14 =>
        (gd r14.1 true ((fadX 0 t4) |> bo fun v => some (v, r14.2)) r14.2) |> bo fun r15 =>
        (gd r14.1 true ((ld1 r15.2 r15.1) |> bo fun v => some (v, r15.2)) r15.2) |> bo fun r16 =>
        (gd r14.1 true ((lenX r16.1) |> bo fun v => some (v, r16.2)) r16.2) |> bo fun r17 =>
        (gd r14.1 true ((binX .gtr .no r17.1 (.int .i64 0)) |> bo fun v => some (v, r17.2)) r17.2) |> bo fun r18 =>
        (pickX r14.1 r18.1 (.bool false)) |> bo fun t75 =>
        (gd t75 true ((fadX 2 t6) |> bo fun v => some (v, r18.2)) r18.2) |> bo fun r20 =>
        (gd t75 true ((ld1 r20.2 r20.1) |> bo fun v => some (v, r20.2)) r20.2) |> bo fun r21 =>
        (gd t75 true ((lenX r21.1) |> bo fun v => some (v, r21.2)) r21.2) |> bo fun r22 =>
        (gd t75 true ((fadX 0 t4) |> bo fun v => some (v, r22.2)) r22.2) |> bo fun r23 =>
        (gd t75 true ((ld1 r23.2 r23.1) |> bo fun v => some (v, r23.2)) r23.2) |> bo fun r24 =>
        (gd t75 true ((ixaX 1 r24.1 (.int .i64 0)) |> bo fun v => some (v, r24.2)) r24.2) |> bo fun r25 =>
        (gd t75 true ((ld1 r25.2 r25.1) |> bo fun v => some (v, r25.2)) r25.2) |> bo fun r26 =>
        (gd t75 true ((lenX r26.1) |> bo fun v => some (v, r26.2)) r26.2) |> bo fun r27 =>
        (gd t75 true ((binX .gtr .no r22.1 r27.1) |> bo fun v => some (v, r27.2)) r27.2) |> bo fun r28 =>
        (pickX t75 r28.1 (.bool false)) |> bo fun t86 =>
        (gd t86 false (some (r14.1, r28.2)) r28.2) |> bo fun r30 =>
        (gd t86 false ((uop .not r30.1) |> bo fun v => some (v, r30.2)) r30.2) |> bo fun r31 =>
        (gd t86 false (some (r31.1, r31.2)) r31.2) |> bo fun r32 =>
        (gd r32.1 true (some (t7, r32.2)) r32.2) |> bo fun r33 =>
        (gd r32.1 true ((lenX r33.1) |> bo fun v => some (v, r33.2)) r33.2) |> bo fun r34 =>
        (gd r32.1 true (some (t5, r34.2)) r34.2) |> bo fun r35 =>
        (gd r32.1 true ((binX .geq .no r34.1 r35.1) |> bo fun v => some (v, r35.2)) r35.2) |> bo fun r36 =>
        (gd t86 false ((pickX r32.1 r36.1 (.bool false)) |> bo fun v => some (v, r36.2)) r36.2) |> bo fun r37 =>
        (gd t86 false (some (r37.1, r37.2)) r37.2) |> bo fun r38 =>
        (gd r38.1 true ((fadX 2 t6) |> bo fun v => some (v, r38.2)) r38.2) |> bo fun r39 =>
        (gd r38.1 true ((ld1 r39.2 r39.1) |> bo fun v => some (v, r39.2)) r39.2) |> bo fun r40 =>
        (gd r38.1 true ((lenX r40.1) |> bo fun v => some (v, r40.2)) r40.2) |> bo fun r41 =>
        (gd r38.1 true (some (t5, r41.2)) r41.2) |> bo fun r42 =>
        (gd r38.1 true ((binX .neq .no r41.1 r42.1) |> bo fun v => some (v, r42.2)) r42.2) |> bo fun r43 =>
        (gd t86 false ((pickX r38.1 r43.1 (.bool false)) |> bo fun v => some (v, r43.2)) r43.2) |> bo fun r44 =>
        (pickX t86 (.bool true) r44.1) |> bo fun t103 =>
        brX t103
          (
            retK k r44.2 [] (.bool false))
          (
            (fadX 2 t6) |> bo fun t104 =>
            (ld1 r44.2 t104) |> bo fun t105 =>
            (lenX t105) |> bo fun t106 =>
            (binX .leq .no t106 t5) |> bo fun t108 =>
            (gd t108 true ((bslX r44.2 0 1 [.int .u8 0] []) |> bo fun r => some (r.1, r.2)) r44.2) |> bo fun r50 =>
            (gd t108 true ((fadX 2 t6) |> bo fun v => some (v, r50.2)) r50.2) |> bo fun r51 =>
            (gd t108 true ((ld1 r51.2 r51.1) |> bo fun v => some (v, r51.2)) r51.2) |> bo fun r52 =>
            (gd t108 true ((apL r52.2 1 1 r50.1 r52.1) |> bo fun r => some (r.1, r.2)) r52.2) |> bo fun r53 =>
            (gd t108 true (some (t9, r53.2)) r53.2) |> bo fun r54 =>
            (gd t108 true ((apL r54.2 1 1 r53.1 r54.1) |> bo fun r => some (r.1, r.2)) r54.2) |> bo fun r55 =>
            (gd t108 true (some (t7, r55.2)) r55.2) |> bo fun r56 =>
            (gd t108 true ((C_laws_lwSame [r55.1, r56.1] r56.2) |> bo fun r => some (r.1, r.2)) r56.2) |> bo fun r57 =>
            (pickX t108 r57.1 (.bool false)) |> bo fun t118 =>
            (gd t118 true ((fadX 1 t6) |> bo fun v => some (v, r57.2)) r57.2) |> bo fun r59 =>
            (gd t118 true ((ld1 r59.2 r59.1) |> bo fun v => some (v, r59.2)) r59.2) |> bo fun r60 =>
            (gd t118 true ((fadX 0 t4) |> bo fun v => some (v, r60.2)) r60.2) |> bo fun r61 =>
            (gd t118 true ((ld1 r61.2 r61.1) |> bo fun v => some (v, r61.2)) r61.2) |> bo fun r62 =>
            (gd t118 true ((lenX r62.1) |> bo fun v => some (v, r62.2)) r62.2) |> bo fun r63 =>
            (gd t118 true ((binX .gtr .no r63.1 (.int .i64 0)) |> bo fun v => some (v, r63.2)) r63.2) |> bo fun r64 =>
            (gd t118 true ((binX .eql .bool r60.1 r64.1) |> bo fun v => some (v, r64.2)) r64.2) |> bo fun r65 =>
            (pickX t118 r65.1 (.bool false)) |> bo fun t127 =>
            (gd t127 true ((fadX 4 t6) |> bo fun v => some (v, r65.2)) r65.2) |> bo fun r67 =>
            (gd t127 true ((fadX 1 r67.1) |> bo fun v => some (v, r67.2)) r67.2) |> bo fun r68 =>
            (gd t127 true ((ld1 r68.2 r68.1) |> bo fun v => some (v, r68.2)) r68.2) |> bo fun r69 =>
            (gd t127 true ((fadX 1 t4) |> bo fun v => some (v, r69.2)) r69.2) |> bo fun r70 =>
            (gd t127 true ((ld1 r70.2 r70.1) |> bo fun v => some (v, r70.2)) r70.2) |> bo fun r71 =>
            (gd t127 true ((C_laws_lwSame [r69.1, r71.1] r71.2) |> bo fun r => some (r.1, r.2)) r71.2) |> bo fun r72 =>
            (pickX t127 r72.1 (.bool false)) |> bo fun t135 =>
            (gd t135 true ((fadX 4 t6) |> bo fun v => some (v, r72.2)) r72.2) |> bo fun r74 =>
            (gd t135 true ((ldS r74.2 4 r74.1) |> bo fun v => some (v, r74.2)) r74.2) |> bo fun r75 =>
            (gd t135 true ((C_impl_LineFault [r75.1] r75.2) |> bo fun r => some (r.1, r.2)) r75.2) |> bo fun r76 =>
            (gd t135 true ((binX .eql .no r76.1 (.int .i64 0)) |> bo fun v => some (v, r76.2)) r76.2) |> bo fun r77 =>
            (pickX t135 r77.1 (.bool false)) |> bo fun t141 =>
            (gd t141 true ((fadX 2 t6) |> bo fun v => some (v, r77.2)) r77.2) |> bo fun r79 =>
            (gd t141 true ((ld1 r79.2 r79.1) |> bo fun v => some (v, r79.2)) r79.2) |> bo fun r80 =>
            (gd t141 true ((ldS r80.2 7 t3) |> bo fun v => some (v, r80.2)) r80.2) |> bo fun r81 =>
            (gd t141 true ((ldS r81.2 4 t4) |> bo fun v => some (v, r81.2)) r81.2) |> bo fun r82 =>
            (gd t141 true (some (t5, r82.2)) r82.2) |> bo fun r83 =>
            (gd t141 true ((C_spec_ReadLine [r81.1, r82.1, r83.1] r83.2) |> bo fun r => some (r.1, r.2)) r83.2) |> bo fun r84 =>
            (gd t141 true ((fld1 2 r84.1) |> bo fun v => some (v, r84.2)) r84.2) |> bo fun r85 =>
            (gd t141 true ((C_laws_lwSame [r80.1, r85.1] r85.2) |> bo fun r => some (r.1, r.2)) r85.2) |> bo fun r86 =>
            (pickX t141 r86.1 (.bool false)) |> bo fun t151 =>
            gP (stbL [((gdN t141 true (rdN r79.1)), r83.2, r84.2)])
              (
                retK k r86.2 [] t151)))
  | _, _, _, _ => none
noncomputable def J_laws_FnReads (k q l : Nat) : List Value → Mem → Option VM := cond (Nat.beq l 9) (L_laws_FnReads k q 0) (cond (Nat.beq l 14) (L_laws_FnReads k q 1) (fun _ _ => none))
def LL_laws_FnReads : List (Nat × List Tmp) := [(9, [3, 4, 5, 6, 7, 8]), (14, [3, 4, 5, 6, 7, 9, 10])]
noncomputable def X_laws_FnReads : List Value → Mem → Option VM
  | [t0], m =>
    (C_laws_lwBig [t0] m) |> bo fun r1 =>
    brX r1.1
      (
        retK m.length r1.2 [t0] (.bool true))
      (
        (C_spec_DrawReadLine [t0] r1.2) |> bo fun r2 =>
        (extX 0 r2.1) |> bo fun t17 =>
        (extX 1 r2.1) |> bo fun t18 =>
        (extX 2 r2.1) |> bo fun t19 =>
        (alX r2.2 [.int .i64 0, .int .i64 0, .int .i64 0, .int .i64 0, .int .i64 0, .int .i64 0, .int .i64 0]) |> bo fun r6 =>
        (alX r6.2 [.slice none 0 0, .slice none 0 0, .bool false, .int .i64 0]) |> bo fun r7 =>
        (stX r7.2 7 r6.1 t17) |> bo fun m8 =>
        (stX m8 4 r7.1 t18) |> bo fun m9 =>
        (ldS m9 7 r6.1) |> bo fun t20 =>
        (ldS m9 4 r7.1) |> bo fun t21 =>
        (C_impl_ReadLine [t20, t21, t19] m9) |> bo fun r12 =>
        (alX r12.2 [.int .i64 0, .bool false, .slice none 0 0, .slice none 0 0, .slice none 0 0, .slice none 0 0, .bool false, .int .i64 0]) |> bo fun r13 =>
        (stX r13.2 8 r13.1 r12.1) |> bo fun m14 =>
        (fadX 0 r13.1) |> bo fun t24 =>
        (ld1 m14 t24) |> bo fun t25 =>
        (binX .neq .no t25 (.int .i64 0)) |> bo fun t26 =>
        brX t26
          (
            (ldS m14 7 r6.1) |> bo fun t27 =>
            (ldS m14 4 r7.1) |> bo fun t28 =>
            (C_spec_ReadLine [t27, t28, t19] m14) |> bo fun r20 =>
            (fld1 0 r20.1) |> bo fun t31 =>
            (fadX 0 r13.1) |> bo fun t32 =>
            (ld1 r20.2 t32) |> bo fun t33 =>
            (binX .eql .no t31 t33) |> bo fun t34 =>
            gP (stbL [((rdN t32), m14, r20.2)])
              (
                retK m.length r20.2 [t0] t34))
          (
            (bslX m14 0 1 [.int .u8 0] []) |> bo fun r25 =>
            cutK m.length r25.2 [t0] [r6.1, r7.1, t19, r13.1, r25.1, (.int .i64 0)] (L_laws_FnReads m.length QQ 0)))
  | _, _ => none
noncomputable def C_laws_FnReads : List Value → Mem → Option VM := fcall X_laws_FnReads
@[simp] theorem c_laws_FnReads : C_laws_FnReads = fcall X_laws_FnReads := (rfl)
theorem cok_laws_FnReads : codeOk CT Try.f11 (Try.f11.body.get rfl) = true := by kernel_rfl
theorem xe_laws_FnReads (t0 : Value) (m : Mem) : ex CT cf_laws_FnReads Try.f11 1 m.length LL_laws_FnReads (J_laws_FnReads m.length QQ) 400 [.code (Try.f11.body.get rfl)] (argsT 0 [t0]) m = X_laws_FnReads [t0] m := by kernel_rfl
theorem okc_laws_FnReads : CallOK CT cf_laws_FnReads := cfc_ok ok_C_laws_lwBig (cfc_ok ok_C_spec_ReadLine (cfc_ok ok_C_impl_ReadLine (cfc_ok ok_C_spec_DrawReadLine (cfc_ok ok_C_impl_HasFlag (cfc_ok ok_C_laws_lwSame (cfc_ok ok_C_impl_LineFault cfn_ok))))))
theorem le_laws_FnReads_0 (k q : Nat) (t3 t4 t5 t6 t7 t8 : Value) (m : Mem) : ex CT cf_laws_FnReads Try.f11 1 k LL_laws_FnReads (J_laws_FnReads k q) 400 (atLoop Try.f11 0) [(3, t3), (4, t4), (5, t5), (6, t6), (7, t7), (8, t8)] m = J_laws_FnReads k (q + 1) 9 [t3, t4, t5, t6, t7, t8] m := by kernel_rfl
theorem le_laws_FnReads_1 (k q : Nat) (t3 t4 t5 t6 t7 t9 t10 : Value) (m : Mem) : ex CT cf_laws_FnReads Try.f11 1 k LL_laws_FnReads (J_laws_FnReads k q) 400 (atLoop Try.f11 1) [(3, t3), (4, t4), (5, t5), (6, t6), (7, t7), (9, t9), (10, t10)] m = J_laws_FnReads k (q + 1) 14 [t3, t4, t5, t6, t7, t9, t10] m := by kernel_rfl
theorem gl_laws_FnReads (k : Nat) : ∀ q i, i < 2 → GoodL CT k Try.f11 LL_laws_FnReads (J_laws_FnReads k q) (atLoop Try.f11 i)
  | 0, 0, _ => goodL_zero (l := 9) (by kernel_rfl) (fun vs m => by kernel_rfl)
  | 0, 1, _ => goodL_zero (l := 14) (by kernel_rfl) (fun vs m => by kernel_rfl)
  | 0, _ + 2, h => absurd h (by omega)
  | q + 1, 0, _ => goodL_succ (np := 1) (l := 9) (live := [3, 4, 5, 6, 7, 8]) (n := 2) CT_ok rfl okc_laws_FnReads (c := (Try.f11.body.get rfl)) rfl cok_laws_FnReads (by kernel_rfl) (gl_laws_FnReads k q) (by kernel_rfl) rfl (fun vs m r hl h => match vs, hl with
    | [t3, t4, t5, t6, t7, t8], _ => (le_laws_FnReads_0 k q t3 t4 t5 t6 t7 t8 m).trans h)
  | q + 1, 1, _ => goodL_succ (np := 1) (l := 14) (live := [3, 4, 5, 6, 7, 9, 10]) (n := 2) CT_ok rfl okc_laws_FnReads (c := (Try.f11.body.get rfl)) rfl cok_laws_FnReads (by kernel_rfl) (gl_laws_FnReads k q) (by kernel_rfl) rfl (fun vs m r hl h => match vs, hl with
    | [t3, t4, t5, t6, t7, t9, t10], _ => (le_laws_FnReads_1 k q t3 t4 t5 t6 t7 t9 t10 m).trans h)
  | _ + 1, _ + 2, h => absurd h (by omega)
theorem ok_X_laws_FnReads : OkX CT 11 X_laws_FnReads := OkX.of_ex (cf := cf_laws_FnReads) (np := 1) (LL := LL_laws_FnReads) (J := (fun k => J_laws_FnReads k QQ)) CT_ok rfl Try.func11 rfl (Nat.le_of_ble_eq_true rfl) (by decide) cok_laws_FnReads okc_laws_FnReads (fun k => allLoops rfl (by kernel_rfl) (gl_laws_FnReads k QQ)) (fun args m r h => match args, h with
    | [t0], h => ⟨rfl, (xe_laws_FnReads t0 m).trans h⟩)
theorem ok_C_laws_FnReads : OkC CT 11 C_laws_FnReads := fcall_ok rfl ok_X_laws_FnReads

end Go.Ab
