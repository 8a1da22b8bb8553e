/- Plain forms of functions, printed by gen.py. -/
import Derived.Test.YtnmjgjedkdmefaaCf4
import Derived.Test.YtnmjgjedkdmefaaFC
import Derived.Test.YtnmjgjedkdmefaaFD
set_option linter.unusedVariables false
set_option linter.unusedSimpArgs false
namespace Go.Ab
open Go.Proofs
set_option maxRecDepth 100000
set_option linter.unusedVariables false
noncomputable def cf_spec_l1In : CallF := cfn
noncomputable def X_spec_l1In : List Value → Mem → Option VM
 | [t0, t1, t2], m =>
  (binX .geq .no t0 t1) |> bo fun t9 =>
  (gd t9 true (some (t0, m)) m) |> bo fun r2 =>
  (gd t9 true (some (t2, r2.2)) r2.2) |> bo fun r3 =>
  (gd t9 true ((binX .leq .no r2.1 r3.1) |> bo fun v => some (v, r3.2)) r3.2) |> bo fun r4 =>
  (pickX t9 r4.1 (.bool false)) |> bo fun t14 =>
  retK m.length r4.2 [t0, t1, t2] t14
 | _, _ => none
noncomputable def C_spec_l1In : List Value → Mem → Option VM := fcall X_spec_l1In
@[simp] theorem c_spec_l1In : C_spec_l1In = fcall X_spec_l1In := (rfl)
theorem cok_spec_l1In : codeOk CT Try.f127 (Try.f127.body.get rfl) = true := by kernel_rfl
theorem xe_spec_l1In (t0 t1 t2 : Value) (m : Mem) : ex CT cf_spec_l1In Try.f127 3 m.length [] (fun _ _ _ => none) 400 [.code (Try.f127.body.get rfl)] (argsT 0 [t0, t1, t2]) m = X_spec_l1In [t0, t1, t2] m := by kernel_rfl
theorem okc_spec_l1In : CallOK CT cf_spec_l1In := cfn_ok
theorem ok_X_spec_l1In : OkX CT 127 X_spec_l1In := OkX.of_ex (cf := cf_spec_l1In) (np := 3) (LL := []) (J := (fun _ _ _ _ => none)) CT_ok rfl Try.func127 rfl (Nat.le_of_ble_eq_true rfl) (by decide) cok_spec_l1In okc_spec_l1In (fun k => noLoops rfl) (fun args m r h => match args, h with
  | [t0, t1, t2], h => ⟨rfl, (xe_spec_l1In t0 t1 t2 m).trans h⟩)
theorem ok_C_spec_l1In : OkC CT 127 C_spec_l1In := fcall_ok rfl ok_X_spec_l1In
noncomputable def cf_spec_l10List : CallF := cfn
noncomputable def X_spec_l10List : List Value → Mem → Option VM
 | [t0], m =>
  (nilX t0) |> bo fun t4 =>
  (fadX 0 t4) |> bo fun t5 =>
  (ld1 m t5) |> bo fun t6 =>
  (nilX t0) |> bo fun t8 =>
  (fadX 1 t8) |> bo fun t9 =>
  (ld1 m t9) |> bo fun t10 =>
  (nilX t0) |> bo fun t12 =>
  (fadX 2 t12) |> bo fun t13 =>
  (ld1 m t13) |> bo fun t14 =>
  (nilX t0) |> bo fun t16 =>
  (fadX 3 t16) |> bo fun t17 =>
  (ld1 m t17) |> bo fun t18 =>
  (nilX t0) |> bo fun t20 =>
  (fadX 4 t20) |> bo fun t21 =>
  (ld1 m t21) |> bo fun t22 =>
  (nilX t0) |> bo fun t24 =>
  (fadX 5 t24) |> bo fun t25 =>
  (ld1 m t25) |> bo fun t26 =>
  (nilX t0) |> bo fun t28 =>
  (fadX 6 t28) |> bo fun t29 =>
  (ld1 m t29) |> bo fun t30 =>
  (bslX m 7 1 [.int .i64 0] [(0, 1, t6), (1, 1, t10), (2, 1, t14), (3, 1, t18), (4, 1, t22), (5, 1, t26), (6, 1, t30)]) |> bo fun r22 =>
  retK m.length r22.2 [t0] r22.1
 | _, _ => none
noncomputable def C_spec_l10List : List Value → Mem → Option VM := fcall X_spec_l10List
@[simp] theorem c_spec_l10List : C_spec_l10List = fcall X_spec_l10List := (rfl)
theorem cok_spec_l10List : codeOk CT Try.f138 (Try.f138.body.get rfl) = true := by kernel_rfl
theorem xe_spec_l10List (t0 : Value) (m : Mem) : ex CT cf_spec_l10List Try.f138 1 m.length [] (fun _ _ _ => none) 400 [.code (Try.f138.body.get rfl)] (argsT 0 [t0]) m = X_spec_l10List [t0] m := by kernel_rfl
theorem okc_spec_l10List : CallOK CT cf_spec_l10List := cfn_ok
theorem ok_X_spec_l10List : OkX CT 138 X_spec_l10List := OkX.of_ex (cf := cf_spec_l10List) (np := 1) (LL := []) (J := (fun _ _ _ _ => none)) CT_ok rfl Try.func138 rfl (Nat.le_of_ble_eq_true rfl) (by decide) cok_spec_l10List okc_spec_l10List (fun k => noLoops rfl) (fun args m r h => match args, h with
  | [t0], h => ⟨rfl, (xe_spec_l10List t0 m).trans h⟩)
theorem ok_C_spec_l10List : OkC CT 138 C_spec_l10List := fcall_ok rfl ok_X_spec_l10List
noncomputable def cf_spec_l10Fault : CallF := cfc 127 C_spec_l1In (cfc 138 C_spec_l10List cfn)
noncomputable def L_spec_l10Fault (k : Nat) : Nat → Nat → List Value → Mem → Option VM
 | q + 1, 0, [t3, t4], m =>
  (lenX t3) |> bo fun t10 =>
  (binX .lss .no t4 t10) |> bo fun t11 =>
  brX t11
   (
    (binX .eql .no t4 (.int .i64 0)) |> bo fun t15 =>
    brX t15
     (
      (ixaX 1 t3 t4) |> bo fun t18 =>
      (ld1 m t18) |> bo fun t19 =>
      (C_spec_l1In [t19, (.int .i64 0), (.int .i64 511)] m) |> bo fun r6 =>
      (uop .not r6.1) |> bo fun t22 =>
      brX t22
       (
        retK k r6.2 [] (.int .i64 3))
       (
        (binX .add .no t4 (.int .i64 1)) |> bo fun t13 =>
        cutK k r6.2 [] [t3, t13] (L_spec_l10Fault k q 0)))
     (
      (ixaX 1 t3 t4) |> bo fun t18 =>
      (ld1 m t18) |> bo fun t19 =>
      (C_spec_l1In [t19, (.int .i64 0), (.int .i64 255)] m) |> bo fun r11 =>
      (uop .not r11.1) |> bo fun t22 =>
      brX t22
       (
        retK k r11.2 [] (.int .i64 3))
       (
        (binX .add .no t4 (.int .i64 1)) |> bo fun t13 =>
        cutK k r11.2 [] [t3, t13] (L_spec_l10Fault k q 0))))
   (
    retK k m [] (.int .i64 0))
 | _, _, _, _ => none
noncomputable def J_spec_l10Fault (k q l : Nat) : List Value → Mem → Option VM := cond (Nat.beq l 3) (L_spec_l10Fault k q 0) (fun _ _ => none)
def LL_spec_l10Fault : List (Nat × List Tmp) := [(3, [3, 4])]
noncomputable def X_spec_l10Fault : List Value → Mem → Option VM
 | [t0], m =>
  (C_spec_l10List [t0] m) |> bo fun r1 =>
  cutK m.length r1.2 [t0] [r1.1, (.int .i64 0)] (L_spec_l10Fault m.length QQ 0)
 | _, _ => none
noncomputable def C_spec_l10Fault : List Value → Mem → Option VM := fcall X_spec_l10Fault
@[simp] theorem c_spec_l10Fault : C_spec_l10Fault = fcall X_spec_l10Fault := (rfl)
theorem cok_spec_l10Fault : codeOk CT Try.f92 (Try.f92.body.get rfl) = true := by kernel_rfl
theorem xe_spec_l10Fault (t0 : Value) (m : Mem) : ex CT cf_spec_l10Fault Try.f92 1 m.length LL_spec_l10Fault (J_spec_l10Fault m.length QQ) 400 [.code (Try.f92.body.get rfl)] (argsT 0 [t0]) m = X_spec_l10Fault [t0] m := by kernel_rfl
theorem okc_spec_l10Fault : CallOK CT cf_spec_l10Fault := cfc_ok ok_C_spec_l1In (cfc_ok ok_C_spec_l10List cfn_ok)
theorem le_spec_l10Fault_0 (k q : Nat) (t3 t4 : Value) (m : Mem) : ex CT cf_spec_l10Fault Try.f92 1 k LL_spec_l10Fault (J_spec_l10Fault k q) 400 (atLoop Try.f92 0) [(3, t3), (4, t4)] m = J_spec_l10Fault k (q + 1) 3 [t3, t4] m := by kernel_rfl
theorem gl_spec_l10Fault (k : Nat) : ∀ q i, i < 1 → GoodL CT k Try.f92 LL_spec_l10Fault (J_spec_l10Fault k q) (atLoop Try.f92 i)
 | 0, 0, _ => goodL_zero (l := 3) (by kernel_rfl) (fun vs m => by kernel_rfl)
 | 0, _ + 1, h => absurd h (by omega)
 | q + 1, 0, _ => goodL_succ (np := 1) (l := 3) (live := [3, 4]) (n := 1) CT_ok rfl okc_spec_l10Fault (c := (Try.f92.body.get rfl)) rfl cok_spec_l10Fault (by kernel_rfl) (gl_spec_l10Fault k q) (by kernel_rfl) rfl (fun vs m r hl h => match vs, hl with
  | [t3, t4], _ => (le_spec_l10Fault_0 k q t3 t4 m).trans h)
 | _ + 1, _ + 1, h => absurd h (by omega)
theorem ok_X_spec_l10Fault : OkX CT 92 X_spec_l10Fault := OkX.of_ex (cf := cf_spec_l10Fault) (np := 1) (LL := LL_spec_l10Fault) (J := (fun k => J_spec_l10Fault k QQ)) CT_ok rfl Try.func92 rfl (Nat.le_of_ble_eq_true rfl) (by decide) cok_spec_l10Fault okc_spec_l10Fault (fun k => allLoops rfl (by kernel_rfl) (gl_spec_l10Fault k QQ)) (fun args m r h => match args, h with
  | [t0], h => ⟨rfl, (xe_spec_l10Fault t0 m).trans h⟩)
theorem ok_C_spec_l10Fault : OkC CT 92 C_spec_l10Fault := fcall_ok rfl ok_X_spec_l10Fault
noncomputable def cf_spec_l11Size : CallF := cfn
noncomputable def L_spec_l11Size (k : Nat) : Nat → Nat → List Value → Mem → Option VM
 | q + 1, 0, [t0, t3, t4], m =>
  (nilX t0) |> bo fun t12 =>
  (fadX 0 t12) |> bo fun t13 =>
  (ld1 m t13) |> bo fun t14 =>
  (lenX t14) |> bo fun t15 =>
  (binX .lss .no t4 t15) |> bo fun t16 =>
  brX t16
   (
    (nilX t0) |> bo fun t21 =>
    (fadX 0 t21) |> bo fun t22 =>
    (ld1 m t22) |> bo fun t23 =>
    (ixaX 1 t23 t4) |> bo fun t25 =>
    (ld1 m t25) |> bo fun t26 =>
    (lenX t26) |> bo fun t27 =>
    (binX .add .no t3 t27) |> bo fun t28 =>
    (binX .add .no t4 (.int .i64 1)) |> bo fun t18 =>
    cutK k m [t0] [t0, t28, t18] (L_spec_l11Size k q 0))
   (
    retK k m [t0] t3)
 | _, _, _, _ => none
noncomputable def J_spec_l11Size (k q l : Nat) : List Value → Mem → Option VM := cond (Nat.beq l 3) (L_spec_l11Size k q 0) (fun _ _ => none)
def LL_spec_l11Size : List (Nat × List Tmp) := [(3, [0, 3, 4])]
noncomputable def X_spec_l11Size : List Value → Mem → Option VM
 | [t0], m =>
  (nilX t0) |> bo fun t6 =>
  (fadX 1 t6) |> bo fun t7 =>
  (ld1 m t7) |> bo fun t8 =>
  (lenX t8) |> bo fun t9 =>
  cutK m.length m [t0] [t0, t9, (.int .i64 0)] (L_spec_l11Size m.length QQ 0)
 | _, _ => none
noncomputable def C_spec_l11Size : List Value → Mem → Option VM := fcall X_spec_l11Size
@[simp] theorem c_spec_l11Size : C_spec_l11Size = fcall X_spec_l11Size := (rfl)
theorem cok_spec_l11Size : codeOk CT Try.f139 (Try.f139.body.get rfl) = true := by kernel_rfl
theorem xe_spec_l11Size (t0 : Value) (m : Mem) : ex CT cf_spec_l11Size Try.f139 1 m.length LL_spec_l11Size (J_spec_l11Size m.length QQ) 400 [.code (Try.f139.body.get rfl)] (argsT 0 [t0]) m = X_spec_l11Size [t0] m := by kernel_rfl
theorem okc_spec_l11Size : CallOK CT cf_spec_l11Size := cfn_ok
theorem le_spec_l11Size_0 (k q : Nat) (t0 t3 t4 : Value) (m : Mem) : ex CT cf_spec_l11Size Try.f139 1 k LL_spec_l11Size (J_spec_l11Size k q) 400 (atLoop Try.f139 0) [(0, t0), (3, t3), (4, t4)] m = J_spec_l11Size k (q + 1) 3 [t0, t3, t4] m := by kernel_rfl
theorem gl_spec_l11Size (k : Nat) : ∀ q i, i < 1 → GoodL CT k Try.f139 LL_spec_l11Size (J_spec_l11Size k q) (atLoop Try.f139 i)
 | 0, 0, _ => goodL_zero (l := 3) (by kernel_rfl) (fun vs m => by kernel_rfl)
 | 0, _ + 1, h => absurd h (by omega)
 | q + 1, 0, _ => goodL_succ (np := 1) (l := 3) (live := [0, 3, 4]) (n := 1) CT_ok rfl okc_spec_l11Size (c := (Try.f139.body.get rfl)) rfl cok_spec_l11Size (by kernel_rfl) (gl_spec_l11Size k q) (by kernel_rfl) rfl (fun vs m r hl h => match vs, hl with
  | [t0, t3, t4], _ => (le_spec_l11Size_0 k q t0 t3 t4 m).trans h)
 | _ + 1, _ + 1, h => absurd h (by omega)
theorem ok_X_spec_l11Size : OkX CT 139 X_spec_l11Size := OkX.of_ex (cf := cf_spec_l11Size) (np := 1) (LL := LL_spec_l11Size) (J := (fun k => J_spec_l11Size k QQ)) CT_ok rfl Try.func139 rfl (Nat.le_of_ble_eq_true rfl) (by decide) cok_spec_l11Size okc_spec_l11Size (fun k => allLoops rfl (by kernel_rfl) (gl_spec_l11Size k QQ)) (fun args m r h => match args, h with
  | [t0], h => ⟨rfl, (xe_spec_l11Size t0 m).trans h⟩)
theorem ok_C_spec_l11Size : OkC CT 139 C_spec_l11Size := fcall_ok rfl ok_X_spec_l11Size
noncomputable def cf_spec_l11Fault : CallF := cfc 127 C_spec_l1In (cfc 139 C_spec_l11Size cfn)
noncomputable def X_spec_l11Fault : List Value → Mem → Option VM
 | [t0], m =>
  (nilX t0) |> bo fun t4 =>
  (fadX 0 t4) |> bo fun t5 =>
  (ld1 m t5) |> bo fun t6 =>
  (lenX t6) |> bo fun t7 =>
  (binX .gtr .no t7 (.int .i64 40)) |> bo fun t8 =>
  (gd t8 false (some (t0, m)) m) |> bo fun r6 =>
  (gd t8 false ((C_spec_l11Size [r6.1] r6.2) |> bo fun r => some (r.1, r.2)) r6.2) |> bo fun r7 =>
  (gd t8 false ((binX .gtr .no r7.1 (.int .i64 40)) |> bo fun v => some (v, r7.2)) r7.2) |> bo fun r8 =>
  (pickX t8 (.bool true) r8.1) |> bo fun t13 =>
  brX t13
   (
    retK m.length r8.2 [t0] (.int .i64 2))
   (
    (nilX t0) |> bo fun t15 =>
    (fadX 3 t15) |> bo fun t16 =>
    (ld1 r8.2 t16) |> bo fun t17 =>
    (C_spec_l1In [t17, (.int .i64 0), (.int .i64 999)] r8.2) |> bo fun r13 =>
    (uop .not r13.1) |> bo fun t19 =>
    brX t19
     (
      retK m.length r13.2 [t0] (.int .i64 3))
     (
      retK m.length r13.2 [t0] (.int .i64 0)))
 | _, _ => none
noncomputable def C_spec_l11Fault : List Value → Mem → Option VM := fcall X_spec_l11Fault
@[simp] theorem c_spec_l11Fault : C_spec_l11Fault = fcall X_spec_l11Fault := (rfl)
theorem cok_spec_l11Fault : codeOk CT Try.f93 (Try.f93.body.get rfl) = true := by kernel_rfl
theorem xe_spec_l11Fault (t0 : Value) (m : Mem) : ex CT cf_spec_l11Fault Try.f93 1 m.length [] (fun _ _ _ => none) 400 [.code (Try.f93.body.get rfl)] (argsT 0 [t0]) m = X_spec_l11Fault [t0] m := by kernel_rfl
theorem okc_spec_l11Fault : CallOK CT cf_spec_l11Fault := cfc_ok ok_C_spec_l1In (cfc_ok ok_C_spec_l11Size cfn_ok)
theorem ok_X_spec_l11Fault : OkX CT 93 X_spec_l11Fault := OkX.of_ex (cf := cf_spec_l11Fault) (np := 1) (LL := []) (J := (fun _ _ _ _ => none)) CT_ok rfl Try.func93 rfl (Nat.le_of_ble_eq_true rfl) (by decide) cok_spec_l11Fault okc_spec_l11Fault (fun k => noLoops rfl) (fun args m r h => match args, h with
  | [t0], h => ⟨rfl, (xe_spec_l11Fault t0 m).trans h⟩)
theorem ok_C_spec_l11Fault : OkC CT 93 C_spec_l11Fault := fcall_ok rfl ok_X_spec_l11Fault
noncomputable def cf_spec_l11Asked : CallF := cfc 92 C_spec_l10Fault (cfc 93 C_spec_l11Fault cfn)
noncomputable def X_spec_l11Asked : List Value → Mem → Option VM
 | [t0, t1], m =>
  (C_spec_l10Fault [t0] m) |> bo fun r1 =>
  (binX .neq .no r1.1 (.int .i64 0)) |> bo fun t9 =>
  brX t9
   (
    retK m.length r1.2 [t0, t1] r1.1)
   (
    (C_spec_l11Fault [t1] r1.2) |> bo fun r3 =>
    retK m.length r3.2 [t0, t1] r3.1)
 | _, _ => none
noncomputable def C_spec_l11Asked : List Value → Mem → Option VM := fcall X_spec_l11Asked
@[simp] theorem c_spec_l11Asked : C_spec_l11Asked = fcall X_spec_l11Asked := (rfl)
theorem cok_spec_l11Asked : codeOk CT Try.f49 (Try.f49.body.get rfl) = true := by kernel_rfl
theorem xe_spec_l11Asked (t0 t1 : Value) (m : Mem) : ex CT cf_spec_l11Asked Try.f49 2 m.length [] (fun _ _ _ => none) 400 [.code (Try.f49.body.get rfl)] (argsT 0 [t0, t1]) m = X_spec_l11Asked [t0, t1] m := by kernel_rfl
theorem okc_spec_l11Asked : CallOK CT cf_spec_l11Asked := cfc_ok ok_C_spec_l10Fault (cfc_ok ok_C_spec_l11Fault cfn_ok)
theorem ok_X_spec_l11Asked : OkX CT 49 X_spec_l11Asked := OkX.of_ex (cf := cf_spec_l11Asked) (np := 2) (LL := []) (J := (fun _ _ _ _ => none)) CT_ok rfl Try.func49 rfl (Nat.le_of_ble_eq_true rfl) (by decide) cok_spec_l11Asked okc_spec_l11Asked (fun k => noLoops rfl) (fun args m r h => match args, h with
  | [t0, t1], h => ⟨rfl, (xe_spec_l11Asked t0 t1 m).trans h⟩)
theorem ok_C_spec_l11Asked : OkC CT 49 C_spec_l11Asked := fcall_ok rfl ok_X_spec_l11Asked
noncomputable def cf_spec_l1Copy : CallF := cfn
noncomputable def X_spec_l1Copy : List Value → Mem → Option VM
 | [t0], m =>
  (bslX m 0 1 [.int .u8 0] []) |> bo fun r1 =>
  (apL r1.2 1 1 r1.1 t0) |> bo fun r2 =>
  retK m.length r2.2 [t0] r2.1
 | _, _ => none
noncomputable def C_spec_l1Copy : List Value → Mem → Option VM := icall X_spec_l1Copy
@[simp] theorem c_spec_l1Copy : C_spec_l1Copy = icall X_spec_l1Copy := (rfl)
theorem cok_spec_l1Copy : codeOk CT Try.f94 (Try.f94.body.get rfl) = true := by kernel_rfl
theorem xe_spec_l1Copy (t0 : Value) (m : Mem) : ex CT cf_spec_l1Copy Try.f94 1 m.length [] (fun _ _ _ => none) 400 [.code (Try.f94.body.get rfl)] (argsT 0 [t0]) m = X_spec_l1Copy [t0] m := by kernel_rfl
theorem okc_spec_l1Copy : CallOK CT cf_spec_l1Copy := cfn_ok
theorem ok_X_spec_l1Copy : OkX CT 94 X_spec_l1Copy := OkX.of_ex (cf := cf_spec_l1Copy) (np := 1) (LL := []) (J := (fun _ _ _ _ => none)) CT_ok rfl Try.func94 rfl (Nat.le_of_ble_eq_true rfl) (by decide) cok_spec_l1Copy okc_spec_l1Copy (fun k => noLoops rfl) (fun args m r h => match args, h with
  | [t0], h => ⟨rfl, (xe_spec_l1Copy t0 m).trans h⟩)
theorem ok_C_spec_l1Copy : OkC CT 94 C_spec_l1Copy := icall_ok rfl ok_X_spec_l1Copy
noncomputable def Cf_spec_l1Copy : List Value → Mem → Option VM := fcall X_spec_l1Copy
@[simp] theorem cCf_spec_l1Copy : Cf_spec_l1Copy = fcall X_spec_l1Copy := (rfl)
theorem ok_Cf_spec_l1Copy : OkC CT 94 Cf_spec_l1Copy := fcall_ok rfl ok_X_spec_l1Copy
noncomputable def Cy_spec_l1Copy : List Value → Mem → Option VM := ycall X_spec_l1Copy
@[simp] theorem cCy_spec_l1Copy : Cy_spec_l1Copy = ycall X_spec_l1Copy := (rfl)
theorem ok_Cy_spec_l1Copy : OkC CT 94 Cy_spec_l1Copy := ycall_ok rfl ok_X_spec_l1Copy
noncomputable def cf_spec_l11Copy : CallF := cfc 94 Cy_spec_l1Copy cfn
noncomputable def L_spec_l11Copy (k : Nat) : Nat → Nat → List Value → Mem → Option VM
 | q + 1, 0, [t0, t1, t2, t3, t4], m =>
  (fadX 0 t1) |> bo fun t14 =>
  (ld1 m t14) |> bo fun t15 =>
  (lenX t15) |> bo fun t16 =>
  (binX .lss .no t4 t16) |> bo fun t17 =>
  brX t17
   (
    (fadX 0 t3) |> bo fun t20 =>
    (ld1 m t20) |> bo fun t21 =>
    (fadX 0 t1) |> bo fun t22 =>
    (ld1 m t22) |> bo fun t23 =>
    (ixaX 1 t23 t4) |> bo fun t25 =>
    (ld1 m t25) |> bo fun t26 =>
    (Cy_spec_l1Copy [t26] m) |> bo fun r11 =>
    (bslX r11.2 1 1 [.slice none 0 0] [(0, 1, r11.1)]) |> bo fun r12 =>
    (apL r12.2 1 24 t21 r12.1) |> bo fun r13 =>
    (fadX 0 t3) |> bo fun t30 =>
    (stX r13.2 1 t30 r13.1) |> bo fun m15 =>
    gP (stbL [((rdN t20), m, r11.2)])
     (
      (binX .add .no t4 (.int .i64 1)) |> bo fun t19 =>
      cutK k m15 [t0] [t0, t1, t2, t3, t19] (L_spec_l11Copy k q 0)))
   (
    (ldS m 4 t3) |> bo fun t31 =>
    (stX m 4 t2 t31) |> bo fun m18 =>
    (resP (some 4) m18 t2) |> bo fun c19 =>
    retK k m18 [t0] c19)
 | _, _, _, _ => none
noncomputable def J_spec_l11Copy (k q l : Nat) : List Value → Mem → Option VM := cond (Nat.beq l 3) (L_spec_l11Copy k q 0) (fun _ _ => none)
def LL_spec_l11Copy : List (Nat × List Tmp) := [(3, [0, 1, 2, 3, 4])]
noncomputable def X_spec_l11Copy : List Value → Mem → Option VM
 | [t0], m =>
  (boxX m t0) |> bo fun r1 =>
  (alX r1.2 [.slice none 0 0, .slice none 0 0, .bool false, .int .i64 0]) |> bo fun r2 =>
  (fadX 1 r1.1) |> bo fun t5 =>
  (ld1 r2.2 t5) |> bo fun t6 =>
  (Cy_spec_l1Copy [t6] r2.2) |> bo fun r5 =>
  (fadX 2 r1.1) |> bo fun t8 =>
  (ld1 r5.2 t8) |> bo fun t9 =>
  (fadX 3 r1.1) |> bo fun t10 =>
  (ld1 r5.2 t10) |> bo fun t11 =>
  (bldX [.slice none 0 0, .slice none 0 0, .bool false, .int .i64 0] [(1, 1, r5.1), (2, 1, t9), (3, 1, t11)]) |> bo fun t12 =>
  (alX r5.2 [.slice none 0 0, .slice none 0 0, .bool false, .int .i64 0]) |> bo fun r11 =>
  (stX r11.2 4 r11.1 t12) |> bo fun m12 =>
  gP (stbL [((rdN t8), r2.2, r5.2), ((rdN t10), r2.2, r5.2)])
   (
    cutK m.length m12 [t0] [t0, r1.1, r2.1, r11.1, (.int .i64 0)] (L_spec_l11Copy m.length QQ 0))
 | _, _ => none
noncomputable def C_spec_l11Copy : List Value → Mem → Option VM := rcall X_spec_l11Copy
@[simp] theorem c_spec_l11Copy : C_spec_l11Copy = rcall X_spec_l11Copy := (rfl)
theorem cok_spec_l11Copy : codeOk CT Try.f50 (Try.f50.body.get rfl) = true := by kernel_rfl
theorem xe_spec_l11Copy (t0 : Value) (m : Mem) : ex CT cf_spec_l11Copy Try.f50 1 m.length LL_spec_l11Copy (J_spec_l11Copy m.length QQ) 400 [.code (Try.f50.body.get rfl)] (argsT 0 [t0]) m = X_spec_l11Copy [t0] m := by kernel_rfl
theorem okc_spec_l11Copy : CallOK CT cf_spec_l11Copy := cfc_ok ok_Cy_spec_l1Copy cfn_ok
theorem le_spec_l11Copy_0 (k q : Nat) (t0 t1 t2 t3 t4 : Value) (m : Mem) : ex CT cf_spec_l11Copy Try.f50 1 k LL_spec_l11Copy (J_spec_l11Copy k q) 400 (atLoop Try.f50 0) [(0, t0), (1, t1), (2, t2), (3, t3), (4, t4)] m = J_spec_l11Copy k (q + 1) 3 [t0, t1, t2, t3, t4] m := by kernel_rfl
theorem gl_spec_l11Copy (k : Nat) : ∀ q i, i < 1 → GoodL CT k Try.f50 LL_spec_l11Copy (J_spec_l11Copy k q) (atLoop Try.f50 i)
 | 0, 0, _ => goodL_zero (l := 3) (by kernel_rfl) (fun vs m => by kernel_rfl)
 | 0, _ + 1, h => absurd h (by omega)
 | q + 1, 0, _ => goodL_succ (np := 1) (l := 3) (live := [0, 1, 2, 3, 4]) (n := 1) CT_ok rfl okc_spec_l11Copy (c := (Try.f50.body.get rfl)) rfl cok_spec_l11Copy (by kernel_rfl) (gl_spec_l11Copy k q) (by kernel_rfl) rfl (fun vs m r hl h => match vs, hl with
  | [t0, t1, t2, t3, t4], _ => (le_spec_l11Copy_0 k q t0 t1 t2 t3 t4 m).trans h)
 | _ + 1, _ + 1, h => absurd h (by omega)
theorem ok_X_spec_l11Copy : OkX CT 50 X_spec_l11Copy := OkX.of_ex (cf := cf_spec_l11Copy) (np := 1) (LL := LL_spec_l11Copy) (J := (fun k => J_spec_l11Copy k QQ)) CT_ok rfl Try.func50 rfl (Nat.le_of_ble_eq_true rfl) (by decide) cok_spec_l11Copy okc_spec_l11Copy (fun k => allLoops rfl (by kernel_rfl) (gl_spec_l11Copy k QQ)) (fun args m r h => match args, h with
  | [t0], h => ⟨rfl, (xe_spec_l11Copy t0 m).trans h⟩)
theorem ok_C_spec_l11Copy : OkC CT 50 C_spec_l11Copy := rcall_ok rfl ok_X_spec_l11Copy
noncomputable def cf_spec_l10Has : CallF := cfn
noncomputable def X_spec_l10Has : List Value → Mem → Option VM
 | [t0, t1], m =>
  (nilX t0) |> bo fun t6 =>
  (fadX 0 t6) |> bo fun t7 =>
  (ld1 m t7) |> bo fun t8 =>
  (binX .and .no t8 t1) |> bo fun t10 =>
  (binX .neq .no t10 (.int .i64 0)) |> bo fun t11 =>
  retK m.length m [t0, t1] t11
 | _, _ => none
noncomputable def C_spec_l10Has : List Value → Mem → Option VM := fcall X_spec_l10Has
@[simp] theorem c_spec_l10Has : C_spec_l10Has = fcall X_spec_l10Has := (rfl)
theorem cok_spec_l10Has : codeOk CT Try.f96 (Try.f96.body.get rfl) = true := by kernel_rfl
theorem xe_spec_l10Has (t0 t1 : Value) (m : Mem) : ex CT cf_spec_l10Has Try.f96 2 m.length [] (fun _ _ _ => none) 400 [.code (Try.f96.body.get rfl)] (argsT 0 [t0, t1]) m = X_spec_l10Has [t0, t1] m := by kernel_rfl
theorem okc_spec_l10Has : CallOK CT cf_spec_l10Has := cfn_ok
theorem ok_X_spec_l10Has : OkX CT 96 X_spec_l10Has := OkX.of_ex (cf := cf_spec_l10Has) (np := 2) (LL := []) (J := (fun _ _ _ _ => none)) CT_ok rfl Try.func96 rfl (Nat.le_of_ble_eq_true rfl) (by decide) cok_spec_l10Has okc_spec_l10Has (fun k => noLoops rfl) (fun args m r h => match args, h with
  | [t0, t1], h => ⟨rfl, (xe_spec_l10Has t0 t1 m).trans h⟩)
theorem ok_C_spec_l10Has : OkC CT 96 C_spec_l10Has := fcall_ok rfl ok_X_spec_l10Has
noncomputable def cf_spec_l10Hidden : CallF := cfn
noncomputable def X_spec_l10Hidden : List Value → Mem → Option VM
 | [t0], m =>
  (binX .lss .no t0 (.int .u8 32)) |> bo fun t4 =>
  (gd t4 true (some (t0, m)) m) |> bo fun r2 =>
  (gd t4 true ((binX .neq .no r2.1 (.int .u8 9)) |> bo fun v => some (v, r2.2)) r2.2) |> bo fun r3 =>
  (pickX t4 r3.1 (.bool false)) |> bo fun t8 =>
  (gd t8 true (some (t0, r3.2)) r3.2) |> bo fun r5 =>
  (gd t8 true ((binX .neq .no r5.1 (.int .u8 10)) |> bo fun v => some (v, r5.2)) r5.2) |> bo fun r6 =>
  (pickX t8 r6.1 (.bool false)) |> bo fun t12 =>
  (gd t12 false (some (t0, r6.2)) r6.2) |> bo fun r8 =>
  (gd t12 false ((binX .eql .no r8.1 (.int .u8 127)) |> bo fun v => some (v, r8.2)) r8.2) |> bo fun r9 =>
  (pickX t12 (.bool true) r9.1) |> bo fun t16 =>
  retK m.length r9.2 [t0] t16
 | _, _ => none
noncomputable def C_spec_l10Hidden : List Value → Mem → Option VM := fcall X_spec_l10Hidden
@[simp] theorem c_spec_l10Hidden : C_spec_l10Hidden = fcall X_spec_l10Hidden := (rfl)
theorem cok_spec_l10Hidden : codeOk CT Try.f185 (Try.f185.body.get rfl) = true := by kernel_rfl
theorem xe_spec_l10Hidden (t0 : Value) (m : Mem) : ex CT cf_spec_l10Hidden Try.f185 1 m.length [] (fun _ _ _ => none) 400 [.code (Try.f185.body.get rfl)] (argsT 0 [t0]) m = X_spec_l10Hidden [t0] m := by kernel_rfl
theorem okc_spec_l10Hidden : CallOK CT cf_spec_l10Hidden := cfn_ok
theorem ok_X_spec_l10Hidden : OkX CT 185 X_spec_l10Hidden := OkX.of_ex (cf := cf_spec_l10Hidden) (np := 1) (LL := []) (J := (fun _ _ _ _ => none)) CT_ok rfl Try.func185 rfl (Nat.le_of_ble_eq_true rfl) (by decide) cok_spec_l10Hidden okc_spec_l10Hidden (fun k => noLoops rfl) (fun args m r h => match args, h with
  | [t0], h => ⟨rfl, (xe_spec_l10Hidden t0 m).trans h⟩)
theorem ok_C_spec_l10Hidden : OkC CT 185 C_spec_l10Hidden := fcall_ok rfl ok_X_spec_l10Hidden
noncomputable def cf_spec_l10Shown : CallF := cfc 96 C_spec_l10Has (cfc 185 C_spec_l10Hidden cfn)
noncomputable def X_spec_l10Shown : List Value → Mem → Option VM
 | [t0, t1], m =>
  (C_spec_l10Has [t0, (.int .i64 16)] m) |> bo fun r1 =>
  (gd r1.1 true (some (t1, r1.2)) r1.2) |> bo fun r2 =>
  (gd r1.1 true ((C_spec_l10Hidden [r2.1] r2.2) |> bo fun r => some (r.1, r.2)) r2.2) |> bo fun r3 =>
  (pickX r1.1 r3.1 (.bool false)) |> bo fun t10 =>
  brX t10
   (
    (binX .xor .no t1 (.int .u8 64)) |> bo fun t12 =>
    (bslX r3.2 2 1 [.int .u8 0] [(0, 1, (.int .u8 94)), (1, 1, t12)]) |> bo fun r6 =>
    retK m.length r6.2 [t0, t1] r6.1)
   (
    (bslX r3.2 1 1 [.int .u8 0] [(0, 1, t1)]) |> bo fun r7 =>
    retK m.length r7.2 [t0, t1] r7.1)
 | _, _ => none
noncomputable def C_spec_l10Shown : List Value → Mem → Option VM := fcall X_spec_l10Shown
@[simp] theorem c_spec_l10Shown : C_spec_l10Shown = fcall X_spec_l10Shown := (rfl)
theorem cok_spec_l10Shown : codeOk CT Try.f140 (Try.f140.body.get rfl) = true := by kernel_rfl
theorem xe_spec_l10Shown (t0 t1 : Value) (m : Mem) : ex CT cf_spec_l10Shown Try.f140 2 m.length [] (fun _ _ _ => none) 400 [.code (Try.f140.body.get rfl)] (argsT 0 [t0, t1]) m = X_spec_l10Shown [t0, t1] m := by kernel_rfl
theorem okc_spec_l10Shown : CallOK CT cf_spec_l10Shown := cfc_ok ok_C_spec_l10Has (cfc_ok ok_C_spec_l10Hidden cfn_ok)
theorem ok_X_spec_l10Shown : OkX CT 140 X_spec_l10Shown := OkX.of_ex (cf := cf_spec_l10Shown) (np := 2) (LL := []) (J := (fun _ _ _ _ => none)) CT_ok rfl Try.func140 rfl (Nat.le_of_ble_eq_true rfl) (by decide) cok_spec_l10Shown okc_spec_l10Shown (fun k => noLoops rfl) (fun args m r h => match args, h with
  | [t0, t1], h => ⟨rfl, (xe_spec_l10Shown t0 t1 m).trans h⟩)
theorem ok_C_spec_l10Shown : OkC CT 140 C_spec_l10Shown := fcall_ok rfl ok_X_spec_l10Shown
noncomputable def cf_spec_l11Echo : CallF := cfc 96 C_spec_l10Has (cfc 140 C_spec_l10Shown cfn)
noncomputable def X_spec_l11Echo : List Value → Mem → Option VM
 | [t0, t1], m =>
  (C_spec_l10Has [t0, (.int .i64 2)] m) |> bo fun r1 =>
  brX r1.1
   (
    (C_spec_l10Shown [t0, t1] r1.2) |> bo fun r2 =>
    retK m.length r2.2 [t0, t1] r2.1)
   (
    (bslX r1.2 0 1 [.int .u8 0] []) |> bo fun r3 =>
    retK m.length r3.2 [t0, t1] r3.1)
 | _, _ => none
noncomputable def C_spec_l11Echo : List Value → Mem → Option VM := fcall X_spec_l11Echo
@[simp] theorem c_spec_l11Echo : C_spec_l11Echo = fcall X_spec_l11Echo := (rfl)
theorem cok_spec_l11Echo : codeOk CT Try.f99 (Try.f99.body.get rfl) = true := by kernel_rfl
theorem xe_spec_l11Echo (t0 t1 : Value) (m : Mem) : ex CT cf_spec_l11Echo Try.f99 2 m.length [] (fun _ _ _ => none) 400 [.code (Try.f99.body.get rfl)] (argsT 0 [t0, t1]) m = X_spec_l11Echo [t0, t1] m := by kernel_rfl
theorem okc_spec_l11Echo : CallOK CT cf_spec_l11Echo := cfc_ok ok_C_spec_l10Has (cfc_ok ok_C_spec_l10Shown cfn_ok)
theorem ok_X_spec_l11Echo : OkX CT 99 X_spec_l11Echo := OkX.of_ex (cf := cf_spec_l11Echo) (np := 2) (LL := []) (J := (fun _ _ _ _ => none)) CT_ok rfl Try.func99 rfl (Nat.le_of_ble_eq_true rfl) (by decide) cok_spec_l11Echo okc_spec_l11Echo (fun k => noLoops rfl) (fun args m r h => match args, h with
  | [t0, t1], h => ⟨rfl, (xe_spec_l11Echo t0 t1 m).trans h⟩)
theorem ok_C_spec_l11Echo : OkC CT 99 C_spec_l11Echo := fcall_ok rfl ok_X_spec_l11Echo
noncomputable def cf_spec_l11Take : CallF := cfc 99 C_spec_l11Echo (cfc 139 C_spec_l11Size cfn)
noncomputable def X_spec_l11Take : List Value → Mem → Option VM
 | [t0, t1, t2], m =>
  (C_spec_l11Size [t1] m) |> bo fun r1 =>
  (binX .add .no r1.1 (.int .i64 2)) |> bo fun t9 =>
  (binX .gtr .no t9 (.int .i64 40)) |> bo fun t10 =>
  brX t10
   (
    (bslX r1.2 0 1 [.int .u8 0] []) |> bo fun r4 =>
    retK m.length r4.2 [t0, t1, t2] r4.1)
   (
    (nilX t1) |> bo fun t14 =>
    (fadX 1 t14) |> bo fun t15 =>
    (ld1 r1.2 t15) |> bo fun t16 =>
    (bslX r1.2 1 1 [.int .u8 0] [(0, 1, t2)]) |> bo fun r8 =>
    (apL r8.2 1 1 t16 r8.1) |> bo fun r9 =>
    (nilX t1) |> bo fun t20 =>
    (fadX 1 t20) |> bo fun t21 =>
    (stX r9.2 1 t21 r9.1) |> bo fun m12 =>
    (C_spec_l11Echo [t0, t2] m12) |> bo fun r13 =>
    retK m.length r13.2 [t0, t1, t2] r13.1)
 | _, _ => none
noncomputable def C_spec_l11Take : List Value → Mem → Option VM := rcall X_spec_l11Take
@[simp] theorem c_spec_l11Take : C_spec_l11Take = rcall X_spec_l11Take := (rfl)
theorem cok_spec_l11Take : codeOk CT Try.f95 (Try.f95.body.get rfl) = true := by kernel_rfl
theorem xe_spec_l11Take (t0 t1 t2 : Value) (m : Mem) : ex CT cf_spec_l11Take Try.f95 3 m.length [] (fun _ _ _ => none) 400 [.code (Try.f95.body.get rfl)] (argsT 0 [t0, t1, t2]) m = X_spec_l11Take [t0, t1, t2] m := by kernel_rfl
theorem okc_spec_l11Take : CallOK CT cf_spec_l11Take := cfc_ok ok_C_spec_l11Echo (cfc_ok ok_C_spec_l11Size cfn_ok)
theorem ok_X_spec_l11Take : OkX CT 95 X_spec_l11Take := OkX.of_ex (cf := cf_spec_l11Take) (np := 3) (LL := []) (J := (fun _ _ _ _ => none)) CT_ok rfl Try.func95 rfl (Nat.le_of_ble_eq_true rfl) (by decide) cok_spec_l11Take okc_spec_l11Take (fun k => noLoops rfl) (fun args m r h => match args, h with
  | [t0, t1, t2], h => ⟨rfl, (xe_spec_l11Take t0 t1 t2 m).trans h⟩)
theorem ok_C_spec_l11Take : OkC CT 95 C_spec_l11Take := rcall_ok rfl ok_X_spec_l11Take
noncomputable def cf_spec_l11Is : CallF := cfn
noncomputable def X_spec_l11Is : List Value → Mem → Option VM
 | [t0, t1], m =>
  (binX .neq .no t0 (.int .i64 0)) |> bo fun t6 =>
  (gd t6 true (some (t0, m)) m) |> bo fun r2 =>
  (gd t6 true (some (t1, r2.2)) r2.2) |> bo fun r3 =>
  (gd t6 true ((cvI .i64 r3.1) |> bo fun v => some (v, r3.2)) r3.2) |> bo fun r4 =>
  (gd t6 true ((binX .eql .no r2.1 r4.1) |> bo fun v => some (v, r4.2)) r4.2) |> bo fun r5 =>
  (pickX t6 r5.1 (.bool false)) |> bo fun t12 =>
  retK m.length r5.2 [t0, t1] t12
 | _, _ => none
noncomputable def C_spec_l11Is : List Value → Mem → Option VM := fcall X_spec_l11Is
@[simp] theorem c_spec_l11Is : C_spec_l11Is = fcall X_spec_l11Is := (rfl)
theorem cok_spec_l11Is : codeOk CT Try.f97 (Try.f97.body.get rfl) = true := by kernel_rfl
theorem xe_spec_l11Is (t0 t1 : Value) (m : Mem) : ex CT cf_spec_l11Is Try.f97 2 m.length [] (fun _ _ _ => none) 400 [.code (Try.f97.body.get rfl)] (argsT 0 [t0, t1]) m = X_spec_l11Is [t0, t1] m := by kernel_rfl
theorem okc_spec_l11Is : CallOK CT cf_spec_l11Is := cfn_ok
theorem ok_X_spec_l11Is : OkX CT 97 X_spec_l11Is := OkX.of_ex (cf := cf_spec_l11Is) (np := 2) (LL := []) (J := (fun _ _ _ _ => none)) CT_ok rfl Try.func97 rfl (Nat.le_of_ble_eq_true rfl) (by decide) cok_spec_l11Is okc_spec_l11Is (fun k => noLoops rfl) (fun args m r h => match args, h with
  | [t0, t1], h => ⟨rfl, (xe_spec_l11Is t0 t1 m).trans h⟩)
theorem ok_C_spec_l11Is : OkC CT 97 C_spec_l11Is := fcall_ok rfl ok_X_spec_l11Is
noncomputable def cf_spec_l1Min : CallF := cfn
noncomputable def X_spec_l1Min : List Value → Mem → Option VM
 | [t0, t1], m =>
  (binX .lss .no t0 t1) |> bo fun t7 =>
  brX t7
   (
    retK m.length m [t0, t1] t0)
   (
    retK m.length m [t0, t1] t1)
 | _, _ => none
noncomputable def C_spec_l1Min : List Value → Mem → Option VM := fcall X_spec_l1Min
@[simp] theorem c_spec_l1Min : C_spec_l1Min = fcall X_spec_l1Min := (rfl)
theorem cok_spec_l1Min : codeOk CT Try.f98 (Try.f98.body.get rfl) = true := by kernel_rfl
theorem xe_spec_l1Min (t0 t1 : Value) (m : Mem) : ex CT cf_spec_l1Min Try.f98 2 m.length [] (fun _ _ _ => none) 400 [.code (Try.f98.body.get rfl)] (argsT 0 [t0, t1]) m = X_spec_l1Min [t0, t1] m := by kernel_rfl
theorem okc_spec_l1Min : CallOK CT cf_spec_l1Min := cfn_ok
theorem ok_X_spec_l1Min : OkX CT 98 X_spec_l1Min := OkX.of_ex (cf := cf_spec_l1Min) (np := 2) (LL := []) (J := (fun _ _ _ _ => none)) CT_ok rfl Try.func98 rfl (Nat.le_of_ble_eq_true rfl) (by decide) cok_spec_l1Min okc_spec_l1Min (fun k => noLoops rfl) (fun args m r h => match args, h with
  | [t0, t1], h => ⟨rfl, (xe_spec_l1Min t0 t1 m).trans h⟩)
theorem ok_C_spec_l1Min : OkC CT 98 C_spec_l1Min := fcall_ok rfl ok_X_spec_l1Min
noncomputable def cf_spec_l11Raw : CallF := cfc 99 C_spec_l11Echo (cfc 139 C_spec_l11Size cfn)
noncomputable def X_spec_l11Raw : List Value → Mem → Option VM
 | [t0, t1, t2], m =>
  (nilX t1) |> bo fun t8 =>
  (fadX 0 t8) |> bo fun t9 =>
  (ld1 m t9) |> bo fun t10 =>
  (lenX t10) |> bo fun t11 =>
  (binX .geq .no t11 (.int .i64 40)) |> bo fun t12 =>
  (gd t12 false (some (t1, m)) m) |> bo fun r6 =>
  (gd t12 false ((C_spec_l11Size [r6.1] r6.2) |> bo fun r => some (r.1, r.2)) r6.2) |> bo fun r7 =>
  (gd t12 false ((binX .geq .no r7.1 (.int .i64 40)) |> bo fun v => some (v, r7.2)) r7.2) |> bo fun r8 =>
  (pickX t12 (.bool true) r8.1) |> bo fun t17 =>
  brX t17
   (
    (bslX r8.2 0 1 [.int .u8 0] []) |> bo fun r10 =>
    retK m.length r10.2 [t0, t1, t2] r10.1)
   (
    (nilX t1) |> bo fun t21 =>
    (fadX 0 t21) |> bo fun t22 =>
    (ld1 r8.2 t22) |> bo fun t23 =>
    (bslX r8.2 1 1 [.int .u8 0] [(0, 1, t2)]) |> bo fun r14 =>
    (bslX r14.2 1 1 [.slice none 0 0] [(0, 1, r14.1)]) |> bo fun r15 =>
    (apL r15.2 1 24 t23 r15.1) |> bo fun r16 =>
    (nilX t1) |> bo fun t28 =>
    (fadX 0 t28) |> bo fun t29 =>
    (stX r16.2 1 t29 r16.1) |> bo fun m19 =>
    (C_spec_l11Echo [t0, t2] m19) |> bo fun r20 =>
    retK m.length r20.2 [t0, t1, t2] r20.1)
 | _, _ => none
noncomputable def C_spec_l11Raw : List Value → Mem → Option VM := zcall X_spec_l11Raw
@[simp] theorem c_spec_l11Raw : C_spec_l11Raw = zcall X_spec_l11Raw := (rfl)
theorem cok_spec_l11Raw : codeOk CT Try.f100 (Try.f100.body.get rfl) = true := by kernel_rfl
theorem xe_spec_l11Raw (t0 t1 t2 : Value) (m : Mem) : ex CT cf_spec_l11Raw Try.f100 3 m.length [] (fun _ _ _ => none) 400 [.code (Try.f100.body.get rfl)] (argsT 0 [t0, t1, t2]) m = X_spec_l11Raw [t0, t1, t2] m := by kernel_rfl
theorem okc_spec_l11Raw : CallOK CT cf_spec_l11Raw := cfc_ok ok_C_spec_l11Echo (cfc_ok ok_C_spec_l11Size cfn_ok)
theorem ok_X_spec_l11Raw : OkX CT 100 X_spec_l11Raw := OkX.of_ex (cf := cf_spec_l11Raw) (np := 3) (LL := []) (J := (fun _ _ _ _ => none)) CT_ok rfl Try.func100 rfl (Nat.le_of_ble_eq_true rfl) (by decide) cok_spec_l11Raw okc_spec_l11Raw (fun k => noLoops rfl) (fun args m r h => match args, h with
  | [t0, t1, t2], h => ⟨rfl, (xe_spec_l11Raw t0 t1 t2 m).trans h⟩)
theorem ok_C_spec_l11Raw : OkC CT 100 C_spec_l11Raw := zcall_ok rfl ok_X_spec_l11Raw
noncomputable def cf_spec_l11Last : CallF := cfn
noncomputable def L_spec_l11Last (k : Nat) : Nat → Nat → List Value → Mem → Option VM
 | q + 1, 0, [t0, t3], m =>
  (binX .gtr .no t3 (.int .i64 0)) |> bo fun t8 =>
  (gd t8 true (some (t0, m)) m) |> bo fun r2 =>
  (gd t8 true (some (t3, r2.2)) r2.2) |> bo fun r3 =>
  (gd t8 true ((ixaX 1 r2.1 r3.1) |> bo fun v => some (v, r3.2)) r3.2) |> bo fun r4 =>
  (gd t8 true ((ld1 r4.2 r4.1) |> bo fun v => some (v, r4.2)) r4.2) |> bo fun r5 =>
  (gd t8 true ((binX .geq .no r5.1 (.int .u8 128)) |> bo fun v => some (v, r5.2)) r5.2) |> bo fun r6 =>
  (pickX t8 r6.1 (.bool false)) |> bo fun t15 =>
  (gd t15 true (some (t0, r6.2)) r6.2) |> bo fun r8 =>
  (gd t15 true (some (t3, r8.2)) r8.2) |> bo fun r9 =>
  (gd t15 true ((ixaX 1 r8.1 r9.1) |> bo fun v => some (v, r9.2)) r9.2) |> bo fun r10 =>
  (gd t15 true ((ld1 r10.2 r10.1) |> bo fun v => some (v, r10.2)) r10.2) |> bo fun r11 =>
  (gd t15 true ((binX .leq .no r11.1 (.int .u8 191)) |> bo fun v => some (v, r11.2)) r11.2) |> bo fun r12 =>
  (pickX t15 r12.1 (.bool false)) |> bo fun t22 =>
  brX t22
   (
    (binX .sub .no t3 (.int .i64 1)) |> bo fun t24 =>
    cutK k r12.2 [t0] [t0, t24] (L_spec_l11Last k q 0))
   (
    retK k r12.2 [t0] t3)
 | _, _, _, _ => none
noncomputable def J_spec_l11Last (k q l : Nat) : List Value → Mem → Option VM := cond (Nat.beq l 2) (L_spec_l11Last k q 0) (fun _ _ => none)
def LL_spec_l11Last : List (Nat × List Tmp) := [(2, [0, 3])]
noncomputable def X_spec_l11Last : List Value → Mem → Option VM
 | [t0], m =>
  (lenX t0) |> bo fun t5 =>
  (binX .sub .no t5 (.int .i64 1)) |> bo fun t6 =>
  cutK m.length m [t0] [t0, t6] (L_spec_l11Last m.length QQ 0)
 | _, _ => none
noncomputable def C_spec_l11Last : List Value → Mem → Option VM := fcall X_spec_l11Last
@[simp] theorem c_spec_l11Last : C_spec_l11Last = fcall X_spec_l11Last := (rfl)
theorem cok_spec_l11Last : codeOk CT Try.f217 (Try.f217.body.get rfl) = true := by kernel_rfl
theorem xe_spec_l11Last (t0 : Value) (m : Mem) : ex CT cf_spec_l11Last Try.f217 1 m.length LL_spec_l11Last (J_spec_l11Last m.length QQ) 400 [.code (Try.f217.body.get rfl)] (argsT 0 [t0]) m = X_spec_l11Last [t0] m := by kernel_rfl
theorem okc_spec_l11Last : CallOK CT cf_spec_l11Last := cfn_ok
theorem le_spec_l11Last_0 (k q : Nat) (t0 t3 : Value) (m : Mem) : ex CT cf_spec_l11Last Try.f217 1 k LL_spec_l11Last (J_spec_l11Last k q) 400 (atLoop Try.f217 0) [(0, t0), (3, t3)] m = J_spec_l11Last k (q + 1) 2 [t0, t3] m := by kernel_rfl
theorem gl_spec_l11Last (k : Nat) : ∀ q i, i < 1 → GoodL CT k Try.f217 LL_spec_l11Last (J_spec_l11Last k q) (atLoop Try.f217 i)
 | 0, 0, _ => goodL_zero (l := 2) (by kernel_rfl) (fun vs m => by kernel_rfl)
 | 0, _ + 1, h => absurd h (by omega)
 | q + 1, 0, _ => goodL_succ (np := 1) (l := 2) (live := [0, 3]) (n := 1) CT_ok rfl okc_spec_l11Last (c := (Try.f217.body.get rfl)) rfl cok_spec_l11Last (by kernel_rfl) (gl_spec_l11Last k q) (by kernel_rfl) rfl (fun vs m r hl h => match vs, hl with
  | [t0, t3], _ => (le_spec_l11Last_0 k q t0 t3 m).trans h)
 | _ + 1, _ + 1, h => absurd h (by omega)
theorem ok_X_spec_l11Last : OkX CT 217 X_spec_l11Last := OkX.of_ex (cf := cf_spec_l11Last) (np := 1) (LL := LL_spec_l11Last) (J := (fun k => J_spec_l11Last k QQ)) CT_ok rfl Try.func217 rfl (Nat.le_of_ble_eq_true rfl) (by decide) cok_spec_l11Last okc_spec_l11Last (fun k => allLoops rfl (by kernel_rfl) (gl_spec_l11Last k QQ)) (fun args m r h => match args, h with
  | [t0], h => ⟨rfl, (xe_spec_l11Last t0 m).trans h⟩)
theorem ok_C_spec_l11Last : OkC CT 217 C_spec_l11Last := fcall_ok rfl ok_X_spec_l11Last
noncomputable def cf_spec_l11Drop : CallF := cfc 96 C_spec_l10Has (cfc 185 C_spec_l10Hidden (cfc 217 C_spec_l11Last cfn))
noncomputable def X_spec_l11Drop : List Value → Mem → Option VM
 | [t0, t1], m =>
  (nilX t1) |> bo fun t8 =>
  (fadX 1 t8) |> bo fun t9 =>
  (ld1 m t9) |> bo fun t10 =>
  (C_spec_l11Last [t10] m) |> bo fun r4 =>
  (nilX t1) |> bo fun t13 =>
  (fadX 1 t13) |> bo fun t14 =>
  (ld1 r4.2 t14) |> bo fun t15 =>
  (ixaX 1 t15 r4.1) |> bo fun t17 =>
  (ld1 r4.2 t17) |> bo fun t18 =>
  (nilX t1) |> bo fun t21 =>
  (fadX 1 t21) |> bo fun t22 =>
  (ld1 r4.2 t22) |> bo fun t23 =>
  (slX r4.2 1 t23 none (some r4.1)) |> bo fun t25 =>
  (nilX t1) |> bo fun t26 =>
  (fadX 1 t26) |> bo fun t27 =>
  (stX r4.2 1 t27 t25) |> bo fun m16 =>
  (C_spec_l10Has [t0, (.int .i64 2)] m16) |> bo fun r17 =>
  (uop .not r17.1) |> bo fun t30 =>
  (gd t30 false (some (t0, r17.2)) r17.2) |> bo fun r19 =>
  (gd t30 false ((C_spec_l10Has [r19.1, (.int .i64 4)] r19.2) |> bo fun r => some (r.1, r.2)) r19.2) |> bo fun r20 =>
  (gd t30 false ((uop .not r20.1) |> bo fun v => some (v, r20.2)) r20.2) |> bo fun r21 =>
  (pickX t30 (.bool true) r21.1) |> bo fun t35 =>
  brX t35
   (
    (bslX r21.2 0 1 [.int .u8 0] []) |> bo fun r23 =>
    retK m.length r23.2 [t0, t1] r23.1)
   (
    (C_spec_l10Has [t0, (.int .i64 16)] r21.2) |> bo fun r24 =>
    (gd r24.1 true (some (t18, r24.2)) r24.2) |> bo fun r25 =>
    (gd r24.1 true ((C_spec_l10Hidden [r25.1] r25.2) |> bo fun r => some (r.1, r.2)) r25.2) |> bo fun r26 =>
    (pickX r24.1 r26.1 (.bool false)) |> bo fun t42 =>
    brX t42
     (
      (bslX r26.2 6 1 [.int .u8 0] [(0, 1, (.int .u8 8)), (1, 1, (.int .u8 32)), (2, 1, (.int .u8 8)), (3, 1, (.int .u8 8)), (4, 1, (.int .u8 32)), (5, 1, (.int .u8 8))]) |> bo fun r28 =>
      retK m.length r28.2 [t0, t1] r28.1)
     (
      (bslX r26.2 3 1 [.int .u8 0] [(0, 1, (.int .u8 8)), (1, 1, (.int .u8 32)), (2, 1, (.int .u8 8))]) |> bo fun r29 =>
      retK m.length r29.2 [t0, t1] r29.1))
 | _, _ => none
noncomputable def C_spec_l11Drop : List Value → Mem → Option VM := rcall X_spec_l11Drop
@[simp] theorem c_spec_l11Drop : C_spec_l11Drop = rcall X_spec_l11Drop := (rfl)
theorem cok_spec_l11Drop : codeOk CT Try.f186 (Try.f186.body.get rfl) = true := by kernel_rfl
theorem xe_spec_l11Drop (t0 t1 : Value) (m : Mem) : ex CT cf_spec_l11Drop Try.f186 2 m.length [] (fun _ _ _ => none) 400 [.code (Try.f186.body.get rfl)] (argsT 0 [t0, t1]) m = X_spec_l11Drop [t0, t1] m := by kernel_rfl
theorem okc_spec_l11Drop : CallOK CT cf_spec_l11Drop := cfc_ok ok_C_spec_l10Has (cfc_ok ok_C_spec_l10Hidden (cfc_ok ok_C_spec_l11Last cfn_ok))
theorem ok_X_spec_l11Drop : OkX CT 186 X_spec_l11Drop := OkX.of_ex (cf := cf_spec_l11Drop) (np := 2) (LL := []) (J := (fun _ _ _ _ => none)) CT_ok rfl Try.func186 rfl (Nat.le_of_ble_eq_true rfl) (by decide) cok_spec_l11Drop okc_spec_l11Drop (fun k => noLoops rfl) (fun args m r h => match args, h with
  | [t0, t1], h => ⟨rfl, (xe_spec_l11Drop t0 t1 m).trans h⟩)
theorem ok_C_spec_l11Drop : OkC CT 186 C_spec_l11Drop := rcall_ok rfl ok_X_spec_l11Drop
noncomputable def cf_spec_l11Word : CallF := cfc 186 C_spec_l11Drop cfn
noncomputable def L_spec_l11Word (k : Nat) : Nat → Nat → List Value → Mem → Option VM
 | q + 1, 0, [t0, t1, t5], m =>
  (nilX t1) |> bo fun t8 =>
  (fadX 1 t8) |> bo fun t9 =>
  (ld1 m t9) |> bo fun t10 =>
  (lenX t10) |> bo fun t11 =>
  (binX .gtr .no t11 (.int .i64 0)) |> bo fun t12 =>
  (gd t12 true (some (t1, m)) m) |> bo fun r6 =>
  (gd t12 true ((nilX r6.1) |> bo fun v => some (v, r6.2)) r6.2) |> bo fun r7 =>
  (gd t12 true ((fadX 1 r7.1) |> bo fun v => some (v, r7.2)) r7.2) |> bo fun r8 =>
  (gd t12 true ((ld1 r8.2 r8.1) |> bo fun v => some (v, r8.2)) r8.2) |> bo fun r9 =>
  (gd t12 true (some (t1, r9.2)) r9.2) |> bo fun r10 =>
  (gd t12 true ((nilX r10.1) |> bo fun v => some (v, r10.2)) r10.2) |> bo fun r11 =>
  (gd t12 true ((fadX 1 r11.1) |> bo fun v => some (v, r11.2)) r11.2) |> bo fun r12 =>
  (gd t12 true ((ld1 r12.2 r12.1) |> bo fun v => some (v, r12.2)) r12.2) |> bo fun r13 =>
  (gd t12 true ((lenX r13.1) |> bo fun v => some (v, r13.2)) r13.2) |> bo fun r14 =>
  (gd t12 true ((binX .sub .no r14.1 (.int .i64 1)) |> bo fun v => some (v, r14.2)) r14.2) |> bo fun r15 =>
  (gd t12 true ((ixaX 1 r9.1 r15.1) |> bo fun v => some (v, r15.2)) r15.2) |> bo fun r16 =>
  (gd t12 true ((ld1 r16.2 r16.1) |> bo fun v => some (v, r16.2)) r16.2) |> bo fun r17 =>
  (gd t12 true ((binX .eql .no r17.1 (.int .u8 32)) |> bo fun v => some (v, r17.2)) r17.2) |> bo fun r18 =>
  (pickX t12 r18.1 (.bool false)) |> bo fun t27 =>
  brX t27
   (
    (C_spec_l11Drop [t0, t1] r18.2) |> bo fun r20 =>
    (apL r20.2 1 1 t5 r20.1) |> bo fun r21 =>
    cutK k r21.2 [t0, t1] [t0, t1, r21.1] (L_spec_l11Word k q 0))
   (
    cutK k r18.2 [t0, t1] [t0, t1, t5] (L_spec_l11Word k q 1))
 | q + 1, 1, [t0, t1, t5], m =>
  (nilX t1) |> bo fun t34 =>
  (fadX 1 t34) |> bo fun t35 =>
  (ld1 m t35) |> bo fun t36 =>
  (lenX t36) |> bo fun t37 =>
  (binX .gtr .no t37 (.int .i64 0)) |> bo fun t38 =>
  (gd t38 true (some (t1, m)) m) |> bo fun r6 =>
  (gd t38 true ((nilX r6.1) |> bo fun v => some (v, r6.2)) r6.2) |> bo fun r7 =>
  (gd t38 true ((fadX 1 r7.1) |> bo fun v => some (v, r7.2)) r7.2) |> bo fun r8 =>
  (gd t38 true ((ld1 r8.2 r8.1) |> bo fun v => some (v, r8.2)) r8.2) |> bo fun r9 =>
  (gd t38 true (some (t1, r9.2)) r9.2) |> bo fun r10 =>
  (gd t38 true ((nilX r10.1) |> bo fun v => some (v, r10.2)) r10.2) |> bo fun r11 =>
  (gd t38 true ((fadX 1 r11.1) |> bo fun v => some (v, r11.2)) r11.2) |> bo fun r12 =>
  (gd t38 true ((ld1 r12.2 r12.1) |> bo fun v => some (v, r12.2)) r12.2) |> bo fun r13 =>
  (gd t38 true ((lenX r13.1) |> bo fun v => some (v, r13.2)) r13.2) |> bo fun r14 =>
  (gd t38 true ((binX .sub .no r14.1 (.int .i64 1)) |> bo fun v => some (v, r14.2)) r14.2) |> bo fun r15 =>
  (gd t38 true ((ixaX 1 r9.1 r15.1) |> bo fun v => some (v, r15.2)) r15.2) |> bo fun r16 =>
  (gd t38 true ((ld1 r16.2 r16.1) |> bo fun v => some (v, r16.2)) r16.2) |> bo fun r17 =>
  (gd t38 true ((binX .neq .no r17.1 (.int .u8 32)) |> bo fun v => some (v, r17.2)) r17.2) |> bo fun r18 =>
  (pickX t38 r18.1 (.bool false)) |> bo fun t53 =>
  brX t53
   (
    (C_spec_l11Drop [t0, t1] r18.2) |> bo fun r20 =>
    (apL r20.2 1 1 t5 r20.1) |> bo fun r21 =>
    cutK k r21.2 [t0, t1] [t0, t1, r21.1] (L_spec_l11Word k q 1))
   (
    retK k r18.2 [t0, t1] t5)
 | _, _, _, _ => none
noncomputable def J_spec_l11Word (k q l : Nat) : List Value → Mem → Option VM := cond (Nat.beq l 2) (L_spec_l11Word k q 0) (cond (Nat.beq l 4) (L_spec_l11Word k q 1) (fun _ _ => none))
def LL_spec_l11Word : List (Nat × List Tmp) := [(2, [0, 1, 5]), (4, [0, 1, 5])]
noncomputable def X_spec_l11Word : List Value → Mem → Option VM
 | [t0, t1], m =>
  (bslX m 0 1 [.int .u8 0] []) |> bo fun r1 =>
  cutK m.length r1.2 [t0, t1] [t0, t1, r1.1] (L_spec_l11Word m.length QQ 0)
 | _, _ => none
noncomputable def C_spec_l11Word : List Value → Mem → Option VM := rcall X_spec_l11Word
@[simp] theorem c_spec_l11Word : C_spec_l11Word = rcall X_spec_l11Word := (rfl)
theorem cok_spec_l11Word : codeOk CT Try.f187 (Try.f187.body.get rfl) = true := by kernel_rfl
theorem xe_spec_l11Word (t0 t1 : Value) (m : Mem) : ex CT cf_spec_l11Word Try.f187 2 m.length LL_spec_l11Word (J_spec_l11Word m.length QQ) 400 [.code (Try.f187.body.get rfl)] (argsT 0 [t0, t1]) m = X_spec_l11Word [t0, t1] m := by kernel_rfl
theorem okc_spec_l11Word : CallOK CT cf_spec_l11Word := cfc_ok ok_C_spec_l11Drop cfn_ok
theorem le_spec_l11Word_0 (k q : Nat) (t0 t1 t5 : Value) (m : Mem) : ex CT cf_spec_l11Word Try.f187 2 k LL_spec_l11Word (J_spec_l11Word k q) 400 (atLoop Try.f187 0) [(0, t0), (1, t1), (5, t5)] m = J_spec_l11Word k (q + 1) 2 [t0, t1, t5] m := by kernel_rfl
theorem le_spec_l11Word_1 (k q : Nat) (t0 t1 t5 : Value) (m : Mem) : ex CT cf_spec_l11Word Try.f187 2 k LL_spec_l11Word (J_spec_l11Word k q) 400 (atLoop Try.f187 1) [(0, t0), (1, t1), (5, t5)] m = J_spec_l11Word k (q + 1) 4 [t0, t1, t5] m := by kernel_rfl
theorem gl_spec_l11Word (k : Nat) : ∀ q i, i < 2 → GoodL CT k Try.f187 LL_spec_l11Word (J_spec_l11Word k q) (atLoop Try.f187 i)
 | 0, 0, _ => goodL_zero (l := 2) (by kernel_rfl) (fun vs m => by kernel_rfl)
 | 0, 1, _ => goodL_zero (l := 4) (by kernel_rfl) (fun vs m => by kernel_rfl)
 | 0, _ + 2, h => absurd h (by omega)
 | q + 1, 0, _ => goodL_succ (np := 2) (l := 2) (live := [0, 1, 5]) (n := 2) CT_ok rfl okc_spec_l11Word (c := (Try.f187.body.get rfl)) rfl cok_spec_l11Word (by kernel_rfl) (gl_spec_l11Word k q) (by kernel_rfl) rfl (fun vs m r hl h => match vs, hl with
  | [t0, t1, t5], _ => (le_spec_l11Word_0 k q t0 t1 t5 m).trans h)
 | q + 1, 1, _ => goodL_succ (np := 2) (l := 4) (live := [0, 1, 5]) (n := 2) CT_ok rfl okc_spec_l11Word (c := (Try.f187.body.get rfl)) rfl cok_spec_l11Word (by kernel_rfl) (gl_spec_l11Word k q) (by kernel_rfl) rfl (fun vs m r hl h => match vs, hl with
  | [t0, t1, t5], _ => (le_spec_l11Word_1 k q t0 t1 t5 m).trans h)
 | _ + 1, _ + 2, h => absurd h (by omega)
theorem ok_X_spec_l11Word : OkX CT 187 X_spec_l11Word := OkX.of_ex (cf := cf_spec_l11Word) (np := 2) (LL := LL_spec_l11Word) (J := (fun k => J_spec_l11Word k QQ)) CT_ok rfl Try.func187 rfl (Nat.le_of_ble_eq_true rfl) (by decide) cok_spec_l11Word okc_spec_l11Word (fun k => allLoops rfl (by kernel_rfl) (gl_spec_l11Word k QQ)) (fun args m r h => match args, h with
  | [t0, t1], h => ⟨rfl, (xe_spec_l11Word t0 t1 m).trans h⟩)
theorem ok_C_spec_l11Word : OkC CT 187 C_spec_l11Word := rcall_ok rfl ok_X_spec_l11Word
noncomputable def cf_spec_l11Gone : CallF := cfc 96 C_spec_l10Has (cfc 97 C_spec_l11Is (cfc 99 C_spec_l11Echo (cfc 186 C_spec_l11Drop (cfc 187 C_spec_l11Word cfn))))
noncomputable def L_spec_l11Gone (k : Nat) : Nat → Nat → List Value → Mem → Option VM
 | q + 1, 0, [t0, t1, t2, t7, t8], m =>
  (nilX t1) |> bo fun t11 =>
  (fadX 1 t11) |> bo fun t12 =>
  (ld1 m t12) |> bo fun t13 =>
  (lenX t13) |> bo fun t14 =>
  (binX .gtr .no t14 (.int .i64 0)) |> bo fun t15 =>
  brX t15
   (
    (C_spec_l11Drop [t0, t1] m) |> bo fun r6 =>
    (apL r6.2 1 1 t7 r6.1) |> bo fun r7 =>
    cutK k r7.2 [t0, t1, t2] [t0, t1, t2, r7.1, t8] (L_spec_l11Gone k q 0))
   (
    (C_spec_l10Has [t0, (.int .i64 4)] m) |> bo fun r8 =>
    (uop .not r8.1) |> bo fun t49 =>
    brX t49
     (
      (C_spec_l11Echo [t0, t2] r8.2) |> bo fun r10 =>
      (gd t8 true (some (t0, r10.2)) r10.2) |> bo fun r11 =>
      (gd t8 true ((C_spec_l10Has [r11.1, (.int .i64 8)] r11.2) |> bo fun r => some (r.1, r.2)) r11.2) |> bo fun r12 =>
      (pickX t8 r12.1 (.bool false)) |> bo fun t57 =>
      (gd t57 true (some (t0, r12.2)) r12.2) |> bo fun r14 =>
      (gd t57 true ((C_spec_l10Has [r14.1, (.int .i64 2)] r14.2) |> bo fun r => some (r.1, r.2)) r14.2) |> bo fun r15 =>
      (pickX t57 r15.1 (.bool false)) |> bo fun t61 =>
      brX t61
       (
        (bslX r15.2 1 1 [.int .u8 0] [(0, 1, (.int .u8 10))]) |> bo fun r17 =>
        (apL r17.2 1 1 r10.1 r17.1) |> bo fun r18 =>
        retK k r18.2 [t0, t1, t2] r18.1)
       (
        retK k r15.2 [t0, t1, t2] r10.1))
     (
      retK k r8.2 [t0, t1, t2] t7))
 | _, _, _, _ => none
noncomputable def J_spec_l11Gone (k q l : Nat) : List Value → Mem → Option VM := cond (Nat.beq l 4) (L_spec_l11Gone k q 0) (fun _ _ => none)
def LL_spec_l11Gone : List (Nat × List Tmp) := [(4, [0, 1, 2, 7, 8])]
noncomputable def X_spec_l11Gone : List Value → Mem → Option VM
 | [t0, t1, t2], m =>
  (bslX m 0 1 [.int .u8 0] []) |> bo fun r1 =>
  (nilX t0) |> bo fun t23 =>
  (fadX 1 t23) |> bo fun t24 =>
  (ld1 r1.2 t24) |> bo fun t25 =>
  (C_spec_l11Is [t25, t2] r1.2) |> bo fun r5 =>
  brX r5.1
   (
    (nilX t1) |> bo fun t29 =>
    (fadX 1 t29) |> bo fun t30 =>
    (ld1 r5.2 t30) |> bo fun t31 =>
    (lenX t31) |> bo fun t32 =>
    (binX .gtr .no t32 (.int .i64 0)) |> bo fun t33 =>
    brX t33
     (
      (C_spec_l11Drop [t0, t1] r5.2) |> bo fun r11 =>
      (C_spec_l10Has [t0, (.int .i64 4)] r11.2) |> bo fun r12 =>
      (uop .not r12.1) |> bo fun t49 =>
      brX t49
       (
        (C_spec_l11Echo [t0, t2] r12.2) |> bo fun r14 =>
        (gd (.bool false) true (some (t0, r14.2)) r14.2) |> bo fun r15 =>
        (gd (.bool false) true ((C_spec_l10Has [r15.1, (.int .i64 8)] r15.2) |> bo fun r => some (r.1, r.2)) r15.2) |> bo fun r16 =>
        (pickX (.bool false) r16.1 (.bool false)) |> bo fun t57 =>
        (gd t57 true (some (t0, r16.2)) r16.2) |> bo fun r18 =>
        (gd t57 true ((C_spec_l10Has [r18.1, (.int .i64 2)] r18.2) |> bo fun r => some (r.1, r.2)) r18.2) |> bo fun r19 =>
        (pickX t57 r19.1 (.bool false)) |> bo fun t61 =>
        brX t61
         (
          (bslX r19.2 1 1 [.int .u8 0] [(0, 1, (.int .u8 10))]) |> bo fun r21 =>
          (apL r21.2 1 1 r14.1 r21.1) |> bo fun r22 =>
          retK m.length r22.2 [t0, t1, t2] r22.1)
         (
          retK m.length r19.2 [t0, t1, t2] r14.1))
       (
        retK m.length r12.2 [t0, t1, t2] r11.1))
     (
      (C_spec_l10Has [t0, (.int .i64 4)] r5.2) |> bo fun r23 =>
      (uop .not r23.1) |> bo fun t49 =>
      brX t49
       (
        (C_spec_l11Echo [t0, t2] r23.2) |> bo fun r25 =>
        (gd (.bool false) true (some (t0, r25.2)) r25.2) |> bo fun r26 =>
        (gd (.bool false) true ((C_spec_l10Has [r26.1, (.int .i64 8)] r26.2) |> bo fun r => some (r.1, r.2)) r26.2) |> bo fun r27 =>
        (pickX (.bool false) r27.1 (.bool false)) |> bo fun t57 =>
        (gd t57 true (some (t0, r27.2)) r27.2) |> bo fun r29 =>
        (gd t57 true ((C_spec_l10Has [r29.1, (.int .i64 2)] r29.2) |> bo fun r => some (r.1, r.2)) r29.2) |> bo fun r30 =>
        (pickX t57 r30.1 (.bool false)) |> bo fun t61 =>
        brX t61
         (
          (bslX r30.2 1 1 [.int .u8 0] [(0, 1, (.int .u8 10))]) |> bo fun r32 =>
          (apL r32.2 1 1 r25.1 r32.1) |> bo fun r33 =>
          retK m.length r33.2 [t0, t1, t2] r33.1)
         (
          retK m.length r30.2 [t0, t1, t2] r25.1))
       (
        retK m.length r23.2 [t0, t1, t2] r1.1)))
   (
    (nilX t0) |> bo fun t39 =>
    (fadX 3 t39) |> bo fun t40 =>
    (ld1 r5.2 t40) |> bo fun t41 =>
    (C_spec_l11Is [t41, t2] r5.2) |> bo fun r37 =>
    brX r37.1
     (
      (C_spec_l11Word [t0, t1] r37.2) |> bo fun r38 =>
      (C_spec_l10Has [t0, (.int .i64 4)] r38.2) |> bo fun r39 =>
      (uop .not r39.1) |> bo fun t49 =>
      brX t49
       (
        (C_spec_l11Echo [t0, t2] r39.2) |> bo fun r41 =>
        (gd (.bool false) true (some (t0, r41.2)) r41.2) |> bo fun r42 =>
        (gd (.bool false) true ((C_spec_l10Has [r42.1, (.int .i64 8)] r42.2) |> bo fun r => some (r.1, r.2)) r42.2) |> bo fun r43 =>
        (pickX (.bool false) r43.1 (.bool false)) |> bo fun t57 =>
        (gd t57 true (some (t0, r43.2)) r43.2) |> bo fun r45 =>
        (gd t57 true ((C_spec_l10Has [r45.1, (.int .i64 2)] r45.2) |> bo fun r => some (r.1, r.2)) r45.2) |> bo fun r46 =>
        (pickX t57 r46.1 (.bool false)) |> bo fun t61 =>
        brX t61
         (
          (bslX r46.2 1 1 [.int .u8 0] [(0, 1, (.int .u8 10))]) |> bo fun r48 =>
          (apL r48.2 1 1 r41.1 r48.1) |> bo fun r49 =>
          retK m.length r49.2 [t0, t1, t2] r49.1)
         (
          retK m.length r46.2 [t0, t1, t2] r41.1))
       (
        retK m.length r39.2 [t0, t1, t2] r38.1))
     (
      cutK m.length r37.2 [t0, t1, t2] [t0, t1, t2, r1.1, (.bool true)] (L_spec_l11Gone m.length QQ 0)))
 | _, _ => none
noncomputable def C_spec_l11Gone : List Value → Mem → Option VM := rcall X_spec_l11Gone
@[simp] theorem c_spec_l11Gone : C_spec_l11Gone = rcall X_spec_l11Gone := (rfl)
theorem cok_spec_l11Gone : codeOk CT Try.f141 (Try.f141.body.get rfl) = true := by kernel_rfl
theorem xe_spec_l11Gone (t0 t1 t2 : Value) (m : Mem) : ex CT cf_spec_l11Gone Try.f141 3 m.length LL_spec_l11Gone (J_spec_l11Gone m.length QQ) 400 [.code (Try.f141.body.get rfl)] (argsT 0 [t0, t1, t2]) m = X_spec_l11Gone [t0, t1, t2] m := by kernel_rfl
theorem okc_spec_l11Gone : CallOK CT cf_spec_l11Gone := cfc_ok ok_C_spec_l10Has (cfc_ok ok_C_spec_l11Is (cfc_ok ok_C_spec_l11Echo (cfc_ok ok_C_spec_l11Drop (cfc_ok ok_C_spec_l11Word cfn_ok))))
theorem le_spec_l11Gone_0 (k q : Nat) (t0 t1 t2 t7 t8 : Value) (m : Mem) : ex CT cf_spec_l11Gone Try.f141 3 k LL_spec_l11Gone (J_spec_l11Gone k q) 400 (atLoop Try.f141 0) [(0, t0), (1, t1), (2, t2), (7, t7), (8, t8)] m = J_spec_l11Gone k (q + 1) 4 [t0, t1, t2, t7, t8] m := by kernel_rfl
theorem gl_spec_l11Gone (k : Nat) : ∀ q i, i < 1 → GoodL CT k Try.f141 LL_spec_l11Gone (J_spec_l11Gone k q) (atLoop Try.f141 i)
 | 0, 0, _ => goodL_zero (l := 4) (by kernel_rfl) (fun vs m => by kernel_rfl)
 | 0, _ + 1, h => absurd h (by omega)
 | q + 1, 0, _ => goodL_succ (np := 3) (l := 4) (live := [0, 1, 2, 7, 8]) (n := 1) CT_ok rfl okc_spec_l11Gone (c := (Try.f141.body.get rfl)) rfl cok_spec_l11Gone (by kernel_rfl) (gl_spec_l11Gone k q) (by kernel_rfl) rfl (fun vs m r hl h => match vs, hl with
  | [t0, t1, t2, t7, t8], _ => (le_spec_l11Gone_0 k q t0 t1 t2 t7 t8 m).trans h)
 | _ + 1, _ + 1, h => absurd h (by omega)
theorem ok_X_spec_l11Gone : OkX CT 141 X_spec_l11Gone := OkX.of_ex (cf := cf_spec_l11Gone) (np := 3) (LL := LL_spec_l11Gone) (J := (fun k => J_spec_l11Gone k QQ)) CT_ok rfl Try.func141 rfl (Nat.le_of_ble_eq_true rfl) (by decide) cok_spec_l11Gone okc_spec_l11Gone (fun k => allLoops rfl (by kernel_rfl) (gl_spec_l11Gone k QQ)) (fun args m r h => match args, h with
  | [t0, t1, t2], h => ⟨rfl, (xe_spec_l11Gone t0 t1 t2 m).trans h⟩)
theorem ok_C_spec_l11Gone : OkC CT 141 C_spec_l11Gone := rcall_ok rfl ok_X_spec_l11Gone
noncomputable def cf_spec_l11Ends : CallF := cfc 94 Cf_spec_l1Copy (cfc 139 C_spec_l11Size cfn)
noncomputable def X_spec_l11Ends : List Value → Mem → Option VM
 | [t0, t1], m =>
  (nilX t0) |> bo fun t6 =>
  (fadX 0 t6) |> bo fun t7 =>
  (ld1 m t7) |> bo fun t8 =>
  (lenX t8) |> bo fun t9 =>
  (binX .geq .no t9 (.int .i64 40)) |> bo fun t10 =>
  (gd t10 false (some (t0, m)) m) |> bo fun r6 =>
  (gd t10 false ((C_spec_l11Size [r6.1] r6.2) |> bo fun r => some (r.1, r.2)) r6.2) |> bo fun r7 =>
  (gd t10 false (some (t1, r7.2)) r7.2) |> bo fun r8 =>
  (gd t10 false ((lenX r8.1) |> bo fun v => some (v, r8.2)) r8.2) |> bo fun r9 =>
  (gd t10 false ((binX .add .no r7.1 r9.1) |> bo fun v => some (v, r9.2)) r9.2) |> bo fun r10 =>
  (gd t10 false ((binX .gtr .no r10.1 (.int .i64 40)) |> bo fun v => some (v, r10.2)) r10.2) |> bo fun r11 =>
  (pickX t10 (.bool true) r11.1) |> bo fun t18 =>
  brX t18
   (
    retK m.length r11.2 [t0, t1] (.bool false))
   (
    (nilX t0) |> bo fun t21 =>
    (fadX 0 t21) |> bo fun t22 =>
    (ld1 r11.2 t22) |> bo fun t23 =>
    (nilX t0) |> bo fun t25 =>
    (fadX 1 t25) |> bo fun t26 =>
    (ld1 r11.2 t26) |> bo fun t27 =>
    (Cf_spec_l1Copy [t27] r11.2) |> bo fun r19 =>
    (apL r19.2 1 1 r19.1 t1) |> bo fun r20 =>
    (bslX r20.2 1 1 [.slice none 0 0] [(0, 1, r20.1)]) |> bo fun r21 =>
    (apL r21.2 1 24 t23 r21.1) |> bo fun r22 =>
    (nilX t0) |> bo fun t33 =>
    (fadX 0 t33) |> bo fun t34 =>
    (stX r22.2 1 t34 r22.1) |> bo fun m25 =>
    gP (stbL [((rdN t22), r11.2, r19.2), ((rdN t22), r19.2, r20.2)])
     (
      (nilX t0) |> bo fun t36 =>
      (fadX 1 t36) |> bo fun t37 =>
      (stX m25 1 t37 (.slice none 0 0)) |> bo fun m28 =>
      retK m.length m28 [t0, t1] (.bool true)))
 | _, _ => none
noncomputable def C_spec_l11Ends : List Value → Mem → Option VM := zcall X_spec_l11Ends
@[simp] theorem c_spec_l11Ends : C_spec_l11Ends = zcall X_spec_l11Ends := (rfl)
theorem cok_spec_l11Ends : codeOk CT Try.f142 (Try.f142.body.get rfl) = true := by kernel_rfl
theorem xe_spec_l11Ends (t0 t1 : Value) (m : Mem) : ex CT cf_spec_l11Ends Try.f142 2 m.length [] (fun _ _ _ => none) 400 [.code (Try.f142.body.get rfl)] (argsT 0 [t0, t1]) m = X_spec_l11Ends [t0, t1] m := by kernel_rfl
theorem okc_spec_l11Ends : CallOK CT cf_spec_l11Ends := cfc_ok ok_Cf_spec_l1Copy (cfc_ok ok_C_spec_l11Size cfn_ok)
theorem ok_X_spec_l11Ends : OkX CT 142 X_spec_l11Ends := OkX.of_ex (cf := cf_spec_l11Ends) (np := 2) (LL := []) (J := (fun _ _ _ _ => none)) CT_ok rfl Try.func142 rfl (Nat.le_of_ble_eq_true rfl) (by decide) cok_spec_l11Ends okc_spec_l11Ends (fun k => noLoops rfl) (fun args m r h => match args, h with
  | [t0, t1], h => ⟨rfl, (xe_spec_l11Ends t0 t1 m).trans h⟩)
theorem ok_C_spec_l11Ends : OkC CT 142 C_spec_l11Ends := zcall_ok rfl ok_X_spec_l11Ends
noncomputable def cf_spec_l11Canon : CallF := cfc 95 C_spec_l11Take (cfc 97 C_spec_l11Is (cfc 99 C_spec_l11Echo (cfc 141 C_spec_l11Gone (cfc 142 C_spec_l11Ends cfn))))
noncomputable def X_spec_l11Canon : List Value → Mem → Option VM
 | [t0, t1, t2], m =>
  (nilX t0) |> bo fun t9 =>
  (fadX 6 t9) |> bo fun t10 =>
  (ld1 m t10) |> bo fun t11 =>
  (C_spec_l11Is [t11, t2] m) |> bo fun r4 =>
  brX r4.1
   (
    (nilX t1) |> bo fun t15 =>
    (fadX 2 t15) |> bo fun t16 =>
    (stX r4.2 1 t16 (.bool true)) |> bo fun m7 =>
    (bslX m7 0 1 [.int .u8 0] []) |> bo fun r8 =>
    retK m.length r8.2 [t0, t1, t2] r8.1)
   (
    (nilX t0) |> bo fun t20 =>
    (fadX 1 t20) |> bo fun t21 =>
    (ld1 r4.2 t21) |> bo fun t22 =>
    (C_spec_l11Is [t22, t2] r4.2) |> bo fun r12 =>
    (gd r12.1 false (some (t0, r12.2)) r12.2) |> bo fun r13 =>
    (gd r12.1 false ((nilX r13.1) |> bo fun v => some (v, r13.2)) r13.2) |> bo fun r14 =>
    (gd r12.1 false ((fadX 3 r14.1) |> bo fun v => some (v, r14.2)) r14.2) |> bo fun r15 =>
    (gd r12.1 false ((ld1 r15.2 r15.1) |> bo fun v => some (v, r15.2)) r15.2) |> bo fun r16 =>
    (gd r12.1 false (some (t2, r16.2)) r16.2) |> bo fun r17 =>
    (gd r12.1 false ((C_spec_l11Is [r16.1, r17.1] r17.2) |> bo fun r => some (r.1, r.2)) r17.2) |> bo fun r18 =>
    (pickX r12.1 (.bool true) r18.1) |> bo fun t32 =>
    (gd t32 false (some (t0, r18.2)) r18.2) |> bo fun r20 =>
    (gd t32 false ((nilX r20.1) |> bo fun v => some (v, r20.2)) r20.2) |> bo fun r21 =>
    (gd t32 false ((fadX 2 r21.1) |> bo fun v => some (v, r21.2)) r21.2) |> bo fun r22 =>
    (gd t32 false ((ld1 r22.2 r22.1) |> bo fun v => some (v, r22.2)) r22.2) |> bo fun r23 =>
    (gd t32 false (some (t2, r23.2)) r23.2) |> bo fun r24 =>
    (gd t32 false ((C_spec_l11Is [r23.1, r24.1] r24.2) |> bo fun r => some (r.1, r.2)) r24.2) |> bo fun r25 =>
    (pickX t32 (.bool true) r25.1) |> bo fun t40 =>
    brX t40
     (
      (C_spec_l11Gone [t0, t1, t2] r25.2) |> bo fun r27 =>
      retK m.length r27.2 [t0, t1, t2] r27.1)
     (
      (nilX t0) |> bo fun t47 =>
      (fadX 4 t47) |> bo fun t48 =>
      (ld1 r25.2 t48) |> bo fun t49 =>
      (C_spec_l11Is [t49, t2] r25.2) |> bo fun r31 =>
      brX r31.1
       (
        (C_spec_l11Ends [t1, (.slice none 0 0)] r31.2) |> bo fun r32 =>
        (bslX r32.2 0 1 [.int .u8 0] []) |> bo fun r33 =>
        retK m.length r33.2 [t0, t1, t2] r33.1)
       (
        (binX .eql .no t2 (.int .u8 10)) |> bo fun t57 =>
        brX t57
         (
          (bslX r31.2 1 1 [.int .u8 0] [(0, 1, (.int .u8 10))]) |> bo fun r35 =>
          (C_spec_l11Ends [t1, r35.1] r35.2) |> bo fun r36 =>
          brX r36.1
           (
            (C_spec_l11Echo [t0, (.int .u8 10)] r36.2) |> bo fun r37 =>
            retK m.length r37.2 [t0, t1, t2] r37.1)
           (
            (bslX r36.2 0 1 [.int .u8 0] []) |> bo fun r38 =>
            retK m.length r38.2 [t0, t1, t2] r38.1))
         (
          (C_spec_l11Take [t0, t1, t2] r31.2) |> bo fun r39 =>
          retK m.length r39.2 [t0, t1, t2] r39.1))))
 | _, _ => none
noncomputable def C_spec_l11Canon : List Value → Mem → Option VM := rcall X_spec_l11Canon
@[simp] theorem c_spec_l11Canon : C_spec_l11Canon = rcall X_spec_l11Canon := (rfl)
theorem cok_spec_l11Canon : codeOk CT Try.f101 (Try.f101.body.get rfl) = true := by kernel_rfl
theorem xe_spec_l11Canon (t0 t1 t2 : Value) (m : Mem) : ex CT cf_spec_l11Canon Try.f101 3 m.length [] (fun _ _ _ => none) 400 [.code (Try.f101.body.get rfl)] (argsT 0 [t0, t1, t2]) m = X_spec_l11Canon [t0, t1, t2] m := by kernel_rfl
theorem okc_spec_l11Canon : CallOK CT cf_spec_l11Canon := cfc_ok ok_C_spec_l11Take (cfc_ok ok_C_spec_l11Is (cfc_ok ok_C_spec_l11Echo (cfc_ok ok_C_spec_l11Gone (cfc_ok ok_C_spec_l11Ends cfn_ok))))
theorem ok_X_spec_l11Canon : OkX CT 101 X_spec_l11Canon := OkX.of_ex (cf := cf_spec_l11Canon) (np := 3) (LL := []) (J := (fun _ _ _ _ => none)) CT_ok rfl Try.func101 rfl (Nat.le_of_ble_eq_true rfl) (by decide) cok_spec_l11Canon okc_spec_l11Canon (fun k => noLoops rfl) (fun args m r h => match args, h with
  | [t0, t1, t2], h => ⟨rfl, (xe_spec_l11Canon t0 t1 t2 m).trans h⟩)
theorem ok_C_spec_l11Canon : OkC CT 101 C_spec_l11Canon := rcall_ok rfl ok_X_spec_l11Canon
noncomputable def cf_spec_l11Feed : CallF := cfc 95 C_spec_l11Take (cfc 96 C_spec_l10Has (cfc 97 C_spec_l11Is (cfc 98 C_spec_l1Min (cfc 99 C_spec_l11Echo (cfc 100 C_spec_l11Raw (cfc 101 C_spec_l11Canon cfn))))))
noncomputable def X_spec_l11Feed : List Value → Mem → Option VM
 | [t0, t1, t2], m =>
  (nilX t1) |> bo fun t8 =>
  (fadX 2 t8) |> bo fun t9 =>
  (ld1 m t9) |> bo fun t10 =>
  brX t10
   (
    (nilX t1) |> bo fun t12 =>
    (fadX 2 t12) |> bo fun t13 =>
    (stX m 1 t13 (.bool false)) |> bo fun m6 =>
    (C_spec_l11Take [t0, t1, t2] m6) |> bo fun r7 =>
    retK m.length r7.2 [t0, t1, t2] r7.1)
   (
    (binX .eql .no t2 (.int .u8 13)) |> bo fun t19 =>
    (gd t19 true (some (t0, m)) m) |> bo fun r9 =>
    (gd t19 true ((C_spec_l10Has [r9.1, (.int .i64 64)] r9.2) |> bo fun r => some (r.1, r.2)) r9.2) |> bo fun r10 =>
    (pickX t19 r10.1 (.bool false)) |> bo fun t23 =>
    brX t23
     (
      (C_spec_l10Has [t0, (.int .i64 32)] r10.2) |> bo fun r12 =>
      (gd r12.1 true (some (t0, r12.2)) r12.2) |> bo fun r13 =>
      (gd r12.1 true ((nilX r13.1) |> bo fun v => some (v, r13.2)) r13.2) |> bo fun r14 =>
      (gd r12.1 true ((fadX 5 r14.1) |> bo fun v => some (v, r14.2)) r14.2) |> bo fun r15 =>
      (gd r12.1 true ((ld1 r15.2 r15.1) |> bo fun v => some (v, r15.2)) r15.2) |> bo fun r16 =>
      (gd r12.1 true (some ((.int .u8 10), r16.2)) r16.2) |> bo fun r17 =>
      (gd r12.1 true ((C_spec_l11Is [r16.1, r17.1] r17.2) |> bo fun r => some (r.1, r.2)) r17.2) |> bo fun r18 =>
      (pickX r12.1 r18.1 (.bool false)) |> bo fun t33 =>
      brX t33
       (
        (nilX t1) |> bo fun t36 =>
        (fadX 3 t36) |> bo fun t37 =>
        (ld1 r18.2 t37) |> bo fun t38 =>
        (binX .add .no t38 (.int .i64 1)) |> bo fun t39 =>
        (C_spec_l1Min [(.int .i64 999), t39] r18.2) |> bo fun r24 =>
        (nilX t1) |> bo fun t41 =>
        (fadX 3 t41) |> bo fun t42 =>
        (stX r24.2 1 t42 r24.1) |> bo fun m27 =>
        (nilX t1) |> bo fun t44 =>
        (fadX 1 t44) |> bo fun t45 =>
        (stX m27 1 t45 (.slice none 0 0)) |> bo fun m30 =>
        (C_spec_l11Echo [t0, (.int .u8 10)] m30) |> bo fun r31 =>
        retK m.length r31.2 [t0, t1, (.int .u8 10)] r31.1)
       (
        (C_spec_l10Has [t0, (.int .i64 1)] r18.2) |> bo fun r32 =>
        (uop .not r32.1) |> bo fun t51 =>
        brX t51
         (
          (C_spec_l11Raw [t0, t1, (.int .u8 10)] r32.2) |> bo fun r34 =>
          retK m.length r34.2 [t0, t1, (.int .u8 10)] r34.1)
         (
          (C_spec_l11Canon [t0, t1, (.int .u8 10)] r32.2) |> bo fun r35 =>
          retK m.length r35.2 [t0, t1, (.int .u8 10)] r35.1)))
     (
      (C_spec_l10Has [t0, (.int .i64 32)] r10.2) |> bo fun r36 =>
      (gd r36.1 true (some (t0, r36.2)) r36.2) |> bo fun r37 =>
      (gd r36.1 true ((nilX r37.1) |> bo fun v => some (v, r37.2)) r37.2) |> bo fun r38 =>
      (gd r36.1 true ((fadX 5 r38.1) |> bo fun v => some (v, r38.2)) r38.2) |> bo fun r39 =>
      (gd r36.1 true ((ld1 r39.2 r39.1) |> bo fun v => some (v, r39.2)) r39.2) |> bo fun r40 =>
      (gd r36.1 true (some (t2, r40.2)) r40.2) |> bo fun r41 =>
      (gd r36.1 true ((C_spec_l11Is [r40.1, r41.1] r41.2) |> bo fun r => some (r.1, r.2)) r41.2) |> bo fun r42 =>
      (pickX r36.1 r42.1 (.bool false)) |> bo fun t33 =>
      brX t33
       (
        (nilX t1) |> bo fun t36 =>
        (fadX 3 t36) |> bo fun t37 =>
        (ld1 r42.2 t37) |> bo fun t38 =>
        (binX .add .no t38 (.int .i64 1)) |> bo fun t39 =>
        (C_spec_l1Min [(.int .i64 999), t39] r42.2) |> bo fun r48 =>
        (nilX t1) |> bo fun t41 =>
        (fadX 3 t41) |> bo fun t42 =>
        (stX r48.2 1 t42 r48.1) |> bo fun m51 =>
        (nilX t1) |> bo fun t44 =>
        (fadX 1 t44) |> bo fun t45 =>
        (stX m51 1 t45 (.slice none 0 0)) |> bo fun m54 =>
        (C_spec_l11Echo [t0, t2] m54) |> bo fun r55 =>
        retK m.length r55.2 [t0, t1, t2] r55.1)
       (
        (C_spec_l10Has [t0, (.int .i64 1)] r42.2) |> bo fun r56 =>
        (uop .not r56.1) |> bo fun t51 =>
        brX t51
         (
          (C_spec_l11Raw [t0, t1, t2] r56.2) |> bo fun r58 =>
          retK m.length r58.2 [t0, t1, t2] r58.1)
         (
          (C_spec_l11Canon [t0, t1, t2] r56.2) |> bo fun r59 =>
          retK m.length r59.2 [t0, t1, t2] r59.1))))
 | _, _ => none
noncomputable def C_spec_l11Feed : List Value → Mem → Option VM := rcall X_spec_l11Feed
@[simp] theorem c_spec_l11Feed : C_spec_l11Feed = rcall X_spec_l11Feed := (rfl)
theorem cok_spec_l11Feed : codeOk CT Try.f51 (Try.f51.body.get rfl) = true := by kernel_rfl
theorem xe_spec_l11Feed (t0 t1 t2 : Value) (m : Mem) : ex CT cf_spec_l11Feed Try.f51 3 m.length [] (fun _ _ _ => none) 400 [.code (Try.f51.body.get rfl)] (argsT 0 [t0, t1, t2]) m = X_spec_l11Feed [t0, t1, t2] m := by kernel_rfl
theorem okc_spec_l11Feed : CallOK CT cf_spec_l11Feed := cfc_ok ok_C_spec_l11Take (cfc_ok ok_C_spec_l10Has (cfc_ok ok_C_spec_l11Is (cfc_ok ok_C_spec_l1Min (cfc_ok ok_C_spec_l11Echo (cfc_ok ok_C_spec_l11Raw (cfc_ok ok_C_spec_l11Canon cfn_ok))))))
theorem ok_X_spec_l11Feed : OkX CT 51 X_spec_l11Feed := OkX.of_ex (cf := cf_spec_l11Feed) (np := 3) (LL := []) (J := (fun _ _ _ _ => none)) CT_ok rfl Try.func51 rfl (Nat.le_of_ble_eq_true rfl) (by decide) cok_spec_l11Feed okc_spec_l11Feed (fun k => noLoops rfl) (fun args m r h => match args, h with
  | [t0, t1, t2], h => ⟨rfl, (xe_spec_l11Feed t0 t1 t2 m).trans h⟩)
theorem ok_C_spec_l11Feed : OkC CT 51 C_spec_l11Feed := rcall_ok rfl ok_X_spec_l11Feed
noncomputable def cf_spec_FeedLine : CallF := cfc 49 C_spec_l11Asked (cfc 50 C_spec_l11Copy (cfc 51 C_spec_l11Feed cfn))
noncomputable def X_spec_FeedLine : List Value → Mem → Option VM
 | [t0, t1, t2], m =>
  (boxX m t0) |> bo fun r1 =>
  (boxX r1.2 t1) |> bo fun r2 =>
  (alX r2.2 [.int .i64 0, .bool false, .slice none 0 0, .slice none 0 0, .slice none 0 0, .slice none 0 0, .bool false, .int .i64 0]) |> bo fun r3 =>
  (C_spec_l11Asked [r1.1, r2.1] r3.2) |> bo fun r4 =>
  (binX .neq .no r4.1 (.int .i64 0)) |> bo fun t11 =>
  brX t11
   (
    (bldX [.int .i64 0, .bool false, .slice none 0 0, .slice none 0 0, .slice none 0 0, .slice none 0 0, .bool false, .int .i64 0] [(0, 1, r4.1)]) |> bo fun t13 =>
    (stX r4.2 8 r3.1 t13) |> bo fun m7 =>
    (resP (some 8) m7 r3.1) |> bo fun c8 =>
    retK m.length m7 [t0, t1, t2] c8)
   (
    (ldS r4.2 4 r2.1) |> bo fun t14 =>
    (C_spec_l11Copy [t14] r4.2) |> bo fun r10 =>
    (bldX [.int .i64 0, .bool false, .slice none 0 0, .slice none 0 0, .slice none 0 0, .slice none 0 0, .bool false, .int .i64 0] [(4, 4, r10.1)]) |> bo fun t16 =>
    (alX r10.2 [.int .i64 0, .bool false, .slice none 0 0, .slice none 0 0, .slice none 0 0, .slice none 0 0, .bool false, .int .i64 0]) |> bo fun r12 =>
    (stX r12.2 8 r12.1 t16) |> bo fun m13 =>
    (fadX 4 r12.1) |> bo fun t17 =>
    (C_spec_l11Feed [r1.1, t17, t2] m13) |> bo fun r15 =>
    (fadX 3 r12.1) |> bo fun t20 =>
    (stX r15.2 1 t20 r15.1) |> bo fun m17 =>
    (ldS m17 8 r12.1) |> bo fun t21 =>
    (stX m17 8 r3.1 t21) |> bo fun m19 =>
    (resP (some 8) m19 r3.1) |> bo fun c20 =>
    retK m.length m19 [t0, t1, t2] c20)
 | _, _ => none
noncomputable def C_spec_FeedLine : List Value → Mem → Option VM := ncall X_spec_FeedLine
@[simp] theorem c_spec_FeedLine : C_spec_FeedLine = ncall X_spec_FeedLine := (rfl)
theorem cok_spec_FeedLine : codeOk CT Try.f10 (Try.f10.body.get rfl) = true := by kernel_rfl
theorem xe_spec_FeedLine (t0 t1 t2 : Value) (m : Mem) : ex CT cf_spec_FeedLine Try.f10 3 m.length [] (fun _ _ _ => none) 400 [.code (Try.f10.body.get rfl)] (argsT 0 [t0, t1, t2]) m = X_spec_FeedLine [t0, t1, t2] m := by kernel_rfl
theorem okc_spec_FeedLine : CallOK CT cf_spec_FeedLine := cfc_ok ok_C_spec_l11Asked (cfc_ok ok_C_spec_l11Copy (cfc_ok ok_C_spec_l11Feed cfn_ok))
theorem ok_X_spec_FeedLine : OkX CT 10 X_spec_FeedLine := OkX.of_ex (cf := cf_spec_FeedLine) (np := 3) (LL := []) (J := (fun _ _ _ _ => none)) CT_ok rfl Try.func10 rfl (Nat.le_of_ble_eq_true rfl) (by decide) cok_spec_FeedLine okc_spec_FeedLine (fun k => noLoops rfl) (fun args m r h => match args, h with
  | [t0, t1, t2], h => ⟨rfl, (xe_spec_FeedLine t0 t1 t2 m).trans h⟩)
theorem ok_C_spec_FeedLine : OkC CT 10 C_spec_FeedLine := ncall_ok rfl ok_X_spec_FeedLine
noncomputable def Ci_spec_FeedLine : List Value → Mem → Option VM := icall X_spec_FeedLine
@[simp] theorem cCi_spec_FeedLine : Ci_spec_FeedLine = icall X_spec_FeedLine := (rfl)
theorem ok_Ci_spec_FeedLine : OkC CT 10 Ci_spec_FeedLine := icall_ok rfl ok_X_spec_FeedLine
noncomputable def cf_impl_first : CallF := cfn
noncomputable def L_impl_first (k : Nat) : Nat → Nat → List Value → Mem → Option VM
 | q + 1, 0, [t5, t6, t7], m =>
  (binX .lss .no t7 t6) |> bo fun t8 =>
  brX t8
   (
    (ixaX 1 t5 t7) |> bo fun t9 =>
    (ld1 m t9) |> bo fun t10 =>
    (binX .neq .no t10 (.int .i64 0)) |> bo fun t12 =>
    brX t12
     (
      retK k m [] t10)
     (
      (binX .add .no t7 (.int .i64 1)) |> bo fun t14 =>
      cutK k m [] [t5, t6, t14] (L_impl_first k q 0)))
   (
    retK k m [] (.int .i64 0))
 | _, _, _, _ => none
noncomputable def J_impl_first (k q l : Nat) : List Value → Mem → Option VM := cond (Nat.beq l 2) (L_impl_first k q 0) (fun _ _ => none)
def LL_impl_first : List (Nat × List Tmp) := [(2, [5, 6, 7])]
noncomputable def X_impl_first : List Value → Mem → Option VM
 | [t0], m =>
  (lenX t0) |> bo fun t6 =>
  cutK m.length m [t0] [t0, t6, (.int .i64 0)] (L_impl_first m.length QQ 0)
 | _, _ => none
noncomputable def C_impl_first : List Value → Mem → Option VM := fcall X_impl_first
@[simp] theorem c_impl_first : C_impl_first = fcall X_impl_first := (rfl)
theorem cok_impl_first : codeOk CT Try.f53 (Try.f53.body.get rfl) = true := by kernel_rfl
theorem xe_impl_first (t0 : Value) (m : Mem) : ex CT cf_impl_first Try.f53 1 m.length LL_impl_first (J_impl_first m.length QQ) 400 [.code (Try.f53.body.get rfl)] (argsT 0 [t0]) m = X_impl_first [t0] m := by kernel_rfl
theorem okc_impl_first : CallOK CT cf_impl_first := cfn_ok
theorem le_impl_first_0 (k q : Nat) (t5 t6 t7 : Value) (m : Mem) : ex CT cf_impl_first Try.f53 1 k LL_impl_first (J_impl_first k q) 400 (atLoop Try.f53 0) [(5, t5), (6, t6), (7, t7)] m = J_impl_first k (q + 1) 2 [t5, t6, t7] m := by kernel_rfl
theorem gl_impl_first (k : Nat) : ∀ q i, i < 1 → GoodL CT k Try.f53 LL_impl_first (J_impl_first k q) (atLoop Try.f53 i)
 | 0, 0, _ => goodL_zero (l := 2) (by kernel_rfl) (fun vs m => by kernel_rfl)
 | 0, _ + 1, h => absurd h (by omega)
 | q + 1, 0, _ => goodL_succ (np := 1) (l := 2) (live := [5, 6, 7]) (n := 1) CT_ok rfl okc_impl_first (c := (Try.f53.body.get rfl)) rfl cok_impl_first (by kernel_rfl) (gl_impl_first k q) (by kernel_rfl) rfl (fun vs m r hl h => match vs, hl with
  | [t5, t6, t7], _ => (le_impl_first_0 k q t5 t6 t7 m).trans h)
 | _ + 1, _ + 1, h => absurd h (by omega)
theorem ok_X_impl_first : OkX CT 53 X_impl_first := OkX.of_ex (cf := cf_impl_first) (np := 1) (LL := LL_impl_first) (J := (fun k => J_impl_first k QQ)) CT_ok rfl Try.func53 rfl (Nat.le_of_ble_eq_true rfl) (by decide) cok_impl_first okc_impl_first (fun k => allLoops rfl (by kernel_rfl) (gl_impl_first k QQ)) (fun args m r h => match args, h with
  | [t0], h => ⟨rfl, (xe_impl_first t0 m).trans h⟩)
theorem ok_C_impl_first : OkC CT 53 C_impl_first := fcall_ok rfl ok_X_impl_first
noncomputable def cf_impl_unless : CallF := cfn
noncomputable def X_impl_unless : List Value → Mem → Option VM
 | [t0, t1], m =>
  brX t0
   (
    retK m.length m [t0, t1] (.int .i64 0))
   (
    retK m.length m [t0, t1] t1)
 | _, _ => none
noncomputable def C_impl_unless : List Value → Mem → Option VM := fcall X_impl_unless
@[simp] theorem c_impl_unless : C_impl_unless = fcall X_impl_unless := (rfl)
theorem cok_impl_unless : codeOk CT Try.f60 (Try.f60.body.get rfl) = true := by kernel_rfl
theorem xe_impl_unless (t0 t1 : Value) (m : Mem) : ex CT cf_impl_unless Try.f60 2 m.length [] (fun _ _ _ => none) 400 [.code (Try.f60.body.get rfl)] (argsT 0 [t0, t1]) m = X_impl_unless [t0, t1] m := by kernel_rfl
theorem okc_impl_unless : CallOK CT cf_impl_unless := cfn_ok
theorem ok_X_impl_unless : OkX CT 60 X_impl_unless := OkX.of_ex (cf := cf_impl_unless) (np := 2) (LL := []) (J := (fun _ _ _ _ => none)) CT_ok rfl Try.func60 rfl (Nat.le_of_ble_eq_true rfl) (by decide) cok_impl_unless okc_impl_unless (fun k => noLoops rfl) (fun args m r h => match args, h with
  | [t0, t1], h => ⟨rfl, (xe_impl_unless t0 t1 m).trans h⟩)
theorem ok_C_impl_unless : OkC CT 60 C_impl_unless := fcall_ok rfl ok_X_impl_unless
noncomputable def cf_impl_Line_size : CallF := cfn
noncomputable def L_impl_Line_size (k : Nat) : Nat → Nat → List Value → Mem → Option VM
 | q + 1, 0, [t3, t10, t11, t12], m =>
  (binX .lss .no t12 t11) |> bo fun t13 =>
  brX t13
   (
    (ixaX 1 t10 t12) |> bo fun t14 =>
    (ld1 m t14) |> bo fun t15 =>
    (lenX t15) |> bo fun t18 =>
    (binX .add .no t3 t18) |> bo fun t19 =>
    (binX .add .no t12 (.int .i64 1)) |> bo fun t20 =>
    cutK k m [] [t19, t10, t11, t20] (L_impl_Line_size k q 0))
   (
    retK k m [] t3)
 | _, _, _, _ => none
noncomputable def J_impl_Line_size (k q l : Nat) : List Value → Mem → Option VM := cond (Nat.beq l 3) (L_impl_Line_size k q 0) (fun _ _ => none)
def LL_impl_Line_size : List (Nat × List Tmp) := [(3, [3, 10, 11, 12])]
noncomputable def X_impl_Line_size : List Value → Mem → Option VM
 | [t0], m =>
  (boxX m t0) |> bo fun r1 =>
  (fadX 1 r1.1) |> bo fun t6 =>
  (ld1 r1.2 t6) |> bo fun t7 =>
  (lenX t7) |> bo fun t8 =>
  (fadX 0 r1.1) |> bo fun t9 =>
  (ld1 r1.2 t9) |> bo fun t10 =>
  (lenX t10) |> bo fun t11 =>
  cutK m.length r1.2 [t0] [t8, t10, t11, (.int .i64 0)] (L_impl_Line_size m.length QQ 0)
 | _, _ => none
noncomputable def C_impl_Line_size : List Value → Mem → Option VM := fcall X_impl_Line_size
@[simp] theorem c_impl_Line_size : C_impl_Line_size = fcall X_impl_Line_size := (rfl)
theorem cok_impl_Line_size : codeOk CT Try.f66 (Try.f66.body.get rfl) = true := by kernel_rfl
theorem xe_impl_Line_size (t0 : Value) (m : Mem) : ex CT cf_impl_Line_size Try.f66 1 m.length LL_impl_Line_size (J_impl_Line_size m.length QQ) 400 [.code (Try.f66.body.get rfl)] (argsT 0 [t0]) m = X_impl_Line_size [t0] m := by kernel_rfl
theorem okc_impl_Line_size : CallOK CT cf_impl_Line_size := cfn_ok
theorem le_impl_Line_size_0 (k q : Nat) (t3 t10 t11 t12 : Value) (m : Mem) : ex CT cf_impl_Line_size Try.f66 1 k LL_impl_Line_size (J_impl_Line_size k q) 400 (atLoop Try.f66 0) [(3, t3), (10, t10), (11, t11), (12, t12)] m = J_impl_Line_size k (q + 1) 3 [t3, t10, t11, t12] m := by kernel_rfl
theorem gl_impl_Line_size (k : Nat) : ∀ q i, i < 1 → GoodL CT k Try.f66 LL_impl_Line_size (J_impl_Line_size k q) (atLoop Try.f66 i)
 | 0, 0, _ => goodL_zero (l := 3) (by kernel_rfl) (fun vs m => by kernel_rfl)
 | 0, _ + 1, h => absurd h (by omega)
 | q + 1, 0, _ => goodL_succ (np := 1) (l := 3) (live := [3, 10, 11, 12]) (n := 1) CT_ok rfl okc_impl_Line_size (c := (Try.f66.body.get rfl)) rfl cok_impl_Line_size (by kernel_rfl) (gl_impl_Line_size k q) (by kernel_rfl) rfl (fun vs m r hl h => match vs, hl with
  | [t3, t10, t11, t12], _ => (le_impl_Line_size_0 k q t3 t10 t11 t12 m).trans h)
 | _ + 1, _ + 1, h => absurd h (by omega)
theorem ok_X_impl_Line_size : OkX CT 66 X_impl_Line_size := OkX.of_ex (cf := cf_impl_Line_size) (np := 1) (LL := LL_impl_Line_size) (J := (fun k => J_impl_Line_size k QQ)) CT_ok rfl Try.func66 rfl (Nat.le_of_ble_eq_true rfl) (by decide) cok_impl_Line_size okc_impl_Line_size (fun k => allLoops rfl (by kernel_rfl) (gl_impl_Line_size k QQ)) (fun args m r h => match args, h with
  | [t0], h => ⟨rfl, (xe_impl_Line_size t0 m).trans h⟩)
theorem ok_C_impl_Line_size : OkC CT 66 C_impl_Line_size := fcall_ok rfl ok_X_impl_Line_size
noncomputable def cf_impl_in : CallF := cfn
noncomputable def X_impl_in : List Value → Mem → Option VM
 | [t0, t1, t2], m =>
  (binX .leq .no t1 t0) |> bo fun t9 =>
  (gd t9 true (some (t0, m)) m) |> bo fun r2 =>
  (gd t9 true (some (t2, r2.2)) r2.2) |> bo fun r3 =>
  (gd t9 true ((binX .leq .no r2.1 r3.1) |> bo fun v => some (v, r3.2)) r3.2) |> bo fun r4 =>
  (pickX t9 r4.1 (.bool false)) |> bo fun t14 =>
  retK m.length r4.2 [t0, t1, t2] t14
 | _, _ => none
noncomputable def C_impl_in : List Value → Mem → Option VM := fcall X_impl_in
@[simp] theorem c_impl_in : C_impl_in = fcall X_impl_in := (rfl)
theorem cok_impl_in : codeOk CT Try.f69 (Try.f69.body.get rfl) = true := by kernel_rfl
theorem xe_impl_in (t0 t1 t2 : Value) (m : Mem) : ex CT cf_impl_in Try.f69 3 m.length [] (fun _ _ _ => none) 400 [.code (Try.f69.body.get rfl)] (argsT 0 [t0, t1, t2]) m = X_impl_in [t0, t1, t2] m := by kernel_rfl
theorem okc_impl_in : CallOK CT cf_impl_in := cfn_ok
theorem ok_X_impl_in : OkX CT 69 X_impl_in := OkX.of_ex (cf := cf_impl_in) (np := 3) (LL := []) (J := (fun _ _ _ _ => none)) CT_ok rfl Try.func69 rfl (Nat.le_of_ble_eq_true rfl) (by decide) cok_impl_in okc_impl_in (fun k => noLoops rfl) (fun args m r h => match args, h with
  | [t0, t1, t2], h => ⟨rfl, (xe_impl_in t0 t1 t2 m).trans h⟩)
theorem ok_C_impl_in : OkC CT 69 C_impl_in := fcall_ok rfl ok_X_impl_in
noncomputable def cf_impl_LineFault : CallF := cfc 53 C_impl_first (cfc 60 C_impl_unless (cfc 66 C_impl_Line_size (cfc 69 C_impl_in cfn)))
noncomputable def X_impl_LineFault : List Value → Mem → Option VM
 | [t0], m =>
  (boxX m t0) |> bo fun r1 =>
  (fadX 0 r1.1) |> bo fun t3 =>
  (ld1 r1.2 t3) |> bo fun t4 =>
  (lenX t4) |> bo fun t5 =>
  (binX .leq .no t5 (.int .i64 40)) |> bo fun t6 =>
  (gd t6 true ((ldS r1.2 4 r1.1) |> bo fun v => some (v, r1.2)) r1.2) |> bo fun r6 =>
  (gd t6 true ((C_impl_Line_size [r6.1] r6.2) |> bo fun r => some (r.1, r.2)) r6.2) |> bo fun r7 =>
  (gd t6 true ((binX .leq .no r7.1 (.int .i64 40)) |> bo fun v => some (v, r7.2)) r7.2) |> bo fun r8 =>
  (pickX t6 r8.1 (.bool false)) |> bo fun t11 =>
  (C_impl_unless [t11, (.int .i64 2)] r8.2) |> bo fun r10 =>
  (fadX 3 r1.1) |> bo fun t13 =>
  (ld1 r10.2 t13) |> bo fun t14 =>
  (C_impl_in [t14, (.int .i64 0), (.int .i64 999)] r10.2) |> bo fun r13 =>
  (C_impl_unless [r13.1, (.int .i64 3)] r13.2) |> bo fun r14 =>
  (bslX r14.2 2 1 [.int .i64 0] [(0, 1, r10.1), (1, 1, r14.1)]) |> bo fun r15 =>
  (C_impl_first [r15.1] r15.2) |> bo fun r16 =>
  gP (stbL [((rdN t13), r6.2, r7.2), ((rdN t13), r8.2, r10.2)])
   (
    retK m.length r16.2 [t0] r16.1)
 | _, _ => none
noncomputable def C_impl_LineFault : List Value → Mem → Option VM := fcall X_impl_LineFault
@[simp] theorem c_impl_LineFault : C_impl_LineFault = fcall X_impl_LineFault := (rfl)
theorem cok_impl_LineFault : codeOk CT Try.f31 (Try.f31.body.get rfl) = true := by kernel_rfl
theorem xe_impl_LineFault (t0 : Value) (m : Mem) : ex CT cf_impl_LineFault Try.f31 1 m.length [] (fun _ _ _ => none) 400 [.code (Try.f31.body.get rfl)] (argsT 0 [t0]) m = X_impl_LineFault [t0] m := by kernel_rfl
theorem okc_impl_LineFault : CallOK CT cf_impl_LineFault := cfc_ok ok_C_impl_first (cfc_ok ok_C_impl_unless (cfc_ok ok_C_impl_Line_size (cfc_ok ok_C_impl_in cfn_ok)))
theorem ok_X_impl_LineFault : OkX CT 31 X_impl_LineFault := OkX.of_ex (cf := cf_impl_LineFault) (np := 1) (LL := []) (J := (fun _ _ _ _ => none)) CT_ok rfl Try.func31 rfl (Nat.le_of_ble_eq_true rfl) (by decide) cok_impl_LineFault okc_impl_LineFault (fun k => noLoops rfl) (fun args m r h => match args, h with
  | [t0], h => ⟨rfl, (xe_impl_LineFault t0 m).trans h⟩)
theorem ok_C_impl_LineFault : OkC CT 31 C_impl_LineFault := fcall_ok rfl ok_X_impl_LineFault
noncomputable def cf_impl_Way_numbers : CallF := cfn
noncomputable def X_impl_Way_numbers : List Value → Mem → Option VM
 | [t0], m =>
  (boxX m t0) |> bo fun r1 =>
  (fadX 0 r1.1) |> bo fun t3 =>
  (ld1 r1.2 t3) |> bo fun t4 =>
  (fadX 1 r1.1) |> bo fun t5 =>
  (ld1 r1.2 t5) |> bo fun t6 =>
  (fadX 2 r1.1) |> bo fun t7 =>
  (ld1 r1.2 t7) |> bo fun t8 =>
  (fadX 3 r1.1) |> bo fun t9 =>
  (ld1 r1.2 t9) |> bo fun t10 =>
  (fadX 4 r1.1) |> bo fun t11 =>
  (ld1 r1.2 t11) |> bo fun t12 =>
  (fadX 5 r1.1) |> bo fun t13 =>
  (ld1 r1.2 t13) |> bo fun t14 =>
  (fadX 6 r1.1) |> bo fun t15 =>
  (ld1 r1.2 t15) |> bo fun t16 =>
  (bslX r1.2 7 1 [.int .i64 0] [(0, 1, t4), (1, 1, t6), (2, 1, t8), (3, 1, t10), (4, 1, t12), (5, 1, t14), (6, 1, t16)]) |> bo fun r16 =>
  retK m.length r16.2 [t0] r16.1
 | _, _ => none
noncomputable def C_impl_Way_numbers : List Value → Mem → Option VM := fcall X_impl_Way_numbers
@[simp] theorem c_impl_Way_numbers : C_impl_Way_numbers = fcall X_impl_Way_numbers := (rfl)
theorem cok_impl_Way_numbers : codeOk CT Try.f102 (Try.f102.body.get rfl) = true := by kernel_rfl
theorem xe_impl_Way_numbers (t0 : Value) (m : Mem) : ex CT cf_impl_Way_numbers Try.f102 1 m.length [] (fun _ _ _ => none) 400 [.code (Try.f102.body.get rfl)] (argsT 0 [t0]) m = X_impl_Way_numbers [t0] m := by kernel_rfl
theorem okc_impl_Way_numbers : CallOK CT cf_impl_Way_numbers := cfn_ok
theorem ok_X_impl_Way_numbers : OkX CT 102 X_impl_Way_numbers := OkX.of_ex (cf := cf_impl_Way_numbers) (np := 1) (LL := []) (J := (fun _ _ _ _ => none)) CT_ok rfl Try.func102 rfl (Nat.le_of_ble_eq_true rfl) (by decide) cok_impl_Way_numbers okc_impl_Way_numbers (fun k => noLoops rfl) (fun args m r h => match args, h with
  | [t0], h => ⟨rfl, (xe_impl_Way_numbers t0 m).trans h⟩)
theorem ok_C_impl_Way_numbers : OkC CT 102 C_impl_Way_numbers := fcall_ok rfl ok_X_impl_Way_numbers
noncomputable def cf_impl_WayFault : CallF := cfc 69 C_impl_in (cfc 102 C_impl_Way_numbers cfn)
noncomputable def L_impl_WayFault (k : Nat) : Nat → Nat → List Value → Mem → Option VM
 | q + 1, 0, [t6, t7, t8], m =>
  (binX .lss .no t8 t7) |> bo fun t9 =>
  brX t9
   (
    (ixaX 1 t6 t8) |> bo fun t11 =>
    (ld1 m t11) |> bo fun t12 =>
    (C_impl_in [t12, (.int .i64 0), (.int .i64 255)] m) |> bo fun r4 =>
    (uop .not r4.1) |> bo fun t15 =>
    (gd t15 true (some (t8, r4.2)) r4.2) |> bo fun r6 =>
    (gd t15 true ((binX .eql .no r6.1 (.int .i64 0)) |> bo fun v => some (v, r6.2)) r6.2) |> bo fun r7 =>
    (gd t15 true (some (r7.1, r7.2)) r7.2) |> bo fun r8 =>
    (gd r8.1 true (some (t12, r8.2)) r8.2) |> bo fun r9 =>
    (gd r8.1 true ((C_impl_in [r9.1, (.int .i64 0), (.int .i64 511)] r9.2) |> bo fun r => some (r.1, r.2)) r9.2) |> bo fun r10 =>
    (gd t15 true ((pickX r8.1 r10.1 (.bool false)) |> bo fun v => some (v, r10.2)) r10.2) |> bo fun r11 =>
    (gd t15 true ((uop .not r11.1) |> bo fun v => some (v, r11.2)) r11.2) |> bo fun r12 =>
    (pickX t15 r12.1 (.bool false)) |> bo fun t24 =>
    brX t24
     (
      retK k r12.2 [] (.int .i64 3))
     (
      (binX .add .no t8 (.int .i64 1)) |> bo fun t25 =>
      cutK k r12.2 [] [t6, t7, t25] (L_impl_WayFault k q 0)))
   (
    retK k m [] (.int .i64 0))
 | _, _, _, _ => none
noncomputable def J_impl_WayFault (k q l : Nat) : List Value → Mem → Option VM := cond (Nat.beq l 2) (L_impl_WayFault k q 0) (fun _ _ => none)
def LL_impl_WayFault : List (Nat × List Tmp) := [(2, [6, 7, 8])]
noncomputable def X_impl_WayFault : List Value → Mem → Option VM
 | [t0], m =>
  (boxX m t0) |> bo fun r1 =>
  (ldS r1.2 7 r1.1) |> bo fun t5 =>
  (C_impl_Way_numbers [t5] r1.2) |> bo fun r3 =>
  (lenX r3.1) |> bo fun t7 =>
  cutK m.length r3.2 [t0] [r3.1, t7, (.int .i64 0)] (L_impl_WayFault m.length QQ 0)
 | _, _ => none
noncomputable def C_impl_WayFault : List Value → Mem → Option VM := fcall X_impl_WayFault
@[simp] theorem c_impl_WayFault : C_impl_WayFault = fcall X_impl_WayFault := (rfl)
theorem cok_impl_WayFault : codeOk CT Try.f54 (Try.f54.body.get rfl) = true := by kernel_rfl
theorem xe_impl_WayFault (t0 : Value) (m : Mem) : ex CT cf_impl_WayFault Try.f54 1 m.length LL_impl_WayFault (J_impl_WayFault m.length QQ) 400 [.code (Try.f54.body.get rfl)] (argsT 0 [t0]) m = X_impl_WayFault [t0] m := by kernel_rfl
theorem okc_impl_WayFault : CallOK CT cf_impl_WayFault := cfc_ok ok_C_impl_in (cfc_ok ok_C_impl_Way_numbers cfn_ok)
theorem le_impl_WayFault_0 (k q : Nat) (t6 t7 t8 : Value) (m : Mem) : ex CT cf_impl_WayFault Try.f54 1 k LL_impl_WayFault (J_impl_WayFault k q) 400 (atLoop Try.f54 0) [(6, t6), (7, t7), (8, t8)] m = J_impl_WayFault k (q + 1) 2 [t6, t7, t8] m := by kernel_rfl
theorem gl_impl_WayFault (k : Nat) : ∀ q i, i < 1 → GoodL CT k Try.f54 LL_impl_WayFault (J_impl_WayFault k q) (atLoop Try.f54 i)
 | 0, 0, _ => goodL_zero (l := 2) (by kernel_rfl) (fun vs m => by kernel_rfl)
 | 0, _ + 1, h => absurd h (by omega)
 | q + 1, 0, _ => goodL_succ (np := 1) (l := 2) (live := [6, 7, 8]) (n := 1) CT_ok rfl okc_impl_WayFault (c := (Try.f54.body.get rfl)) rfl cok_impl_WayFault (by kernel_rfl) (gl_impl_WayFault k q) (by kernel_rfl) rfl (fun vs m r hl h => match vs, hl with
  | [t6, t7, t8], _ => (le_impl_WayFault_0 k q t6 t7 t8 m).trans h)
 | _ + 1, _ + 1, h => absurd h (by omega)
theorem ok_X_impl_WayFault : OkX CT 54 X_impl_WayFault := OkX.of_ex (cf := cf_impl_WayFault) (np := 1) (LL := LL_impl_WayFault) (J := (fun k => J_impl_WayFault k QQ)) CT_ok rfl Try.func54 rfl (Nat.le_of_ble_eq_true rfl) (by decide) cok_impl_WayFault okc_impl_WayFault (fun k => allLoops rfl (by kernel_rfl) (gl_impl_WayFault k QQ)) (fun args m r h => match args, h with
  | [t0], h => ⟨rfl, (xe_impl_WayFault t0 m).trans h⟩)
theorem ok_C_impl_WayFault : OkC CT 54 C_impl_WayFault := fcall_ok rfl ok_X_impl_WayFault
noncomputable def cf_slices_Clone_byte_byte : CallF := cfn
noncomputable def X_slices_Clone_byte_byte : List Value → Mem → Option VM
 | [t0], m =>
  (nlX .eql t0) |> bo fun t4 =>
  brX t4
   (
    retK m.length m [t0] (.slice none 0 0))
   (
    ((bslX m 0 1 [.int .u8 0] []) |> bo fun r => some (.slice none 0 0, r.2)) |> bo fun r2 =>
    (apL r2.2 1 1 r2.1 t0) |> bo fun r3 =>
    retK m.length r3.2 [t0] r3.1)
 | _, _ => none
theorem cok_slices_Clone_byte_byte : codeOk CT.l0 Try.f143 (Try.f143.body.get rfl) = true := by kernel_rfl
theorem xe_slices_Clone_byte_byte (t0 : Value) (m : Mem) : ex CT.l0 cf_slices_Clone_byte_byte Try.f143 1 m.length [] (fun _ _ _ => none) 400 [.code (Try.f143.body.get rfl)] (argsT 0 [t0]) m = X_slices_Clone_byte_byte [t0] m := by kernel_rfl
theorem okc_slices_Clone_byte_byte : CallOK CT.l0 cf_slices_Clone_byte_byte := cfn_ok
theorem ok_X_slices_Clone_byte_byte : OkX CT.l0 143 X_slices_Clone_byte_byte := OkX.of_ex (cf := cf_slices_Clone_byte_byte) (np := 1) (LL := []) (J := (fun _ _ _ _ => none)) CT_ok.l0 rfl Try.func143 rfl (Nat.le_of_ble_eq_true rfl) (by decide) cok_slices_Clone_byte_byte okc_slices_Clone_byte_byte (fun k => noLoops rfl) (fun args m r h => match args, h with
  | [t0], h => ⟨rfl, (xe_slices_Clone_byte_byte t0 m).trans h⟩)
noncomputable def C_slices_Clone_byte_byte : List Value → Mem → Option VM := cloneC0 1
@[simp] theorem c_slices_Clone_byte_byte : C_slices_Clone_byte_byte = cloneC0 1 := (rfl)
theorem cl0_slices_Clone_byte_byte : X_slices_Clone_byte_byte [.float .f64 0] [] = some (.slice none 0 0, []) := by simp -implicitDefEqProofs [X_slices_Clone_byte_byte, retK_eq]
theorem cl1_slices_Clone_byte_byte : X_slices_Clone_byte_byte [.float .f64 1] [] = some (.slice none 0 0, []) := by simp -implicitDefEqProofs [X_slices_Clone_byte_byte, retK_eq, apL_nil0]
theorem cl2_slices_Clone_byte_byte (len : Nat) (cs : Array Value) (hl : len ≠ 0) (hs : cs.size = len * 1) (hk : len < 1000000000) (hh : cs.toList.all hard = true) : X_slices_Clone_byte_byte [.iface len (.agg cs)] [] = some (.slice (some ⟨0, 0, none⟩) len len, [⟨cs.toList, 1, true, true⟩]) := by
 have ha := fun m => apL_nagg (m := m) (sz := 1) (bytes := 1) hs hl hk (by omega)
 simp -implicitDefEqProofs [X_slices_Clone_byte_byte, retK_eq, ha, hl, hard_all hh]
theorem ok_C_slices_Clone_byte_byte : OkC CT 143 C_slices_Clone_byte_byte := cloneC0_ok rfl ok_X_slices_Clone_byte_byte cl0_slices_Clone_byte_byte cl1_slices_Clone_byte_byte cl2_slices_Clone_byte_byte
noncomputable def cf_impl_Line_clone : CallF := cfc 143 C_slices_Clone_byte_byte cfn
noncomputable def L_impl_Line_clone (k : Nat) : Nat → Nat → List Value → Mem → Option VM
 | q + 1, 0, [t1, t2, t3, t8, t9, t10], m =>
  (binX .lss .no t10 t9) |> bo fun t11 =>
  brX t11
   (
    (ixaX 1 t8 t10) |> bo fun t12 =>
    (ld1 m t12) |> bo fun t13 =>
    (C_slices_Clone_byte_byte [t13] m) |> bo fun r4 =>
    (bslX r4.2 1 1 [.slice none 0 0] [(0, 1, r4.1)]) |> bo fun r5 =>
    (apL r5.2 1 24 t3 r5.1) |> bo fun r6 =>
    (binX .add .no t10 (.int .i64 1)) |> bo fun t19 =>
    cutK k r6.2 [] [t1, t2, r6.1, t8, t9, t19] (L_impl_Line_clone k q 0))
   (
    (fadX 1 t1) |> bo fun t21 =>
    (ld1 m t21) |> bo fun t22 =>
    (C_slices_Clone_byte_byte [t22] m) |> bo fun r10 =>
    (fadX 0 t1) |> bo fun t24 =>
    (stX r10.2 1 t24 t3) |> bo fun m12 =>
    (fadX 1 t1) |> bo fun t25 =>
    (stX m12 1 t25 r10.1) |> bo fun m14 =>
    (ldS m14 4 t1) |> bo fun t26 =>
    (stX m14 4 t2 t26) |> bo fun m16 =>
    (resP (some 4) m16 t2) |> bo fun c17 =>
    retK k m16 [] c17)
 | _, _, _, _ => none
noncomputable def J_impl_Line_clone (k q l : Nat) : List Value → Mem → Option VM := cond (Nat.beq l 3) (L_impl_Line_clone k q 0) (fun _ _ => none)
def LL_impl_Line_clone : List (Nat × List Tmp) := [(3, [1, 2, 3, 8, 9, 10])]
noncomputable def X_impl_Line_clone : List Value → Mem → Option VM
 | [t0], m =>
  (boxX m t0) |> bo fun r1 =>
  (alX r1.2 [.slice none 0 0, .slice none 0 0, .bool false, .int .i64 0]) |> bo fun r2 =>
  (bslX r2.2 0 1 [.slice none 0 0] []) |> bo fun r3 =>
  (fadX 0 r1.1) |> bo fun t7 =>
  (ld1 r3.2 t7) |> bo fun t8 =>
  (lenX t8) |> bo fun t9 =>
  cutK m.length r3.2 [t0] [r1.1, r2.1, r3.1, t8, t9, (.int .i64 0)] (L_impl_Line_clone m.length QQ 0)
 | _, _ => none
noncomputable def C_impl_Line_clone : List Value → Mem → Option VM := fcall X_impl_Line_clone
@[simp] theorem c_impl_Line_clone : C_impl_Line_clone = fcall X_impl_Line_clone := (rfl)
theorem cok_impl_Line_clone : codeOk CT Try.f103 (Try.f103.body.get rfl) = true := by kernel_rfl
theorem xe_impl_Line_clone (t0 : Value) (m : Mem) : ex CT cf_impl_Line_clone Try.f103 1 m.length LL_impl_Line_clone (J_impl_Line_clone m.length QQ) 400 [.code (Try.f103.body.get rfl)] (argsT 0 [t0]) m = X_impl_Line_clone [t0] m := by kernel_rfl
theorem okc_impl_Line_clone : CallOK CT cf_impl_Line_clone := cfc_ok ok_C_slices_Clone_byte_byte cfn_ok
theorem le_impl_Line_clone_0 (k q : Nat) (t1 t2 t3 t8 t9 t10 : Value) (m : Mem) : ex CT cf_impl_Line_clone Try.f103 1 k LL_impl_Line_clone (J_impl_Line_clone k q) 400 (atLoop Try.f103 0) [(1, t1), (2, t2), (3, t3), (8, t8), (9, t9), (10, t10)] m = J_impl_Line_clone k (q + 1) 3 [t1, t2, t3, t8, t9, t10] m := by kernel_rfl
theorem gl_impl_Line_clone (k : Nat) : ∀ q i, i < 1 → GoodL CT k Try.f103 LL_impl_Line_clone (J_impl_Line_clone k q) (atLoop Try.f103 i)
 | 0, 0, _ => goodL_zero (l := 3) (by kernel_rfl) (fun vs m => by kernel_rfl)
 | 0, _ + 1, h => absurd h (by omega)
 | q + 1, 0, _ => goodL_succ (np := 1) (l := 3) (live := [1, 2, 3, 8, 9, 10]) (n := 1) CT_ok rfl okc_impl_Line_clone (c := (Try.f103.body.get rfl)) rfl cok_impl_Line_clone (by kernel_rfl) (gl_impl_Line_clone k q) (by kernel_rfl) rfl (fun vs m r hl h => match vs, hl with
  | [t1, t2, t3, t8, t9, t10], _ => (le_impl_Line_clone_0 k q t1 t2 t3 t8 t9 t10 m).trans h)
 | _ + 1, _ + 1, h => absurd h (by omega)
theorem ok_X_impl_Line_clone : OkX CT 103 X_impl_Line_clone := OkX.of_ex (cf := cf_impl_Line_clone) (np := 1) (LL := LL_impl_Line_clone) (J := (fun k => J_impl_Line_clone k QQ)) CT_ok rfl Try.func103 rfl (Nat.le_of_ble_eq_true rfl) (by decide) cok_impl_Line_clone okc_impl_Line_clone (fun k => allLoops rfl (by kernel_rfl) (gl_impl_Line_clone k QQ)) (fun args m r h => match args, h with
  | [t0], h => ⟨rfl, (xe_impl_Line_clone t0 m).trans h⟩)
theorem ok_C_impl_Line_clone : OkC CT 103 C_impl_Line_clone := fcall_ok rfl ok_X_impl_Line_clone
noncomputable def cf_impl_Way_has : CallF := cfn
noncomputable def X_impl_Way_has : List Value → Mem → Option VM
 | [t0, t1], m =>
  (boxX m t0) |> bo fun r1 =>
  (fadX 0 r1.1) |> bo fun t5 =>
  (ld1 r1.2 t5) |> bo fun t6 =>
  (binX .and .no t6 t1) |> bo fun t8 =>
  (binX .eql .no t8 t1) |> bo fun t10 =>
  retK m.length r1.2 [t0, t1] t10
 | _, _ => none
noncomputable def C_impl_Way_has : List Value → Mem → Option VM := fcall X_impl_Way_has
@[simp] theorem c_impl_Way_has : C_impl_Way_has = fcall X_impl_Way_has := (rfl)
theorem cok_impl_Way_has : codeOk CT Try.f144 (Try.f144.body.get rfl) = true := by kernel_rfl
theorem xe_impl_Way_has (t0 t1 : Value) (m : Mem) : ex CT cf_impl_Way_has Try.f144 2 m.length [] (fun _ _ _ => none) 400 [.code (Try.f144.body.get rfl)] (argsT 0 [t0, t1]) m = X_impl_Way_has [t0, t1] m := by kernel_rfl
theorem okc_impl_Way_has : CallOK CT cf_impl_Way_has := cfn_ok
theorem ok_X_impl_Way_has : OkX CT 144 X_impl_Way_has := OkX.of_ex (cf := cf_impl_Way_has) (np := 2) (LL := []) (J := (fun _ _ _ _ => none)) CT_ok rfl Try.func144 rfl (Nat.le_of_ble_eq_true rfl) (by decide) cok_impl_Way_has okc_impl_Way_has (fun k => noLoops rfl) (fun args m r h => match args, h with
  | [t0, t1], h => ⟨rfl, (xe_impl_Way_has t0 t1 m).trans h⟩)
theorem ok_C_impl_Way_has : OkC CT 144 C_impl_Way_has := fcall_ok rfl ok_X_impl_Way_has
noncomputable def cf_impl_feeder_show : CallF := cfc 144 C_impl_Way_has cfn
noncomputable def X_impl_feeder_show : List Value → Mem → Option VM
 | [t0, t1], m =>
  (nilX t0) |> bo fun t5 =>
  (fadX 0 t5) |> bo fun t6 =>
  (ldS m 7 t6) |> bo fun t7 =>
  (C_impl_Way_has [t7, (.int .i64 2)] m) |> bo fun r4 =>
  brX r4.1
   (
    (nilX t0) |> bo fun t11 =>
    (fadX 11 t11) |> bo fun t12 =>
    (ld1 r4.2 t12) |> bo fun t13 =>
    (apL r4.2 1 1 t13 t1) |> bo fun r8 =>
    (nilX t0) |> bo fun t16 =>
    (fadX 11 t16) |> bo fun t17 =>
    (stX r8.2 1 t17 r8.1) |> bo fun m11 =>
    some ((.tuple #[]), m11))
   (
    some ((.tuple #[]), r4.2))
 | _, _ => none
noncomputable def C_impl_feeder_show : List Value → Mem → Option VM := dcall X_impl_feeder_show
@[simp] theorem c_impl_feeder_show : C_impl_feeder_show = dcall X_impl_feeder_show := (rfl)
theorem cok_impl_feeder_show : codeOk CT Try.f188 (Try.f188.body.get rfl) = true := by kernel_rfl
theorem xe_impl_feeder_show (t0 t1 : Value) (m : Mem) : exD CT cf_impl_feeder_show Try.f188 m.length [] (fun _ _ _ => none) 400 [.code (Try.f188.body.get rfl)] (argsT 0 [t0, t1]) m = X_impl_feeder_show [t0, t1] m := by kernel_rfl
theorem okc_impl_feeder_show : CallOK CT cf_impl_feeder_show := cfc_ok ok_C_impl_Way_has cfn_ok
theorem ok_X_impl_feeder_show : OkX CT 188 X_impl_feeder_show := OkX.of_exD (cf := cf_impl_feeder_show) (np := 2) (LL := []) (J := (fun _ _ _ _ => none)) CT_ok rfl Try.func188 rfl (Nat.le_of_ble_eq_true rfl) (by decide) cok_impl_feeder_show okc_impl_feeder_show (fun k => noLoops rfl) (fun args m r h => match args, h with
  | [t0, t1], h => ⟨rfl, (xe_impl_feeder_show t0 t1 m).trans h⟩)
theorem ok_C_impl_feeder_show : OkC CT 188 C_impl_feeder_show := dcall_ok rfl ok_X_impl_feeder_show
noncomputable def cf_impl_Way_shown : CallF := cfc 144 C_impl_Way_has cfn
noncomputable def X_impl_Way_shown : List Value → Mem → Option VM
 | [t0, t1], m =>
  (boxX m t0) |> bo fun r1 =>
  (ldS r1.2 7 r1.1) |> bo fun t5 =>
  (C_impl_Way_has [t5, (.int .i64 16)] r1.2) |> bo fun r3 =>
  (gd r3.1 true (some (t1, r3.2)) r3.2) |> bo fun r4 =>
  (gd r3.1 true ((binX .lss .no r4.1 (.int .u8 32)) |> bo fun v => some (v, r4.2)) r4.2) |> bo fun r5 =>
  (gd r3.1 true (some (r5.1, r5.2)) r5.2) |> bo fun r6 =>
  (gd r6.1 true (some (t1, r6.2)) r6.2) |> bo fun r7 =>
  (gd r6.1 true ((binX .neq .no r7.1 (.int .u8 9)) |> bo fun v => some (v, r7.2)) r7.2) |> bo fun r8 =>
  (gd r3.1 true ((pickX r6.1 r8.1 (.bool false)) |> bo fun v => some (v, r8.2)) r8.2) |> bo fun r9 =>
  (gd r3.1 true (some (r9.1, r9.2)) r9.2) |> bo fun r10 =>
  (gd r10.1 true (some (t1, r10.2)) r10.2) |> bo fun r11 =>
  (gd r10.1 true ((binX .neq .no r11.1 (.int .u8 10)) |> bo fun v => some (v, r11.2)) r11.2) |> bo fun r12 =>
  (gd r3.1 true ((pickX r10.1 r12.1 (.bool false)) |> bo fun v => some (v, r12.2)) r12.2) |> bo fun r13 =>
  (gd r3.1 true (some (r13.1, r13.2)) r13.2) |> bo fun r14 =>
  (gd r14.1 false (some (t1, r14.2)) r14.2) |> bo fun r15 =>
  (gd r14.1 false ((binX .eql .no r15.1 (.int .u8 127)) |> bo fun v => some (v, r15.2)) r15.2) |> bo fun r16 =>
  (gd r3.1 true ((pickX r14.1 (.bool true) r16.1) |> bo fun v => some (v, r16.2)) r16.2) |> bo fun r17 =>
  (pickX r3.1 r17.1 (.bool false)) |> bo fun t22 =>
  brX t22
   (
    (binX .xor .no t1 (.int .u8 64)) |> bo fun t24 =>
    (bslX r17.2 2 1 [.int .u8 0] [(0, 1, (.int .u8 94)), (1, 1, t24)]) |> bo fun r20 =>
    retK m.length r20.2 [t0, t1] r20.1)
   (
    (bslX r17.2 1 1 [.int .u8 0] [(0, 1, t1)]) |> bo fun r21 =>
    retK m.length r21.2 [t0, t1] r21.1)
 | _, _ => none
noncomputable def C_impl_Way_shown : List Value → Mem → Option VM := fcall X_impl_Way_shown
@[simp] theorem c_impl_Way_shown : C_impl_Way_shown = fcall X_impl_Way_shown := (rfl)
theorem cok_impl_Way_shown : codeOk CT Try.f189 (Try.f189.body.get rfl) = true := by kernel_rfl
theorem xe_impl_Way_shown (t0 t1 : Value) (m : Mem) : ex CT cf_impl_Way_shown Try.f189 2 m.length [] (fun _ _ _ => none) 400 [.code (Try.f189.body.get rfl)] (argsT 0 [t0, t1]) m = X_impl_Way_shown [t0, t1] m := by kernel_rfl
theorem okc_impl_Way_shown : CallOK CT cf_impl_Way_shown := cfc_ok ok_C_impl_Way_has cfn_ok
theorem ok_X_impl_Way_shown : OkX CT 189 X_impl_Way_shown := OkX.of_ex (cf := cf_impl_Way_shown) (np := 2) (LL := []) (J := (fun _ _ _ _ => none)) CT_ok rfl Try.func189 rfl (Nat.le_of_ble_eq_true rfl) (by decide) cok_impl_Way_shown okc_impl_Way_shown (fun k => noLoops rfl) (fun args m r h => match args, h with
  | [t0, t1], h => ⟨rfl, (xe_impl_Way_shown t0 t1 m).trans h⟩)
theorem ok_C_impl_Way_shown : OkC CT 189 C_impl_Way_shown := fcall_ok rfl ok_X_impl_Way_shown
noncomputable def cf_impl_feeder_showByte : CallF := cfc 188 C_impl_feeder_show (cfc 189 C_impl_Way_shown cfn)
noncomputable def X_impl_feeder_showByte : List Value → Mem → Option VM
 | [t0, t1], m =>
  (nilX t0) |> bo fun t6 =>
  (fadX 0 t6) |> bo fun t7 =>
  (ldS m 7 t7) |> bo fun t8 =>
  (C_impl_Way_shown [t8, t1] m) |> bo fun r4 =>
  (C_impl_feeder_show [t0, r4.1] r4.2) |> bo fun r5 =>
  some ((.tuple #[]), r5.2)
 | _, _ => none
noncomputable def C_impl_feeder_showByte : List Value → Mem → Option VM := dcall X_impl_feeder_showByte
@[simp] theorem c_impl_feeder_showByte : C_impl_feeder_showByte = dcall X_impl_feeder_showByte := (rfl)
theorem cok_impl_feeder_showByte : codeOk CT Try.f147 (Try.f147.body.get rfl) = true := by kernel_rfl
theorem xe_impl_feeder_showByte (t0 t1 : Value) (m : Mem) : exD CT cf_impl_feeder_showByte Try.f147 m.length [] (fun _ _ _ => none) 400 [.code (Try.f147.body.get rfl)] (argsT 0 [t0, t1]) m = X_impl_feeder_showByte [t0, t1] m := by kernel_rfl
theorem okc_impl_feeder_showByte : CallOK CT cf_impl_feeder_showByte := cfc_ok ok_C_impl_feeder_show (cfc_ok ok_C_impl_Way_shown cfn_ok)
theorem ok_X_impl_feeder_showByte : OkX CT 147 X_impl_feeder_showByte := OkX.of_exD (cf := cf_impl_feeder_showByte) (np := 2) (LL := []) (J := (fun _ _ _ _ => none)) CT_ok rfl Try.func147 rfl (Nat.le_of_ble_eq_true rfl) (by decide) cok_impl_feeder_showByte okc_impl_feeder_showByte (fun k => noLoops rfl) (fun args m r h => match args, h with
  | [t0, t1], h => ⟨rfl, (xe_impl_feeder_showByte t0 t1 m).trans h⟩)
theorem ok_C_impl_feeder_showByte : OkC CT 147 C_impl_feeder_showByte := dcall_ok rfl ok_X_impl_feeder_showByte
noncomputable def cf_impl_feeder_room : CallF := cfc 66 C_impl_Line_size cfn
noncomputable def X_impl_feeder_room : List Value → Mem → Option VM
 | [t0, t1], m =>
  (nilX t0) |> bo fun t6 =>
  (fadX 7 t6) |> bo fun t7 =>
  (ldS m 4 t7) |> bo fun t8 =>
  (C_impl_Line_size [t8] m) |> bo fun r4 =>
  (binX .add .no r4.1 t1) |> bo fun t11 =>
  (binX .leq .no t11 (.int .i64 40)) |> bo fun t12 =>
  retK m.length r4.2 [t0, t1] t12
 | _, _ => none
noncomputable def C_impl_feeder_room : List Value → Mem → Option VM := fcall X_impl_feeder_room
@[simp] theorem c_impl_feeder_room : C_impl_feeder_room = fcall X_impl_feeder_room := (rfl)
theorem cok_impl_feeder_room : codeOk CT Try.f148 (Try.f148.body.get rfl) = true := by kernel_rfl
theorem xe_impl_feeder_room (t0 t1 : Value) (m : Mem) : ex CT cf_impl_feeder_room Try.f148 2 m.length [] (fun _ _ _ => none) 400 [.code (Try.f148.body.get rfl)] (argsT 0 [t0, t1]) m = X_impl_feeder_room [t0, t1] m := by kernel_rfl
theorem okc_impl_feeder_room : CallOK CT cf_impl_feeder_room := cfc_ok ok_C_impl_Line_size cfn_ok
theorem ok_X_impl_feeder_room : OkX CT 148 X_impl_feeder_room := OkX.of_ex (cf := cf_impl_feeder_room) (np := 2) (LL := []) (J := (fun _ _ _ _ => none)) CT_ok rfl Try.func148 rfl (Nat.le_of_ble_eq_true rfl) (by decide) cok_impl_feeder_room okc_impl_feeder_room (fun k => noLoops rfl) (fun args m r h => match args, h with
  | [t0, t1], h => ⟨rfl, (xe_impl_feeder_room t0 t1 m).trans h⟩)
theorem ok_C_impl_feeder_room : OkC CT 148 C_impl_feeder_room := fcall_ok rfl ok_X_impl_feeder_room
noncomputable def cf_impl_feeder_take : CallF := cfc 147 C_impl_feeder_showByte (cfc 148 C_impl_feeder_room cfn)
noncomputable def X_impl_feeder_take : List Value → Mem → Option VM
 | [t0, t1], m =>
  (C_impl_feeder_room [t0, (.int .i64 2)] m) |> bo fun r1 =>
  brX r1.1
   (
    (nilX t0) |> bo fun t8 =>
    (fadX 7 t8) |> bo fun t9 =>
    (fadX 1 t9) |> bo fun t10 =>
    (ld1 r1.2 t10) |> bo fun t11 =>
    (bslX r1.2 1 1 [.int .u8 0] [(0, 1, t1)]) |> bo fun r6 =>
    (apL r6.2 1 1 t11 r6.1) |> bo fun r7 =>
    (nilX t0) |> bo fun t15 =>
    (fadX 7 t15) |> bo fun t16 =>
    (fadX 1 t16) |> bo fun t17 =>
    (stX r7.2 1 t17 r7.1) |> bo fun m11 =>
    (C_impl_feeder_showByte [t0, t1] m11) |> bo fun r12 =>
    some ((.tuple #[]), r12.2))
   (
    some ((.tuple #[]), r1.2))
 | _, _ => none
noncomputable def C_impl_feeder_take : List Value → Mem → Option VM := dcall X_impl_feeder_take
@[simp] theorem c_impl_feeder_take : C_impl_feeder_take = dcall X_impl_feeder_take := (rfl)
theorem cok_impl_feeder_take : codeOk CT Try.f145 (Try.f145.body.get rfl) = true := by kernel_rfl
theorem xe_impl_feeder_take (t0 t1 : Value) (m : Mem) : exD CT cf_impl_feeder_take Try.f145 m.length [] (fun _ _ _ => none) 400 [.code (Try.f145.body.get rfl)] (argsT 0 [t0, t1]) m = X_impl_feeder_take [t0, t1] m := by kernel_rfl
theorem okc_impl_feeder_take : CallOK CT cf_impl_feeder_take := cfc_ok ok_C_impl_feeder_showByte (cfc_ok ok_C_impl_feeder_room cfn_ok)
theorem ok_X_impl_feeder_take : OkX CT 145 X_impl_feeder_take := OkX.of_exD (cf := cf_impl_feeder_take) (np := 2) (LL := []) (J := (fun _ _ _ _ => none)) CT_ok rfl Try.func145 rfl (Nat.le_of_ble_eq_true rfl) (by decide) cok_impl_feeder_take okc_impl_feeder_take (fun k => noLoops rfl) (fun args m r h => match args, h with
  | [t0, t1], h => ⟨rfl, (xe_impl_feeder_take t0 t1 m).trans h⟩)
theorem ok_C_impl_feeder_take : OkC CT 145 C_impl_feeder_take := dcall_ok rfl ok_X_impl_feeder_take
noncomputable def cf_impl_is : CallF := cfn
noncomputable def X_impl_is : List Value → Mem → Option VM
 | [t0, t1], m =>
  (binX .neq .no t1 (.int .i64 0)) |> bo fun t6 =>
  (gd t6 true (some (t0, m)) m) |> bo fun r2 =>
  (gd t6 true ((cvI .i64 r2.1) |> bo fun v => some (v, r2.2)) r2.2) |> bo fun r3 =>
  (gd t6 true (some (t1, r3.2)) r3.2) |> bo fun r4 =>
  (gd t6 true ((binX .eql .no r3.1 r4.1) |> bo fun v => some (v, r4.2)) r4.2) |> bo fun r5 =>
  (pickX t6 r5.1 (.bool false)) |> bo fun t12 =>
  retK m.length r5.2 [t0, t1] t12
 | _, _ => none
noncomputable def C_impl_is : List Value → Mem → Option VM := fcall X_impl_is
@[simp] theorem c_impl_is : C_impl_is = fcall X_impl_is := (rfl)
theorem cok_impl_is : codeOk CT Try.f146 (Try.f146.body.get rfl) = true := by kernel_rfl
theorem xe_impl_is (t0 t1 : Value) (m : Mem) : ex CT cf_impl_is Try.f146 2 m.length [] (fun _ _ _ => none) 400 [.code (Try.f146.body.get rfl)] (argsT 0 [t0, t1]) m = X_impl_is [t0, t1] m := by kernel_rfl
theorem okc_impl_is : CallOK CT cf_impl_is := cfn_ok
theorem ok_X_impl_is : OkX CT 146 X_impl_is := OkX.of_ex (cf := cf_impl_is) (np := 2) (LL := []) (J := (fun _ _ _ _ => none)) CT_ok rfl Try.func146 rfl (Nat.le_of_ble_eq_true rfl) (by decide) cok_impl_is okc_impl_is (fun k => noLoops rfl) (fun args m r h => match args, h with
  | [t0, t1], h => ⟨rfl, (xe_impl_is t0 t1 m).trans h⟩)
theorem ok_C_impl_is : OkC CT 146 C_impl_is := fcall_ok rfl ok_X_impl_is
noncomputable def cf_impl_feeder_piece : CallF := cfn
noncomputable def X_impl_feeder_piece : List Value → Mem → Option VM
 | [t0], m =>
  (nilX t0) |> bo fun t4 =>
  (fadX 7 t4) |> bo fun t5 =>
  (fadX 0 t5) |> bo fun t6 =>
  (ld1 m t6) |> bo fun t7 =>
  (lenX t7) |> bo fun t8 =>
  (binX .lss .no t8 (.int .i64 40)) |> bo fun t9 =>
  retK m.length m [t0] t9
 | _, _ => none
noncomputable def C_impl_feeder_piece : List Value → Mem → Option VM := fcall X_impl_feeder_piece
@[simp] theorem c_impl_feeder_piece : C_impl_feeder_piece = fcall X_impl_feeder_piece := (rfl)
theorem cok_impl_feeder_piece : codeOk CT Try.f149 (Try.f149.body.get rfl) = true := by kernel_rfl
theorem xe_impl_feeder_piece (t0 : Value) (m : Mem) : ex CT cf_impl_feeder_piece Try.f149 1 m.length [] (fun _ _ _ => none) 400 [.code (Try.f149.body.get rfl)] (argsT 0 [t0]) m = X_impl_feeder_piece [t0] m := by kernel_rfl
theorem okc_impl_feeder_piece : CallOK CT cf_impl_feeder_piece := cfn_ok
theorem ok_X_impl_feeder_piece : OkX CT 149 X_impl_feeder_piece := OkX.of_ex (cf := cf_impl_feeder_piece) (np := 1) (LL := []) (J := (fun _ _ _ _ => none)) CT_ok rfl Try.func149 rfl (Nat.le_of_ble_eq_true rfl) (by decide) cok_impl_feeder_piece okc_impl_feeder_piece (fun k => noLoops rfl) (fun args m r h => match args, h with
  | [t0], h => ⟨rfl, (xe_impl_feeder_piece t0 m).trans h⟩)
theorem ok_C_impl_feeder_piece : OkC CT 149 C_impl_feeder_piece := fcall_ok rfl ok_X_impl_feeder_piece
noncomputable def cf_impl_feeder_dropChar : CallF := cfc 144 C_impl_Way_has (cfc 188 C_impl_feeder_show (cfc 189 C_impl_Way_shown cfn))
noncomputable def L_impl_feeder_dropChar (k : Nat) : Nat → Nat → List Value → Mem → Option VM
 | q + 1, 0, [t0, t2], m =>
  (binX .gtr .no t2 (.int .i64 0)) |> bo fun t12 =>
  (gd t12 true (some (t0, m)) m) |> bo fun r2 =>
  (gd t12 true ((nilX r2.1) |> bo fun v => some (v, r2.2)) r2.2) |> bo fun r3 =>
  (gd t12 true ((fadX 7 r3.1) |> bo fun v => some (v, r3.2)) r3.2) |> bo fun r4 =>
  (gd t12 true ((fadX 1 r4.1) |> bo fun v => some (v, r4.2)) r4.2) |> bo fun r5 =>
  (gd t12 true ((ld1 r5.2 r5.1) |> bo fun v => some (v, r5.2)) r5.2) |> bo fun r6 =>
  (gd t12 true (some (t2, r6.2)) r6.2) |> bo fun r7 =>
  (gd t12 true ((ixaX 1 r6.1 r7.1) |> bo fun v => some (v, r7.2)) r7.2) |> bo fun r8 =>
  (gd t12 true ((ld1 r8.2 r8.1) |> bo fun v => some (v, r8.2)) r8.2) |> bo fun r9 =>
  (gd t12 true ((binX .and .no r9.1 (.int .u8 192)) |> bo fun v => some (v, r9.2)) r9.2) |> bo fun r10 =>
  (gd t12 true ((binX .eql .no r10.1 (.int .u8 128)) |> bo fun v => some (v, r10.2)) r10.2) |> bo fun r11 =>
  (pickX t12 r11.1 (.bool false)) |> bo fun t24 =>
  brX t24
   (
    (binX .sub .no t2 (.int .i64 1)) |> bo fun t26 =>
    (L_impl_feeder_dropChar k q 0) [t0, t26] r11.2)
   (
    (nilX t0) |> bo fun t28 =>
    (fadX 0 t28) |> bo fun t29 =>
    (ldS r11.2 7 t29) |> bo fun t30 =>
    (nilX t0) |> bo fun t32 =>
    (fadX 7 t32) |> bo fun t33 =>
    (fadX 1 t33) |> bo fun t34 =>
    (ld1 r11.2 t34) |> bo fun t35 =>
    (ixaX 1 t35 t2) |> bo fun t37 =>
    (ld1 r11.2 t37) |> bo fun t38 =>
    (C_impl_Way_shown [t30, t38] r11.2) |> bo fun r23 =>
    (lenX r23.1) |> bo fun t40 =>
    (binX .eql .no t40 (.int .i64 2)) |> bo fun t41 =>
    brX t41
     (
      (nilX t0) |> bo fun t44 =>
      (fadX 7 t44) |> bo fun t45 =>
      (fadX 1 t45) |> bo fun t46 =>
      (ld1 r23.2 t46) |> bo fun t47 =>
      (slX r23.2 1 t47 none (some t2)) |> bo fun t49 =>
      (nilX t0) |> bo fun t50 =>
      (fadX 7 t50) |> bo fun t51 =>
      (fadX 1 t51) |> bo fun t52 =>
      (stX r23.2 1 t52 t49) |> bo fun m34 =>
      (L_impl_feeder_dropChar k q 1) [t0, (.int .i64 2)] m34)
     (
      (nilX t0) |> bo fun t44 =>
      (fadX 7 t44) |> bo fun t45 =>
      (fadX 1 t45) |> bo fun t46 =>
      (ld1 r23.2 t46) |> bo fun t47 =>
      (slX r23.2 1 t47 none (some t2)) |> bo fun t49 =>
      (nilX t0) |> bo fun t50 =>
      (fadX 7 t50) |> bo fun t51 =>
      (fadX 1 t51) |> bo fun t52 =>
      (stX r23.2 1 t52 t49) |> bo fun m43 =>
      (L_impl_feeder_dropChar k q 1) [t0, (.int .i64 1)] m43))
 | q + 1, 1, [t0, t3], m =>
  (nilX t0) |> bo fun t54 =>
  (fadX 0 t54) |> bo fun t55 =>
  (ldS m 7 t55) |> bo fun t56 =>
  (C_impl_Way_has [t56, (.int .i64 4)] m) |> bo fun r4 =>
  (gd r4.1 true (some (t3, r4.2)) r4.2) |> bo fun r5 =>
  (gd r4.1 true ((binX .gtr .no r5.1 (.int .i64 0)) |> bo fun v => some (v, r5.2)) r5.2) |> bo fun r6 =>
  (pickX r4.1 r6.1 (.bool false)) |> bo fun t61 =>
  brX t61
   (
    (bslX r6.2 3 1 [.int .u8 0] [(0, 1, (.int .u8 8)), (1, 1, (.int .u8 32)), (2, 1, (.int .u8 8))]) |> bo fun r8 =>
    (C_impl_feeder_show [t0, r8.1] r8.2) |> bo fun r9 =>
    (binX .sub .no t3 (.int .i64 1)) |> bo fun t66 =>
    (L_impl_feeder_dropChar k q 1) [t0, t66] r9.2)
   (
    some ((.tuple #[]), r6.2))
 | _, _, _, _ => none
noncomputable def J_impl_feeder_dropChar (k q l : Nat) : List Value → Mem → Option VM := cond (Nat.beq l 1) (L_impl_feeder_dropChar k q 0) (cond (Nat.beq l 7) (L_impl_feeder_dropChar k q 1) (fun _ _ => none))
def LL_impl_feeder_dropChar : List (Nat × List Tmp) := [(1, [0, 2]), (7, [0, 3])]
noncomputable def X_impl_feeder_dropChar : List Value → Mem → Option VM
 | [t0], m =>
  (nilX t0) |> bo fun t5 =>
  (fadX 7 t5) |> bo fun t6 =>
  (fadX 1 t6) |> bo fun t7 =>
  (ld1 m t7) |> bo fun t8 =>
  (lenX t8) |> bo fun t9 =>
  (binX .sub .no t9 (.int .i64 1)) |> bo fun t10 =>
  (L_impl_feeder_dropChar m.length QQ 0) [t0, t10] m
 | _, _ => none
noncomputable def C_impl_feeder_dropChar : List Value → Mem → Option VM := dcall X_impl_feeder_dropChar
@[simp] theorem c_impl_feeder_dropChar : C_impl_feeder_dropChar = dcall X_impl_feeder_dropChar := (rfl)
theorem cok_impl_feeder_dropChar : codeOk CT Try.f190 (Try.f190.body.get rfl) = true := by kernel_rfl
theorem xe_impl_feeder_dropChar (t0 : Value) (m : Mem) : exD CT cf_impl_feeder_dropChar Try.f190 m.length LL_impl_feeder_dropChar (J_impl_feeder_dropChar m.length QQ) 400 [.code (Try.f190.body.get rfl)] (argsT 0 [t0]) m = X_impl_feeder_dropChar [t0] m := by kernel_rfl
theorem okc_impl_feeder_dropChar : CallOK CT cf_impl_feeder_dropChar := cfc_ok ok_C_impl_Way_has (cfc_ok ok_C_impl_feeder_show (cfc_ok ok_C_impl_Way_shown cfn_ok))
theorem le_impl_feeder_dropChar_0 (k q : Nat) (t0 t2 : Value) (m : Mem) : exD CT cf_impl_feeder_dropChar Try.f190 k LL_impl_feeder_dropChar (J_impl_feeder_dropChar k q) 400 (atLoop Try.f190 0) [(0, t0), (2, t2)] m = J_impl_feeder_dropChar k (q + 1) 1 [t0, t2] m := by kernel_rfl
theorem le_impl_feeder_dropChar_1 (k q : Nat) (t0 t3 : Value) (m : Mem) : exD CT cf_impl_feeder_dropChar Try.f190 k LL_impl_feeder_dropChar (J_impl_feeder_dropChar k q) 400 (atLoop Try.f190 1) [(0, t0), (3, t3)] m = J_impl_feeder_dropChar k (q + 1) 7 [t0, t3] m := by kernel_rfl
theorem gl_impl_feeder_dropChar (k : Nat) : ∀ q i, i < 2 → GoodL CT k Try.f190 LL_impl_feeder_dropChar (J_impl_feeder_dropChar k q) (atLoop Try.f190 i)
 | 0, 0, _ => goodL_zero (l := 1) (by kernel_rfl) (fun vs m => by kernel_rfl)
 | 0, 1, _ => goodL_zero (l := 7) (by kernel_rfl) (fun vs m => by kernel_rfl)
 | 0, _ + 2, h => absurd h (by omega)
 | q + 1, 0, _ => goodD_succ (l := 1) (live := [0, 2]) (n := 2) CT_ok rfl okc_impl_feeder_dropChar (c := (Try.f190.body.get rfl)) rfl cok_impl_feeder_dropChar (by kernel_rfl) (gl_impl_feeder_dropChar k q) (by kernel_rfl) rfl (fun vs m r hl h => match vs, hl with
  | [t0, t2], _ => (le_impl_feeder_dropChar_0 k q t0 t2 m).trans h)
 | q + 1, 1, _ => goodD_succ (l := 7) (live := [0, 3]) (n := 2) CT_ok rfl okc_impl_feeder_dropChar (c := (Try.f190.body.get rfl)) rfl cok_impl_feeder_dropChar (by kernel_rfl) (gl_impl_feeder_dropChar k q) (by kernel_rfl) rfl (fun vs m r hl h => match vs, hl with
  | [t0, t3], _ => (le_impl_feeder_dropChar_1 k q t0 t3 m).trans h)
 | _ + 1, _ + 2, h => absurd h (by omega)
theorem ok_X_impl_feeder_dropChar : OkX CT 190 X_impl_feeder_dropChar := OkX.of_exD (cf := cf_impl_feeder_dropChar) (np := 1) (LL := LL_impl_feeder_dropChar) (J := (fun k => J_impl_feeder_dropChar k QQ)) CT_ok rfl Try.func190 rfl (Nat.le_of_ble_eq_true rfl) (by decide) cok_impl_feeder_dropChar okc_impl_feeder_dropChar (fun k => allLoops rfl (by kernel_rfl) (gl_impl_feeder_dropChar k QQ)) (fun args m r h => match args, h with
  | [t0], h => ⟨rfl, (xe_impl_feeder_dropChar t0 m).trans h⟩)
theorem ok_C_impl_feeder_dropChar : OkC CT 190 C_impl_feeder_dropChar := dcall_ok rfl ok_X_impl_feeder_dropChar
noncomputable def cf_impl_feeder_erase_1 : CallF := cfn
noncomputable def X_impl_feeder_erase_1 : List Value → Mem → Option VM
 | [t0], m =>
  (binX .eql .no t0 (.int .u8 32)) |> bo fun t4 =>
  retK m.length m [t0] t4
 | _, _ => none
noncomputable def C_impl_feeder_erase_1 : List Value → Mem → Option VM := fcall X_impl_feeder_erase_1
@[simp] theorem c_impl_feeder_erase_1 : C_impl_feeder_erase_1 = fcall X_impl_feeder_erase_1 := (rfl)
theorem cok_impl_feeder_erase_1 : codeOk CT Try.f192 (Try.f192.body.get rfl) = true := by kernel_rfl
theorem xe_impl_feeder_erase_1 (t0 : Value) (m : Mem) : ex CT cf_impl_feeder_erase_1 Try.f192 1 m.length [] (fun _ _ _ => none) 400 [.code (Try.f192.body.get rfl)] (argsT 0 [t0]) m = X_impl_feeder_erase_1 [t0] m := by kernel_rfl
theorem okc_impl_feeder_erase_1 : CallOK CT cf_impl_feeder_erase_1 := cfn_ok
theorem ok_X_impl_feeder_erase_1 : OkX CT 192 X_impl_feeder_erase_1 := OkX.of_ex (cf := cf_impl_feeder_erase_1) (np := 1) (LL := []) (J := (fun _ _ _ _ => none)) CT_ok rfl Try.func192 rfl (Nat.le_of_ble_eq_true rfl) (by decide) cok_impl_feeder_erase_1 okc_impl_feeder_erase_1 (fun k => noLoops rfl) (fun args m r h => match args, h with
  | [t0], h => ⟨rfl, (xe_impl_feeder_erase_1 t0 m).trans h⟩)
theorem ok_C_impl_feeder_erase_1 : OkC CT 192 C_impl_feeder_erase_1 := fcall_ok rfl ok_X_impl_feeder_erase_1
noncomputable def cf_impl_feeder_erase_2 : CallF := cfn
noncomputable def X_impl_feeder_erase_2 : List Value → Mem → Option VM
 | [t0], m =>
  (binX .neq .no t0 (.int .u8 32)) |> bo fun t4 =>
  retK m.length m [t0] t4
 | _, _ => none
noncomputable def C_impl_feeder_erase_2 : List Value → Mem → Option VM := fcall X_impl_feeder_erase_2
@[simp] theorem c_impl_feeder_erase_2 : C_impl_feeder_erase_2 = fcall X_impl_feeder_erase_2 := (rfl)
theorem cok_impl_feeder_erase_2 : codeOk CT Try.f193 (Try.f193.body.get rfl) = true := by kernel_rfl
theorem xe_impl_feeder_erase_2 (t0 : Value) (m : Mem) : ex CT cf_impl_feeder_erase_2 Try.f193 1 m.length [] (fun _ _ _ => none) 400 [.code (Try.f193.body.get rfl)] (argsT 0 [t0]) m = X_impl_feeder_erase_2 [t0] m := by kernel_rfl
theorem okc_impl_feeder_erase_2 : CallOK CT cf_impl_feeder_erase_2 := cfn_ok
theorem ok_X_impl_feeder_erase_2 : OkX CT 193 X_impl_feeder_erase_2 := OkX.of_ex (cf := cf_impl_feeder_erase_2) (np := 1) (LL := []) (J := (fun _ _ _ _ => none)) CT_ok rfl Try.func193 rfl (Nat.le_of_ble_eq_true rfl) (by decide) cok_impl_feeder_erase_2 okc_impl_feeder_erase_2 (fun k => noLoops rfl) (fun args m r h => match args, h with
  | [t0], h => ⟨rfl, (xe_impl_feeder_erase_2 t0 m).trans h⟩)
theorem ok_C_impl_feeder_erase_2 : OkC CT 193 C_impl_feeder_erase_2 := fcall_ok rfl ok_X_impl_feeder_erase_2
noncomputable def cf_impl_feeder_erase_3 : CallF := cfn
noncomputable def X_impl_feeder_erase_3 : List Value → Mem → Option VM
 | [t0], m =>
  retK m.length m [t0] (.bool true)
 | _, _ => none
noncomputable def C_impl_feeder_erase_3 : List Value → Mem → Option VM := fcall X_impl_feeder_erase_3
@[simp] theorem c_impl_feeder_erase_3 : C_impl_feeder_erase_3 = fcall X_impl_feeder_erase_3 := (rfl)
theorem cok_impl_feeder_erase_3 : codeOk CT Try.f194 (Try.f194.body.get rfl) = true := by kernel_rfl
theorem xe_impl_feeder_erase_3 (t0 : Value) (m : Mem) : ex CT cf_impl_feeder_erase_3 Try.f194 1 m.length [] (fun _ _ _ => none) 400 [.code (Try.f194.body.get rfl)] (argsT 0 [t0]) m = X_impl_feeder_erase_3 [t0] m := by kernel_rfl
theorem okc_impl_feeder_erase_3 : CallOK CT cf_impl_feeder_erase_3 := cfn_ok
theorem ok_X_impl_feeder_erase_3 : OkX CT 194 X_impl_feeder_erase_3 := OkX.of_ex (cf := cf_impl_feeder_erase_3) (np := 1) (LL := []) (J := (fun _ _ _ _ => none)) CT_ok rfl Try.func194 rfl (Nat.le_of_ble_eq_true rfl) (by decide) cok_impl_feeder_erase_3 okc_impl_feeder_erase_3 (fun k => noLoops rfl) (fun args m r h => match args, h with
  | [t0], h => ⟨rfl, (xe_impl_feeder_erase_3 t0 m).trans h⟩)
theorem ok_C_impl_feeder_erase_3 : OkC CT 194 C_impl_feeder_erase_3 := fcall_ok rfl ok_X_impl_feeder_erase_3
noncomputable def cf_impl_feeder_drop : CallF := cfc 190 C_impl_feeder_dropChar (cfc 192 C_impl_feeder_erase_1 (cfc 193 C_impl_feeder_erase_2 (cfc 194 C_impl_feeder_erase_3 cfn)))
noncomputable def L_impl_feeder_drop (k : Nat) : Nat → Nat → List Value → Mem → Option VM
 | q + 1, 0, [t0, t1, t4], m =>
  (binX .gtr .no t4 (.int .i64 0)) |> bo fun t12 =>
  (gd t12 true (some (t1, m)) m) |> bo fun r2 =>
  (gd t12 true (some (t0, r2.2)) r2.2) |> bo fun r3 =>
  (gd t12 true ((nilX r3.1) |> bo fun v => some (v, r3.2)) r3.2) |> bo fun r4 =>
  (gd t12 true ((fadX 7 r4.1) |> bo fun v => some (v, r4.2)) r4.2) |> bo fun r5 =>
  (gd t12 true ((fadX 1 r5.1) |> bo fun v => some (v, r5.2)) r5.2) |> bo fun r6 =>
  (gd t12 true ((ld1 r6.2 r6.1) |> bo fun v => some (v, r6.2)) r6.2) |> bo fun r7 =>
  (gd t12 true (some (t4, r7.2)) r7.2) |> bo fun r8 =>
  (gd t12 true ((binX .sub .no r8.1 (.int .i64 1)) |> bo fun v => some (v, r8.2)) r8.2) |> bo fun r9 =>
  (gd t12 true ((ixaX 1 r7.1 r9.1) |> bo fun v => some (v, r9.2)) r9.2) |> bo fun r10 =>
  (gd t12 true ((ld1 r10.2 r10.1) |> bo fun v => some (v, r10.2)) r10.2) |> bo fun r11 =>
  (gd t12 true ((callV cf_impl_feeder_drop r2.1 [r11.1] r11.2) |> bo fun r => some (r.1, r.2)) r11.2) |> bo fun r12 =>
  (pickX t12 r12.1 (.bool false)) |> bo fun t25 =>
  brX t25
   (
    (C_impl_feeder_dropChar [t0] r12.2) |> bo fun r14 =>
    (nilX t0) |> bo fun t27 =>
    (fadX 7 t27) |> bo fun t28 =>
    (fadX 1 t28) |> bo fun t29 =>
    (ld1 r14.2 t29) |> bo fun t30 =>
    (lenX t30) |> bo fun t31 =>
    (L_impl_feeder_drop k q 0) [t0, t1, t31] r14.2)
   (
    some ((.tuple #[]), r12.2))
 | _, _, _, _ => none
noncomputable def J_impl_feeder_drop (k q l : Nat) : List Value → Mem → Option VM := cond (Nat.beq l 1) (L_impl_feeder_drop k q 0) (fun _ _ => none)
def LL_impl_feeder_drop : List (Nat × List Tmp) := [(1, [0, 1, 4])]
noncomputable def X_impl_feeder_drop : List Value → Mem → Option VM
 | [t0, t1], m =>
  (nilX t0) |> bo fun t6 =>
  (fadX 7 t6) |> bo fun t7 =>
  (fadX 1 t7) |> bo fun t8 =>
  (ld1 m t8) |> bo fun t9 =>
  (lenX t9) |> bo fun t10 =>
  (L_impl_feeder_drop m.length QQ 0) [t0, t1, t10] m
 | _, _ => none
noncomputable def C_impl_feeder_drop : List Value → Mem → Option VM := dcall X_impl_feeder_drop
@[simp] theorem c_impl_feeder_drop : C_impl_feeder_drop = dcall X_impl_feeder_drop := (rfl)
theorem cok_impl_feeder_drop : codeOk CT Try.f191 (Try.f191.body.get rfl) = true := by kernel_rfl
theorem xe_impl_feeder_drop (t0 t1 : Value) (m : Mem) : exD CT cf_impl_feeder_drop Try.f191 m.length LL_impl_feeder_drop (J_impl_feeder_drop m.length QQ) 400 [.code (Try.f191.body.get rfl)] (argsT 0 [t0, t1]) m = X_impl_feeder_drop [t0, t1] m := by kernel_rfl
theorem okc_impl_feeder_drop : CallOK CT cf_impl_feeder_drop := cfc_ok ok_C_impl_feeder_dropChar (cfc_ok ok_C_impl_feeder_erase_1 (cfc_ok ok_C_impl_feeder_erase_2 (cfc_ok ok_C_impl_feeder_erase_3 cfn_ok)))
theorem le_impl_feeder_drop_0 (k q : Nat) (t0 t1 t4 : Value) (m : Mem) : exD CT cf_impl_feeder_drop Try.f191 k LL_impl_feeder_drop (J_impl_feeder_drop k q) 400 (atLoop Try.f191 0) [(0, t0), (1, t1), (4, t4)] m = J_impl_feeder_drop k (q + 1) 1 [t0, t1, t4] m := by kernel_rfl
theorem gl_impl_feeder_drop (k : Nat) : ∀ q i, i < 1 → GoodL CT k Try.f191 LL_impl_feeder_drop (J_impl_feeder_drop k q) (atLoop Try.f191 i)
 | 0, 0, _ => goodL_zero (l := 1) (by kernel_rfl) (fun vs m => by kernel_rfl)
 | 0, _ + 1, h => absurd h (by omega)
 | q + 1, 0, _ => goodD_succ (l := 1) (live := [0, 1, 4]) (n := 1) CT_ok rfl okc_impl_feeder_drop (c := (Try.f191.body.get rfl)) rfl cok_impl_feeder_drop (by kernel_rfl) (gl_impl_feeder_drop k q) (by kernel_rfl) rfl (fun vs m r hl h => match vs, hl with
  | [t0, t1, t4], _ => (le_impl_feeder_drop_0 k q t0 t1 t4 m).trans h)
 | _ + 1, _ + 1, h => absurd h (by omega)
theorem ok_X_impl_feeder_drop : OkX CT 191 X_impl_feeder_drop := OkX.of_exD (cf := cf_impl_feeder_drop) (np := 2) (LL := LL_impl_feeder_drop) (J := (fun k => J_impl_feeder_drop k QQ)) CT_ok rfl Try.func191 rfl (Nat.le_of_ble_eq_true rfl) (by decide) cok_impl_feeder_drop okc_impl_feeder_drop (fun k => allLoops rfl (by kernel_rfl) (gl_impl_feeder_drop k QQ)) (fun args m r h => match args, h with
  | [t0, t1], h => ⟨rfl, (xe_impl_feeder_drop t0 t1 m).trans h⟩)
theorem ok_C_impl_feeder_drop : OkC CT 191 C_impl_feeder_drop := dcall_ok rfl ok_X_impl_feeder_drop
noncomputable def cf_impl_feeder_erase : CallF := cfc 144 C_impl_Way_has (cfc 146 C_impl_is (cfc 147 C_impl_feeder_showByte (cfc 188 C_impl_feeder_show (cfc 190 C_impl_feeder_dropChar (cfc 191 C_impl_feeder_drop cfn)))))
noncomputable def X_impl_feeder_erase : List Value → Mem → Option VM
 | [t0, t1], m =>
  (nilX t0) |> bo fun t8 =>
  (fadX 0 t8) |> bo fun t9 =>
  (fadX 2 t9) |> bo fun t10 =>
  (ld1 m t10) |> bo fun t11 =>
  (C_impl_is [t1, t11] m) |> bo fun r5 =>
  (nilX t0) |> bo fun t16 =>
  (fadX 0 t16) |> bo fun t17 =>
  (fadX 1 t17) |> bo fun t18 =>
  (ld1 r5.2 t18) |> bo fun t19 =>
  (C_impl_is [t1, t19] r5.2) |> bo fun r10 =>
  brX r10.1
   (
    (nilX t0) |> bo fun t22 =>
    (fadX 7 t22) |> bo fun t23 =>
    (fadX 1 t23) |> bo fun t24 =>
    (ld1 r10.2 t24) |> bo fun t25 =>
    (lenX t25) |> bo fun t26 =>
    (binX .gtr .no t26 (.int .i64 0)) |> bo fun t27 =>
    brX t27
     (
      (C_impl_feeder_dropChar [t0] r10.2) |> bo fun r17 =>
      (nilX t0) |> bo fun t47 =>
      (fadX 0 t47) |> bo fun t48 =>
      (ldS r17.2 7 t48) |> bo fun t49 =>
      (C_impl_Way_has [t49, (.int .i64 4)] r17.2) |> bo fun r21 =>
      (uop .not r21.1) |> bo fun t51 =>
      brX t51
       (
        (C_impl_feeder_showByte [t0, t1] r21.2) |> bo fun r23 =>
        (gd (.bool false) true (some (t0, r23.2)) r23.2) |> bo fun r24 =>
        (gd (.bool false) true ((nilX r24.1) |> bo fun v => some (v, r24.2)) r24.2) |> bo fun r25 =>
        (gd (.bool false) true ((fadX 0 r25.1) |> bo fun v => some (v, r25.2)) r25.2) |> bo fun r26 =>
        (gd (.bool false) true ((ldS r26.2 7 r26.1) |> bo fun v => some (v, r26.2)) r26.2) |> bo fun r27 =>
        (gd (.bool false) true ((C_impl_Way_has [r27.1, (.int .i64 8)] r27.2) |> bo fun r => some (r.1, r.2)) r27.2) |> bo fun r28 =>
        (pickX (.bool false) r28.1 (.bool false)) |> bo fun t62 =>
        brX t62
         (
          (bslX r28.2 1 1 [.int .u8 0] [(0, 1, (.int .u8 10))]) |> bo fun r30 =>
          (C_impl_feeder_show [t0, r30.1] r30.2) |> bo fun r31 =>
          some ((.bool true), r31.2))
         (
          some ((.bool true), r28.2)))
       (
        some ((.bool true), r21.2)))
     (
      (nilX t0) |> bo fun t47 =>
      (fadX 0 t47) |> bo fun t48 =>
      (ldS r10.2 7 t48) |> bo fun t49 =>
      (C_impl_Way_has [t49, (.int .i64 4)] r10.2) |> bo fun r35 =>
      (uop .not r35.1) |> bo fun t51 =>
      brX t51
       (
        (C_impl_feeder_showByte [t0, t1] r35.2) |> bo fun r37 =>
        (gd (.bool false) true (some (t0, r37.2)) r37.2) |> bo fun r38 =>
        (gd (.bool false) true ((nilX r38.1) |> bo fun v => some (v, r38.2)) r38.2) |> bo fun r39 =>
        (gd (.bool false) true ((fadX 0 r39.1) |> bo fun v => some (v, r39.2)) r39.2) |> bo fun r40 =>
        (gd (.bool false) true ((ldS r40.2 7 r40.1) |> bo fun v => some (v, r40.2)) r40.2) |> bo fun r41 =>
        (gd (.bool false) true ((C_impl_Way_has [r41.1, (.int .i64 8)] r41.2) |> bo fun r => some (r.1, r.2)) r41.2) |> bo fun r42 =>
        (pickX (.bool false) r42.1 (.bool false)) |> bo fun t62 =>
        brX t62
         (
          (bslX r42.2 1 1 [.int .u8 0] [(0, 1, (.int .u8 10))]) |> bo fun r44 =>
          (C_impl_feeder_show [t0, r44.1] r44.2) |> bo fun r45 =>
          some ((.bool true), r45.2))
         (
          some ((.bool true), r42.2)))
       (
        some ((.bool true), r35.2))))
   (
    (nilX t0) |> bo fun t33 =>
    (fadX 0 t33) |> bo fun t34 =>
    (fadX 3 t34) |> bo fun t35 =>
    (ld1 r10.2 t35) |> bo fun t36 =>
    (C_impl_is [t1, t36] r10.2) |> bo fun r50 =>
    brX r50.1
     (
      (C_impl_feeder_drop [t0, (.func (.func 192) #[] #[])] r50.2) |> bo fun r51 =>
      (C_impl_feeder_drop [t0, (.func (.func 193) #[] #[])] r51.2) |> bo fun r52 =>
      (nilX t0) |> bo fun t47 =>
      (fadX 0 t47) |> bo fun t48 =>
      (ldS r52.2 7 t48) |> bo fun t49 =>
      (C_impl_Way_has [t49, (.int .i64 4)] r52.2) |> bo fun r56 =>
      (uop .not r56.1) |> bo fun t51 =>
      brX t51
       (
        (C_impl_feeder_showByte [t0, t1] r56.2) |> bo fun r58 =>
        (gd (.bool false) true (some (t0, r58.2)) r58.2) |> bo fun r59 =>
        (gd (.bool false) true ((nilX r59.1) |> bo fun v => some (v, r59.2)) r59.2) |> bo fun r60 =>
        (gd (.bool false) true ((fadX 0 r60.1) |> bo fun v => some (v, r60.2)) r60.2) |> bo fun r61 =>
        (gd (.bool false) true ((ldS r61.2 7 r61.1) |> bo fun v => some (v, r61.2)) r61.2) |> bo fun r62 =>
        (gd (.bool false) true ((C_impl_Way_has [r62.1, (.int .i64 8)] r62.2) |> bo fun r => some (r.1, r.2)) r62.2) |> bo fun r63 =>
        (pickX (.bool false) r63.1 (.bool false)) |> bo fun t62 =>
        brX t62
         (
          (bslX r63.2 1 1 [.int .u8 0] [(0, 1, (.int .u8 10))]) |> bo fun r65 =>
          (C_impl_feeder_show [t0, r65.1] r65.2) |> bo fun r66 =>
          some ((.bool true), r66.2))
         (
          some ((.bool true), r63.2)))
       (
        some ((.bool true), r56.2)))
     (
      brX r5.1
       (
        (C_impl_feeder_drop [t0, (.func (.func 194) #[] #[])] r50.2) |> bo fun r67 =>
        (nilX t0) |> bo fun t47 =>
        (fadX 0 t47) |> bo fun t48 =>
        (ldS r67.2 7 t48) |> bo fun t49 =>
        (C_impl_Way_has [t49, (.int .i64 4)] r67.2) |> bo fun r71 =>
        (uop .not r71.1) |> bo fun t51 =>
        brX t51
         (
          (C_impl_feeder_showByte [t0, t1] r71.2) |> bo fun r73 =>
          (gd r5.1 true (some (t0, r73.2)) r73.2) |> bo fun r74 =>
          (gd r5.1 true ((nilX r74.1) |> bo fun v => some (v, r74.2)) r74.2) |> bo fun r75 =>
          (gd r5.1 true ((fadX 0 r75.1) |> bo fun v => some (v, r75.2)) r75.2) |> bo fun r76 =>
          (gd r5.1 true ((ldS r76.2 7 r76.1) |> bo fun v => some (v, r76.2)) r76.2) |> bo fun r77 =>
          (gd r5.1 true ((C_impl_Way_has [r77.1, (.int .i64 8)] r77.2) |> bo fun r => some (r.1, r.2)) r77.2) |> bo fun r78 =>
          (pickX r5.1 r78.1 (.bool false)) |> bo fun t62 =>
          brX t62
           (
            (bslX r78.2 1 1 [.int .u8 0] [(0, 1, (.int .u8 10))]) |> bo fun r80 =>
            (C_impl_feeder_show [t0, r80.1] r80.2) |> bo fun r81 =>
            some ((.bool true), r81.2))
           (
            some ((.bool true), r78.2)))
         (
          some ((.bool true), r71.2)))
       (
        some ((.bool false), r50.2))))
 | _, _ => none
noncomputable def C_impl_feeder_erase : List Value → Mem → Option VM := dcall X_impl_feeder_erase
@[simp] theorem c_impl_feeder_erase : C_impl_feeder_erase = dcall X_impl_feeder_erase := (rfl)
theorem cok_impl_feeder_erase : codeOk CT Try.f150 (Try.f150.body.get rfl) = true := by kernel_rfl
theorem xe_impl_feeder_erase (t0 t1 : Value) (m : Mem) : exD CT cf_impl_feeder_erase Try.f150 m.length [] (fun _ _ _ => none) 400 [.code (Try.f150.body.get rfl)] (argsT 0 [t0, t1]) m = X_impl_feeder_erase [t0, t1] m := by kernel_rfl
theorem okc_impl_feeder_erase : CallOK CT cf_impl_feeder_erase := cfc_ok ok_C_impl_Way_has (cfc_ok ok_C_impl_is (cfc_ok ok_C_impl_feeder_showByte (cfc_ok ok_C_impl_feeder_show (cfc_ok ok_C_impl_feeder_dropChar (cfc_ok ok_C_impl_feeder_drop cfn_ok)))))
theorem ok_X_impl_feeder_erase : OkX CT 150 X_impl_feeder_erase := OkX.of_exD (cf := cf_impl_feeder_erase) (np := 2) (LL := []) (J := (fun _ _ _ _ => none)) CT_ok rfl Try.func150 rfl (Nat.le_of_ble_eq_true rfl) (by decide) cok_impl_feeder_erase okc_impl_feeder_erase (fun k => noLoops rfl) (fun args m r h => match args, h with
  | [t0, t1], h => ⟨rfl, (xe_impl_feeder_erase t0 t1 m).trans h⟩)
theorem ok_C_impl_feeder_erase : OkC CT 150 C_impl_feeder_erase := dcall_ok rfl ok_X_impl_feeder_erase
noncomputable def cf_impl_feeder_end : CallF := cfn
noncomputable def X_impl_feeder_end : List Value → Mem → Option VM
 | [t0], m =>
  (nilX t0) |> bo fun t4 =>
  (fadX 7 t4) |> bo fun t5 =>
  (fadX 0 t5) |> bo fun t6 =>
  (ld1 m t6) |> bo fun t7 =>
  (nilX t0) |> bo fun t9 =>
  (fadX 7 t9) |> bo fun t10 =>
  (fadX 1 t10) |> bo fun t11 =>
  (ld1 m t11) |> bo fun t12 =>
  (bslX m 1 1 [.slice none 0 0] [(0, 1, t12)]) |> bo fun r9 =>
  (apL r9.2 1 24 t7 r9.1) |> bo fun r10 =>
  (nilX t0) |> bo fun t15 =>
  (fadX 7 t15) |> bo fun t16 =>
  (fadX 0 t16) |> bo fun t17 =>
  (stX r10.2 1 t17 r10.1) |> bo fun m14 =>
  (nilX t0) |> bo fun t19 =>
  (fadX 7 t19) |> bo fun t20 =>
  (fadX 1 t20) |> bo fun t21 =>
  (stX m14 1 t21 (.slice none 0 0)) |> bo fun m18 =>
  some ((.tuple #[]), m18)
 | _, _ => none
noncomputable def C_impl_feeder_end : List Value → Mem → Option VM := dcall X_impl_feeder_end
@[simp] theorem c_impl_feeder_end : C_impl_feeder_end = dcall X_impl_feeder_end := (rfl)
theorem cok_impl_feeder_end : codeOk CT Try.f151 (Try.f151.body.get rfl) = true := by kernel_rfl
theorem xe_impl_feeder_end (t0 : Value) (m : Mem) : exD CT cf_impl_feeder_end Try.f151 m.length [] (fun _ _ _ => none) 400 [.code (Try.f151.body.get rfl)] (argsT 0 [t0]) m = X_impl_feeder_end [t0] m := by kernel_rfl
theorem okc_impl_feeder_end : CallOK CT cf_impl_feeder_end := cfn_ok
theorem ok_X_impl_feeder_end : OkX CT 151 X_impl_feeder_end := OkX.of_exD (cf := cf_impl_feeder_end) (np := 1) (LL := []) (J := (fun _ _ _ _ => none)) CT_ok rfl Try.func151 rfl (Nat.le_of_ble_eq_true rfl) (by decide) cok_impl_feeder_end okc_impl_feeder_end (fun k => noLoops rfl) (fun args m r h => match args, h with
  | [t0], h => ⟨rfl, (xe_impl_feeder_end t0 m).trans h⟩)
theorem ok_C_impl_feeder_end : OkC CT 151 C_impl_feeder_end := dcall_ok rfl ok_X_impl_feeder_end
noncomputable def cf_impl_feeder_hear : CallF := cfc 144 C_impl_Way_has (cfc 145 C_impl_feeder_take (cfc 146 C_impl_is (cfc 147 C_impl_feeder_showByte (cfc 148 C_impl_feeder_room (cfc 149 C_impl_feeder_piece (cfc 150 C_impl_feeder_erase (cfc 151 C_impl_feeder_end cfn)))))))
noncomputable def X_impl_feeder_hear : List Value → Mem → Option VM
 | [t0, t1], m =>
  (nilX t0) |> bo fun t5 =>
  (fadX 0 t5) |> bo fun t6 =>
  (ldS m 7 t6) |> bo fun t7 =>
  (C_impl_Way_has [t7, (.int .i64 64)] m) |> bo fun r4 =>
  (gd r4.1 true (some (t1, r4.2)) r4.2) |> bo fun r5 =>
  (gd r4.1 true ((binX .eql .no r5.1 (.int .u8 13)) |> bo fun v => some (v, r5.2)) r5.2) |> bo fun r6 =>
  (pickX r4.1 r6.1 (.bool false)) |> bo fun t12 =>
  (gd t12 true (some (t0, r6.2)) r6.2) |> bo fun r8 =>
  (gd t12 true ((nilX r8.1) |> bo fun v => some (v, r8.2)) r8.2) |> bo fun r9 =>
  (gd t12 true ((fadX 7 r9.1) |> bo fun v => some (v, r9.2)) r9.2) |> bo fun r10 =>
  (gd t12 true ((fadX 2 r10.1) |> bo fun v => some (v, r10.2)) r10.2) |> bo fun r11 =>
  (gd t12 true ((ld1 r11.2 r11.1) |> bo fun v => some (v, r11.2)) r11.2) |> bo fun r12 =>
  (gd t12 true ((uop .not r12.1) |> bo fun v => some (v, r12.2)) r12.2) |> bo fun r13 =>
  (pickX t12 r13.1 (.bool false)) |> bo fun t20 =>
  brX t20
   (
    (nilX t0) |> bo fun t26 =>
    (fadX 7 t26) |> bo fun t27 =>
    (fadX 2 t27) |> bo fun t28 =>
    (ld1 r13.2 t28) |> bo fun t29 =>
    brX t29
     (
      (C_impl_feeder_take [t0, (.int .u8 10)] r13.2) |> bo fun r19 =>
      (nilX t0) |> bo fun t34 =>
      (fadX 7 t34) |> bo fun t35 =>
      (fadX 2 t35) |> bo fun t36 =>
      (stX r19.2 1 t36 (.bool false)) |> bo fun m23 =>
      some ((.tuple #[]), m23))
     (
      (nilX t0) |> bo fun t39 =>
      (fadX 0 t39) |> bo fun t40 =>
      (ldS r13.2 7 t40) |> bo fun t41 =>
      (C_impl_Way_has [t41, (.int .i64 32)] r13.2) |> bo fun r27 =>
      (gd r27.1 true (some ((.int .u8 10), r27.2)) r27.2) |> bo fun r28 =>
      (gd r27.1 true (some (t0, r28.2)) r28.2) |> bo fun r29 =>
      (gd r27.1 true ((nilX r29.1) |> bo fun v => some (v, r29.2)) r29.2) |> bo fun r30 =>
      (gd r27.1 true ((fadX 0 r30.1) |> bo fun v => some (v, r30.2)) r30.2) |> bo fun r31 =>
      (gd r27.1 true ((fadX 5 r31.1) |> bo fun v => some (v, r31.2)) r31.2) |> bo fun r32 =>
      (gd r27.1 true ((ld1 r32.2 r32.1) |> bo fun v => some (v, r32.2)) r32.2) |> bo fun r33 =>
      (gd r27.1 true ((C_impl_is [r28.1, r33.1] r33.2) |> bo fun r => some (r.1, r.2)) r33.2) |> bo fun r34 =>
      (pickX r27.1 r34.1 (.bool false)) |> bo fun t51 =>
      brX t51
       (
        (nilX t0) |> bo fun t55 =>
        (fadX 7 t55) |> bo fun t56 =>
        (fadX 3 t56) |> bo fun t57 =>
        (ld1 r34.2 t57) |> bo fun t58 =>
        (binX .add .no t58 (.int .i64 1)) |> bo fun t59 =>
        (minMax false t59 [(.int .i64 999)]) |> bo fun t60 =>
        (nilX t0) |> bo fun t61 =>
        (fadX 7 t61) |> bo fun t62 =>
        (fadX 3 t62) |> bo fun t63 =>
        (stX r34.2 1 t63 t60) |> bo fun m45 =>
        (nilX t0) |> bo fun t64 =>
        (fadX 7 t64) |> bo fun t65 =>
        (fadX 1 t65) |> bo fun t66 =>
        (stX m45 1 t66 (.slice none 0 0)) |> bo fun m49 =>
        (C_impl_feeder_showByte [t0, (.int .u8 10)] m49) |> bo fun r50 =>
        some ((.tuple #[]), r50.2))
       (
        (nilX t0) |> bo fun t72 =>
        (fadX 0 t72) |> bo fun t73 =>
        (ldS r34.2 7 t73) |> bo fun t74 =>
        (C_impl_Way_has [t74, (.int .i64 1)] r34.2) |> bo fun r54 =>
        (uop .not r54.1) |> bo fun t76 =>
        brX t76
         (
          (C_impl_feeder_room [t0, (.int .i64 1)] r54.2) |> bo fun r56 =>
          (gd r56.1 true (some (t0, r56.2)) r56.2) |> bo fun r57 =>
          (gd r56.1 true ((C_impl_feeder_piece [r57.1] r57.2) |> bo fun r => some (r.1, r.2)) r57.2) |> bo fun r58 =>
          (pickX r56.1 r58.1 (.bool false)) |> bo fun t82 =>
          brX t82
           (
            (nilX t0) |> bo fun t85 =>
            (fadX 7 t85) |> bo fun t86 =>
            (fadX 0 t86) |> bo fun t87 =>
            (ld1 r58.2 t87) |> bo fun t88 =>
            (bslX r58.2 1 1 [.int .u8 0] [(0, 1, (.int .u8 10))]) |> bo fun r64 =>
            (bslX r64.2 1 1 [.slice none 0 0] [(0, 1, r64.1)]) |> bo fun r65 =>
            (apL r65.2 1 24 t88 r65.1) |> bo fun r66 =>
            (nilX t0) |> bo fun t93 =>
            (fadX 7 t93) |> bo fun t94 =>
            (fadX 0 t94) |> bo fun t95 =>
            (stX r66.2 1 t95 r66.1) |> bo fun m70 =>
            (C_impl_feeder_showByte [t0, (.int .u8 10)] m70) |> bo fun r71 =>
            some ((.tuple #[]), r71.2))
           (
            some ((.tuple #[]), r58.2)))
         (
          (nilX t0) |> bo fun t102 =>
          (fadX 0 t102) |> bo fun t103 =>
          (fadX 6 t103) |> bo fun t104 =>
          (ld1 r54.2 t104) |> bo fun t105 =>
          (C_impl_is [(.int .u8 10), t105] r54.2) |> bo fun r76 =>
          brX r76.1
           (
            (nilX t0) |> bo fun t108 =>
            (fadX 7 t108) |> bo fun t109 =>
            (fadX 2 t109) |> bo fun t110 =>
            (stX r76.2 1 t110 (.bool true)) |> bo fun m80 =>
            some ((.tuple #[]), m80))
           (
            (C_impl_feeder_erase [t0, (.int .u8 10)] r76.2) |> bo fun r81 =>
            brX r81.1
             (
              some ((.tuple #[]), r81.2))
             (
              (nilX t0) |> bo fun t118 =>
              (fadX 0 t118) |> bo fun t119 =>
              (fadX 4 t119) |> bo fun t120 =>
              (ld1 r81.2 t120) |> bo fun t121 =>
              (C_impl_is [(.int .u8 10), t121] r81.2) |> bo fun r86 =>
              brX r86.1
               (
                (C_impl_feeder_piece [t0] r86.2) |> bo fun r87 =>
                brX r87.1
                 (
                  (C_impl_feeder_end [t0] r87.2) |> bo fun r88 =>
                  some ((.tuple #[]), r88.2))
                 (
                  some ((.tuple #[]), r87.2)))
               (
                (binX .eql .no (.int .u8 10) (.int .u8 10)) |> bo fun t129 =>
                brX t129
                 (
                  (C_impl_feeder_room [t0, (.int .i64 1)] r86.2) |> bo fun r90 =>
                  (gd r90.1 true (some (t0, r90.2)) r90.2) |> bo fun r91 =>
                  (gd r90.1 true ((C_impl_feeder_piece [r91.1] r91.2) |> bo fun r => some (r.1, r.2)) r91.2) |> bo fun r92 =>
                  (pickX r90.1 r92.1 (.bool false)) |> bo fun t135 =>
                  brX t135
                   (
                    (nilX t0) |> bo fun t138 =>
                    (fadX 7 t138) |> bo fun t139 =>
                    (fadX 1 t139) |> bo fun t140 =>
                    (ld1 r92.2 t140) |> bo fun t141 =>
                    (bslX r92.2 1 1 [.int .u8 0] [(0, 1, (.int .u8 10))]) |> bo fun r98 =>
                    (apL r98.2 1 1 t141 r98.1) |> bo fun r99 =>
                    (nilX t0) |> bo fun t145 =>
                    (fadX 7 t145) |> bo fun t146 =>
                    (fadX 1 t146) |> bo fun t147 =>
                    (stX r99.2 1 t147 r99.1) |> bo fun m103 =>
                    (C_impl_feeder_end [t0] m103) |> bo fun r104 =>
                    (C_impl_feeder_showByte [t0, (.int .u8 10)] r104.2) |> bo fun r105 =>
                    some ((.tuple #[]), r105.2))
                   (
                    some ((.tuple #[]), r92.2)))
                 (
                  (C_impl_feeder_take [t0, (.int .u8 10)] r86.2) |> bo fun r106 =>
                  some ((.tuple #[]), r106.2)))))))))
   (
    (nilX t0) |> bo fun t26 =>
    (fadX 7 t26) |> bo fun t27 =>
    (fadX 2 t27) |> bo fun t28 =>
    (ld1 r13.2 t28) |> bo fun t29 =>
    brX t29
     (
      (C_impl_feeder_take [t0, t1] r13.2) |> bo fun r111 =>
      (nilX t0) |> bo fun t34 =>
      (fadX 7 t34) |> bo fun t35 =>
      (fadX 2 t35) |> bo fun t36 =>
      (stX r111.2 1 t36 (.bool false)) |> bo fun m115 =>
      some ((.tuple #[]), m115))
     (
      (nilX t0) |> bo fun t39 =>
      (fadX 0 t39) |> bo fun t40 =>
      (ldS r13.2 7 t40) |> bo fun t41 =>
      (C_impl_Way_has [t41, (.int .i64 32)] r13.2) |> bo fun r119 =>
      (gd r119.1 true (some (t1, r119.2)) r119.2) |> bo fun r120 =>
      (gd r119.1 true (some (t0, r120.2)) r120.2) |> bo fun r121 =>
      (gd r119.1 true ((nilX r121.1) |> bo fun v => some (v, r121.2)) r121.2) |> bo fun r122 =>
      (gd r119.1 true ((fadX 0 r122.1) |> bo fun v => some (v, r122.2)) r122.2) |> bo fun r123 =>
      (gd r119.1 true ((fadX 5 r123.1) |> bo fun v => some (v, r123.2)) r123.2) |> bo fun r124 =>
      (gd r119.1 true ((ld1 r124.2 r124.1) |> bo fun v => some (v, r124.2)) r124.2) |> bo fun r125 =>
      (gd r119.1 true ((C_impl_is [r120.1, r125.1] r125.2) |> bo fun r => some (r.1, r.2)) r125.2) |> bo fun r126 =>
      (pickX r119.1 r126.1 (.bool false)) |> bo fun t51 =>
      brX t51
       (
        (nilX t0) |> bo fun t55 =>
        (fadX 7 t55) |> bo fun t56 =>
        (fadX 3 t56) |> bo fun t57 =>
        (ld1 r126.2 t57) |> bo fun t58 =>
        (binX .add .no t58 (.int .i64 1)) |> bo fun t59 =>
        (minMax false t59 [(.int .i64 999)]) |> bo fun t60 =>
        (nilX t0) |> bo fun t61 =>
        (fadX 7 t61) |> bo fun t62 =>
        (fadX 3 t62) |> bo fun t63 =>
        (stX r126.2 1 t63 t60) |> bo fun m137 =>
        (nilX t0) |> bo fun t64 =>
        (fadX 7 t64) |> bo fun t65 =>
        (fadX 1 t65) |> bo fun t66 =>
        (stX m137 1 t66 (.slice none 0 0)) |> bo fun m141 =>
        (C_impl_feeder_showByte [t0, t1] m141) |> bo fun r142 =>
        some ((.tuple #[]), r142.2))
       (
        (nilX t0) |> bo fun t72 =>
        (fadX 0 t72) |> bo fun t73 =>
        (ldS r126.2 7 t73) |> bo fun t74 =>
        (C_impl_Way_has [t74, (.int .i64 1)] r126.2) |> bo fun r146 =>
        (uop .not r146.1) |> bo fun t76 =>
        brX t76
         (
          (C_impl_feeder_room [t0, (.int .i64 1)] r146.2) |> bo fun r148 =>
          (gd r148.1 true (some (t0, r148.2)) r148.2) |> bo fun r149 =>
          (gd r148.1 true ((C_impl_feeder_piece [r149.1] r149.2) |> bo fun r => some (r.1, r.2)) r149.2) |> bo fun r150 =>
          (pickX r148.1 r150.1 (.bool false)) |> bo fun t82 =>
          brX t82
           (
            (nilX t0) |> bo fun t85 =>
            (fadX 7 t85) |> bo fun t86 =>
            (fadX 0 t86) |> bo fun t87 =>
            (ld1 r150.2 t87) |> bo fun t88 =>
            (bslX r150.2 1 1 [.int .u8 0] [(0, 1, t1)]) |> bo fun r156 =>
            (bslX r156.2 1 1 [.slice none 0 0] [(0, 1, r156.1)]) |> bo fun r157 =>
            (apL r157.2 1 24 t88 r157.1) |> bo fun r158 =>
            (nilX t0) |> bo fun t93 =>
            (fadX 7 t93) |> bo fun t94 =>
            (fadX 0 t94) |> bo fun t95 =>
            (stX r158.2 1 t95 r158.1) |> bo fun m162 =>
            (C_impl_feeder_showByte [t0, t1] m162) |> bo fun r163 =>
            some ((.tuple #[]), r163.2))
           (
            some ((.tuple #[]), r150.2)))
         (
          (nilX t0) |> bo fun t102 =>
          (fadX 0 t102) |> bo fun t103 =>
          (fadX 6 t103) |> bo fun t104 =>
          (ld1 r146.2 t104) |> bo fun t105 =>
          (C_impl_is [t1, t105] r146.2) |> bo fun r168 =>
          brX r168.1
           (
            (nilX t0) |> bo fun t108 =>
            (fadX 7 t108) |> bo fun t109 =>
            (fadX 2 t109) |> bo fun t110 =>
            (stX r168.2 1 t110 (.bool true)) |> bo fun m172 =>
            some ((.tuple #[]), m172))
           (
            (C_impl_feeder_erase [t0, t1] r168.2) |> bo fun r173 =>
            brX r173.1
             (
              some ((.tuple #[]), r173.2))
             (
              (nilX t0) |> bo fun t118 =>
              (fadX 0 t118) |> bo fun t119 =>
              (fadX 4 t119) |> bo fun t120 =>
              (ld1 r173.2 t120) |> bo fun t121 =>
              (C_impl_is [t1, t121] r173.2) |> bo fun r178 =>
              brX r178.1
               (
                (C_impl_feeder_piece [t0] r178.2) |> bo fun r179 =>
                brX r179.1
                 (
                  (C_impl_feeder_end [t0] r179.2) |> bo fun r180 =>
                  some ((.tuple #[]), r180.2))
                 (
                  some ((.tuple #[]), r179.2)))
               (
                (binX .eql .no t1 (.int .u8 10)) |> bo fun t129 =>
                brX t129
                 (
                  (C_impl_feeder_room [t0, (.int .i64 1)] r178.2) |> bo fun r182 =>
                  (gd r182.1 true (some (t0, r182.2)) r182.2) |> bo fun r183 =>
                  (gd r182.1 true ((C_impl_feeder_piece [r183.1] r183.2) |> bo fun r => some (r.1, r.2)) r183.2) |> bo fun r184 =>
                  (pickX r182.1 r184.1 (.bool false)) |> bo fun t135 =>
                  brX t135
                   (
                    (nilX t0) |> bo fun t138 =>
                    (fadX 7 t138) |> bo fun t139 =>
                    (fadX 1 t139) |> bo fun t140 =>
                    (ld1 r184.2 t140) |> bo fun t141 =>
                    (bslX r184.2 1 1 [.int .u8 0] [(0, 1, t1)]) |> bo fun r190 =>
                    (apL r190.2 1 1 t141 r190.1) |> bo fun r191 =>
                    (nilX t0) |> bo fun t145 =>
                    (fadX 7 t145) |> bo fun t146 =>
                    (fadX 1 t146) |> bo fun t147 =>
                    (stX r191.2 1 t147 r191.1) |> bo fun m195 =>
                    (C_impl_feeder_end [t0] m195) |> bo fun r196 =>
                    (C_impl_feeder_showByte [t0, t1] r196.2) |> bo fun r197 =>
                    some ((.tuple #[]), r197.2))
                   (
                    some ((.tuple #[]), r184.2)))
                 (
                  (C_impl_feeder_take [t0, t1] r178.2) |> bo fun r198 =>
                  some ((.tuple #[]), r198.2)))))))))
 | _, _ => none
noncomputable def C_impl_feeder_hear : List Value → Mem → Option VM := dcall X_impl_feeder_hear
@[simp] theorem c_impl_feeder_hear : C_impl_feeder_hear = dcall X_impl_feeder_hear := (rfl)
theorem cok_impl_feeder_hear : codeOk CT Try.f104 (Try.f104.body.get rfl) = true := by kernel_rfl
theorem xe_impl_feeder_hear (t0 t1 : Value) (m : Mem) : exD CT cf_impl_feeder_hear Try.f104 m.length [] (fun _ _ _ => none) 400 [.code (Try.f104.body.get rfl)] (argsT 0 [t0, t1]) m = X_impl_feeder_hear [t0, t1] m := by kernel_rfl
theorem okc_impl_feeder_hear : CallOK CT cf_impl_feeder_hear := cfc_ok ok_C_impl_Way_has (cfc_ok ok_C_impl_feeder_take (cfc_ok ok_C_impl_is (cfc_ok ok_C_impl_feeder_showByte (cfc_ok ok_C_impl_feeder_room (cfc_ok ok_C_impl_feeder_piece (cfc_ok ok_C_impl_feeder_erase (cfc_ok ok_C_impl_feeder_end cfn_ok)))))))
theorem ok_X_impl_feeder_hear : OkX CT 104 X_impl_feeder_hear := OkX.of_exD (cf := cf_impl_feeder_hear) (np := 2) (LL := []) (J := (fun _ _ _ _ => none)) CT_ok rfl Try.func104 rfl (Nat.le_of_ble_eq_true rfl) (by decide) cok_impl_feeder_hear okc_impl_feeder_hear (fun k => noLoops rfl) (fun args m r h => match args, h with
  | [t0, t1], h => ⟨rfl, (xe_impl_feeder_hear t0 t1 m).trans h⟩)
theorem ok_C_impl_feeder_hear : OkC CT 104 C_impl_feeder_hear := dcall_ok rfl ok_X_impl_feeder_hear
noncomputable def cf_impl_fed : CallF := cfc 103 C_impl_Line_clone (cfc 104 C_impl_feeder_hear cfn)
noncomputable def L_impl_fed (k : Nat) : Nat → Nat → List Value → Mem → Option VM
 | q + 1, 0, [t6, t7, t14, t15, t16], m =>
  (binX .lss .no t16 t15) |> bo fun t17 =>
  brX t17
   (
    (ixaX 1 t14 t16) |> bo fun t18 =>
    (ld1 m t18) |> bo fun t19 =>
    (C_impl_feeder_hear [t7, t19] m) |> bo fun r4 =>
    (binX .add .no t16 (.int .i64 1)) |> bo fun t22 =>
    (L_impl_fed k q 0) [t6, t7, t14, t15, t22] r4.2)
   (
    (fadX 11 t7) |> bo fun t23 =>
    (ld1 m t23) |> bo fun t24 =>
    (fadX 7 t7) |> bo fun t25 =>
    (ldS m 4 t25) |> bo fun t26 =>
    (bldX [.int .i64 0, .bool false, .slice none 0 0, .slice none 0 0, .slice none 0 0, .slice none 0 0, .bool false, .int .i64 0] [(3, 1, t24), (4, 4, t26)]) |> bo fun t27 =>
    (stX m 8 t6 t27) |> bo fun m11 =>
    (resP (some 8) m11 t6) |> bo fun c12 =>
    some (c12, m11))
 | _, _, _, _ => none
noncomputable def J_impl_fed (k q l : Nat) : List Value → Mem → Option VM := cond (Nat.beq l 3) (L_impl_fed k q 0) (fun _ _ => none)
def LL_impl_fed : List (Nat × List Tmp) := [(3, [6, 7, 14, 15, 16])]
noncomputable def X_impl_fed : List Value → Mem → Option VM
 | [t0, t1, t2], m =>
  (boxX m t0) |> bo fun r1 =>
  (boxX r1.2 t1) |> bo fun r2 =>
  (alX r2.2 [.int .i64 0, .bool false, .slice none 0 0, .slice none 0 0, .slice none 0 0, .slice none 0 0, .bool false, .int .i64 0]) |> bo fun r3 =>
  (ldS r3.2 7 r1.1) |> bo fun t10 =>
  (ldS r3.2 4 r2.1) |> bo fun t11 =>
  (C_impl_Line_clone [t11] r3.2) |> bo fun r6 =>
  (bldX [.int .i64 0, .int .i64 0, .int .i64 0, .int .i64 0, .int .i64 0, .int .i64 0, .int .i64 0, .slice none 0 0, .slice none 0 0, .bool false, .int .i64 0, .slice none 0 0] [(0, 7, t10), (7, 4, r6.1)]) |> bo fun t13 =>
  (alX r6.2 [.int .i64 0, .int .i64 0, .int .i64 0, .int .i64 0, .int .i64 0, .int .i64 0, .int .i64 0, .slice none 0 0, .slice none 0 0, .bool false, .int .i64 0, .slice none 0 0]) |> bo fun r8 =>
  (stX r8.2 12 r8.1 t13) |> bo fun m9 =>
  gP (stbL [((rdN r1.1), r3.2, r6.2)])
   (
    (lenX t2) |> bo fun t15 =>
    (L_impl_fed m.length QQ 0) [r3.1, r8.1, t2, t15, (.int .i64 0)] m9)
 | _, _ => none
noncomputable def C_impl_fed : List Value → Mem → Option VM := dcall X_impl_fed
@[simp] theorem c_impl_fed : C_impl_fed = dcall X_impl_fed := (rfl)
theorem cok_impl_fed : codeOk CT Try.f55 (Try.f55.body.get rfl) = true := by kernel_rfl
theorem xe_impl_fed (t0 t1 t2 : Value) (m : Mem) : exD CT cf_impl_fed Try.f55 m.length LL_impl_fed (J_impl_fed m.length QQ) 400 [.code (Try.f55.body.get rfl)] (argsT 0 [t0, t1, t2]) m = X_impl_fed [t0, t1, t2] m := by kernel_rfl
theorem okc_impl_fed : CallOK CT cf_impl_fed := cfc_ok ok_C_impl_Line_clone (cfc_ok ok_C_impl_feeder_hear cfn_ok)
theorem le_impl_fed_0 (k q : Nat) (t6 t7 t14 t15 t16 : Value) (m : Mem) : exD CT cf_impl_fed Try.f55 k LL_impl_fed (J_impl_fed k q) 400 (atLoop Try.f55 0) [(6, t6), (7, t7), (14, t14), (15, t15), (16, t16)] m = J_impl_fed k (q + 1) 3 [t6, t7, t14, t15, t16] m := by kernel_rfl
theorem gl_impl_fed (k : Nat) : ∀ q i, i < 1 → GoodL CT k Try.f55 LL_impl_fed (J_impl_fed k q) (atLoop Try.f55 i)
 | 0, 0, _ => goodL_zero (l := 3) (by kernel_rfl) (fun vs m => by kernel_rfl)
 | 0, _ + 1, h => absurd h (by omega)
 | q + 1, 0, _ => goodD_succ (l := 3) (live := [6, 7, 14, 15, 16]) (n := 1) CT_ok rfl okc_impl_fed (c := (Try.f55.body.get rfl)) rfl cok_impl_fed (by kernel_rfl) (gl_impl_fed k q) (by kernel_rfl) rfl (fun vs m r hl h => match vs, hl with
  | [t6, t7, t14, t15, t16], _ => (le_impl_fed_0 k q t6 t7 t14 t15 t16 m).trans h)
 | _ + 1, _ + 1, h => absurd h (by omega)
theorem ok_X_impl_fed : OkX CT 55 X_impl_fed := OkX.of_exD (cf := cf_impl_fed) (np := 3) (LL := LL_impl_fed) (J := (fun k => J_impl_fed k QQ)) CT_ok rfl Try.func55 rfl (Nat.le_of_ble_eq_true rfl) (by decide) cok_impl_fed okc_impl_fed (fun k => allLoops rfl (by kernel_rfl) (gl_impl_fed k QQ)) (fun args m r h => match args, h with
  | [t0, t1, t2], h => ⟨rfl, (xe_impl_fed t0 t1 t2 m).trans h⟩)
theorem ok_C_impl_fed : OkC CT 55 C_impl_fed := dcall_ok rfl ok_X_impl_fed
noncomputable def cf_impl_FeedLine : CallF := cfc 31 C_impl_LineFault (cfc 53 C_impl_first (cfc 54 C_impl_WayFault (cfc 55 C_impl_fed cfn)))
noncomputable def X_impl_FeedLine : List Value → Mem → Option VM
 | [t0, t1, t2], m =>
  (boxX m t0) |> bo fun r1 =>
  (boxX r1.2 t1) |> bo fun r2 =>
  (alX r2.2 [.int .i64 0, .bool false, .slice none 0 0, .slice none 0 0, .slice none 0 0, .slice none 0 0, .bool false, .int .i64 0]) |> bo fun r3 =>
  (ldS r3.2 7 r1.1) |> bo fun t8 =>
  (C_impl_WayFault [t8] r3.2) |> bo fun r5 =>
  (ldS r5.2 4 r2.1) |> bo fun t10 =>
  (C_impl_LineFault [t10] r5.2) |> bo fun r7 =>
  (bslX r7.2 2 1 [.int .i64 0] [(0, 1, r5.1), (1, 1, r7.1)]) |> bo fun r8 =>
  (C_impl_first [r8.1] r8.2) |> bo fun r9 =>
  gP (stbL [((rdN r2.1), r3.2, r5.2)])
   (
    (binX .neq .no r9.1 (.int .i64 0)) |> bo fun t15 =>
    brX t15
     (
      (bldX [.int .i64 0, .bool false, .slice none 0 0, .slice none 0 0, .slice none 0 0, .slice none 0 0, .bool false, .int .i64 0] [(0, 1, r9.1)]) |> bo fun t17 =>
      (stX r9.2 8 r3.1 t17) |> bo fun m12 =>
      (resP (some 8) m12 r3.1) |> bo fun c13 =>
      retK m.length m12 [t0, t1, t2] c13)
     (
      (ldS r9.2 7 r1.1) |> bo fun t18 =>
      (ldS r9.2 4 r2.1) |> bo fun t19 =>
      (bslX r9.2 1 1 [.int .u8 0] [(0, 1, t2)]) |> bo fun r16 =>
      (C_impl_fed [t18, t19, r16.1] r16.2) |> bo fun r17 =>
      (stX r17.2 8 r3.1 r17.1) |> bo fun m18 =>
      (resP (some 8) m18 r3.1) |> bo fun c19 =>
      retK m.length m18 [t0, t1, t2] c19))
 | _, _ => none
noncomputable def C_impl_FeedLine : List Value → Mem → Option VM := fcall X_impl_FeedLine
@[simp] theorem c_impl_FeedLine : C_impl_FeedLine = fcall X_impl_FeedLine := (rfl)
theorem cok_impl_FeedLine : codeOk CT Try.f13 (Try.f13.body.get rfl) = true := by kernel_rfl
theorem xe_impl_FeedLine (t0 t1 t2 : Value) (m : Mem) : ex CT cf_impl_FeedLine Try.f13 3 m.length [] (fun _ _ _ => none) 400 [.code (Try.f13.body.get rfl)] (argsT 0 [t0, t1, t2]) m = X_impl_FeedLine [t0, t1, t2] m := by kernel_rfl
theorem okc_impl_FeedLine : CallOK CT cf_impl_FeedLine := cfc_ok ok_C_impl_LineFault (cfc_ok ok_C_impl_first (cfc_ok ok_C_impl_WayFault (cfc_ok ok_C_impl_fed cfn_ok)))
theorem ok_X_impl_FeedLine : OkX CT 13 X_impl_FeedLine := OkX.of_ex (cf := cf_impl_FeedLine) (np := 3) (LL := []) (J := (fun _ _ _ _ => none)) CT_ok rfl Try.func13 rfl (Nat.le_of_ble_eq_true rfl) (by decide) cok_impl_FeedLine okc_impl_FeedLine (fun k => noLoops rfl) (fun args m r h => match args, h with
  | [t0, t1, t2], h => ⟨rfl, (xe_impl_FeedLine t0 t1 t2 m).trans h⟩)
theorem ok_C_impl_FeedLine : OkC CT 13 C_impl_FeedLine := fcall_ok rfl ok_X_impl_FeedLine
noncomputable def Ci_impl_FeedLine : List Value → Mem → Option VM := icall X_impl_FeedLine
@[simp] theorem cCi_impl_FeedLine : Ci_impl_FeedLine = icall X_impl_FeedLine := (rfl)
theorem ok_Ci_impl_FeedLine : OkC CT 13 Ci_impl_FeedLine := icall_ok rfl ok_X_impl_FeedLine
noncomputable def cf_spec_FeedMany : CallF := cfc 49 C_spec_l11Asked (cfc 50 C_spec_l11Copy (cfc 51 C_spec_l11Feed cfn))
noncomputable def L_spec_FeedMany (k : Nat) : Nat → Nat → List Value → Mem → Option VM
 | q + 1, 0, [t2, t3, t6, t8, t9], m =>
  (lenX t2) |> bo fun t25 =>
  (binX .lss .no t9 t25) |> bo fun t26 =>
  brX t26
   (
    (fadX 4 t8) |> bo fun t29 =>
    (ixaX 1 t2 t9) |> bo fun t32 =>
    (ld1 m t32) |> bo fun t33 =>
    (C_spec_l11Feed [t3, t29, t33] m) |> bo fun r6 =>
    (fadX 3 t8) |> bo fun t35 =>
    (ld1 r6.2 t35) |> bo fun t36 =>
    (apL r6.2 1 1 t36 r6.1) |> bo fun r9 =>
    (fadX 3 t8) |> bo fun t39 =>
    (stX r9.2 1 t39 r9.1) |> bo fun m11 =>
    (binX .add .no t9 (.int .i64 1)) |> bo fun t28 =>
    cutK k m11 [t2] [t2, t3, t6, t8, t28] (L_spec_FeedMany k q 0))
   (
    (ldS m 8 t8) |> bo fun t40 =>
    (stX m 8 t6 t40) |> bo fun m14 =>
    (resP (some 8) m14 t6) |> bo fun c15 =>
    retK k m14 [t2] c15)
 | _, _, _, _ => none
noncomputable def J_spec_FeedMany (k q l : Nat) : List Value → Mem → Option VM := cond (Nat.beq l 8) (L_spec_FeedMany k q 0) (fun _ _ => none)
def LL_spec_FeedMany : List (Nat × List Tmp) := [(8, [2, 3, 6, 8, 9])]
noncomputable def X_spec_FeedMany : List Value → Mem → Option VM
 | [t0, t1, t2], m =>
  (boxX m t0) |> bo fun r1 =>
  (boxX r1.2 t1) |> bo fun r2 =>
  (alX r2.2 [.int .i64 0, .bool false, .slice none 0 0, .slice none 0 0, .slice none 0 0, .slice none 0 0, .bool false, .int .i64 0]) |> bo fun r3 =>
  (C_spec_l11Asked [r1.1, r2.1] r3.2) |> bo fun r4 =>
  (binX .neq .no r4.1 (.int .i64 0)) |> bo fun t13 =>
  brX t13
   (
    (bldX [.int .i64 0, .bool false, .slice none 0 0, .slice none 0 0, .slice none 0 0, .slice none 0 0, .bool false, .int .i64 0] [(0, 1, r4.1)]) |> bo fun t15 =>
    (stX r4.2 8 r3.1 t15) |> bo fun m7 =>
    (resP (some 8) m7 r3.1) |> bo fun c8 =>
    retK m.length m7 [t0, t1, t2] c8)
   (
    (lenX t2) |> bo fun t17 =>
    (binX .gtr .no t17 (.int .i64 200)) |> bo fun t18 =>
    brX t18
     (
      (bldX [.int .i64 0, .bool false, .slice none 0 0, .slice none 0 0, .slice none 0 0, .slice none 0 0, .bool false, .int .i64 0] [(0, 1, (.int .i64 2))]) |> bo fun t19 =>
      (stX r4.2 8 r3.1 t19) |> bo fun m12 =>
      (resP (some 8) m12 r3.1) |> bo fun c13 =>
      retK m.length m12 [t0, t1, t2] c13)
     (
      (ldS r4.2 4 r2.1) |> bo fun t20 =>
      (C_spec_l11Copy [t20] r4.2) |> bo fun r15 =>
      (bldX [.int .i64 0, .bool false, .slice none 0 0, .slice none 0 0, .slice none 0 0, .slice none 0 0, .bool false, .int .i64 0] [(4, 4, r15.1)]) |> bo fun t22 =>
      (alX r15.2 [.int .i64 0, .bool false, .slice none 0 0, .slice none 0 0, .slice none 0 0, .slice none 0 0, .bool false, .int .i64 0]) |> bo fun r17 =>
      (stX r17.2 8 r17.1 t22) |> bo fun m18 =>
      cutK m.length m18 [t0, t1, t2] [t2, r1.1, r3.1, r17.1, (.int .i64 0)] (L_spec_FeedMany m.length QQ 0)))
 | _, _ => none
noncomputable def C_spec_FeedMany : List Value → Mem → Option VM := ncall X_spec_FeedMany
@[simp] theorem c_spec_FeedMany : C_spec_FeedMany = ncall X_spec_FeedMany := (rfl)
theorem cok_spec_FeedMany : codeOk CT Try.f19 (Try.f19.body.get rfl) = true := by kernel_rfl
theorem xe_spec_FeedMany (t0 t1 t2 : Value) (m : Mem) : ex CT cf_spec_FeedMany Try.f19 3 m.length LL_spec_FeedMany (J_spec_FeedMany m.length QQ) 400 [.code (Try.f19.body.get rfl)] (argsT 0 [t0, t1, t2]) m = X_spec_FeedMany [t0, t1, t2] m := by kernel_rfl
theorem okc_spec_FeedMany : CallOK CT cf_spec_FeedMany := cfc_ok ok_C_spec_l11Asked (cfc_ok ok_C_spec_l11Copy (cfc_ok ok_C_spec_l11Feed cfn_ok))
theorem le_spec_FeedMany_0 (k q : Nat) (t2 t3 t6 t8 t9 : Value) (m : Mem) : ex CT cf_spec_FeedMany Try.f19 3 k LL_spec_FeedMany (J_spec_FeedMany k q) 400 (atLoop Try.f19 0) [(2, t2), (3, t3), (6, t6), (8, t8), (9, t9)] m = J_spec_FeedMany k (q + 1) 8 [t2, t3, t6, t8, t9] m := by kernel_rfl
theorem gl_spec_FeedMany (k : Nat) : ∀ q i, i < 1 → GoodL CT k Try.f19 LL_spec_FeedMany (J_spec_FeedMany k q) (atLoop Try.f19 i)
 | 0, 0, _ => goodL_zero (l := 8) (by kernel_rfl) (fun vs m => by kernel_rfl)
 | 0, _ + 1, h => absurd h (by omega)
 | q + 1, 0, _ => goodL_succ (np := 3) (l := 8) (live := [2, 3, 6, 8, 9]) (n := 1) CT_ok rfl okc_spec_FeedMany (c := (Try.f19.body.get rfl)) rfl cok_spec_FeedMany (by kernel_rfl) (gl_spec_FeedMany k q) (by kernel_rfl) rfl (fun vs m r hl h => match vs, hl with
  | [t2, t3, t6, t8, t9], _ => (le_spec_FeedMany_0 k q t2 t3 t6 t8 t9 m).trans h)
 | _ + 1, _ + 1, h => absurd h (by omega)
theorem ok_X_spec_FeedMany : OkX CT 19 X_spec_FeedMany := OkX.of_ex (cf := cf_spec_FeedMany) (np := 3) (LL := LL_spec_FeedMany) (J := (fun k => J_spec_FeedMany k QQ)) CT_ok rfl Try.func19 rfl (Nat.le_of_ble_eq_true rfl) (by decide) cok_spec_FeedMany okc_spec_FeedMany (fun k => allLoops rfl (by kernel_rfl) (gl_spec_FeedMany k QQ)) (fun args m r h => match args, h with
  | [t0, t1, t2], h => ⟨rfl, (xe_spec_FeedMany t0 t1 t2 m).trans h⟩)
theorem ok_C_spec_FeedMany : OkC CT 19 C_spec_FeedMany := ncall_ok rfl ok_X_spec_FeedMany
noncomputable def Ci_spec_FeedMany : List Value → Mem → Option VM := icall X_spec_FeedMany
@[simp] theorem cCi_spec_FeedMany : Ci_spec_FeedMany = icall X_spec_FeedMany := (rfl)
theorem ok_Ci_spec_FeedMany : OkC CT 19 Ci_spec_FeedMany := icall_ok rfl ok_X_spec_FeedMany
noncomputable def cf_impl_FeedMany : CallF := cfc 31 C_impl_LineFault (cfc 53 C_impl_first (cfc 54 C_impl_WayFault (cfc 55 C_impl_fed (cfc 60 C_impl_unless cfn))))
noncomputable def X_impl_FeedMany : List Value → Mem → Option VM
 | [t0, t1, t2], m =>
  (boxX m t0) |> bo fun r1 =>
  (boxX r1.2 t1) |> bo fun r2 =>
  (alX r2.2 [.int .i64 0, .bool false, .slice none 0 0, .slice none 0 0, .slice none 0 0, .slice none 0 0, .bool false, .int .i64 0]) |> bo fun r3 =>
  (ldS r3.2 7 r1.1) |> bo fun t8 =>
  (C_impl_WayFault [t8] r3.2) |> bo fun r5 =>
  (ldS r5.2 4 r2.1) |> bo fun t10 =>
  (C_impl_LineFault [t10] r5.2) |> bo fun r7 =>
  (lenX t2) |> bo fun t13 =>
  (binX .leq .no t13 (.int .i64 200)) |> bo fun t14 =>
  (C_impl_unless [t14, (.int .i64 2)] r7.2) |> bo fun r10 =>
  (bslX r10.2 3 1 [.int .i64 0] [(0, 1, r5.1), (1, 1, r7.1), (2, 1, r10.1)]) |> bo fun r11 =>
  (C_impl_first [r11.1] r11.2) |> bo fun r12 =>
  gP (stbL [((rdN r2.1), r3.2, r5.2)])
   (
    (binX .neq .no r12.1 (.int .i64 0)) |> bo fun t19 =>
    brX t19
     (
      (bldX [.int .i64 0, .bool false, .slice none 0 0, .slice none 0 0, .slice none 0 0, .slice none 0 0, .bool false, .int .i64 0] [(0, 1, r12.1)]) |> bo fun t21 =>
      (stX r12.2 8 r3.1 t21) |> bo fun m15 =>
      (resP (some 8) m15 r3.1) |> bo fun c16 =>
      retK m.length m15 [t0, t1, t2] c16)
     (
      (ldS r12.2 7 r1.1) |> bo fun t22 =>
      (ldS r12.2 4 r2.1) |> bo fun t23 =>
      (C_impl_fed [t22, t23, t2] r12.2) |> bo fun r19 =>
      (stX r19.2 8 r3.1 r19.1) |> bo fun m20 =>
      (resP (some 8) m20 r3.1) |> bo fun c21 =>
      retK m.length m20 [t0, t1, t2] c21))
 | _, _ => none
noncomputable def C_impl_FeedMany : List Value → Mem → Option VM := fcall X_impl_FeedMany
@[simp] theorem c_impl_FeedMany : C_impl_FeedMany = fcall X_impl_FeedMany := (rfl)
theorem cok_impl_FeedMany : codeOk CT Try.f21 (Try.f21.body.get rfl) = true := by kernel_rfl
theorem xe_impl_FeedMany (t0 t1 t2 : Value) (m : Mem) : ex CT cf_impl_FeedMany Try.f21 3 m.length [] (fun _ _ _ => none) 400 [.code (Try.f21.body.get rfl)] (argsT 0 [t0, t1, t2]) m = X_impl_FeedMany [t0, t1, t2] m := by kernel_rfl
theorem okc_impl_FeedMany : CallOK CT cf_impl_FeedMany := cfc_ok ok_C_impl_LineFault (cfc_ok ok_C_impl_first (cfc_ok ok_C_impl_WayFault (cfc_ok ok_C_impl_fed (cfc_ok ok_C_impl_unless cfn_ok))))
theorem ok_X_impl_FeedMany : OkX CT 21 X_impl_FeedMany := OkX.of_ex (cf := cf_impl_FeedMany) (np := 3) (LL := []) (J := (fun _ _ _ _ => none)) CT_ok rfl Try.func21 rfl (Nat.le_of_ble_eq_true rfl) (by decide) cok_impl_FeedMany okc_impl_FeedMany (fun k => noLoops rfl) (fun args m r h => match args, h with
  | [t0, t1, t2], h => ⟨rfl, (xe_impl_FeedMany t0 t1 t2 m).trans h⟩)
theorem ok_C_impl_FeedMany : OkC CT 21 C_impl_FeedMany := fcall_ok rfl ok_X_impl_FeedMany
noncomputable def Ci_impl_FeedMany : List Value → Mem → Option VM := icall X_impl_FeedMany
@[simp] theorem cCi_impl_FeedMany : Ci_impl_FeedMany = icall X_impl_FeedMany := (rfl)
theorem ok_Ci_impl_FeedMany : OkC CT 21 Ci_impl_FeedMany := icall_ok rfl ok_X_impl_FeedMany
noncomputable def cf_laws_lwBig : CallF := cfn
noncomputable def X_laws_lwBig : List Value → Mem → Option VM
 | [t0], m =>
  (lenX t0) |> bo fun t4 =>
  (binX .gtr .no t4 (.int .i64 1048576)) |> bo fun t5 =>
  retK m.length m [t0] t5
 | _, _ => none
noncomputable def C_laws_lwBig : List Value → Mem → Option VM := fcall X_laws_lwBig
@[simp] theorem c_laws_lwBig : C_laws_lwBig = fcall X_laws_lwBig := (rfl)
theorem cok_laws_lwBig : codeOk CT Try.f24 (Try.f24.body.get rfl) = true := by kernel_rfl
theorem xe_laws_lwBig (t0 : Value) (m : Mem) : ex CT cf_laws_lwBig Try.f24 1 m.length [] (fun _ _ _ => none) 400 [.code (Try.f24.body.get rfl)] (argsT 0 [t0]) m = X_laws_lwBig [t0] m := by kernel_rfl
theorem okc_laws_lwBig : CallOK CT cf_laws_lwBig := cfn_ok
theorem ok_X_laws_lwBig : OkX CT 24 X_laws_lwBig := OkX.of_ex (cf := cf_laws_lwBig) (np := 1) (LL := []) (J := (fun _ _ _ _ => none)) CT_ok rfl Try.func24 rfl (Nat.le_of_ble_eq_true rfl) (by decide) cok_laws_lwBig okc_laws_lwBig (fun k => noLoops rfl) (fun args m r h => match args, h with
  | [t0], h => ⟨rfl, (xe_laws_lwBig t0 m).trans h⟩)
theorem ok_C_laws_lwBig : OkC CT 24 C_laws_lwBig := fcall_ok rfl ok_X_laws_lwBig
noncomputable def cf_spec_l1Source : CallF := cfn
noncomputable def X_spec_l1Source : List Value → Mem → Option VM
 | [t0], m =>
  (bldX [.slice none 0 0, .int .i64 0] [(0, 1, t0)]) |> bo fun t4 =>
  (boxX m t4) |> bo fun r2 =>
  retK m.length r2.2 [t0] r2.1
 | _, _ => none
noncomputable def C_spec_l1Source : List Value → Mem → Option VM := rcall X_spec_l1Source
@[simp] theorem c_spec_l1Source : C_spec_l1Source = rcall X_spec_l1Source := (rfl)
theorem cok_spec_l1Source : codeOk CT Try.f61 (Try.f61.body.get rfl) = true := by kernel_rfl
theorem xe_spec_l1Source (t0 : Value) (m : Mem) : ex CT cf_spec_l1Source Try.f61 1 m.length [] (fun _ _ _ => none) 400 [.code (Try.f61.body.get rfl)] (argsT 0 [t0]) m = X_spec_l1Source [t0] m := by kernel_rfl
theorem okc_spec_l1Source : CallOK CT cf_spec_l1Source := cfn_ok
theorem ok_X_spec_l1Source : OkX CT 61 X_spec_l1Source := OkX.of_ex (cf := cf_spec_l1Source) (np := 1) (LL := []) (J := (fun _ _ _ _ => none)) CT_ok rfl Try.func61 rfl (Nat.le_of_ble_eq_true rfl) (by decide) cok_spec_l1Source okc_spec_l1Source (fun k => noLoops rfl) (fun args m r h => match args, h with
  | [t0], h => ⟨rfl, (xe_spec_l1Source t0 m).trans h⟩)
theorem ok_C_spec_l1Source : OkC CT 61 C_spec_l1Source := rcall_ok rfl ok_X_spec_l1Source
noncomputable def cf_spec_l1Next : CallF := cfn
noncomputable def X_spec_l1Next : List Value → Mem → Option VM
 | [t0, t1], m =>
  (nilX t0) |> bo fun t10 =>
  (fadX 1 t10) |> bo fun t11 =>
  (ld1 m t11) |> bo fun t12 =>
  (binX .add .no t12 (.int .i64 1)) |> bo fun t13 =>
  (nilX t0) |> bo fun t14 =>
  (fadX 1 t14) |> bo fun t15 =>
  (stX m 1 t15 t13) |> bo fun m7 =>
  (binX .lss .no t1 (.int .i64 1)) |> bo fun t17 =>
  brX t17
   (
    retK m.length m7 [t0, t1] (.int .i64 0))
   (
    (nilX t0) |> bo fun t19 =>
    (fadX 1 t19) |> bo fun t20 =>
    (ld1 m7 t20) |> bo fun t21 =>
    (binX .sub .no t21 (.int .i64 1)) |> bo fun t22 =>
    (nilX t0) |> bo fun t24 =>
    (fadX 0 t24) |> bo fun t25 =>
    (ld1 m7 t25) |> bo fun t26 =>
    (lenX t26) |> bo fun t27 =>
    (binX .eql .no t27 (.int .i64 0)) |> bo fun t29 =>
    brX t29
     (
      (binX .mul .no t22 (.int .i64 7)) |> bo fun t31 =>
      (binX .rem .no t31 t1) |> bo fun t33 =>
      retK m.length m7 [t0, t1] t33)
     (
      (nilX t0) |> bo fun t35 =>
      (fadX 0 t35) |> bo fun t36 =>
      (ld1 m7 t36) |> bo fun t37 =>
      (binX .rem .no t22 t27) |> bo fun t40 =>
      (ixaX 1 t37 t40) |> bo fun t41 =>
      (ld1 m7 t41) |> bo fun t42 =>
      (cvI .i64 t42) |> bo fun t43 =>
      (binX .quo .no t22 t27) |> bo fun t46 =>
      (binX .mul .no t46 (.int .i64 37)) |> bo fun t47 =>
      (binX .add .no t43 t47) |> bo fun t48 =>
      (binX .gtr .no t1 (.int .i64 200)) |> bo fun t50 =>
      brX t50
       (
        (binX .mul .no t48 (.int .i64 251)) |> bo fun t52 =>
        (nilX t0) |> bo fun t54 =>
        (fadX 0 t54) |> bo fun t55 =>
        (ld1 m7 t55) |> bo fun t56 =>
        (binX .add .no t22 (.int .i64 1)) |> bo fun t58 =>
        (binX .rem .no t58 t27) |> bo fun t60 =>
        (ixaX 1 t56 t60) |> bo fun t61 =>
        (ld1 m7 t61) |> bo fun t62 =>
        (cvI .i64 t62) |> bo fun t63 =>
        (binX .mul .no t63 (.int .i64 13)) |> bo fun t64 =>
        (binX .add .no t52 t64) |> bo fun t65 =>
        (binX .add .no t65 t22) |> bo fun t67 =>
        (binX .rem .no t67 t1) |> bo fun t70 =>
        retK m.length m7 [t0, t1] t70)
       (
        (binX .rem .no t48 t1) |> bo fun t70 =>
        retK m.length m7 [t0, t1] t70)))
 | _, _ => none
noncomputable def C_spec_l1Next : List Value → Mem → Option VM := rcall X_spec_l1Next
@[simp] theorem c_spec_l1Next : C_spec_l1Next = rcall X_spec_l1Next := (rfl)
theorem cok_spec_l1Next : codeOk CT Try.f107 (Try.f107.body.get rfl) = true := by kernel_rfl
theorem xe_spec_l1Next (t0 t1 : Value) (m : Mem) : ex CT cf_spec_l1Next Try.f107 2 m.length [] (fun _ _ _ => none) 400 [.code (Try.f107.body.get rfl)] (argsT 0 [t0, t1]) m = X_spec_l1Next [t0, t1] m := by kernel_rfl
theorem okc_spec_l1Next : CallOK CT cf_spec_l1Next := cfn_ok
theorem ok_X_spec_l1Next : OkX CT 107 X_spec_l1Next := OkX.of_ex (cf := cf_spec_l1Next) (np := 2) (LL := []) (J := (fun _ _ _ _ => none)) CT_ok rfl Try.func107 rfl (Nat.le_of_ble_eq_true rfl) (by decide) cok_spec_l1Next okc_spec_l1Next (fun k => noLoops rfl) (fun args m r h => match args, h with
  | [t0, t1], h => ⟨rfl, (xe_spec_l1Next t0 t1 m).trans h⟩)
theorem ok_C_spec_l1Next : OkC CT 107 C_spec_l1Next := rcall_ok rfl ok_X_spec_l1Next
noncomputable def cf_spec_l1Pick : CallF := cfc 107 C_spec_l1Next cfn
noncomputable def X_spec_l1Pick : List Value → Mem → Option VM
 | [t0, t1], m =>
  (lenX t1) |> bo fun t8 =>
  (C_spec_l1Next [t0, t8] m) |> bo fun r2 =>
  (ixaX 1 t1 r2.1) |> bo fun t10 =>
  (ld1 r2.2 t10) |> bo fun t11 =>
  retK m.length r2.2 [t0, t1] t11
 | _, _ => none
noncomputable def C_spec_l1Pick : List Value → Mem → Option VM := rcall X_spec_l1Pick
@[simp] theorem c_spec_l1Pick : C_spec_l1Pick = rcall X_spec_l1Pick := (rfl)
theorem cok_spec_l1Pick : codeOk CT Try.f65 (Try.f65.body.get rfl) = true := by kernel_rfl
theorem xe_spec_l1Pick (t0 t1 : Value) (m : Mem) : ex CT cf_spec_l1Pick Try.f65 2 m.length [] (fun _ _ _ => none) 400 [.code (Try.f65.body.get rfl)] (argsT 0 [t0, t1]) m = X_spec_l1Pick [t0, t1] m := by kernel_rfl
theorem okc_spec_l1Pick : CallOK CT cf_spec_l1Pick := cfc_ok ok_C_spec_l1Next cfn_ok
theorem ok_X_spec_l1Pick : OkX CT 65 X_spec_l1Pick := OkX.of_ex (cf := cf_spec_l1Pick) (np := 2) (LL := []) (J := (fun _ _ _ _ => none)) CT_ok rfl Try.func65 rfl (Nat.le_of_ble_eq_true rfl) (by decide) cok_spec_l1Pick okc_spec_l1Pick (fun k => noLoops rfl) (fun args m r h => match args, h with
  | [t0, t1], h => ⟨rfl, (xe_spec_l1Pick t0 t1 m).trans h⟩)
theorem ok_C_spec_l1Pick : OkC CT 65 C_spec_l1Pick := rcall_ok rfl ok_X_spec_l1Pick
noncomputable def cf_spec_l1Chance : CallF := cfc 107 C_spec_l1Next cfn
noncomputable def X_spec_l1Chance : List Value → Mem → Option VM
 | [t0, t1], m =>
  (C_spec_l1Next [t0, t1] m) |> bo fun r1 =>
  (binX .eql .no r1.1 (.int .i64 0)) |> bo fun t8 =>
  retK m.length r1.2 [t0, t1] t8
 | _, _ => none
noncomputable def C_spec_l1Chance : List Value → Mem → Option VM := rcall X_spec_l1Chance
@[simp] theorem c_spec_l1Chance : C_spec_l1Chance = rcall X_spec_l1Chance := (rfl)
theorem cok_spec_l1Chance : codeOk CT Try.f63 (Try.f63.body.get rfl) = true := by kernel_rfl
theorem xe_spec_l1Chance (t0 t1 : Value) (m : Mem) : ex CT cf_spec_l1Chance Try.f63 2 m.length [] (fun _ _ _ => none) 400 [.code (Try.f63.body.get rfl)] (argsT 0 [t0, t1]) m = X_spec_l1Chance [t0, t1] m := by kernel_rfl
theorem okc_spec_l1Chance : CallOK CT cf_spec_l1Chance := cfc_ok ok_C_spec_l1Next cfn_ok
theorem ok_X_spec_l1Chance : OkX CT 63 X_spec_l1Chance := OkX.of_ex (cf := cf_spec_l1Chance) (np := 2) (LL := []) (J := (fun _ _ _ _ => none)) CT_ok rfl Try.func63 rfl (Nat.le_of_ble_eq_true rfl) (by decide) cok_spec_l1Chance okc_spec_l1Chance (fun k => noLoops rfl) (fun args m r h => match args, h with
  | [t0, t1], h => ⟨rfl, (xe_spec_l1Chance t0 t1 m).trans h⟩)
theorem ok_C_spec_l1Chance : OkC CT 63 C_spec_l1Chance := rcall_ok rfl ok_X_spec_l1Chance
noncomputable def cf_spec_l1Encode : CallF := cfn
noncomputable def X_spec_l1Encode : List Value → Mem → Option VM
 | [t0], m =>
  (binX .lss .no t0 (.int .i64 128)) |> bo fun t4 =>
  brX t4
   (
    (cvI .u8 t0) |> bo fun t6 =>
    (bslX m 1 1 [.int .u8 0] [(0, 1, t6)]) |> bo fun r3 =>
    retK m.length r3.2 [t0] r3.1)
   (
    (binX .lss .no t0 (.int .i64 2048)) |> bo fun t9 =>
    brX t9
     (
      (binX .quo .no t0 (.int .i64 64)) |> bo fun t11 =>
      (binX .add .no (.int .i64 192) t11) |> bo fun t12 =>
      (cvI .u8 t12) |> bo fun t13 =>
      (binX .rem .no t0 (.int .i64 64)) |> bo fun t15 =>
      (binX .add .no (.int .i64 128) t15) |> bo fun t16 =>
      (cvI .u8 t16) |> bo fun t17 =>
      (bslX m 2 1 [.int .u8 0] [(0, 1, t13), (1, 1, t17)]) |> bo fun r11 =>
      retK m.length r11.2 [t0] r11.1)
     (
      (binX .quo .no t0 (.int .i64 4096)) |> bo fun t20 =>
      (binX .add .no (.int .i64 224) t20) |> bo fun t21 =>
      (cvI .u8 t21) |> bo fun t22 =>
      (binX .quo .no t0 (.int .i64 64)) |> bo fun t24 =>
      (binX .rem .no t24 (.int .i64 64)) |> bo fun t25 =>
      (binX .add .no (.int .i64 128) t25) |> bo fun t26 =>
      (cvI .u8 t26) |> bo fun t27 =>
      (binX .rem .no t0 (.int .i64 64)) |> bo fun t29 =>
      (binX .add .no (.int .i64 128) t29) |> bo fun t30 =>
      (cvI .u8 t30) |> bo fun t31 =>
      (bslX m 3 1 [.int .u8 0] [(0, 1, t22), (1, 1, t27), (2, 1, t31)]) |> bo fun r22 =>
      retK m.length r22.2 [t0] r22.1))
 | _, _ => none
noncomputable def C_spec_l1Encode : List Value → Mem → Option VM := fcall X_spec_l1Encode
@[simp] theorem c_spec_l1Encode : C_spec_l1Encode = fcall X_spec_l1Encode := (rfl)
theorem cok_spec_l1Encode : codeOk CT Try.f109 (Try.f109.body.get rfl) = true := by kernel_rfl
theorem xe_spec_l1Encode (t0 : Value) (m : Mem) : ex CT cf_spec_l1Encode Try.f109 1 m.length [] (fun _ _ _ => none) 400 [.code (Try.f109.body.get rfl)] (argsT 0 [t0]) m = X_spec_l1Encode [t0] m := by kernel_rfl
theorem okc_spec_l1Encode : CallOK CT cf_spec_l1Encode := cfn_ok
theorem ok_X_spec_l1Encode : OkX CT 109 X_spec_l1Encode := OkX.of_ex (cf := cf_spec_l1Encode) (np := 1) (LL := []) (J := (fun _ _ _ _ => none)) CT_ok rfl Try.func109 rfl (Nat.le_of_ble_eq_true rfl) (by decide) cok_spec_l1Encode okc_spec_l1Encode (fun k => noLoops rfl) (fun args m r h => match args, h with
  | [t0], h => ⟨rfl, (xe_spec_l1Encode t0 m).trans h⟩)
theorem ok_C_spec_l1Encode : OkC CT 109 C_spec_l1Encode := fcall_ok rfl ok_X_spec_l1Encode
noncomputable def cf_spec_l11Typed : CallF := cfc 65 C_spec_l1Pick (cfc 107 C_spec_l1Next (cfc 109 C_spec_l1Encode cfn))
noncomputable def L_spec_l11Typed (k : Nat) : Nat → Nat → List Value → Mem → Option VM
 | q + 1, 0, [t0, t1, t5, t6], m =>
  (binX .gtr .no t6 (.int .i64 0)) |> bo fun t12 =>
  brX t12
   (
    (C_spec_l1Next [t0, (.int .i64 12)] m) |> bo fun r2 =>
    (binX .eql .no r2.1 (.int .i64 0)) |> bo fun t25 =>
    brX t25
     (
      (bslX r2.2 8 1 [.int .i64 0] [(0, 1, (.int .i64 127)), (1, 1, (.int .i64 21)), (2, 1, (.int .i64 23)), (3, 1, (.int .i64 4)), (4, 1, (.int .i64 3)), (5, 1, (.int .i64 22)), (6, 1, (.int .i64 13)), (7, 1, (.int .i64 10))]) |> bo fun r4 =>
      (C_spec_l1Pick [t0, r4.1] r4.2) |> bo fun r5 =>
      (cvI .u8 r5.1) |> bo fun t30 =>
      (bslX r5.2 1 1 [.int .u8 0] [(0, 1, t30)]) |> bo fun r7 =>
      (apL r7.2 1 1 t5 r7.1) |> bo fun r8 =>
      (binX .sub .no t6 (.int .i64 1)) |> bo fun t14 =>
      cutK k r8.2 [t0, t1] [t0, t1, r8.1, t14] (L_spec_l11Typed k q 0))
     (
      (binX .eql .no r2.1 (.int .i64 1)) |> bo fun t34 =>
      brX t34
       (
        (bslX r2.2 1 1 [.int .u8 0] [(0, 1, (.int .u8 127))]) |> bo fun r11 =>
        (apL r11.2 1 1 t5 r11.1) |> bo fun r12 =>
        (binX .sub .no t6 (.int .i64 1)) |> bo fun t14 =>
        cutK k r12.2 [t0, t1] [t0, t1, r12.1, t14] (L_spec_l11Typed k q 0))
       (
        (binX .eql .no r2.1 (.int .i64 2)) |> bo fun t39 =>
        brX t39
         (
          (bslX r2.2 3 1 [.int .i64 0] [(0, 1, (.int .i64 228)), (1, 1, (.int .i64 8364)), (2, 1, (.int .i64 1))]) |> bo fun r15 =>
          (C_spec_l1Pick [t0, r15.1] r15.2) |> bo fun r16 =>
          (C_spec_l1Encode [r16.1] r16.2) |> bo fun r17 =>
          (apL r17.2 1 1 t5 r17.1) |> bo fun r18 =>
          (binX .sub .no t6 (.int .i64 1)) |> bo fun t14 =>
          cutK k r18.2 [t0, t1] [t0, t1, r18.1, t14] (L_spec_l11Typed k q 0))
         (
          (bslX r2.2 4 1 [.int .i64 0] [(0, 1, (.int .i64 97)), (1, 1, (.int .i64 98)), (2, 1, (.int .i64 99)), (3, 1, (.int .i64 32))]) |> bo fun r20 =>
          (C_spec_l1Pick [t0, r20.1] r20.2) |> bo fun r21 =>
          (cvI .u8 r21.1) |> bo fun t21 =>
          (bslX r21.2 1 1 [.int .u8 0] [(0, 1, t21)]) |> bo fun r23 =>
          (apL r23.2 1 1 t5 r23.1) |> bo fun r24 =>
          (binX .sub .no t6 (.int .i64 1)) |> bo fun t14 =>
          cutK k r24.2 [t0, t1] [t0, t1, r24.1, t14] (L_spec_l11Typed k q 0)))))
   (
    retK k m [t0, t1] t5)
 | _, _, _, _ => none
noncomputable def J_spec_l11Typed (k q l : Nat) : List Value → Mem → Option VM := cond (Nat.beq l 3) (L_spec_l11Typed k q 0) (fun _ _ => none)
def LL_spec_l11Typed : List (Nat × List Tmp) := [(3, [0, 1, 5, 6])]
noncomputable def X_spec_l11Typed : List Value → Mem → Option VM
 | [t0, t1], m =>
  (bslX m 0 1 [.int .u8 0] []) |> bo fun r1 =>
  (C_spec_l1Next [t0, t1] r1.2) |> bo fun r2 =>
  cutK m.length r2.2 [t0, t1] [t0, t1, r1.1, r2.1] (L_spec_l11Typed m.length QQ 0)
 | _, _ => none
noncomputable def C_spec_l11Typed : List Value → Mem → Option VM := rcall X_spec_l11Typed
@[simp] theorem c_spec_l11Typed : C_spec_l11Typed = rcall X_spec_l11Typed := (rfl)
theorem cok_spec_l11Typed : codeOk CT Try.f64 (Try.f64.body.get rfl) = true := by kernel_rfl
theorem xe_spec_l11Typed (t0 t1 : Value) (m : Mem) : ex CT cf_spec_l11Typed Try.f64 2 m.length LL_spec_l11Typed (J_spec_l11Typed m.length QQ) 400 [.code (Try.f64.body.get rfl)] (argsT 0 [t0, t1]) m = X_spec_l11Typed [t0, t1] m := by kernel_rfl
theorem okc_spec_l11Typed : CallOK CT cf_spec_l11Typed := cfc_ok ok_C_spec_l1Pick (cfc_ok ok_C_spec_l1Next (cfc_ok ok_C_spec_l1Encode cfn_ok))
theorem le_spec_l11Typed_0 (k q : Nat) (t0 t1 t5 t6 : Value) (m : Mem) : ex CT cf_spec_l11Typed Try.f64 2 k LL_spec_l11Typed (J_spec_l11Typed k q) 400 (atLoop Try.f64 0) [(0, t0), (1, t1), (5, t5), (6, t6)] m = J_spec_l11Typed k (q + 1) 3 [t0, t1, t5, t6] m := by kernel_rfl
theorem gl_spec_l11Typed (k : Nat) : ∀ q i, i < 1 → GoodL CT k Try.f64 LL_spec_l11Typed (J_spec_l11Typed k q) (atLoop Try.f64 i)
 | 0, 0, _ => goodL_zero (l := 3) (by kernel_rfl) (fun vs m => by kernel_rfl)
 | 0, _ + 1, h => absurd h (by omega)
 | q + 1, 0, _ => goodL_succ (np := 2) (l := 3) (live := [0, 1, 5, 6]) (n := 1) CT_ok rfl okc_spec_l11Typed (c := (Try.f64.body.get rfl)) rfl cok_spec_l11Typed (by kernel_rfl) (gl_spec_l11Typed k q) (by kernel_rfl) rfl (fun vs m r hl h => match vs, hl with
  | [t0, t1, t5, t6], _ => (le_spec_l11Typed_0 k q t0 t1 t5 t6 m).trans h)
 | _ + 1, _ + 1, h => absurd h (by omega)
theorem ok_X_spec_l11Typed : OkX CT 64 X_spec_l11Typed := OkX.of_ex (cf := cf_spec_l11Typed) (np := 2) (LL := LL_spec_l11Typed) (J := (fun k => J_spec_l11Typed k QQ)) CT_ok rfl Try.func64 rfl (Nat.le_of_ble_eq_true rfl) (by decide) cok_spec_l11Typed okc_spec_l11Typed (fun k => allLoops rfl (by kernel_rfl) (gl_spec_l11Typed k QQ)) (fun args m r h => match args, h with
  | [t0, t1], h => ⟨rfl, (xe_spec_l11Typed t0 t1 m).trans h⟩)
theorem ok_C_spec_l11Typed : OkC CT 64 C_spec_l11Typed := rcall_ok rfl ok_X_spec_l11Typed
noncomputable def cf_spec_l10Usual : CallF := cfn
noncomputable def X_spec_l10Usual : List Value → Mem → Option VM
 | [t0], m =>
  (alX m [.int .i64 0, .int .i64 0, .int .i64 0, .int .i64 0, .int .i64 0, .int .i64 0, .int .i64 0]) |> bo fun r1 =>
  (bldX [.int .i64 0, .int .i64 0, .int .i64 0, .int .i64 0, .int .i64 0, .int .i64 0, .int .i64 0] [(0, 1, t0), (1, 1, (.int .i64 127)), (2, 1, (.int .i64 21)), (3, 1, (.int .i64 23)), (4, 1, (.int .i64 4)), (5, 1, (.int .i64 3)), (6, 1, (.int .i64 22))]) |> bo fun t4 =>
  (stX r1.2 7 r1.1 t4) |> bo fun m3 =>
  (resP (some 7) m3 r1.1) |> bo fun c4 =>
  retK m.length m3 [t0] c4
 | _, _ => none
noncomputable def C_spec_l10Usual : List Value → Mem → Option VM := fcall X_spec_l10Usual
@[simp] theorem c_spec_l10Usual : C_spec_l10Usual = fcall X_spec_l10Usual := (rfl)
theorem cok_spec_l10Usual : codeOk CT Try.f129 (Try.f129.body.get rfl) = true := by kernel_rfl
theorem xe_spec_l10Usual (t0 : Value) (m : Mem) : ex CT cf_spec_l10Usual Try.f129 1 m.length [] (fun _ _ _ => none) 400 [.code (Try.f129.body.get rfl)] (argsT 0 [t0]) m = X_spec_l10Usual [t0] m := by kernel_rfl
theorem okc_spec_l10Usual : CallOK CT cf_spec_l10Usual := cfn_ok
theorem ok_X_spec_l10Usual : OkX CT 129 X_spec_l10Usual := OkX.of_ex (cf := cf_spec_l10Usual) (np := 1) (LL := []) (J := (fun _ _ _ _ => none)) CT_ok rfl Try.func129 rfl (Nat.le_of_ble_eq_true rfl) (by decide) cok_spec_l10Usual okc_spec_l10Usual (fun k => noLoops rfl) (fun args m r h => match args, h with
  | [t0], h => ⟨rfl, (xe_spec_l10Usual t0 m).trans h⟩)
theorem ok_C_spec_l10Usual : OkC CT 129 C_spec_l10Usual := fcall_ok rfl ok_X_spec_l10Usual
noncomputable def cf_spec_l10Draw : CallF := cfc 65 C_spec_l1Pick (cfc 107 C_spec_l1Next (cfc 129 C_spec_l10Usual cfn))
noncomputable def X_spec_l10Draw : List Value → Mem → Option VM
 | [t0], m =>
  (alX m [.int .i64 0, .int .i64 0, .int .i64 0, .int .i64 0, .int .i64 0, .int .i64 0, .int .i64 0]) |> bo fun r1 =>
  (C_spec_l1Next [t0, (.int .i64 512)] r1.2) |> bo fun r2 =>
  (bslX r2.2 6 1 [.int .i64 0] [(0, 1, (.int .i64 511)), (1, 1, (.int .i64 511)), (2, 1, (.int .i64 507)), (3, 1, r2.1), (4, 1, (.int .i64 2)), (5, 1, (.int .i64 510))]) |> bo fun r3 =>
  (C_spec_l1Pick [t0, r3.1] r3.2) |> bo fun r4 =>
  (C_spec_l10Usual [r4.1] r4.2) |> bo fun r5 =>
  (stX r5.2 7 r1.1 r5.1) |> bo fun m6 =>
  (resP (some 7) m6 r1.1) |> bo fun c7 =>
  retK m.length m6 [t0] c7
 | _, _ => none
noncomputable def C_spec_l10Draw : List Value → Mem → Option VM := rcall X_spec_l10Draw
@[simp] theorem c_spec_l10Draw : C_spec_l10Draw = rcall X_spec_l10Draw := (rfl)
theorem cok_spec_l10Draw : codeOk CT Try.f152 (Try.f152.body.get rfl) = true := by kernel_rfl
theorem xe_spec_l10Draw (t0 : Value) (m : Mem) : ex CT cf_spec_l10Draw Try.f152 1 m.length [] (fun _ _ _ => none) 400 [.code (Try.f152.body.get rfl)] (argsT 0 [t0]) m = X_spec_l10Draw [t0] m := by kernel_rfl
theorem okc_spec_l10Draw : CallOK CT cf_spec_l10Draw := cfc_ok ok_C_spec_l1Pick (cfc_ok ok_C_spec_l1Next (cfc_ok ok_C_spec_l10Usual cfn_ok))
theorem ok_X_spec_l10Draw : OkX CT 152 X_spec_l10Draw := OkX.of_ex (cf := cf_spec_l10Draw) (np := 1) (LL := []) (J := (fun _ _ _ _ => none)) CT_ok rfl Try.func152 rfl (Nat.le_of_ble_eq_true rfl) (by decide) cok_spec_l10Draw okc_spec_l10Draw (fun k => noLoops rfl) (fun args m r h => match args, h with
  | [t0], h => ⟨rfl, (xe_spec_l10Draw t0 m).trans h⟩)
theorem ok_C_spec_l10Draw : OkC CT 152 C_spec_l10Draw := rcall_ok rfl ok_X_spec_l10Draw
noncomputable def cf_spec_l11Draw : CallF := cfc 51 C_spec_l11Feed (cfc 63 C_spec_l1Chance (cfc 64 C_spec_l11Typed (cfc 152 C_spec_l10Draw cfn)))
noncomputable def L_spec_l11Draw (k : Nat) : Nat → Nat → List Value → Mem → Option VM
 | q + 1, 0, [t0, t2, t3, t4, t5, t6, t7], m =>
  (lenX t6) |> bo fun t21 =>
  (binX .lss .no t7 t21) |> bo fun t22 =>
  brX t22
   (
    (ixaX 1 t6 t7) |> bo fun t27 =>
    (ld1 m t27) |> bo fun t28 =>
    (C_spec_l11Feed [t4, t5, t28] m) |> bo fun r5 =>
    (binX .add .no t7 (.int .i64 1)) |> bo fun t24 =>
    cutK k r5.2 [t0] [t0, t2, t3, t4, t5, t6, t24] (L_spec_l11Draw k q 0))
   (
    (ldS m 7 t4) |> bo fun t30 =>
    (ldS m 4 t5) |> bo fun t31 =>
    (stX m 7 t2 t30) |> bo fun m9 =>
    (stX m9 4 t3 t31) |> bo fun m10 =>
    gP (stbL [((rdN t5), m, m9)])
     (
      (resP (some 7) m10 t2) |> bo fun c11 =>
      (resP (some 4) m10 t3) |> bo fun c12 =>
      retK k m10 [t0] (.tuple #[c11, c12])))
 | _, _, _, _ => none
noncomputable def J_spec_l11Draw (k q l : Nat) : List Value → Mem → Option VM := cond (Nat.beq l 7) (L_spec_l11Draw k q 0) (fun _ _ => none)
def LL_spec_l11Draw : List (Nat × List Tmp) := [(7, [0, 2, 3, 4, 5, 6, 7])]
noncomputable def X_spec_l11Draw : List Value → Mem → Option VM
 | [t0], m =>
  (alX m [.int .i64 0, .int .i64 0, .int .i64 0, .int .i64 0, .int .i64 0, .int .i64 0, .int .i64 0]) |> bo fun r1 =>
  (alX r1.2 [.slice none 0 0, .slice none 0 0, .bool false, .int .i64 0]) |> bo fun r2 =>
  (C_spec_l10Draw [t0] r2.2) |> bo fun r3 =>
  (alX r3.2 [.int .i64 0, .int .i64 0, .int .i64 0, .int .i64 0, .int .i64 0, .int .i64 0, .int .i64 0]) |> bo fun r4 =>
  (stX r4.2 7 r4.1 r3.1) |> bo fun m5 =>
  (bldX [.slice none 0 0, .slice none 0 0, .bool false, .int .i64 0] []) |> bo fun t10 =>
  (alX m5 [.slice none 0 0, .slice none 0 0, .bool false, .int .i64 0]) |> bo fun r7 =>
  (stX r7.2 4 r7.1 t10) |> bo fun m8 =>
  (C_spec_l11Typed [t0, (.int .i64 20)] m8) |> bo fun r9 =>
  (C_spec_l1Chance [t0, (.int .i64 6)] r9.2) |> bo fun r10 =>
  brX r10.1
   (
    (C_spec_l11Typed [t0, (.int .i64 60)] r10.2) |> bo fun r11 =>
    (apL r11.2 1 1 r9.1 r11.1) |> bo fun r12 =>
    cutK m.length r12.2 [t0] [t0, r1.1, r2.1, r4.1, r7.1, r12.1, (.int .i64 0)] (L_spec_l11Draw m.length QQ 0))
   (
    cutK m.length r10.2 [t0] [t0, r1.1, r2.1, r4.1, r7.1, r9.1, (.int .i64 0)] (L_spec_l11Draw m.length QQ 0))
 | _, _ => none
noncomputable def C_spec_l11Draw : List Value → Mem → Option VM := qcall X_spec_l11Draw
@[simp] theorem c_spec_l11Draw : C_spec_l11Draw = qcall X_spec_l11Draw := (rfl)
theorem cok_spec_l11Draw : codeOk CT Try.f106 (Try.f106.body.get rfl) = true := by kernel_rfl
theorem xe_spec_l11Draw (t0 : Value) (m : Mem) : ex CT cf_spec_l11Draw Try.f106 1 m.length LL_spec_l11Draw (J_spec_l11Draw m.length QQ) 400 [.code (Try.f106.body.get rfl)] (argsT 0 [t0]) m = X_spec_l11Draw [t0] m := by kernel_rfl
theorem okc_spec_l11Draw : CallOK CT cf_spec_l11Draw := cfc_ok ok_C_spec_l11Feed (cfc_ok ok_C_spec_l1Chance (cfc_ok ok_C_spec_l11Typed (cfc_ok ok_C_spec_l10Draw cfn_ok)))
theorem le_spec_l11Draw_0 (k q : Nat) (t0 t2 t3 t4 t5 t6 t7 : Value) (m : Mem) : ex CT cf_spec_l11Draw Try.f106 1 k LL_spec_l11Draw (J_spec_l11Draw k q) 400 (atLoop Try.f106 0) [(0, t0), (2, t2), (3, t3), (4, t4), (5, t5), (6, t6), (7, t7)] m = J_spec_l11Draw k (q + 1) 7 [t0, t2, t3, t4, t5, t6, t7] m := by kernel_rfl
theorem gl_spec_l11Draw (k : Nat) : ∀ q i, i < 1 → GoodL CT k Try.f106 LL_spec_l11Draw (J_spec_l11Draw k q) (atLoop Try.f106 i)
 | 0, 0, _ => goodL_zero (l := 7) (by kernel_rfl) (fun vs m => by kernel_rfl)
 | 0, _ + 1, h => absurd h (by omega)
 | q + 1, 0, _ => goodL_succ (np := 1) (l := 7) (live := [0, 2, 3, 4, 5, 6, 7]) (n := 1) CT_ok rfl okc_spec_l11Draw (c := (Try.f106.body.get rfl)) rfl cok_spec_l11Draw (by kernel_rfl) (gl_spec_l11Draw k q) (by kernel_rfl) rfl (fun vs m r hl h => match vs, hl with
  | [t0, t2, t3, t4, t5, t6, t7], _ => (le_spec_l11Draw_0 k q t0 t2 t3 t4 t5 t6 t7 m).trans h)
 | _ + 1, _ + 1, h => absurd h (by omega)
theorem ok_X_spec_l11Draw : OkX CT 106 X_spec_l11Draw := OkX.of_ex (cf := cf_spec_l11Draw) (np := 1) (LL := LL_spec_l11Draw) (J := (fun k => J_spec_l11Draw k QQ)) CT_ok rfl Try.func106 rfl (Nat.le_of_ble_eq_true rfl) (by decide) cok_spec_l11Draw okc_spec_l11Draw (fun k => allLoops rfl (by kernel_rfl) (gl_spec_l11Draw k QQ)) (fun args m r h => match args, h with
  | [t0], h => ⟨rfl, (xe_spec_l11Draw t0 m).trans h⟩)
theorem ok_C_spec_l11Draw : OkC CT 106 C_spec_l11Draw := qcall_ok rfl ok_X_spec_l11Draw
noncomputable def cf_spec_l10Bent : CallF := cfc 65 C_spec_l1Pick (cfc 107 C_spec_l1Next (cfc 152 C_spec_l10Draw cfn))
noncomputable def X_spec_l10Bent : List Value → Mem → Option VM
 | [t0], m =>
  (alX m [.int .i64 0, .int .i64 0, .int .i64 0, .int .i64 0, .int .i64 0, .int .i64 0, .int .i64 0]) |> bo fun r1 =>
  (C_spec_l10Draw [t0] r1.2) |> bo fun r2 =>
  (alX r2.2 [.int .i64 0, .int .i64 0, .int .i64 0, .int .i64 0, .int .i64 0, .int .i64 0, .int .i64 0]) |> bo fun r3 =>
  (stX r3.2 7 r3.1 r2.1) |> bo fun m4 =>
  (C_spec_l1Next [t0, (.int .i64 12)] m4) |> bo fun r5 =>
  (binX .eql .no r5.1 (.int .i64 0)) |> bo fun t9 =>
  brX t9
   (
    (bslX r5.2 2 1 [.int .i64 0] [(0, 1, (.int .i64 (-1))), (1, 1, (.int .i64 512))]) |> bo fun r7 =>
    (C_spec_l1Pick [t0, r7.1] r7.2) |> bo fun r8 =>
    (fadX 0 r3.1) |> bo fun t13 =>
    (stX r8.2 1 t13 r8.1) |> bo fun m10 =>
    (ldS m10 7 r3.1) |> bo fun t20 =>
    (stX m10 7 r1.1 t20) |> bo fun m12 =>
    (resP (some 7) m12 r1.1) |> bo fun c13 =>
    retK m.length m12 [t0] c13)
   (
    (binX .eql .no r5.1 (.int .i64 1)) |> bo fun t15 =>
    brX t15
     (
      (bslX r5.2 4 1 [.int .i64 0] [(0, 1, (.int .i64 0)), (1, 1, (.int .i64 8)), (2, 1, (.int .i64 256)), (3, 1, (.int .i64 (-1)))]) |> bo fun r15 =>
      (C_spec_l1Pick [t0, r15.1] r15.2) |> bo fun r16 =>
      (fadX 1 r3.1) |> bo fun t19 =>
      (stX r16.2 1 t19 r16.1) |> bo fun m18 =>
      (ldS m18 7 r3.1) |> bo fun t20 =>
      (stX m18 7 r1.1 t20) |> bo fun m20 =>
      (resP (some 7) m20 r1.1) |> bo fun c21 =>
      retK m.length m20 [t0] c21)
     (
      (ldS r5.2 7 r3.1) |> bo fun t20 =>
      (stX r5.2 7 r1.1 t20) |> bo fun m23 =>
      (resP (some 7) m23 r1.1) |> bo fun c24 =>
      retK m.length m23 [t0] c24))
 | _, _ => none
noncomputable def C_spec_l10Bent : List Value → Mem → Option VM := rcall X_spec_l10Bent
@[simp] theorem c_spec_l10Bent : C_spec_l10Bent = rcall X_spec_l10Bent := (rfl)
theorem cok_spec_l10Bent : codeOk CT Try.f108 (Try.f108.body.get rfl) = true := by kernel_rfl
theorem xe_spec_l10Bent (t0 : Value) (m : Mem) : ex CT cf_spec_l10Bent Try.f108 1 m.length [] (fun _ _ _ => none) 400 [.code (Try.f108.body.get rfl)] (argsT 0 [t0]) m = X_spec_l10Bent [t0] m := by kernel_rfl
theorem okc_spec_l10Bent : CallOK CT cf_spec_l10Bent := cfc_ok ok_C_spec_l1Pick (cfc_ok ok_C_spec_l1Next (cfc_ok ok_C_spec_l10Draw cfn_ok))
theorem ok_X_spec_l10Bent : OkX CT 108 X_spec_l10Bent := OkX.of_ex (cf := cf_spec_l10Bent) (np := 1) (LL := []) (J := (fun _ _ _ _ => none)) CT_ok rfl Try.func108 rfl (Nat.le_of_ble_eq_true rfl) (by decide) cok_spec_l10Bent okc_spec_l10Bent (fun k => noLoops rfl) (fun args m r h => match args, h with
  | [t0], h => ⟨rfl, (xe_spec_l10Bent t0 m).trans h⟩)
theorem ok_C_spec_l10Bent : OkC CT 108 C_spec_l10Bent := rcall_ok rfl ok_X_spec_l10Bent
noncomputable def cf_spec_l11Bent : CallF := cfc 65 C_spec_l1Pick (cfc 106 C_spec_l11Draw (cfc 107 C_spec_l1Next (cfc 108 C_spec_l10Bent cfn)))
noncomputable def X_spec_l11Bent : List Value → Mem → Option VM
 | [t0], m =>
  (alX m [.int .i64 0, .int .i64 0, .int .i64 0, .int .i64 0, .int .i64 0, .int .i64 0, .int .i64 0]) |> bo fun r1 =>
  (alX r1.2 [.slice none 0 0, .slice none 0 0, .bool false, .int .i64 0]) |> bo fun r2 =>
  (C_spec_l11Draw [t0] r2.2) |> bo fun r3 =>
  (extX 0 r3.1) |> bo fun t9 =>
  (extX 1 r3.1) |> bo fun t10 =>
  (alX r3.2 [.int .i64 0, .int .i64 0, .int .i64 0, .int .i64 0, .int .i64 0, .int .i64 0, .int .i64 0]) |> bo fun r6 =>
  (alX r6.2 [.slice none 0 0, .slice none 0 0, .bool false, .int .i64 0]) |> bo fun r7 =>
  (stX r7.2 7 r6.1 t9) |> bo fun m8 =>
  (stX m8 4 r7.1 t10) |> bo fun m9 =>
  (C_spec_l1Next [t0, (.int .i64 14)] m9) |> bo fun r10 =>
  (binX .eql .no r10.1 (.int .i64 0)) |> bo fun t14 =>
  brX t14
   (
    (C_spec_l10Bent [t0] r10.2) |> bo fun r12 =>
    (stX r12.2 7 r6.1 r12.1) |> bo fun m13 =>
    (ldS m13 7 r6.1) |> bo fun t37 =>
    (ldS m13 4 r7.1) |> bo fun t38 =>
    (stX m13 7 r1.1 t37) |> bo fun m16 =>
    (stX m16 4 r2.1 t38) |> bo fun m17 =>
    gP (stbL [((rdN r7.1), m13, m16)])
     (
      (resP (some 7) m17 r1.1) |> bo fun c18 =>
      (resP (some 4) m17 r2.1) |> bo fun c19 =>
      retK m.length m17 [t0] (.tuple #[c18, c19])))
   (
    (binX .eql .no r10.1 (.int .i64 1)) |> bo fun t18 =>
    brX t18
     (
      (bslX r10.2 3 1 [.int .i64 0] [(0, 1, (.int .i64 (-1))), (1, 1, (.int .i64 999)), (2, 1, (.int .i64 1000))]) |> bo fun r21 =>
      (C_spec_l1Pick [t0, r21.1] r21.2) |> bo fun r22 =>
      (fadX 3 r7.1) |> bo fun t22 =>
      (stX r22.2 1 t22 r22.1) |> bo fun m24 =>
      (ldS m24 7 r6.1) |> bo fun t37 =>
      (ldS m24 4 r7.1) |> bo fun t38 =>
      (stX m24 7 r1.1 t37) |> bo fun m27 =>
      (stX m27 4 r2.1 t38) |> bo fun m28 =>
      gP (stbL [((rdN r7.1), m24, m27)])
       (
        (resP (some 7) m28 r1.1) |> bo fun c29 =>
        (resP (some 4) m28 r2.1) |> bo fun c30 =>
        retK m.length m28 [t0] (.tuple #[c29, c30])))
     (
      (binX .eql .no r10.1 (.int .i64 2)) |> bo fun t24 =>
      brX t24
       (
        (bslX r10.2 3 1 [.int .i64 0] [(0, 1, (.int .i64 39)), (1, 1, (.int .i64 40)), (2, 1, (.int .i64 41))]) |> bo fun r32 =>
        (C_spec_l1Pick [t0, r32.1] r32.2) |> bo fun r33 =>
        (mkX r33.2 1 1 [.int .u8 0] r33.1 r33.1) |> bo fun r34 =>
        (fadX 1 r7.1) |> bo fun t29 =>
        (stX r34.2 1 t29 r34.1) |> bo fun m36 =>
        (ldS m36 7 r6.1) |> bo fun t37 =>
        (ldS m36 4 r7.1) |> bo fun t38 =>
        (stX m36 7 r1.1 t37) |> bo fun m39 =>
        (stX m39 4 r2.1 t38) |> bo fun m40 =>
        gP (stbL [((rdN r7.1), m36, m39)])
         (
          (resP (some 7) m40 r1.1) |> bo fun c41 =>
          (resP (some 4) m40 r2.1) |> bo fun c42 =>
          retK m.length m40 [t0] (.tuple #[c41, c42])))
       (
        (binX .eql .no r10.1 (.int .i64 3)) |> bo fun t31 =>
        brX t31
         (
          (bslX r10.2 2 1 [.int .i64 0] [(0, 1, (.int .i64 40)), (1, 1, (.int .i64 41))]) |> bo fun r44 =>
          (C_spec_l1Pick [t0, r44.1] r44.2) |> bo fun r45 =>
          (mkX r45.2 1 24 [.slice none 0 0] r45.1 r45.1) |> bo fun r46 =>
          (fadX 0 r7.1) |> bo fun t36 =>
          (stX r46.2 1 t36 r46.1) |> bo fun m48 =>
          (ldS m48 7 r6.1) |> bo fun t37 =>
          (ldS m48 4 r7.1) |> bo fun t38 =>
          (stX m48 7 r1.1 t37) |> bo fun m51 =>
          (stX m51 4 r2.1 t38) |> bo fun m52 =>
          gP (stbL [((rdN r7.1), m48, m51)])
           (
            (resP (some 7) m52 r1.1) |> bo fun c53 =>
            (resP (some 4) m52 r2.1) |> bo fun c54 =>
            retK m.length m52 [t0] (.tuple #[c53, c54])))
         (
          (ldS r10.2 7 r6.1) |> bo fun t37 =>
          (ldS r10.2 4 r7.1) |> bo fun t38 =>
          (stX r10.2 7 r1.1 t37) |> bo fun m57 =>
          (stX m57 4 r2.1 t38) |> bo fun m58 =>
          gP (stbL [((rdN r7.1), r10.2, m57)])
           (
            (resP (some 7) m58 r1.1) |> bo fun c59 =>
            (resP (some 4) m58 r2.1) |> bo fun c60 =>
            retK m.length m58 [t0] (.tuple #[c59, c60]))))))
 | _, _ => none
noncomputable def C_spec_l11Bent : List Value → Mem → Option VM := qcall X_spec_l11Bent
@[simp] theorem c_spec_l11Bent : C_spec_l11Bent = qcall X_spec_l11Bent := (rfl)
theorem cok_spec_l11Bent : codeOk CT Try.f62 (Try.f62.body.get rfl) = true := by kernel_rfl
theorem xe_spec_l11Bent (t0 : Value) (m : Mem) : ex CT cf_spec_l11Bent Try.f62 1 m.length [] (fun _ _ _ => none) 400 [.code (Try.f62.body.get rfl)] (argsT 0 [t0]) m = X_spec_l11Bent [t0] m := by kernel_rfl
theorem okc_spec_l11Bent : CallOK CT cf_spec_l11Bent := cfc_ok ok_C_spec_l1Pick (cfc_ok ok_C_spec_l11Draw (cfc_ok ok_C_spec_l1Next (cfc_ok ok_C_spec_l10Bent cfn_ok)))
theorem ok_X_spec_l11Bent : OkX CT 62 X_spec_l11Bent := OkX.of_ex (cf := cf_spec_l11Bent) (np := 1) (LL := []) (J := (fun _ _ _ _ => none)) CT_ok rfl Try.func62 rfl (Nat.le_of_ble_eq_true rfl) (by decide) cok_spec_l11Bent okc_spec_l11Bent (fun k => noLoops rfl) (fun args m r h => match args, h with
  | [t0], h => ⟨rfl, (xe_spec_l11Bent t0 m).trans h⟩)
theorem ok_C_spec_l11Bent : OkC CT 62 C_spec_l11Bent := qcall_ok rfl ok_X_spec_l11Bent
noncomputable def cf_spec_DrawFeedMany : CallF := cfc 61 C_spec_l1Source (cfc 62 C_spec_l11Bent (cfc 63 C_spec_l1Chance (cfc 64 C_spec_l11Typed cfn)))
noncomputable def X_spec_DrawFeedMany : List Value → Mem → Option VM
 | [t0], m =>
  (alX m [.int .i64 0, .int .i64 0, .int .i64 0, .int .i64 0, .int .i64 0, .int .i64 0, .int .i64 0]) |> bo fun r1 =>
  (alX r1.2 [.slice none 0 0, .slice none 0 0, .bool false, .int .i64 0]) |> bo fun r2 =>
  (C_spec_l1Source [t0] r2.2) |> bo fun r3 =>
  (C_spec_l11Bent [r3.1] r3.2) |> bo fun r4 =>
  (extX 0 r4.1) |> bo fun t13 =>
  (extX 1 r4.1) |> bo fun t14 =>
  (alX r4.2 [.int .i64 0, .int .i64 0, .int .i64 0, .int .i64 0, .int .i64 0, .int .i64 0, .int .i64 0]) |> bo fun r7 =>
  (alX r7.2 [.slice none 0 0, .slice none 0 0, .bool false, .int .i64 0]) |> bo fun r8 =>
  (stX r8.2 7 r7.1 t13) |> bo fun m9 =>
  (stX m9 4 r8.1 t14) |> bo fun m10 =>
  (C_spec_l1Chance [r3.1, (.int .i64 30)] m10) |> bo fun r11 =>
  brX r11.1
   (
    (ldS r11.2 7 r7.1) |> bo fun t17 =>
    (ldS r11.2 4 r8.1) |> bo fun t18 =>
    (mkX r11.2 1 1 [.int .u8 0] (.int .i64 201) (.int .i64 201)) |> bo fun r14 =>
    (stX r14.2 7 r1.1 t17) |> bo fun m15 =>
    (stX m15 4 r2.1 t18) |> bo fun m16 =>
    gP (stbL [((rdN r8.1), r14.2, m15)])
     (
      (resP (some 7) m16 r1.1) |> bo fun c17 =>
      (resP (some 4) m16 r2.1) |> bo fun c18 =>
      retK m.length m16 [t0] (.tuple #[c17, c18, r14.1])))
   (
    (ldS r11.2 7 r7.1) |> bo fun t20 =>
    (ldS r11.2 4 r8.1) |> bo fun t21 =>
    (C_spec_l11Typed [r3.1, (.int .i64 14)] r11.2) |> bo fun r21 =>
    (stX r21.2 7 r1.1 t20) |> bo fun m22 =>
    (stX m22 4 r2.1 t21) |> bo fun m23 =>
    gP (stbL [((rdN r7.1), r11.2, r21.2), ((rdN r8.1), r11.2, r21.2), ((rdN r8.1), r21.2, m22)])
     (
      (resP (some 7) m23 r1.1) |> bo fun c24 =>
      (resP (some 4) m23 r2.1) |> bo fun c25 =>
      retK m.length m23 [t0] (.tuple #[c24, c25, r21.1])))
 | _, _ => none
noncomputable def C_spec_DrawFeedMany : List Value → Mem → Option VM := icall X_spec_DrawFeedMany
@[simp] theorem c_spec_DrawFeedMany : C_spec_DrawFeedMany = icall X_spec_DrawFeedMany := (rfl)
theorem cok_spec_DrawFeedMany : codeOk CT Try.f25 (Try.f25.body.get rfl) = true := by kernel_rfl
theorem xe_spec_DrawFeedMany (t0 : Value) (m : Mem) : ex CT cf_spec_DrawFeedMany Try.f25 1 m.length [] (fun _ _ _ => none) 400 [.code (Try.f25.body.get rfl)] (argsT 0 [t0]) m = X_spec_DrawFeedMany [t0] m := by kernel_rfl
theorem okc_spec_DrawFeedMany : CallOK CT cf_spec_DrawFeedMany := cfc_ok ok_C_spec_l1Source (cfc_ok ok_C_spec_l11Bent (cfc_ok ok_C_spec_l1Chance (cfc_ok ok_C_spec_l11Typed cfn_ok)))
theorem ok_X_spec_DrawFeedMany : OkX CT 25 X_spec_DrawFeedMany := OkX.of_ex (cf := cf_spec_DrawFeedMany) (np := 1) (LL := []) (J := (fun _ _ _ _ => none)) CT_ok rfl Try.func25 rfl (Nat.le_of_ble_eq_true rfl) (by decide) cok_spec_DrawFeedMany okc_spec_DrawFeedMany (fun k => noLoops rfl) (fun args m r h => match args, h with
  | [t0], h => ⟨rfl, (xe_spec_DrawFeedMany t0 m).trans h⟩)
theorem ok_C_spec_DrawFeedMany : OkC CT 25 C_spec_DrawFeedMany := icall_ok rfl ok_X_spec_DrawFeedMany
noncomputable def cf_laws_lwAt : CallF := cfn
noncomputable def X_laws_lwAt : List Value → Mem → Option VM
 | [t0, t1, t2], m =>
  (lenX t0) |> bo fun t10 =>
  (binX .leq .no t2 (.int .i64 1)) |> bo fun t12 =>
  brX t12
   (
    retK m.length m [t0, t1, t2] (.int .i64 0))
   (
    (binX .eql .no t10 (.int .i64 0)) |> bo fun t14 =>
    brX t14
     (
      (binX .mul .no t1 (.int .i64 7)) |> bo fun t16 =>
      (binX .rem .no t16 t2) |> bo fun t18 =>
      retK m.length m [t0, t1, t2] t18)
     (
      (binX .rem .no t1 t10) |> bo fun t22 =>
      (ixaX 1 t0 t22) |> bo fun t23 =>
      (ld1 m t23) |> bo fun t24 =>
      (cvI .i64 t24) |> bo fun t25 =>
      (binX .quo .no t1 t10) |> bo fun t28 =>
      (binX .mul .no t28 (.int .i64 3)) |> bo fun t29 =>
      (binX .add .no t25 t29) |> bo fun t30 =>
      (binX .gtr .no t2 (.int .i64 200)) |> bo fun t32 =>
      brX t32
       (
        (binX .mul .no t30 (.int .i64 251)) |> bo fun t34 =>
        (binX .add .no t1 (.int .i64 1)) |> bo fun t37 =>
        (binX .rem .no t37 t10) |> bo fun t39 =>
        (ixaX 1 t0 t39) |> bo fun t40 =>
        (ld1 m t40) |> bo fun t41 =>
        (cvI .i64 t41) |> bo fun t42 =>
        (binX .add .no t34 t42) |> bo fun t43 =>
        (binX .rem .no t43 t2) |> bo fun t46 =>
        retK m.length m [t0, t1, t2] t46)
       (
        (binX .rem .no t30 t2) |> bo fun t46 =>
        retK m.length m [t0, t1, t2] t46)))
 | _, _ => none
noncomputable def C_laws_lwAt : List Value → Mem → Option VM := fcall X_laws_lwAt
@[simp] theorem c_laws_lwAt : C_laws_lwAt = fcall X_laws_lwAt := (rfl)
theorem cok_laws_lwAt : codeOk CT Try.f26 (Try.f26.body.get rfl) = true := by kernel_rfl
theorem xe_laws_lwAt (t0 t1 t2 : Value) (m : Mem) : ex CT cf_laws_lwAt Try.f26 3 m.length [] (fun _ _ _ => none) 400 [.code (Try.f26.body.get rfl)] (argsT 0 [t0, t1, t2]) m = X_laws_lwAt [t0, t1, t2] m := by kernel_rfl
theorem okc_laws_lwAt : CallOK CT cf_laws_lwAt := cfn_ok
theorem ok_X_laws_lwAt : OkX CT 26 X_laws_lwAt := OkX.of_ex (cf := cf_laws_lwAt) (np := 3) (LL := []) (J := (fun _ _ _ _ => none)) CT_ok rfl Try.func26 rfl (Nat.le_of_ble_eq_true rfl) (by decide) cok_laws_lwAt okc_laws_lwAt (fun k => noLoops rfl) (fun args m r h => match args, h with
  | [t0, t1, t2], h => ⟨rfl, (xe_laws_lwAt t0 t1 t2 m).trans h⟩)
theorem ok_C_laws_lwAt : OkC CT 26 C_laws_lwAt := fcall_ok rfl ok_X_laws_lwAt
noncomputable def cf_spec_DrawFeedLine : CallF := cfc 61 C_spec_l1Source (cfc 62 C_spec_l11Bent (cfc 65 C_spec_l1Pick cfn))
noncomputable def X_spec_DrawFeedLine : List Value → Mem → Option VM
 | [t0], m =>
  (alX m [.int .i64 0, .int .i64 0, .int .i64 0, .int .i64 0, .int .i64 0, .int .i64 0, .int .i64 0]) |> bo fun r1 =>
  (alX r1.2 [.slice none 0 0, .slice none 0 0, .bool false, .int .i64 0]) |> bo fun r2 =>
  (C_spec_l1Source [t0] r2.2) |> bo fun r3 =>
  (C_spec_l11Bent [r3.1] r3.2) |> bo fun r4 =>
  (extX 0 r4.1) |> bo fun t13 =>
  (extX 1 r4.1) |> bo fun t14 =>
  (alX r4.2 [.int .i64 0, .int .i64 0, .int .i64 0, .int .i64 0, .int .i64 0, .int .i64 0, .int .i64 0]) |> bo fun r7 =>
  (alX r7.2 [.slice none 0 0, .slice none 0 0, .bool false, .int .i64 0]) |> bo fun r8 =>
  (stX r8.2 7 r7.1 t13) |> bo fun m9 =>
  (stX m9 4 r8.1 t14) |> bo fun m10 =>
  (ldS m10 7 r7.1) |> bo fun t15 =>
  (ldS m10 4 r8.1) |> bo fun t16 =>
  (bslX m10 12 1 [.int .i64 0] [(0, 1, (.int .i64 97)), (1, 1, (.int .i64 127)), (2, 1, (.int .i64 21)), (3, 1, (.int .i64 23)), (4, 1, (.int .i64 4)), (5, 1, (.int .i64 3)), (6, 1, (.int .i64 22)), (7, 1, (.int .i64 13)), (8, 1, (.int .i64 10)), (9, 1, (.int .i64 1)), (10, 1, (.int .i64 195)), (11, 1, (.int .i64 164))]) |> bo fun r13 =>
  (C_spec_l1Pick [r3.1, r13.1] r13.2) |> bo fun r14 =>
  (cvI .u8 r14.1) |> bo fun t20 =>
  (stX r14.2 7 r1.1 t15) |> bo fun m16 =>
  (stX m16 4 r2.1 t16) |> bo fun m17 =>
  gP (stbL [((rdN r7.1), r13.2, r14.2), ((rdN r8.1), r13.2, r14.2), ((rdN r8.1), r14.2, m16)])
   (
    (resP (some 7) m17 r1.1) |> bo fun c18 =>
    (resP (some 4) m17 r2.1) |> bo fun c19 =>
    retK m.length m17 [t0] (.tuple #[c18, c19, t20]))
 | _, _ => none
noncomputable def C_spec_DrawFeedLine : List Value → Mem → Option VM := icall X_spec_DrawFeedLine
@[simp] theorem c_spec_DrawFeedLine : C_spec_DrawFeedLine = icall X_spec_DrawFeedLine := (rfl)
theorem cok_spec_DrawFeedLine : codeOk CT Try.f27 (Try.f27.body.get rfl) = true := by kernel_rfl
theorem xe_spec_DrawFeedLine (t0 : Value) (m : Mem) : ex CT cf_spec_DrawFeedLine Try.f27 1 m.length [] (fun _ _ _ => none) 400 [.code (Try.f27.body.get rfl)] (argsT 0 [t0]) m = X_spec_DrawFeedLine [t0] m := by kernel_rfl
theorem okc_spec_DrawFeedLine : CallOK CT cf_spec_DrawFeedLine := cfc_ok ok_C_spec_l1Source (cfc_ok ok_C_spec_l11Bent (cfc_ok ok_C_spec_l1Pick cfn_ok))
theorem ok_X_spec_DrawFeedLine : OkX CT 27 X_spec_DrawFeedLine := OkX.of_ex (cf := cf_spec_DrawFeedLine) (np := 1) (LL := []) (J := (fun _ _ _ _ => none)) CT_ok rfl Try.func27 rfl (Nat.le_of_ble_eq_true rfl) (by decide) cok_spec_DrawFeedLine okc_spec_DrawFeedLine (fun k => noLoops rfl) (fun args m r h => match args, h with
  | [t0], h => ⟨rfl, (xe_spec_DrawFeedLine t0 m).trans h⟩)
theorem ok_C_spec_DrawFeedLine : OkC CT 27 C_spec_DrawFeedLine := icall_ok rfl ok_X_spec_DrawFeedLine
noncomputable def cf_impl_QueueSize : CallF := cfc 31 C_impl_LineFault (cfc 66 C_impl_Line_size cfn)
noncomputable def X_impl_QueueSize : List Value → Mem → Option VM
 | [t0], m =>
  (boxX m t0) |> bo fun r1 =>
  (alX r1.2 [.int .i64 0, .int .i64 0]) |> bo fun r2 =>
  (ldS r2.2 4 r1.1) |> bo fun t4 =>
  (C_impl_LineFault [t4] r2.2) |> bo fun r4 =>
  (binX .neq .no r4.1 (.int .i64 0)) |> bo fun t7 =>
  brX t7
   (
    (bldX [.int .i64 0, .int .i64 0] [(0, 1, r4.1)]) |> bo fun t9 =>
    (stX r4.2 2 r2.1 t9) |> bo fun m7 =>
    (resP (some 2) m7 r2.1) |> bo fun c8 =>
    retK m.length m7 [t0] c8)
   (
    (ldS r4.2 4 r1.1) |> bo fun t10 =>
    (C_impl_Line_size [t10] r4.2) |> bo fun r10 =>
    (bldX [.int .i64 0, .int .i64 0] [(0, 1, (.int .i64 0)), (1, 1, r10.1)]) |> bo fun t12 =>
    (stX r10.2 2 r2.1 t12) |> bo fun m12 =>
    (resP (some 2) m12 r2.1) |> bo fun c13 =>
    retK m.length m12 [t0] c13)
 | _, _ => none
noncomputable def C_impl_QueueSize : List Value → Mem → Option VM := fcall X_impl_QueueSize
@[simp] theorem c_impl_QueueSize : C_impl_QueueSize = fcall X_impl_QueueSize := (rfl)
theorem cok_impl_QueueSize : codeOk CT Try.f28 (Try.f28.body.get rfl) = true := by kernel_rfl
theorem xe_impl_QueueSize (t0 : Value) (m : Mem) : ex CT cf_impl_QueueSize Try.f28 1 m.length [] (fun _ _ _ => none) 400 [.code (Try.f28.body.get rfl)] (argsT 0 [t0]) m = X_impl_QueueSize [t0] m := by kernel_rfl
theorem okc_impl_QueueSize : CallOK CT cf_impl_QueueSize := cfc_ok ok_C_impl_LineFault (cfc_ok ok_C_impl_Line_size cfn_ok)
theorem ok_X_impl_QueueSize : OkX CT 28 X_impl_QueueSize := OkX.of_ex (cf := cf_impl_QueueSize) (np := 1) (LL := []) (J := (fun _ _ _ _ => none)) CT_ok rfl Try.func28 rfl (Nat.le_of_ble_eq_true rfl) (by decide) cok_impl_QueueSize okc_impl_QueueSize (fun k => noLoops rfl) (fun args m r h => match args, h with
  | [t0], h => ⟨rfl, (xe_impl_QueueSize t0 m).trans h⟩)
theorem ok_C_impl_QueueSize : OkC CT 28 C_impl_QueueSize := fcall_ok rfl ok_X_impl_QueueSize
noncomputable def cf_slices_Equal_byte_byte : CallF := cfn
noncomputable def L_slices_Equal_byte_byte (k : Nat) : Nat → Nat → List Value → Mem → Option VM
 | q + 1, 0, [t0, t1, t12, t13], m =>
  (binX .lss .no t13 t12) |> bo fun t14 =>
  brX t14
   (
    (ixaX 1 t0 t13) |> bo fun t18 =>
    (ld1 m t18) |> bo fun t19 =>
    (ixaX 1 t1 t13) |> bo fun t22 =>
    (ld1 m t22) |> bo fun t23 =>
    (binX .neq .no t19 t23) |> bo fun t24 =>
    brX t24
     (
      retK k m [t0, t1] (.bool false))
     (
      (binX .add .no t13 (.int .i64 1)) |> bo fun t25 =>
      cutK k m [t0, t1] [t0, t1, t12, t25] (L_slices_Equal_byte_byte k q 0)))
   (
    retK k m [t0, t1] (.bool true))
 | _, _, _, _ => none
noncomputable def J_slices_Equal_byte_byte (k q l : Nat) : List Value → Mem → Option VM := cond (Nat.beq l 4) (L_slices_Equal_byte_byte k q 0) (fun _ _ => none)
def LL_slices_Equal_byte_byte : List (Nat × List Tmp) := [(4, [0, 1, 12, 13])]
noncomputable def X_slices_Equal_byte_byte : List Value → Mem → Option VM
 | [t0, t1], m =>
  (lenX t0) |> bo fun t7 =>
  (lenX t1) |> bo fun t9 =>
  (binX .neq .no t7 t9) |> bo fun t10 =>
  brX t10
   (
    retK m.length m [t0, t1] (.bool false))
   (
    (lenX t0) |> bo fun t12 =>
    cutK m.length m [t0, t1] [t0, t1, t12, (.int .i64 0)] (L_slices_Equal_byte_byte m.length QQ 0))
 | _, _ => none
noncomputable def C_slices_Equal_byte_byte : List Value → Mem → Option VM := fcall X_slices_Equal_byte_byte
@[simp] theorem c_slices_Equal_byte_byte : C_slices_Equal_byte_byte = fcall X_slices_Equal_byte_byte := (rfl)
theorem cok_slices_Equal_byte_byte : codeOk CT Try.f68 (Try.f68.body.get rfl) = true := by kernel_rfl
theorem xe_slices_Equal_byte_byte (t0 t1 : Value) (m : Mem) : ex CT cf_slices_Equal_byte_byte Try.f68 2 m.length LL_slices_Equal_byte_byte (J_slices_Equal_byte_byte m.length QQ) 400 [.code (Try.f68.body.get rfl)] (argsT 0 [t0, t1]) m = X_slices_Equal_byte_byte [t0, t1] m := by kernel_rfl
theorem okc_slices_Equal_byte_byte : CallOK CT cf_slices_Equal_byte_byte := cfn_ok
theorem le_slices_Equal_byte_byte_0 (k q : Nat) (t0 t1 t12 t13 : Value) (m : Mem) : ex CT cf_slices_Equal_byte_byte Try.f68 2 k LL_slices_Equal_byte_byte (J_slices_Equal_byte_byte k q) 400 (atLoop Try.f68 0) [(0, t0), (1, t1), (12, t12), (13, t13)] m = J_slices_Equal_byte_byte k (q + 1) 4 [t0, t1, t12, t13] m := by kernel_rfl
theorem gl_slices_Equal_byte_byte (k : Nat) : ∀ q i, i < 1 → GoodL CT k Try.f68 LL_slices_Equal_byte_byte (J_slices_Equal_byte_byte k q) (atLoop Try.f68 i)
 | 0, 0, _ => goodL_zero (l := 4) (by kernel_rfl) (fun vs m => by kernel_rfl)
 | 0, _ + 1, h => absurd h (by omega)
 | q + 1, 0, _ => goodL_succ (np := 2) (l := 4) (live := [0, 1, 12, 13]) (n := 1) CT_ok rfl okc_slices_Equal_byte_byte (c := (Try.f68.body.get rfl)) rfl cok_slices_Equal_byte_byte (by kernel_rfl) (gl_slices_Equal_byte_byte k q) (by kernel_rfl) rfl (fun vs m r hl h => match vs, hl with
  | [t0, t1, t12, t13], _ => (le_slices_Equal_byte_byte_0 k q t0 t1 t12 t13 m).trans h)
 | _ + 1, _ + 1, h => absurd h (by omega)
theorem ok_X_slices_Equal_byte_byte : OkX CT 68 X_slices_Equal_byte_byte := OkX.of_ex (cf := cf_slices_Equal_byte_byte) (np := 2) (LL := LL_slices_Equal_byte_byte) (J := (fun k => J_slices_Equal_byte_byte k QQ)) CT_ok rfl Try.func68 rfl (Nat.le_of_ble_eq_true rfl) (by decide) cok_slices_Equal_byte_byte okc_slices_Equal_byte_byte (fun k => allLoops rfl (by kernel_rfl) (gl_slices_Equal_byte_byte k QQ)) (fun args m r h => match args, h with
  | [t0, t1], h => ⟨rfl, (xe_slices_Equal_byte_byte t0 t1 m).trans h⟩)
theorem ok_C_slices_Equal_byte_byte : OkC CT 68 C_slices_Equal_byte_byte := fcall_ok rfl ok_X_slices_Equal_byte_byte
noncomputable def cf_slices_EqualFunc_byte_byte_byte_byte : CallF := cfc 68 C_slices_Equal_byte_byte cfn
noncomputable def L_slices_EqualFunc_byte_byte_byte_byte (k : Nat) : Nat → Nat → List Value → Mem → Option VM
 | q + 1, 0, [t1, t2, t15, t16, t17], m =>
  (binX .lss .no t17 t16) |> bo fun t18 =>
  brX t18
   (
    (ixaX 1 t15 t17) |> bo fun t20 =>
    (ld1 m t20) |> bo fun t21 =>
    (ixaX 1 t1 t17) |> bo fun t24 =>
    (ld1 m t24) |> bo fun t25 =>
    (callV cf_slices_EqualFunc_byte_byte_byte_byte t2 [t21, t25] m) |> bo fun r6 =>
    (uop .not r6.1) |> bo fun t30 =>
    brX t30
     (
      retK k r6.2 [t1, t2] (.bool false))
     (
      (binX .add .no t17 (.int .i64 1)) |> bo fun t31 =>
      cutK k r6.2 [t1, t2] [t1, t2, t15, t16, t31] (L_slices_EqualFunc_byte_byte_byte_byte k q 0)))
   (
    retK k m [t1, t2] (.bool true))
 | _, _, _, _ => none
noncomputable def J_slices_EqualFunc_byte_byte_byte_byte (k q l : Nat) : List Value → Mem → Option VM := cond (Nat.beq l 4) (L_slices_EqualFunc_byte_byte_byte_byte k q 0) (fun _ _ => none)
def LL_slices_EqualFunc_byte_byte_byte_byte : List (Nat × List Tmp) := [(4, [1, 2, 15, 16, 17])]
noncomputable def X_slices_EqualFunc_byte_byte_byte_byte : List Value → Mem → Option VM
 | [t0, t1, t2], m =>
  (lenX t0) |> bo fun t11 =>
  (lenX t1) |> bo fun t13 =>
  (binX .neq .no t11 t13) |> bo fun t14 =>
  brX t14
   (
    retK m.length m [t0, t1, t2] (.bool false))
   (
    (lenX t0) |> bo fun t16 =>
    cutK m.length m [t0, t1, t2] [t1, t2, t0, t16, (.int .i64 0)] (L_slices_EqualFunc_byte_byte_byte_byte m.length QQ 0))
 | _, _ => none
noncomputable def C_slices_EqualFunc_byte_byte_byte_byte : List Value → Mem → Option VM := fcall X_slices_EqualFunc_byte_byte_byte_byte
@[simp] theorem c_slices_EqualFunc_byte_byte_byte_byte : C_slices_EqualFunc_byte_byte_byte_byte = fcall X_slices_EqualFunc_byte_byte_byte_byte := (rfl)
theorem cok_slices_EqualFunc_byte_byte_byte_byte : codeOk CT Try.f67 (Try.f67.body.get rfl) = true := by kernel_rfl
theorem xe_slices_EqualFunc_byte_byte_byte_byte (t0 t1 t2 : Value) (m : Mem) : ex CT cf_slices_EqualFunc_byte_byte_byte_byte Try.f67 3 m.length LL_slices_EqualFunc_byte_byte_byte_byte (J_slices_EqualFunc_byte_byte_byte_byte m.length QQ) 400 [.code (Try.f67.body.get rfl)] (argsT 0 [t0, t1, t2]) m = X_slices_EqualFunc_byte_byte_byte_byte [t0, t1, t2] m := by kernel_rfl
theorem okc_slices_EqualFunc_byte_byte_byte_byte : CallOK CT cf_slices_EqualFunc_byte_byte_byte_byte := cfc_ok ok_C_slices_Equal_byte_byte cfn_ok
theorem le_slices_EqualFunc_byte_byte_byte_byte_0 (k q : Nat) (t1 t2 t15 t16 t17 : Value) (m : Mem) : ex CT cf_slices_EqualFunc_byte_byte_byte_byte Try.f67 3 k LL_slices_EqualFunc_byte_byte_byte_byte (J_slices_EqualFunc_byte_byte_byte_byte k q) 400 (atLoop Try.f67 0) [(1, t1), (2, t2), (15, t15), (16, t16), (17, t17)] m = J_slices_EqualFunc_byte_byte_byte_byte k (q + 1) 4 [t1, t2, t15, t16, t17] m := by kernel_rfl
theorem gl_slices_EqualFunc_byte_byte_byte_byte (k : Nat) : ∀ q i, i < 1 → GoodL CT k Try.f67 LL_slices_EqualFunc_byte_byte_byte_byte (J_slices_EqualFunc_byte_byte_byte_byte k q) (atLoop Try.f67 i)
 | 0, 0, _ => goodL_zero (l := 4) (by kernel_rfl) (fun vs m => by kernel_rfl)
 | 0, _ + 1, h => absurd h (by omega)
 | q + 1, 0, _ => goodL_succ (np := 3) (l := 4) (live := [1, 2, 15, 16, 17]) (n := 1) CT_ok rfl okc_slices_EqualFunc_byte_byte_byte_byte (c := (Try.f67.body.get rfl)) rfl cok_slices_EqualFunc_byte_byte_byte_byte (by kernel_rfl) (gl_slices_EqualFunc_byte_byte_byte_byte k q) (by kernel_rfl) rfl (fun vs m r hl h => match vs, hl with
  | [t1, t2, t15, t16, t17], _ => (le_slices_EqualFunc_byte_byte_byte_byte_0 k q t1 t2 t15 t16 t17 m).trans h)
 | _ + 1, _ + 1, h => absurd h (by omega)
theorem ok_X_slices_EqualFunc_byte_byte_byte_byte : OkX CT 67 X_slices_EqualFunc_byte_byte_byte_byte := OkX.of_ex (cf := cf_slices_EqualFunc_byte_byte_byte_byte) (np := 3) (LL := LL_slices_EqualFunc_byte_byte_byte_byte) (J := (fun k => J_slices_EqualFunc_byte_byte_byte_byte k QQ)) CT_ok rfl Try.func67 rfl (Nat.le_of_ble_eq_true rfl) (by decide) cok_slices_EqualFunc_byte_byte_byte_byte okc_slices_EqualFunc_byte_byte_byte_byte (fun k => allLoops rfl (by kernel_rfl) (gl_slices_EqualFunc_byte_byte_byte_byte k QQ)) (fun args m r h => match args, h with
  | [t0, t1, t2], h => ⟨rfl, (xe_slices_EqualFunc_byte_byte_byte_byte t0 t1 t2 m).trans h⟩)
theorem ok_C_slices_EqualFunc_byte_byte_byte_byte : OkC CT 67 C_slices_EqualFunc_byte_byte_byte_byte := fcall_ok rfl ok_X_slices_EqualFunc_byte_byte_byte_byte
noncomputable def cf_impl_SameLines : CallF := cfc 67 C_slices_EqualFunc_byte_byte_byte_byte (cfc 68 C_slices_Equal_byte_byte cfn)
noncomputable def X_impl_SameLines : List Value → Mem → Option VM
 | [t0, t1], m =>
  (boxX m t0) |> bo fun r1 =>
  (boxX r1.2 t1) |> bo fun r2 =>
  (fadX 0 r1.1) |> bo fun t5 =>
  (ld1 r2.2 t5) |> bo fun t6 =>
  (fadX 0 r2.1) |> bo fun t7 =>
  (ld1 r2.2 t7) |> bo fun t8 =>
  (C_slices_EqualFunc_byte_byte_byte_byte [t6, t8, (.func (.func 68) #[] #[])] r2.2) |> bo fun r7 =>
  (gd r7.1 true ((fadX 1 r1.1) |> bo fun v => some (v, r7.2)) r7.2) |> bo fun r8 =>
  (gd r7.1 true ((ld1 r8.2 r8.1) |> bo fun v => some (v, r8.2)) r8.2) |> bo fun r9 =>
  (gd r7.1 true ((fadX 1 r2.1) |> bo fun v => some (v, r9.2)) r9.2) |> bo fun r10 =>
  (gd r7.1 true ((ld1 r10.2 r10.1) |> bo fun v => some (v, r10.2)) r10.2) |> bo fun r11 =>
  (gd r7.1 true ((C_slices_Equal_byte_byte [r9.1, r11.1] r11.2) |> bo fun r => some (r.1, r.2)) r11.2) |> bo fun r12 =>
  (pickX r7.1 r12.1 (.bool false)) |> bo fun t16 =>
  (gd t16 true ((fadX 2 r1.1) |> bo fun v => some (v, r12.2)) r12.2) |> bo fun r14 =>
  (gd t16 true ((ld1 r14.2 r14.1) |> bo fun v => some (v, r14.2)) r14.2) |> bo fun r15 =>
  (gd t16 true ((fadX 2 r2.1) |> bo fun v => some (v, r15.2)) r15.2) |> bo fun r16 =>
  (gd t16 true ((ld1 r16.2 r16.1) |> bo fun v => some (v, r16.2)) r16.2) |> bo fun r17 =>
  (gd t16 true ((binX .eql .bool r15.1 r17.1) |> bo fun v => some (v, r17.2)) r17.2) |> bo fun r18 =>
  (pickX t16 r18.1 (.bool false)) |> bo fun t23 =>
  (gd t23 true ((fadX 3 r1.1) |> bo fun v => some (v, r18.2)) r18.2) |> bo fun r20 =>
  (gd t23 true ((ld1 r20.2 r20.1) |> bo fun v => some (v, r20.2)) r20.2) |> bo fun r21 =>
  (gd t23 true ((fadX 3 r2.1) |> bo fun v => some (v, r21.2)) r21.2) |> bo fun r22 =>
  (gd t23 true ((ld1 r22.2 r22.1) |> bo fun v => some (v, r22.2)) r22.2) |> bo fun r23 =>
  (gd t23 true ((binX .eql .no r21.1 r23.1) |> bo fun v => some (v, r23.2)) r23.2) |> bo fun r24 =>
  (pickX t23 r24.1 (.bool false)) |> bo fun t30 =>
  retK m.length r24.2 [t0, t1] t30
 | _, _ => none
noncomputable def C_impl_SameLines : List Value → Mem → Option VM := fcall X_impl_SameLines
@[simp] theorem c_impl_SameLines : C_impl_SameLines = fcall X_impl_SameLines := (rfl)
theorem cok_impl_SameLines : codeOk CT Try.f29 (Try.f29.body.get rfl) = true := by kernel_rfl
theorem xe_impl_SameLines (t0 t1 : Value) (m : Mem) : ex CT cf_impl_SameLines Try.f29 2 m.length [] (fun _ _ _ => none) 400 [.code (Try.f29.body.get rfl)] (argsT 0 [t0, t1]) m = X_impl_SameLines [t0, t1] m := by kernel_rfl
theorem okc_impl_SameLines : CallOK CT cf_impl_SameLines := cfc_ok ok_C_slices_EqualFunc_byte_byte_byte_byte (cfc_ok ok_C_slices_Equal_byte_byte cfn_ok)
theorem ok_X_impl_SameLines : OkX CT 29 X_impl_SameLines := OkX.of_ex (cf := cf_impl_SameLines) (np := 2) (LL := []) (J := (fun _ _ _ _ => none)) CT_ok rfl Try.func29 rfl (Nat.le_of_ble_eq_true rfl) (by decide) cok_impl_SameLines okc_impl_SameLines (fun k => noLoops rfl) (fun args m r h => match args, h with
  | [t0, t1], h => ⟨rfl, (xe_impl_SameLines t0 t1 m).trans h⟩)
theorem ok_C_impl_SameLines : OkC CT 29 C_impl_SameLines := fcall_ok rfl ok_X_impl_SameLines
noncomputable def cf_laws_lwSame : CallF := cfn
noncomputable def X_laws_lwSame : List Value → Mem → Option VM
 | [t0, t1], m =>
  (cvBS m t0) |> bo fun t6 =>
  (cvBS m t1) |> bo fun t8 =>
  (binX .eql .no t6 t8) |> bo fun t9 =>
  retK m.length m [t0, t1] t9
 | _, _ => none
noncomputable def C_laws_lwSame : List Value → Mem → Option VM := fcall X_laws_lwSame
@[simp] theorem c_laws_lwSame : C_laws_lwSame = fcall X_laws_lwSame := (rfl)
theorem cok_laws_lwSame : codeOk CT Try.f30 (Try.f30.body.get rfl) = true := by kernel_rfl
theorem xe_laws_lwSame (t0 t1 : Value) (m : Mem) : ex CT cf_laws_lwSame Try.f30 2 m.length [] (fun _ _ _ => none) 400 [.code (Try.f30.body.get rfl)] (argsT 0 [t0, t1]) m = X_laws_lwSame [t0, t1] m := by kernel_rfl
theorem okc_laws_lwSame : CallOK CT cf_laws_lwSame := cfn_ok
theorem ok_X_laws_lwSame : OkX CT 30 X_laws_lwSame := OkX.of_ex (cf := cf_laws_lwSame) (np := 2) (LL := []) (J := (fun _ _ _ _ => none)) CT_ok rfl Try.func30 rfl (Nat.le_of_ble_eq_true rfl) (by decide) cok_laws_lwSame okc_laws_lwSame (fun k => noLoops rfl) (fun args m r h => match args, h with
  | [t0, t1], h => ⟨rfl, (xe_laws_lwSame t0 t1 m).trans h⟩)
theorem ok_C_laws_lwSame : OkC CT 30 C_laws_lwSame := fcall_ok rfl ok_X_laws_lwSame
noncomputable def cf_laws_FnFeeds : CallF := cfc 10 Ci_spec_FeedLine (cfc 13 Ci_impl_FeedLine (cfc 19 Ci_spec_FeedMany (cfc 21 Ci_impl_FeedMany (cfc 24 C_laws_lwBig (cfc 25 C_spec_DrawFeedMany (cfc 26 C_laws_lwAt (cfc 27 C_spec_DrawFeedLine (cfc 28 C_impl_QueueSize (cfc 29 C_impl_SameLines (cfc 30 C_laws_lwSame (cfc 31 C_impl_LineFault cfn)))))))))))
noncomputable def X_laws_FnFeeds : List Value → Mem → Option VM
 | [t0], m =>
  (C_laws_lwBig [t0] m) |> bo fun r1 =>
  brX r1.1
   (
    retK m.length r1.2 [t0] (.bool true))
   (
    (C_spec_DrawFeedMany [t0] r1.2) |> bo fun r2 =>
    (extX 0 r2.1) |> bo fun t20 =>
    (extX 1 r2.1) |> bo fun t21 =>
    (extX 2 r2.1) |> bo fun t22 =>
    (alX r2.2 [.int .i64 0, .int .i64 0, .int .i64 0, .int .i64 0, .int .i64 0, .int .i64 0, .int .i64 0]) |> bo fun r6 =>
    (alX r6.2 [.slice none 0 0, .slice none 0 0, .bool false, .int .i64 0]) |> bo fun r7 =>
    (stX r7.2 7 r6.1 t20) |> bo fun m8 =>
    (stX m8 4 r7.1 t21) |> bo fun m9 =>
    (ldS m9 7 r6.1) |> bo fun t23 =>
    (ldS m9 4 r7.1) |> bo fun t24 =>
    (Ci_impl_FeedMany [t23, t24, t22] m9) |> bo fun r12 =>
    (alX r12.2 [.int .i64 0, .bool false, .slice none 0 0, .slice none 0 0, .slice none 0 0, .slice none 0 0, .bool false, .int .i64 0]) |> bo fun r13 =>
    (stX r13.2 8 r13.1 r12.1) |> bo fun m14 =>
    (fadX 0 r13.1) |> bo fun t27 =>
    (ld1 m14 t27) |> bo fun t28 =>
    (binX .neq .no t28 (.int .i64 0)) |> bo fun t29 =>
    brX t29
     (
      (ldS m14 7 r6.1) |> bo fun t30 =>
      (ldS m14 4 r7.1) |> bo fun t31 =>
      (Ci_spec_FeedMany [t30, t31, t22] m14) |> bo fun r20 =>
      (fld1 0 r20.1) |> bo fun t34 =>
      (fadX 0 r13.1) |> bo fun t35 =>
      (ld1 r20.2 t35) |> bo fun t36 =>
      (binX .eql .no t34 t36) |> bo fun t37 =>
      gP (stbL [((rdN t35), m14, r20.2)])
       (
        retK m.length r20.2 [t0] t37))
     (
      (lenX t22) |> bo fun t40 =>
      (binX .add .no t40 (.int .i64 1)) |> bo fun t41 =>
      (C_laws_lwAt [t0, (.int .i64 3), t41] m14) |> bo fun r27 =>
      (ldS r27.2 7 r6.1) |> bo fun t43 =>
      (ldS r27.2 4 r7.1) |> bo fun t44 =>
      (slX r27.2 1 t22 none (some r27.1)) |> bo fun t47 =>
      (Ci_impl_FeedMany [t43, t44, t47] r27.2) |> bo fun r31 =>
      (alX r31.2 [.int .i64 0, .bool false, .slice none 0 0, .slice none 0 0, .slice none 0 0, .slice none 0 0, .bool false, .int .i64 0]) |> bo fun r32 =>
      (stX r32.2 8 r32.1 r31.1) |> bo fun m33 =>
      (ldS m33 7 r6.1) |> bo fun t49 =>
      (fadX 4 r32.1) |> bo fun t50 =>
      (ldS m33 4 t50) |> bo fun t51 =>
      (slX m33 1 t22 (some r27.1) none) |> bo fun t54 =>
      (Ci_impl_FeedMany [t49, t51, t54] m33) |> bo fun r38 =>
      (alX r38.2 [.int .i64 0, .bool false, .slice none 0 0, .slice none 0 0, .slice none 0 0, .slice none 0 0, .bool false, .int .i64 0]) |> bo fun r39 =>
      (stX r39.2 8 r39.1 r38.1) |> bo fun m40 =>
      (C_spec_DrawFeedLine [t0] m40) |> bo fun r41 =>
      (extX 0 r41.1) |> bo fun t59 =>
      (extX 1 r41.1) |> bo fun t60 =>
      (extX 2 r41.1) |> bo fun t61 =>
      (alX r41.2 [.int .i64 0, .int .i64 0, .int .i64 0, .int .i64 0, .int .i64 0, .int .i64 0, .int .i64 0]) |> bo fun r45 =>
      (alX r45.2 [.slice none 0 0, .slice none 0 0, .bool false, .int .i64 0]) |> bo fun r46 =>
      (stX r46.2 7 r45.1 t59) |> bo fun m47 =>
      (stX m47 4 r46.1 t60) |> bo fun m48 =>
      (ldS m48 7 r45.1) |> bo fun t62 =>
      (ldS m48 4 r46.1) |> bo fun t63 =>
      (Ci_impl_FeedLine [t62, t63, t61] m48) |> bo fun r51 =>
      (alX r51.2 [.int .i64 0, .bool false, .slice none 0 0, .slice none 0 0, .slice none 0 0, .slice none 0 0, .bool false, .int .i64 0]) |> bo fun r52 =>
      (stX r52.2 8 r52.1 r51.1) |> bo fun m53 =>
      (fadX 4 r13.1) |> bo fun t66 =>
      (ldS m53 4 t66) |> bo fun t67 =>
      (C_impl_QueueSize [t67] m53) |> bo fun r56 =>
      (alX r56.2 [.int .i64 0, .int .i64 0]) |> bo fun r57 =>
      (stX r57.2 2 r57.1 r56.1) |> bo fun m58 =>
      (fadX 0 r32.1) |> bo fun t69 =>
      (ld1 m58 t69) |> bo fun t70 =>
      (binX .eql .no t70 (.int .i64 0)) |> bo fun t71 =>
      (gd t71 true ((fadX 0 r39.1) |> bo fun v => some (v, m58)) m58) |> bo fun r62 =>
      (gd t71 true ((ld1 r62.2 r62.1) |> bo fun v => some (v, r62.2)) r62.2) |> bo fun r63 =>
      (gd t71 true ((binX .eql .no r63.1 (.int .i64 0)) |> bo fun v => some (v, r63.2)) r63.2) |> bo fun r64 =>
      (pickX t71 r64.1 (.bool false)) |> bo fun t76 =>
      (gd t76 true ((fadX 4 r39.1) |> bo fun v => some (v, r64.2)) r64.2) |> bo fun r66 =>
      (gd t76 true ((ldS r66.2 4 r66.1) |> bo fun v => some (v, r66.2)) r66.2) |> bo fun r67 =>
      (gd t76 true ((fadX 4 r13.1) |> bo fun v => some (v, r67.2)) r67.2) |> bo fun r68 =>
      (gd t76 true ((ldS r68.2 4 r68.1) |> bo fun v => some (v, r68.2)) r68.2) |> bo fun r69 =>
      (gd t76 true ((C_impl_SameLines [r67.1, r69.1] r69.2) |> bo fun r => some (r.1, r.2)) r69.2) |> bo fun r70 =>
      (pickX t76 r70.1 (.bool false)) |> bo fun t83 =>
      (gd t83 true ((bslX r70.2 0 1 [.int .u8 0] []) |> bo fun r => some (r.1, r.2)) r70.2) |> bo fun r72 =>
      (gd t83 true ((fadX 3 r32.1) |> bo fun v => some (v, r72.2)) r72.2) |> bo fun r73 =>
      (gd t83 true ((ld1 r73.2 r73.1) |> bo fun v => some (v, r73.2)) r73.2) |> bo fun r74 =>
      (gd t83 true ((apL r74.2 1 1 r72.1 r74.1) |> bo fun r => some (r.1, r.2)) r74.2) |> bo fun r75 =>
      (gd t83 true ((fadX 3 r39.1) |> bo fun v => some (v, r75.2)) r75.2) |> bo fun r76 =>
      (gd t83 true ((ld1 r76.2 r76.1) |> bo fun v => some (v, r76.2)) r76.2) |> bo fun r77 =>
      (gd t83 true ((apL r77.2 1 1 r75.1 r77.1) |> bo fun r => some (r.1, r.2)) r77.2) |> bo fun r78 =>
      (gd t83 true ((fadX 3 r13.1) |> bo fun v => some (v, r78.2)) r78.2) |> bo fun r79 =>
      (gd t83 true ((ld1 r79.2 r79.1) |> bo fun v => some (v, r79.2)) r79.2) |> bo fun r80 =>
      (gd t83 true ((C_laws_lwSame [r78.1, r80.1] r80.2) |> bo fun r => some (r.1, r.2)) r80.2) |> bo fun r81 =>
      (pickX t83 r81.1 (.bool false)) |> bo fun t95 =>
      (gd t95 true ((fadX 4 r13.1) |> bo fun v => some (v, r81.2)) r81.2) |> bo fun r83 =>
      (gd t95 true ((ldS r83.2 4 r83.1) |> bo fun v => some (v, r83.2)) r83.2) |> bo fun r84 =>
      (gd t95 true ((C_impl_LineFault [r84.1] r84.2) |> bo fun r => some (r.1, r.2)) r84.2) |> bo fun r85 =>
      (gd t95 true ((binX .eql .no r85.1 (.int .i64 0)) |> bo fun v => some (v, r85.2)) r85.2) |> bo fun r86 =>
      (pickX t95 r86.1 (.bool false)) |> bo fun t101 =>
      (gd t101 true ((fadX 0 r57.1) |> bo fun v => some (v, r86.2)) r86.2) |> bo fun r88 =>
      (gd t101 true ((ld1 r88.2 r88.1) |> bo fun v => some (v, r88.2)) r88.2) |> bo fun r89 =>
      (gd t101 true ((binX .eql .no r89.1 (.int .i64 0)) |> bo fun v => some (v, r89.2)) r89.2) |> bo fun r90 =>
      (pickX t101 r90.1 (.bool false)) |> bo fun t106 =>
      (gd t106 true ((fadX 1 r57.1) |> bo fun v => some (v, r90.2)) r90.2) |> bo fun r92 =>
      (gd t106 true ((ld1 r92.2 r92.1) |> bo fun v => some (v, r92.2)) r92.2) |> bo fun r93 =>
      (gd t106 true ((binX .leq .no r93.1 (.int .i64 40)) |> bo fun v => some (v, r93.2)) r93.2) |> bo fun r94 =>
      (pickX t106 r94.1 (.bool false)) |> bo fun t111 =>
      (gd t111 true ((fadX 0 r52.1) |> bo fun v => some (v, r94.2)) r94.2) |> bo fun r96 =>
      (gd t111 true ((ld1 r96.2 r96.1) |> bo fun v => some (v, r96.2)) r96.2) |> bo fun r97 =>
      (gd t111 true ((ldS r97.2 7 r45.1) |> bo fun v => some (v, r97.2)) r97.2) |> bo fun r98 =>
      (gd t111 true ((ldS r98.2 4 r46.1) |> bo fun v => some (v, r98.2)) r98.2) |> bo fun r99 =>
      (gd t111 true (some (t61, r99.2)) r99.2) |> bo fun r100 =>
      (gd t111 true ((Ci_spec_FeedLine [r98.1, r99.1, r100.1] r100.2) |> bo fun r => some (r.1, r.2)) r100.2) |> bo fun r101 =>
      (gd t111 true ((fld1 0 r101.1) |> bo fun v => some (v, r101.2)) r101.2) |> bo fun r102 =>
      (gd t111 true ((binX .eql .no r97.1 r102.1) |> bo fun v => some (v, r102.2)) r102.2) |> bo fun r103 =>
      (pickX t111 r103.1 (.bool false)) |> bo fun t121 =>
      (gd t121 true ((fadX 3 r52.1) |> bo fun v => some (v, r103.2)) r103.2) |> bo fun r105 =>
      (gd t121 true ((ld1 r105.2 r105.1) |> bo fun v => some (v, r105.2)) r105.2) |> bo fun r106 =>
      (gd t121 true ((ldS r106.2 7 r45.1) |> bo fun v => some (v, r106.2)) r106.2) |> bo fun r107 =>
      (gd t121 true ((ldS r107.2 4 r46.1) |> bo fun v => some (v, r107.2)) r107.2) |> bo fun r108 =>
      (gd t121 true (some (t61, r108.2)) r108.2) |> bo fun r109 =>
      (gd t121 true ((Ci_spec_FeedLine [r107.1, r108.1, r109.1] r109.2) |> bo fun r => some (r.1, r.2)) r109.2) |> bo fun r110 =>
      (gd t121 true ((fld1 3 r110.1) |> bo fun v => some (v, r110.2)) r110.2) |> bo fun r111 =>
      (gd t121 true ((C_laws_lwSame [r106.1, r111.1] r111.2) |> bo fun r => some (r.1, r.2)) r111.2) |> bo fun r112 =>
      (pickX t121 r112.1 (.bool false)) |> bo fun t131 =>
      (gd t131 true ((fadX 4 r13.1) |> bo fun v => some (v, r112.2)) r112.2) |> bo fun r114 =>
      (gd t131 true ((ldS r114.2 4 r114.1) |> bo fun v => some (v, r114.2)) r114.2) |> bo fun r115 =>
      (gd t131 true ((ldS r115.2 7 r6.1) |> bo fun v => some (v, r115.2)) r115.2) |> bo fun r116 =>
      (gd t131 true ((ldS r116.2 4 r7.1) |> bo fun v => some (v, r116.2)) r116.2) |> bo fun r117 =>
      (gd t131 true (some (t22, r117.2)) r117.2) |> bo fun r118 =>
      (gd t131 true ((Ci_spec_FeedMany [r116.1, r117.1, r118.1] r118.2) |> bo fun r => some (r.1, r.2)) r118.2) |> bo fun r119 =>
      (gd t131 true ((fldS 4 4 r119.1) |> bo fun v => some (v, r119.2)) r119.2) |> bo fun r120 =>
      (gd t131 true ((C_impl_SameLines [r115.1, r120.1] r120.2) |> bo fun r => some (r.1, r.2)) r120.2) |> bo fun r121 =>
      (pickX t131 r121.1 (.bool false)) |> bo fun t141 =>
      gP (stbL [((gdN t83 true (rdN r76.1)), r74.2, r75.2), ((gdN t83 true (rdN r79.1)), r74.2, r75.2), ((gdN t83 true (rdN r79.1)), r77.2, r78.2), ((gdN t111 true (rdN r96.1)), r100.2, r101.2), ((gdN t121 true (rdN r105.1)), r109.2, r110.2), ((gdN t131 true (rdN r114.1)), r118.2, r119.2)])
       (
        retK m.length r121.2 [t0] t141)))
 | _, _ => none
noncomputable def C_laws_FnFeeds : List Value → Mem → Option VM := fcall X_laws_FnFeeds
@[simp] theorem c_laws_FnFeeds : C_laws_FnFeeds = fcall X_laws_FnFeeds := (rfl)
theorem cok_laws_FnFeeds : codeOk CT Try.f5 (Try.f5.body.get rfl) = true := by kernel_rfl
theorem xe_laws_FnFeeds (t0 : Value) (m : Mem) : ex CT cf_laws_FnFeeds Try.f5 1 m.length [] (fun _ _ _ => none) 400 [.code (Try.f5.body.get rfl)] (argsT 0 [t0]) m = X_laws_FnFeeds [t0] m := by kernel_rfl
theorem okc_laws_FnFeeds : CallOK CT cf_laws_FnFeeds := cfc_ok ok_Ci_spec_FeedLine (cfc_ok ok_Ci_impl_FeedLine (cfc_ok ok_Ci_spec_FeedMany (cfc_ok ok_Ci_impl_FeedMany (cfc_ok ok_C_laws_lwBig (cfc_ok ok_C_spec_DrawFeedMany (cfc_ok ok_C_laws_lwAt (cfc_ok ok_C_spec_DrawFeedLine (cfc_ok ok_C_impl_QueueSize (cfc_ok ok_C_impl_SameLines (cfc_ok ok_C_laws_lwSame (cfc_ok ok_C_impl_LineFault cfn_ok)))))))))))
theorem ok_X_laws_FnFeeds : OkX CT 5 X_laws_FnFeeds := OkX.of_ex (cf := cf_laws_FnFeeds) (np := 1) (LL := []) (J := (fun _ _ _ _ => none)) CT_ok rfl Try.func5 rfl (Nat.le_of_ble_eq_true rfl) (by decide) cok_laws_FnFeeds okc_laws_FnFeeds (fun k => noLoops rfl) (fun args m r h => match args, h with
  | [t0], h => ⟨rfl, (xe_laws_FnFeeds t0 m).trans h⟩)
theorem ok_C_laws_FnFeeds : OkC CT 5 C_laws_FnFeeds := fcall_ok rfl ok_X_laws_FnFeeds
end Go.Ab
