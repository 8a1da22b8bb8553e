/- Plain forms of functions, printed by gen.py. -/
import Derived.Test.YtkoahogalplhhaaCf1
import Derived.Test.YtkoahogalplhhaaFC
set_option linter.unusedVariables false
set_option linter.unusedSimpArgs false
namespace Go.Ab
open Go.Proofs
set_option maxRecDepth 100000
set_option linter.unusedVariables false
/-! ### spec.l1In -/
noncomputable def cf_spec_l1In : CallF := cfn
noncomputable def X_spec_l1In : List Value → Mem → Option VM
  | [t0, t1, t2], m =>
    (binX .geq .no t0 t1) |> bo fun t9 =>
    (gd t9 true (some (t0, m)) m) |> bo fun r2 =>
    (gd t9 true (some (t2, r2.2)) r2.2) |> bo fun r3 =>
    (gd t9 true ((binX .leq .no r2.1 r3.1) |> bo fun v => some (v, r3.2)) r3.2) |> bo fun r4 =>
    (pickX t9 r4.1 (.bool false)) |> bo fun t14 =>
    retK m.length r4.2 [t0, t1, t2] t14
  | _, _ => none
noncomputable def C_spec_l1In : List Value → Mem → Option VM := fcall X_spec_l1In
@[simp] theorem c_spec_l1In : C_spec_l1In = fcall X_spec_l1In := (rfl)
theorem cok_spec_l1In : codeOk CT Try.f115 (Try.f115.body.get rfl) = true := by kernel_rfl
theorem xe_spec_l1In (t0 t1 t2 : Value) (m : Mem) : ex CT cf_spec_l1In Try.f115 3 m.length [] (fun _ _ _ => none) 400 [.code (Try.f115.body.get rfl)] (argsT 0 [t0, t1, t2]) m = X_spec_l1In [t0, t1, t2] m := by kernel_rfl
theorem okc_spec_l1In : CallOK CT cf_spec_l1In := cfn_ok
theorem ok_X_spec_l1In : OkX CT 115 X_spec_l1In := OkX.of_ex (cf := cf_spec_l1In) (np := 3) (LL := []) (J := (fun _ _ _ _ => none)) CT_ok rfl Try.func115 rfl (Nat.le_of_ble_eq_true rfl) (by decide) cok_spec_l1In okc_spec_l1In (fun k => noLoops rfl) (fun args m r h => match args, h with
    | [t0, t1, t2], h => ⟨rfl, (xe_spec_l1In t0 t1 t2 m).trans h⟩)
theorem ok_C_spec_l1In : OkC CT 115 C_spec_l1In := fcall_ok rfl ok_X_spec_l1In

/-! ### spec.l1Fault -/
noncomputable def cf_spec_l1Fault : CallF := cfc 115 C_spec_l1In cfn
noncomputable def X_spec_l1Fault : List Value → Mem → Option VM
  | [t0], m =>
    (nilX t0) |> bo fun t6 =>
    (fadX 0 t6) |> bo fun t7 =>
    (ld1 m t7) |> bo fun t8 =>
    (binX .eql .no t8 (.int .i64 0)) |> bo fun t9 =>
    brX t9
      (
        (nilX t0) |> bo fun t11 =>
        (fadX 1 t11) |> bo fun t12 =>
        (ld1 m t12) |> bo fun t13 =>
        (binX .eql .no t13 (.int .i64 0)) |> bo fun t14 =>
        (gd t14 true (some (t0, m)) m) |> bo fun r9 =>
        (gd t14 true ((nilX r9.1) |> bo fun v => some (v, r9.2)) r9.2) |> bo fun r10 =>
        (gd t14 true ((fadX 2 r10.1) |> bo fun v => some (v, r10.2)) r10.2) |> bo fun r11 =>
        (gd t14 true ((ld1 r11.2 r11.1) |> bo fun v => some (v, r11.2)) r11.2) |> bo fun r12 =>
        (gd t14 true ((binX .eql .no r12.1 (.int .i64 0)) |> bo fun v => some (v, r12.2)) r12.2) |> bo fun r13 =>
        (pickX t14 r13.1 (.bool false)) |> bo fun t21 =>
        (uop .not t21) |> bo fun t77 =>
        brX t77
          (
            retK m.length r13.2 [t0] (.int .i64 3))
          (
            retK m.length r13.2 [t0] (.int .i64 0)))
      (
        (nilX t0) |> bo fun t24 =>
        (fadX 0 t24) |> bo fun t25 =>
        (ld1 m t25) |> bo fun t26 =>
        (binX .eql .no t26 (.int .i64 2)) |> bo fun t27 =>
        brX t27
          (
            (nilX t0) |> bo fun t29 =>
            (fadX 1 t29) |> bo fun t30 =>
            (ld1 m t30) |> bo fun t31 =>
            (binX .eql .no t31 (.int .i64 2048)) |> bo fun t32 =>
            (gd t32 true (some (t0, m)) m) |> bo fun r24 =>
            (gd t32 true ((nilX r24.1) |> bo fun v => some (v, r24.2)) r24.2) |> bo fun r25 =>
            (gd t32 true ((fadX 2 r25.1) |> bo fun v => some (v, r25.2)) r25.2) |> bo fun r26 =>
            (gd t32 true ((ld1 r26.2 r26.1) |> bo fun v => some (v, r26.2)) r26.2) |> bo fun r27 =>
            (gd t32 true ((C_spec_l1In [r27.1, (.int .i64 0), (.int .i64 15)] r27.2) |> bo fun r => some (r.1, r.2)) r27.2) |> bo fun r28 =>
            (pickX t32 r28.1 (.bool false)) |> bo fun t39 =>
            (uop .not t39) |> bo fun t77 =>
            brX t77
              (
                retK m.length r28.2 [t0] (.int .i64 3))
              (
                retK m.length r28.2 [t0] (.int .i64 0)))
          (
            (nilX t0) |> bo fun t42 =>
            (fadX 0 t42) |> bo fun t43 =>
            (ld1 m t43) |> bo fun t44 =>
            (binX .eql .no t44 (.int .i64 1)) |> bo fun t45 =>
            (gd t45 true (some (t0, m)) m) |> bo fun r35 =>
            (gd t45 true ((nilX r35.1) |> bo fun v => some (v, r35.2)) r35.2) |> bo fun r36 =>
            (gd t45 true ((fadX 1 r36.1) |> bo fun v => some (v, r36.2)) r36.2) |> bo fun r37 =>
            (gd t45 true ((ld1 r37.2 r37.1) |> bo fun v => some (v, r37.2)) r37.2) |> bo fun r38 =>
            (gd t45 true ((binX .eql .no r38.1 (.int .i64 128)) |> bo fun v => some (v, r38.2)) r38.2) |> bo fun r39 =>
            (pickX t45 r39.1 (.bool false)) |> bo fun t52 =>
            brX t52
              (
                (nilX t0) |> bo fun t54 =>
                (fadX 2 t54) |> bo fun t55 =>
                (ld1 r39.2 t55) |> bo fun t56 =>
                (C_spec_l1In [t56, (.int .i64 2), (.int .i64 31)] r39.2) |> bo fun r44 =>
                (uop .not r44.1) |> bo fun t77 =>
                brX t77
                  (
                    retK m.length r44.2 [t0] (.int .i64 3))
                  (
                    retK m.length r44.2 [t0] (.int .i64 0)))
              (
                (nilX t0) |> bo fun t60 =>
                (fadX 0 t60) |> bo fun t61 =>
                (ld1 r39.2 t61) |> bo fun t62 =>
                (binX .eql .no t62 (.int .i64 1)) |> bo fun t63 =>
                (gd t63 true (some (t0, r39.2)) r39.2) |> bo fun r50 =>
                (gd t63 true ((nilX r50.1) |> bo fun v => some (v, r50.2)) r50.2) |> bo fun r51 =>
                (gd t63 true ((fadX 1 r51.1) |> bo fun v => some (v, r51.2)) r51.2) |> bo fun r52 =>
                (gd t63 true ((ld1 r52.2 r52.1) |> bo fun v => some (v, r52.2)) r52.2) |> bo fun r53 =>
                (gd t63 true ((binX .eql .no r53.1 (.int .i64 2048)) |> bo fun v => some (v, r53.2)) r53.2) |> bo fun r54 =>
                (pickX t63 r54.1 (.bool false)) |> bo fun t70 =>
                brX t70
                  (
                    (nilX t0) |> bo fun t72 =>
                    (fadX 2 t72) |> bo fun t73 =>
                    (ld1 r54.2 t73) |> bo fun t74 =>
                    (C_spec_l1In [t74, (.int .i64 0), (.int .i64 1023)] r54.2) |> bo fun r59 =>
                    (uop .not r59.1) |> bo fun t77 =>
                    brX t77
                      (
                        retK m.length r59.2 [t0] (.int .i64 3))
                      (
                        retK m.length r59.2 [t0] (.int .i64 0)))
                  (
                    (uop .not (.bool false)) |> bo fun t77 =>
                    brX t77
                      (
                        retK m.length r54.2 [t0] (.int .i64 3))
                      (
                        retK m.length r54.2 [t0] (.int .i64 0))))))
  | _, _ => none
noncomputable def C_spec_l1Fault : List Value → Mem → Option VM := fcall X_spec_l1Fault
@[simp] theorem c_spec_l1Fault : C_spec_l1Fault = fcall X_spec_l1Fault := (rfl)
theorem cok_spec_l1Fault : codeOk CT Try.f93 (Try.f93.body.get rfl) = true := by kernel_rfl
theorem xe_spec_l1Fault (t0 : Value) (m : Mem) : ex CT cf_spec_l1Fault Try.f93 1 m.length [] (fun _ _ _ => none) 400 [.code (Try.f93.body.get rfl)] (argsT 0 [t0]) m = X_spec_l1Fault [t0] m := by kernel_rfl
theorem okc_spec_l1Fault : CallOK CT cf_spec_l1Fault := cfc_ok ok_C_spec_l1In cfn_ok
theorem ok_X_spec_l1Fault : OkX CT 93 X_spec_l1Fault := OkX.of_ex (cf := cf_spec_l1Fault) (np := 1) (LL := []) (J := (fun _ _ _ _ => none)) CT_ok rfl Try.func93 rfl (Nat.le_of_ble_eq_true rfl) (by decide) cok_spec_l1Fault okc_spec_l1Fault (fun k => noLoops rfl) (fun args m r h => match args, h with
    | [t0], h => ⟨rfl, (xe_spec_l1Fault t0 m).trans h⟩)
theorem ok_C_spec_l1Fault : OkC CT 93 C_spec_l1Fault := fcall_ok rfl ok_X_spec_l1Fault

/-! ### spec.l1Char -/
noncomputable def cf_spec_l1Char : CallF := cfc 115 C_spec_l1In cfn
noncomputable def X_spec_l1Char : List Value → Mem → Option VM
  | [t0], m =>
    (C_spec_l1In [t0, (.int .i64 0), (.int .i64 55295)] m) |> bo fun r1 =>
    (gd r1.1 false (some (t0, r1.2)) r1.2) |> bo fun r2 =>
    (gd r1.1 false ((C_spec_l1In [r2.1, (.int .i64 57344), (.int .i64 65535)] r2.2) |> bo fun r => some (r.1, r.2)) r2.2) |> bo fun r3 =>
    (pickX r1.1 (.bool true) r3.1) |> bo fun t8 =>
    retK m.length r3.2 [t0] t8
  | _, _ => none
noncomputable def C_spec_l1Char : List Value → Mem → Option VM := fcall X_spec_l1Char
@[simp] theorem c_spec_l1Char : C_spec_l1Char = fcall X_spec_l1Char := (rfl)
theorem cok_spec_l1Char : codeOk CT Try.f109 (Try.f109.body.get rfl) = true := by kernel_rfl
theorem xe_spec_l1Char (t0 : Value) (m : Mem) : ex CT cf_spec_l1Char Try.f109 1 m.length [] (fun _ _ _ => none) 400 [.code (Try.f109.body.get rfl)] (argsT 0 [t0]) m = X_spec_l1Char [t0] m := by kernel_rfl
theorem okc_spec_l1Char : CallOK CT cf_spec_l1Char := cfc_ok ok_C_spec_l1In cfn_ok
theorem ok_X_spec_l1Char : OkX CT 109 X_spec_l1Char := OkX.of_ex (cf := cf_spec_l1Char) (np := 1) (LL := []) (J := (fun _ _ _ _ => none)) CT_ok rfl Try.func109 rfl (Nat.le_of_ble_eq_true rfl) (by decide) cok_spec_l1Char okc_spec_l1Char (fun k => noLoops rfl) (fun args m r h => match args, h with
    | [t0], h => ⟨rfl, (xe_spec_l1Char t0 m).trans h⟩)
theorem ok_C_spec_l1Char : OkC CT 109 C_spec_l1Char := fcall_ok rfl ok_X_spec_l1Char

/-! ### spec.l1Fresh -/
noncomputable def cf_spec_l1Fresh : CallF := cfc 115 C_spec_l1In cfn
noncomputable def X_spec_l1Fresh : List Value → Mem → Option VM
  | [t0], m =>
    (alX m [.int .i64 0, .int .i64 0, .int .i64 0]) |> bo fun r1 =>
    (binX .lss .no t0 (.int .i64 128)) |> bo fun t6 =>
    brX t6
      (
        (bslX r1.2 1 1 [.int .i64 0] [(0, 1, t0)]) |> bo fun r3 =>
        (bldX [.int .i64 0, .int .i64 0, .int .i64 0] []) |> bo fun t9 =>
        (stX r3.2 3 r1.1 t9) |> bo fun m5 =>
        (resP (some 3) m5 r1.1) |> bo fun c6 =>
        retK m.length m5 [t0] (.tuple #[r3.1, c6]))
      (
        (C_spec_l1In [t0, (.int .i64 194), (.int .i64 223)] r1.2) |> bo fun r7 =>
        brX r7.1
          (
            (bslX r7.2 0 1 [.int .i64 0] []) |> bo fun r8 =>
            (binX .sub .no t0 (.int .i64 192)) |> bo fun t15 =>
            (bldX [.int .i64 0, .int .i64 0, .int .i64 0] [(0, 1, (.int .i64 1)), (1, 1, (.int .i64 128)), (2, 1, t15)]) |> bo fun t16 =>
            (stX r8.2 3 r1.1 t16) |> bo fun m11 =>
            (resP (some 3) m11 r1.1) |> bo fun c12 =>
            retK m.length m11 [t0] (.tuple #[r8.1, c12]))
          (
            (C_spec_l1In [t0, (.int .i64 224), (.int .i64 239)] r7.2) |> bo fun r13 =>
            brX r13.1
              (
                (bslX r13.2 0 1 [.int .i64 0] []) |> bo fun r14 =>
                (binX .sub .no t0 (.int .i64 224)) |> bo fun t22 =>
                (bldX [.int .i64 0, .int .i64 0, .int .i64 0] [(0, 1, (.int .i64 2)), (1, 1, (.int .i64 2048)), (2, 1, t22)]) |> bo fun t23 =>
                (stX r14.2 3 r1.1 t23) |> bo fun m17 =>
                (resP (some 3) m17 r1.1) |> bo fun c18 =>
                retK m.length m17 [t0] (.tuple #[r14.1, c18]))
              (
                (bslX r13.2 1 1 [.int .i64 0] [(0, 1, (.int .i64 65533))]) |> bo fun r19 =>
                (bldX [.int .i64 0, .int .i64 0, .int .i64 0] []) |> bo fun t25 =>
                (stX r19.2 3 r1.1 t25) |> bo fun m21 =>
                (resP (some 3) m21 r1.1) |> bo fun c22 =>
                retK m.length m21 [t0] (.tuple #[r19.1, c22]))))
  | _, _ => none
noncomputable def C_spec_l1Fresh : List Value → Mem → Option VM := fcall X_spec_l1Fresh
@[simp] theorem c_spec_l1Fresh : C_spec_l1Fresh = fcall X_spec_l1Fresh := (rfl)
theorem cok_spec_l1Fresh : codeOk CT Try.f119 (Try.f119.body.get rfl) = true := by kernel_rfl
theorem xe_spec_l1Fresh (t0 : Value) (m : Mem) : ex CT cf_spec_l1Fresh Try.f119 1 m.length [] (fun _ _ _ => none) 400 [.code (Try.f119.body.get rfl)] (argsT 0 [t0]) m = X_spec_l1Fresh [t0] m := by kernel_rfl
theorem okc_spec_l1Fresh : CallOK CT cf_spec_l1Fresh := cfc_ok ok_C_spec_l1In cfn_ok
theorem ok_X_spec_l1Fresh : OkX CT 119 X_spec_l1Fresh := OkX.of_ex (cf := cf_spec_l1Fresh) (np := 1) (LL := []) (J := (fun _ _ _ _ => none)) CT_ok rfl Try.func119 rfl (Nat.le_of_ble_eq_true rfl) (by decide) cok_spec_l1Fresh okc_spec_l1Fresh (fun k => noLoops rfl) (fun args m r h => match args, h with
    | [t0], h => ⟨rfl, (xe_spec_l1Fresh t0 m).trans h⟩)
theorem ok_C_spec_l1Fresh : OkC CT 119 C_spec_l1Fresh := fcall_ok rfl ok_X_spec_l1Fresh

/-! ### spec.l1Step -/
noncomputable def cf_spec_l1Step : CallF := cfc 109 C_spec_l1Char (cfc 115 C_spec_l1In (cfc 119 C_spec_l1Fresh cfn))
noncomputable def X_spec_l1Step : List Value → Mem → Option VM
  | [t0, t1], m =>
    (boxX m t0) |> bo fun r1 =>
    (alX r1.2 [.int .i64 0, .int .i64 0, .int .i64 0]) |> bo fun r2 =>
    (fadX 0 r1.1) |> bo fun t8 =>
    (ld1 r2.2 t8) |> bo fun t9 =>
    (binX .eql .no t9 (.int .i64 0)) |> bo fun t10 =>
    brX t10
      (
        (C_spec_l1Fresh [t1] r2.2) |> bo fun r6 =>
        (extX 0 r6.1) |> bo fun t13 =>
        (extX 1 r6.1) |> bo fun t14 =>
        (stX r6.2 3 r2.1 t14) |> bo fun m9 =>
        (resP (some 3) m9 r2.1) |> bo fun c10 =>
        retK m.length m9 [t0, t1] (.tuple #[t13, c10]))
      (
        (C_spec_l1In [t1, (.int .i64 128), (.int .i64 191)] r2.2) |> bo fun r11 =>
        (uop .not r11.1) |> bo fun t17 =>
        brX t17
          (
            (C_spec_l1Fresh [t1] r11.2) |> bo fun r13 =>
            (extX 0 r13.1) |> bo fun t21 =>
            (extX 1 r13.1) |> bo fun t22 =>
            (alX r13.2 [.int .i64 0, .int .i64 0, .int .i64 0]) |> bo fun r16 =>
            (stX r16.2 3 r16.1 t22) |> bo fun m17 =>
            (bslX m17 1 1 [.int .i64 0] [(0, 1, (.int .i64 65533))]) |> bo fun r18 =>
            (apL r18.2 1 8 r18.1 t21) |> bo fun r19 =>
            (ldS r19.2 3 r16.1) |> bo fun t26 =>
            (stX r19.2 3 r2.1 t26) |> bo fun m21 =>
            gP (stbL [((rdN r16.1), r18.2, r19.2)])
              (
                (resP (some 3) m21 r2.1) |> bo fun c22 =>
                retK m.length m21 [t0, t1] (.tuple #[r19.1, c22])))
          (
            (fadX 2 r1.1) |> bo fun t27 =>
            (ld1 r11.2 t27) |> bo fun t28 =>
            (binX .mul .no (.int .i64 64) t28) |> bo fun t29 =>
            (binX .add .no t29 t1) |> bo fun t31 =>
            (binX .sub .no t31 (.int .i64 128)) |> bo fun t32 =>
            (fadX 2 r1.1) |> bo fun t33 =>
            (stX r11.2 1 t33 t32) |> bo fun m29 =>
            (fadX 0 r1.1) |> bo fun t34 =>
            (ld1 m29 t34) |> bo fun t35 =>
            (binX .sub .no t35 (.int .i64 1)) |> bo fun t36 =>
            (fadX 0 r1.1) |> bo fun t37 =>
            (stX m29 1 t37 t36) |> bo fun m34 =>
            (fadX 0 r1.1) |> bo fun t38 =>
            (ld1 m34 t38) |> bo fun t39 =>
            (binX .gtr .no t39 (.int .i64 0)) |> bo fun t40 =>
            brX t40
              (
                (bslX m34 0 1 [.int .i64 0] []) |> bo fun r38 =>
                (ldS r38.2 3 r1.1) |> bo fun t42 =>
                (stX r38.2 3 r2.1 t42) |> bo fun m40 =>
                (resP (some 3) m40 r2.1) |> bo fun c41 =>
                retK m.length m40 [t0, t1] (.tuple #[r38.1, c41]))
              (
                (fadX 2 r1.1) |> bo fun t43 =>
                (ld1 m34 t43) |> bo fun t44 =>
                (C_spec_l1Char [t44] m34) |> bo fun r44 =>
                (gd r44.1 true ((fadX 2 r1.1) |> bo fun v => some (v, r44.2)) r44.2) |> bo fun r45 =>
                (gd r44.1 true ((ld1 r45.2 r45.1) |> bo fun v => some (v, r45.2)) r45.2) |> bo fun r46 =>
                (gd r44.1 true ((fadX 1 r1.1) |> bo fun v => some (v, r46.2)) r46.2) |> bo fun r47 =>
                (gd r44.1 true ((ld1 r47.2 r47.1) |> bo fun v => some (v, r47.2)) r47.2) |> bo fun r48 =>
                (gd r44.1 true ((binX .geq .no r46.1 r48.1) |> bo fun v => some (v, r48.2)) r48.2) |> bo fun r49 =>
                (pickX r44.1 r49.1 (.bool false)) |> bo fun t52 =>
                brX t52
                  (
                    (fadX 2 r1.1) |> bo fun t53 =>
                    (ld1 r49.2 t53) |> bo fun t54 =>
                    (bslX r49.2 1 1 [.int .i64 0] [(0, 1, t54)]) |> bo fun r53 =>
                    (bldX [.int .i64 0, .int .i64 0, .int .i64 0] []) |> bo fun t56 =>
                    (stX r53.2 3 r2.1 t56) |> bo fun m55 =>
                    (resP (some 3) m55 r2.1) |> bo fun c56 =>
                    retK m.length m55 [t0, t1] (.tuple #[r53.1, c56]))
                  (
                    (bslX r49.2 1 1 [.int .i64 0] [(0, 1, (.int .i64 65533))]) |> bo fun r57 =>
                    (bldX [.int .i64 0, .int .i64 0, .int .i64 0] []) |> bo fun t58 =>
                    (stX r57.2 3 r2.1 t58) |> bo fun m59 =>
                    (resP (some 3) m59 r2.1) |> bo fun c60 =>
                    retK m.length m59 [t0, t1] (.tuple #[r57.1, c60])))))
  | _, _ => none
noncomputable def C_spec_l1Step : List Value → Mem → Option VM := fcall X_spec_l1Step
@[simp] theorem c_spec_l1Step : C_spec_l1Step = fcall X_spec_l1Step := (rfl)
theorem cok_spec_l1Step : codeOk CT Try.f94 (Try.f94.body.get rfl) = true := by kernel_rfl
theorem xe_spec_l1Step (t0 t1 : Value) (m : Mem) : ex CT cf_spec_l1Step Try.f94 2 m.length [] (fun _ _ _ => none) 400 [.code (Try.f94.body.get rfl)] (argsT 0 [t0, t1]) m = X_spec_l1Step [t0, t1] m := by kernel_rfl
theorem okc_spec_l1Step : CallOK CT cf_spec_l1Step := cfc_ok ok_C_spec_l1Char (cfc_ok ok_C_spec_l1In (cfc_ok ok_C_spec_l1Fresh cfn_ok))
theorem ok_X_spec_l1Step : OkX CT 94 X_spec_l1Step := OkX.of_ex (cf := cf_spec_l1Step) (np := 2) (LL := []) (J := (fun _ _ _ _ => none)) CT_ok rfl Try.func94 rfl (Nat.le_of_ble_eq_true rfl) (by decide) cok_spec_l1Step okc_spec_l1Step (fun k => noLoops rfl) (fun args m r h => match args, h with
    | [t0, t1], h => ⟨rfl, (xe_spec_l1Step t0 t1 m).trans h⟩)
theorem ok_C_spec_l1Step : OkC CT 94 C_spec_l1Step := fcall_ok rfl ok_X_spec_l1Step

/-! ### spec.StepDecoder -/
noncomputable def cf_spec_StepDecoder : CallF := cfc 93 C_spec_l1Fault (cfc 94 C_spec_l1Step cfn)
noncomputable def X_spec_StepDecoder : List Value → Mem → Option VM
  | [t0, t1], m =>
    (boxX m t0) |> bo fun r1 =>
    (alX r1.2 [.int .i64 0, .slice none 0 0, .int .i64 0, .int .i64 0, .int .i64 0]) |> bo fun r2 =>
    (C_spec_l1Fault [r1.1] r2.2) |> bo fun r3 =>
    (binX .neq .no r3.1 (.int .i64 0)) |> bo fun t10 =>
    brX t10
      (
        (bldX [.int .i64 0, .slice none 0 0, .int .i64 0, .int .i64 0, .int .i64 0] [(0, 1, r3.1)]) |> bo fun t12 =>
        (stX r3.2 5 r2.1 t12) |> bo fun m6 =>
        (resP (some 5) m6 r2.1) |> bo fun c7 =>
        retK m.length m6 [t0, t1] c7)
      (
        (ldS r3.2 3 r1.1) |> bo fun t14 =>
        (cvI .i64 t1) |> bo fun t16 =>
        (C_spec_l1Step [t14, t16] r3.2) |> bo fun r10 =>
        (extX 0 r10.1) |> bo fun t18 =>
        (extX 1 r10.1) |> bo fun t19 =>
        (alX r10.2 [.int .i64 0, .int .i64 0, .int .i64 0]) |> bo fun r13 =>
        (stX r13.2 3 r13.1 t19) |> bo fun m14 =>
        (ldS m14 3 r13.1) |> bo fun t21 =>
        (bldX [.int .i64 0, .slice none 0 0, .int .i64 0, .int .i64 0, .int .i64 0] [(1, 1, t18), (2, 3, t21)]) |> bo fun t22 =>
        (stX m14 5 r2.1 t22) |> bo fun m17 =>
        (resP (some 5) m17 r2.1) |> bo fun c18 =>
        retK m.length m17 [t0, t1] c18)
  | _, _ => none
noncomputable def C_spec_StepDecoder : List Value → Mem → Option VM := icall X_spec_StepDecoder
@[simp] theorem c_spec_StepDecoder : C_spec_StepDecoder = icall X_spec_StepDecoder := (rfl)
theorem cok_spec_StepDecoder : codeOk CT Try.f43 (Try.f43.body.get rfl) = true := by kernel_rfl
theorem xe_spec_StepDecoder (t0 t1 : Value) (m : Mem) : ex CT cf_spec_StepDecoder Try.f43 2 m.length [] (fun _ _ _ => none) 400 [.code (Try.f43.body.get rfl)] (argsT 0 [t0, t1]) m = X_spec_StepDecoder [t0, t1] m := by kernel_rfl
theorem okc_spec_StepDecoder : CallOK CT cf_spec_StepDecoder := cfc_ok ok_C_spec_l1Fault (cfc_ok ok_C_spec_l1Step cfn_ok)
theorem ok_X_spec_StepDecoder : OkX CT 43 X_spec_StepDecoder := OkX.of_ex (cf := cf_spec_StepDecoder) (np := 2) (LL := []) (J := (fun _ _ _ _ => none)) CT_ok rfl Try.func43 rfl (Nat.le_of_ble_eq_true rfl) (by decide) cok_spec_StepDecoder okc_spec_StepDecoder (fun k => noLoops rfl) (fun args m r h => match args, h with
    | [t0, t1], h => ⟨rfl, (xe_spec_StepDecoder t0 t1 m).trans h⟩)
theorem ok_C_spec_StepDecoder : OkC CT 43 C_spec_StepDecoder := icall_ok rfl ok_X_spec_StepDecoder

/-! ### impl.in -/
noncomputable def cf_impl_in : CallF := cfn
noncomputable def X_impl_in : List Value → Mem → Option VM
  | [t0, t1, t2], m =>
    (binX .leq .no t1 t0) |> bo fun t9 =>
    (gd t9 true (some (t0, m)) m) |> bo fun r2 =>
    (gd t9 true (some (t2, r2.2)) r2.2) |> bo fun r3 =>
    (gd t9 true ((binX .leq .no r2.1 r3.1) |> bo fun v => some (v, r3.2)) r3.2) |> bo fun r4 =>
    (pickX t9 r4.1 (.bool false)) |> bo fun t14 =>
    retK m.length r4.2 [t0, t1, t2] t14
  | _, _ => none
noncomputable def C_impl_in : List Value → Mem → Option VM := fcall X_impl_in
@[simp] theorem c_impl_in : C_impl_in = fcall X_impl_in := (rfl)
theorem cok_impl_in : codeOk CT Try.f82 (Try.f82.body.get rfl) = true := by kernel_rfl
theorem xe_impl_in (t0 t1 t2 : Value) (m : Mem) : ex CT cf_impl_in Try.f82 3 m.length [] (fun _ _ _ => none) 400 [.code (Try.f82.body.get rfl)] (argsT 0 [t0, t1, t2]) m = X_impl_in [t0, t1, t2] m := by kernel_rfl
theorem okc_impl_in : CallOK CT cf_impl_in := cfn_ok
theorem ok_X_impl_in : OkX CT 82 X_impl_in := OkX.of_ex (cf := cf_impl_in) (np := 3) (LL := []) (J := (fun _ _ _ _ => none)) CT_ok rfl Try.func82 rfl (Nat.le_of_ble_eq_true rfl) (by decide) cok_impl_in okc_impl_in (fun k => noLoops rfl) (fun args m r h => match args, h with
    | [t0, t1, t2], h => ⟨rfl, (xe_impl_in t0 t1 t2 m).trans h⟩)
theorem ok_C_impl_in : OkC CT 82 C_impl_in := fcall_ok rfl ok_X_impl_in

/-! ### impl.DecoderFault -/
noncomputable def cf_impl_DecoderFault : CallF := cfc 82 C_impl_in cfn
noncomputable def X_impl_DecoderFault : List Value → Mem → Option VM
  | [t0], m =>
    (boxX m t0) |> bo fun r1 =>
    (ldS r1.2 3 r1.1) |> bo fun t4 =>
    (bldX [.int .i64 0, .int .i64 0, .int .i64 0] []) |> bo fun t5 =>
    (binX .eql (.st [0, 1, 2]) t4 t5) |> bo fun t6 =>
    brX t6
      (
        retK m.length r1.2 [t0] (.int .i64 0))
      (
        (fadX 0 r1.1) |> bo fun t8 =>
        (ld1 r1.2 t8) |> bo fun t9 =>
        (binX .eql .no t9 (.int .i64 1)) |> bo fun t10 =>
        (gd t10 true ((fadX 1 r1.1) |> bo fun v => some (v, r1.2)) r1.2) |> bo fun r8 =>
        (gd t10 true ((ld1 r8.2 r8.1) |> bo fun v => some (v, r8.2)) r8.2) |> bo fun r9 =>
        (gd t10 true ((binX .eql .no r9.1 (.int .i64 128)) |> bo fun v => some (v, r9.2)) r9.2) |> bo fun r10 =>
        (pickX t10 r10.1 (.bool false)) |> bo fun t15 =>
        (gd t15 true ((fadX 2 r1.1) |> bo fun v => some (v, r10.2)) r10.2) |> bo fun r12 =>
        (gd t15 true ((ld1 r12.2 r12.1) |> bo fun v => some (v, r12.2)) r12.2) |> bo fun r13 =>
        (gd t15 true ((C_impl_in [r13.1, (.int .i64 2), (.int .i64 31)] r13.2) |> bo fun r => some (r.1, r.2)) r13.2) |> bo fun r14 =>
        (pickX t15 r14.1 (.bool false)) |> bo fun t20 =>
        brX t20
          (
            retK m.length r14.2 [t0] (.int .i64 0))
          (
            (fadX 0 r1.1) |> bo fun t22 =>
            (ld1 r14.2 t22) |> bo fun t23 =>
            (binX .eql .no t23 (.int .i64 2)) |> bo fun t24 =>
            (gd t24 true ((fadX 1 r1.1) |> bo fun v => some (v, r14.2)) r14.2) |> bo fun r19 =>
            (gd t24 true ((ld1 r19.2 r19.1) |> bo fun v => some (v, r19.2)) r19.2) |> bo fun r20 =>
            (gd t24 true ((binX .eql .no r20.1 (.int .i64 2048)) |> bo fun v => some (v, r20.2)) r20.2) |> bo fun r21 =>
            (pickX t24 r21.1 (.bool false)) |> bo fun t29 =>
            (gd t29 true ((fadX 2 r1.1) |> bo fun v => some (v, r21.2)) r21.2) |> bo fun r23 =>
            (gd t29 true ((ld1 r23.2 r23.1) |> bo fun v => some (v, r23.2)) r23.2) |> bo fun r24 =>
            (gd t29 true ((C_impl_in [r24.1, (.int .i64 0), (.int .i64 15)] r24.2) |> bo fun r => some (r.1, r.2)) r24.2) |> bo fun r25 =>
            (pickX t29 r25.1 (.bool false)) |> bo fun t34 =>
            brX t34
              (
                retK m.length r25.2 [t0] (.int .i64 0))
              (
                (fadX 0 r1.1) |> bo fun t36 =>
                (ld1 r25.2 t36) |> bo fun t37 =>
                (binX .eql .no t37 (.int .i64 1)) |> bo fun t38 =>
                (gd t38 true ((fadX 1 r1.1) |> bo fun v => some (v, r25.2)) r25.2) |> bo fun r30 =>
                (gd t38 true ((ld1 r30.2 r30.1) |> bo fun v => some (v, r30.2)) r30.2) |> bo fun r31 =>
                (gd t38 true ((binX .eql .no r31.1 (.int .i64 2048)) |> bo fun v => some (v, r31.2)) r31.2) |> bo fun r32 =>
                (pickX t38 r32.1 (.bool false)) |> bo fun t43 =>
                (gd t43 true ((fadX 2 r1.1) |> bo fun v => some (v, r32.2)) r32.2) |> bo fun r34 =>
                (gd t43 true ((ld1 r34.2 r34.1) |> bo fun v => some (v, r34.2)) r34.2) |> bo fun r35 =>
                (gd t43 true ((C_impl_in [r35.1, (.int .i64 0), (.int .i64 1023)] r35.2) |> bo fun r => some (r.1, r.2)) r35.2) |> bo fun r36 =>
                (pickX t43 r36.1 (.bool false)) |> bo fun t48 =>
                brX t48
                  (
                    retK m.length r36.2 [t0] (.int .i64 0))
                  (
                    retK m.length r36.2 [t0] (.int .i64 3)))))
  | _, _ => none
noncomputable def C_impl_DecoderFault : List Value → Mem → Option VM := fcall X_impl_DecoderFault
@[simp] theorem c_impl_DecoderFault : C_impl_DecoderFault = fcall X_impl_DecoderFault := (rfl)
theorem cok_impl_DecoderFault : codeOk CT Try.f56 (Try.f56.body.get rfl) = true := by kernel_rfl
theorem xe_impl_DecoderFault (t0 : Value) (m : Mem) : ex CT cf_impl_DecoderFault Try.f56 1 m.length [] (fun _ _ _ => none) 400 [.code (Try.f56.body.get rfl)] (argsT 0 [t0]) m = X_impl_DecoderFault [t0] m := by kernel_rfl
theorem okc_impl_DecoderFault : CallOK CT cf_impl_DecoderFault := cfc_ok ok_C_impl_in cfn_ok
theorem ok_X_impl_DecoderFault : OkX CT 56 X_impl_DecoderFault := OkX.of_ex (cf := cf_impl_DecoderFault) (np := 1) (LL := []) (J := (fun _ _ _ _ => none)) CT_ok rfl Try.func56 rfl (Nat.le_of_ble_eq_true rfl) (by decide) cok_impl_DecoderFault okc_impl_DecoderFault (fun k => noLoops rfl) (fun args m r h => match args, h with
    | [t0], h => ⟨rfl, (xe_impl_DecoderFault t0 m).trans h⟩)
theorem ok_C_impl_DecoderFault : OkC CT 56 C_impl_DecoderFault := fcall_ok rfl ok_X_impl_DecoderFault

/-! ### impl.isChar -/
noncomputable def cf_impl_isChar : CallF := cfc 82 C_impl_in cfn
noncomputable def X_impl_isChar : List Value → Mem → Option VM
  | [t0], m =>
    (C_impl_in [t0, (.int .i64 0), (.int .i64 65535)] m) |> bo fun r1 =>
    (gd r1.1 true (some (t0, r1.2)) r1.2) |> bo fun r2 =>
    (gd r1.1 true ((C_impl_in [r2.1, (.int .i64 55296), (.int .i64 57343)] r2.2) |> bo fun r => some (r.1, r.2)) r2.2) |> bo fun r3 =>
    (gd r1.1 true ((uop .not r3.1) |> bo fun v => some (v, r3.2)) r3.2) |> bo fun r4 =>
    (pickX r1.1 r4.1 (.bool false)) |> bo fun t9 =>
    retK m.length r4.2 [t0] t9
  | _, _ => none
noncomputable def C_impl_isChar : List Value → Mem → Option VM := fcall X_impl_isChar
@[simp] theorem c_impl_isChar : C_impl_isChar = fcall X_impl_isChar := (rfl)
theorem cok_impl_isChar : codeOk CT Try.f107 (Try.f107.body.get rfl) = true := by kernel_rfl
theorem xe_impl_isChar (t0 : Value) (m : Mem) : ex CT cf_impl_isChar Try.f107 1 m.length [] (fun _ _ _ => none) 400 [.code (Try.f107.body.get rfl)] (argsT 0 [t0]) m = X_impl_isChar [t0] m := by kernel_rfl
theorem okc_impl_isChar : CallOK CT cf_impl_isChar := cfc_ok ok_C_impl_in cfn_ok
theorem ok_X_impl_isChar : OkX CT 107 X_impl_isChar := OkX.of_ex (cf := cf_impl_isChar) (np := 1) (LL := []) (J := (fun _ _ _ _ => none)) CT_ok rfl Try.func107 rfl (Nat.le_of_ble_eq_true rfl) (by decide) cok_impl_isChar okc_impl_isChar (fun k => noLoops rfl) (fun args m r h => match args, h with
    | [t0], h => ⟨rfl, (xe_impl_isChar t0 m).trans h⟩)
theorem ok_C_impl_isChar : OkC CT 107 C_impl_isChar := fcall_ok rfl ok_X_impl_isChar

/-! ### impl.fresh -/
noncomputable def cf_impl_fresh : CallF := cfc 82 C_impl_in cfn
noncomputable def X_impl_fresh : List Value → Mem → Option VM
  | [t0], m =>
    (alX m [.int .i64 0, .int .i64 0, .int .i64 0]) |> bo fun r1 =>
    (cvI .i64 t0) |> bo fun t6 =>
    (binX .lss .no t6 (.int .i64 128)) |> bo fun t9 =>
    brX t9
      (
        (bslX r1.2 1 1 [.int .i64 0] [(0, 1, t6)]) |> bo fun r4 =>
        (bldX [.int .i64 0, .int .i64 0, .int .i64 0] []) |> bo fun t12 =>
        (stX r4.2 3 r1.1 t12) |> bo fun m6 =>
        (resP (some 3) m6 r1.1) |> bo fun c7 =>
        retK m.length m6 [t0] (.tuple #[r4.1, c7]))
      (
        (C_impl_in [t6, (.int .i64 194), (.int .i64 223)] r1.2) |> bo fun r8 =>
        brX r8.1
          (
            (binX .sub .no t6 (.int .i64 192)) |> bo fun t17 =>
            (bldX [.int .i64 0, .int .i64 0, .int .i64 0] [(0, 1, (.int .i64 1)), (1, 1, (.int .i64 128)), (2, 1, t17)]) |> bo fun t18 =>
            (stX r8.2 3 r1.1 t18) |> bo fun m11 =>
            (resP (some 3) m11 r1.1) |> bo fun c12 =>
            retK m.length m11 [t0] (.tuple #[(.slice none 0 0), c12]))
          (
            (C_impl_in [t6, (.int .i64 224), (.int .i64 239)] r8.2) |> bo fun r13 =>
            brX r13.1
              (
                (binX .sub .no t6 (.int .i64 224)) |> bo fun t23 =>
                (bldX [.int .i64 0, .int .i64 0, .int .i64 0] [(0, 1, (.int .i64 2)), (1, 1, (.int .i64 2048)), (2, 1, t23)]) |> bo fun t24 =>
                (stX r13.2 3 r1.1 t24) |> bo fun m16 =>
                (resP (some 3) m16 r1.1) |> bo fun c17 =>
                retK m.length m16 [t0] (.tuple #[(.slice none 0 0), c17]))
              (
                (bslX r13.2 1 1 [.int .i64 0] [(0, 1, (.int .i64 65533))]) |> bo fun r18 =>
                (bldX [.int .i64 0, .int .i64 0, .int .i64 0] []) |> bo fun t26 =>
                (stX r18.2 3 r1.1 t26) |> bo fun m20 =>
                (resP (some 3) m20 r1.1) |> bo fun c21 =>
                retK m.length m20 [t0] (.tuple #[r18.1, c21]))))
  | _, _ => none
noncomputable def C_impl_fresh : List Value → Mem → Option VM := fcall X_impl_fresh
@[simp] theorem c_impl_fresh : C_impl_fresh = fcall X_impl_fresh := (rfl)
theorem cok_impl_fresh : codeOk CT Try.f120 (Try.f120.body.get rfl) = true := by kernel_rfl
theorem xe_impl_fresh (t0 : Value) (m : Mem) : ex CT cf_impl_fresh Try.f120 1 m.length [] (fun _ _ _ => none) 400 [.code (Try.f120.body.get rfl)] (argsT 0 [t0]) m = X_impl_fresh [t0] m := by kernel_rfl
theorem okc_impl_fresh : CallOK CT cf_impl_fresh := cfc_ok ok_C_impl_in cfn_ok
theorem ok_X_impl_fresh : OkX CT 120 X_impl_fresh := OkX.of_ex (cf := cf_impl_fresh) (np := 1) (LL := []) (J := (fun _ _ _ _ => none)) CT_ok rfl Try.func120 rfl (Nat.le_of_ble_eq_true rfl) (by decide) cok_impl_fresh okc_impl_fresh (fun k => noLoops rfl) (fun args m r h => match args, h with
    | [t0], h => ⟨rfl, (xe_impl_fresh t0 m).trans h⟩)
theorem ok_C_impl_fresh : OkC CT 120 C_impl_fresh := fcall_ok rfl ok_X_impl_fresh

/-! ### (impl.Decoder).hear -/
noncomputable def cf_impl_Decoder_hear : CallF := cfc 82 C_impl_in (cfc 107 C_impl_isChar (cfc 120 C_impl_fresh cfn))
noncomputable def X_impl_Decoder_hear : List Value → Mem → Option VM
  | [t0, t1], m =>
    (boxX m t0) |> bo fun r1 =>
    (alX r1.2 [.int .i64 0, .int .i64 0, .int .i64 0]) |> bo fun r2 =>
    (fadX 0 r1.1) |> bo fun t9 =>
    (ld1 r2.2 t9) |> bo fun t10 =>
    (binX .eql .no t10 (.int .i64 0)) |> bo fun t11 =>
    brX t11
      (
        (C_impl_fresh [t1] r2.2) |> bo fun r6 =>
        (extX 0 r6.1) |> bo fun t14 =>
        (extX 1 r6.1) |> bo fun t15 =>
        (stX r6.2 3 r2.1 t15) |> bo fun m9 =>
        (resP (some 3) m9 r2.1) |> bo fun c10 =>
        retK m.length m9 [t0, t1] (.tuple #[t14, c10]))
      (
        (cvI .i64 t1) |> bo fun t17 =>
        (C_impl_in [t17, (.int .i64 128), (.int .i64 191)] r2.2) |> bo fun r12 =>
        (uop .not r12.1) |> bo fun t19 =>
        brX t19
          (
            (C_impl_fresh [t1] r12.2) |> bo fun r14 =>
            (extX 0 r14.1) |> bo fun t23 =>
            (extX 1 r14.1) |> bo fun t24 =>
            (alX r14.2 [.int .i64 0, .int .i64 0, .int .i64 0]) |> bo fun r17 =>
            (stX r17.2 3 r17.1 t24) |> bo fun m18 =>
            (bslX m18 1 1 [.int .i64 0] [(0, 1, (.int .i64 65533))]) |> bo fun r19 =>
            (apL r19.2 1 8 r19.1 t23) |> bo fun r20 =>
            (ldS r20.2 3 r17.1) |> bo fun t28 =>
            (stX r20.2 3 r2.1 t28) |> bo fun m22 =>
            gP (stbL [((rdN r17.1), r19.2, r20.2)])
              (
                (resP (some 3) m22 r2.1) |> bo fun c23 =>
                retK m.length m22 [t0, t1] (.tuple #[r20.1, c23])))
          (
            (fadX 2 r1.1) |> bo fun t29 =>
            (ld1 r12.2 t29) |> bo fun t30 =>
            (binX .mul .no (.int .i64 64) t30) |> bo fun t31 =>
            (cvI .i64 t1) |> bo fun t33 =>
            (binX .add .no t31 t33) |> bo fun t34 =>
            (binX .sub .no t34 (.int .i64 128)) |> bo fun t35 =>
            (fadX 0 r1.1) |> bo fun t37 =>
            (ld1 r12.2 t37) |> bo fun t38 =>
            (binX .eql .no t38 (.int .i64 2)) |> bo fun t39 =>
            brX t39
              (
                (fadX 1 r1.1) |> bo fun t40 =>
                (ld1 r12.2 t40) |> bo fun t41 =>
                (bldX [.int .i64 0, .int .i64 0, .int .i64 0] [(0, 1, (.int .i64 1)), (1, 1, t41), (2, 1, t35)]) |> bo fun t43 =>
                (stX r12.2 3 r2.1 t43) |> bo fun m36 =>
                (resP (some 3) m36 r2.1) |> bo fun c37 =>
                retK m.length m36 [t0, t1] (.tuple #[(.slice none 0 0), c37]))
              (
                (C_impl_isChar [t35] r12.2) |> bo fun r38 =>
                (gd r38.1 true (some (t35, r38.2)) r38.2) |> bo fun r39 =>
                (gd r38.1 true ((fadX 1 r1.1) |> bo fun v => some (v, r39.2)) r39.2) |> bo fun r40 =>
                (gd r38.1 true ((ld1 r40.2 r40.1) |> bo fun v => some (v, r40.2)) r40.2) |> bo fun r41 =>
                (gd r38.1 true ((binX .geq .no r39.1 r41.1) |> bo fun v => some (v, r41.2)) r41.2) |> bo fun r42 =>
                (pickX r38.1 r42.1 (.bool false)) |> bo fun t52 =>
                brX t52
                  (
                    (bslX r42.2 1 1 [.int .i64 0] [(0, 1, t35)]) |> bo fun r44 =>
                    (bldX [.int .i64 0, .int .i64 0, .int .i64 0] []) |> bo fun t55 =>
                    (stX r44.2 3 r2.1 t55) |> bo fun m46 =>
                    (resP (some 3) m46 r2.1) |> bo fun c47 =>
                    retK m.length m46 [t0, t1] (.tuple #[r44.1, c47]))
                  (
                    (bslX r42.2 1 1 [.int .i64 0] [(0, 1, (.int .i64 65533))]) |> bo fun r48 =>
                    (bldX [.int .i64 0, .int .i64 0, .int .i64 0] []) |> bo fun t57 =>
                    (stX r48.2 3 r2.1 t57) |> bo fun m50 =>
                    (resP (some 3) m50 r2.1) |> bo fun c51 =>
                    retK m.length m50 [t0, t1] (.tuple #[r48.1, c51])))))
  | _, _ => none
noncomputable def C_impl_Decoder_hear : List Value → Mem → Option VM := fcall X_impl_Decoder_hear
@[simp] theorem c_impl_Decoder_hear : C_impl_Decoder_hear = fcall X_impl_Decoder_hear := (rfl)
theorem cok_impl_Decoder_hear : codeOk CT Try.f95 (Try.f95.body.get rfl) = true := by kernel_rfl
theorem xe_impl_Decoder_hear (t0 t1 : Value) (m : Mem) : ex CT cf_impl_Decoder_hear Try.f95 2 m.length [] (fun _ _ _ => none) 400 [.code (Try.f95.body.get rfl)] (argsT 0 [t0, t1]) m = X_impl_Decoder_hear [t0, t1] m := by kernel_rfl
theorem okc_impl_Decoder_hear : CallOK CT cf_impl_Decoder_hear := cfc_ok ok_C_impl_in (cfc_ok ok_C_impl_isChar (cfc_ok ok_C_impl_fresh cfn_ok))
theorem ok_X_impl_Decoder_hear : OkX CT 95 X_impl_Decoder_hear := OkX.of_ex (cf := cf_impl_Decoder_hear) (np := 2) (LL := []) (J := (fun _ _ _ _ => none)) CT_ok rfl Try.func95 rfl (Nat.le_of_ble_eq_true rfl) (by decide) cok_impl_Decoder_hear okc_impl_Decoder_hear (fun k => noLoops rfl) (fun args m r h => match args, h with
    | [t0, t1], h => ⟨rfl, (xe_impl_Decoder_hear t0 t1 m).trans h⟩)
theorem ok_C_impl_Decoder_hear : OkC CT 95 C_impl_Decoder_hear := fcall_ok rfl ok_X_impl_Decoder_hear

/-! ### impl.StepDecoder -/
noncomputable def cf_impl_StepDecoder : CallF := cfc 56 C_impl_DecoderFault (cfc 95 C_impl_Decoder_hear cfn)
noncomputable def X_impl_StepDecoder : List Value → Mem → Option VM
  | [t0, t1], m =>
    (boxX m t0) |> bo fun r1 =>
    (alX r1.2 [.int .i64 0, .slice none 0 0, .int .i64 0, .int .i64 0, .int .i64 0]) |> bo fun r2 =>
    (ldS r2.2 3 r1.1) |> bo fun t8 =>
    (C_impl_DecoderFault [t8] r2.2) |> bo fun r4 =>
    (binX .neq .no r4.1 (.int .i64 0)) |> bo fun t11 =>
    brX t11
      (
        (bldX [.int .i64 0, .slice none 0 0, .int .i64 0, .int .i64 0, .int .i64 0] [(0, 1, r4.1)]) |> bo fun t13 =>
        (stX r4.2 5 r2.1 t13) |> bo fun m7 =>
        (resP (some 5) m7 r2.1) |> bo fun c8 =>
        retK m.length m7 [t0, t1] c8)
      (
        (ldS r4.2 3 r1.1) |> bo fun t15 =>
        (C_impl_Decoder_hear [t15, t1] r4.2) |> bo fun r10 =>
        (extX 0 r10.1) |> bo fun t18 =>
        (extX 1 r10.1) |> bo fun t19 =>
        (alX r10.2 [.int .i64 0, .int .i64 0, .int .i64 0]) |> bo fun r13 =>
        (stX r13.2 3 r13.1 t19) |> bo fun m14 =>
        (ldS m14 3 r13.1) |> bo fun t21 =>
        (bldX [.int .i64 0, .slice none 0 0, .int .i64 0, .int .i64 0, .int .i64 0] [(0, 1, (.int .i64 0)), (1, 1, t18), (2, 3, t21)]) |> bo fun t22 =>
        (stX m14 5 r2.1 t22) |> bo fun m17 =>
        (resP (some 5) m17 r2.1) |> bo fun c18 =>
        retK m.length m17 [t0, t1] c18)
  | _, _ => none
noncomputable def C_impl_StepDecoder : List Value → Mem → Option VM := icall X_impl_StepDecoder
@[simp] theorem c_impl_StepDecoder : C_impl_StepDecoder = icall X_impl_StepDecoder := (rfl)
theorem cok_impl_StepDecoder : codeOk CT Try.f45 (Try.f45.body.get rfl) = true := by kernel_rfl
theorem xe_impl_StepDecoder (t0 t1 : Value) (m : Mem) : ex CT cf_impl_StepDecoder Try.f45 2 m.length [] (fun _ _ _ => none) 400 [.code (Try.f45.body.get rfl)] (argsT 0 [t0, t1]) m = X_impl_StepDecoder [t0, t1] m := by kernel_rfl
theorem okc_impl_StepDecoder : CallOK CT cf_impl_StepDecoder := cfc_ok ok_C_impl_DecoderFault (cfc_ok ok_C_impl_Decoder_hear cfn_ok)
theorem ok_X_impl_StepDecoder : OkX CT 45 X_impl_StepDecoder := OkX.of_ex (cf := cf_impl_StepDecoder) (np := 2) (LL := []) (J := (fun _ _ _ _ => none)) CT_ok rfl Try.func45 rfl (Nat.le_of_ble_eq_true rfl) (by decide) cok_impl_StepDecoder okc_impl_StepDecoder (fun k => noLoops rfl) (fun args m r h => match args, h with
    | [t0, t1], h => ⟨rfl, (xe_impl_StepDecoder t0 t1 m).trans h⟩)
theorem ok_C_impl_StepDecoder : OkC CT 45 C_impl_StepDecoder := icall_ok rfl ok_X_impl_StepDecoder

/-! ### laws.lwBig -/
noncomputable def cf_laws_lwBig : CallF := cfn
noncomputable def X_laws_lwBig : List Value → Mem → Option VM
  | [t0], m =>
    (lenX t0) |> bo fun t4 =>
    (binX .gtr .no t4 (.int .i64 1048576)) |> bo fun t5 =>
    retK m.length m [t0] t5
  | _, _ => none
noncomputable def C_laws_lwBig : List Value → Mem → Option VM := fcall X_laws_lwBig
@[simp] theorem c_laws_lwBig : C_laws_lwBig = fcall X_laws_lwBig := (rfl)
theorem cok_laws_lwBig : codeOk CT Try.f49 (Try.f49.body.get rfl) = true := by kernel_rfl
theorem xe_laws_lwBig (t0 : Value) (m : Mem) : ex CT cf_laws_lwBig Try.f49 1 m.length [] (fun _ _ _ => none) 400 [.code (Try.f49.body.get rfl)] (argsT 0 [t0]) m = X_laws_lwBig [t0] m := by kernel_rfl
theorem okc_laws_lwBig : CallOK CT cf_laws_lwBig := cfn_ok
theorem ok_X_laws_lwBig : OkX CT 49 X_laws_lwBig := OkX.of_ex (cf := cf_laws_lwBig) (np := 1) (LL := []) (J := (fun _ _ _ _ => none)) CT_ok rfl Try.func49 rfl (Nat.le_of_ble_eq_true rfl) (by decide) cok_laws_lwBig okc_laws_lwBig (fun k => noLoops rfl) (fun args m r h => match args, h with
    | [t0], h => ⟨rfl, (xe_laws_lwBig t0 m).trans h⟩)
theorem ok_C_laws_lwBig : OkC CT 49 C_laws_lwBig := fcall_ok rfl ok_X_laws_lwBig

/-! ### spec.l1Source -/
noncomputable def cf_spec_l1Source : CallF := cfn
noncomputable def X_spec_l1Source : List Value → Mem → Option VM
  | [t0], m =>
    (bldX [.slice none 0 0, .int .i64 0] [(0, 1, t0)]) |> bo fun t4 =>
    (boxX m t4) |> bo fun r2 =>
    retK m.length r2.2 [t0] r2.1
  | _, _ => none
noncomputable def C_spec_l1Source : List Value → Mem → Option VM := rcall X_spec_l1Source
@[simp] theorem c_spec_l1Source : C_spec_l1Source = rcall X_spec_l1Source := (rfl)
theorem cok_spec_l1Source : codeOk CT Try.f100 (Try.f100.body.get rfl) = true := by kernel_rfl
theorem xe_spec_l1Source (t0 : Value) (m : Mem) : ex CT cf_spec_l1Source Try.f100 1 m.length [] (fun _ _ _ => none) 400 [.code (Try.f100.body.get rfl)] (argsT 0 [t0]) m = X_spec_l1Source [t0] m := by kernel_rfl
theorem okc_spec_l1Source : CallOK CT cf_spec_l1Source := cfn_ok
theorem ok_X_spec_l1Source : OkX CT 100 X_spec_l1Source := OkX.of_ex (cf := cf_spec_l1Source) (np := 1) (LL := []) (J := (fun _ _ _ _ => none)) CT_ok rfl Try.func100 rfl (Nat.le_of_ble_eq_true rfl) (by decide) cok_spec_l1Source okc_spec_l1Source (fun k => noLoops rfl) (fun args m r h => match args, h with
    | [t0], h => ⟨rfl, (xe_spec_l1Source t0 m).trans h⟩)
theorem ok_C_spec_l1Source : OkC CT 100 C_spec_l1Source := rcall_ok rfl ok_X_spec_l1Source

/-! ### spec.l1Next -/
noncomputable def cf_spec_l1Next : CallF := cfn
noncomputable def X_spec_l1Next : List Value → Mem → Option VM
  | [t0, t1], m =>
    (nilX t0) |> bo fun t10 =>
    (fadX 1 t10) |> bo fun t11 =>
    (ld1 m t11) |> bo fun t12 =>
    (binX .add .no t12 (.int .i64 1)) |> bo fun t13 =>
    (nilX t0) |> bo fun t14 =>
    (fadX 1 t14) |> bo fun t15 =>
    (stX m 1 t15 t13) |> bo fun m7 =>
    (binX .lss .no t1 (.int .i64 1)) |> bo fun t17 =>
    brX t17
      (
        retK m.length m7 [t0, t1] (.int .i64 0))
      (
        (nilX t0) |> bo fun t19 =>
        (fadX 1 t19) |> bo fun t20 =>
        (ld1 m7 t20) |> bo fun t21 =>
        (binX .sub .no t21 (.int .i64 1)) |> bo fun t22 =>
        (nilX t0) |> bo fun t24 =>
        (fadX 0 t24) |> bo fun t25 =>
        (ld1 m7 t25) |> bo fun t26 =>
        (lenX t26) |> bo fun t27 =>
        (binX .eql .no t27 (.int .i64 0)) |> bo fun t29 =>
        brX t29
          (
            (binX .mul .no t22 (.int .i64 7)) |> bo fun t31 =>
            (binX .rem .no t31 t1) |> bo fun t33 =>
            retK m.length m7 [t0, t1] t33)
          (
            (nilX t0) |> bo fun t35 =>
            (fadX 0 t35) |> bo fun t36 =>
            (ld1 m7 t36) |> bo fun t37 =>
            (binX .rem .no t22 t27) |> bo fun t40 =>
            (ixaX 1 t37 t40) |> bo fun t41 =>
            (ld1 m7 t41) |> bo fun t42 =>
            (cvI .i64 t42) |> bo fun t43 =>
            (binX .quo .no t22 t27) |> bo fun t46 =>
            (binX .mul .no t46 (.int .i64 37)) |> bo fun t47 =>
            (binX .add .no t43 t47) |> bo fun t48 =>
            (binX .gtr .no t1 (.int .i64 200)) |> bo fun t50 =>
            brX t50
              (
                (binX .mul .no t48 (.int .i64 251)) |> bo fun t52 =>
                (nilX t0) |> bo fun t54 =>
                (fadX 0 t54) |> bo fun t55 =>
                (ld1 m7 t55) |> bo fun t56 =>
                (binX .add .no t22 (.int .i64 1)) |> bo fun t58 =>
                (binX .rem .no t58 t27) |> bo fun t60 =>
                (ixaX 1 t56 t60) |> bo fun t61 =>
                (ld1 m7 t61) |> bo fun t62 =>
                (cvI .i64 t62) |> bo fun t63 =>
                (binX .mul .no t63 (.int .i64 13)) |> bo fun t64 =>
                (binX .add .no t52 t64) |> bo fun t65 =>
                (binX .add .no t65 t22) |> bo fun t67 =>
                (binX .rem .no t67 t1) |> bo fun t70 =>
                retK m.length m7 [t0, t1] t70)
              (
                (binX .rem .no t48 t1) |> bo fun t70 =>
                retK m.length m7 [t0, t1] t70)))
  | _, _ => none
noncomputable def C_spec_l1Next : List Value → Mem → Option VM := rcall X_spec_l1Next
@[simp] theorem c_spec_l1Next : C_spec_l1Next = rcall X_spec_l1Next := (rfl)
theorem cok_spec_l1Next : codeOk CT Try.f106 (Try.f106.body.get rfl) = true := by kernel_rfl
theorem xe_spec_l1Next (t0 t1 : Value) (m : Mem) : ex CT cf_spec_l1Next Try.f106 2 m.length [] (fun _ _ _ => none) 400 [.code (Try.f106.body.get rfl)] (argsT 0 [t0, t1]) m = X_spec_l1Next [t0, t1] m := by kernel_rfl
theorem okc_spec_l1Next : CallOK CT cf_spec_l1Next := cfn_ok
theorem ok_X_spec_l1Next : OkX CT 106 X_spec_l1Next := OkX.of_ex (cf := cf_spec_l1Next) (np := 2) (LL := []) (J := (fun _ _ _ _ => none)) CT_ok rfl Try.func106 rfl (Nat.le_of_ble_eq_true rfl) (by decide) cok_spec_l1Next okc_spec_l1Next (fun k => noLoops rfl) (fun args m r h => match args, h with
    | [t0, t1], h => ⟨rfl, (xe_spec_l1Next t0 t1 m).trans h⟩)
theorem ok_C_spec_l1Next : OkC CT 106 C_spec_l1Next := rcall_ok rfl ok_X_spec_l1Next

/-! ### spec.l1Pick -/
noncomputable def cf_spec_l1Pick : CallF := cfc 106 C_spec_l1Next cfn
noncomputable def X_spec_l1Pick : List Value → Mem → Option VM
  | [t0, t1], m =>
    (lenX t1) |> bo fun t8 =>
    (C_spec_l1Next [t0, t8] m) |> bo fun r2 =>
    (ixaX 1 t1 r2.1) |> bo fun t10 =>
    (ld1 r2.2 t10) |> bo fun t11 =>
    retK m.length r2.2 [t0, t1] t11
  | _, _ => none
noncomputable def C_spec_l1Pick : List Value → Mem → Option VM := rcall X_spec_l1Pick
@[simp] theorem c_spec_l1Pick : C_spec_l1Pick = rcall X_spec_l1Pick := (rfl)
theorem cok_spec_l1Pick : codeOk CT Try.f105 (Try.f105.body.get rfl) = true := by kernel_rfl
theorem xe_spec_l1Pick (t0 t1 : Value) (m : Mem) : ex CT cf_spec_l1Pick Try.f105 2 m.length [] (fun _ _ _ => none) 400 [.code (Try.f105.body.get rfl)] (argsT 0 [t0, t1]) m = X_spec_l1Pick [t0, t1] m := by kernel_rfl
theorem okc_spec_l1Pick : CallOK CT cf_spec_l1Pick := cfc_ok ok_C_spec_l1Next cfn_ok
theorem ok_X_spec_l1Pick : OkX CT 105 X_spec_l1Pick := OkX.of_ex (cf := cf_spec_l1Pick) (np := 2) (LL := []) (J := (fun _ _ _ _ => none)) CT_ok rfl Try.func105 rfl (Nat.le_of_ble_eq_true rfl) (by decide) cok_spec_l1Pick okc_spec_l1Pick (fun k => noLoops rfl) (fun args m r h => match args, h with
    | [t0, t1], h => ⟨rfl, (xe_spec_l1Pick t0 t1 m).trans h⟩)
theorem ok_C_spec_l1Pick : OkC CT 105 C_spec_l1Pick := rcall_ok rfl ok_X_spec_l1Pick

/-! ### spec.l1Some -/
noncomputable def cf_spec_l1Some : CallF := cfc 105 C_spec_l1Pick (cfc 106 C_spec_l1Next cfn)
noncomputable def L_spec_l1Some (k : Nat) : Nat → Nat → List Value → Mem → Option VM
  | q + 1, 0, [t0, t1, t5], m =>
    (binX .gtr .no t1 (.int .i64 0)) |> bo fun t8 =>
    brX t8
      (
        (C_spec_l1Next [t0, (.int .i64 256)] m) |> bo fun r2 =>
        (bslX r2.2 8 1 [.int .i64 0] [(0, 1, (.int .i64 97)), (1, 1, (.int .i64 98)), (2, 1, r2.1), (3, 1, (.int .i64 27)), (4, 1, (.int .i64 91)), (5, 1, (.int .i64 10)), (6, 1, (.int .i64 195)), (7, 1, (.int .i64 164))]) |> bo fun r3 =>
        (C_spec_l1Pick [t0, r3.1] r3.2) |> bo fun r4 =>
        (cvI .u8 r4.1) |> bo fun t17 =>
        (bslX r4.2 1 1 [.int .u8 0] [(0, 1, t17)]) |> bo fun r6 =>
        (apL r6.2 1 1 t5 r6.1) |> bo fun r7 =>
        (binX .sub .no t1 (.int .i64 1)) |> bo fun t10 =>
        cutK k r7.2 [t0, t10] [t0, t10, r7.1] (L_spec_l1Some k q 0))
      (
        retK k m [t0, t1] t5)
  | _, _, _, _ => none
noncomputable def J_spec_l1Some (k q l : Nat) : List Value → Mem → Option VM := cond (Nat.beq l 2) (L_spec_l1Some k q 0) (fun _ _ => none)
def LL_spec_l1Some : List (Nat × List Tmp) := [(2, [0, 1, 5])]
noncomputable def X_spec_l1Some : List Value → Mem → Option VM
  | [t0, t1], m =>
    (bslX m 0 1 [.int .u8 0] []) |> bo fun r1 =>
    cutK m.length r1.2 [t0, t1] [t0, t1, r1.1] (L_spec_l1Some m.length QQ 0)
  | _, _ => none
noncomputable def C_spec_l1Some : List Value → Mem → Option VM := rcall X_spec_l1Some
@[simp] theorem c_spec_l1Some : C_spec_l1Some = rcall X_spec_l1Some := (rfl)
theorem cok_spec_l1Some : codeOk CT Try.f123 (Try.f123.body.get rfl) = true := by kernel_rfl
theorem xe_spec_l1Some (t0 t1 : Value) (m : Mem) : ex CT cf_spec_l1Some Try.f123 2 m.length LL_spec_l1Some (J_spec_l1Some m.length QQ) 400 [.code (Try.f123.body.get rfl)] (argsT 0 [t0, t1]) m = X_spec_l1Some [t0, t1] m := by kernel_rfl
theorem okc_spec_l1Some : CallOK CT cf_spec_l1Some := cfc_ok ok_C_spec_l1Pick (cfc_ok ok_C_spec_l1Next cfn_ok)
theorem le_spec_l1Some_0 (k q : Nat) (t0 t1 t5 : Value) (m : Mem) : ex CT cf_spec_l1Some Try.f123 2 k LL_spec_l1Some (J_spec_l1Some k q) 400 (atLoop Try.f123 0) [(0, t0), (1, t1), (5, t5)] m = J_spec_l1Some k (q + 1) 2 [t0, t1, t5] m := by kernel_rfl
theorem gl_spec_l1Some (k : Nat) : ∀ q i, i < 1 → GoodL CT k Try.f123 LL_spec_l1Some (J_spec_l1Some k q) (atLoop Try.f123 i)
  | 0, 0, _ => goodL_zero (l := 2) (by kernel_rfl) (fun vs m => by kernel_rfl)
  | 0, _ + 1, h => absurd h (by omega)
  | q + 1, 0, _ => goodL_succ (np := 2) (l := 2) (live := [0, 1, 5]) (n := 1) CT_ok rfl okc_spec_l1Some (c := (Try.f123.body.get rfl)) rfl cok_spec_l1Some (by kernel_rfl) (gl_spec_l1Some k q) (by kernel_rfl) rfl (fun vs m r hl h => match vs, hl with
    | [t0, t1, t5], _ => (le_spec_l1Some_0 k q t0 t1 t5 m).trans h)
  | _ + 1, _ + 1, h => absurd h (by omega)
theorem ok_X_spec_l1Some : OkX CT 123 X_spec_l1Some := OkX.of_ex (cf := cf_spec_l1Some) (np := 2) (LL := LL_spec_l1Some) (J := (fun k => J_spec_l1Some k QQ)) CT_ok rfl Try.func123 rfl (Nat.le_of_ble_eq_true rfl) (by decide) cok_spec_l1Some okc_spec_l1Some (fun k => allLoops rfl (by kernel_rfl) (gl_spec_l1Some k QQ)) (fun args m r h => match args, h with
    | [t0, t1], h => ⟨rfl, (xe_spec_l1Some t0 t1 m).trans h⟩)
theorem ok_C_spec_l1Some : OkC CT 123 C_spec_l1Some := rcall_ok rfl ok_X_spec_l1Some

/-! ### spec.l1Draw -/
noncomputable def cf_spec_l1Draw : CallF := cfc 94 C_spec_l1Step (cfc 105 C_spec_l1Pick (cfc 106 C_spec_l1Next (cfc 123 C_spec_l1Some cfn)))
noncomputable def L_spec_l1Draw (k : Nat) : Nat → Nat → List Value → Mem → Option VM
  | q + 1, 0, [t0, t2, t3, t4, t5], m =>
    (lenX t4) |> bo fun t13 =>
    (binX .lss .no t5 t13) |> bo fun t14 =>
    brX t14
      (
        (ldS m 3 t3) |> bo fun t18 =>
        (ixaX 1 t4 t5) |> bo fun t21 =>
        (ld1 m t21) |> bo fun t22 =>
        (cvI .i64 t22) |> bo fun t23 =>
        (C_spec_l1Step [t18, t23] m) |> bo fun r7 =>
        (extX 0 r7.1) |> bo fun t25 =>
        (extX 1 r7.1) |> bo fun t26 =>
        (stX r7.2 3 t3 t26) |> bo fun m10 =>
        (binX .add .no t5 (.int .i64 1)) |> bo fun t16 =>
        cutK k m10 [t0] [t0, t2, t3, t4, t16] (L_spec_l1Draw k q 0))
      (
        (C_spec_l1Next [t0, (.int .i64 14)] m) |> bo fun r12 =>
        (binX .eql .no r12.1 (.int .i64 0)) |> bo fun t30 =>
        brX t30
          (
            (bslX r12.2 5 1 [.int .i64 0] [(0, 1, (.int .i64 (-1))), (1, 1, (.int .i64 0)), (2, 1, (.int .i64 1)), (3, 1, (.int .i64 2)), (4, 1, (.int .i64 3))]) |> bo fun r14 =>
            (C_spec_l1Pick [t0, r14.1] r14.2) |> bo fun r15 =>
            (fadX 0 t3) |> bo fun t34 =>
            (stX r15.2 1 t34 r15.1) |> bo fun m17 =>
            (ldS m17 3 t3) |> bo fun t41 =>
            (stX m17 3 t2 t41) |> bo fun m19 =>
            (resP (some 3) m19 t2) |> bo fun c20 =>
            retK k m19 [t0] c20)
          (
            (binX .eql .no r12.1 (.int .i64 1)) |> bo fun t36 =>
            brX t36
              (
                (bslX r12.2 7 1 [.int .i64 0] [(0, 1, (.int .i64 0)), (1, 1, (.int .i64 2)), (2, 1, (.int .i64 15)), (3, 1, (.int .i64 16)), (4, 1, (.int .i64 31)), (5, 1, (.int .i64 1023)), (6, 1, (.int .i64 1024))]) |> bo fun r22 =>
                (C_spec_l1Pick [t0, r22.1] r22.2) |> bo fun r23 =>
                (fadX 2 t3) |> bo fun t40 =>
                (stX r23.2 1 t40 r23.1) |> bo fun m25 =>
                (ldS m25 3 t3) |> bo fun t41 =>
                (stX m25 3 t2 t41) |> bo fun m27 =>
                (resP (some 3) m27 t2) |> bo fun c28 =>
                retK k m27 [t0] c28)
              (
                (ldS r12.2 3 t3) |> bo fun t41 =>
                (stX r12.2 3 t2 t41) |> bo fun m30 =>
                (resP (some 3) m30 t2) |> bo fun c31 =>
                retK k m30 [t0] c31)))
  | _, _, _, _ => none
noncomputable def J_spec_l1Draw (k q l : Nat) : List Value → Mem → Option VM := cond (Nat.beq l 4) (L_spec_l1Draw k q 0) (fun _ _ => none)
def LL_spec_l1Draw : List (Nat × List Tmp) := [(4, [0, 2, 3, 4, 5])]
noncomputable def X_spec_l1Draw : List Value → Mem → Option VM
  | [t0], m =>
    (alX m [.int .i64 0, .int .i64 0, .int .i64 0]) |> bo fun r1 =>
    (bldX [.int .i64 0, .int .i64 0, .int .i64 0] []) |> bo fun t6 =>
    (alX r1.2 [.int .i64 0, .int .i64 0, .int .i64 0]) |> bo fun r3 =>
    (stX r3.2 3 r3.1 t6) |> bo fun m4 =>
    (C_spec_l1Next [t0, (.int .i64 3)] m4) |> bo fun r5 =>
    (C_spec_l1Some [t0, r5.1] r5.2) |> bo fun r6 =>
    cutK m.length r6.2 [t0] [t0, r1.1, r3.1, r6.1, (.int .i64 0)] (L_spec_l1Draw m.length QQ 0)
  | _, _ => none
noncomputable def C_spec_l1Draw : List Value → Mem → Option VM := rcall X_spec_l1Draw
@[simp] theorem c_spec_l1Draw : C_spec_l1Draw = rcall X_spec_l1Draw := (rfl)
theorem cok_spec_l1Draw : codeOk CT Try.f104 (Try.f104.body.get rfl) = true := by kernel_rfl
theorem xe_spec_l1Draw (t0 : Value) (m : Mem) : ex CT cf_spec_l1Draw Try.f104 1 m.length LL_spec_l1Draw (J_spec_l1Draw m.length QQ) 400 [.code (Try.f104.body.get rfl)] (argsT 0 [t0]) m = X_spec_l1Draw [t0] m := by kernel_rfl
theorem okc_spec_l1Draw : CallOK CT cf_spec_l1Draw := cfc_ok ok_C_spec_l1Step (cfc_ok ok_C_spec_l1Pick (cfc_ok ok_C_spec_l1Next (cfc_ok ok_C_spec_l1Some cfn_ok)))
theorem le_spec_l1Draw_0 (k q : Nat) (t0 t2 t3 t4 t5 : Value) (m : Mem) : ex CT cf_spec_l1Draw Try.f104 1 k LL_spec_l1Draw (J_spec_l1Draw k q) 400 (atLoop Try.f104 0) [(0, t0), (2, t2), (3, t3), (4, t4), (5, t5)] m = J_spec_l1Draw k (q + 1) 4 [t0, t2, t3, t4, t5] m := by kernel_rfl
theorem gl_spec_l1Draw (k : Nat) : ∀ q i, i < 1 → GoodL CT k Try.f104 LL_spec_l1Draw (J_spec_l1Draw k q) (atLoop Try.f104 i)
  | 0, 0, _ => goodL_zero (l := 4) (by kernel_rfl) (fun vs m => by kernel_rfl)
  | 0, _ + 1, h => absurd h (by omega)
  | q + 1, 0, _ => goodL_succ (np := 1) (l := 4) (live := [0, 2, 3, 4, 5]) (n := 1) CT_ok rfl okc_spec_l1Draw (c := (Try.f104.body.get rfl)) rfl cok_spec_l1Draw (by kernel_rfl) (gl_spec_l1Draw k q) (by kernel_rfl) rfl (fun vs m r hl h => match vs, hl with
    | [t0, t2, t3, t4, t5], _ => (le_spec_l1Draw_0 k q t0 t2 t3 t4 t5 m).trans h)
  | _ + 1, _ + 1, h => absurd h (by omega)
theorem ok_X_spec_l1Draw : OkX CT 104 X_spec_l1Draw := OkX.of_ex (cf := cf_spec_l1Draw) (np := 1) (LL := LL_spec_l1Draw) (J := (fun k => J_spec_l1Draw k QQ)) CT_ok rfl Try.func104 rfl (Nat.le_of_ble_eq_true rfl) (by decide) cok_spec_l1Draw okc_spec_l1Draw (fun k => allLoops rfl (by kernel_rfl) (gl_spec_l1Draw k QQ)) (fun args m r h => match args, h with
    | [t0], h => ⟨rfl, (xe_spec_l1Draw t0 m).trans h⟩)
theorem ok_C_spec_l1Draw : OkC CT 104 C_spec_l1Draw := rcall_ok rfl ok_X_spec_l1Draw

/-! ### spec.DrawStepDecoder -/
noncomputable def cf_spec_DrawStepDecoder : CallF := cfc 100 C_spec_l1Source (cfc 104 C_spec_l1Draw (cfc 105 C_spec_l1Pick (cfc 106 C_spec_l1Next cfn)))
noncomputable def X_spec_DrawStepDecoder : List Value → Mem → Option VM
  | [t0], m =>
    (alX m [.int .i64 0, .int .i64 0, .int .i64 0]) |> bo fun r1 =>
    (C_spec_l1Source [t0] r1.2) |> bo fun r2 =>
    (C_spec_l1Draw [r2.1] r2.2) |> bo fun r3 =>
    (C_spec_l1Next [r2.1, (.int .i64 256)] r3.2) |> bo fun r4 =>
    (bslX r4.2 9 1 [.int .i64 0] [(0, 1, r4.1), (1, 1, (.int .i64 128)), (2, 1, (.int .i64 191)), (3, 1, (.int .i64 192)), (4, 1, (.int .i64 193)), (5, 1, (.int .i64 223)), (6, 1, (.int .i64 224)), (7, 1, (.int .i64 239)), (8, 1, (.int .i64 240))]) |> bo fun r5 =>
    (C_spec_l1Pick [r2.1, r5.1] r5.2) |> bo fun r6 =>
    (cvI .u8 r6.1) |> bo fun t14 =>
    (stX r6.2 3 r1.1 r3.1) |> bo fun m8 =>
    (resP (some 3) m8 r1.1) |> bo fun c9 =>
    retK m.length m8 [t0] (.tuple #[c9, t14])
  | _, _ => none
noncomputable def C_spec_DrawStepDecoder : List Value → Mem → Option VM := icall X_spec_DrawStepDecoder
@[simp] theorem c_spec_DrawStepDecoder : C_spec_DrawStepDecoder = icall X_spec_DrawStepDecoder := (rfl)
theorem cok_spec_DrawStepDecoder : codeOk CT Try.f55 (Try.f55.body.get rfl) = true := by kernel_rfl
theorem xe_spec_DrawStepDecoder (t0 : Value) (m : Mem) : ex CT cf_spec_DrawStepDecoder Try.f55 1 m.length [] (fun _ _ _ => none) 400 [.code (Try.f55.body.get rfl)] (argsT 0 [t0]) m = X_spec_DrawStepDecoder [t0] m := by kernel_rfl
theorem okc_spec_DrawStepDecoder : CallOK CT cf_spec_DrawStepDecoder := cfc_ok ok_C_spec_l1Source (cfc_ok ok_C_spec_l1Draw (cfc_ok ok_C_spec_l1Pick (cfc_ok ok_C_spec_l1Next cfn_ok)))
theorem ok_X_spec_DrawStepDecoder : OkX CT 55 X_spec_DrawStepDecoder := OkX.of_ex (cf := cf_spec_DrawStepDecoder) (np := 1) (LL := []) (J := (fun _ _ _ _ => none)) CT_ok rfl Try.func55 rfl (Nat.le_of_ble_eq_true rfl) (by decide) cok_spec_DrawStepDecoder okc_spec_DrawStepDecoder (fun k => noLoops rfl) (fun args m r h => match args, h with
    | [t0], h => ⟨rfl, (xe_spec_DrawStepDecoder t0 m).trans h⟩)
theorem ok_C_spec_DrawStepDecoder : OkC CT 55 C_spec_DrawStepDecoder := icall_ok rfl ok_X_spec_DrawStepDecoder

/-! ### impl.encode -/
noncomputable def cf_impl_encode : CallF := cfn
noncomputable def X_impl_encode : List Value → Mem → Option VM
  | [t0], m =>
    (binX .lss .no t0 (.int .i64 128)) |> bo fun t5 =>
    brX t5
      (
        (cvI .u8 t0) |> bo fun t7 =>
        (bslX m 1 1 [.int .u8 0] [(0, 1, t7)]) |> bo fun r3 =>
        retK m.length r3.2 [t0] r3.1)
      (
        (binX .lss .no t0 (.int .i64 2048)) |> bo fun t11 =>
        brX t11
          (
            (binX .shr .no t0 (.int .u64 6)) |> bo fun t13 =>
            (binX .add .no (.int .i64 192) t13) |> bo fun t14 =>
            (cvI .u8 t14) |> bo fun t15 =>
            (binX .and .no t0 (.int .i64 63)) |> bo fun t17 =>
            (binX .add .no (.int .i64 128) t17) |> bo fun t18 =>
            (cvI .u8 t18) |> bo fun t19 =>
            (bslX m 2 1 [.int .u8 0] [(0, 1, t15), (1, 1, t19)]) |> bo fun r11 =>
            retK m.length r11.2 [t0] r11.1)
          (
            (binX .shr .no t0 (.int .u64 12)) |> bo fun t22 =>
            (binX .add .no (.int .i64 224) t22) |> bo fun t23 =>
            (cvI .u8 t23) |> bo fun t24 =>
            (binX .shr .no t0 (.int .u64 6)) |> bo fun t26 =>
            (binX .and .no t26 (.int .i64 63)) |> bo fun t27 =>
            (binX .add .no (.int .i64 128) t27) |> bo fun t28 =>
            (cvI .u8 t28) |> bo fun t29 =>
            (binX .and .no t0 (.int .i64 63)) |> bo fun t31 =>
            (binX .add .no (.int .i64 128) t31) |> bo fun t32 =>
            (cvI .u8 t32) |> bo fun t33 =>
            (bslX m 3 1 [.int .u8 0] [(0, 1, t24), (1, 1, t29), (2, 1, t33)]) |> bo fun r22 =>
            retK m.length r22.2 [t0] r22.1))
  | _, _ => none
noncomputable def C_impl_encode : List Value → Mem → Option VM := fcall X_impl_encode
@[simp] theorem c_impl_encode : C_impl_encode = fcall X_impl_encode := (rfl)
theorem cok_impl_encode : codeOk CT Try.f108 (Try.f108.body.get rfl) = true := by kernel_rfl
theorem xe_impl_encode (t0 : Value) (m : Mem) : ex CT cf_impl_encode Try.f108 1 m.length [] (fun _ _ _ => none) 400 [.code (Try.f108.body.get rfl)] (argsT 0 [t0]) m = X_impl_encode [t0] m := by kernel_rfl
theorem okc_impl_encode : CallOK CT cf_impl_encode := cfn_ok
theorem ok_X_impl_encode : OkX CT 108 X_impl_encode := OkX.of_ex (cf := cf_impl_encode) (np := 1) (LL := []) (J := (fun _ _ _ _ => none)) CT_ok rfl Try.func108 rfl (Nat.le_of_ble_eq_true rfl) (by decide) cok_impl_encode okc_impl_encode (fun k => noLoops rfl) (fun args m r h => match args, h with
    | [t0], h => ⟨rfl, (xe_impl_encode t0 m).trans h⟩)
theorem ok_C_impl_encode : OkC CT 108 C_impl_encode := fcall_ok rfl ok_X_impl_encode

/-! ### impl.EncodeChar -/
noncomputable def cf_impl_EncodeChar : CallF := cfc 107 C_impl_isChar (cfc 108 C_impl_encode cfn)
noncomputable def X_impl_EncodeChar : List Value → Mem → Option VM
  | [t0], m =>
    (alX m [.int .i64 0, .slice none 0 0]) |> bo fun r1 =>
    (C_impl_isChar [t0] r1.2) |> bo fun r2 =>
    (uop .not r2.1) |> bo fun t5 =>
    brX t5
      (
        (bldX [.int .i64 0, .slice none 0 0] [(0, 1, (.int .i64 3))]) |> bo fun t6 =>
        (stX r2.2 2 r1.1 t6) |> bo fun m5 =>
        (resP (some 2) m5 r1.1) |> bo fun c6 =>
        retK m.length m5 [t0] c6)
      (
        (C_impl_encode [t0] r2.2) |> bo fun r7 =>
        (bldX [.int .i64 0, .slice none 0 0] [(0, 1, (.int .i64 0)), (1, 1, r7.1)]) |> bo fun t9 =>
        (stX r7.2 2 r1.1 t9) |> bo fun m9 =>
        (resP (some 2) m9 r1.1) |> bo fun c10 =>
        retK m.length m9 [t0] c10)
  | _, _ => none
noncomputable def C_impl_EncodeChar : List Value → Mem → Option VM := icall X_impl_EncodeChar
@[simp] theorem c_impl_EncodeChar : C_impl_EncodeChar = icall X_impl_EncodeChar := (rfl)
theorem cok_impl_EncodeChar : codeOk CT Try.f57 (Try.f57.body.get rfl) = true := by kernel_rfl
theorem xe_impl_EncodeChar (t0 : Value) (m : Mem) : ex CT cf_impl_EncodeChar Try.f57 1 m.length [] (fun _ _ _ => none) 400 [.code (Try.f57.body.get rfl)] (argsT 0 [t0]) m = X_impl_EncodeChar [t0] m := by kernel_rfl
theorem okc_impl_EncodeChar : CallOK CT cf_impl_EncodeChar := cfc_ok ok_C_impl_isChar (cfc_ok ok_C_impl_encode cfn_ok)
theorem ok_X_impl_EncodeChar : OkX CT 57 X_impl_EncodeChar := OkX.of_ex (cf := cf_impl_EncodeChar) (np := 1) (LL := []) (J := (fun _ _ _ _ => none)) CT_ok rfl Try.func57 rfl (Nat.le_of_ble_eq_true rfl) (by decide) cok_impl_EncodeChar okc_impl_EncodeChar (fun k => noLoops rfl) (fun args m r h => match args, h with
    | [t0], h => ⟨rfl, (xe_impl_EncodeChar t0 m).trans h⟩)
theorem ok_C_impl_EncodeChar : OkC CT 57 C_impl_EncodeChar := icall_ok rfl ok_X_impl_EncodeChar

/-! ### spec.DrawEncodeChar -/
noncomputable def cf_spec_DrawEncodeChar : CallF := cfc 100 C_spec_l1Source (cfc 105 C_spec_l1Pick (cfc 106 C_spec_l1Next cfn))
noncomputable def X_spec_DrawEncodeChar : List Value → Mem → Option VM
  | [t0], m =>
    (C_spec_l1Source [t0] m) |> bo fun r1 =>
    (C_spec_l1Next [r1.1, (.int .i64 300)] r1.2) |> bo fun r2 =>
    (bslX r2.2 12 1 [.int .i64 0] [(0, 1, r2.1), (1, 1, (.int .i64 127)), (2, 1, (.int .i64 128)), (3, 1, (.int .i64 2047)), (4, 1, (.int .i64 2048)), (5, 1, (.int .i64 55295)), (6, 1, (.int .i64 55296)), (7, 1, (.int .i64 57343)), (8, 1, (.int .i64 57344)), (9, 1, (.int .i64 65535)), (10, 1, (.int .i64 65536)), (11, 1, (.int .i64 (-1)))]) |> bo fun r3 =>
    (C_spec_l1Pick [r1.1, r3.1] r3.2) |> bo fun r4 =>
    retK m.length r4.2 [t0] r4.1
  | _, _ => none
noncomputable def C_spec_DrawEncodeChar : List Value → Mem → Option VM := icall X_spec_DrawEncodeChar
@[simp] theorem c_spec_DrawEncodeChar : C_spec_DrawEncodeChar = icall X_spec_DrawEncodeChar := (rfl)
theorem cok_spec_DrawEncodeChar : codeOk CT Try.f58 (Try.f58.body.get rfl) = true := by kernel_rfl
theorem xe_spec_DrawEncodeChar (t0 : Value) (m : Mem) : ex CT cf_spec_DrawEncodeChar Try.f58 1 m.length [] (fun _ _ _ => none) 400 [.code (Try.f58.body.get rfl)] (argsT 0 [t0]) m = X_spec_DrawEncodeChar [t0] m := by kernel_rfl
theorem okc_spec_DrawEncodeChar : CallOK CT cf_spec_DrawEncodeChar := cfc_ok ok_C_spec_l1Source (cfc_ok ok_C_spec_l1Pick (cfc_ok ok_C_spec_l1Next cfn_ok))
theorem ok_X_spec_DrawEncodeChar : OkX CT 58 X_spec_DrawEncodeChar := OkX.of_ex (cf := cf_spec_DrawEncodeChar) (np := 1) (LL := []) (J := (fun _ _ _ _ => none)) CT_ok rfl Try.func58 rfl (Nat.le_of_ble_eq_true rfl) (by decide) cok_spec_DrawEncodeChar okc_spec_DrawEncodeChar (fun k => noLoops rfl) (fun args m r h => match args, h with
    | [t0], h => ⟨rfl, (xe_spec_DrawEncodeChar t0 m).trans h⟩)
theorem ok_C_spec_DrawEncodeChar : OkC CT 58 C_spec_DrawEncodeChar := icall_ok rfl ok_X_spec_DrawEncodeChar

/-! ### spec.DrawEndDecoder -/
noncomputable def cf_spec_DrawEndDecoder : CallF := cfc 100 C_spec_l1Source (cfc 104 C_spec_l1Draw cfn)
noncomputable def X_spec_DrawEndDecoder : List Value → Mem → Option VM
  | [t0], m =>
    (alX m [.int .i64 0, .int .i64 0, .int .i64 0]) |> bo fun r1 =>
    (C_spec_l1Source [t0] r1.2) |> bo fun r2 =>
    (C_spec_l1Draw [r2.1] r2.2) |> bo fun r3 =>
    (stX r3.2 3 r1.1 r3.1) |> bo fun m4 =>
    (resP (some 3) m4 r1.1) |> bo fun c5 =>
    retK m.length m4 [t0] c5
  | _, _ => none
noncomputable def C_spec_DrawEndDecoder : List Value → Mem → Option VM := icall X_spec_DrawEndDecoder
@[simp] theorem c_spec_DrawEndDecoder : C_spec_DrawEndDecoder = icall X_spec_DrawEndDecoder := (rfl)
theorem cok_spec_DrawEndDecoder : codeOk CT Try.f59 (Try.f59.body.get rfl) = true := by kernel_rfl
theorem xe_spec_DrawEndDecoder (t0 : Value) (m : Mem) : ex CT cf_spec_DrawEndDecoder Try.f59 1 m.length [] (fun _ _ _ => none) 400 [.code (Try.f59.body.get rfl)] (argsT 0 [t0]) m = X_spec_DrawEndDecoder [t0] m := by kernel_rfl
theorem okc_spec_DrawEndDecoder : CallOK CT cf_spec_DrawEndDecoder := cfc_ok ok_C_spec_l1Source (cfc_ok ok_C_spec_l1Draw cfn_ok)
theorem ok_X_spec_DrawEndDecoder : OkX CT 59 X_spec_DrawEndDecoder := OkX.of_ex (cf := cf_spec_DrawEndDecoder) (np := 1) (LL := []) (J := (fun _ _ _ _ => none)) CT_ok rfl Try.func59 rfl (Nat.le_of_ble_eq_true rfl) (by decide) cok_spec_DrawEndDecoder okc_spec_DrawEndDecoder (fun k => noLoops rfl) (fun args m r h => match args, h with
    | [t0], h => ⟨rfl, (xe_spec_DrawEndDecoder t0 m).trans h⟩)
theorem ok_C_spec_DrawEndDecoder : OkC CT 59 C_spec_DrawEndDecoder := icall_ok rfl ok_X_spec_DrawEndDecoder

/-! ### impl.EndDecoder -/
noncomputable def cf_impl_EndDecoder : CallF := cfc 56 C_impl_DecoderFault cfn
noncomputable def X_impl_EndDecoder : List Value → Mem → Option VM
  | [t0], m =>
    (boxX m t0) |> bo fun r1 =>
    (alX r1.2 [.int .i64 0, .slice none 0 0]) |> bo fun r2 =>
    (ldS r2.2 3 r1.1) |> bo fun t4 =>
    (C_impl_DecoderFault [t4] r2.2) |> bo fun r4 =>
    (binX .neq .no r4.1 (.int .i64 0)) |> bo fun t7 =>
    brX t7
      (
        (bldX [.int .i64 0, .slice none 0 0] [(0, 1, r4.1)]) |> bo fun t9 =>
        (stX r4.2 2 r2.1 t9) |> bo fun m7 =>
        (resP (some 2) m7 r2.1) |> bo fun c8 =>
        retK m.length m7 [t0] c8)
      (
        (fadX 0 r1.1) |> bo fun t10 =>
        (ld1 r4.2 t10) |> bo fun t11 =>
        (binX .gtr .no t11 (.int .i64 0)) |> bo fun t12 =>
        brX t12
          (
            (bslX r4.2 1 1 [.int .i64 0] [(0, 1, (.int .i64 65533))]) |> bo fun r12 =>
            (bldX [.int .i64 0, .slice none 0 0] [(0, 1, (.int .i64 0)), (1, 1, r12.1)]) |> bo fun t14 =>
            (stX r12.2 2 r2.1 t14) |> bo fun m14 =>
            (resP (some 2) m14 r2.1) |> bo fun c15 =>
            retK m.length m14 [t0] c15)
          (
            (bldX [.int .i64 0, .slice none 0 0] []) |> bo fun t15 =>
            (stX r4.2 2 r2.1 t15) |> bo fun m17 =>
            (resP (some 2) m17 r2.1) |> bo fun c18 =>
            retK m.length m17 [t0] c18))
  | _, _ => none
noncomputable def C_impl_EndDecoder : List Value → Mem → Option VM := icall X_impl_EndDecoder
@[simp] theorem c_impl_EndDecoder : C_impl_EndDecoder = icall X_impl_EndDecoder := (rfl)
theorem cok_impl_EndDecoder : codeOk CT Try.f60 (Try.f60.body.get rfl) = true := by kernel_rfl
theorem xe_impl_EndDecoder (t0 : Value) (m : Mem) : ex CT cf_impl_EndDecoder Try.f60 1 m.length [] (fun _ _ _ => none) 400 [.code (Try.f60.body.get rfl)] (argsT 0 [t0]) m = X_impl_EndDecoder [t0] m := by kernel_rfl
theorem okc_impl_EndDecoder : CallOK CT cf_impl_EndDecoder := cfc_ok ok_C_impl_DecoderFault cfn_ok
theorem ok_X_impl_EndDecoder : OkX CT 60 X_impl_EndDecoder := OkX.of_ex (cf := cf_impl_EndDecoder) (np := 1) (LL := []) (J := (fun _ _ _ _ => none)) CT_ok rfl Try.func60 rfl (Nat.le_of_ble_eq_true rfl) (by decide) cok_impl_EndDecoder okc_impl_EndDecoder (fun k => noLoops rfl) (fun args m r h => match args, h with
    | [t0], h => ⟨rfl, (xe_impl_EndDecoder t0 m).trans h⟩)
theorem ok_C_impl_EndDecoder : OkC CT 60 C_impl_EndDecoder := icall_ok rfl ok_X_impl_EndDecoder

/-! ### spec.l1Encode -/
noncomputable def cf_spec_l1Encode : CallF := cfn
noncomputable def X_spec_l1Encode : List Value → Mem → Option VM
  | [t0], m =>
    (binX .lss .no t0 (.int .i64 128)) |> bo fun t4 =>
    brX t4
      (
        (cvI .u8 t0) |> bo fun t6 =>
        (bslX m 1 1 [.int .u8 0] [(0, 1, t6)]) |> bo fun r3 =>
        retK m.length r3.2 [t0] r3.1)
      (
        (binX .lss .no t0 (.int .i64 2048)) |> bo fun t9 =>
        brX t9
          (
            (binX .quo .no t0 (.int .i64 64)) |> bo fun t11 =>
            (binX .add .no (.int .i64 192) t11) |> bo fun t12 =>
            (cvI .u8 t12) |> bo fun t13 =>
            (binX .rem .no t0 (.int .i64 64)) |> bo fun t15 =>
            (binX .add .no (.int .i64 128) t15) |> bo fun t16 =>
            (cvI .u8 t16) |> bo fun t17 =>
            (bslX m 2 1 [.int .u8 0] [(0, 1, t13), (1, 1, t17)]) |> bo fun r11 =>
            retK m.length r11.2 [t0] r11.1)
          (
            (binX .quo .no t0 (.int .i64 4096)) |> bo fun t20 =>
            (binX .add .no (.int .i64 224) t20) |> bo fun t21 =>
            (cvI .u8 t21) |> bo fun t22 =>
            (binX .quo .no t0 (.int .i64 64)) |> bo fun t24 =>
            (binX .rem .no t24 (.int .i64 64)) |> bo fun t25 =>
            (binX .add .no (.int .i64 128) t25) |> bo fun t26 =>
            (cvI .u8 t26) |> bo fun t27 =>
            (binX .rem .no t0 (.int .i64 64)) |> bo fun t29 =>
            (binX .add .no (.int .i64 128) t29) |> bo fun t30 =>
            (cvI .u8 t30) |> bo fun t31 =>
            (bslX m 3 1 [.int .u8 0] [(0, 1, t22), (1, 1, t27), (2, 1, t31)]) |> bo fun r22 =>
            retK m.length r22.2 [t0] r22.1))
  | _, _ => none
noncomputable def C_spec_l1Encode : List Value → Mem → Option VM := fcall X_spec_l1Encode
@[simp] theorem c_spec_l1Encode : C_spec_l1Encode = fcall X_spec_l1Encode := (rfl)
theorem cok_spec_l1Encode : codeOk CT Try.f110 (Try.f110.body.get rfl) = true := by kernel_rfl
theorem xe_spec_l1Encode (t0 : Value) (m : Mem) : ex CT cf_spec_l1Encode Try.f110 1 m.length [] (fun _ _ _ => none) 400 [.code (Try.f110.body.get rfl)] (argsT 0 [t0]) m = X_spec_l1Encode [t0] m := by kernel_rfl
theorem okc_spec_l1Encode : CallOK CT cf_spec_l1Encode := cfn_ok
theorem ok_X_spec_l1Encode : OkX CT 110 X_spec_l1Encode := OkX.of_ex (cf := cf_spec_l1Encode) (np := 1) (LL := []) (J := (fun _ _ _ _ => none)) CT_ok rfl Try.func110 rfl (Nat.le_of_ble_eq_true rfl) (by decide) cok_spec_l1Encode okc_spec_l1Encode (fun k => noLoops rfl) (fun args m r h => match args, h with
    | [t0], h => ⟨rfl, (xe_spec_l1Encode t0 m).trans h⟩)
theorem ok_C_spec_l1Encode : OkC CT 110 C_spec_l1Encode := fcall_ok rfl ok_X_spec_l1Encode

/-! ### spec.EncodeChar -/
noncomputable def cf_spec_EncodeChar : CallF := cfc 109 C_spec_l1Char (cfc 110 C_spec_l1Encode cfn)
noncomputable def X_spec_EncodeChar : List Value → Mem → Option VM
  | [t0], m =>
    (alX m [.int .i64 0, .slice none 0 0]) |> bo fun r1 =>
    (C_spec_l1Char [t0] r1.2) |> bo fun r2 =>
    (uop .not r2.1) |> bo fun t5 =>
    brX t5
      (
        (bldX [.int .i64 0, .slice none 0 0] [(0, 1, (.int .i64 3))]) |> bo fun t6 =>
        (stX r2.2 2 r1.1 t6) |> bo fun m5 =>
        (resP (some 2) m5 r1.1) |> bo fun c6 =>
        retK m.length m5 [t0] c6)
      (
        (C_spec_l1Encode [t0] r2.2) |> bo fun r7 =>
        (bldX [.int .i64 0, .slice none 0 0] [(1, 1, r7.1)]) |> bo fun t9 =>
        (stX r7.2 2 r1.1 t9) |> bo fun m9 =>
        (resP (some 2) m9 r1.1) |> bo fun c10 =>
        retK m.length m9 [t0] c10)
  | _, _ => none
noncomputable def C_spec_EncodeChar : List Value → Mem → Option VM := icall X_spec_EncodeChar
@[simp] theorem c_spec_EncodeChar : C_spec_EncodeChar = icall X_spec_EncodeChar := (rfl)
theorem cok_spec_EncodeChar : codeOk CT Try.f61 (Try.f61.body.get rfl) = true := by kernel_rfl
theorem xe_spec_EncodeChar (t0 : Value) (m : Mem) : ex CT cf_spec_EncodeChar Try.f61 1 m.length [] (fun _ _ _ => none) 400 [.code (Try.f61.body.get rfl)] (argsT 0 [t0]) m = X_spec_EncodeChar [t0] m := by kernel_rfl
theorem okc_spec_EncodeChar : CallOK CT cf_spec_EncodeChar := cfc_ok ok_C_spec_l1Char (cfc_ok ok_C_spec_l1Encode cfn_ok)
theorem ok_X_spec_EncodeChar : OkX CT 61 X_spec_EncodeChar := OkX.of_ex (cf := cf_spec_EncodeChar) (np := 1) (LL := []) (J := (fun _ _ _ _ => none)) CT_ok rfl Try.func61 rfl (Nat.le_of_ble_eq_true rfl) (by decide) cok_spec_EncodeChar okc_spec_EncodeChar (fun k => noLoops rfl) (fun args m r h => match args, h with
    | [t0], h => ⟨rfl, (xe_spec_EncodeChar t0 m).trans h⟩)
theorem ok_C_spec_EncodeChar : OkC CT 61 C_spec_EncodeChar := icall_ok rfl ok_X_spec_EncodeChar

/-! ### spec.EndDecoder -/
noncomputable def cf_spec_EndDecoder : CallF := cfc 93 C_spec_l1Fault cfn
noncomputable def X_spec_EndDecoder : List Value → Mem → Option VM
  | [t0], m =>
    (boxX m t0) |> bo fun r1 =>
    (alX r1.2 [.int .i64 0, .slice none 0 0]) |> bo fun r2 =>
    (C_spec_l1Fault [r1.1] r2.2) |> bo fun r3 =>
    (binX .neq .no r3.1 (.int .i64 0)) |> bo fun t6 =>
    brX t6
      (
        (bldX [.int .i64 0, .slice none 0 0] [(0, 1, r3.1)]) |> bo fun t8 =>
        (stX r3.2 2 r2.1 t8) |> bo fun m6 =>
        (resP (some 2) m6 r2.1) |> bo fun c7 =>
        retK m.length m6 [t0] c7)
      (
        (fadX 0 r1.1) |> bo fun t9 =>
        (ld1 r3.2 t9) |> bo fun t10 =>
        (binX .gtr .no t10 (.int .i64 0)) |> bo fun t11 =>
        brX t11
          (
            (bslX r3.2 1 1 [.int .i64 0] [(0, 1, (.int .i64 65533))]) |> bo fun r11 =>
            (bldX [.int .i64 0, .slice none 0 0] [(1, 1, r11.1)]) |> bo fun t13 =>
            (stX r11.2 2 r2.1 t13) |> bo fun m13 =>
            (resP (some 2) m13 r2.1) |> bo fun c14 =>
            retK m.length m13 [t0] c14)
          (
            (bldX [.int .i64 0, .slice none 0 0] []) |> bo fun t14 =>
            (stX r3.2 2 r2.1 t14) |> bo fun m16 =>
            (resP (some 2) m16 r2.1) |> bo fun c17 =>
            retK m.length m16 [t0] c17))
  | _, _ => none
noncomputable def C_spec_EndDecoder : List Value → Mem → Option VM := icall X_spec_EndDecoder
@[simp] theorem c_spec_EndDecoder : C_spec_EndDecoder = icall X_spec_EndDecoder := (rfl)
theorem cok_spec_EndDecoder : codeOk CT Try.f62 (Try.f62.body.get rfl) = true := by kernel_rfl
theorem xe_spec_EndDecoder (t0 : Value) (m : Mem) : ex CT cf_spec_EndDecoder Try.f62 1 m.length [] (fun _ _ _ => none) 400 [.code (Try.f62.body.get rfl)] (argsT 0 [t0]) m = X_spec_EndDecoder [t0] m := by kernel_rfl
theorem okc_spec_EndDecoder : CallOK CT cf_spec_EndDecoder := cfc_ok ok_C_spec_l1Fault cfn_ok
theorem ok_X_spec_EndDecoder : OkX CT 62 X_spec_EndDecoder := OkX.of_ex (cf := cf_spec_EndDecoder) (np := 1) (LL := []) (J := (fun _ _ _ _ => none)) CT_ok rfl Try.func62 rfl (Nat.le_of_ble_eq_true rfl) (by decide) cok_spec_EndDecoder okc_spec_EndDecoder (fun k => noLoops rfl) (fun args m r h => match args, h with
    | [t0], h => ⟨rfl, (xe_spec_EndDecoder t0 m).trans h⟩)
theorem ok_C_spec_EndDecoder : OkC CT 62 C_spec_EndDecoder := icall_ok rfl ok_X_spec_EndDecoder

/-! ### laws.lwNums -/
noncomputable def cf_laws_lwNums : CallF := cfn
noncomputable def L_laws_lwNums (k : Nat) : Nat → Nat → List Value → Mem → Option VM
  | q + 1, 0, [t0, t1, t5], m =>
    (lenX t0) |> bo fun t13 =>
    (binX .lss .no t5 t13) |> bo fun t14 =>
    brX t14
      (
        (ixaX 1 t0 t5) |> bo fun t19 =>
        (ld1 m t19) |> bo fun t20 =>
        (ixaX 1 t1 t5) |> bo fun t23 =>
        (ld1 m t23) |> bo fun t24 =>
        (binX .neq .no t20 t24) |> bo fun t25 =>
        brX t25
          (
            retK k m [t0, t1] (.bool false))
          (
            (binX .add .no t5 (.int .i64 1)) |> bo fun t16 =>
            cutK k m [t0, t1] [t0, t1, t16] (L_laws_lwNums k q 0)))
      (
        retK k m [t0, t1] (.bool true))
  | _, _, _, _ => none
noncomputable def J_laws_lwNums (k q l : Nat) : List Value → Mem → Option VM := cond (Nat.beq l 4) (L_laws_lwNums k q 0) (fun _ _ => none)
def LL_laws_lwNums : List (Nat × List Tmp) := [(4, [0, 1, 5])]
noncomputable def X_laws_lwNums : List Value → Mem → Option VM
  | [t0, t1], m =>
    (lenX t0) |> bo fun t7 =>
    (lenX t1) |> bo fun t9 =>
    (binX .neq .no t7 t9) |> bo fun t10 =>
    brX t10
      (
        retK m.length m [t0, t1] (.bool false))
      (
        cutK m.length m [t0, t1] [t0, t1, (.int .i64 0)] (L_laws_lwNums m.length QQ 0))
  | _, _ => none
noncomputable def C_laws_lwNums : List Value → Mem → Option VM := fcall X_laws_lwNums
@[simp] theorem c_laws_lwNums : C_laws_lwNums = fcall X_laws_lwNums := (rfl)
theorem cok_laws_lwNums : codeOk CT Try.f63 (Try.f63.body.get rfl) = true := by kernel_rfl
theorem xe_laws_lwNums (t0 t1 : Value) (m : Mem) : ex CT cf_laws_lwNums Try.f63 2 m.length LL_laws_lwNums (J_laws_lwNums m.length QQ) 400 [.code (Try.f63.body.get rfl)] (argsT 0 [t0, t1]) m = X_laws_lwNums [t0, t1] m := by kernel_rfl
theorem okc_laws_lwNums : CallOK CT cf_laws_lwNums := cfn_ok
theorem le_laws_lwNums_0 (k q : Nat) (t0 t1 t5 : Value) (m : Mem) : ex CT cf_laws_lwNums Try.f63 2 k LL_laws_lwNums (J_laws_lwNums k q) 400 (atLoop Try.f63 0) [(0, t0), (1, t1), (5, t5)] m = J_laws_lwNums k (q + 1) 4 [t0, t1, t5] m := by kernel_rfl
theorem gl_laws_lwNums (k : Nat) : ∀ q i, i < 1 → GoodL CT k Try.f63 LL_laws_lwNums (J_laws_lwNums k q) (atLoop Try.f63 i)
  | 0, 0, _ => goodL_zero (l := 4) (by kernel_rfl) (fun vs m => by kernel_rfl)
  | 0, _ + 1, h => absurd h (by omega)
  | q + 1, 0, _ => goodL_succ (np := 2) (l := 4) (live := [0, 1, 5]) (n := 1) CT_ok rfl okc_laws_lwNums (c := (Try.f63.body.get rfl)) rfl cok_laws_lwNums (by kernel_rfl) (gl_laws_lwNums k q) (by kernel_rfl) rfl (fun vs m r hl h => match vs, hl with
    | [t0, t1, t5], _ => (le_laws_lwNums_0 k q t0 t1 t5 m).trans h)
  | _ + 1, _ + 1, h => absurd h (by omega)
theorem ok_X_laws_lwNums : OkX CT 63 X_laws_lwNums := OkX.of_ex (cf := cf_laws_lwNums) (np := 2) (LL := LL_laws_lwNums) (J := (fun k => J_laws_lwNums k QQ)) CT_ok rfl Try.func63 rfl (Nat.le_of_ble_eq_true rfl) (by decide) cok_laws_lwNums okc_laws_lwNums (fun k => allLoops rfl (by kernel_rfl) (gl_laws_lwNums k QQ)) (fun args m r h => match args, h with
    | [t0, t1], h => ⟨rfl, (xe_laws_lwNums t0 t1 m).trans h⟩)
theorem ok_C_laws_lwNums : OkC CT 63 C_laws_lwNums := fcall_ok rfl ok_X_laws_lwNums

/-! ### laws.FnBytes -/
noncomputable def cf_laws_FnBytes : CallF := cfc 43 C_spec_StepDecoder (cfc 45 C_impl_StepDecoder (cfc 49 C_laws_lwBig (cfc 55 C_spec_DrawStepDecoder (cfc 56 C_impl_DecoderFault (cfc 57 C_impl_EncodeChar (cfc 58 C_spec_DrawEncodeChar (cfc 59 C_spec_DrawEndDecoder (cfc 60 C_impl_EndDecoder (cfc 61 C_spec_EncodeChar (cfc 62 C_spec_EndDecoder (cfc 63 C_laws_lwNums cfn)))))))))))
noncomputable def L_laws_FnBytes (k : Nat) : Nat → Nat → List Value → Mem → Option VM
  | q + 1, 0, [t0, t3, t4, t5, t6], m =>
    (fadX 1 t5) |> bo fun t38 =>
    (ld1 m t38) |> bo fun t39 =>
    (lenX t39) |> bo fun t40 =>
    (binX .lss .no t6 t40) |> bo fun t41 =>
    brX t41
      (
        (fadX 1 t5) |> bo fun t44 =>
        (ld1 m t44) |> bo fun t45 =>
        (ixaX 1 t45 t6) |> bo fun t47 =>
        (ld1 m t47) |> bo fun t48 =>
        (C_impl_EncodeChar [t48] m) |> bo fun r9 =>
        (fld1 0 r9.1) |> bo fun t50 =>
        (binX .neq .no t50 (.int .i64 0)) |> bo fun t51 =>
        brX t51
          (
            retK k r9.2 [t0] (.bool false))
          (
            (binX .add .no t6 (.int .i64 1)) |> bo fun t43 =>
            cutK k r9.2 [t0] [t0, t3, t4, t5, t43] (L_laws_FnBytes k q 0)))
      (
        (C_spec_DrawEncodeChar [t0] m) |> bo fun r13 =>
        (C_spec_DrawEndDecoder [t0] r13.2) |> bo fun r14 =>
        (alX r14.2 [.int .i64 0, .int .i64 0, .int .i64 0]) |> bo fun r15 =>
        (stX r15.2 3 r15.1 r14.1) |> bo fun m16 =>
        (ldS m16 3 r15.1) |> bo fun t56 =>
        (C_impl_EndDecoder [t56] m16) |> bo fun r18 =>
        (alX r18.2 [.int .i64 0, .slice none 0 0]) |> bo fun r19 =>
        (stX r19.2 2 r19.1 r18.1) |> bo fun m20 =>
        (fadX 1 t5) |> bo fun t58 =>
        (ld1 m20 t58) |> bo fun t59 =>
        (lenX t59) |> bo fun t60 =>
        (binX .gtr .no t60 (.int .i64 0)) |> bo fun t61 =>
        (gd t61 false ((fadX 2 t5) |> bo fun v => some (v, m20)) m20) |> bo fun r25 =>
        (gd t61 false ((fadX 0 r25.1) |> bo fun v => some (v, r25.2)) r25.2) |> bo fun r26 =>
        (gd t61 false ((ld1 r26.2 r26.1) |> bo fun v => some (v, r26.2)) r26.2) |> bo fun r27 =>
        (gd t61 false ((binX .gtr .no r27.1 (.int .i64 0)) |> bo fun v => some (v, r27.2)) r27.2) |> bo fun r28 =>
        (pickX t61 (.bool true) r28.1) |> bo fun t67 =>
        (gd t67 true ((fadX 1 t5) |> bo fun v => some (v, r28.2)) r28.2) |> bo fun r30 =>
        (gd t67 true ((ld1 r30.2 r30.1) |> bo fun v => some (v, r30.2)) r30.2) |> bo fun r31 =>
        (gd t67 true ((lenX r31.1) |> bo fun v => some (v, r31.2)) r31.2) |> bo fun r32 =>
        (gd t67 true ((binX .leq .no r32.1 (.int .i64 2)) |> bo fun v => some (v, r32.2)) r32.2) |> bo fun r33 =>
        (pickX t67 r33.1 (.bool false)) |> bo fun t73 =>
        (gd t73 true ((fadX 2 t5) |> bo fun v => some (v, r33.2)) r33.2) |> bo fun r35 =>
        (gd t73 true ((ldS r35.2 3 r35.1) |> bo fun v => some (v, r35.2)) r35.2) |> bo fun r36 =>
        (gd t73 true ((C_impl_DecoderFault [r36.1] r36.2) |> bo fun r => some (r.1, r.2)) r36.2) |> bo fun r37 =>
        (gd t73 true ((binX .eql .no r37.1 (.int .i64 0)) |> bo fun v => some (v, r37.2)) r37.2) |> bo fun r38 =>
        (pickX t73 r38.1 (.bool false)) |> bo fun t79 =>
        (gd t79 true (some (r13.1, r38.2)) r38.2) |> bo fun r40 =>
        (gd t79 true ((C_impl_EncodeChar [r40.1] r40.2) |> bo fun r => some (r.1, r.2)) r40.2) |> bo fun r41 =>
        (gd t79 true ((fld1 0 r41.1) |> bo fun v => some (v, r41.2)) r41.2) |> bo fun r42 =>
        (gd t79 true (some (r13.1, r42.2)) r42.2) |> bo fun r43 =>
        (gd t79 true ((C_spec_EncodeChar [r43.1] r43.2) |> bo fun r => some (r.1, r.2)) r43.2) |> bo fun r44 =>
        (gd t79 true ((fld1 0 r44.1) |> bo fun v => some (v, r44.2)) r44.2) |> bo fun r45 =>
        (gd t79 true ((binX .eql .no r42.1 r45.1) |> bo fun v => some (v, r45.2)) r45.2) |> bo fun r46 =>
        (pickX t79 r46.1 (.bool false)) |> bo fun t88 =>
        (gd t88 true ((fadX 0 r19.1) |> bo fun v => some (v, r46.2)) r46.2) |> bo fun r48 =>
        (gd t88 true ((ld1 r48.2 r48.1) |> bo fun v => some (v, r48.2)) r48.2) |> bo fun r49 =>
        (gd t88 true ((ldS r49.2 3 r15.1) |> bo fun v => some (v, r49.2)) r49.2) |> bo fun r50 =>
        (gd t88 true ((C_spec_EndDecoder [r50.1] r50.2) |> bo fun r => some (r.1, r.2)) r50.2) |> bo fun r51 =>
        (gd t88 true ((fld1 0 r51.1) |> bo fun v => some (v, r51.2)) r51.2) |> bo fun r52 =>
        (gd t88 true ((binX .eql .no r49.1 r52.1) |> bo fun v => some (v, r52.2)) r52.2) |> bo fun r53 =>
        (pickX t88 r53.1 (.bool false)) |> bo fun t96 =>
        (gd t96 true ((fadX 1 r19.1) |> bo fun v => some (v, r53.2)) r53.2) |> bo fun r55 =>
        (gd t96 true ((ld1 r55.2 r55.1) |> bo fun v => some (v, r55.2)) r55.2) |> bo fun r56 =>
        (gd t96 true ((ldS r56.2 3 r15.1) |> bo fun v => some (v, r56.2)) r56.2) |> bo fun r57 =>
        (gd t96 true ((C_spec_EndDecoder [r57.1] r57.2) |> bo fun r => some (r.1, r.2)) r57.2) |> bo fun r58 =>
        (gd t96 true ((fld1 1 r58.1) |> bo fun v => some (v, r58.2)) r58.2) |> bo fun r59 =>
        (gd t96 true ((C_laws_lwNums [r56.1, r59.1] r59.2) |> bo fun r => some (r.1, r.2)) r59.2) |> bo fun r60 =>
        (pickX t96 r60.1 (.bool false)) |> bo fun t104 =>
        (gd t104 true ((fadX 1 t5) |> bo fun v => some (v, r60.2)) r60.2) |> bo fun r62 =>
        (gd t104 true ((ld1 r62.2 r62.1) |> bo fun v => some (v, r62.2)) r62.2) |> bo fun r63 =>
        (gd t104 true ((ldS r63.2 3 t3) |> bo fun v => some (v, r63.2)) r63.2) |> bo fun r64 =>
        (gd t104 true (some (t4, r64.2)) r64.2) |> bo fun r65 =>
        (gd t104 true ((C_spec_StepDecoder [r64.1, r65.1] r65.2) |> bo fun r => some (r.1, r.2)) r65.2) |> bo fun r66 =>
        (gd t104 true ((fld1 1 r66.1) |> bo fun v => some (v, r66.2)) r66.2) |> bo fun r67 =>
        (gd t104 true ((C_laws_lwNums [r63.1, r67.1] r67.2) |> bo fun r => some (r.1, r.2)) r67.2) |> bo fun r68 =>
        (pickX t104 r68.1 (.bool false)) |> bo fun t113 =>
        gP (stbL [((gdN t88 true (rdN r48.1)), r50.2, r51.2), ((gdN t96 true (rdN r55.1)), r57.2, r58.2), ((gdN t104 true (rdN r62.1)), r65.2, r66.2)])
          (
            retK k r68.2 [t0] t113))
  | _, _, _, _ => none
noncomputable def J_laws_FnBytes (k q l : Nat) : List Value → Mem → Option VM := cond (Nat.beq l 8) (L_laws_FnBytes k q 0) (fun _ _ => none)
def LL_laws_FnBytes : List (Nat × List Tmp) := [(8, [0, 3, 4, 5, 6])]
noncomputable def X_laws_FnBytes : List Value → Mem → Option VM
  | [t0], m =>
    (C_laws_lwBig [t0] m) |> bo fun r1 =>
    brX r1.1
      (
        retK m.length r1.2 [t0] (.bool true))
      (
        (C_spec_DrawStepDecoder [t0] r1.2) |> bo fun r2 =>
        (extX 0 r2.1) |> bo fun t15 =>
        (extX 1 r2.1) |> bo fun t16 =>
        (alX r2.2 [.int .i64 0, .int .i64 0, .int .i64 0]) |> bo fun r5 =>
        (stX r5.2 3 r5.1 t15) |> bo fun m6 =>
        (ldS m6 3 r5.1) |> bo fun t17 =>
        (C_impl_StepDecoder [t17, t16] m6) |> bo fun r8 =>
        (alX r8.2 [.int .i64 0, .slice none 0 0, .int .i64 0, .int .i64 0, .int .i64 0]) |> bo fun r9 =>
        (stX r9.2 5 r9.1 r8.1) |> bo fun m10 =>
        (fadX 0 r9.1) |> bo fun t20 =>
        (ld1 m10 t20) |> bo fun t21 =>
        (binX .neq .no t21 (.int .i64 0)) |> bo fun t22 =>
        brX t22
          (
            (ldS m10 3 r5.1) |> bo fun t23 =>
            (C_spec_StepDecoder [t23, t16] m10) |> bo fun r15 =>
            (fld1 0 r15.1) |> bo fun t26 =>
            (fadX 0 r9.1) |> bo fun t27 =>
            (ld1 r15.2 t27) |> bo fun t28 =>
            (binX .eql .no t26 t28) |> bo fun t29 =>
            (gd t29 true ((ldS r15.2 3 r5.1) |> bo fun v => some (v, r15.2)) r15.2) |> bo fun r20 =>
            (gd t29 true ((C_impl_DecoderFault [r20.1] r20.2) |> bo fun r => some (r.1, r.2)) r20.2) |> bo fun r21 =>
            (gd t29 true ((fadX 0 r9.1) |> bo fun v => some (v, r21.2)) r21.2) |> bo fun r22 =>
            (gd t29 true ((ld1 r22.2 r22.1) |> bo fun v => some (v, r22.2)) r22.2) |> bo fun r23 =>
            (gd t29 true ((binX .eql .no r21.1 r23.1) |> bo fun v => some (v, r23.2)) r23.2) |> bo fun r24 =>
            (pickX t29 r24.1 (.bool false)) |> bo fun t36 =>
            gP (stbL [((rdN t27), m10, r15.2), ((gdN t29 true (rdN r22.1)), r20.2, r21.2)])
              (
                retK m.length r24.2 [t0] t36))
          (
            cutK m.length m10 [t0] [t0, r5.1, t16, r9.1, (.int .i64 0)] (L_laws_FnBytes m.length QQ 0)))
  | _, _ => none
noncomputable def C_laws_FnBytes : List Value → Mem → Option VM := fcall X_laws_FnBytes
@[simp] theorem c_laws_FnBytes : C_laws_FnBytes = fcall X_laws_FnBytes := (rfl)
theorem cok_laws_FnBytes : codeOk CT Try.f12 (Try.f12.body.get rfl) = true := by kernel_rfl
theorem xe_laws_FnBytes (t0 : Value) (m : Mem) : ex CT cf_laws_FnBytes Try.f12 1 m.length LL_laws_FnBytes (J_laws_FnBytes m.length QQ) 400 [.code (Try.f12.body.get rfl)] (argsT 0 [t0]) m = X_laws_FnBytes [t0] m := by kernel_rfl
theorem okc_laws_FnBytes : CallOK CT cf_laws_FnBytes := cfc_ok ok_C_spec_StepDecoder (cfc_ok ok_C_impl_StepDecoder (cfc_ok ok_C_laws_lwBig (cfc_ok ok_C_spec_DrawStepDecoder (cfc_ok ok_C_impl_DecoderFault (cfc_ok ok_C_impl_EncodeChar (cfc_ok ok_C_spec_DrawEncodeChar (cfc_ok ok_C_spec_DrawEndDecoder (cfc_ok ok_C_impl_EndDecoder (cfc_ok ok_C_spec_EncodeChar (cfc_ok ok_C_spec_EndDecoder (cfc_ok ok_C_laws_lwNums cfn_ok)))))))))))
theorem le_laws_FnBytes_0 (k q : Nat) (t0 t3 t4 t5 t6 : Value) (m : Mem) : ex CT cf_laws_FnBytes Try.f12 1 k LL_laws_FnBytes (J_laws_FnBytes k q) 400 (atLoop Try.f12 0) [(0, t0), (3, t3), (4, t4), (5, t5), (6, t6)] m = J_laws_FnBytes k (q + 1) 8 [t0, t3, t4, t5, t6] m := by kernel_rfl
theorem gl_laws_FnBytes (k : Nat) : ∀ q i, i < 1 → GoodL CT k Try.f12 LL_laws_FnBytes (J_laws_FnBytes k q) (atLoop Try.f12 i)
  | 0, 0, _ => goodL_zero (l := 8) (by kernel_rfl) (fun vs m => by kernel_rfl)
  | 0, _ + 1, h => absurd h (by omega)
  | q + 1, 0, _ => goodL_succ (np := 1) (l := 8) (live := [0, 3, 4, 5, 6]) (n := 1) CT_ok rfl okc_laws_FnBytes (c := (Try.f12.body.get rfl)) rfl cok_laws_FnBytes (by kernel_rfl) (gl_laws_FnBytes k q) (by kernel_rfl) rfl (fun vs m r hl h => match vs, hl with
    | [t0, t3, t4, t5, t6], _ => (le_laws_FnBytes_0 k q t0 t3 t4 t5 t6 m).trans h)
  | _ + 1, _ + 1, h => absurd h (by omega)
theorem ok_X_laws_FnBytes : OkX CT 12 X_laws_FnBytes := OkX.of_ex (cf := cf_laws_FnBytes) (np := 1) (LL := LL_laws_FnBytes) (J := (fun k => J_laws_FnBytes k QQ)) CT_ok rfl Try.func12 rfl (Nat.le_of_ble_eq_true rfl) (by decide) cok_laws_FnBytes okc_laws_FnBytes (fun k => allLoops rfl (by kernel_rfl) (gl_laws_FnBytes k QQ)) (fun args m r h => match args, h with
    | [t0], h => ⟨rfl, (xe_laws_FnBytes t0 m).trans h⟩)
theorem ok_C_laws_FnBytes : OkC CT 12 C_laws_FnBytes := fcall_ok rfl ok_X_laws_FnBytes

end Go.Ab
