/- Plain forms of functions, printed by gen.py. -/
import Derived.Test.YtkfbpdbopkdnjaaCf3
import Derived.Test.YtkfbpdbopkdnjaaFC
set_option linter.unusedVariables false
set_option linter.unusedSimpArgs false
namespace Go.Ab
open Go.Proofs
set_option maxRecDepth 100000
set_option linter.unusedVariables false
/-! ### laws.lwBig -/
noncomputable def cf_laws_lwBig : CallF := cfn
noncomputable def X_laws_lwBig : List Value → Mem → Option VM
  | [t0], m =>
    (lenX t0) |> bo fun t4 =>
    (binX .gtr .no t4 (.int .i64 1048576)) |> bo fun t5 =>
    retK m.length m [t0] t5
  | _, _ => none
noncomputable def C_laws_lwBig : List Value → Mem → Option VM := fcall X_laws_lwBig
@[simp] theorem c_laws_lwBig : C_laws_lwBig = fcall X_laws_lwBig := (rfl)
theorem cok_laws_lwBig : codeOk CT Try.f12 (Try.f12.body.get rfl) = true := by kernel_rfl
theorem xe_laws_lwBig (t0 : Value) (m : Mem) : ex CT cf_laws_lwBig Try.f12 1 m.length [] (fun _ _ _ => none) 400 [.code (Try.f12.body.get rfl)] (argsT 0 [t0]) m = X_laws_lwBig [t0] m := by kernel_rfl
theorem okc_laws_lwBig : CallOK CT cf_laws_lwBig := cfn_ok
theorem ok_X_laws_lwBig : OkX CT 12 X_laws_lwBig := OkX.of_ex (cf := cf_laws_lwBig) (np := 1) (LL := []) (J := (fun _ _ _ _ => none)) CT_ok rfl Try.func12 rfl (Nat.le_of_ble_eq_true rfl) (by decide) cok_laws_lwBig okc_laws_lwBig (fun k => noLoops rfl) (fun args m r h => match args, h with
    | [t0], h => ⟨rfl, (xe_laws_lwBig t0 m).trans h⟩)
theorem ok_C_laws_lwBig : OkC CT 12 C_laws_lwBig := fcall_ok rfl ok_X_laws_lwBig

/-! ### spec.l1Source -/
noncomputable def cf_spec_l1Source : CallF := cfn
noncomputable def X_spec_l1Source : List Value → Mem → Option VM
  | [t0], m =>
    (bldX [.slice none 0 0, .int .i64 0] [(0, 1, t0)]) |> bo fun t4 =>
    (boxX m t4) |> bo fun r2 =>
    retK m.length r2.2 [t0] r2.1
  | _, _ => none
noncomputable def C_spec_l1Source : List Value → Mem → Option VM := rcall X_spec_l1Source
@[simp] theorem c_spec_l1Source : C_spec_l1Source = rcall X_spec_l1Source := (rfl)
theorem cok_spec_l1Source : codeOk CT Try.f83 (Try.f83.body.get rfl) = true := by kernel_rfl
theorem xe_spec_l1Source (t0 : Value) (m : Mem) : ex CT cf_spec_l1Source Try.f83 1 m.length [] (fun _ _ _ => none) 400 [.code (Try.f83.body.get rfl)] (argsT 0 [t0]) m = X_spec_l1Source [t0] m := by kernel_rfl
theorem okc_spec_l1Source : CallOK CT cf_spec_l1Source := cfn_ok
theorem ok_X_spec_l1Source : OkX CT 83 X_spec_l1Source := OkX.of_ex (cf := cf_spec_l1Source) (np := 1) (LL := []) (J := (fun _ _ _ _ => none)) CT_ok rfl Try.func83 rfl (Nat.le_of_ble_eq_true rfl) (by decide) cok_spec_l1Source okc_spec_l1Source (fun k => noLoops rfl) (fun args m r h => match args, h with
    | [t0], h => ⟨rfl, (xe_spec_l1Source t0 m).trans h⟩)
theorem ok_C_spec_l1Source : OkC CT 83 C_spec_l1Source := rcall_ok rfl ok_X_spec_l1Source

/-! ### spec.l1Next -/
noncomputable def cf_spec_l1Next : CallF := cfn
noncomputable def X_spec_l1Next : List Value → Mem → Option VM
  | [t0, t1], m =>
    (nilX t0) |> bo fun t10 =>
    (fadX 1 t10) |> bo fun t11 =>
    (ld1 m t11) |> bo fun t12 =>
    (binX .add .no t12 (.int .i64 1)) |> bo fun t13 =>
    (nilX t0) |> bo fun t14 =>
    (fadX 1 t14) |> bo fun t15 =>
    (stX m 1 t15 t13) |> bo fun m7 =>
    (binX .lss .no t1 (.int .i64 1)) |> bo fun t17 =>
    brX t17
      (
        retK m.length m7 [t0, t1] (.int .i64 0))
      (
        (nilX t0) |> bo fun t19 =>
        (fadX 1 t19) |> bo fun t20 =>
        (ld1 m7 t20) |> bo fun t21 =>
        (binX .sub .no t21 (.int .i64 1)) |> bo fun t22 =>
        (nilX t0) |> bo fun t24 =>
        (fadX 0 t24) |> bo fun t25 =>
        (ld1 m7 t25) |> bo fun t26 =>
        (lenX t26) |> bo fun t27 =>
        (binX .eql .no t27 (.int .i64 0)) |> bo fun t29 =>
        brX t29
          (
            (binX .mul .no t22 (.int .i64 7)) |> bo fun t31 =>
            (binX .rem .no t31 t1) |> bo fun t33 =>
            retK m.length m7 [t0, t1] t33)
          (
            (nilX t0) |> bo fun t35 =>
            (fadX 0 t35) |> bo fun t36 =>
            (ld1 m7 t36) |> bo fun t37 =>
            (binX .rem .no t22 t27) |> bo fun t40 =>
            (ixaX 1 t37 t40) |> bo fun t41 =>
            (ld1 m7 t41) |> bo fun t42 =>
            (cvI .i64 t42) |> bo fun t43 =>
            (binX .quo .no t22 t27) |> bo fun t46 =>
            (binX .mul .no t46 (.int .i64 37)) |> bo fun t47 =>
            (binX .add .no t43 t47) |> bo fun t48 =>
            (binX .gtr .no t1 (.int .i64 200)) |> bo fun t50 =>
            brX t50
              (
                (binX .mul .no t48 (.int .i64 251)) |> bo fun t52 =>
                (nilX t0) |> bo fun t54 =>
                (fadX 0 t54) |> bo fun t55 =>
                (ld1 m7 t55) |> bo fun t56 =>
                (binX .add .no t22 (.int .i64 1)) |> bo fun t58 =>
                (binX .rem .no t58 t27) |> bo fun t60 =>
                (ixaX 1 t56 t60) |> bo fun t61 =>
                (ld1 m7 t61) |> bo fun t62 =>
                (cvI .i64 t62) |> bo fun t63 =>
                (binX .mul .no t63 (.int .i64 13)) |> bo fun t64 =>
                (binX .add .no t52 t64) |> bo fun t65 =>
                (binX .add .no t65 t22) |> bo fun t67 =>
                (binX .rem .no t67 t1) |> bo fun t70 =>
                retK m.length m7 [t0, t1] t70)
              (
                (binX .rem .no t48 t1) |> bo fun t70 =>
                retK m.length m7 [t0, t1] t70)))
  | _, _ => none
noncomputable def C_spec_l1Next : List Value → Mem → Option VM := rcall X_spec_l1Next
@[simp] theorem c_spec_l1Next : C_spec_l1Next = rcall X_spec_l1Next := (rfl)
theorem cok_spec_l1Next : codeOk CT Try.f87 (Try.f87.body.get rfl) = true := by kernel_rfl
theorem xe_spec_l1Next (t0 t1 : Value) (m : Mem) : ex CT cf_spec_l1Next Try.f87 2 m.length [] (fun _ _ _ => none) 400 [.code (Try.f87.body.get rfl)] (argsT 0 [t0, t1]) m = X_spec_l1Next [t0, t1] m := by kernel_rfl
theorem okc_spec_l1Next : CallOK CT cf_spec_l1Next := cfn_ok
theorem ok_X_spec_l1Next : OkX CT 87 X_spec_l1Next := OkX.of_ex (cf := cf_spec_l1Next) (np := 2) (LL := []) (J := (fun _ _ _ _ => none)) CT_ok rfl Try.func87 rfl (Nat.le_of_ble_eq_true rfl) (by decide) cok_spec_l1Next okc_spec_l1Next (fun k => noLoops rfl) (fun args m r h => match args, h with
    | [t0, t1], h => ⟨rfl, (xe_spec_l1Next t0 t1 m).trans h⟩)
theorem ok_C_spec_l1Next : OkC CT 87 C_spec_l1Next := rcall_ok rfl ok_X_spec_l1Next

/-! ### spec.l1Pick -/
noncomputable def cf_spec_l1Pick : CallF := cfc 87 C_spec_l1Next cfn
noncomputable def X_spec_l1Pick : List Value → Mem → Option VM
  | [t0, t1], m =>
    (lenX t1) |> bo fun t8 =>
    (C_spec_l1Next [t0, t8] m) |> bo fun r2 =>
    (ixaX 1 t1 r2.1) |> bo fun t10 =>
    (ld1 r2.2 t10) |> bo fun t11 =>
    retK m.length r2.2 [t0, t1] t11
  | _, _ => none
noncomputable def C_spec_l1Pick : List Value → Mem → Option VM := rcall X_spec_l1Pick
@[simp] theorem c_spec_l1Pick : C_spec_l1Pick = rcall X_spec_l1Pick := (rfl)
theorem cok_spec_l1Pick : codeOk CT Try.f94 (Try.f94.body.get rfl) = true := by kernel_rfl
theorem xe_spec_l1Pick (t0 t1 : Value) (m : Mem) : ex CT cf_spec_l1Pick Try.f94 2 m.length [] (fun _ _ _ => none) 400 [.code (Try.f94.body.get rfl)] (argsT 0 [t0, t1]) m = X_spec_l1Pick [t0, t1] m := by kernel_rfl
theorem okc_spec_l1Pick : CallOK CT cf_spec_l1Pick := cfc_ok ok_C_spec_l1Next cfn_ok
theorem ok_X_spec_l1Pick : OkX CT 94 X_spec_l1Pick := OkX.of_ex (cf := cf_spec_l1Pick) (np := 2) (LL := []) (J := (fun _ _ _ _ => none)) CT_ok rfl Try.func94 rfl (Nat.le_of_ble_eq_true rfl) (by decide) cok_spec_l1Pick okc_spec_l1Pick (fun k => noLoops rfl) (fun args m r h => match args, h with
    | [t0, t1], h => ⟨rfl, (xe_spec_l1Pick t0 t1 m).trans h⟩)
theorem ok_C_spec_l1Pick : OkC CT 94 C_spec_l1Pick := rcall_ok rfl ok_X_spec_l1Pick

/-! ### spec.l4Copy -/
noncomputable def cf_spec_l4Copy : CallF := cfn
noncomputable def X_spec_l4Copy : List Value → Mem → Option VM
  | [t0], m =>
    (boxX m t0) |> bo fun r1 =>
    (alX r1.2 [.int .i64 0, .int .i64 0, .bool false, .slice none 0 0]) |> bo fun r2 =>
    (bslX r2.2 0 1 [.int .i64 0] []) |> bo fun r3 =>
    (fadX 3 r1.1) |> bo fun t4 =>
    (ld1 r3.2 t4) |> bo fun t5 =>
    (apL r3.2 1 8 r3.1 t5) |> bo fun r6 =>
    (fadX 3 r1.1) |> bo fun t7 =>
    (stX r6.2 1 t7 r6.1) |> bo fun m8 =>
    (ldS m8 4 r1.1) |> bo fun t8 =>
    (stX m8 4 r2.1 t8) |> bo fun m10 =>
    (resP (some 4) m10 r2.1) |> bo fun c11 =>
    retK m.length m10 [t0] c11
  | _, _ => none
noncomputable def C_spec_l4Copy : List Value → Mem → Option VM := fcall X_spec_l4Copy
@[simp] theorem c_spec_l4Copy : C_spec_l4Copy = fcall X_spec_l4Copy := (rfl)
theorem cok_spec_l4Copy : codeOk CT Try.f112 (Try.f112.body.get rfl) = true := by kernel_rfl
theorem xe_spec_l4Copy (t0 : Value) (m : Mem) : ex CT cf_spec_l4Copy Try.f112 1 m.length [] (fun _ _ _ => none) 400 [.code (Try.f112.body.get rfl)] (argsT 0 [t0]) m = X_spec_l4Copy [t0] m := by kernel_rfl
theorem okc_spec_l4Copy : CallOK CT cf_spec_l4Copy := cfn_ok
theorem ok_X_spec_l4Copy : OkX CT 112 X_spec_l4Copy := OkX.of_ex (cf := cf_spec_l4Copy) (np := 1) (LL := []) (J := (fun _ _ _ _ => none)) CT_ok rfl Try.func112 rfl (Nat.le_of_ble_eq_true rfl) (by decide) cok_spec_l4Copy okc_spec_l4Copy (fun k => noLoops rfl) (fun args m r h => match args, h with
    | [t0], h => ⟨rfl, (xe_spec_l4Copy t0 m).trans h⟩)
theorem ok_C_spec_l4Copy : OkC CT 112 C_spec_l4Copy := fcall_ok rfl ok_X_spec_l4Copy

/-! ### spec.l1In -/
noncomputable def cf_spec_l1In : CallF := cfn
noncomputable def X_spec_l1In : List Value → Mem → Option VM
  | [t0, t1, t2], m =>
    (binX .geq .no t0 t1) |> bo fun t9 =>
    (gd t9 true (some (t0, m)) m) |> bo fun r2 =>
    (gd t9 true (some (t2, r2.2)) r2.2) |> bo fun r3 =>
    (gd t9 true ((binX .leq .no r2.1 r3.1) |> bo fun v => some (v, r3.2)) r3.2) |> bo fun r4 =>
    (pickX t9 r4.1 (.bool false)) |> bo fun t14 =>
    retK m.length r4.2 [t0, t1, t2] t14
  | _, _ => none
noncomputable def C_spec_l1In : List Value → Mem → Option VM := fcall X_spec_l1In
@[simp] theorem c_spec_l1In : C_spec_l1In = fcall X_spec_l1In := (rfl)
theorem cok_spec_l1In : codeOk CT Try.f119 (Try.f119.body.get rfl) = true := by kernel_rfl
theorem xe_spec_l1In (t0 t1 t2 : Value) (m : Mem) : ex CT cf_spec_l1In Try.f119 3 m.length [] (fun _ _ _ => none) 400 [.code (Try.f119.body.get rfl)] (argsT 0 [t0, t1, t2]) m = X_spec_l1In [t0, t1, t2] m := by kernel_rfl
theorem okc_spec_l1In : CallOK CT cf_spec_l1In := cfn_ok
theorem ok_X_spec_l1In : OkX CT 119 X_spec_l1In := OkX.of_ex (cf := cf_spec_l1In) (np := 3) (LL := []) (J := (fun _ _ _ _ => none)) CT_ok rfl Try.func119 rfl (Nat.le_of_ble_eq_true rfl) (by decide) cok_spec_l1In okc_spec_l1In (fun k => noLoops rfl) (fun args m r h => match args, h with
    | [t0, t1, t2], h => ⟨rfl, (xe_spec_l1In t0 t1 t2 m).trans h⟩)
theorem ok_C_spec_l1In : OkC CT 119 C_spec_l1In := fcall_ok rfl ok_X_spec_l1In

/-! ### spec.l4Escape -/
noncomputable def cf_spec_l4Escape : CallF := cfc 119 C_spec_l1In cfn
noncomputable def X_spec_l4Escape : List Value → Mem → Option VM
  | [t0], m =>
    (alX m [.int .i64 0, .int .i64 0, .int .i64 0, .bool false, .slice none 0 0]) |> bo fun r1 =>
    (alX r1.2 [.int .i64 0, .int .i64 0, .bool false, .slice none 0 0]) |> bo fun r2 =>
    (binX .eql .no t0 (.int .i64 91)) |> bo fun t6 =>
    brX t6
      (
        (bldX [.int .i64 0, .int .i64 0, .int .i64 0, .bool false, .slice none 0 0] []) |> bo fun t7 =>
        (bslX r2.2 1 1 [.int .i64 0] [(0, 1, (.int .i64 0))]) |> bo fun r5 =>
        (bldX [.int .i64 0, .int .i64 0, .bool false, .slice none 0 0] [(0, 1, (.int .i64 2)), (3, 1, r5.1)]) |> bo fun t9 =>
        (stX r5.2 5 r1.1 t7) |> bo fun m7 =>
        (stX m7 4 r2.1 t9) |> bo fun m8 =>
        (resP (some 5) m8 r1.1) |> bo fun c9 =>
        (resP (some 4) m8 r2.1) |> bo fun c10 =>
        retK m.length m8 [t0] (.tuple #[c9, c10]))
      (
        (binX .eql .no t0 (.int .i64 40)) |> bo fun t12 =>
        brX t12
          (
            (bldX [.int .i64 0, .int .i64 0, .int .i64 0, .bool false, .slice none 0 0] []) |> bo fun t13 =>
            (bldX [.int .i64 0, .int .i64 0, .bool false, .slice none 0 0] [(0, 1, (.int .i64 3)), (1, 1, (.int .i64 1))]) |> bo fun t14 =>
            (stX r2.2 5 r1.1 t13) |> bo fun m14 =>
            (stX m14 4 r2.1 t14) |> bo fun m15 =>
            (resP (some 5) m15 r1.1) |> bo fun c16 =>
            (resP (some 4) m15 r2.1) |> bo fun c17 =>
            retK m.length m15 [t0] (.tuple #[c16, c17]))
          (
            (binX .eql .no t0 (.int .i64 41)) |> bo fun t17 =>
            brX t17
              (
                (bldX [.int .i64 0, .int .i64 0, .int .i64 0, .bool false, .slice none 0 0] []) |> bo fun t18 =>
                (bldX [.int .i64 0, .int .i64 0, .bool false, .slice none 0 0] [(0, 1, (.int .i64 3)), (1, 1, (.int .i64 2))]) |> bo fun t19 =>
                (stX r2.2 5 r1.1 t18) |> bo fun m21 =>
                (stX m21 4 r2.1 t19) |> bo fun m22 =>
                (resP (some 5) m22 r1.1) |> bo fun c23 =>
                (resP (some 4) m22 r2.1) |> bo fun c24 =>
                retK m.length m22 [t0] (.tuple #[c23, c24]))
              (
                (C_spec_l1In [t0, (.int .i64 48), (.int .i64 126)] r2.2) |> bo fun r25 =>
                brX r25.1
                  (
                    (bldX [.int .i64 0, .int .i64 0, .int .i64 0, .bool false, .slice none 0 0] [(0, 1, (.int .i64 3)), (1, 1, t0)]) |> bo fun t24 =>
                    (bldX [.int .i64 0, .int .i64 0, .bool false, .slice none 0 0] []) |> bo fun t25 =>
                    (stX r25.2 5 r1.1 t24) |> bo fun m28 =>
                    (stX m28 4 r2.1 t25) |> bo fun m29 =>
                    (resP (some 5) m29 r1.1) |> bo fun c30 =>
                    (resP (some 4) m29 r2.1) |> bo fun c31 =>
                    retK m.length m29 [t0] (.tuple #[c30, c31]))
                  (
                    (bldX [.int .i64 0, .int .i64 0, .int .i64 0, .bool false, .slice none 0 0] []) |> bo fun t26 =>
                    (bldX [.int .i64 0, .int .i64 0, .bool false, .slice none 0 0] []) |> bo fun t27 =>
                    (stX r25.2 5 r1.1 t26) |> bo fun m34 =>
                    (stX m34 4 r2.1 t27) |> bo fun m35 =>
                    (resP (some 5) m35 r1.1) |> bo fun c36 =>
                    (resP (some 4) m35 r2.1) |> bo fun c37 =>
                    retK m.length m35 [t0] (.tuple #[c36, c37])))))
  | _, _ => none
noncomputable def C_spec_l4Escape : List Value → Mem → Option VM := fcall X_spec_l4Escape
@[simp] theorem c_spec_l4Escape : C_spec_l4Escape = fcall X_spec_l4Escape := (rfl)
theorem cok_spec_l4Escape : codeOk CT Try.f158 (Try.f158.body.get rfl) = true := by kernel_rfl
theorem xe_spec_l4Escape (t0 : Value) (m : Mem) : ex CT cf_spec_l4Escape Try.f158 1 m.length [] (fun _ _ _ => none) 400 [.code (Try.f158.body.get rfl)] (argsT 0 [t0]) m = X_spec_l4Escape [t0] m := by kernel_rfl
theorem okc_spec_l4Escape : CallOK CT cf_spec_l4Escape := cfc_ok ok_C_spec_l1In cfn_ok
theorem ok_X_spec_l4Escape : OkX CT 158 X_spec_l4Escape := OkX.of_ex (cf := cf_spec_l4Escape) (np := 1) (LL := []) (J := (fun _ _ _ _ => none)) CT_ok rfl Try.func158 rfl (Nat.le_of_ble_eq_true rfl) (by decide) cok_spec_l4Escape okc_spec_l4Escape (fun k => noLoops rfl) (fun args m r h => match args, h with
    | [t0], h => ⟨rfl, (xe_spec_l4Escape t0 m).trans h⟩)
theorem ok_C_spec_l4Escape : OkC CT 158 C_spec_l4Escape := fcall_ok rfl ok_X_spec_l4Escape

/-! ### spec.l1Min -/
noncomputable def cf_spec_l1Min : CallF := cfn
noncomputable def X_spec_l1Min : List Value → Mem → Option VM
  | [t0, t1], m =>
    (binX .lss .no t0 t1) |> bo fun t7 =>
    brX t7
      (
        retK m.length m [t0, t1] t0)
      (
        retK m.length m [t0, t1] t1)
  | _, _ => none
noncomputable def C_spec_l1Min : List Value → Mem → Option VM := fcall X_spec_l1Min
@[simp] theorem c_spec_l1Min : C_spec_l1Min = fcall X_spec_l1Min := (rfl)
theorem cok_spec_l1Min : codeOk CT Try.f176 (Try.f176.body.get rfl) = true := by kernel_rfl
theorem xe_spec_l1Min (t0 t1 : Value) (m : Mem) : ex CT cf_spec_l1Min Try.f176 2 m.length [] (fun _ _ _ => none) 400 [.code (Try.f176.body.get rfl)] (argsT 0 [t0, t1]) m = X_spec_l1Min [t0, t1] m := by kernel_rfl
theorem okc_spec_l1Min : CallOK CT cf_spec_l1Min := cfn_ok
theorem ok_X_spec_l1Min : OkX CT 176 X_spec_l1Min := OkX.of_ex (cf := cf_spec_l1Min) (np := 2) (LL := []) (J := (fun _ _ _ _ => none)) CT_ok rfl Try.func176 rfl (Nat.le_of_ble_eq_true rfl) (by decide) cok_spec_l1Min okc_spec_l1Min (fun k => noLoops rfl) (fun args m r h => match args, h with
    | [t0, t1], h => ⟨rfl, (xe_spec_l1Min t0 t1 m).trans h⟩)
theorem ok_C_spec_l1Min : OkC CT 176 C_spec_l1Min := fcall_ok rfl ok_X_spec_l1Min

/-! ### spec.l4Param -/
noncomputable def cf_spec_l4Param : CallF := cfc 119 C_spec_l1In (cfc 176 C_spec_l1Min cfn)
noncomputable def X_spec_l4Param : List Value → Mem → Option VM
  | [t0, t1], m =>
    (boxX m t0) |> bo fun r1 =>
    (alX r1.2 [.int .i64 0, .int .i64 0, .int .i64 0, .bool false, .slice none 0 0]) |> bo fun r2 =>
    (alX r2.2 [.int .i64 0, .int .i64 0, .bool false, .slice none 0 0]) |> bo fun r3 =>
    (fadX 3 r1.1) |> bo fun t7 =>
    (ld1 r3.2 t7) |> bo fun t8 =>
    (lenX t8) |> bo fun t9 =>
    (binX .sub .no t9 (.int .i64 1)) |> bo fun t10 =>
    (C_spec_l1In [t1, (.int .i64 48), (.int .i64 57)] r3.2) |> bo fun r8 =>
    brX r8.1
      (
        (fadX 3 r1.1) |> bo fun t14 =>
        (ld1 r8.2 t14) |> bo fun t15 =>
        (fadX 3 r1.1) |> bo fun t17 =>
        (ld1 r8.2 t17) |> bo fun t18 =>
        (ixaX 1 t18 t10) |> bo fun t20 =>
        (ld1 r8.2 t20) |> bo fun t21 =>
        (binX .mul .no (.int .i64 10) t21) |> bo fun t22 =>
        (binX .add .no t22 t1) |> bo fun t24 =>
        (binX .sub .no t24 (.int .i64 48)) |> bo fun t25 =>
        (C_spec_l1Min [(.int .i64 999), t25] r8.2) |> bo fun r18 =>
        (ixaX 1 t15 t10) |> bo fun t27 =>
        (stX r18.2 1 t27 r18.1) |> bo fun m20 =>
        gP (stbL [((rdN t14), r8.2, r18.2)])
          (
            (bldX [.int .i64 0, .int .i64 0, .int .i64 0, .bool false, .slice none 0 0] []) |> bo fun t59 =>
            (ldS m20 4 r1.1) |> bo fun t60 =>
            (stX m20 5 r2.1 t59) |> bo fun m23 =>
            (stX m23 4 r3.1 t60) |> bo fun m24 =>
            gP (stbL [((rdN r1.1), m20, m23)])
              (
                (resP (some 5) m24 r2.1) |> bo fun c25 =>
                (resP (some 4) m24 r3.1) |> bo fun c26 =>
                retK m.length m24 [t0, t1] (.tuple #[c25, c26]))))
      (
        (binX .eql .no t1 (.int .i64 59)) |> bo fun t30 =>
        brX t30
          (
            (fadX 3 r1.1) |> bo fun t31 =>
            (ld1 r8.2 t31) |> bo fun t32 =>
            (lenX t32) |> bo fun t33 =>
            (binX .lss .no t33 (.int .i64 6)) |> bo fun t34 =>
            brX t34
              (
                (fadX 3 r1.1) |> bo fun t35 =>
                (ld1 r8.2 t35) |> bo fun t36 =>
                (bslX r8.2 1 1 [.int .i64 0] [(0, 1, (.int .i64 0))]) |> bo fun r34 =>
                (apL r34.2 1 8 t36 r34.1) |> bo fun r35 =>
                (fadX 3 r1.1) |> bo fun t39 =>
                (stX r35.2 1 t39 r35.1) |> bo fun m37 =>
                (bldX [.int .i64 0, .int .i64 0, .int .i64 0, .bool false, .slice none 0 0] []) |> bo fun t59 =>
                (ldS m37 4 r1.1) |> bo fun t60 =>
                (stX m37 5 r2.1 t59) |> bo fun m40 =>
                (stX m40 4 r3.1 t60) |> bo fun m41 =>
                gP (stbL [((rdN r1.1), m37, m40)])
                  (
                    (resP (some 5) m41 r2.1) |> bo fun c42 =>
                    (resP (some 4) m41 r3.1) |> bo fun c43 =>
                    retK m.length m41 [t0, t1] (.tuple #[c42, c43])))
              (
                (bldX [.int .i64 0, .int .i64 0, .int .i64 0, .bool false, .slice none 0 0] []) |> bo fun t59 =>
                (ldS r8.2 4 r1.1) |> bo fun t60 =>
                (stX r8.2 5 r2.1 t59) |> bo fun m46 =>
                (stX m46 4 r3.1 t60) |> bo fun m47 =>
                gP (stbL [((rdN r1.1), r8.2, m46)])
                  (
                    (resP (some 5) m47 r2.1) |> bo fun c48 =>
                    (resP (some 4) m47 r3.1) |> bo fun c49 =>
                    retK m.length m47 [t0, t1] (.tuple #[c48, c49]))))
          (
            (binX .eql .no t1 (.int .i64 63)) |> bo fun t42 =>
            brX t42
              (
                (fadX 2 r1.1) |> bo fun t43 =>
                (stX r8.2 1 t43 (.bool true)) |> bo fun m52 =>
                (bldX [.int .i64 0, .int .i64 0, .int .i64 0, .bool false, .slice none 0 0] []) |> bo fun t59 =>
                (ldS m52 4 r1.1) |> bo fun t60 =>
                (stX m52 5 r2.1 t59) |> bo fun m55 =>
                (stX m55 4 r3.1 t60) |> bo fun m56 =>
                gP (stbL [((rdN r1.1), m52, m55)])
                  (
                    (resP (some 5) m56 r2.1) |> bo fun c57 =>
                    (resP (some 4) m56 r3.1) |> bo fun c58 =>
                    retK m.length m56 [t0, t1] (.tuple #[c57, c58])))
              (
                (C_spec_l1In [t1, (.int .i64 64), (.int .i64 126)] r8.2) |> bo fun r59 =>
                brX r59.1
                  (
                    (fadX 2 r1.1) |> bo fun t48 =>
                    (ld1 r59.2 t48) |> bo fun t49 =>
                    (fadX 3 r1.1) |> bo fun t50 =>
                    (ld1 r59.2 t50) |> bo fun t51 =>
                    (bldX [.int .i64 0, .int .i64 0, .int .i64 0, .bool false, .slice none 0 0] [(0, 1, (.int .i64 4)), (1, 1, t1), (3, 1, t49), (4, 1, t51)]) |> bo fun t52 =>
                    (bldX [.int .i64 0, .int .i64 0, .bool false, .slice none 0 0] []) |> bo fun t53 =>
                    (stX r59.2 5 r2.1 t52) |> bo fun m66 =>
                    (stX m66 4 r3.1 t53) |> bo fun m67 =>
                    (resP (some 5) m67 r2.1) |> bo fun c68 =>
                    (resP (some 4) m67 r3.1) |> bo fun c69 =>
                    retK m.length m67 [t0, t1] (.tuple #[c68, c69]))
                  (
                    (binX .gtr .no t1 (.int .i64 126)) |> bo fun t56 =>
                    brX t56
                      (
                        (bldX [.int .i64 0, .int .i64 0, .int .i64 0, .bool false, .slice none 0 0] []) |> bo fun t57 =>
                        (bldX [.int .i64 0, .int .i64 0, .bool false, .slice none 0 0] []) |> bo fun t58 =>
                        (stX r59.2 5 r2.1 t57) |> bo fun m73 =>
                        (stX m73 4 r3.1 t58) |> bo fun m74 =>
                        (resP (some 5) m74 r2.1) |> bo fun c75 =>
                        (resP (some 4) m74 r3.1) |> bo fun c76 =>
                        retK m.length m74 [t0, t1] (.tuple #[c75, c76]))
                      (
                        (bldX [.int .i64 0, .int .i64 0, .int .i64 0, .bool false, .slice none 0 0] []) |> bo fun t59 =>
                        (ldS r59.2 4 r1.1) |> bo fun t60 =>
                        (stX r59.2 5 r2.1 t59) |> bo fun m79 =>
                        (stX m79 4 r3.1 t60) |> bo fun m80 =>
                        gP (stbL [((rdN r1.1), r59.2, m79)])
                          (
                            (resP (some 5) m80 r2.1) |> bo fun c81 =>
                            (resP (some 4) m80 r3.1) |> bo fun c82 =>
                            retK m.length m80 [t0, t1] (.tuple #[c81, c82])))))))
  | _, _ => none
noncomputable def C_spec_l4Param : List Value → Mem → Option VM := rcall X_spec_l4Param
@[simp] theorem c_spec_l4Param : C_spec_l4Param = rcall X_spec_l4Param := (rfl)
theorem cok_spec_l4Param : codeOk CT Try.f159 (Try.f159.body.get rfl) = true := by kernel_rfl
theorem xe_spec_l4Param (t0 t1 : Value) (m : Mem) : ex CT cf_spec_l4Param Try.f159 2 m.length [] (fun _ _ _ => none) 400 [.code (Try.f159.body.get rfl)] (argsT 0 [t0, t1]) m = X_spec_l4Param [t0, t1] m := by kernel_rfl
theorem okc_spec_l4Param : CallOK CT cf_spec_l4Param := cfc_ok ok_C_spec_l1In (cfc_ok ok_C_spec_l1Min cfn_ok)
theorem ok_X_spec_l4Param : OkX CT 159 X_spec_l4Param := OkX.of_ex (cf := cf_spec_l4Param) (np := 2) (LL := []) (J := (fun _ _ _ _ => none)) CT_ok rfl Try.func159 rfl (Nat.le_of_ble_eq_true rfl) (by decide) cok_spec_l4Param okc_spec_l4Param (fun k => noLoops rfl) (fun args m r h => match args, h with
    | [t0, t1], h => ⟨rfl, (xe_spec_l4Param t0 t1 m).trans h⟩)
theorem ok_C_spec_l4Param : OkC CT 159 C_spec_l4Param := rcall_ok rfl ok_X_spec_l4Param

/-! ### spec.l4Step -/
noncomputable def cf_spec_l4Step : CallF := cfc 112 C_spec_l4Copy (cfc 158 C_spec_l4Escape (cfc 159 C_spec_l4Param cfn))
noncomputable def X_spec_l4Step : List Value → Mem → Option VM
  | [t0, t1], m =>
    (boxX m t0) |> bo fun r1 =>
    (alX r1.2 [.int .i64 0, .int .i64 0, .int .i64 0, .bool false, .slice none 0 0]) |> bo fun r2 =>
    (alX r2.2 [.int .i64 0, .int .i64 0, .bool false, .slice none 0 0]) |> bo fun r3 =>
    (binX .eql .no t1 (.int .i64 24)) |> bo fun t8 =>
    (gd t8 false (some (t1, r3.2)) r3.2) |> bo fun r5 =>
    (gd t8 false ((binX .eql .no r5.1 (.int .i64 26)) |> bo fun v => some (v, r5.2)) r5.2) |> bo fun r6 =>
    (pickX t8 (.bool true) r6.1) |> bo fun t12 =>
    brX t12
      (
        (bldX [.int .i64 0, .int .i64 0, .int .i64 0, .bool false, .slice none 0 0] []) |> bo fun t13 =>
        (bldX [.int .i64 0, .int .i64 0, .bool false, .slice none 0 0] []) |> bo fun t14 =>
        (stX r6.2 5 r2.1 t13) |> bo fun m10 =>
        (stX m10 4 r3.1 t14) |> bo fun m11 =>
        (resP (some 5) m11 r2.1) |> bo fun c12 =>
        (resP (some 4) m11 r3.1) |> bo fun c13 =>
        retK m.length m11 [t0, t1] (.tuple #[c12, c13]))
      (
        (binX .eql .no t1 (.int .i64 27)) |> bo fun t17 =>
        brX t17
          (
            (bldX [.int .i64 0, .int .i64 0, .int .i64 0, .bool false, .slice none 0 0] []) |> bo fun t18 =>
            (bldX [.int .i64 0, .int .i64 0, .bool false, .slice none 0 0] [(0, 1, (.int .i64 1))]) |> bo fun t19 =>
            (stX r6.2 5 r2.1 t18) |> bo fun m17 =>
            (stX m17 4 r3.1 t19) |> bo fun m18 =>
            (resP (some 5) m18 r2.1) |> bo fun c19 =>
            (resP (some 4) m18 r3.1) |> bo fun c20 =>
            retK m.length m18 [t0, t1] (.tuple #[c19, c20]))
          (
            (binX .lss .no t1 (.int .i64 32)) |> bo fun t22 =>
            brX t22
              (
                (bldX [.int .i64 0, .int .i64 0, .int .i64 0, .bool false, .slice none 0 0] [(0, 1, (.int .i64 2)), (1, 1, t1)]) |> bo fun t24 =>
                (ldS r6.2 4 r1.1) |> bo fun t25 =>
                (C_spec_l4Copy [t25] r6.2) |> bo fun r24 =>
                (stX r24.2 5 r2.1 t24) |> bo fun m25 =>
                (stX m25 4 r3.1 r24.1) |> bo fun m26 =>
                (resP (some 5) m26 r2.1) |> bo fun c27 =>
                (resP (some 4) m26 r3.1) |> bo fun c28 =>
                retK m.length m26 [t0, t1] (.tuple #[c27, c28]))
              (
                (binX .eql .no t1 (.int .i64 127)) |> bo fun t29 =>
                brX t29
                  (
                    (bldX [.int .i64 0, .int .i64 0, .int .i64 0, .bool false, .slice none 0 0] []) |> bo fun t30 =>
                    (ldS r6.2 4 r1.1) |> bo fun t31 =>
                    (C_spec_l4Copy [t31] r6.2) |> bo fun r32 =>
                    (stX r32.2 5 r2.1 t30) |> bo fun m33 =>
                    (stX m33 4 r3.1 r32.1) |> bo fun m34 =>
                    (resP (some 5) m34 r2.1) |> bo fun c35 =>
                    (resP (some 4) m34 r3.1) |> bo fun c36 =>
                    retK m.length m34 [t0, t1] (.tuple #[c35, c36]))
                  (
                    (fadX 0 r1.1) |> bo fun t33 =>
                    (ld1 r6.2 t33) |> bo fun t34 =>
                    (binX .eql .no t34 (.int .i64 1)) |> bo fun t36 =>
                    brX t36
                      (
                        (C_spec_l4Escape [t1] r6.2) |> bo fun r40 =>
                        (extX 0 r40.1) |> bo fun t39 =>
                        (extX 1 r40.1) |> bo fun t40 =>
                        (stX r40.2 5 r2.1 t39) |> bo fun m43 =>
                        (stX m43 4 r3.1 t40) |> bo fun m44 =>
                        (resP (some 5) m44 r2.1) |> bo fun c45 =>
                        (resP (some 4) m44 r3.1) |> bo fun c46 =>
                        retK m.length m44 [t0, t1] (.tuple #[c45, c46]))
                      (
                        (binX .eql .no t34 (.int .i64 3)) |> bo fun t42 =>
                        brX t42
                          (
                            (fadX 1 r1.1) |> bo fun t44 =>
                            (ld1 r6.2 t44) |> bo fun t45 =>
                            (bldX [.int .i64 0, .int .i64 0, .int .i64 0, .bool false, .slice none 0 0] [(0, 1, (.int .i64 5)), (1, 1, t1), (2, 1, t45)]) |> bo fun t46 =>
                            (bldX [.int .i64 0, .int .i64 0, .bool false, .slice none 0 0] []) |> bo fun t47 =>
                            (stX r6.2 5 r2.1 t46) |> bo fun m52 =>
                            (stX m52 4 r3.1 t47) |> bo fun m53 =>
                            (resP (some 5) m53 r2.1) |> bo fun c54 =>
                            (resP (some 4) m53 r3.1) |> bo fun c55 =>
                            retK m.length m53 [t0, t1] (.tuple #[c54, c55]))
                          (
                            (binX .eql .no t34 (.int .i64 2)) |> bo fun t49 =>
                            brX t49
                              (
                                (ldS r6.2 4 r1.1) |> bo fun t50 =>
                                (C_spec_l4Copy [t50] r6.2) |> bo fun r58 =>
                                (C_spec_l4Param [r58.1, t1] r58.2) |> bo fun r59 =>
                                (extX 0 r59.1) |> bo fun t54 =>
                                (extX 1 r59.1) |> bo fun t55 =>
                                (stX r59.2 5 r2.1 t54) |> bo fun m62 =>
                                (stX m62 4 r3.1 t55) |> bo fun m63 =>
                                (resP (some 5) m63 r2.1) |> bo fun c64 =>
                                (resP (some 4) m63 r3.1) |> bo fun c65 =>
                                retK m.length m63 [t0, t1] (.tuple #[c64, c65]))
                              (
                                (bldX [.int .i64 0, .int .i64 0, .int .i64 0, .bool false, .slice none 0 0] [(0, 1, (.int .i64 1)), (1, 1, t1)]) |> bo fun t57 =>
                                (bldX [.int .i64 0, .int .i64 0, .bool false, .slice none 0 0] []) |> bo fun t58 =>
                                (stX r6.2 5 r2.1 t57) |> bo fun m68 =>
                                (stX m68 4 r3.1 t58) |> bo fun m69 =>
                                (resP (some 5) m69 r2.1) |> bo fun c70 =>
                                (resP (some 4) m69 r3.1) |> bo fun c71 =>
                                retK m.length m69 [t0, t1] (.tuple #[c70, c71]))))))))
  | _, _ => none
noncomputable def C_spec_l4Step : List Value → Mem → Option VM := fcall X_spec_l4Step
@[simp] theorem c_spec_l4Step : C_spec_l4Step = fcall X_spec_l4Step := (rfl)
theorem cok_spec_l4Step : codeOk CT Try.f103 (Try.f103.body.get rfl) = true := by kernel_rfl
theorem xe_spec_l4Step (t0 t1 : Value) (m : Mem) : ex CT cf_spec_l4Step Try.f103 2 m.length [] (fun _ _ _ => none) 400 [.code (Try.f103.body.get rfl)] (argsT 0 [t0, t1]) m = X_spec_l4Step [t0, t1] m := by kernel_rfl
theorem okc_spec_l4Step : CallOK CT cf_spec_l4Step := cfc_ok ok_C_spec_l4Copy (cfc_ok ok_C_spec_l4Escape (cfc_ok ok_C_spec_l4Param cfn_ok))
theorem ok_X_spec_l4Step : OkX CT 103 X_spec_l4Step := OkX.of_ex (cf := cf_spec_l4Step) (np := 2) (LL := []) (J := (fun _ _ _ _ => none)) CT_ok rfl Try.func103 rfl (Nat.le_of_ble_eq_true rfl) (by decide) cok_spec_l4Step okc_spec_l4Step (fun k => noLoops rfl) (fun args m r h => match args, h with
    | [t0, t1], h => ⟨rfl, (xe_spec_l4Step t0 t1 m).trans h⟩)
theorem ok_C_spec_l4Step : OkC CT 103 C_spec_l4Step := fcall_ok rfl ok_X_spec_l4Step

/-! ### spec.l1Digits -/
noncomputable def R_spec_l1Digits : Nat → List Value → Mem → Option VM
  | q + 1, [t0], m =>
    (binX .lss .no t0 (.int .i64 10)) |> bo fun t4 =>
    brX t4
      (
        (binX .add .no (.int .i64 48) t0) |> bo fun t6 =>
        (cvI .u8 t6) |> bo fun t7 =>
        (bslX m 1 1 [.int .u8 0] [(0, 1, t7)]) |> bo fun r4 =>
        (cvBS r4.2 r4.1) |> bo fun t9 =>
        retK m.length r4.2 [t0] t9)
      (
        (binX .quo .no t0 (.int .i64 10)) |> bo fun t11 =>
        ((fcall (R_spec_l1Digits q)) [t11] m) |> bo fun r7 =>
        (binX .rem .no t0 (.int .i64 10)) |> bo fun t14 =>
        (binX .add .no (.int .i64 48) t14) |> bo fun t15 =>
        (cvI .u8 t15) |> bo fun t16 =>
        (bslX r7.2 1 1 [.int .u8 0] [(0, 1, t16)]) |> bo fun r11 =>
        (cvBS r11.2 r11.1) |> bo fun t18 =>
        (binX .add .no r7.1 t18) |> bo fun t19 =>
        gP (stbL [((rdN r11.1), m, r7.2)])
          (
            retK m.length r11.2 [t0] t19))
  | _, _, _ => none
noncomputable def X_spec_l1Digits : List Value → Mem → Option VM := R_spec_l1Digits QQ
noncomputable def cf_spec_l1Digits (q : Nat) : CallF := cfc 182 (fcall (R_spec_l1Digits q)) (cfn)
noncomputable def C_spec_l1Digits : List Value → Mem → Option VM := fcall X_spec_l1Digits
@[simp] theorem c_spec_l1Digits : C_spec_l1Digits = fcall X_spec_l1Digits := (rfl)
theorem cok_spec_l1Digits : codeOk CT Try.f182 (Try.f182.body.get rfl) = true := by kernel_rfl
theorem xe_spec_l1Digits (q : Nat) (t0 : Value) (m : Mem) : ex CT (cf_spec_l1Digits q) Try.f182 1 m.length [] (fun _ _ _ => none) 400 [.code (Try.f182.body.get rfl)] (argsT 0 [t0]) m = R_spec_l1Digits (q + 1) [t0] m := by kernel_rfl
theorem ok_R_spec_l1Digits : ∀ q, OkX CT 182 (R_spec_l1Digits q)
  | 0 => fun args m v m' h => by cases h
  | q + 1 => OkX.of_ex (cf := cf_spec_l1Digits q) (np := 1) (LL := []) (J := fun _ _ _ _ => none) CT_ok rfl Try.func182 rfl (Nat.le_of_ble_eq_true rfl) (by decide) cok_spec_l1Digits (cfc_ok (fcall_ok rfl (ok_R_spec_l1Digits q)) (cfn_ok)) (fun k => noLoops rfl) (fun args m r h => match args, h with
    | [t0], h => ⟨rfl, (xe_spec_l1Digits q t0 m).trans h⟩)
theorem ok_X_spec_l1Digits : OkX CT 182 X_spec_l1Digits := ok_R_spec_l1Digits QQ
theorem ok_C_spec_l1Digits : OkC CT 182 C_spec_l1Digits := fcall_ok rfl ok_X_spec_l1Digits

/-! ### spec.l4Sequence -/
noncomputable def cf_spec_l4Sequence : CallF := cfc 87 C_spec_l1Next (cfc 94 C_spec_l1Pick (cfc 182 C_spec_l1Digits cfn))
noncomputable def L_spec_l4Sequence (k : Nat) : Nat → Nat → List Value → Mem → Option VM
  | q + 1, 0, [t0, t3, t4, t5], m =>
    (lenS' t3) |> bo fun t88 =>
    (binX .lss .no t5 t88) |> bo fun t89 =>
    brX t89
      (
        (ixsX t3 t5) |> bo fun t95 =>
        (cvI .i64 t95) |> bo fun t96 =>
        (bslX m 1 1 [.int .i64 0] [(0, 1, t96)]) |> bo fun r5 =>
        (apL r5.2 1 8 t4 r5.1) |> bo fun r6 =>
        (binX .add .no t5 (.int .i64 1)) |> bo fun t91 =>
        cutK k r6.2 [t0] [t0, t3, r6.1, t91] (L_spec_l4Sequence k q 0))
      (
        retK k m [t0] t4)
  | _, _, _, _ => none
noncomputable def J_spec_l4Sequence (k q l : Nat) : List Value → Mem → Option VM := cond (Nat.beq l 22) (L_spec_l4Sequence k q 0) (fun _ _ => none)
def LL_spec_l4Sequence : List (Nat × List Tmp) := [(22, [0, 3, 4, 5])]
noncomputable def X_spec_l4Sequence : List Value → Mem → Option VM
  | [t0], m =>
    (C_spec_l1Next [t0, (.int .i64 10)] m) |> bo fun r1 =>
    (binX .eql .no r1.1 (.int .i64 0)) |> bo fun t19 =>
    brX t19
      (
        brX t19
          (
            (bslX r1.2 6 1 [.int .i64 0] [(0, 1, (.int .i64 97)), (1, 1, (.int .i64 98)), (2, 1, (.int .i64 120)), (3, 1, (.int .i64 228)), (4, 1, (.int .i64 113)), (5, 1, (.int .i64 32))]) |> bo fun r3 =>
            (C_spec_l1Pick [t0, r3.1] r3.2) |> bo fun r4 =>
            (bslX r4.2 1 1 [.int .i64 0] [(0, 1, r4.1)]) |> bo fun r5 =>
            retK m.length r5.2 [t0] r5.1)
          (
            (binX .eql .no r1.1 (.int .i64 3)) |> bo fun t27 =>
            brX t27
              (
                (bslX r1.2 9 1 [.int .i64 0] [(0, 1, (.int .i64 7)), (1, 1, (.int .i64 8)), (2, 1, (.int .i64 9)), (3, 1, (.int .i64 10)), (4, 1, (.int .i64 13)), (5, 1, (.int .i64 14)), (6, 1, (.int .i64 15)), (7, 1, (.int .i64 24)), (8, 1, (.int .i64 127))]) |> bo fun r7 =>
                (C_spec_l1Pick [t0, r7.1] r7.2) |> bo fun r8 =>
                (bslX r8.2 1 1 [.int .i64 0] [(0, 1, r8.1)]) |> bo fun r9 =>
                retK m.length r9.2 [t0] r9.1)
              (
                (binX .eql .no r1.1 (.int .i64 4)) |> bo fun t33 =>
                brX t33
                  (
                    (bslX r1.2 12 1 [.string .empty] [(0, 1, (.string ⟨#[99]⟩)), (1, 1, (.string ⟨#[68]⟩)), (2, 1, (.string ⟨#[69]⟩)), (3, 1, (.string ⟨#[72]⟩)), (4, 1, (.string ⟨#[77]⟩)), (5, 1, (.string ⟨#[55]⟩)), (6, 1, (.string ⟨#[56]⟩)), (7, 1, (.string ⟨#[40, 48]⟩)), (8, 1, (.string ⟨#[40, 66]⟩)), (9, 1, (.string ⟨#[41, 48]⟩)), (10, 1, (.string ⟨#[40, 85]⟩)), (11, 1, (.string ⟨#[35]⟩))]) |> bo fun r11 =>
                    (C_spec_l1Next [t0, (.int .i64 12)] r11.2) |> bo fun r12 =>
                    (ixaX 1 r11.1 r12.1) |> bo fun t37 =>
                    (ld1 r12.2 t37) |> bo fun t38 =>
                    (binX .add .no (.string ⟨#[27]⟩) t38) |> bo fun t39 =>
                    (bslX r12.2 0 1 [.int .i64 0] []) |> bo fun r16 =>
                    cutK m.length r16.2 [t0] [t0, t39, r16.1, (.int .i64 0)] (L_spec_l4Sequence m.length QQ 0))
                  (
                    (binX .eql .no r1.1 (.int .i64 5)) |> bo fun t41 =>
                    brX t41
                      (
                        (C_spec_l1Next [t0, (.int .i64 4)] r1.2) |> bo fun r18 =>
                        (binX .add .no (.int .i64 1) r18.1) |> bo fun t44 =>
                        (C_spec_l1Digits [t44] r18.2) |> bo fun r20 =>
                        (binX .add .no (.string ⟨#[27, 91]⟩) r20.1) |> bo fun t46 =>
                        (binX .add .no t46 (.string ⟨#[59]⟩)) |> bo fun t47 =>
                        (C_spec_l1Next [t0, (.int .i64 4)] r20.2) |> bo fun r23 =>
                        (binX .add .no (.int .i64 1) r23.1) |> bo fun t50 =>
                        (C_spec_l1Digits [t50] r23.2) |> bo fun r25 =>
                        (binX .add .no t47 r25.1) |> bo fun t52 =>
                        (binX .add .no t52 (.string ⟨#[72]⟩)) |> bo fun t53 =>
                        (bslX r25.2 0 1 [.int .i64 0] []) |> bo fun r28 =>
                        cutK m.length r28.2 [t0] [t0, t53, r28.1, (.int .i64 0)] (L_spec_l4Sequence m.length QQ 0))
                      (
                        (binX .eql .no r1.1 (.int .i64 6)) |> bo fun t55 =>
                        brX t55
                          (
                            (bslX r1.2 8 1 [.string .empty] [(0, 1, (.string ⟨#[]⟩)), (1, 1, (.string ⟨#[49]⟩)), (2, 1, (.string ⟨#[55]⟩)), (3, 1, (.string ⟨#[51, 49]⟩)), (4, 1, (.string ⟨#[48]⟩)), (5, 1, (.string ⟨#[50, 55]⟩)), (6, 1, (.string ⟨#[50, 50]⟩)), (7, 1, (.string ⟨#[55, 59, 51, 50]⟩))]) |> bo fun r30 =>
                            (C_spec_l1Next [t0, (.int .i64 8)] r30.2) |> bo fun r31 =>
                            (ixaX 1 r30.1 r31.1) |> bo fun t59 =>
                            (ld1 r31.2 t59) |> bo fun t60 =>
                            (binX .add .no (.string ⟨#[27, 91]⟩) t60) |> bo fun t61 =>
                            (binX .add .no t61 (.string ⟨#[109]⟩)) |> bo fun t62 =>
                            (bslX r31.2 0 1 [.int .i64 0] []) |> bo fun r36 =>
                            cutK m.length r36.2 [t0] [t0, t62, r36.1, (.int .i64 0)] (L_spec_l4Sequence m.length QQ 0))
                          (
                            (binX .eql .no r1.1 (.int .i64 7)) |> bo fun t64 =>
                            brX t64
                              (
                                (bslX r1.2 5 1 [.string .empty] [(0, 1, (.string ⟨#[54]⟩)), (1, 1, (.string ⟨#[55]⟩)), (2, 1, (.string ⟨#[54]⟩)), (3, 1, (.string ⟨#[55]⟩)), (4, 1, (.string ⟨#[57]⟩))]) |> bo fun r38 =>
                                (C_spec_l1Next [t0, (.int .i64 5)] r38.2) |> bo fun r39 =>
                                (ixaX 1 r38.1 r39.1) |> bo fun t68 =>
                                (ld1 r39.2 t68) |> bo fun t69 =>
                                (binX .add .no (.string ⟨#[27, 91, 63]⟩) t69) |> bo fun t70 =>
                                (bslX r39.2 2 1 [.string .empty] [(0, 1, (.string ⟨#[104]⟩)), (1, 1, (.string ⟨#[108]⟩))]) |> bo fun r43 =>
                                (C_spec_l1Next [t0, (.int .i64 2)] r43.2) |> bo fun r44 =>
                                (ixaX 1 r43.1 r44.1) |> bo fun t74 =>
                                (ld1 r44.2 t74) |> bo fun t75 =>
                                (binX .add .no t70 t75) |> bo fun t76 =>
                                gP (stbL [((rdN t68), r43.2, r44.2)])
                                  (
                                    (bslX r44.2 0 1 [.int .i64 0] []) |> bo fun r48 =>
                                    cutK m.length r48.2 [t0] [t0, t76, r48.1, (.int .i64 0)] (L_spec_l4Sequence m.length QQ 0)))
                              (
                                (binX .eql .no r1.1 (.int .i64 8)) |> bo fun t78 =>
                                brX t78
                                  (
                                    (bslX r1.2 10 1 [.string .empty] [(0, 1, (.string ⟨#[50, 59, 51, 114]⟩)), (1, 1, (.string ⟨#[114]⟩)), (2, 1, (.string ⟨#[52, 104]⟩)), (3, 1, (.string ⟨#[52, 108]⟩)), (4, 1, (.string ⟨#[51, 103]⟩)), (5, 1, (.string ⟨#[103]⟩)), (6, 1, (.string ⟨#[115]⟩)), (7, 1, (.string ⟨#[117]⟩)), (8, 1, (.string ⟨#[49, 59, 50, 59, 51, 59, 52, 59, 53, 59, 54, 59, 55, 72]⟩)), (9, 1, (.string ⟨#[57, 57, 57, 57, 57, 65]⟩))]) |> bo fun r50 =>
                                    (C_spec_l1Next [t0, (.int .i64 10)] r50.2) |> bo fun r51 =>
                                    (ixaX 1 r50.1 r51.1) |> bo fun t82 =>
                                    (ld1 r51.2 t82) |> bo fun t83 =>
                                    (binX .add .no (.string ⟨#[27, 91]⟩) t83) |> bo fun t84 =>
                                    (bslX r51.2 0 1 [.int .i64 0] []) |> bo fun r55 =>
                                    cutK m.length r55.2 [t0] [t0, t84, r55.1, (.int .i64 0)] (L_spec_l4Sequence m.length QQ 0))
                                  (
                                    (C_spec_l1Next [t0, (.int .i64 4)] r1.2) |> bo fun r56 =>
                                    (C_spec_l1Digits [r56.1] r56.2) |> bo fun r57 =>
                                    (binX .add .no (.string ⟨#[27, 91]⟩) r57.1) |> bo fun t11 =>
                                    (bslX r57.2 17 1 [.string .empty] [(0, 1, (.string ⟨#[65]⟩)), (1, 1, (.string ⟨#[66]⟩)), (2, 1, (.string ⟨#[67]⟩)), (3, 1, (.string ⟨#[68]⟩)), (4, 1, (.string ⟨#[69]⟩)), (5, 1, (.string ⟨#[70]⟩)), (6, 1, (.string ⟨#[71]⟩)), (7, 1, (.string ⟨#[100]⟩)), (8, 1, (.string ⟨#[74]⟩)), (9, 1, (.string ⟨#[75]⟩)), (10, 1, (.string ⟨#[76]⟩)), (11, 1, (.string ⟨#[77]⟩)), (12, 1, (.string ⟨#[80]⟩)), (13, 1, (.string ⟨#[64]⟩)), (14, 1, (.string ⟨#[88]⟩)), (15, 1, (.string ⟨#[83]⟩)), (16, 1, (.string ⟨#[84]⟩))]) |> bo fun r59 =>
                                    (C_spec_l1Next [t0, (.int .i64 17)] r59.2) |> bo fun r60 =>
                                    (ixaX 1 r59.1 r60.1) |> bo fun t15 =>
                                    (ld1 r60.2 t15) |> bo fun t16 =>
                                    (binX .add .no t11 t16) |> bo fun t17 =>
                                    (bslX r60.2 0 1 [.int .i64 0] []) |> bo fun r64 =>
                                    cutK m.length r64.2 [t0] [t0, t17, r64.1, (.int .i64 0)] (L_spec_l4Sequence m.length QQ 0)))))))))
      (
        (binX .eql .no r1.1 (.int .i64 1)) |> bo fun t20 =>
        brX t20
          (
            brX t20
              (
                (bslX r1.2 6 1 [.int .i64 0] [(0, 1, (.int .i64 97)), (1, 1, (.int .i64 98)), (2, 1, (.int .i64 120)), (3, 1, (.int .i64 228)), (4, 1, (.int .i64 113)), (5, 1, (.int .i64 32))]) |> bo fun r66 =>
                (C_spec_l1Pick [t0, r66.1] r66.2) |> bo fun r67 =>
                (bslX r67.2 1 1 [.int .i64 0] [(0, 1, r67.1)]) |> bo fun r68 =>
                retK m.length r68.2 [t0] r68.1)
              (
                (binX .eql .no r1.1 (.int .i64 3)) |> bo fun t27 =>
                brX t27
                  (
                    (bslX r1.2 9 1 [.int .i64 0] [(0, 1, (.int .i64 7)), (1, 1, (.int .i64 8)), (2, 1, (.int .i64 9)), (3, 1, (.int .i64 10)), (4, 1, (.int .i64 13)), (5, 1, (.int .i64 14)), (6, 1, (.int .i64 15)), (7, 1, (.int .i64 24)), (8, 1, (.int .i64 127))]) |> bo fun r70 =>
                    (C_spec_l1Pick [t0, r70.1] r70.2) |> bo fun r71 =>
                    (bslX r71.2 1 1 [.int .i64 0] [(0, 1, r71.1)]) |> bo fun r72 =>
                    retK m.length r72.2 [t0] r72.1)
                  (
                    (binX .eql .no r1.1 (.int .i64 4)) |> bo fun t33 =>
                    brX t33
                      (
                        (bslX r1.2 12 1 [.string .empty] [(0, 1, (.string ⟨#[99]⟩)), (1, 1, (.string ⟨#[68]⟩)), (2, 1, (.string ⟨#[69]⟩)), (3, 1, (.string ⟨#[72]⟩)), (4, 1, (.string ⟨#[77]⟩)), (5, 1, (.string ⟨#[55]⟩)), (6, 1, (.string ⟨#[56]⟩)), (7, 1, (.string ⟨#[40, 48]⟩)), (8, 1, (.string ⟨#[40, 66]⟩)), (9, 1, (.string ⟨#[41, 48]⟩)), (10, 1, (.string ⟨#[40, 85]⟩)), (11, 1, (.string ⟨#[35]⟩))]) |> bo fun r74 =>
                        (C_spec_l1Next [t0, (.int .i64 12)] r74.2) |> bo fun r75 =>
                        (ixaX 1 r74.1 r75.1) |> bo fun t37 =>
                        (ld1 r75.2 t37) |> bo fun t38 =>
                        (binX .add .no (.string ⟨#[27]⟩) t38) |> bo fun t39 =>
                        (bslX r75.2 0 1 [.int .i64 0] []) |> bo fun r79 =>
                        cutK m.length r79.2 [t0] [t0, t39, r79.1, (.int .i64 0)] (L_spec_l4Sequence m.length QQ 0))
                      (
                        (binX .eql .no r1.1 (.int .i64 5)) |> bo fun t41 =>
                        brX t41
                          (
                            (C_spec_l1Next [t0, (.int .i64 4)] r1.2) |> bo fun r81 =>
                            (binX .add .no (.int .i64 1) r81.1) |> bo fun t44 =>
                            (C_spec_l1Digits [t44] r81.2) |> bo fun r83 =>
                            (binX .add .no (.string ⟨#[27, 91]⟩) r83.1) |> bo fun t46 =>
                            (binX .add .no t46 (.string ⟨#[59]⟩)) |> bo fun t47 =>
                            (C_spec_l1Next [t0, (.int .i64 4)] r83.2) |> bo fun r86 =>
                            (binX .add .no (.int .i64 1) r86.1) |> bo fun t50 =>
                            (C_spec_l1Digits [t50] r86.2) |> bo fun r88 =>
                            (binX .add .no t47 r88.1) |> bo fun t52 =>
                            (binX .add .no t52 (.string ⟨#[72]⟩)) |> bo fun t53 =>
                            (bslX r88.2 0 1 [.int .i64 0] []) |> bo fun r91 =>
                            cutK m.length r91.2 [t0] [t0, t53, r91.1, (.int .i64 0)] (L_spec_l4Sequence m.length QQ 0))
                          (
                            (binX .eql .no r1.1 (.int .i64 6)) |> bo fun t55 =>
                            brX t55
                              (
                                (bslX r1.2 8 1 [.string .empty] [(0, 1, (.string ⟨#[]⟩)), (1, 1, (.string ⟨#[49]⟩)), (2, 1, (.string ⟨#[55]⟩)), (3, 1, (.string ⟨#[51, 49]⟩)), (4, 1, (.string ⟨#[48]⟩)), (5, 1, (.string ⟨#[50, 55]⟩)), (6, 1, (.string ⟨#[50, 50]⟩)), (7, 1, (.string ⟨#[55, 59, 51, 50]⟩))]) |> bo fun r93 =>
                                (C_spec_l1Next [t0, (.int .i64 8)] r93.2) |> bo fun r94 =>
                                (ixaX 1 r93.1 r94.1) |> bo fun t59 =>
                                (ld1 r94.2 t59) |> bo fun t60 =>
                                (binX .add .no (.string ⟨#[27, 91]⟩) t60) |> bo fun t61 =>
                                (binX .add .no t61 (.string ⟨#[109]⟩)) |> bo fun t62 =>
                                (bslX r94.2 0 1 [.int .i64 0] []) |> bo fun r99 =>
                                cutK m.length r99.2 [t0] [t0, t62, r99.1, (.int .i64 0)] (L_spec_l4Sequence m.length QQ 0))
                              (
                                (binX .eql .no r1.1 (.int .i64 7)) |> bo fun t64 =>
                                brX t64
                                  (
                                    (bslX r1.2 5 1 [.string .empty] [(0, 1, (.string ⟨#[54]⟩)), (1, 1, (.string ⟨#[55]⟩)), (2, 1, (.string ⟨#[54]⟩)), (3, 1, (.string ⟨#[55]⟩)), (4, 1, (.string ⟨#[57]⟩))]) |> bo fun r101 =>
                                    (C_spec_l1Next [t0, (.int .i64 5)] r101.2) |> bo fun r102 =>
                                    (ixaX 1 r101.1 r102.1) |> bo fun t68 =>
                                    (ld1 r102.2 t68) |> bo fun t69 =>
                                    (binX .add .no (.string ⟨#[27, 91, 63]⟩) t69) |> bo fun t70 =>
                                    (bslX r102.2 2 1 [.string .empty] [(0, 1, (.string ⟨#[104]⟩)), (1, 1, (.string ⟨#[108]⟩))]) |> bo fun r106 =>
                                    (C_spec_l1Next [t0, (.int .i64 2)] r106.2) |> bo fun r107 =>
                                    (ixaX 1 r106.1 r107.1) |> bo fun t74 =>
                                    (ld1 r107.2 t74) |> bo fun t75 =>
                                    (binX .add .no t70 t75) |> bo fun t76 =>
                                    gP (stbL [((rdN t68), r106.2, r107.2)])
                                      (
                                        (bslX r107.2 0 1 [.int .i64 0] []) |> bo fun r111 =>
                                        cutK m.length r111.2 [t0] [t0, t76, r111.1, (.int .i64 0)] (L_spec_l4Sequence m.length QQ 0)))
                                  (
                                    (binX .eql .no r1.1 (.int .i64 8)) |> bo fun t78 =>
                                    brX t78
                                      (
                                        (bslX r1.2 10 1 [.string .empty] [(0, 1, (.string ⟨#[50, 59, 51, 114]⟩)), (1, 1, (.string ⟨#[114]⟩)), (2, 1, (.string ⟨#[52, 104]⟩)), (3, 1, (.string ⟨#[52, 108]⟩)), (4, 1, (.string ⟨#[51, 103]⟩)), (5, 1, (.string ⟨#[103]⟩)), (6, 1, (.string ⟨#[115]⟩)), (7, 1, (.string ⟨#[117]⟩)), (8, 1, (.string ⟨#[49, 59, 50, 59, 51, 59, 52, 59, 53, 59, 54, 59, 55, 72]⟩)), (9, 1, (.string ⟨#[57, 57, 57, 57, 57, 65]⟩))]) |> bo fun r113 =>
                                        (C_spec_l1Next [t0, (.int .i64 10)] r113.2) |> bo fun r114 =>
                                        (ixaX 1 r113.1 r114.1) |> bo fun t82 =>
                                        (ld1 r114.2 t82) |> bo fun t83 =>
                                        (binX .add .no (.string ⟨#[27, 91]⟩) t83) |> bo fun t84 =>
                                        (bslX r114.2 0 1 [.int .i64 0] []) |> bo fun r118 =>
                                        cutK m.length r118.2 [t0] [t0, t84, r118.1, (.int .i64 0)] (L_spec_l4Sequence m.length QQ 0))
                                      (
                                        (C_spec_l1Next [t0, (.int .i64 4)] r1.2) |> bo fun r119 =>
                                        (C_spec_l1Digits [r119.1] r119.2) |> bo fun r120 =>
                                        (binX .add .no (.string ⟨#[27, 91]⟩) r120.1) |> bo fun t11 =>
                                        (bslX r120.2 17 1 [.string .empty] [(0, 1, (.string ⟨#[65]⟩)), (1, 1, (.string ⟨#[66]⟩)), (2, 1, (.string ⟨#[67]⟩)), (3, 1, (.string ⟨#[68]⟩)), (4, 1, (.string ⟨#[69]⟩)), (5, 1, (.string ⟨#[70]⟩)), (6, 1, (.string ⟨#[71]⟩)), (7, 1, (.string ⟨#[100]⟩)), (8, 1, (.string ⟨#[74]⟩)), (9, 1, (.string ⟨#[75]⟩)), (10, 1, (.string ⟨#[76]⟩)), (11, 1, (.string ⟨#[77]⟩)), (12, 1, (.string ⟨#[80]⟩)), (13, 1, (.string ⟨#[64]⟩)), (14, 1, (.string ⟨#[88]⟩)), (15, 1, (.string ⟨#[83]⟩)), (16, 1, (.string ⟨#[84]⟩))]) |> bo fun r122 =>
                                        (C_spec_l1Next [t0, (.int .i64 17)] r122.2) |> bo fun r123 =>
                                        (ixaX 1 r122.1 r123.1) |> bo fun t15 =>
                                        (ld1 r123.2 t15) |> bo fun t16 =>
                                        (binX .add .no t11 t16) |> bo fun t17 =>
                                        (bslX r123.2 0 1 [.int .i64 0] []) |> bo fun r127 =>
                                        cutK m.length r127.2 [t0] [t0, t17, r127.1, (.int .i64 0)] (L_spec_l4Sequence m.length QQ 0)))))))))
          (
            (binX .eql .no r1.1 (.int .i64 2)) |> bo fun t21 =>
            brX t21
              (
                (bslX r1.2 6 1 [.int .i64 0] [(0, 1, (.int .i64 97)), (1, 1, (.int .i64 98)), (2, 1, (.int .i64 120)), (3, 1, (.int .i64 228)), (4, 1, (.int .i64 113)), (5, 1, (.int .i64 32))]) |> bo fun r129 =>
                (C_spec_l1Pick [t0, r129.1] r129.2) |> bo fun r130 =>
                (bslX r130.2 1 1 [.int .i64 0] [(0, 1, r130.1)]) |> bo fun r131 =>
                retK m.length r131.2 [t0] r131.1)
              (
                (binX .eql .no r1.1 (.int .i64 3)) |> bo fun t27 =>
                brX t27
                  (
                    (bslX r1.2 9 1 [.int .i64 0] [(0, 1, (.int .i64 7)), (1, 1, (.int .i64 8)), (2, 1, (.int .i64 9)), (3, 1, (.int .i64 10)), (4, 1, (.int .i64 13)), (5, 1, (.int .i64 14)), (6, 1, (.int .i64 15)), (7, 1, (.int .i64 24)), (8, 1, (.int .i64 127))]) |> bo fun r133 =>
                    (C_spec_l1Pick [t0, r133.1] r133.2) |> bo fun r134 =>
                    (bslX r134.2 1 1 [.int .i64 0] [(0, 1, r134.1)]) |> bo fun r135 =>
                    retK m.length r135.2 [t0] r135.1)
                  (
                    (binX .eql .no r1.1 (.int .i64 4)) |> bo fun t33 =>
                    brX t33
                      (
                        (bslX r1.2 12 1 [.string .empty] [(0, 1, (.string ⟨#[99]⟩)), (1, 1, (.string ⟨#[68]⟩)), (2, 1, (.string ⟨#[69]⟩)), (3, 1, (.string ⟨#[72]⟩)), (4, 1, (.string ⟨#[77]⟩)), (5, 1, (.string ⟨#[55]⟩)), (6, 1, (.string ⟨#[56]⟩)), (7, 1, (.string ⟨#[40, 48]⟩)), (8, 1, (.string ⟨#[40, 66]⟩)), (9, 1, (.string ⟨#[41, 48]⟩)), (10, 1, (.string ⟨#[40, 85]⟩)), (11, 1, (.string ⟨#[35]⟩))]) |> bo fun r137 =>
                        (C_spec_l1Next [t0, (.int .i64 12)] r137.2) |> bo fun r138 =>
                        (ixaX 1 r137.1 r138.1) |> bo fun t37 =>
                        (ld1 r138.2 t37) |> bo fun t38 =>
                        (binX .add .no (.string ⟨#[27]⟩) t38) |> bo fun t39 =>
                        (bslX r138.2 0 1 [.int .i64 0] []) |> bo fun r142 =>
                        cutK m.length r142.2 [t0] [t0, t39, r142.1, (.int .i64 0)] (L_spec_l4Sequence m.length QQ 0))
                      (
                        (binX .eql .no r1.1 (.int .i64 5)) |> bo fun t41 =>
                        brX t41
                          (
                            (C_spec_l1Next [t0, (.int .i64 4)] r1.2) |> bo fun r144 =>
                            (binX .add .no (.int .i64 1) r144.1) |> bo fun t44 =>
                            (C_spec_l1Digits [t44] r144.2) |> bo fun r146 =>
                            (binX .add .no (.string ⟨#[27, 91]⟩) r146.1) |> bo fun t46 =>
                            (binX .add .no t46 (.string ⟨#[59]⟩)) |> bo fun t47 =>
                            (C_spec_l1Next [t0, (.int .i64 4)] r146.2) |> bo fun r149 =>
                            (binX .add .no (.int .i64 1) r149.1) |> bo fun t50 =>
                            (C_spec_l1Digits [t50] r149.2) |> bo fun r151 =>
                            (binX .add .no t47 r151.1) |> bo fun t52 =>
                            (binX .add .no t52 (.string ⟨#[72]⟩)) |> bo fun t53 =>
                            (bslX r151.2 0 1 [.int .i64 0] []) |> bo fun r154 =>
                            cutK m.length r154.2 [t0] [t0, t53, r154.1, (.int .i64 0)] (L_spec_l4Sequence m.length QQ 0))
                          (
                            (binX .eql .no r1.1 (.int .i64 6)) |> bo fun t55 =>
                            brX t55
                              (
                                (bslX r1.2 8 1 [.string .empty] [(0, 1, (.string ⟨#[]⟩)), (1, 1, (.string ⟨#[49]⟩)), (2, 1, (.string ⟨#[55]⟩)), (3, 1, (.string ⟨#[51, 49]⟩)), (4, 1, (.string ⟨#[48]⟩)), (5, 1, (.string ⟨#[50, 55]⟩)), (6, 1, (.string ⟨#[50, 50]⟩)), (7, 1, (.string ⟨#[55, 59, 51, 50]⟩))]) |> bo fun r156 =>
                                (C_spec_l1Next [t0, (.int .i64 8)] r156.2) |> bo fun r157 =>
                                (ixaX 1 r156.1 r157.1) |> bo fun t59 =>
                                (ld1 r157.2 t59) |> bo fun t60 =>
                                (binX .add .no (.string ⟨#[27, 91]⟩) t60) |> bo fun t61 =>
                                (binX .add .no t61 (.string ⟨#[109]⟩)) |> bo fun t62 =>
                                (bslX r157.2 0 1 [.int .i64 0] []) |> bo fun r162 =>
                                cutK m.length r162.2 [t0] [t0, t62, r162.1, (.int .i64 0)] (L_spec_l4Sequence m.length QQ 0))
                              (
                                (binX .eql .no r1.1 (.int .i64 7)) |> bo fun t64 =>
                                brX t64
                                  (
                                    (bslX r1.2 5 1 [.string .empty] [(0, 1, (.string ⟨#[54]⟩)), (1, 1, (.string ⟨#[55]⟩)), (2, 1, (.string ⟨#[54]⟩)), (3, 1, (.string ⟨#[55]⟩)), (4, 1, (.string ⟨#[57]⟩))]) |> bo fun r164 =>
                                    (C_spec_l1Next [t0, (.int .i64 5)] r164.2) |> bo fun r165 =>
                                    (ixaX 1 r164.1 r165.1) |> bo fun t68 =>
                                    (ld1 r165.2 t68) |> bo fun t69 =>
                                    (binX .add .no (.string ⟨#[27, 91, 63]⟩) t69) |> bo fun t70 =>
                                    (bslX r165.2 2 1 [.string .empty] [(0, 1, (.string ⟨#[104]⟩)), (1, 1, (.string ⟨#[108]⟩))]) |> bo fun r169 =>
                                    (C_spec_l1Next [t0, (.int .i64 2)] r169.2) |> bo fun r170 =>
                                    (ixaX 1 r169.1 r170.1) |> bo fun t74 =>
                                    (ld1 r170.2 t74) |> bo fun t75 =>
                                    (binX .add .no t70 t75) |> bo fun t76 =>
                                    gP (stbL [((rdN t68), r169.2, r170.2)])
                                      (
                                        (bslX r170.2 0 1 [.int .i64 0] []) |> bo fun r174 =>
                                        cutK m.length r174.2 [t0] [t0, t76, r174.1, (.int .i64 0)] (L_spec_l4Sequence m.length QQ 0)))
                                  (
                                    (binX .eql .no r1.1 (.int .i64 8)) |> bo fun t78 =>
                                    brX t78
                                      (
                                        (bslX r1.2 10 1 [.string .empty] [(0, 1, (.string ⟨#[50, 59, 51, 114]⟩)), (1, 1, (.string ⟨#[114]⟩)), (2, 1, (.string ⟨#[52, 104]⟩)), (3, 1, (.string ⟨#[52, 108]⟩)), (4, 1, (.string ⟨#[51, 103]⟩)), (5, 1, (.string ⟨#[103]⟩)), (6, 1, (.string ⟨#[115]⟩)), (7, 1, (.string ⟨#[117]⟩)), (8, 1, (.string ⟨#[49, 59, 50, 59, 51, 59, 52, 59, 53, 59, 54, 59, 55, 72]⟩)), (9, 1, (.string ⟨#[57, 57, 57, 57, 57, 65]⟩))]) |> bo fun r176 =>
                                        (C_spec_l1Next [t0, (.int .i64 10)] r176.2) |> bo fun r177 =>
                                        (ixaX 1 r176.1 r177.1) |> bo fun t82 =>
                                        (ld1 r177.2 t82) |> bo fun t83 =>
                                        (binX .add .no (.string ⟨#[27, 91]⟩) t83) |> bo fun t84 =>
                                        (bslX r177.2 0 1 [.int .i64 0] []) |> bo fun r181 =>
                                        cutK m.length r181.2 [t0] [t0, t84, r181.1, (.int .i64 0)] (L_spec_l4Sequence m.length QQ 0))
                                      (
                                        (C_spec_l1Next [t0, (.int .i64 4)] r1.2) |> bo fun r182 =>
                                        (C_spec_l1Digits [r182.1] r182.2) |> bo fun r183 =>
                                        (binX .add .no (.string ⟨#[27, 91]⟩) r183.1) |> bo fun t11 =>
                                        (bslX r183.2 17 1 [.string .empty] [(0, 1, (.string ⟨#[65]⟩)), (1, 1, (.string ⟨#[66]⟩)), (2, 1, (.string ⟨#[67]⟩)), (3, 1, (.string ⟨#[68]⟩)), (4, 1, (.string ⟨#[69]⟩)), (5, 1, (.string ⟨#[70]⟩)), (6, 1, (.string ⟨#[71]⟩)), (7, 1, (.string ⟨#[100]⟩)), (8, 1, (.string ⟨#[74]⟩)), (9, 1, (.string ⟨#[75]⟩)), (10, 1, (.string ⟨#[76]⟩)), (11, 1, (.string ⟨#[77]⟩)), (12, 1, (.string ⟨#[80]⟩)), (13, 1, (.string ⟨#[64]⟩)), (14, 1, (.string ⟨#[88]⟩)), (15, 1, (.string ⟨#[83]⟩)), (16, 1, (.string ⟨#[84]⟩))]) |> bo fun r185 =>
                                        (C_spec_l1Next [t0, (.int .i64 17)] r185.2) |> bo fun r186 =>
                                        (ixaX 1 r185.1 r186.1) |> bo fun t15 =>
                                        (ld1 r186.2 t15) |> bo fun t16 =>
                                        (binX .add .no t11 t16) |> bo fun t17 =>
                                        (bslX r186.2 0 1 [.int .i64 0] []) |> bo fun r190 =>
                                        cutK m.length r190.2 [t0] [t0, t17, r190.1, (.int .i64 0)] (L_spec_l4Sequence m.length QQ 0))))))))))
  | _, _ => none
noncomputable def C_spec_l4Sequence : List Value → Mem → Option VM := rcall X_spec_l4Sequence
@[simp] theorem c_spec_l4Sequence : C_spec_l4Sequence = rcall X_spec_l4Sequence := (rfl)
theorem cok_spec_l4Sequence : codeOk CT Try.f154 (Try.f154.body.get rfl) = true := by kernel_rfl
theorem xe_spec_l4Sequence (t0 : Value) (m : Mem) : ex CT cf_spec_l4Sequence Try.f154 1 m.length LL_spec_l4Sequence (J_spec_l4Sequence m.length QQ) 400 [.code (Try.f154.body.get rfl)] (argsT 0 [t0]) m = X_spec_l4Sequence [t0] m := by kernel_rfl
theorem okc_spec_l4Sequence : CallOK CT cf_spec_l4Sequence := cfc_ok ok_C_spec_l1Next (cfc_ok ok_C_spec_l1Pick (cfc_ok ok_C_spec_l1Digits cfn_ok))
theorem le_spec_l4Sequence_0 (k q : Nat) (t0 t3 t4 t5 : Value) (m : Mem) : ex CT cf_spec_l4Sequence Try.f154 1 k LL_spec_l4Sequence (J_spec_l4Sequence k q) 400 (atLoop Try.f154 0) [(0, t0), (3, t3), (4, t4), (5, t5)] m = J_spec_l4Sequence k (q + 1) 22 [t0, t3, t4, t5] m := by kernel_rfl
theorem gl_spec_l4Sequence (k : Nat) : ∀ q i, i < 1 → GoodL CT k Try.f154 LL_spec_l4Sequence (J_spec_l4Sequence k q) (atLoop Try.f154 i)
  | 0, 0, _ => goodL_zero (l := 22) (by kernel_rfl) (fun vs m => by kernel_rfl)
  | 0, _ + 1, h => absurd h (by omega)
  | q + 1, 0, _ => goodL_succ (np := 1) (l := 22) (live := [0, 3, 4, 5]) (n := 1) CT_ok rfl okc_spec_l4Sequence (c := (Try.f154.body.get rfl)) rfl cok_spec_l4Sequence (by kernel_rfl) (gl_spec_l4Sequence k q) (by kernel_rfl) rfl (fun vs m r hl h => match vs, hl with
    | [t0, t3, t4, t5], _ => (le_spec_l4Sequence_0 k q t0 t3 t4 t5 m).trans h)
  | _ + 1, _ + 1, h => absurd h (by omega)
theorem ok_X_spec_l4Sequence : OkX CT 154 X_spec_l4Sequence := OkX.of_ex (cf := cf_spec_l4Sequence) (np := 1) (LL := LL_spec_l4Sequence) (J := (fun k => J_spec_l4Sequence k QQ)) CT_ok rfl Try.func154 rfl (Nat.le_of_ble_eq_true rfl) (by decide) cok_spec_l4Sequence okc_spec_l4Sequence (fun k => allLoops rfl (by kernel_rfl) (gl_spec_l4Sequence k QQ)) (fun args m r h => match args, h with
    | [t0], h => ⟨rfl, (xe_spec_l4Sequence t0 m).trans h⟩)
theorem ok_C_spec_l4Sequence : OkC CT 154 C_spec_l4Sequence := rcall_ok rfl ok_X_spec_l4Sequence

/-! ### spec.l4Draw -/
noncomputable def cf_spec_l4Draw : CallF := cfc 87 C_spec_l1Next (cfc 94 C_spec_l1Pick (cfc 103 C_spec_l4Step (cfc 154 C_spec_l4Sequence cfn)))
noncomputable def L_spec_l4Draw (k : Nat) : Nat → Nat → List Value → Mem → Option VM
  | q + 1, 0, [t0, t2, t3, t4, t5], m =>
    (lenX t4) |> bo fun t12 =>
    (binX .add .no t12 (.int .i64 1)) |> bo fun t13 =>
    (C_spec_l1Next [t0, t13] m) |> bo fun r3 =>
    (binX .lss .no t5 r3.1) |> bo fun t15 =>
    brX t15
      (
        (ldS r3.2 4 t3) |> bo fun t19 =>
        (ixaX 1 t4 t5) |> bo fun t22 =>
        (ld1 r3.2 t22) |> bo fun t23 =>
        (C_spec_l4Step [t19, t23] r3.2) |> bo fun r8 =>
        (extX 0 r8.1) |> bo fun t25 =>
        (extX 1 r8.1) |> bo fun t26 =>
        (stX r8.2 4 t3 t26) |> bo fun m11 =>
        (binX .add .no t5 (.int .i64 1)) |> bo fun t17 =>
        cutK k m11 [t0] [t0, t2, t3, t4, t17] (L_spec_l4Draw k q 0))
      (
        (C_spec_l1Next [t0, (.int .i64 14)] r3.2) |> bo fun r13 =>
        (binX .eql .no r13.1 (.int .i64 0)) |> bo fun t30 =>
        brX t30
          (
            (bslX r13.2 5 1 [.int .i64 0] [(0, 1, (.int .i64 (-1))), (1, 1, (.int .i64 1)), (2, 1, (.int .i64 2)), (3, 1, (.int .i64 3)), (4, 1, (.int .i64 4))]) |> bo fun r15 =>
            (C_spec_l1Pick [t0, r15.1] r15.2) |> bo fun r16 =>
            (fadX 0 t3) |> bo fun t34 =>
            (stX r16.2 1 t34 r16.1) |> bo fun m18 =>
            (ldS m18 4 t3) |> bo fun t51 =>
            (stX m18 4 t2 t51) |> bo fun m20 =>
            (resP (some 4) m20 t2) |> bo fun c21 =>
            retK k m20 [t0] c21)
          (
            (binX .eql .no r13.1 (.int .i64 1)) |> bo fun t36 =>
            brX t36
              (
                (fadX 3 t3) |> bo fun t37 =>
                (ld1 r13.2 t37) |> bo fun t38 =>
                (bslX r13.2 3 1 [.int .i64 0] [(0, 1, (.int .i64 0)), (1, 1, (.int .i64 1000)), (2, 1, (.int .i64 (-1)))]) |> bo fun r25 =>
                (C_spec_l1Pick [t0, r25.1] r25.2) |> bo fun r26 =>
                (bslX r26.2 1 1 [.int .i64 0] [(0, 1, r26.1)]) |> bo fun r27 =>
                (apL r27.2 1 8 t38 r27.1) |> bo fun r28 =>
                (fadX 3 t3) |> bo fun t44 =>
                (stX r28.2 1 t44 r28.1) |> bo fun m30 =>
                gP (stbL [((rdN t37), r25.2, r26.2)])
                  (
                    (ldS m30 4 t3) |> bo fun t51 =>
                    (stX m30 4 t2 t51) |> bo fun m32 =>
                    (resP (some 4) m32 t2) |> bo fun c33 =>
                    retK k m32 [t0] c33))
              (
                (binX .eql .no r13.1 (.int .i64 2)) |> bo fun t46 =>
                brX t46
                  (
                    (bslX r13.2 2 1 [.int .i64 0] [(0, 1, (.int .i64 1)), (1, 1, (.int .i64 3))]) |> bo fun r35 =>
                    (C_spec_l1Pick [t0, r35.1] r35.2) |> bo fun r36 =>
                    (fadX 1 t3) |> bo fun t50 =>
                    (stX r36.2 1 t50 r36.1) |> bo fun m38 =>
                    (ldS m38 4 t3) |> bo fun t51 =>
                    (stX m38 4 t2 t51) |> bo fun m40 =>
                    (resP (some 4) m40 t2) |> bo fun c41 =>
                    retK k m40 [t0] c41)
                  (
                    (ldS r13.2 4 t3) |> bo fun t51 =>
                    (stX r13.2 4 t2 t51) |> bo fun m43 =>
                    (resP (some 4) m43 t2) |> bo fun c44 =>
                    retK k m43 [t0] c44))))
  | _, _, _, _ => none
noncomputable def J_spec_l4Draw (k q l : Nat) : List Value → Mem → Option VM := cond (Nat.beq l 4) (L_spec_l4Draw k q 0) (fun _ _ => none)
def LL_spec_l4Draw : List (Nat × List Tmp) := [(4, [0, 2, 3, 4, 5])]
noncomputable def X_spec_l4Draw : List Value → Mem → Option VM
  | [t0], m =>
    (alX m [.int .i64 0, .int .i64 0, .bool false, .slice none 0 0]) |> bo fun r1 =>
    (bldX [.int .i64 0, .int .i64 0, .bool false, .slice none 0 0] []) |> bo fun t6 =>
    (alX r1.2 [.int .i64 0, .int .i64 0, .bool false, .slice none 0 0]) |> bo fun r3 =>
    (stX r3.2 4 r3.1 t6) |> bo fun m4 =>
    (C_spec_l4Sequence [t0] m4) |> bo fun r5 =>
    cutK m.length r5.2 [t0] [t0, r1.1, r3.1, r5.1, (.int .i64 0)] (L_spec_l4Draw m.length QQ 0)
  | _, _ => none
noncomputable def C_spec_l4Draw : List Value → Mem → Option VM := rcall X_spec_l4Draw
@[simp] theorem c_spec_l4Draw : C_spec_l4Draw = rcall X_spec_l4Draw := (rfl)
theorem cok_spec_l4Draw : codeOk CT Try.f100 (Try.f100.body.get rfl) = true := by kernel_rfl
theorem xe_spec_l4Draw (t0 : Value) (m : Mem) : ex CT cf_spec_l4Draw Try.f100 1 m.length LL_spec_l4Draw (J_spec_l4Draw m.length QQ) 400 [.code (Try.f100.body.get rfl)] (argsT 0 [t0]) m = X_spec_l4Draw [t0] m := by kernel_rfl
theorem okc_spec_l4Draw : CallOK CT cf_spec_l4Draw := cfc_ok ok_C_spec_l1Next (cfc_ok ok_C_spec_l1Pick (cfc_ok ok_C_spec_l4Step (cfc_ok ok_C_spec_l4Sequence cfn_ok)))
theorem le_spec_l4Draw_0 (k q : Nat) (t0 t2 t3 t4 t5 : Value) (m : Mem) : ex CT cf_spec_l4Draw Try.f100 1 k LL_spec_l4Draw (J_spec_l4Draw k q) 400 (atLoop Try.f100 0) [(0, t0), (2, t2), (3, t3), (4, t4), (5, t5)] m = J_spec_l4Draw k (q + 1) 4 [t0, t2, t3, t4, t5] m := by kernel_rfl
theorem gl_spec_l4Draw (k : Nat) : ∀ q i, i < 1 → GoodL CT k Try.f100 LL_spec_l4Draw (J_spec_l4Draw k q) (atLoop Try.f100 i)
  | 0, 0, _ => goodL_zero (l := 4) (by kernel_rfl) (fun vs m => by kernel_rfl)
  | 0, _ + 1, h => absurd h (by omega)
  | q + 1, 0, _ => goodL_succ (np := 1) (l := 4) (live := [0, 2, 3, 4, 5]) (n := 1) CT_ok rfl okc_spec_l4Draw (c := (Try.f100.body.get rfl)) rfl cok_spec_l4Draw (by kernel_rfl) (gl_spec_l4Draw k q) (by kernel_rfl) rfl (fun vs m r hl h => match vs, hl with
    | [t0, t2, t3, t4, t5], _ => (le_spec_l4Draw_0 k q t0 t2 t3 t4 t5 m).trans h)
  | _ + 1, _ + 1, h => absurd h (by omega)
theorem ok_X_spec_l4Draw : OkX CT 100 X_spec_l4Draw := OkX.of_ex (cf := cf_spec_l4Draw) (np := 1) (LL := LL_spec_l4Draw) (J := (fun k => J_spec_l4Draw k QQ)) CT_ok rfl Try.func100 rfl (Nat.le_of_ble_eq_true rfl) (by decide) cok_spec_l4Draw okc_spec_l4Draw (fun k => allLoops rfl (by kernel_rfl) (gl_spec_l4Draw k QQ)) (fun args m r h => match args, h with
    | [t0], h => ⟨rfl, (xe_spec_l4Draw t0 m).trans h⟩)
theorem ok_C_spec_l4Draw : OkC CT 100 C_spec_l4Draw := rcall_ok rfl ok_X_spec_l4Draw

/-! ### spec.DrawStepParser -/
noncomputable def cf_spec_DrawStepParser : CallF := cfc 83 C_spec_l1Source (cfc 94 C_spec_l1Pick (cfc 100 C_spec_l4Draw cfn))
noncomputable def X_spec_DrawStepParser : List Value → Mem → Option VM
  | [t0], m =>
    (alX m [.int .i64 0, .int .i64 0, .bool false, .slice none 0 0]) |> bo fun r1 =>
    (C_spec_l1Source [t0] r1.2) |> bo fun r2 =>
    (C_spec_l4Draw [r2.1] r2.2) |> bo fun r3 =>
    (bslX r3.2 14 1 [.int .i64 0] [(0, 1, (.int .i64 27)), (1, 1, (.int .i64 91)), (2, 1, (.int .i64 40)), (3, 1, (.int .i64 53)), (4, 1, (.int .i64 59)), (5, 1, (.int .i64 63)), (6, 1, (.int .i64 109)), (7, 1, (.int .i64 72)), (8, 1, (.int .i64 10)), (9, 1, (.int .i64 24)), (10, 1, (.int .i64 127)), (11, 1, (.int .i64 228)), (12, 1, (.int .i64 32)), (13, 1, (.int .i64 65536))]) |> bo fun r4 =>
    (C_spec_l1Pick [r2.1, r4.1] r4.2) |> bo fun r5 =>
    (stX r5.2 4 r1.1 r3.1) |> bo fun m6 =>
    (resP (some 4) m6 r1.1) |> bo fun c7 =>
    retK m.length m6 [t0] (.tuple #[c7, r5.1])
  | _, _ => none
noncomputable def C_spec_DrawStepParser : List Value → Mem → Option VM := icall X_spec_DrawStepParser
@[simp] theorem c_spec_DrawStepParser : C_spec_DrawStepParser = icall X_spec_DrawStepParser := (rfl)
theorem cok_spec_DrawStepParser : codeOk CT Try.f22 (Try.f22.body.get rfl) = true := by kernel_rfl
theorem xe_spec_DrawStepParser (t0 : Value) (m : Mem) : ex CT cf_spec_DrawStepParser Try.f22 1 m.length [] (fun _ _ _ => none) 400 [.code (Try.f22.body.get rfl)] (argsT 0 [t0]) m = X_spec_DrawStepParser [t0] m := by kernel_rfl
theorem okc_spec_DrawStepParser : CallOK CT cf_spec_DrawStepParser := cfc_ok ok_C_spec_l1Source (cfc_ok ok_C_spec_l1Pick (cfc_ok ok_C_spec_l4Draw cfn_ok))
theorem ok_X_spec_DrawStepParser : OkX CT 22 X_spec_DrawStepParser := OkX.of_ex (cf := cf_spec_DrawStepParser) (np := 1) (LL := []) (J := (fun _ _ _ _ => none)) CT_ok rfl Try.func22 rfl (Nat.le_of_ble_eq_true rfl) (by decide) cok_spec_DrawStepParser okc_spec_DrawStepParser (fun k => noLoops rfl) (fun args m r h => match args, h with
    | [t0], h => ⟨rfl, (xe_spec_DrawStepParser t0 m).trans h⟩)
theorem ok_C_spec_DrawStepParser : OkC CT 22 C_spec_DrawStepParser := icall_ok rfl ok_X_spec_DrawStepParser

/-! ### impl.first -/
noncomputable def cf_impl_first : CallF := cfn
noncomputable def L_impl_first (k : Nat) : Nat → Nat → List Value → Mem → Option VM
  | q + 1, 0, [t5, t6, t7], m =>
    (binX .lss .no t7 t6) |> bo fun t8 =>
    brX t8
      (
        (ixaX 1 t5 t7) |> bo fun t9 =>
        (ld1 m t9) |> bo fun t10 =>
        (binX .neq .no t10 (.int .i64 0)) |> bo fun t12 =>
        brX t12
          (
            retK k m [] t10)
          (
            (binX .add .no t7 (.int .i64 1)) |> bo fun t14 =>
            cutK k m [] [t5, t6, t14] (L_impl_first k q 0)))
      (
        retK k m [] (.int .i64 0))
  | _, _, _, _ => none
noncomputable def J_impl_first (k q l : Nat) : List Value → Mem → Option VM := cond (Nat.beq l 2) (L_impl_first k q 0) (fun _ _ => none)
def LL_impl_first : List (Nat × List Tmp) := [(2, [5, 6, 7])]
noncomputable def X_impl_first : List Value → Mem → Option VM
  | [t0], m =>
    (lenX t0) |> bo fun t6 =>
    cutK m.length m [t0] [t0, t6, (.int .i64 0)] (L_impl_first m.length QQ 0)
  | _, _ => none
noncomputable def C_impl_first : List Value → Mem → Option VM := fcall X_impl_first
@[simp] theorem c_impl_first : C_impl_first = fcall X_impl_first := (rfl)
theorem cok_impl_first : codeOk CT Try.f88 (Try.f88.body.get rfl) = true := by kernel_rfl
theorem xe_impl_first (t0 : Value) (m : Mem) : ex CT cf_impl_first Try.f88 1 m.length LL_impl_first (J_impl_first m.length QQ) 400 [.code (Try.f88.body.get rfl)] (argsT 0 [t0]) m = X_impl_first [t0] m := by kernel_rfl
theorem okc_impl_first : CallOK CT cf_impl_first := cfn_ok
theorem le_impl_first_0 (k q : Nat) (t5 t6 t7 : Value) (m : Mem) : ex CT cf_impl_first Try.f88 1 k LL_impl_first (J_impl_first k q) 400 (atLoop Try.f88 0) [(5, t5), (6, t6), (7, t7)] m = J_impl_first k (q + 1) 2 [t5, t6, t7] m := by kernel_rfl
theorem gl_impl_first (k : Nat) : ∀ q i, i < 1 → GoodL CT k Try.f88 LL_impl_first (J_impl_first k q) (atLoop Try.f88 i)
  | 0, 0, _ => goodL_zero (l := 2) (by kernel_rfl) (fun vs m => by kernel_rfl)
  | 0, _ + 1, h => absurd h (by omega)
  | q + 1, 0, _ => goodL_succ (np := 1) (l := 2) (live := [5, 6, 7]) (n := 1) CT_ok rfl okc_impl_first (c := (Try.f88.body.get rfl)) rfl cok_impl_first (by kernel_rfl) (gl_impl_first k q) (by kernel_rfl) rfl (fun vs m r hl h => match vs, hl with
    | [t5, t6, t7], _ => (le_impl_first_0 k q t5 t6 t7 m).trans h)
  | _ + 1, _ + 1, h => absurd h (by omega)
theorem ok_X_impl_first : OkX CT 88 X_impl_first := OkX.of_ex (cf := cf_impl_first) (np := 1) (LL := LL_impl_first) (J := (fun k => J_impl_first k QQ)) CT_ok rfl Try.func88 rfl (Nat.le_of_ble_eq_true rfl) (by decide) cok_impl_first okc_impl_first (fun k => allLoops rfl (by kernel_rfl) (gl_impl_first k QQ)) (fun args m r h => match args, h with
    | [t0], h => ⟨rfl, (xe_impl_first t0 m).trans h⟩)
theorem ok_C_impl_first : OkC CT 88 C_impl_first := fcall_ok rfl ok_X_impl_first

/-! ### impl.unless -/
noncomputable def cf_impl_unless : CallF := cfn
noncomputable def X_impl_unless : List Value → Mem → Option VM
  | [t0, t1], m =>
    brX t0
      (
        retK m.length m [t0, t1] (.int .i64 0))
      (
        retK m.length m [t0, t1] t1)
  | _, _ => none
noncomputable def C_impl_unless : List Value → Mem → Option VM := fcall X_impl_unless
@[simp] theorem c_impl_unless : C_impl_unless = fcall X_impl_unless := (rfl)
theorem cok_impl_unless : codeOk CT Try.f89 (Try.f89.body.get rfl) = true := by kernel_rfl
theorem xe_impl_unless (t0 t1 : Value) (m : Mem) : ex CT cf_impl_unless Try.f89 2 m.length [] (fun _ _ _ => none) 400 [.code (Try.f89.body.get rfl)] (argsT 0 [t0, t1]) m = X_impl_unless [t0, t1] m := by kernel_rfl
theorem okc_impl_unless : CallOK CT cf_impl_unless := cfn_ok
theorem ok_X_impl_unless : OkX CT 89 X_impl_unless := OkX.of_ex (cf := cf_impl_unless) (np := 2) (LL := []) (J := (fun _ _ _ _ => none)) CT_ok rfl Try.func89 rfl (Nat.le_of_ble_eq_true rfl) (by decide) cok_impl_unless okc_impl_unless (fun k => noLoops rfl) (fun args m r h => match args, h with
    | [t0, t1], h => ⟨rfl, (xe_impl_unless t0 t1 m).trans h⟩)
theorem ok_C_impl_unless : OkC CT 89 C_impl_unless := fcall_ok rfl ok_X_impl_unless

/-! ### impl.in -/
noncomputable def cf_impl_in : CallF := cfn
noncomputable def X_impl_in : List Value → Mem → Option VM
  | [t0, t1, t2], m =>
    (binX .leq .no t1 t0) |> bo fun t9 =>
    (gd t9 true (some (t0, m)) m) |> bo fun r2 =>
    (gd t9 true (some (t2, r2.2)) r2.2) |> bo fun r3 =>
    (gd t9 true ((binX .leq .no r2.1 r3.1) |> bo fun v => some (v, r3.2)) r3.2) |> bo fun r4 =>
    (pickX t9 r4.1 (.bool false)) |> bo fun t14 =>
    retK m.length r4.2 [t0, t1, t2] t14
  | _, _ => none
noncomputable def C_impl_in : List Value → Mem → Option VM := fcall X_impl_in
@[simp] theorem c_impl_in : C_impl_in = fcall X_impl_in := (rfl)
theorem cok_impl_in : codeOk CT Try.f99 (Try.f99.body.get rfl) = true := by kernel_rfl
theorem xe_impl_in (t0 t1 t2 : Value) (m : Mem) : ex CT cf_impl_in Try.f99 3 m.length [] (fun _ _ _ => none) 400 [.code (Try.f99.body.get rfl)] (argsT 0 [t0, t1, t2]) m = X_impl_in [t0, t1, t2] m := by kernel_rfl
theorem okc_impl_in : CallOK CT cf_impl_in := cfn_ok
theorem ok_X_impl_in : OkX CT 99 X_impl_in := OkX.of_ex (cf := cf_impl_in) (np := 3) (LL := []) (J := (fun _ _ _ _ => none)) CT_ok rfl Try.func99 rfl (Nat.le_of_ble_eq_true rfl) (by decide) cok_impl_in okc_impl_in (fun k => noLoops rfl) (fun args m r h => match args, h with
    | [t0, t1, t2], h => ⟨rfl, (xe_impl_in t0 t1 t2 m).trans h⟩)
theorem ok_C_impl_in : OkC CT 99 C_impl_in := fcall_ok rfl ok_X_impl_in

/-! ### impl.isSet -/
noncomputable def cf_impl_isSet : CallF := cfc 99 C_impl_in cfn
noncomputable def X_impl_isSet : List Value → Mem → Option VM
  | [t0], m =>
    (C_impl_in [t0, (.int .i64 1), (.int .i64 2)] m) |> bo fun r1 =>
    retK m.length r1.2 [t0] r1.1
  | _, _ => none
noncomputable def C_impl_isSet : List Value → Mem → Option VM := fcall X_impl_isSet
@[simp] theorem c_impl_isSet : C_impl_isSet = fcall X_impl_isSet := (rfl)
theorem cok_impl_isSet : codeOk CT Try.f104 (Try.f104.body.get rfl) = true := by kernel_rfl
theorem xe_impl_isSet (t0 : Value) (m : Mem) : ex CT cf_impl_isSet Try.f104 1 m.length [] (fun _ _ _ => none) 400 [.code (Try.f104.body.get rfl)] (argsT 0 [t0]) m = X_impl_isSet [t0] m := by kernel_rfl
theorem okc_impl_isSet : CallOK CT cf_impl_isSet := cfc_ok ok_C_impl_in cfn_ok
theorem ok_X_impl_isSet : OkX CT 104 X_impl_isSet := OkX.of_ex (cf := cf_impl_isSet) (np := 1) (LL := []) (J := (fun _ _ _ _ => none)) CT_ok rfl Try.func104 rfl (Nat.le_of_ble_eq_true rfl) (by decide) cok_impl_isSet okc_impl_isSet (fun k => noLoops rfl) (fun args m r h => match args, h with
    | [t0], h => ⟨rfl, (xe_impl_isSet t0 m).trans h⟩)
theorem ok_C_impl_isSet : OkC CT 104 C_impl_isSet := fcall_ok rfl ok_X_impl_isSet

/-! ### impl.paramsCode$1 -/
noncomputable def cf_impl_paramsCode_1 : CallF := cfc 99 C_impl_in cfn
noncomputable def X_impl_paramsCode_1 : List Value → Mem → Option VM
  | [t0], m =>
    (C_impl_in [t0, (.int .i64 0), (.int .i64 999)] m) |> bo fun r1 =>
    (uop .not r1.1) |> bo fun t5 =>
    retK m.length r1.2 [t0] t5
  | _, _ => none
noncomputable def C_impl_paramsCode_1 : List Value → Mem → Option VM := fcall X_impl_paramsCode_1
@[simp] theorem c_impl_paramsCode_1 : C_impl_paramsCode_1 = fcall X_impl_paramsCode_1 := (rfl)
theorem cok_impl_paramsCode_1 : codeOk CT Try.f161 (Try.f161.body.get rfl) = true := by kernel_rfl
theorem xe_impl_paramsCode_1 (t0 : Value) (m : Mem) : ex CT cf_impl_paramsCode_1 Try.f161 1 m.length [] (fun _ _ _ => none) 400 [.code (Try.f161.body.get rfl)] (argsT 0 [t0]) m = X_impl_paramsCode_1 [t0] m := by kernel_rfl
theorem okc_impl_paramsCode_1 : CallOK CT cf_impl_paramsCode_1 := cfc_ok ok_C_impl_in cfn_ok
theorem ok_X_impl_paramsCode_1 : OkX CT 161 X_impl_paramsCode_1 := OkX.of_ex (cf := cf_impl_paramsCode_1) (np := 1) (LL := []) (J := (fun _ _ _ _ => none)) CT_ok rfl Try.func161 rfl (Nat.le_of_ble_eq_true rfl) (by decide) cok_impl_paramsCode_1 okc_impl_paramsCode_1 (fun k => noLoops rfl) (fun args m r h => match args, h with
    | [t0], h => ⟨rfl, (xe_impl_paramsCode_1 t0 m).trans h⟩)
theorem ok_C_impl_paramsCode_1 : OkC CT 161 C_impl_paramsCode_1 := fcall_ok rfl ok_X_impl_paramsCode_1

/-! ### slices.IndexFunc[[]int64,int64] -/
noncomputable def cf_slices_IndexFunc_int64_int64 : CallF := cfc 161 C_impl_paramsCode_1 cfn
noncomputable def L_slices_IndexFunc_int64_int64 (k : Nat) : Nat → Nat → List Value → Mem → Option VM
  | q + 1, 0, [t0, t1, t7, t8], m =>
    (binX .lss .no t8 t7) |> bo fun t9 =>
    brX t9
      (
        (ixaX 1 t0 t8) |> bo fun t14 =>
        (ld1 m t14) |> bo fun t15 =>
        (callV cf_slices_IndexFunc_int64_int64 t1 [t15] m) |> bo fun r4 =>
        brX r4.1
          (
            retK k r4.2 [t0, t1] t8)
          (
            (binX .add .no t8 (.int .i64 1)) |> bo fun t18 =>
            cutK k r4.2 [t0, t1] [t0, t1, t7, t18] (L_slices_IndexFunc_int64_int64 k q 0)))
      (
        retK k m [t0, t1] (.int .i64 (-1)))
  | _, _, _, _ => none
noncomputable def J_slices_IndexFunc_int64_int64 (k q l : Nat) : List Value → Mem → Option VM := cond (Nat.beq l 2) (L_slices_IndexFunc_int64_int64 k q 0) (fun _ _ => none)
def LL_slices_IndexFunc_int64_int64 : List (Nat × List Tmp) := [(2, [0, 1, 7, 8])]
noncomputable def X_slices_IndexFunc_int64_int64 : List Value → Mem → Option VM
  | [t0, t1], m =>
    (lenX t0) |> bo fun t7 =>
    cutK m.length m [t0, t1] [t0, t1, t7, (.int .i64 0)] (L_slices_IndexFunc_int64_int64 m.length QQ 0)
  | _, _ => none
noncomputable def C_slices_IndexFunc_int64_int64 : List Value → Mem → Option VM := fcall X_slices_IndexFunc_int64_int64
@[simp] theorem c_slices_IndexFunc_int64_int64 : C_slices_IndexFunc_int64_int64 = fcall X_slices_IndexFunc_int64_int64 := (rfl)
theorem cok_slices_IndexFunc_int64_int64 : codeOk CT Try.f183 (Try.f183.body.get rfl) = true := by kernel_rfl
theorem xe_slices_IndexFunc_int64_int64 (t0 t1 : Value) (m : Mem) : ex CT cf_slices_IndexFunc_int64_int64 Try.f183 2 m.length LL_slices_IndexFunc_int64_int64 (J_slices_IndexFunc_int64_int64 m.length QQ) 400 [.code (Try.f183.body.get rfl)] (argsT 0 [t0, t1]) m = X_slices_IndexFunc_int64_int64 [t0, t1] m := by kernel_rfl
theorem okc_slices_IndexFunc_int64_int64 : CallOK CT cf_slices_IndexFunc_int64_int64 := cfc_ok ok_C_impl_paramsCode_1 cfn_ok
theorem le_slices_IndexFunc_int64_int64_0 (k q : Nat) (t0 t1 t7 t8 : Value) (m : Mem) : ex CT cf_slices_IndexFunc_int64_int64 Try.f183 2 k LL_slices_IndexFunc_int64_int64 (J_slices_IndexFunc_int64_int64 k q) 400 (atLoop Try.f183 0) [(0, t0), (1, t1), (7, t7), (8, t8)] m = J_slices_IndexFunc_int64_int64 k (q + 1) 2 [t0, t1, t7, t8] m := by kernel_rfl
theorem gl_slices_IndexFunc_int64_int64 (k : Nat) : ∀ q i, i < 1 → GoodL CT k Try.f183 LL_slices_IndexFunc_int64_int64 (J_slices_IndexFunc_int64_int64 k q) (atLoop Try.f183 i)
  | 0, 0, _ => goodL_zero (l := 2) (by kernel_rfl) (fun vs m => by kernel_rfl)
  | 0, _ + 1, h => absurd h (by omega)
  | q + 1, 0, _ => goodL_succ (np := 2) (l := 2) (live := [0, 1, 7, 8]) (n := 1) CT_ok rfl okc_slices_IndexFunc_int64_int64 (c := (Try.f183.body.get rfl)) rfl cok_slices_IndexFunc_int64_int64 (by kernel_rfl) (gl_slices_IndexFunc_int64_int64 k q) (by kernel_rfl) rfl (fun vs m r hl h => match vs, hl with
    | [t0, t1, t7, t8], _ => (le_slices_IndexFunc_int64_int64_0 k q t0 t1 t7 t8 m).trans h)
  | _ + 1, _ + 1, h => absurd h (by omega)
theorem ok_X_slices_IndexFunc_int64_int64 : OkX CT 183 X_slices_IndexFunc_int64_int64 := OkX.of_ex (cf := cf_slices_IndexFunc_int64_int64) (np := 2) (LL := LL_slices_IndexFunc_int64_int64) (J := (fun k => J_slices_IndexFunc_int64_int64 k QQ)) CT_ok rfl Try.func183 rfl (Nat.le_of_ble_eq_true rfl) (by decide) cok_slices_IndexFunc_int64_int64 okc_slices_IndexFunc_int64_int64 (fun k => allLoops rfl (by kernel_rfl) (gl_slices_IndexFunc_int64_int64 k QQ)) (fun args m r h => match args, h with
    | [t0, t1], h => ⟨rfl, (xe_slices_IndexFunc_int64_int64 t0 t1 m).trans h⟩)
theorem ok_C_slices_IndexFunc_int64_int64 : OkC CT 183 C_slices_IndexFunc_int64_int64 := fcall_ok rfl ok_X_slices_IndexFunc_int64_int64

/-! ### slices.ContainsFunc[[]int64,int64] -/
noncomputable def cf_slices_ContainsFunc_int64_int64 : CallF := cfc 183 C_slices_IndexFunc_int64_int64 cfn
noncomputable def X_slices_ContainsFunc_int64_int64 : List Value → Mem → Option VM
  | [t0, t1], m =>
    (C_slices_IndexFunc_int64_int64 [t0, t1] m) |> bo fun r1 =>
    (binX .geq .no r1.1 (.int .i64 0)) |> bo fun t8 =>
    retK m.length r1.2 [t0, t1] t8
  | _, _ => none
noncomputable def C_slices_ContainsFunc_int64_int64 : List Value → Mem → Option VM := fcall X_slices_ContainsFunc_int64_int64
@[simp] theorem c_slices_ContainsFunc_int64_int64 : C_slices_ContainsFunc_int64_int64 = fcall X_slices_ContainsFunc_int64_int64 := (rfl)
theorem cok_slices_ContainsFunc_int64_int64 : codeOk CT Try.f160 (Try.f160.body.get rfl) = true := by kernel_rfl
theorem xe_slices_ContainsFunc_int64_int64 (t0 t1 : Value) (m : Mem) : ex CT cf_slices_ContainsFunc_int64_int64 Try.f160 2 m.length [] (fun _ _ _ => none) 400 [.code (Try.f160.body.get rfl)] (argsT 0 [t0, t1]) m = X_slices_ContainsFunc_int64_int64 [t0, t1] m := by kernel_rfl
theorem okc_slices_ContainsFunc_int64_int64 : CallOK CT cf_slices_ContainsFunc_int64_int64 := cfc_ok ok_C_slices_IndexFunc_int64_int64 cfn_ok
theorem ok_X_slices_ContainsFunc_int64_int64 : OkX CT 160 X_slices_ContainsFunc_int64_int64 := OkX.of_ex (cf := cf_slices_ContainsFunc_int64_int64) (np := 2) (LL := []) (J := (fun _ _ _ _ => none)) CT_ok rfl Try.func160 rfl (Nat.le_of_ble_eq_true rfl) (by decide) cok_slices_ContainsFunc_int64_int64 okc_slices_ContainsFunc_int64_int64 (fun k => noLoops rfl) (fun args m r h => match args, h with
    | [t0, t1], h => ⟨rfl, (xe_slices_ContainsFunc_int64_int64 t0 t1 m).trans h⟩)
theorem ok_C_slices_ContainsFunc_int64_int64 : OkC CT 160 C_slices_ContainsFunc_int64_int64 := fcall_ok rfl ok_X_slices_ContainsFunc_int64_int64

/-! ### impl.paramsCode -/
noncomputable def cf_impl_paramsCode : CallF := cfc 89 C_impl_unless (cfc 99 C_impl_in (cfc 160 C_slices_ContainsFunc_int64_int64 cfn))
noncomputable def X_impl_paramsCode : List Value → Mem → Option VM
  | [t0], m =>
    (lenX t0) |> bo fun t4 =>
    (C_impl_in [t4, (.int .i64 1), (.int .i64 6)] m) |> bo fun r2 =>
    (uop .not r2.1) |> bo fun t6 =>
    brX t6
      (
        retK m.length r2.2 [t0] (.int .i64 2))
      (
        (C_slices_ContainsFunc_int64_int64 [t0, (.func (.func 161) #[] #[])] r2.2) |> bo fun r4 =>
        (uop .not r4.1) |> bo fun t9 =>
        (C_impl_unless [t9, (.int .i64 3)] r4.2) |> bo fun r6 =>
        retK m.length r6.2 [t0] r6.1)
  | _, _ => none
noncomputable def C_impl_paramsCode : List Value → Mem → Option VM := fcall X_impl_paramsCode
@[simp] theorem c_impl_paramsCode : C_impl_paramsCode = fcall X_impl_paramsCode := (rfl)
theorem cok_impl_paramsCode : codeOk CT Try.f105 (Try.f105.body.get rfl) = true := by kernel_rfl
theorem xe_impl_paramsCode (t0 : Value) (m : Mem) : ex CT cf_impl_paramsCode Try.f105 1 m.length [] (fun _ _ _ => none) 400 [.code (Try.f105.body.get rfl)] (argsT 0 [t0]) m = X_impl_paramsCode [t0] m := by kernel_rfl
theorem okc_impl_paramsCode : CallOK CT cf_impl_paramsCode := cfc_ok ok_C_impl_unless (cfc_ok ok_C_impl_in (cfc_ok ok_C_slices_ContainsFunc_int64_int64 cfn_ok))
theorem ok_X_impl_paramsCode : OkX CT 105 X_impl_paramsCode := OkX.of_ex (cf := cf_impl_paramsCode) (np := 1) (LL := []) (J := (fun _ _ _ _ => none)) CT_ok rfl Try.func105 rfl (Nat.le_of_ble_eq_true rfl) (by decide) cok_impl_paramsCode okc_impl_paramsCode (fun k => noLoops rfl) (fun args m r h => match args, h with
    | [t0], h => ⟨rfl, (xe_impl_paramsCode t0 m).trans h⟩)
theorem ok_C_impl_paramsCode : OkC CT 105 C_impl_paramsCode := fcall_ok rfl ok_X_impl_paramsCode

/-! ### impl.ParserFault -/
noncomputable def cf_impl_ParserFault : CallF := cfc 88 C_impl_first (cfc 89 C_impl_unless (cfc 104 C_impl_isSet (cfc 105 C_impl_paramsCode cfn)))
noncomputable def X_impl_ParserFault : List Value → Mem → Option VM
  | [t0], m =>
    (boxX m t0) |> bo fun r1 =>
    (fadX 3 r1.1) |> bo fun t4 =>
    (ld1 r1.2 t4) |> bo fun t5 =>
    (lenX t5) |> bo fun t6 =>
    (binX .eql .no t6 (.int .i64 0)) |> bo fun t7 =>
    (gd t7 true ((fadX 2 r1.1) |> bo fun v => some (v, r1.2)) r1.2) |> bo fun r6 =>
    (gd t7 true ((ld1 r6.2 r6.1) |> bo fun v => some (v, r6.2)) r6.2) |> bo fun r7 =>
    (gd t7 true ((uop .not r7.1) |> bo fun v => some (v, r7.2)) r7.2) |> bo fun r8 =>
    (pickX t7 r8.1 (.bool false)) |> bo fun t12 =>
    (fadX 0 r1.1) |> bo fun t13 =>
    (ld1 r8.2 t13) |> bo fun t14 =>
    (binX .eql .no t14 (.int .i64 0)) |> bo fun t16 =>
    brX t16
      (
        brX t16
          (
            (gd t12 true ((fadX 1 r1.1) |> bo fun v => some (v, r8.2)) r8.2) |> bo fun r13 =>
            (gd t12 true ((ld1 r13.2 r13.1) |> bo fun v => some (v, r13.2)) r13.2) |> bo fun r14 =>
            (gd t12 true ((binX .eql .no r14.1 (.int .i64 0)) |> bo fun v => some (v, r14.2)) r14.2) |> bo fun r15 =>
            (pickX t12 r15.1 (.bool false)) |> bo fun t23 =>
            (C_impl_unless [t23, (.int .i64 1)] r15.2) |> bo fun r17 =>
            retK m.length r17.2 [t0] r17.1)
          (
            (binX .eql .no t14 (.int .i64 3)) |> bo fun t26 =>
            brX t26
              (
                (C_impl_unless [t12, (.int .i64 1)] r8.2) |> bo fun r19 =>
                (fadX 1 r1.1) |> bo fun t29 =>
                (ld1 r19.2 t29) |> bo fun t30 =>
                (C_impl_isSet [t30] r19.2) |> bo fun r22 =>
                (C_impl_unless [r22.1, (.int .i64 3)] r22.2) |> bo fun r23 =>
                (bslX r23.2 2 1 [.int .i64 0] [(0, 1, r19.1), (1, 1, r23.1)]) |> bo fun r24 =>
                (C_impl_first [r24.1] r24.2) |> bo fun r25 =>
                gP (stbL [((rdN t29), r8.2, r19.2)])
                  (
                    retK m.length r25.2 [t0] r25.1))
              (
                (binX .eql .no t14 (.int .i64 2)) |> bo fun t36 =>
                brX t36
                  (
                    (fadX 1 r1.1) |> bo fun t37 =>
                    (ld1 r8.2 t37) |> bo fun t38 =>
                    (binX .eql .no t38 (.int .i64 0)) |> bo fun t39 =>
                    (C_impl_unless [t39, (.int .i64 1)] r8.2) |> bo fun r30 =>
                    (fadX 3 r1.1) |> bo fun t41 =>
                    (ld1 r30.2 t41) |> bo fun t42 =>
                    (C_impl_paramsCode [t42] r30.2) |> bo fun r33 =>
                    (bslX r33.2 2 1 [.int .i64 0] [(0, 1, r30.1), (1, 1, r33.1)]) |> bo fun r34 =>
                    (C_impl_first [r34.1] r34.2) |> bo fun r35 =>
                    gP (stbL [((rdN t41), r8.2, r30.2)])
                      (
                        retK m.length r35.2 [t0] r35.1))
                  (
                    retK m.length r8.2 [t0] (.int .i64 1)))))
      (
        (binX .eql .no t14 (.int .i64 1)) |> bo fun t17 =>
        brX t17
          (
            (gd t12 true ((fadX 1 r1.1) |> bo fun v => some (v, r8.2)) r8.2) |> bo fun r37 =>
            (gd t12 true ((ld1 r37.2 r37.1) |> bo fun v => some (v, r37.2)) r37.2) |> bo fun r38 =>
            (gd t12 true ((binX .eql .no r38.1 (.int .i64 0)) |> bo fun v => some (v, r38.2)) r38.2) |> bo fun r39 =>
            (pickX t12 r39.1 (.bool false)) |> bo fun t23 =>
            (C_impl_unless [t23, (.int .i64 1)] r39.2) |> bo fun r41 =>
            retK m.length r41.2 [t0] r41.1)
          (
            (binX .eql .no t14 (.int .i64 3)) |> bo fun t26 =>
            brX t26
              (
                (C_impl_unless [t12, (.int .i64 1)] r8.2) |> bo fun r43 =>
                (fadX 1 r1.1) |> bo fun t29 =>
                (ld1 r43.2 t29) |> bo fun t30 =>
                (C_impl_isSet [t30] r43.2) |> bo fun r46 =>
                (C_impl_unless [r46.1, (.int .i64 3)] r46.2) |> bo fun r47 =>
                (bslX r47.2 2 1 [.int .i64 0] [(0, 1, r43.1), (1, 1, r47.1)]) |> bo fun r48 =>
                (C_impl_first [r48.1] r48.2) |> bo fun r49 =>
                gP (stbL [((rdN t29), r8.2, r43.2)])
                  (
                    retK m.length r49.2 [t0] r49.1))
              (
                (binX .eql .no t14 (.int .i64 2)) |> bo fun t36 =>
                brX t36
                  (
                    (fadX 1 r1.1) |> bo fun t37 =>
                    (ld1 r8.2 t37) |> bo fun t38 =>
                    (binX .eql .no t38 (.int .i64 0)) |> bo fun t39 =>
                    (C_impl_unless [t39, (.int .i64 1)] r8.2) |> bo fun r54 =>
                    (fadX 3 r1.1) |> bo fun t41 =>
                    (ld1 r54.2 t41) |> bo fun t42 =>
                    (C_impl_paramsCode [t42] r54.2) |> bo fun r57 =>
                    (bslX r57.2 2 1 [.int .i64 0] [(0, 1, r54.1), (1, 1, r57.1)]) |> bo fun r58 =>
                    (C_impl_first [r58.1] r58.2) |> bo fun r59 =>
                    gP (stbL [((rdN t41), r8.2, r54.2)])
                      (
                        retK m.length r59.2 [t0] r59.1))
                  (
                    retK m.length r8.2 [t0] (.int .i64 1)))))
  | _, _ => none
noncomputable def C_impl_ParserFault : List Value → Mem → Option VM := fcall X_impl_ParserFault
@[simp] theorem c_impl_ParserFault : C_impl_ParserFault = fcall X_impl_ParserFault := (rfl)
theorem cok_impl_ParserFault : codeOk CT Try.f25 (Try.f25.body.get rfl) = true := by kernel_rfl
theorem xe_impl_ParserFault (t0 : Value) (m : Mem) : ex CT cf_impl_ParserFault Try.f25 1 m.length [] (fun _ _ _ => none) 400 [.code (Try.f25.body.get rfl)] (argsT 0 [t0]) m = X_impl_ParserFault [t0] m := by kernel_rfl
theorem okc_impl_ParserFault : CallOK CT cf_impl_ParserFault := cfc_ok ok_C_impl_first (cfc_ok ok_C_impl_unless (cfc_ok ok_C_impl_isSet (cfc_ok ok_C_impl_paramsCode cfn_ok)))
theorem ok_X_impl_ParserFault : OkX CT 25 X_impl_ParserFault := OkX.of_ex (cf := cf_impl_ParserFault) (np := 1) (LL := []) (J := (fun _ _ _ _ => none)) CT_ok rfl Try.func25 rfl (Nat.le_of_ble_eq_true rfl) (by decide) cok_impl_ParserFault okc_impl_ParserFault (fun k => noLoops rfl) (fun args m r h => match args, h with
    | [t0], h => ⟨rfl, (xe_impl_ParserFault t0 m).trans h⟩)
theorem ok_C_impl_ParserFault : OkC CT 25 C_impl_ParserFault := fcall_ok rfl ok_X_impl_ParserFault

/-! ### impl.isChar -/
noncomputable def cf_impl_isChar : CallF := cfc 99 C_impl_in cfn
noncomputable def X_impl_isChar : List Value → Mem → Option VM
  | [t0], m =>
    (C_impl_in [t0, (.int .i64 0), (.int .i64 65535)] m) |> bo fun r1 =>
    (gd r1.1 true (some (t0, r1.2)) r1.2) |> bo fun r2 =>
    (gd r1.1 true ((C_impl_in [r2.1, (.int .i64 55296), (.int .i64 57343)] r2.2) |> bo fun r => some (r.1, r.2)) r2.2) |> bo fun r3 =>
    (gd r1.1 true ((uop .not r3.1) |> bo fun v => some (v, r3.2)) r3.2) |> bo fun r4 =>
    (pickX r1.1 r4.1 (.bool false)) |> bo fun t9 =>
    retK m.length r4.2 [t0] t9
  | _, _ => none
noncomputable def C_impl_isChar : List Value → Mem → Option VM := fcall X_impl_isChar
@[simp] theorem c_impl_isChar : C_impl_isChar = fcall X_impl_isChar := (rfl)
theorem cok_impl_isChar : codeOk CT Try.f95 (Try.f95.body.get rfl) = true := by kernel_rfl
theorem xe_impl_isChar (t0 : Value) (m : Mem) : ex CT cf_impl_isChar Try.f95 1 m.length [] (fun _ _ _ => none) 400 [.code (Try.f95.body.get rfl)] (argsT 0 [t0]) m = X_impl_isChar [t0] m := by kernel_rfl
theorem okc_impl_isChar : CallOK CT cf_impl_isChar := cfc_ok ok_C_impl_in cfn_ok
theorem ok_X_impl_isChar : OkX CT 95 X_impl_isChar := OkX.of_ex (cf := cf_impl_isChar) (np := 1) (LL := []) (J := (fun _ _ _ _ => none)) CT_ok rfl Try.func95 rfl (Nat.le_of_ble_eq_true rfl) (by decide) cok_impl_isChar okc_impl_isChar (fun k => noLoops rfl) (fun args m r h => match args, h with
    | [t0], h => ⟨rfl, (xe_impl_isChar t0 m).trans h⟩)
theorem ok_C_impl_isChar : OkC CT 95 C_impl_isChar := fcall_ok rfl ok_X_impl_isChar

/-! ### slices.Clone[[]int64,int64] -/
noncomputable def cf_slices_Clone_int64_int64 : CallF := cfn
noncomputable def X_slices_Clone_int64_int64 : List Value → Mem → Option VM
  | [t0], m =>
    (nlX .eql t0) |> bo fun t4 =>
    brX t4
      (
        retK m.length m [t0] (.slice none 0 0))
      (
        (bslX m 0 1 [.int .i64 0] []) |> bo fun r2 =>
        (apL r2.2 1 8 r2.1 t0) |> bo fun r3 =>
        retK m.length r3.2 [t0] r3.1)
  | _, _ => none
theorem cok_slices_Clone_int64_int64 : codeOk CT Try.f163 (Try.f163.body.get rfl) = true := by kernel_rfl
theorem xe_slices_Clone_int64_int64 (t0 : Value) (m : Mem) : ex CT cf_slices_Clone_int64_int64 Try.f163 1 m.length [] (fun _ _ _ => none) 400 [.code (Try.f163.body.get rfl)] (argsT 0 [t0]) m = X_slices_Clone_int64_int64 [t0] m := by kernel_rfl
theorem okc_slices_Clone_int64_int64 : CallOK CT cf_slices_Clone_int64_int64 := cfn_ok
theorem ok_X_slices_Clone_int64_int64 : OkX CT 163 X_slices_Clone_int64_int64 := OkX.of_ex (cf := cf_slices_Clone_int64_int64) (np := 1) (LL := []) (J := (fun _ _ _ _ => none)) CT_ok rfl Try.func163 rfl (Nat.le_of_ble_eq_true rfl) (by decide) cok_slices_Clone_int64_int64 okc_slices_Clone_int64_int64 (fun k => noLoops rfl) (fun args m r h => match args, h with
    | [t0], h => ⟨rfl, (xe_slices_Clone_int64_int64 t0 m).trans h⟩)
noncomputable def C_slices_Clone_int64_int64 : List Value → Mem → Option VM := cloneC 1
@[simp] theorem c_slices_Clone_int64_int64 : C_slices_Clone_int64_int64 = cloneC 1 := (rfl)
theorem cl0_slices_Clone_int64_int64 : X_slices_Clone_int64_int64 [.float .f64 0] [] = some (.slice none 0 0, []) := by simp -implicitDefEqProofs [X_slices_Clone_int64_int64, retK_eq]
theorem cl1_slices_Clone_int64_int64 : X_slices_Clone_int64_int64 [.float .f64 1] [] = some (.slice (some ⟨0, 0, none⟩) 0 0, [⟨[], 1, true, true⟩]) := by simp -implicitDefEqProofs [X_slices_Clone_int64_int64, retK_eq, apL_f1]
theorem cl2_slices_Clone_int64_int64 (len : Nat) (cs : Array Value) (hl : len ≠ 0) (hs : cs.size = len * 1) (hk : len < 1000000000) (hh : cs.toList.all hard = true) : X_slices_Clone_int64_int64 [.iface len (.agg cs)] [] = some (.slice (some ⟨0, 0, none⟩) len len, [⟨cs.toList, 1, true, true⟩]) := by
  have ha := fun m n o c => apL_agg (m := m) (sz := 1) (bytes := 8) (n := n) (o := o) (len := 0) (c := c) hs (by omega) (by omega)
  simp -implicitDefEqProofs [X_slices_Clone_int64_int64, retK_eq, ha, hl, hard_all hh]
theorem ok_C_slices_Clone_int64_int64 : OkC CT 163 C_slices_Clone_int64_int64 := cloneC_ok rfl ok_X_slices_Clone_int64_int64 cl0_slices_Clone_int64_int64 cl1_slices_Clone_int64_int64 cl2_slices_Clone_int64_int64

/-! ### (impl.Parser).clone -/
noncomputable def cf_impl_Parser_clone : CallF := cfc 163 C_slices_Clone_int64_int64 cfn
noncomputable def X_impl_Parser_clone : List Value → Mem → Option VM
  | [t0], m =>
    (boxX m t0) |> bo fun r1 =>
    (alX r1.2 [.int .i64 0, .int .i64 0, .bool false, .slice none 0 0]) |> bo fun r2 =>
    (fadX 3 r1.1) |> bo fun t3 =>
    (ld1 r2.2 t3) |> bo fun t4 =>
    (C_slices_Clone_int64_int64 [t4] r2.2) |> bo fun r5 =>
    (fadX 3 r1.1) |> bo fun t6 =>
    (stX r5.2 1 t6 r5.1) |> bo fun m7 =>
    (ldS m7 4 r1.1) |> bo fun t7 =>
    (stX m7 4 r2.1 t7) |> bo fun m9 =>
    (resP (some 4) m9 r2.1) |> bo fun c10 =>
    retK m.length m9 [t0] c10
  | _, _ => none
noncomputable def C_impl_Parser_clone : List Value → Mem → Option VM := fcall X_impl_Parser_clone
@[simp] theorem c_impl_Parser_clone : C_impl_Parser_clone = fcall X_impl_Parser_clone := (rfl)
theorem cok_impl_Parser_clone : codeOk CT Try.f113 (Try.f113.body.get rfl) = true := by kernel_rfl
theorem xe_impl_Parser_clone (t0 : Value) (m : Mem) : ex CT cf_impl_Parser_clone Try.f113 1 m.length [] (fun _ _ _ => none) 400 [.code (Try.f113.body.get rfl)] (argsT 0 [t0]) m = X_impl_Parser_clone [t0] m := by kernel_rfl
theorem okc_impl_Parser_clone : CallOK CT cf_impl_Parser_clone := cfc_ok ok_C_slices_Clone_int64_int64 cfn_ok
theorem ok_X_impl_Parser_clone : OkX CT 113 X_impl_Parser_clone := OkX.of_ex (cf := cf_impl_Parser_clone) (np := 1) (LL := []) (J := (fun _ _ _ _ => none)) CT_ok rfl Try.func113 rfl (Nat.le_of_ble_eq_true rfl) (by decide) cok_impl_Parser_clone okc_impl_Parser_clone (fun k => noLoops rfl) (fun args m r h => match args, h with
    | [t0], h => ⟨rfl, (xe_impl_Parser_clone t0 m).trans h⟩)
theorem ok_C_impl_Parser_clone : OkC CT 113 C_impl_Parser_clone := fcall_ok rfl ok_X_impl_Parser_clone

/-! ### impl.afterEscape -/
noncomputable def cf_impl_afterEscape : CallF := cfc 99 C_impl_in cfn
noncomputable def X_impl_afterEscape : List Value → Mem → Option VM
  | [t0], m =>
    (alX m [.int .i64 0, .int .i64 0, .int .i64 0, .bool false, .slice none 0 0]) |> bo fun r1 =>
    (alX r1.2 [.int .i64 0, .int .i64 0, .bool false, .slice none 0 0]) |> bo fun r2 =>
    (binX .eql .no t0 (.int .i64 91)) |> bo fun t6 =>
    brX t6
      (
        (bldX [.int .i64 0, .int .i64 0, .int .i64 0, .bool false, .slice none 0 0] []) |> bo fun t7 =>
        (bslX r2.2 1 1 [.int .i64 0] [(0, 1, (.int .i64 0))]) |> bo fun r5 =>
        (bldX [.int .i64 0, .int .i64 0, .bool false, .slice none 0 0] [(0, 1, (.int .i64 2)), (3, 1, r5.1)]) |> bo fun t9 =>
        (stX r5.2 5 r1.1 t7) |> bo fun m7 =>
        (stX m7 4 r2.1 t9) |> bo fun m8 =>
        (resP (some 5) m8 r1.1) |> bo fun c9 =>
        (resP (some 4) m8 r2.1) |> bo fun c10 =>
        retK m.length m8 [t0] (.tuple #[c9, c10]))
      (
        (binX .eql .no t0 (.int .i64 40)) |> bo fun t12 =>
        (gd t12 false (some (t0, r2.2)) r2.2) |> bo fun r12 =>
        (gd t12 false ((binX .eql .no r12.1 (.int .i64 41)) |> bo fun v => some (v, r12.2)) r12.2) |> bo fun r13 =>
        (pickX t12 (.bool true) r13.1) |> bo fun t16 =>
        brX t16
          (
            (bldX [.int .i64 0, .int .i64 0, .int .i64 0, .bool false, .slice none 0 0] []) |> bo fun t17 =>
            (binX .sub .no t0 (.int .i64 40)) |> bo fun t19 =>
            (binX .add .no t19 (.int .i64 1)) |> bo fun t20 =>
            (bldX [.int .i64 0, .int .i64 0, .bool false, .slice none 0 0] [(0, 1, (.int .i64 3)), (1, 1, t20)]) |> bo fun t21 =>
            (stX r13.2 5 r1.1 t17) |> bo fun m19 =>
            (stX m19 4 r2.1 t21) |> bo fun m20 =>
            (resP (some 5) m20 r1.1) |> bo fun c21 =>
            (resP (some 4) m20 r2.1) |> bo fun c22 =>
            retK m.length m20 [t0] (.tuple #[c21, c22]))
          (
            (C_impl_in [t0, (.int .i64 48), (.int .i64 126)] r13.2) |> bo fun r23 =>
            brX r23.1
              (
                (bldX [.int .i64 0, .int .i64 0, .int .i64 0, .bool false, .slice none 0 0] [(0, 1, (.int .i64 3)), (1, 1, t0)]) |> bo fun t26 =>
                (bldX [.int .i64 0, .int .i64 0, .bool false, .slice none 0 0] []) |> bo fun t27 =>
                (stX r23.2 5 r1.1 t26) |> bo fun m26 =>
                (stX m26 4 r2.1 t27) |> bo fun m27 =>
                (resP (some 5) m27 r1.1) |> bo fun c28 =>
                (resP (some 4) m27 r2.1) |> bo fun c29 =>
                retK m.length m27 [t0] (.tuple #[c28, c29]))
              (
                (bldX [.int .i64 0, .int .i64 0, .int .i64 0, .bool false, .slice none 0 0] []) |> bo fun t28 =>
                (bldX [.int .i64 0, .int .i64 0, .bool false, .slice none 0 0] []) |> bo fun t29 =>
                (stX r23.2 5 r1.1 t28) |> bo fun m32 =>
                (stX m32 4 r2.1 t29) |> bo fun m33 =>
                (resP (some 5) m33 r1.1) |> bo fun c34 =>
                (resP (some 4) m33 r2.1) |> bo fun c35 =>
                retK m.length m33 [t0] (.tuple #[c34, c35]))))
  | _, _ => none
noncomputable def C_impl_afterEscape : List Value → Mem → Option VM := fcall X_impl_afterEscape
@[simp] theorem c_impl_afterEscape : C_impl_afterEscape = fcall X_impl_afterEscape := (rfl)
theorem cok_impl_afterEscape : codeOk CT Try.f155 (Try.f155.body.get rfl) = true := by kernel_rfl
theorem xe_impl_afterEscape (t0 : Value) (m : Mem) : ex CT cf_impl_afterEscape Try.f155 1 m.length [] (fun _ _ _ => none) 400 [.code (Try.f155.body.get rfl)] (argsT 0 [t0]) m = X_impl_afterEscape [t0] m := by kernel_rfl
theorem okc_impl_afterEscape : CallOK CT cf_impl_afterEscape := cfc_ok ok_C_impl_in cfn_ok
theorem ok_X_impl_afterEscape : OkX CT 155 X_impl_afterEscape := OkX.of_ex (cf := cf_impl_afterEscape) (np := 1) (LL := []) (J := (fun _ _ _ _ => none)) CT_ok rfl Try.func155 rfl (Nat.le_of_ble_eq_true rfl) (by decide) cok_impl_afterEscape okc_impl_afterEscape (fun k => noLoops rfl) (fun args m r h => match args, h with
    | [t0], h => ⟨rfl, (xe_impl_afterEscape t0 m).trans h⟩)
theorem ok_C_impl_afterEscape : OkC CT 155 C_impl_afterEscape := fcall_ok rfl ok_X_impl_afterEscape

/-! ### (impl.Parser).inParams -/
noncomputable def cf_impl_Parser_inParams : CallF := cfc 99 C_impl_in cfn
noncomputable def X_impl_Parser_inParams : List Value → Mem → Option VM
  | [t0, t1], m =>
    (boxX m t0) |> bo fun r1 =>
    (alX r1.2 [.int .i64 0, .int .i64 0, .int .i64 0, .bool false, .slice none 0 0]) |> bo fun r2 =>
    (alX r2.2 [.int .i64 0, .int .i64 0, .bool false, .slice none 0 0]) |> bo fun r3 =>
    (fadX 3 r1.1) |> bo fun t7 =>
    (ld1 r3.2 t7) |> bo fun t8 =>
    (lenX t8) |> bo fun t9 =>
    (binX .sub .no t9 (.int .i64 1)) |> bo fun t10 =>
    (C_impl_in [t1, (.int .i64 48), (.int .i64 57)] r3.2) |> bo fun r8 =>
    brX r8.1
      (
        (fadX 3 r1.1) |> bo fun t14 =>
        (ld1 r8.2 t14) |> bo fun t15 =>
        (fadX 3 r1.1) |> bo fun t17 =>
        (ld1 r8.2 t17) |> bo fun t18 =>
        (ixaX 1 t18 t10) |> bo fun t20 =>
        (ld1 r8.2 t20) |> bo fun t21 =>
        (binX .mul .no (.int .i64 10) t21) |> bo fun t22 =>
        (binX .add .no t22 t1) |> bo fun t24 =>
        (binX .sub .no t24 (.int .i64 48)) |> bo fun t25 =>
        (minMax false t25 [(.int .i64 999)]) |> bo fun t26 =>
        (ixaX 1 t15 t10) |> bo fun t27 =>
        (stX r8.2 1 t27 t26) |> bo fun m20 =>
        (bldX [.int .i64 0, .int .i64 0, .int .i64 0, .bool false, .slice none 0 0] []) |> bo fun t61 =>
        (ldS m20 4 r1.1) |> bo fun t62 =>
        (stX m20 5 r2.1 t61) |> bo fun m23 =>
        (stX m23 4 r3.1 t62) |> bo fun m24 =>
        gP (stbL [((rdN r1.1), m20, m23)])
          (
            (resP (some 5) m24 r2.1) |> bo fun c25 =>
            (resP (some 4) m24 r3.1) |> bo fun c26 =>
            retK m.length m24 [t0, t1] (.tuple #[c25, c26])))
      (
        (binX .eql .no t1 (.int .i64 59)) |> bo fun t30 =>
        (gd t30 true ((fadX 3 r1.1) |> bo fun v => some (v, r8.2)) r8.2) |> bo fun r28 =>
        (gd t30 true ((ld1 r28.2 r28.1) |> bo fun v => some (v, r28.2)) r28.2) |> bo fun r29 =>
        (gd t30 true ((lenX r29.1) |> bo fun v => some (v, r29.2)) r29.2) |> bo fun r30 =>
        (gd t30 true ((binX .lss .no r30.1 (.int .i64 6)) |> bo fun v => some (v, r30.2)) r30.2) |> bo fun r31 =>
        (pickX t30 r31.1 (.bool false)) |> bo fun t36 =>
        brX t36
          (
            (fadX 3 r1.1) |> bo fun t37 =>
            (ld1 r31.2 t37) |> bo fun t38 =>
            (bslX r31.2 1 1 [.int .i64 0] [(0, 1, (.int .i64 0))]) |> bo fun r35 =>
            (apL r35.2 1 8 t38 r35.1) |> bo fun r36 =>
            (fadX 3 r1.1) |> bo fun t41 =>
            (stX r36.2 1 t41 r36.1) |> bo fun m38 =>
            (bldX [.int .i64 0, .int .i64 0, .int .i64 0, .bool false, .slice none 0 0] []) |> bo fun t61 =>
            (ldS m38 4 r1.1) |> bo fun t62 =>
            (stX m38 5 r2.1 t61) |> bo fun m41 =>
            (stX m41 4 r3.1 t62) |> bo fun m42 =>
            gP (stbL [((rdN r1.1), m38, m41)])
              (
                (resP (some 5) m42 r2.1) |> bo fun c43 =>
                (resP (some 4) m42 r3.1) |> bo fun c44 =>
                retK m.length m42 [t0, t1] (.tuple #[c43, c44])))
          (
            (binX .eql .no t1 (.int .i64 63)) |> bo fun t44 =>
            brX t44
              (
                (fadX 2 r1.1) |> bo fun t45 =>
                (stX r31.2 1 t45 (.bool true)) |> bo fun m47 =>
                (bldX [.int .i64 0, .int .i64 0, .int .i64 0, .bool false, .slice none 0 0] []) |> bo fun t61 =>
                (ldS m47 4 r1.1) |> bo fun t62 =>
                (stX m47 5 r2.1 t61) |> bo fun m50 =>
                (stX m50 4 r3.1 t62) |> bo fun m51 =>
                gP (stbL [((rdN r1.1), m47, m50)])
                  (
                    (resP (some 5) m51 r2.1) |> bo fun c52 =>
                    (resP (some 4) m51 r3.1) |> bo fun c53 =>
                    retK m.length m51 [t0, t1] (.tuple #[c52, c53])))
              (
                (C_impl_in [t1, (.int .i64 64), (.int .i64 126)] r31.2) |> bo fun r54 =>
                brX r54.1
                  (
                    (fadX 2 r1.1) |> bo fun t50 =>
                    (ld1 r54.2 t50) |> bo fun t51 =>
                    (fadX 3 r1.1) |> bo fun t52 =>
                    (ld1 r54.2 t52) |> bo fun t53 =>
                    (bldX [.int .i64 0, .int .i64 0, .int .i64 0, .bool false, .slice none 0 0] [(0, 1, (.int .i64 4)), (1, 1, t1), (3, 1, t51), (4, 1, t53)]) |> bo fun t54 =>
                    (bldX [.int .i64 0, .int .i64 0, .bool false, .slice none 0 0] []) |> bo fun t55 =>
                    (stX r54.2 5 r2.1 t54) |> bo fun m61 =>
                    (stX m61 4 r3.1 t55) |> bo fun m62 =>
                    (resP (some 5) m62 r2.1) |> bo fun c63 =>
                    (resP (some 4) m62 r3.1) |> bo fun c64 =>
                    retK m.length m62 [t0, t1] (.tuple #[c63, c64]))
                  (
                    (binX .gtr .no t1 (.int .i64 126)) |> bo fun t58 =>
                    brX t58
                      (
                        (bldX [.int .i64 0, .int .i64 0, .int .i64 0, .bool false, .slice none 0 0] []) |> bo fun t59 =>
                        (bldX [.int .i64 0, .int .i64 0, .bool false, .slice none 0 0] []) |> bo fun t60 =>
                        (stX r54.2 5 r2.1 t59) |> bo fun m68 =>
                        (stX m68 4 r3.1 t60) |> bo fun m69 =>
                        (resP (some 5) m69 r2.1) |> bo fun c70 =>
                        (resP (some 4) m69 r3.1) |> bo fun c71 =>
                        retK m.length m69 [t0, t1] (.tuple #[c70, c71]))
                      (
                        (bldX [.int .i64 0, .int .i64 0, .int .i64 0, .bool false, .slice none 0 0] []) |> bo fun t61 =>
                        (ldS r54.2 4 r1.1) |> bo fun t62 =>
                        (stX r54.2 5 r2.1 t61) |> bo fun m74 =>
                        (stX m74 4 r3.1 t62) |> bo fun m75 =>
                        gP (stbL [((rdN r1.1), r54.2, m74)])
                          (
                            (resP (some 5) m75 r2.1) |> bo fun c76 =>
                            (resP (some 4) m75 r3.1) |> bo fun c77 =>
                            retK m.length m75 [t0, t1] (.tuple #[c76, c77])))))))
  | _, _ => none
noncomputable def C_impl_Parser_inParams : List Value → Mem → Option VM := rcall X_impl_Parser_inParams
@[simp] theorem c_impl_Parser_inParams : C_impl_Parser_inParams = rcall X_impl_Parser_inParams := (rfl)
theorem cok_impl_Parser_inParams : codeOk CT Try.f156 (Try.f156.body.get rfl) = true := by kernel_rfl
theorem xe_impl_Parser_inParams (t0 t1 : Value) (m : Mem) : ex CT cf_impl_Parser_inParams Try.f156 2 m.length [] (fun _ _ _ => none) 400 [.code (Try.f156.body.get rfl)] (argsT 0 [t0, t1]) m = X_impl_Parser_inParams [t0, t1] m := by kernel_rfl
theorem okc_impl_Parser_inParams : CallOK CT cf_impl_Parser_inParams := cfc_ok ok_C_impl_in cfn_ok
theorem ok_X_impl_Parser_inParams : OkX CT 156 X_impl_Parser_inParams := OkX.of_ex (cf := cf_impl_Parser_inParams) (np := 2) (LL := []) (J := (fun _ _ _ _ => none)) CT_ok rfl Try.func156 rfl (Nat.le_of_ble_eq_true rfl) (by decide) cok_impl_Parser_inParams okc_impl_Parser_inParams (fun k => noLoops rfl) (fun args m r h => match args, h with
    | [t0, t1], h => ⟨rfl, (xe_impl_Parser_inParams t0 t1 m).trans h⟩)
theorem ok_C_impl_Parser_inParams : OkC CT 156 C_impl_Parser_inParams := rcall_ok rfl ok_X_impl_Parser_inParams

/-! ### (impl.Parser).hear -/
noncomputable def cf_impl_Parser_hear : CallF := cfc 113 C_impl_Parser_clone (cfc 155 C_impl_afterEscape (cfc 156 C_impl_Parser_inParams cfn))
noncomputable def X_impl_Parser_hear : List Value → Mem → Option VM
  | [t0, t1], m =>
    (boxX m t0) |> bo fun r1 =>
    (alX r1.2 [.int .i64 0, .int .i64 0, .int .i64 0, .bool false, .slice none 0 0]) |> bo fun r2 =>
    (alX r2.2 [.int .i64 0, .int .i64 0, .bool false, .slice none 0 0]) |> bo fun r3 =>
    (binX .eql .no t1 (.int .i64 24)) |> bo fun t8 =>
    (gd t8 false (some (t1, r3.2)) r3.2) |> bo fun r5 =>
    (gd t8 false ((binX .eql .no r5.1 (.int .i64 26)) |> bo fun v => some (v, r5.2)) r5.2) |> bo fun r6 =>
    (pickX t8 (.bool true) r6.1) |> bo fun t12 =>
    brX t12
      (
        (bldX [.int .i64 0, .int .i64 0, .int .i64 0, .bool false, .slice none 0 0] []) |> bo fun t13 =>
        (bldX [.int .i64 0, .int .i64 0, .bool false, .slice none 0 0] []) |> bo fun t14 =>
        (stX r6.2 5 r2.1 t13) |> bo fun m10 =>
        (stX m10 4 r3.1 t14) |> bo fun m11 =>
        (resP (some 5) m11 r2.1) |> bo fun c12 =>
        (resP (some 4) m11 r3.1) |> bo fun c13 =>
        retK m.length m11 [t0, t1] (.tuple #[c12, c13]))
      (
        (binX .eql .no t1 (.int .i64 27)) |> bo fun t17 =>
        brX t17
          (
            (bldX [.int .i64 0, .int .i64 0, .int .i64 0, .bool false, .slice none 0 0] []) |> bo fun t18 =>
            (bldX [.int .i64 0, .int .i64 0, .bool false, .slice none 0 0] [(0, 1, (.int .i64 1))]) |> bo fun t19 =>
            (stX r6.2 5 r2.1 t18) |> bo fun m17 =>
            (stX m17 4 r3.1 t19) |> bo fun m18 =>
            (resP (some 5) m18 r2.1) |> bo fun c19 =>
            (resP (some 4) m18 r3.1) |> bo fun c20 =>
            retK m.length m18 [t0, t1] (.tuple #[c19, c20]))
          (
            (binX .lss .no t1 (.int .i64 32)) |> bo fun t22 =>
            brX t22
              (
                (bldX [.int .i64 0, .int .i64 0, .int .i64 0, .bool false, .slice none 0 0] [(0, 1, (.int .i64 2)), (1, 1, t1)]) |> bo fun t24 =>
                (ldS r6.2 4 r1.1) |> bo fun t25 =>
                (C_impl_Parser_clone [t25] r6.2) |> bo fun r24 =>
                (stX r24.2 5 r2.1 t24) |> bo fun m25 =>
                (stX m25 4 r3.1 r24.1) |> bo fun m26 =>
                (resP (some 5) m26 r2.1) |> bo fun c27 =>
                (resP (some 4) m26 r3.1) |> bo fun c28 =>
                retK m.length m26 [t0, t1] (.tuple #[c27, c28]))
              (
                (binX .eql .no t1 (.int .i64 127)) |> bo fun t29 =>
                brX t29
                  (
                    (bldX [.int .i64 0, .int .i64 0, .int .i64 0, .bool false, .slice none 0 0] []) |> bo fun t30 =>
                    (ldS r6.2 4 r1.1) |> bo fun t31 =>
                    (C_impl_Parser_clone [t31] r6.2) |> bo fun r32 =>
                    (stX r32.2 5 r2.1 t30) |> bo fun m33 =>
                    (stX m33 4 r3.1 r32.1) |> bo fun m34 =>
                    (resP (some 5) m34 r2.1) |> bo fun c35 =>
                    (resP (some 4) m34 r3.1) |> bo fun c36 =>
                    retK m.length m34 [t0, t1] (.tuple #[c35, c36]))
                  (
                    (fadX 0 r1.1) |> bo fun t33 =>
                    (ld1 r6.2 t33) |> bo fun t34 =>
                    (binX .eql .no t34 (.int .i64 0)) |> bo fun t36 =>
                    brX t36
                      (
                        (bldX [.int .i64 0, .int .i64 0, .int .i64 0, .bool false, .slice none 0 0] [(0, 1, (.int .i64 1)), (1, 1, t1)]) |> bo fun t38 =>
                        (bldX [.int .i64 0, .int .i64 0, .bool false, .slice none 0 0] []) |> bo fun t39 =>
                        (stX r6.2 5 r2.1 t38) |> bo fun m42 =>
                        (stX m42 4 r3.1 t39) |> bo fun m43 =>
                        (resP (some 5) m43 r2.1) |> bo fun c44 =>
                        (resP (some 4) m43 r3.1) |> bo fun c45 =>
                        retK m.length m43 [t0, t1] (.tuple #[c44, c45]))
                      (
                        (binX .eql .no t34 (.int .i64 1)) |> bo fun t41 =>
                        brX t41
                          (
                            (C_impl_afterEscape [t1] r6.2) |> bo fun r47 =>
                            (extX 0 r47.1) |> bo fun t44 =>
                            (extX 1 r47.1) |> bo fun t45 =>
                            (stX r47.2 5 r2.1 t44) |> bo fun m50 =>
                            (stX m50 4 r3.1 t45) |> bo fun m51 =>
                            (resP (some 5) m51 r2.1) |> bo fun c52 =>
                            (resP (some 4) m51 r3.1) |> bo fun c53 =>
                            retK m.length m51 [t0, t1] (.tuple #[c52, c53]))
                          (
                            (binX .eql .no t34 (.int .i64 3)) |> bo fun t47 =>
                            brX t47
                              (
                                (fadX 1 r1.1) |> bo fun t49 =>
                                (ld1 r6.2 t49) |> bo fun t50 =>
                                (bldX [.int .i64 0, .int .i64 0, .int .i64 0, .bool false, .slice none 0 0] [(0, 1, (.int .i64 5)), (1, 1, t1), (2, 1, t50)]) |> bo fun t51 =>
                                (bldX [.int .i64 0, .int .i64 0, .bool false, .slice none 0 0] []) |> bo fun t52 =>
                                (stX r6.2 5 r2.1 t51) |> bo fun m59 =>
                                (stX m59 4 r3.1 t52) |> bo fun m60 =>
                                (resP (some 5) m60 r2.1) |> bo fun c61 =>
                                (resP (some 4) m60 r3.1) |> bo fun c62 =>
                                retK m.length m60 [t0, t1] (.tuple #[c61, c62]))
                              (
                                (ldS r6.2 4 r1.1) |> bo fun t53 =>
                                (C_impl_Parser_clone [t53] r6.2) |> bo fun r64 =>
                                (C_impl_Parser_inParams [r64.1, t1] r64.2) |> bo fun r65 =>
                                (extX 0 r65.1) |> bo fun t57 =>
                                (extX 1 r65.1) |> bo fun t58 =>
                                (stX r65.2 5 r2.1 t57) |> bo fun m68 =>
                                (stX m68 4 r3.1 t58) |> bo fun m69 =>
                                (resP (some 5) m69 r2.1) |> bo fun c70 =>
                                (resP (some 4) m69 r3.1) |> bo fun c71 =>
                                retK m.length m69 [t0, t1] (.tuple #[c70, c71]))))))))
  | _, _ => none
noncomputable def C_impl_Parser_hear : List Value → Mem → Option VM := fcall X_impl_Parser_hear
@[simp] theorem c_impl_Parser_hear : C_impl_Parser_hear = fcall X_impl_Parser_hear := (rfl)
theorem cok_impl_Parser_hear : codeOk CT Try.f101 (Try.f101.body.get rfl) = true := by kernel_rfl
theorem xe_impl_Parser_hear (t0 t1 : Value) (m : Mem) : ex CT cf_impl_Parser_hear Try.f101 2 m.length [] (fun _ _ _ => none) 400 [.code (Try.f101.body.get rfl)] (argsT 0 [t0, t1]) m = X_impl_Parser_hear [t0, t1] m := by kernel_rfl
theorem okc_impl_Parser_hear : CallOK CT cf_impl_Parser_hear := cfc_ok ok_C_impl_Parser_clone (cfc_ok ok_C_impl_afterEscape (cfc_ok ok_C_impl_Parser_inParams cfn_ok))
theorem ok_X_impl_Parser_hear : OkX CT 101 X_impl_Parser_hear := OkX.of_ex (cf := cf_impl_Parser_hear) (np := 2) (LL := []) (J := (fun _ _ _ _ => none)) CT_ok rfl Try.func101 rfl (Nat.le_of_ble_eq_true rfl) (by decide) cok_impl_Parser_hear okc_impl_Parser_hear (fun k => noLoops rfl) (fun args m r h => match args, h with
    | [t0, t1], h => ⟨rfl, (xe_impl_Parser_hear t0 t1 m).trans h⟩)
theorem ok_C_impl_Parser_hear : OkC CT 101 C_impl_Parser_hear := fcall_ok rfl ok_X_impl_Parser_hear

/-! ### impl.StepParser -/
noncomputable def cf_impl_StepParser : CallF := cfc 25 C_impl_ParserFault (cfc 88 C_impl_first (cfc 89 C_impl_unless (cfc 95 C_impl_isChar (cfc 101 C_impl_Parser_hear cfn))))
noncomputable def X_impl_StepParser : List Value → Mem → Option VM
  | [t0, t1], m =>
    (boxX m t0) |> bo fun r1 =>
    (alX r1.2 [.int .i64 0, .int .i64 0, .int .i64 0, .int .i64 0, .bool false, .slice none 0 0, .int .i64 0, .int .i64 0, .bool false, .slice none 0 0]) |> bo fun r2 =>
    (ldS r2.2 4 r1.1) |> bo fun t8 =>
    (C_impl_ParserFault [t8] r2.2) |> bo fun r4 =>
    (C_impl_isChar [t1] r4.2) |> bo fun r5 =>
    (C_impl_unless [r5.1, (.int .i64 3)] r5.2) |> bo fun r6 =>
    (bslX r6.2 2 1 [.int .i64 0] [(0, 1, r4.1), (1, 1, r6.1)]) |> bo fun r7 =>
    (C_impl_first [r7.1] r7.2) |> bo fun r8 =>
    (binX .neq .no r8.1 (.int .i64 0)) |> bo fun t16 =>
    brX t16
      (
        (bldX [.int .i64 0, .int .i64 0, .int .i64 0, .int .i64 0, .bool false, .slice none 0 0, .int .i64 0, .int .i64 0, .bool false, .slice none 0 0] [(0, 1, r8.1)]) |> bo fun t18 =>
        (stX r8.2 10 r2.1 t18) |> bo fun m11 =>
        (resP (some 10) m11 r2.1) |> bo fun c12 =>
        retK m.length m11 [t0, t1] c12)
      (
        (ldS r8.2 4 r1.1) |> bo fun t20 =>
        (C_impl_Parser_hear [t20, t1] r8.2) |> bo fun r14 =>
        (extX 0 r14.1) |> bo fun t23 =>
        (extX 1 r14.1) |> bo fun t24 =>
        (alX r14.2 [.int .i64 0, .int .i64 0, .int .i64 0, .bool false, .slice none 0 0]) |> bo fun r17 =>
        (alX r17.2 [.int .i64 0, .int .i64 0, .bool false, .slice none 0 0]) |> bo fun r18 =>
        (stX r18.2 5 r17.1 t23) |> bo fun m19 =>
        (stX m19 4 r18.1 t24) |> bo fun m20 =>
        (ldS m20 5 r17.1) |> bo fun t25 =>
        (ldS m20 4 r18.1) |> bo fun t26 =>
        (bldX [.int .i64 0, .int .i64 0, .int .i64 0, .int .i64 0, .bool false, .slice none 0 0, .int .i64 0, .int .i64 0, .bool false, .slice none 0 0] [(0, 1, (.int .i64 0)), (1, 5, t25), (6, 4, t26)]) |> bo fun t27 =>
        (stX m20 10 r2.1 t27) |> bo fun m24 =>
        (resP (some 10) m24 r2.1) |> bo fun c25 =>
        retK m.length m24 [t0, t1] c25)
  | _, _ => none
noncomputable def C_impl_StepParser : List Value → Mem → Option VM := icall X_impl_StepParser
@[simp] theorem c_impl_StepParser : C_impl_StepParser = icall X_impl_StepParser := (rfl)
theorem cok_impl_StepParser : codeOk CT Try.f23 (Try.f23.body.get rfl) = true := by kernel_rfl
theorem xe_impl_StepParser (t0 t1 : Value) (m : Mem) : ex CT cf_impl_StepParser Try.f23 2 m.length [] (fun _ _ _ => none) 400 [.code (Try.f23.body.get rfl)] (argsT 0 [t0, t1]) m = X_impl_StepParser [t0, t1] m := by kernel_rfl
theorem okc_impl_StepParser : CallOK CT cf_impl_StepParser := cfc_ok ok_C_impl_ParserFault (cfc_ok ok_C_impl_first (cfc_ok ok_C_impl_unless (cfc_ok ok_C_impl_isChar (cfc_ok ok_C_impl_Parser_hear cfn_ok))))
theorem ok_X_impl_StepParser : OkX CT 23 X_impl_StepParser := OkX.of_ex (cf := cf_impl_StepParser) (np := 2) (LL := []) (J := (fun _ _ _ _ => none)) CT_ok rfl Try.func23 rfl (Nat.le_of_ble_eq_true rfl) (by decide) cok_impl_StepParser okc_impl_StepParser (fun k => noLoops rfl) (fun args m r h => match args, h with
    | [t0, t1], h => ⟨rfl, (xe_impl_StepParser t0 t1 m).trans h⟩)
theorem ok_C_impl_StepParser : OkC CT 23 C_impl_StepParser := icall_ok rfl ok_X_impl_StepParser

/-! ### spec.l1Char -/
noncomputable def cf_spec_l1Char : CallF := cfc 119 C_spec_l1In cfn
noncomputable def X_spec_l1Char : List Value → Mem → Option VM
  | [t0], m =>
    (C_spec_l1In [t0, (.int .i64 0), (.int .i64 55295)] m) |> bo fun r1 =>
    (gd r1.1 false (some (t0, r1.2)) r1.2) |> bo fun r2 =>
    (gd r1.1 false ((C_spec_l1In [r2.1, (.int .i64 57344), (.int .i64 65535)] r2.2) |> bo fun r => some (r.1, r.2)) r2.2) |> bo fun r3 =>
    (pickX r1.1 (.bool true) r3.1) |> bo fun t8 =>
    retK m.length r3.2 [t0] t8
  | _, _ => none
noncomputable def C_spec_l1Char : List Value → Mem → Option VM := fcall X_spec_l1Char
@[simp] theorem c_spec_l1Char : C_spec_l1Char = fcall X_spec_l1Char := (rfl)
theorem cok_spec_l1Char : codeOk CT Try.f97 (Try.f97.body.get rfl) = true := by kernel_rfl
theorem xe_spec_l1Char (t0 : Value) (m : Mem) : ex CT cf_spec_l1Char Try.f97 1 m.length [] (fun _ _ _ => none) 400 [.code (Try.f97.body.get rfl)] (argsT 0 [t0]) m = X_spec_l1Char [t0] m := by kernel_rfl
theorem okc_spec_l1Char : CallOK CT cf_spec_l1Char := cfc_ok ok_C_spec_l1In cfn_ok
theorem ok_X_spec_l1Char : OkX CT 97 X_spec_l1Char := OkX.of_ex (cf := cf_spec_l1Char) (np := 1) (LL := []) (J := (fun _ _ _ _ => none)) CT_ok rfl Try.func97 rfl (Nat.le_of_ble_eq_true rfl) (by decide) cok_spec_l1Char okc_spec_l1Char (fun k => noLoops rfl) (fun args m r h => match args, h with
    | [t0], h => ⟨rfl, (xe_spec_l1Char t0 m).trans h⟩)
theorem ok_C_spec_l1Char : OkC CT 97 C_spec_l1Char := fcall_ok rfl ok_X_spec_l1Char

/-! ### spec.l4Params -/
noncomputable def cf_spec_l4Params : CallF := cfc 119 C_spec_l1In cfn
noncomputable def L_spec_l4Params (k : Nat) : Nat → Nat → List Value → Mem → Option VM
  | q + 1, 0, [t0, t3], m =>
    (lenX t0) |> bo fun t14 =>
    (binX .lss .no t3 t14) |> bo fun t15 =>
    brX t15
      (
        (ixaX 1 t0 t3) |> bo fun t20 =>
        (ld1 m t20) |> bo fun t21 =>
        (C_spec_l1In [t21, (.int .i64 0), (.int .i64 999)] m) |> bo fun r5 =>
        (uop .not r5.1) |> bo fun t23 =>
        brX t23
          (
            retK k r5.2 [t0] (.int .i64 3))
          (
            (binX .add .no t3 (.int .i64 1)) |> bo fun t17 =>
            cutK k r5.2 [t0] [t0, t17] (L_spec_l4Params k q 0)))
      (
        retK k m [t0] (.int .i64 0))
  | _, _, _, _ => none
noncomputable def J_spec_l4Params (k q l : Nat) : List Value → Mem → Option VM := cond (Nat.beq l 4) (L_spec_l4Params k q 0) (fun _ _ => none)
def LL_spec_l4Params : List (Nat × List Tmp) := [(4, [0, 3])]
noncomputable def X_spec_l4Params : List Value → Mem → Option VM
  | [t0], m =>
    (lenX t0) |> bo fun t5 =>
    (binX .lss .no t5 (.int .i64 1)) |> bo fun t6 =>
    (gd t6 false (some (t0, m)) m) |> bo fun r3 =>
    (gd t6 false ((lenX r3.1) |> bo fun v => some (v, r3.2)) r3.2) |> bo fun r4 =>
    (gd t6 false ((binX .gtr .no r4.1 (.int .i64 6)) |> bo fun v => some (v, r4.2)) r4.2) |> bo fun r5 =>
    (pickX t6 (.bool true) r5.1) |> bo fun t11 =>
    brX t11
      (
        retK m.length r5.2 [t0] (.int .i64 2))
      (
        cutK m.length r5.2 [t0] [t0, (.int .i64 0)] (L_spec_l4Params m.length QQ 0))
  | _, _ => none
noncomputable def C_spec_l4Params : List Value → Mem → Option VM := fcall X_spec_l4Params
@[simp] theorem c_spec_l4Params : C_spec_l4Params = fcall X_spec_l4Params := (rfl)
theorem cok_spec_l4Params : codeOk CT Try.f157 (Try.f157.body.get rfl) = true := by kernel_rfl
theorem xe_spec_l4Params (t0 : Value) (m : Mem) : ex CT cf_spec_l4Params Try.f157 1 m.length LL_spec_l4Params (J_spec_l4Params m.length QQ) 400 [.code (Try.f157.body.get rfl)] (argsT 0 [t0]) m = X_spec_l4Params [t0] m := by kernel_rfl
theorem okc_spec_l4Params : CallOK CT cf_spec_l4Params := cfc_ok ok_C_spec_l1In cfn_ok
theorem le_spec_l4Params_0 (k q : Nat) (t0 t3 : Value) (m : Mem) : ex CT cf_spec_l4Params Try.f157 1 k LL_spec_l4Params (J_spec_l4Params k q) 400 (atLoop Try.f157 0) [(0, t0), (3, t3)] m = J_spec_l4Params k (q + 1) 4 [t0, t3] m := by kernel_rfl
theorem gl_spec_l4Params (k : Nat) : ∀ q i, i < 1 → GoodL CT k Try.f157 LL_spec_l4Params (J_spec_l4Params k q) (atLoop Try.f157 i)
  | 0, 0, _ => goodL_zero (l := 4) (by kernel_rfl) (fun vs m => by kernel_rfl)
  | 0, _ + 1, h => absurd h (by omega)
  | q + 1, 0, _ => goodL_succ (np := 1) (l := 4) (live := [0, 3]) (n := 1) CT_ok rfl okc_spec_l4Params (c := (Try.f157.body.get rfl)) rfl cok_spec_l4Params (by kernel_rfl) (gl_spec_l4Params k q) (by kernel_rfl) rfl (fun vs m r hl h => match vs, hl with
    | [t0, t3], _ => (le_spec_l4Params_0 k q t0 t3 m).trans h)
  | _ + 1, _ + 1, h => absurd h (by omega)
theorem ok_X_spec_l4Params : OkX CT 157 X_spec_l4Params := OkX.of_ex (cf := cf_spec_l4Params) (np := 1) (LL := LL_spec_l4Params) (J := (fun k => J_spec_l4Params k QQ)) CT_ok rfl Try.func157 rfl (Nat.le_of_ble_eq_true rfl) (by decide) cok_spec_l4Params okc_spec_l4Params (fun k => allLoops rfl (by kernel_rfl) (gl_spec_l4Params k QQ)) (fun args m r h => match args, h with
    | [t0], h => ⟨rfl, (xe_spec_l4Params t0 m).trans h⟩)
theorem ok_C_spec_l4Params : OkC CT 157 C_spec_l4Params := fcall_ok rfl ok_X_spec_l4Params

/-! ### spec.l4Fault -/
noncomputable def cf_spec_l4Fault : CallF := cfc 119 C_spec_l1In (cfc 157 C_spec_l4Params cfn)
noncomputable def X_spec_l4Fault : List Value → Mem → Option VM
  | [t0], m =>
    (nilX t0) |> bo fun t4 =>
    (fadX 0 t4) |> bo fun t5 =>
    (ld1 m t5) |> bo fun t6 =>
    (C_spec_l1In [t6, (.int .i64 0), (.int .i64 3)] m) |> bo fun r4 =>
    (uop .not r4.1) |> bo fun t8 =>
    (gd t8 false (some (t0, r4.2)) r4.2) |> bo fun r6 =>
    (gd t8 false ((nilX r6.1) |> bo fun v => some (v, r6.2)) r6.2) |> bo fun r7 =>
    (gd t8 false ((fadX 0 r7.1) |> bo fun v => some (v, r7.2)) r7.2) |> bo fun r8 =>
    (gd t8 false ((ld1 r8.2 r8.1) |> bo fun v => some (v, r8.2)) r8.2) |> bo fun r9 =>
    (gd t8 false ((binX .neq .no r9.1 (.int .i64 3)) |> bo fun v => some (v, r9.2)) r9.2) |> bo fun r10 =>
    (gd t8 false (some (r10.1, r10.2)) r10.2) |> bo fun r11 =>
    (gd r11.1 true (some (t0, r11.2)) r11.2) |> bo fun r12 =>
    (gd r11.1 true ((nilX r12.1) |> bo fun v => some (v, r12.2)) r12.2) |> bo fun r13 =>
    (gd r11.1 true ((fadX 1 r13.1) |> bo fun v => some (v, r13.2)) r13.2) |> bo fun r14 =>
    (gd r11.1 true ((ld1 r14.2 r14.1) |> bo fun v => some (v, r14.2)) r14.2) |> bo fun r15 =>
    (gd r11.1 true ((binX .neq .no r15.1 (.int .i64 0)) |> bo fun v => some (v, r15.2)) r15.2) |> bo fun r16 =>
    (gd t8 false ((pickX r11.1 r16.1 (.bool false)) |> bo fun v => some (v, r16.2)) r16.2) |> bo fun r17 =>
    (pickX t8 (.bool true) r17.1) |> bo fun t22 =>
    (gd t22 false (some (t0, r17.2)) r17.2) |> bo fun r19 =>
    (gd t22 false ((nilX r19.1) |> bo fun v => some (v, r19.2)) r19.2) |> bo fun r20 =>
    (gd t22 false ((fadX 0 r20.1) |> bo fun v => some (v, r20.2)) r20.2) |> bo fun r21 =>
    (gd t22 false ((ld1 r21.2 r21.1) |> bo fun v => some (v, r21.2)) r21.2) |> bo fun r22 =>
    (gd t22 false ((binX .neq .no r22.1 (.int .i64 2)) |> bo fun v => some (v, r22.2)) r22.2) |> bo fun r23 =>
    (gd t22 false (some (r23.1, r23.2)) r23.2) |> bo fun r24 =>
    (gd r24.1 true (some (t0, r24.2)) r24.2) |> bo fun r25 =>
    (gd r24.1 true ((nilX r25.1) |> bo fun v => some (v, r25.2)) r25.2) |> bo fun r26 =>
    (gd r24.1 true ((fadX 2 r26.1) |> bo fun v => some (v, r26.2)) r26.2) |> bo fun r27 =>
    (gd r24.1 true ((ld1 r27.2 r27.1) |> bo fun v => some (v, r27.2)) r27.2) |> bo fun r28 =>
    (gd r24.1 true (some (r28.1, r28.2)) r28.2) |> bo fun r29 =>
    (gd r29.1 false (some (t0, r29.2)) r29.2) |> bo fun r30 =>
    (gd r29.1 false ((nilX r30.1) |> bo fun v => some (v, r30.2)) r30.2) |> bo fun r31 =>
    (gd r29.1 false ((fadX 3 r31.1) |> bo fun v => some (v, r31.2)) r31.2) |> bo fun r32 =>
    (gd r29.1 false ((ld1 r32.2 r32.1) |> bo fun v => some (v, r32.2)) r32.2) |> bo fun r33 =>
    (gd r29.1 false ((lenX r33.1) |> bo fun v => some (v, r33.2)) r33.2) |> bo fun r34 =>
    (gd r29.1 false ((binX .gtr .no r34.1 (.int .i64 0)) |> bo fun v => some (v, r34.2)) r34.2) |> bo fun r35 =>
    (gd r24.1 true ((pickX r29.1 (.bool true) r35.1) |> bo fun v => some (v, r35.2)) r35.2) |> bo fun r36 =>
    (gd t22 false ((pickX r24.1 r36.1 (.bool false)) |> bo fun v => some (v, r36.2)) r36.2) |> bo fun r37 =>
    (pickX t22 (.bool true) r37.1) |> bo fun t43 =>
    brX t43
      (
        retK m.length r37.2 [t0] (.int .i64 1))
      (
        (nilX t0) |> bo fun t45 =>
        (fadX 0 t45) |> bo fun t46 =>
        (ld1 r37.2 t46) |> bo fun t47 =>
        (binX .eql .no t47 (.int .i64 3)) |> bo fun t48 =>
        (gd t48 true (some (t0, r37.2)) r37.2) |> bo fun r43 =>
        (gd t48 true ((nilX r43.1) |> bo fun v => some (v, r43.2)) r43.2) |> bo fun r44 =>
        (gd t48 true ((fadX 1 r44.1) |> bo fun v => some (v, r44.2)) r44.2) |> bo fun r45 =>
        (gd t48 true ((ld1 r45.2 r45.1) |> bo fun v => some (v, r45.2)) r45.2) |> bo fun r46 =>
        (gd t48 true ((C_spec_l1In [r46.1, (.int .i64 1), (.int .i64 2)] r46.2) |> bo fun r => some (r.1, r.2)) r46.2) |> bo fun r47 =>
        (gd t48 true ((uop .not r47.1) |> bo fun v => some (v, r47.2)) r47.2) |> bo fun r48 =>
        (pickX t48 r48.1 (.bool false)) |> bo fun t56 =>
        brX t56
          (
            retK m.length r48.2 [t0] (.int .i64 3))
          (
            (nilX t0) |> bo fun t58 =>
            (fadX 0 t58) |> bo fun t59 =>
            (ld1 r48.2 t59) |> bo fun t60 =>
            (binX .eql .no t60 (.int .i64 2)) |> bo fun t61 =>
            brX t61
              (
                (nilX t0) |> bo fun t63 =>
                (fadX 3 t63) |> bo fun t64 =>
                (ld1 r48.2 t64) |> bo fun t65 =>
                (C_spec_l4Params [t65] r48.2) |> bo fun r57 =>
                retK m.length r57.2 [t0] r57.1)
              (
                retK m.length r48.2 [t0] (.int .i64 0))))
  | _, _ => none
noncomputable def C_spec_l4Fault : List Value → Mem → Option VM := fcall X_spec_l4Fault
@[simp] theorem c_spec_l4Fault : C_spec_l4Fault = fcall X_spec_l4Fault := (rfl)
theorem cok_spec_l4Fault : codeOk CT Try.f102 (Try.f102.body.get rfl) = true := by kernel_rfl
theorem xe_spec_l4Fault (t0 : Value) (m : Mem) : ex CT cf_spec_l4Fault Try.f102 1 m.length [] (fun _ _ _ => none) 400 [.code (Try.f102.body.get rfl)] (argsT 0 [t0]) m = X_spec_l4Fault [t0] m := by kernel_rfl
theorem okc_spec_l4Fault : CallOK CT cf_spec_l4Fault := cfc_ok ok_C_spec_l1In (cfc_ok ok_C_spec_l4Params cfn_ok)
theorem ok_X_spec_l4Fault : OkX CT 102 X_spec_l4Fault := OkX.of_ex (cf := cf_spec_l4Fault) (np := 1) (LL := []) (J := (fun _ _ _ _ => none)) CT_ok rfl Try.func102 rfl (Nat.le_of_ble_eq_true rfl) (by decide) cok_spec_l4Fault okc_spec_l4Fault (fun k => noLoops rfl) (fun args m r h => match args, h with
    | [t0], h => ⟨rfl, (xe_spec_l4Fault t0 m).trans h⟩)
theorem ok_C_spec_l4Fault : OkC CT 102 C_spec_l4Fault := fcall_ok rfl ok_X_spec_l4Fault

/-! ### spec.StepParser -/
noncomputable def cf_spec_StepParser : CallF := cfc 97 C_spec_l1Char (cfc 102 C_spec_l4Fault (cfc 103 C_spec_l4Step cfn))
noncomputable def X_spec_StepParser : List Value → Mem → Option VM
  | [t0, t1], m =>
    (boxX m t0) |> bo fun r1 =>
    (alX r1.2 [.int .i64 0, .int .i64 0, .int .i64 0, .int .i64 0, .bool false, .slice none 0 0, .int .i64 0, .int .i64 0, .bool false, .slice none 0 0]) |> bo fun r2 =>
    (C_spec_l4Fault [r1.1] r2.2) |> bo fun r3 =>
    (binX .neq .no r3.1 (.int .i64 0)) |> bo fun t10 =>
    brX t10
      (
        (bldX [.int .i64 0, .int .i64 0, .int .i64 0, .int .i64 0, .bool false, .slice none 0 0, .int .i64 0, .int .i64 0, .bool false, .slice none 0 0] [(0, 1, r3.1)]) |> bo fun t12 =>
        (stX r3.2 10 r2.1 t12) |> bo fun m6 =>
        (resP (some 10) m6 r2.1) |> bo fun c7 =>
        retK m.length m6 [t0, t1] c7)
      (
        (C_spec_l1Char [t1] r3.2) |> bo fun r8 =>
        (uop .not r8.1) |> bo fun t15 =>
        brX t15
          (
            (bldX [.int .i64 0, .int .i64 0, .int .i64 0, .int .i64 0, .bool false, .slice none 0 0, .int .i64 0, .int .i64 0, .bool false, .slice none 0 0] [(0, 1, (.int .i64 3))]) |> bo fun t16 =>
            (stX r8.2 10 r2.1 t16) |> bo fun m11 =>
            (resP (some 10) m11 r2.1) |> bo fun c12 =>
            retK m.length m11 [t0, t1] c12)
          (
            (ldS r8.2 4 r1.1) |> bo fun t18 =>
            (C_spec_l4Step [t18, t1] r8.2) |> bo fun r14 =>
            (extX 0 r14.1) |> bo fun t21 =>
            (extX 1 r14.1) |> bo fun t22 =>
            (alX r14.2 [.int .i64 0, .int .i64 0, .int .i64 0, .bool false, .slice none 0 0]) |> bo fun r17 =>
            (alX r17.2 [.int .i64 0, .int .i64 0, .bool false, .slice none 0 0]) |> bo fun r18 =>
            (stX r18.2 5 r17.1 t21) |> bo fun m19 =>
            (stX m19 4 r18.1 t22) |> bo fun m20 =>
            (ldS m20 5 r17.1) |> bo fun t23 =>
            (ldS m20 4 r18.1) |> bo fun t24 =>
            (bldX [.int .i64 0, .int .i64 0, .int .i64 0, .int .i64 0, .bool false, .slice none 0 0, .int .i64 0, .int .i64 0, .bool false, .slice none 0 0] [(1, 5, t23), (6, 4, t24)]) |> bo fun t25 =>
            (stX m20 10 r2.1 t25) |> bo fun m24 =>
            (resP (some 10) m24 r2.1) |> bo fun c25 =>
            retK m.length m24 [t0, t1] c25))
  | _, _ => none
noncomputable def C_spec_StepParser : List Value → Mem → Option VM := icall X_spec_StepParser
@[simp] theorem c_spec_StepParser : C_spec_StepParser = icall X_spec_StepParser := (rfl)
theorem cok_spec_StepParser : codeOk CT Try.f24 (Try.f24.body.get rfl) = true := by kernel_rfl
theorem xe_spec_StepParser (t0 t1 : Value) (m : Mem) : ex CT cf_spec_StepParser Try.f24 2 m.length [] (fun _ _ _ => none) 400 [.code (Try.f24.body.get rfl)] (argsT 0 [t0, t1]) m = X_spec_StepParser [t0, t1] m := by kernel_rfl
theorem okc_spec_StepParser : CallOK CT cf_spec_StepParser := cfc_ok ok_C_spec_l1Char (cfc_ok ok_C_spec_l4Fault (cfc_ok ok_C_spec_l4Step cfn_ok))
theorem ok_X_spec_StepParser : OkX CT 24 X_spec_StepParser := OkX.of_ex (cf := cf_spec_StepParser) (np := 2) (LL := []) (J := (fun _ _ _ _ => none)) CT_ok rfl Try.func24 rfl (Nat.le_of_ble_eq_true rfl) (by decide) cok_spec_StepParser okc_spec_StepParser (fun k => noLoops rfl) (fun args m r h => match args, h with
    | [t0, t1], h => ⟨rfl, (xe_spec_StepParser t0 t1 m).trans h⟩)
theorem ok_C_spec_StepParser : OkC CT 24 C_spec_StepParser := icall_ok rfl ok_X_spec_StepParser

/-! ### slices.Equal[[]int64,int64] -/
noncomputable def cf_slices_Equal_int64_int64 : CallF := cfn
noncomputable def L_slices_Equal_int64_int64 (k : Nat) : Nat → Nat → List Value → Mem → Option VM
  | q + 1, 0, [t0, t1, t12, t13], m =>
    (binX .lss .no t13 t12) |> bo fun t14 =>
    brX t14
      (
        (ixaX 1 t0 t13) |> bo fun t18 =>
        (ld1 m t18) |> bo fun t19 =>
        (ixaX 1 t1 t13) |> bo fun t22 =>
        (ld1 m t22) |> bo fun t23 =>
        (binX .neq .no t19 t23) |> bo fun t24 =>
        brX t24
          (
            retK k m [t0, t1] (.bool false))
          (
            (binX .add .no t13 (.int .i64 1)) |> bo fun t25 =>
            cutK k m [t0, t1] [t0, t1, t12, t25] (L_slices_Equal_int64_int64 k q 0)))
      (
        retK k m [t0, t1] (.bool true))
  | _, _, _, _ => none
noncomputable def J_slices_Equal_int64_int64 (k q l : Nat) : List Value → Mem → Option VM := cond (Nat.beq l 4) (L_slices_Equal_int64_int64 k q 0) (fun _ _ => none)
def LL_slices_Equal_int64_int64 : List (Nat × List Tmp) := [(4, [0, 1, 12, 13])]
noncomputable def X_slices_Equal_int64_int64 : List Value → Mem → Option VM
  | [t0, t1], m =>
    (lenX t0) |> bo fun t7 =>
    (lenX t1) |> bo fun t9 =>
    (binX .neq .no t7 t9) |> bo fun t10 =>
    brX t10
      (
        retK m.length m [t0, t1] (.bool false))
      (
        (lenX t0) |> bo fun t12 =>
        cutK m.length m [t0, t1] [t0, t1, t12, (.int .i64 0)] (L_slices_Equal_int64_int64 m.length QQ 0))
  | _, _ => none
noncomputable def C_slices_Equal_int64_int64 : List Value → Mem → Option VM := fcall X_slices_Equal_int64_int64
@[simp] theorem c_slices_Equal_int64_int64 : C_slices_Equal_int64_int64 = fcall X_slices_Equal_int64_int64 := (rfl)
theorem cok_slices_Equal_int64_int64 : codeOk CT Try.f106 (Try.f106.body.get rfl) = true := by kernel_rfl
theorem xe_slices_Equal_int64_int64 (t0 t1 : Value) (m : Mem) : ex CT cf_slices_Equal_int64_int64 Try.f106 2 m.length LL_slices_Equal_int64_int64 (J_slices_Equal_int64_int64 m.length QQ) 400 [.code (Try.f106.body.get rfl)] (argsT 0 [t0, t1]) m = X_slices_Equal_int64_int64 [t0, t1] m := by kernel_rfl
theorem okc_slices_Equal_int64_int64 : CallOK CT cf_slices_Equal_int64_int64 := cfn_ok
theorem le_slices_Equal_int64_int64_0 (k q : Nat) (t0 t1 t12 t13 : Value) (m : Mem) : ex CT cf_slices_Equal_int64_int64 Try.f106 2 k LL_slices_Equal_int64_int64 (J_slices_Equal_int64_int64 k q) 400 (atLoop Try.f106 0) [(0, t0), (1, t1), (12, t12), (13, t13)] m = J_slices_Equal_int64_int64 k (q + 1) 4 [t0, t1, t12, t13] m := by kernel_rfl
theorem gl_slices_Equal_int64_int64 (k : Nat) : ∀ q i, i < 1 → GoodL CT k Try.f106 LL_slices_Equal_int64_int64 (J_slices_Equal_int64_int64 k q) (atLoop Try.f106 i)
  | 0, 0, _ => goodL_zero (l := 4) (by kernel_rfl) (fun vs m => by kernel_rfl)
  | 0, _ + 1, h => absurd h (by omega)
  | q + 1, 0, _ => goodL_succ (np := 2) (l := 4) (live := [0, 1, 12, 13]) (n := 1) CT_ok rfl okc_slices_Equal_int64_int64 (c := (Try.f106.body.get rfl)) rfl cok_slices_Equal_int64_int64 (by kernel_rfl) (gl_slices_Equal_int64_int64 k q) (by kernel_rfl) rfl (fun vs m r hl h => match vs, hl with
    | [t0, t1, t12, t13], _ => (le_slices_Equal_int64_int64_0 k q t0 t1 t12 t13 m).trans h)
  | _ + 1, _ + 1, h => absurd h (by omega)
theorem ok_X_slices_Equal_int64_int64 : OkX CT 106 X_slices_Equal_int64_int64 := OkX.of_ex (cf := cf_slices_Equal_int64_int64) (np := 2) (LL := LL_slices_Equal_int64_int64) (J := (fun k => J_slices_Equal_int64_int64 k QQ)) CT_ok rfl Try.func106 rfl (Nat.le_of_ble_eq_true rfl) (by decide) cok_slices_Equal_int64_int64 okc_slices_Equal_int64_int64 (fun k => allLoops rfl (by kernel_rfl) (gl_slices_Equal_int64_int64 k QQ)) (fun args m r h => match args, h with
    | [t0, t1], h => ⟨rfl, (xe_slices_Equal_int64_int64 t0 t1 m).trans h⟩)
theorem ok_C_slices_Equal_int64_int64 : OkC CT 106 C_slices_Equal_int64_int64 := fcall_ok rfl ok_X_slices_Equal_int64_int64

/-! ### impl.SameParsers -/
noncomputable def cf_impl_SameParsers : CallF := cfc 106 C_slices_Equal_int64_int64 cfn
noncomputable def X_impl_SameParsers : List Value → Mem → Option VM
  | [t0, t1], m =>
    (boxX m t0) |> bo fun r1 =>
    (boxX r1.2 t1) |> bo fun r2 =>
    (fadX 0 r1.1) |> bo fun t5 =>
    (ld1 r2.2 t5) |> bo fun t6 =>
    (fadX 0 r2.1) |> bo fun t7 =>
    (ld1 r2.2 t7) |> bo fun t8 =>
    (binX .eql .no t6 t8) |> bo fun t9 =>
    (gd t9 true ((fadX 1 r1.1) |> bo fun v => some (v, r2.2)) r2.2) |> bo fun r8 =>
    (gd t9 true ((ld1 r8.2 r8.1) |> bo fun v => some (v, r8.2)) r8.2) |> bo fun r9 =>
    (gd t9 true ((fadX 1 r2.1) |> bo fun v => some (v, r9.2)) r9.2) |> bo fun r10 =>
    (gd t9 true ((ld1 r10.2 r10.1) |> bo fun v => some (v, r10.2)) r10.2) |> bo fun r11 =>
    (gd t9 true ((binX .eql .no r9.1 r11.1) |> bo fun v => some (v, r11.2)) r11.2) |> bo fun r12 =>
    (pickX t9 r12.1 (.bool false)) |> bo fun t16 =>
    (gd t16 true ((fadX 2 r1.1) |> bo fun v => some (v, r12.2)) r12.2) |> bo fun r14 =>
    (gd t16 true ((ld1 r14.2 r14.1) |> bo fun v => some (v, r14.2)) r14.2) |> bo fun r15 =>
    (gd t16 true ((fadX 2 r2.1) |> bo fun v => some (v, r15.2)) r15.2) |> bo fun r16 =>
    (gd t16 true ((ld1 r16.2 r16.1) |> bo fun v => some (v, r16.2)) r16.2) |> bo fun r17 =>
    (gd t16 true ((binX .eql .bool r15.1 r17.1) |> bo fun v => some (v, r17.2)) r17.2) |> bo fun r18 =>
    (pickX t16 r18.1 (.bool false)) |> bo fun t23 =>
    (gd t23 true ((fadX 3 r1.1) |> bo fun v => some (v, r18.2)) r18.2) |> bo fun r20 =>
    (gd t23 true ((ld1 r20.2 r20.1) |> bo fun v => some (v, r20.2)) r20.2) |> bo fun r21 =>
    (gd t23 true ((fadX 3 r2.1) |> bo fun v => some (v, r21.2)) r21.2) |> bo fun r22 =>
    (gd t23 true ((ld1 r22.2 r22.1) |> bo fun v => some (v, r22.2)) r22.2) |> bo fun r23 =>
    (gd t23 true ((C_slices_Equal_int64_int64 [r21.1, r23.1] r23.2) |> bo fun r => some (r.1, r.2)) r23.2) |> bo fun r24 =>
    (pickX t23 r24.1 (.bool false)) |> bo fun t30 =>
    retK m.length r24.2 [t0, t1] t30
  | _, _ => none
noncomputable def C_impl_SameParsers : List Value → Mem → Option VM := fcall X_impl_SameParsers
@[simp] theorem c_impl_SameParsers : C_impl_SameParsers = fcall X_impl_SameParsers := (rfl)
theorem cok_impl_SameParsers : codeOk CT Try.f26 (Try.f26.body.get rfl) = true := by kernel_rfl
theorem xe_impl_SameParsers (t0 t1 : Value) (m : Mem) : ex CT cf_impl_SameParsers Try.f26 2 m.length [] (fun _ _ _ => none) 400 [.code (Try.f26.body.get rfl)] (argsT 0 [t0, t1]) m = X_impl_SameParsers [t0, t1] m := by kernel_rfl
theorem okc_impl_SameParsers : CallOK CT cf_impl_SameParsers := cfc_ok ok_C_slices_Equal_int64_int64 cfn_ok
theorem ok_X_impl_SameParsers : OkX CT 26 X_impl_SameParsers := OkX.of_ex (cf := cf_impl_SameParsers) (np := 2) (LL := []) (J := (fun _ _ _ _ => none)) CT_ok rfl Try.func26 rfl (Nat.le_of_ble_eq_true rfl) (by decide) cok_impl_SameParsers okc_impl_SameParsers (fun k => noLoops rfl) (fun args m r h => match args, h with
    | [t0, t1], h => ⟨rfl, (xe_impl_SameParsers t0 t1 m).trans h⟩)
theorem ok_C_impl_SameParsers : OkC CT 26 C_impl_SameParsers := fcall_ok rfl ok_X_impl_SameParsers

/-! ### laws.FnAborts -/
noncomputable def cf_laws_FnAborts : CallF := cfc 12 C_laws_lwBig (cfc 22 C_spec_DrawStepParser (cfc 23 C_impl_StepParser (cfc 24 C_spec_StepParser (cfc 25 C_impl_ParserFault (cfc 26 C_impl_SameParsers cfn)))))
noncomputable def X_laws_FnAborts : List Value → Mem → Option VM
  | [t0], m =>
    (C_laws_lwBig [t0] m) |> bo fun r1 =>
    brX r1.1
      (
        retK m.length r1.2 [t0] (.bool true))
      (
        (C_spec_DrawStepParser [t0] r1.2) |> bo fun r2 =>
        (extX 0 r2.1) |> bo fun t14 =>
        (extX 1 r2.1) |> bo fun t15 =>
        (alX r2.2 [.int .i64 0, .int .i64 0, .bool false, .slice none 0 0]) |> bo fun r5 =>
        (stX r5.2 4 r5.1 t14) |> bo fun m6 =>
        (ldS m6 4 r5.1) |> bo fun t16 =>
        (C_impl_StepParser [t16, t15] m6) |> bo fun r8 =>
        (alX r8.2 [.int .i64 0, .int .i64 0, .int .i64 0, .int .i64 0, .bool false, .slice none 0 0, .int .i64 0, .int .i64 0, .bool false, .slice none 0 0]) |> bo fun r9 =>
        (stX r9.2 10 r9.1 r8.1) |> bo fun m10 =>
        (fadX 0 r9.1) |> bo fun t19 =>
        (ld1 m10 t19) |> bo fun t20 =>
        (binX .neq .no t20 (.int .i64 0)) |> bo fun t21 =>
        brX t21
          (
            (ldS m10 4 r5.1) |> bo fun t22 =>
            (C_spec_StepParser [t22, t15] m10) |> bo fun r15 =>
            (fld1 0 r15.1) |> bo fun t25 =>
            (fadX 0 r9.1) |> bo fun t26 =>
            (ld1 r15.2 t26) |> bo fun t27 =>
            (binX .eql .no t25 t27) |> bo fun t28 =>
            gP (stbL [((rdN t26), m10, r15.2)])
              (
                retK m.length r15.2 [t0] t28))
          (
            (fadX 6 r9.1) |> bo fun t29 =>
            (ldS m10 4 t29) |> bo fun t30 =>
            (C_impl_StepParser [t30, (.int .i64 24)] m10) |> bo fun r22 =>
            (alX r22.2 [.int .i64 0, .int .i64 0, .int .i64 0, .int .i64 0, .bool false, .slice none 0 0, .int .i64 0, .int .i64 0, .bool false, .slice none 0 0]) |> bo fun r23 =>
            (stX r23.2 10 r23.1 r22.1) |> bo fun m24 =>
            (fadX 6 r9.1) |> bo fun t32 =>
            (ldS m24 4 t32) |> bo fun t33 =>
            (C_impl_StepParser [t33, (.int .i64 27)] m24) |> bo fun r27 =>
            (alX r27.2 [.int .i64 0, .int .i64 0, .int .i64 0, .int .i64 0, .bool false, .slice none 0 0, .int .i64 0, .int .i64 0, .bool false, .slice none 0 0]) |> bo fun r28 =>
            (stX r28.2 10 r28.1 r27.1) |> bo fun m29 =>
            (fadX 6 r23.1) |> bo fun t35 =>
            (ldS m29 4 t35) |> bo fun t36 =>
            (C_impl_StepParser [t36, (.int .i64 97)] m29) |> bo fun r32 =>
            (alX r32.2 [.int .i64 0, .int .i64 0, .int .i64 0, .int .i64 0, .bool false, .slice none 0 0, .int .i64 0, .int .i64 0, .bool false, .slice none 0 0]) |> bo fun r33 =>
            (stX r33.2 10 r33.1 r32.1) |> bo fun m34 =>
            (fadX 6 r9.1) |> bo fun t38 =>
            (ldS m34 4 t38) |> bo fun t39 =>
            (C_impl_ParserFault [t39] m34) |> bo fun r37 =>
            (binX .eql .no r37.1 (.int .i64 0)) |> bo fun t41 =>
            (gd t41 true ((fadX 6 r23.1) |> bo fun v => some (v, r37.2)) r37.2) |> bo fun r39 =>
            (gd t41 true ((ldS r39.2 4 r39.1) |> bo fun v => some (v, r39.2)) r39.2) |> bo fun r40 =>
            (gd t41 true ((bldX [.int .i64 0, .int .i64 0, .bool false, .slice none 0 0] []) |> bo fun v => some (v, r40.2)) r40.2) |> bo fun r41 =>
            (gd t41 true ((C_impl_SameParsers [r40.1, r41.1] r41.2) |> bo fun r => some (r.1, r.2)) r41.2) |> bo fun r42 =>
            (pickX t41 r42.1 (.bool false)) |> bo fun t47 =>
            (gd t47 true ((fadX 1 r23.1) |> bo fun v => some (v, r42.2)) r42.2) |> bo fun r44 =>
            (gd t47 true ((fadX 0 r44.1) |> bo fun v => some (v, r44.2)) r44.2) |> bo fun r45 =>
            (gd t47 true ((ld1 r45.2 r45.1) |> bo fun v => some (v, r45.2)) r45.2) |> bo fun r46 =>
            (gd t47 true ((binX .eql .no r46.1 (.int .i64 0)) |> bo fun v => some (v, r46.2)) r46.2) |> bo fun r47 =>
            (pickX t47 r47.1 (.bool false)) |> bo fun t53 =>
            (gd t53 true ((fadX 6 r28.1) |> bo fun v => some (v, r47.2)) r47.2) |> bo fun r49 =>
            (gd t53 true ((fadX 0 r49.1) |> bo fun v => some (v, r49.2)) r49.2) |> bo fun r50 =>
            (gd t53 true ((ld1 r50.2 r50.1) |> bo fun v => some (v, r50.2)) r50.2) |> bo fun r51 =>
            (gd t53 true ((binX .eql .no r51.1 (.int .i64 1)) |> bo fun v => some (v, r51.2)) r51.2) |> bo fun r52 =>
            (pickX t53 r52.1 (.bool false)) |> bo fun t59 =>
            (gd t59 true ((fadX 1 r33.1) |> bo fun v => some (v, r52.2)) r52.2) |> bo fun r54 =>
            (gd t59 true ((fadX 0 r54.1) |> bo fun v => some (v, r54.2)) r54.2) |> bo fun r55 =>
            (gd t59 true ((ld1 r55.2 r55.1) |> bo fun v => some (v, r55.2)) r55.2) |> bo fun r56 =>
            (gd t59 true ((binX .eql .no r56.1 (.int .i64 1)) |> bo fun v => some (v, r56.2)) r56.2) |> bo fun r57 =>
            (pickX t59 r57.1 (.bool false)) |> bo fun t65 =>
            (gd t65 true ((fadX 1 r33.1) |> bo fun v => some (v, r57.2)) r57.2) |> bo fun r59 =>
            (gd t65 true ((fadX 1 r59.1) |> bo fun v => some (v, r59.2)) r59.2) |> bo fun r60 =>
            (gd t65 true ((ld1 r60.2 r60.1) |> bo fun v => some (v, r60.2)) r60.2) |> bo fun r61 =>
            (gd t65 true ((binX .eql .no r61.1 (.int .i64 97)) |> bo fun v => some (v, r61.2)) r61.2) |> bo fun r62 =>
            (pickX t65 r62.1 (.bool false)) |> bo fun t71 =>
            (gd t71 true ((fadX 1 r9.1) |> bo fun v => some (v, r62.2)) r62.2) |> bo fun r64 =>
            (gd t71 true ((fadX 0 r64.1) |> bo fun v => some (v, r64.2)) r64.2) |> bo fun r65 =>
            (gd t71 true ((ld1 r65.2 r65.1) |> bo fun v => some (v, r65.2)) r65.2) |> bo fun r66 =>
            (gd t71 true ((ldS r66.2 4 r5.1) |> bo fun v => some (v, r66.2)) r66.2) |> bo fun r67 =>
            (gd t71 true (some (t15, r67.2)) r67.2) |> bo fun r68 =>
            (gd t71 true ((C_spec_StepParser [r67.1, r68.1] r68.2) |> bo fun r => some (r.1, r.2)) r68.2) |> bo fun r69 =>
            (gd t71 true ((fldS 1 5 r69.1) |> bo fun v => some (v, r69.2)) r69.2) |> bo fun r70 =>
            (gd t71 true ((fld1 0 r70.1) |> bo fun v => some (v, r70.2)) r70.2) |> bo fun r71 =>
            (gd t71 true ((binX .eql .no r66.1 r71.1) |> bo fun v => some (v, r71.2)) r71.2) |> bo fun r72 =>
            (pickX t71 r72.1 (.bool false)) |> bo fun t82 =>
            gP (stbL [((gdN t71 true (rdN r65.1)), r68.2, r69.2)])
              (
                retK m.length r72.2 [t0] t82)))
  | _, _ => none
noncomputable def C_laws_FnAborts : List Value → Mem → Option VM := fcall X_laws_FnAborts
@[simp] theorem c_laws_FnAborts : C_laws_FnAborts = fcall X_laws_FnAborts := (rfl)
theorem cok_laws_FnAborts : codeOk CT Try.f4 (Try.f4.body.get rfl) = true := by kernel_rfl
theorem xe_laws_FnAborts (t0 : Value) (m : Mem) : ex CT cf_laws_FnAborts Try.f4 1 m.length [] (fun _ _ _ => none) 400 [.code (Try.f4.body.get rfl)] (argsT 0 [t0]) m = X_laws_FnAborts [t0] m := by kernel_rfl
theorem okc_laws_FnAborts : CallOK CT cf_laws_FnAborts := cfc_ok ok_C_laws_lwBig (cfc_ok ok_C_spec_DrawStepParser (cfc_ok ok_C_impl_StepParser (cfc_ok ok_C_spec_StepParser (cfc_ok ok_C_impl_ParserFault (cfc_ok ok_C_impl_SameParsers cfn_ok)))))
theorem ok_X_laws_FnAborts : OkX CT 4 X_laws_FnAborts := OkX.of_ex (cf := cf_laws_FnAborts) (np := 1) (LL := []) (J := (fun _ _ _ _ => none)) CT_ok rfl Try.func4 rfl (Nat.le_of_ble_eq_true rfl) (by decide) cok_laws_FnAborts okc_laws_FnAborts (fun k => noLoops rfl) (fun args m r h => match args, h with
    | [t0], h => ⟨rfl, (xe_laws_FnAborts t0 m).trans h⟩)
theorem ok_C_laws_FnAborts : OkC CT 4 C_laws_FnAborts := fcall_ok rfl ok_X_laws_FnAborts

end Go.Ab
