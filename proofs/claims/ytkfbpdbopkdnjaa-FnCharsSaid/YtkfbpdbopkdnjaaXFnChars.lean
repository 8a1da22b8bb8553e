/- Plain forms of functions, printed by gen.py. -/
import Derived.Test.YtkfbpdbopkdnjaaCf3
import Derived.Test.YtkfbpdbopkdnjaaFC
set_option linter.unusedVariables false
set_option linter.unusedSimpArgs false
namespace Go.Ab
open Go.Proofs
set_option maxRecDepth 100000
set_option linter.unusedVariables false
/-! ### laws.lwBig -/
noncomputable def cf_laws_lwBig : CallF := cfn
noncomputable def X_laws_lwBig : List Value → Mem → Option VM
  | [t0], m =>
    (lenX t0) |> bo fun t4 =>
    (binX .gtr .no t4 (.int .i64 1048576)) |> bo fun t5 =>
    retK m.length m [t0] t5
  | _, _ => none
noncomputable def C_laws_lwBig : List Value → Mem → Option VM := fcall X_laws_lwBig
@[simp] theorem c_laws_lwBig : C_laws_lwBig = fcall X_laws_lwBig := (rfl)
theorem cok_laws_lwBig : codeOk CT Try.f12 (Try.f12.body.get rfl) = true := by kernel_rfl
theorem xe_laws_lwBig (t0 : Value) (m : Mem) : ex CT cf_laws_lwBig Try.f12 1 m.length [] (fun _ _ _ => none) 400 [.code (Try.f12.body.get rfl)] (argsT 0 [t0]) m = X_laws_lwBig [t0] m := by kernel_rfl
theorem okc_laws_lwBig : CallOK CT cf_laws_lwBig := cfn_ok
theorem ok_X_laws_lwBig : OkX CT 12 X_laws_lwBig := OkX.of_ex (cf := cf_laws_lwBig) (np := 1) (LL := []) (J := (fun _ _ _ _ => none)) CT_ok rfl Try.func12 rfl (Nat.le_of_ble_eq_true rfl) (by decide) cok_laws_lwBig okc_laws_lwBig (fun k => noLoops rfl) (fun args m r h => match args, h with
    | [t0], h => ⟨rfl, (xe_laws_lwBig t0 m).trans h⟩)
theorem ok_C_laws_lwBig : OkC CT 12 C_laws_lwBig := fcall_ok rfl ok_X_laws_lwBig

/-! ### spec.l1Source -/
noncomputable def cf_spec_l1Source : CallF := cfn
noncomputable def X_spec_l1Source : List Value → Mem → Option VM
  | [t0], m =>
    (bldX [.slice none 0 0, .int .i64 0] [(0, 1, t0)]) |> bo fun t4 =>
    (boxX m t4) |> bo fun r2 =>
    retK m.length r2.2 [t0] r2.1
  | _, _ => none
noncomputable def C_spec_l1Source : List Value → Mem → Option VM := rcall X_spec_l1Source
@[simp] theorem c_spec_l1Source : C_spec_l1Source = rcall X_spec_l1Source := (rfl)
theorem cok_spec_l1Source : codeOk CT Try.f83 (Try.f83.body.get rfl) = true := by kernel_rfl
theorem xe_spec_l1Source (t0 : Value) (m : Mem) : ex CT cf_spec_l1Source Try.f83 1 m.length [] (fun _ _ _ => none) 400 [.code (Try.f83.body.get rfl)] (argsT 0 [t0]) m = X_spec_l1Source [t0] m := by kernel_rfl
theorem okc_spec_l1Source : CallOK CT cf_spec_l1Source := cfn_ok
theorem ok_X_spec_l1Source : OkX CT 83 X_spec_l1Source := OkX.of_ex (cf := cf_spec_l1Source) (np := 1) (LL := []) (J := (fun _ _ _ _ => none)) CT_ok rfl Try.func83 rfl (Nat.le_of_ble_eq_true rfl) (by decide) cok_spec_l1Source okc_spec_l1Source (fun k => noLoops rfl) (fun args m r h => match args, h with
    | [t0], h => ⟨rfl, (xe_spec_l1Source t0 m).trans h⟩)
theorem ok_C_spec_l1Source : OkC CT 83 C_spec_l1Source := rcall_ok rfl ok_X_spec_l1Source

/-! ### spec.l1Next -/
noncomputable def cf_spec_l1Next : CallF := cfn
noncomputable def X_spec_l1Next : List Value → Mem → Option VM
  | [t0, t1], m =>
    (nilX t0) |> bo fun t10 =>
    (fadX 1 t10) |> bo fun t11 =>
    (ld1 m t11) |> bo fun t12 =>
    (binX .add .no t12 (.int .i64 1)) |> bo fun t13 =>
    (nilX t0) |> bo fun t14 =>
    (fadX 1 t14) |> bo fun t15 =>
    (stX m 1 t15 t13) |> bo fun m7 =>
    (binX .lss .no t1 (.int .i64 1)) |> bo fun t17 =>
    brX t17
      (
        retK m.length m7 [t0, t1] (.int .i64 0))
      (
        (nilX t0) |> bo fun t19 =>
        (fadX 1 t19) |> bo fun t20 =>
        (ld1 m7 t20) |> bo fun t21 =>
        (binX .sub .no t21 (.int .i64 1)) |> bo fun t22 =>
        (nilX t0) |> bo fun t24 =>
        (fadX 0 t24) |> bo fun t25 =>
        (ld1 m7 t25) |> bo fun t26 =>
        (lenX t26) |> bo fun t27 =>
        (binX .eql .no t27 (.int .i64 0)) |> bo fun t29 =>
        brX t29
          (
            (binX .mul .no t22 (.int .i64 7)) |> bo fun t31 =>
            (binX .rem .no t31 t1) |> bo fun t33 =>
            retK m.length m7 [t0, t1] t33)
          (
            (nilX t0) |> bo fun t35 =>
            (fadX 0 t35) |> bo fun t36 =>
            (ld1 m7 t36) |> bo fun t37 =>
            (binX .rem .no t22 t27) |> bo fun t40 =>
            (ixaX 1 t37 t40) |> bo fun t41 =>
            (ld1 m7 t41) |> bo fun t42 =>
            (cvI .i64 t42) |> bo fun t43 =>
            (binX .quo .no t22 t27) |> bo fun t46 =>
            (binX .mul .no t46 (.int .i64 37)) |> bo fun t47 =>
            (binX .add .no t43 t47) |> bo fun t48 =>
            (binX .gtr .no t1 (.int .i64 200)) |> bo fun t50 =>
            brX t50
              (
                (binX .mul .no t48 (.int .i64 251)) |> bo fun t52 =>
                (nilX t0) |> bo fun t54 =>
                (fadX 0 t54) |> bo fun t55 =>
                (ld1 m7 t55) |> bo fun t56 =>
                (binX .add .no t22 (.int .i64 1)) |> bo fun t58 =>
                (binX .rem .no t58 t27) |> bo fun t60 =>
                (ixaX 1 t56 t60) |> bo fun t61 =>
                (ld1 m7 t61) |> bo fun t62 =>
                (cvI .i64 t62) |> bo fun t63 =>
                (binX .mul .no t63 (.int .i64 13)) |> bo fun t64 =>
                (binX .add .no t52 t64) |> bo fun t65 =>
                (binX .add .no t65 t22) |> bo fun t67 =>
                (binX .rem .no t67 t1) |> bo fun t70 =>
                retK m.length m7 [t0, t1] t70)
              (
                (binX .rem .no t48 t1) |> bo fun t70 =>
                retK m.length m7 [t0, t1] t70)))
  | _, _ => none
noncomputable def C_spec_l1Next : List Value → Mem → Option VM := rcall X_spec_l1Next
@[simp] theorem c_spec_l1Next : C_spec_l1Next = rcall X_spec_l1Next := (rfl)
theorem cok_spec_l1Next : codeOk CT Try.f87 (Try.f87.body.get rfl) = true := by kernel_rfl
theorem xe_spec_l1Next (t0 t1 : Value) (m : Mem) : ex CT cf_spec_l1Next Try.f87 2 m.length [] (fun _ _ _ => none) 400 [.code (Try.f87.body.get rfl)] (argsT 0 [t0, t1]) m = X_spec_l1Next [t0, t1] m := by kernel_rfl
theorem okc_spec_l1Next : CallOK CT cf_spec_l1Next := cfn_ok
theorem ok_X_spec_l1Next : OkX CT 87 X_spec_l1Next := OkX.of_ex (cf := cf_spec_l1Next) (np := 2) (LL := []) (J := (fun _ _ _ _ => none)) CT_ok rfl Try.func87 rfl (Nat.le_of_ble_eq_true rfl) (by decide) cok_spec_l1Next okc_spec_l1Next (fun k => noLoops rfl) (fun args m r h => match args, h with
    | [t0, t1], h => ⟨rfl, (xe_spec_l1Next t0 t1 m).trans h⟩)
theorem ok_C_spec_l1Next : OkC CT 87 C_spec_l1Next := rcall_ok rfl ok_X_spec_l1Next

/-! ### spec.l1Pick -/
noncomputable def cf_spec_l1Pick : CallF := cfc 87 C_spec_l1Next cfn
noncomputable def X_spec_l1Pick : List Value → Mem → Option VM
  | [t0, t1], m =>
    (lenX t1) |> bo fun t8 =>
    (C_spec_l1Next [t0, t8] m) |> bo fun r2 =>
    (ixaX 1 t1 r2.1) |> bo fun t10 =>
    (ld1 r2.2 t10) |> bo fun t11 =>
    retK m.length r2.2 [t0, t1] t11
  | _, _ => none
noncomputable def C_spec_l1Pick : List Value → Mem → Option VM := rcall X_spec_l1Pick
@[simp] theorem c_spec_l1Pick : C_spec_l1Pick = rcall X_spec_l1Pick := (rfl)
theorem cok_spec_l1Pick : codeOk CT Try.f94 (Try.f94.body.get rfl) = true := by kernel_rfl
theorem xe_spec_l1Pick (t0 t1 : Value) (m : Mem) : ex CT cf_spec_l1Pick Try.f94 2 m.length [] (fun _ _ _ => none) 400 [.code (Try.f94.body.get rfl)] (argsT 0 [t0, t1]) m = X_spec_l1Pick [t0, t1] m := by kernel_rfl
theorem okc_spec_l1Pick : CallOK CT cf_spec_l1Pick := cfc_ok ok_C_spec_l1Next cfn_ok
theorem ok_X_spec_l1Pick : OkX CT 94 X_spec_l1Pick := OkX.of_ex (cf := cf_spec_l1Pick) (np := 2) (LL := []) (J := (fun _ _ _ _ => none)) CT_ok rfl Try.func94 rfl (Nat.le_of_ble_eq_true rfl) (by decide) cok_spec_l1Pick okc_spec_l1Pick (fun k => noLoops rfl) (fun args m r h => match args, h with
    | [t0, t1], h => ⟨rfl, (xe_spec_l1Pick t0 t1 m).trans h⟩)
theorem ok_C_spec_l1Pick : OkC CT 94 C_spec_l1Pick := rcall_ok rfl ok_X_spec_l1Pick

/-! ### spec.l1Some -/
noncomputable def cf_spec_l1Some : CallF := cfc 87 C_spec_l1Next (cfc 94 C_spec_l1Pick cfn)
noncomputable def L_spec_l1Some (k : Nat) : Nat → Nat → List Value → Mem → Option VM
  | q + 1, 0, [t0, t1, t5], m =>
    (binX .gtr .no t1 (.int .i64 0)) |> bo fun t8 =>
    brX t8
      (
        (C_spec_l1Next [t0, (.int .i64 256)] m) |> bo fun r2 =>
        (bslX r2.2 8 1 [.int .i64 0] [(0, 1, (.int .i64 97)), (1, 1, (.int .i64 98)), (2, 1, r2.1), (3, 1, (.int .i64 27)), (4, 1, (.int .i64 91)), (5, 1, (.int .i64 10)), (6, 1, (.int .i64 195)), (7, 1, (.int .i64 164))]) |> bo fun r3 =>
        (C_spec_l1Pick [t0, r3.1] r3.2) |> bo fun r4 =>
        (cvI .u8 r4.1) |> bo fun t17 =>
        (bslX r4.2 1 1 [.int .u8 0] [(0, 1, t17)]) |> bo fun r6 =>
        (apL r6.2 1 1 t5 r6.1) |> bo fun r7 =>
        (binX .sub .no t1 (.int .i64 1)) |> bo fun t10 =>
        cutK k r7.2 [t0, t10] [t0, t10, r7.1] (L_spec_l1Some k q 0))
      (
        retK k m [t0, t1] t5)
  | _, _, _, _ => none
noncomputable def J_spec_l1Some (k q l : Nat) : List Value → Mem → Option VM := cond (Nat.beq l 2) (L_spec_l1Some k q 0) (fun _ _ => none)
def LL_spec_l1Some : List (Nat × List Tmp) := [(2, [0, 1, 5])]
noncomputable def X_spec_l1Some : List Value → Mem → Option VM
  | [t0, t1], m =>
    (bslX m 0 1 [.int .u8 0] []) |> bo fun r1 =>
    cutK m.length r1.2 [t0, t1] [t0, t1, r1.1] (L_spec_l1Some m.length QQ 0)
  | _, _ => none
noncomputable def C_spec_l1Some : List Value → Mem → Option VM := rcall X_spec_l1Some
@[simp] theorem c_spec_l1Some : C_spec_l1Some = rcall X_spec_l1Some := (rfl)
theorem cok_spec_l1Some : codeOk CT Try.f86 (Try.f86.body.get rfl) = true := by kernel_rfl
theorem xe_spec_l1Some (t0 t1 : Value) (m : Mem) : ex CT cf_spec_l1Some Try.f86 2 m.length LL_spec_l1Some (J_spec_l1Some m.length QQ) 400 [.code (Try.f86.body.get rfl)] (argsT 0 [t0, t1]) m = X_spec_l1Some [t0, t1] m := by kernel_rfl
theorem okc_spec_l1Some : CallOK CT cf_spec_l1Some := cfc_ok ok_C_spec_l1Next (cfc_ok ok_C_spec_l1Pick cfn_ok)
theorem le_spec_l1Some_0 (k q : Nat) (t0 t1 t5 : Value) (m : Mem) : ex CT cf_spec_l1Some Try.f86 2 k LL_spec_l1Some (J_spec_l1Some k q) 400 (atLoop Try.f86 0) [(0, t0), (1, t1), (5, t5)] m = J_spec_l1Some k (q + 1) 2 [t0, t1, t5] m := by kernel_rfl
theorem gl_spec_l1Some (k : Nat) : ∀ q i, i < 1 → GoodL CT k Try.f86 LL_spec_l1Some (J_spec_l1Some k q) (atLoop Try.f86 i)
  | 0, 0, _ => goodL_zero (l := 2) (by kernel_rfl) (fun vs m => by kernel_rfl)
  | 0, _ + 1, h => absurd h (by omega)
  | q + 1, 0, _ => goodL_succ (np := 2) (l := 2) (live := [0, 1, 5]) (n := 1) CT_ok rfl okc_spec_l1Some (c := (Try.f86.body.get rfl)) rfl cok_spec_l1Some (by kernel_rfl) (gl_spec_l1Some k q) (by kernel_rfl) rfl (fun vs m r hl h => match vs, hl with
    | [t0, t1, t5], _ => (le_spec_l1Some_0 k q t0 t1 t5 m).trans h)
  | _ + 1, _ + 1, h => absurd h (by omega)
theorem ok_X_spec_l1Some : OkX CT 86 X_spec_l1Some := OkX.of_ex (cf := cf_spec_l1Some) (np := 2) (LL := LL_spec_l1Some) (J := (fun k => J_spec_l1Some k QQ)) CT_ok rfl Try.func86 rfl (Nat.le_of_ble_eq_true rfl) (by decide) cok_spec_l1Some okc_spec_l1Some (fun k => allLoops rfl (by kernel_rfl) (gl_spec_l1Some k QQ)) (fun args m r h => match args, h with
    | [t0, t1], h => ⟨rfl, (xe_spec_l1Some t0 t1 m).trans h⟩)
theorem ok_C_spec_l1Some : OkC CT 86 C_spec_l1Some := rcall_ok rfl ok_X_spec_l1Some

/-! ### spec.l1In -/
noncomputable def cf_spec_l1In : CallF := cfn
noncomputable def X_spec_l1In : List Value → Mem → Option VM
  | [t0, t1, t2], m =>
    (binX .geq .no t0 t1) |> bo fun t9 =>
    (gd t9 true (some (t0, m)) m) |> bo fun r2 =>
    (gd t9 true (some (t2, r2.2)) r2.2) |> bo fun r3 =>
    (gd t9 true ((binX .leq .no r2.1 r3.1) |> bo fun v => some (v, r3.2)) r3.2) |> bo fun r4 =>
    (pickX t9 r4.1 (.bool false)) |> bo fun t14 =>
    retK m.length r4.2 [t0, t1, t2] t14
  | _, _ => none
noncomputable def C_spec_l1In : List Value → Mem → Option VM := fcall X_spec_l1In
@[simp] theorem c_spec_l1In : C_spec_l1In = fcall X_spec_l1In := (rfl)
theorem cok_spec_l1In : codeOk CT Try.f119 (Try.f119.body.get rfl) = true := by kernel_rfl
theorem xe_spec_l1In (t0 t1 t2 : Value) (m : Mem) : ex CT cf_spec_l1In Try.f119 3 m.length [] (fun _ _ _ => none) 400 [.code (Try.f119.body.get rfl)] (argsT 0 [t0, t1, t2]) m = X_spec_l1In [t0, t1, t2] m := by kernel_rfl
theorem okc_spec_l1In : CallOK CT cf_spec_l1In := cfn_ok
theorem ok_X_spec_l1In : OkX CT 119 X_spec_l1In := OkX.of_ex (cf := cf_spec_l1In) (np := 3) (LL := []) (J := (fun _ _ _ _ => none)) CT_ok rfl Try.func119 rfl (Nat.le_of_ble_eq_true rfl) (by decide) cok_spec_l1In okc_spec_l1In (fun k => noLoops rfl) (fun args m r h => match args, h with
    | [t0, t1, t2], h => ⟨rfl, (xe_spec_l1In t0 t1 t2 m).trans h⟩)
theorem ok_C_spec_l1In : OkC CT 119 C_spec_l1In := fcall_ok rfl ok_X_spec_l1In

/-! ### spec.l1Char -/
noncomputable def cf_spec_l1Char : CallF := cfc 119 C_spec_l1In cfn
noncomputable def X_spec_l1Char : List Value → Mem → Option VM
  | [t0], m =>
    (C_spec_l1In [t0, (.int .i64 0), (.int .i64 55295)] m) |> bo fun r1 =>
    (gd r1.1 false (some (t0, r1.2)) r1.2) |> bo fun r2 =>
    (gd r1.1 false ((C_spec_l1In [r2.1, (.int .i64 57344), (.int .i64 65535)] r2.2) |> bo fun r => some (r.1, r.2)) r2.2) |> bo fun r3 =>
    (pickX r1.1 (.bool true) r3.1) |> bo fun t8 =>
    retK m.length r3.2 [t0] t8
  | _, _ => none
noncomputable def C_spec_l1Char : List Value → Mem → Option VM := fcall X_spec_l1Char
@[simp] theorem c_spec_l1Char : C_spec_l1Char = fcall X_spec_l1Char := (rfl)
theorem cok_spec_l1Char : codeOk CT Try.f97 (Try.f97.body.get rfl) = true := by kernel_rfl
theorem xe_spec_l1Char (t0 : Value) (m : Mem) : ex CT cf_spec_l1Char Try.f97 1 m.length [] (fun _ _ _ => none) 400 [.code (Try.f97.body.get rfl)] (argsT 0 [t0]) m = X_spec_l1Char [t0] m := by kernel_rfl
theorem okc_spec_l1Char : CallOK CT cf_spec_l1Char := cfc_ok ok_C_spec_l1In cfn_ok
theorem ok_X_spec_l1Char : OkX CT 97 X_spec_l1Char := OkX.of_ex (cf := cf_spec_l1Char) (np := 1) (LL := []) (J := (fun _ _ _ _ => none)) CT_ok rfl Try.func97 rfl (Nat.le_of_ble_eq_true rfl) (by decide) cok_spec_l1Char okc_spec_l1Char (fun k => noLoops rfl) (fun args m r h => match args, h with
    | [t0], h => ⟨rfl, (xe_spec_l1Char t0 m).trans h⟩)
theorem ok_C_spec_l1Char : OkC CT 97 C_spec_l1Char := fcall_ok rfl ok_X_spec_l1Char

/-! ### spec.l1Fresh -/
noncomputable def cf_spec_l1Fresh : CallF := cfc 119 C_spec_l1In cfn
noncomputable def X_spec_l1Fresh : List Value → Mem → Option VM
  | [t0], m =>
    (alX m [.int .i64 0, .int .i64 0, .int .i64 0]) |> bo fun r1 =>
    (binX .lss .no t0 (.int .i64 128)) |> bo fun t6 =>
    brX t6
      (
        (bslX r1.2 1 1 [.int .i64 0] [(0, 1, t0)]) |> bo fun r3 =>
        (bldX [.int .i64 0, .int .i64 0, .int .i64 0] []) |> bo fun t9 =>
        (stX r3.2 3 r1.1 t9) |> bo fun m5 =>
        (resP (some 3) m5 r1.1) |> bo fun c6 =>
        retK m.length m5 [t0] (.tuple #[r3.1, c6]))
      (
        (C_spec_l1In [t0, (.int .i64 194), (.int .i64 223)] r1.2) |> bo fun r7 =>
        brX r7.1
          (
            (bslX r7.2 0 1 [.int .i64 0] []) |> bo fun r8 =>
            (binX .sub .no t0 (.int .i64 192)) |> bo fun t15 =>
            (bldX [.int .i64 0, .int .i64 0, .int .i64 0] [(0, 1, (.int .i64 1)), (1, 1, (.int .i64 128)), (2, 1, t15)]) |> bo fun t16 =>
            (stX r8.2 3 r1.1 t16) |> bo fun m11 =>
            (resP (some 3) m11 r1.1) |> bo fun c12 =>
            retK m.length m11 [t0] (.tuple #[r8.1, c12]))
          (
            (C_spec_l1In [t0, (.int .i64 224), (.int .i64 239)] r7.2) |> bo fun r13 =>
            brX r13.1
              (
                (bslX r13.2 0 1 [.int .i64 0] []) |> bo fun r14 =>
                (binX .sub .no t0 (.int .i64 224)) |> bo fun t22 =>
                (bldX [.int .i64 0, .int .i64 0, .int .i64 0] [(0, 1, (.int .i64 2)), (1, 1, (.int .i64 2048)), (2, 1, t22)]) |> bo fun t23 =>
                (stX r14.2 3 r1.1 t23) |> bo fun m17 =>
                (resP (some 3) m17 r1.1) |> bo fun c18 =>
                retK m.length m17 [t0] (.tuple #[r14.1, c18]))
              (
                (bslX r13.2 1 1 [.int .i64 0] [(0, 1, (.int .i64 65533))]) |> bo fun r19 =>
                (bldX [.int .i64 0, .int .i64 0, .int .i64 0] []) |> bo fun t25 =>
                (stX r19.2 3 r1.1 t25) |> bo fun m21 =>
                (resP (some 3) m21 r1.1) |> bo fun c22 =>
                retK m.length m21 [t0] (.tuple #[r19.1, c22]))))
  | _, _ => none
noncomputable def C_spec_l1Fresh : List Value → Mem → Option VM := fcall X_spec_l1Fresh
@[simp] theorem c_spec_l1Fresh : C_spec_l1Fresh = fcall X_spec_l1Fresh := (rfl)
theorem cok_spec_l1Fresh : codeOk CT Try.f153 (Try.f153.body.get rfl) = true := by kernel_rfl
theorem xe_spec_l1Fresh (t0 : Value) (m : Mem) : ex CT cf_spec_l1Fresh Try.f153 1 m.length [] (fun _ _ _ => none) 400 [.code (Try.f153.body.get rfl)] (argsT 0 [t0]) m = X_spec_l1Fresh [t0] m := by kernel_rfl
theorem okc_spec_l1Fresh : CallOK CT cf_spec_l1Fresh := cfc_ok ok_C_spec_l1In cfn_ok
theorem ok_X_spec_l1Fresh : OkX CT 153 X_spec_l1Fresh := OkX.of_ex (cf := cf_spec_l1Fresh) (np := 1) (LL := []) (J := (fun _ _ _ _ => none)) CT_ok rfl Try.func153 rfl (Nat.le_of_ble_eq_true rfl) (by decide) cok_spec_l1Fresh okc_spec_l1Fresh (fun k => noLoops rfl) (fun args m r h => match args, h with
    | [t0], h => ⟨rfl, (xe_spec_l1Fresh t0 m).trans h⟩)
theorem ok_C_spec_l1Fresh : OkC CT 153 C_spec_l1Fresh := fcall_ok rfl ok_X_spec_l1Fresh

/-! ### spec.l1Step -/
noncomputable def cf_spec_l1Step : CallF := cfc 97 C_spec_l1Char (cfc 119 C_spec_l1In (cfc 153 C_spec_l1Fresh cfn))
noncomputable def X_spec_l1Step : List Value → Mem → Option VM
  | [t0, t1], m =>
    (boxX m t0) |> bo fun r1 =>
    (alX r1.2 [.int .i64 0, .int .i64 0, .int .i64 0]) |> bo fun r2 =>
    (fadX 0 r1.1) |> bo fun t8 =>
    (ld1 r2.2 t8) |> bo fun t9 =>
    (binX .eql .no t9 (.int .i64 0)) |> bo fun t10 =>
    brX t10
      (
        (C_spec_l1Fresh [t1] r2.2) |> bo fun r6 =>
        (extX 0 r6.1) |> bo fun t13 =>
        (extX 1 r6.1) |> bo fun t14 =>
        (stX r6.2 3 r2.1 t14) |> bo fun m9 =>
        (resP (some 3) m9 r2.1) |> bo fun c10 =>
        retK m.length m9 [t0, t1] (.tuple #[t13, c10]))
      (
        (C_spec_l1In [t1, (.int .i64 128), (.int .i64 191)] r2.2) |> bo fun r11 =>
        (uop .not r11.1) |> bo fun t17 =>
        brX t17
          (
            (C_spec_l1Fresh [t1] r11.2) |> bo fun r13 =>
            (extX 0 r13.1) |> bo fun t21 =>
            (extX 1 r13.1) |> bo fun t22 =>
            (alX r13.2 [.int .i64 0, .int .i64 0, .int .i64 0]) |> bo fun r16 =>
            (stX r16.2 3 r16.1 t22) |> bo fun m17 =>
            (bslX m17 1 1 [.int .i64 0] [(0, 1, (.int .i64 65533))]) |> bo fun r18 =>
            (apL r18.2 1 8 r18.1 t21) |> bo fun r19 =>
            (ldS r19.2 3 r16.1) |> bo fun t26 =>
            (stX r19.2 3 r2.1 t26) |> bo fun m21 =>
            gP (stbL [((rdN r16.1), r18.2, r19.2)])
              (
                (resP (some 3) m21 r2.1) |> bo fun c22 =>
                retK m.length m21 [t0, t1] (.tuple #[r19.1, c22])))
          (
            (fadX 2 r1.1) |> bo fun t27 =>
            (ld1 r11.2 t27) |> bo fun t28 =>
            (binX .mul .no (.int .i64 64) t28) |> bo fun t29 =>
            (binX .add .no t29 t1) |> bo fun t31 =>
            (binX .sub .no t31 (.int .i64 128)) |> bo fun t32 =>
            (fadX 2 r1.1) |> bo fun t33 =>
            (stX r11.2 1 t33 t32) |> bo fun m29 =>
            (fadX 0 r1.1) |> bo fun t34 =>
            (ld1 m29 t34) |> bo fun t35 =>
            (binX .sub .no t35 (.int .i64 1)) |> bo fun t36 =>
            (fadX 0 r1.1) |> bo fun t37 =>
            (stX m29 1 t37 t36) |> bo fun m34 =>
            (fadX 0 r1.1) |> bo fun t38 =>
            (ld1 m34 t38) |> bo fun t39 =>
            (binX .gtr .no t39 (.int .i64 0)) |> bo fun t40 =>
            brX t40
              (
                (bslX m34 0 1 [.int .i64 0] []) |> bo fun r38 =>
                (ldS r38.2 3 r1.1) |> bo fun t42 =>
                (stX r38.2 3 r2.1 t42) |> bo fun m40 =>
                (resP (some 3) m40 r2.1) |> bo fun c41 =>
                retK m.length m40 [t0, t1] (.tuple #[r38.1, c41]))
              (
                (fadX 2 r1.1) |> bo fun t43 =>
                (ld1 m34 t43) |> bo fun t44 =>
                (C_spec_l1Char [t44] m34) |> bo fun r44 =>
                (gd r44.1 true ((fadX 2 r1.1) |> bo fun v => some (v, r44.2)) r44.2) |> bo fun r45 =>
                (gd r44.1 true ((ld1 r45.2 r45.1) |> bo fun v => some (v, r45.2)) r45.2) |> bo fun r46 =>
                (gd r44.1 true ((fadX 1 r1.1) |> bo fun v => some (v, r46.2)) r46.2) |> bo fun r47 =>
                (gd r44.1 true ((ld1 r47.2 r47.1) |> bo fun v => some (v, r47.2)) r47.2) |> bo fun r48 =>
                (gd r44.1 true ((binX .geq .no r46.1 r48.1) |> bo fun v => some (v, r48.2)) r48.2) |> bo fun r49 =>
                (pickX r44.1 r49.1 (.bool false)) |> bo fun t52 =>
                brX t52
                  (
                    (fadX 2 r1.1) |> bo fun t53 =>
                    (ld1 r49.2 t53) |> bo fun t54 =>
                    (bslX r49.2 1 1 [.int .i64 0] [(0, 1, t54)]) |> bo fun r53 =>
                    (bldX [.int .i64 0, .int .i64 0, .int .i64 0] []) |> bo fun t56 =>
                    (stX r53.2 3 r2.1 t56) |> bo fun m55 =>
                    (resP (some 3) m55 r2.1) |> bo fun c56 =>
                    retK m.length m55 [t0, t1] (.tuple #[r53.1, c56]))
                  (
                    (bslX r49.2 1 1 [.int .i64 0] [(0, 1, (.int .i64 65533))]) |> bo fun r57 =>
                    (bldX [.int .i64 0, .int .i64 0, .int .i64 0] []) |> bo fun t58 =>
                    (stX r57.2 3 r2.1 t58) |> bo fun m59 =>
                    (resP (some 3) m59 r2.1) |> bo fun c60 =>
                    retK m.length m59 [t0, t1] (.tuple #[r57.1, c60])))))
  | _, _ => none
noncomputable def C_spec_l1Step : List Value → Mem → Option VM := fcall X_spec_l1Step
@[simp] theorem c_spec_l1Step : C_spec_l1Step = fcall X_spec_l1Step := (rfl)
theorem cok_spec_l1Step : codeOk CT Try.f92 (Try.f92.body.get rfl) = true := by kernel_rfl
theorem xe_spec_l1Step (t0 t1 : Value) (m : Mem) : ex CT cf_spec_l1Step Try.f92 2 m.length [] (fun _ _ _ => none) 400 [.code (Try.f92.body.get rfl)] (argsT 0 [t0, t1]) m = X_spec_l1Step [t0, t1] m := by kernel_rfl
theorem okc_spec_l1Step : CallOK CT cf_spec_l1Step := cfc_ok ok_C_spec_l1Char (cfc_ok ok_C_spec_l1In (cfc_ok ok_C_spec_l1Fresh cfn_ok))
theorem ok_X_spec_l1Step : OkX CT 92 X_spec_l1Step := OkX.of_ex (cf := cf_spec_l1Step) (np := 2) (LL := []) (J := (fun _ _ _ _ => none)) CT_ok rfl Try.func92 rfl (Nat.le_of_ble_eq_true rfl) (by decide) cok_spec_l1Step okc_spec_l1Step (fun k => noLoops rfl) (fun args m r h => match args, h with
    | [t0, t1], h => ⟨rfl, (xe_spec_l1Step t0 t1 m).trans h⟩)
theorem ok_C_spec_l1Step : OkC CT 92 C_spec_l1Step := fcall_ok rfl ok_X_spec_l1Step

/-! ### spec.l1Draw -/
noncomputable def cf_spec_l1Draw : CallF := cfc 86 C_spec_l1Some (cfc 87 C_spec_l1Next (cfc 92 C_spec_l1Step (cfc 94 C_spec_l1Pick cfn)))
noncomputable def L_spec_l1Draw (k : Nat) : Nat → Nat → List Value → Mem → Option VM
  | q + 1, 0, [t0, t2, t3, t4, t5], m =>
    (lenX t4) |> bo fun t13 =>
    (binX .lss .no t5 t13) |> bo fun t14 =>
    brX t14
      (
        (ldS m 3 t3) |> bo fun t18 =>
        (ixaX 1 t4 t5) |> bo fun t21 =>
        (ld1 m t21) |> bo fun t22 =>
        (cvI .i64 t22) |> bo fun t23 =>
        (C_spec_l1Step [t18, t23] m) |> bo fun r7 =>
        (extX 0 r7.1) |> bo fun t25 =>
        (extX 1 r7.1) |> bo fun t26 =>
        (stX r7.2 3 t3 t26) |> bo fun m10 =>
        (binX .add .no t5 (.int .i64 1)) |> bo fun t16 =>
        cutK k m10 [t0] [t0, t2, t3, t4, t16] (L_spec_l1Draw k q 0))
      (
        (C_spec_l1Next [t0, (.int .i64 14)] m) |> bo fun r12 =>
        (binX .eql .no r12.1 (.int .i64 0)) |> bo fun t30 =>
        brX t30
          (
            (bslX r12.2 5 1 [.int .i64 0] [(0, 1, (.int .i64 (-1))), (1, 1, (.int .i64 0)), (2, 1, (.int .i64 1)), (3, 1, (.int .i64 2)), (4, 1, (.int .i64 3))]) |> bo fun r14 =>
            (C_spec_l1Pick [t0, r14.1] r14.2) |> bo fun r15 =>
            (fadX 0 t3) |> bo fun t34 =>
            (stX r15.2 1 t34 r15.1) |> bo fun m17 =>
            (ldS m17 3 t3) |> bo fun t41 =>
            (stX m17 3 t2 t41) |> bo fun m19 =>
            (resP (some 3) m19 t2) |> bo fun c20 =>
            retK k m19 [t0] c20)
          (
            (binX .eql .no r12.1 (.int .i64 1)) |> bo fun t36 =>
            brX t36
              (
                (bslX r12.2 7 1 [.int .i64 0] [(0, 1, (.int .i64 0)), (1, 1, (.int .i64 2)), (2, 1, (.int .i64 15)), (3, 1, (.int .i64 16)), (4, 1, (.int .i64 31)), (5, 1, (.int .i64 1023)), (6, 1, (.int .i64 1024))]) |> bo fun r22 =>
                (C_spec_l1Pick [t0, r22.1] r22.2) |> bo fun r23 =>
                (fadX 2 t3) |> bo fun t40 =>
                (stX r23.2 1 t40 r23.1) |> bo fun m25 =>
                (ldS m25 3 t3) |> bo fun t41 =>
                (stX m25 3 t2 t41) |> bo fun m27 =>
                (resP (some 3) m27 t2) |> bo fun c28 =>
                retK k m27 [t0] c28)
              (
                (ldS r12.2 3 t3) |> bo fun t41 =>
                (stX r12.2 3 t2 t41) |> bo fun m30 =>
                (resP (some 3) m30 t2) |> bo fun c31 =>
                retK k m30 [t0] c31)))
  | _, _, _, _ => none
noncomputable def J_spec_l1Draw (k q l : Nat) : List Value → Mem → Option VM := cond (Nat.beq l 4) (L_spec_l1Draw k q 0) (fun _ _ => none)
def LL_spec_l1Draw : List (Nat × List Tmp) := [(4, [0, 2, 3, 4, 5])]
noncomputable def X_spec_l1Draw : List Value → Mem → Option VM
  | [t0], m =>
    (alX m [.int .i64 0, .int .i64 0, .int .i64 0]) |> bo fun r1 =>
    (bldX [.int .i64 0, .int .i64 0, .int .i64 0] []) |> bo fun t6 =>
    (alX r1.2 [.int .i64 0, .int .i64 0, .int .i64 0]) |> bo fun r3 =>
    (stX r3.2 3 r3.1 t6) |> bo fun m4 =>
    (C_spec_l1Next [t0, (.int .i64 3)] m4) |> bo fun r5 =>
    (C_spec_l1Some [t0, r5.1] r5.2) |> bo fun r6 =>
    cutK m.length r6.2 [t0] [t0, r1.1, r3.1, r6.1, (.int .i64 0)] (L_spec_l1Draw m.length QQ 0)
  | _, _ => none
noncomputable def C_spec_l1Draw : List Value → Mem → Option VM := rcall X_spec_l1Draw
@[simp] theorem c_spec_l1Draw : C_spec_l1Draw = rcall X_spec_l1Draw := (rfl)
theorem cok_spec_l1Draw : codeOk CT Try.f84 (Try.f84.body.get rfl) = true := by kernel_rfl
theorem xe_spec_l1Draw (t0 : Value) (m : Mem) : ex CT cf_spec_l1Draw Try.f84 1 m.length LL_spec_l1Draw (J_spec_l1Draw m.length QQ) 400 [.code (Try.f84.body.get rfl)] (argsT 0 [t0]) m = X_spec_l1Draw [t0] m := by kernel_rfl
theorem okc_spec_l1Draw : CallOK CT cf_spec_l1Draw := cfc_ok ok_C_spec_l1Some (cfc_ok ok_C_spec_l1Next (cfc_ok ok_C_spec_l1Step (cfc_ok ok_C_spec_l1Pick cfn_ok)))
theorem le_spec_l1Draw_0 (k q : Nat) (t0 t2 t3 t4 t5 : Value) (m : Mem) : ex CT cf_spec_l1Draw Try.f84 1 k LL_spec_l1Draw (J_spec_l1Draw k q) 400 (atLoop Try.f84 0) [(0, t0), (2, t2), (3, t3), (4, t4), (5, t5)] m = J_spec_l1Draw k (q + 1) 4 [t0, t2, t3, t4, t5] m := by kernel_rfl
theorem gl_spec_l1Draw (k : Nat) : ∀ q i, i < 1 → GoodL CT k Try.f84 LL_spec_l1Draw (J_spec_l1Draw k q) (atLoop Try.f84 i)
  | 0, 0, _ => goodL_zero (l := 4) (by kernel_rfl) (fun vs m => by kernel_rfl)
  | 0, _ + 1, h => absurd h (by omega)
  | q + 1, 0, _ => goodL_succ (np := 1) (l := 4) (live := [0, 2, 3, 4, 5]) (n := 1) CT_ok rfl okc_spec_l1Draw (c := (Try.f84.body.get rfl)) rfl cok_spec_l1Draw (by kernel_rfl) (gl_spec_l1Draw k q) (by kernel_rfl) rfl (fun vs m r hl h => match vs, hl with
    | [t0, t2, t3, t4, t5], _ => (le_spec_l1Draw_0 k q t0 t2 t3 t4 t5 m).trans h)
  | _ + 1, _ + 1, h => absurd h (by omega)
theorem ok_X_spec_l1Draw : OkX CT 84 X_spec_l1Draw := OkX.of_ex (cf := cf_spec_l1Draw) (np := 1) (LL := LL_spec_l1Draw) (J := (fun k => J_spec_l1Draw k QQ)) CT_ok rfl Try.func84 rfl (Nat.le_of_ble_eq_true rfl) (by decide) cok_spec_l1Draw okc_spec_l1Draw (fun k => allLoops rfl (by kernel_rfl) (gl_spec_l1Draw k QQ)) (fun args m r h => match args, h with
    | [t0], h => ⟨rfl, (xe_spec_l1Draw t0 m).trans h⟩)
theorem ok_C_spec_l1Draw : OkC CT 84 C_spec_l1Draw := rcall_ok rfl ok_X_spec_l1Draw

/-! ### spec.l1Chance -/
noncomputable def cf_spec_l1Chance : CallF := cfc 87 C_spec_l1Next cfn
noncomputable def X_spec_l1Chance : List Value → Mem → Option VM
  | [t0, t1], m =>
    (C_spec_l1Next [t0, t1] m) |> bo fun r1 =>
    (binX .eql .no r1.1 (.int .i64 0)) |> bo fun t8 =>
    retK m.length r1.2 [t0, t1] t8
  | _, _ => none
noncomputable def C_spec_l1Chance : List Value → Mem → Option VM := rcall X_spec_l1Chance
@[simp] theorem c_spec_l1Chance : C_spec_l1Chance = rcall X_spec_l1Chance := (rfl)
theorem cok_spec_l1Chance : codeOk CT Try.f85 (Try.f85.body.get rfl) = true := by kernel_rfl
theorem xe_spec_l1Chance (t0 t1 : Value) (m : Mem) : ex CT cf_spec_l1Chance Try.f85 2 m.length [] (fun _ _ _ => none) 400 [.code (Try.f85.body.get rfl)] (argsT 0 [t0, t1]) m = X_spec_l1Chance [t0, t1] m := by kernel_rfl
theorem okc_spec_l1Chance : CallOK CT cf_spec_l1Chance := cfc_ok ok_C_spec_l1Next cfn_ok
theorem ok_X_spec_l1Chance : OkX CT 85 X_spec_l1Chance := OkX.of_ex (cf := cf_spec_l1Chance) (np := 2) (LL := []) (J := (fun _ _ _ _ => none)) CT_ok rfl Try.func85 rfl (Nat.le_of_ble_eq_true rfl) (by decide) cok_spec_l1Chance okc_spec_l1Chance (fun k => noLoops rfl) (fun args m r h => match args, h with
    | [t0, t1], h => ⟨rfl, (xe_spec_l1Chance t0 t1 m).trans h⟩)
theorem ok_C_spec_l1Chance : OkC CT 85 C_spec_l1Chance := rcall_ok rfl ok_X_spec_l1Chance

/-! ### spec.DrawDecodeMany -/
noncomputable def cf_spec_DrawDecodeMany : CallF := cfc 83 C_spec_l1Source (cfc 84 C_spec_l1Draw (cfc 85 C_spec_l1Chance (cfc 86 C_spec_l1Some (cfc 87 C_spec_l1Next cfn))))
noncomputable def X_spec_DrawDecodeMany : List Value → Mem → Option VM
  | [t0], m =>
    (alX m [.int .i64 0, .int .i64 0, .int .i64 0]) |> bo fun r1 =>
    (C_spec_l1Source [t0] r1.2) |> bo fun r2 =>
    (C_spec_l1Draw [r2.1] r2.2) |> bo fun r3 =>
    (alX r3.2 [.int .i64 0, .int .i64 0, .int .i64 0]) |> bo fun r4 =>
    (stX r4.2 3 r4.1 r3.1) |> bo fun m5 =>
    (C_spec_l1Chance [r2.1, (.int .i64 40)] m5) |> bo fun r6 =>
    brX r6.1
      (
        (ldS r6.2 3 r4.1) |> bo fun t12 =>
        (mkX r6.2 1 1 [.int .u8 0] (.int .i64 2001) (.int .i64 2001)) |> bo fun r8 =>
        (stX r8.2 3 r1.1 t12) |> bo fun m9 =>
        (resP (some 3) m9 r1.1) |> bo fun c10 =>
        retK m.length m9 [t0] (.tuple #[c10, r8.1]))
      (
        (ldS r6.2 3 r4.1) |> bo fun t14 =>
        (C_spec_l1Next [r2.1, (.int .i64 12)] r6.2) |> bo fun r12 =>
        (C_spec_l1Some [r2.1, r12.1] r12.2) |> bo fun r13 =>
        (stX r13.2 3 r1.1 t14) |> bo fun m14 =>
        gP (stbL [((rdN r4.1), r6.2, r12.2), ((rdN r4.1), r12.2, r13.2)])
          (
            (resP (some 3) m14 r1.1) |> bo fun c15 =>
            retK m.length m14 [t0] (.tuple #[c15, r13.1])))
  | _, _ => none
noncomputable def C_spec_DrawDecodeMany : List Value → Mem → Option VM := icall X_spec_DrawDecodeMany
@[simp] theorem c_spec_DrawDecodeMany : C_spec_DrawDecodeMany = icall X_spec_DrawDecodeMany := (rfl)
theorem cok_spec_DrawDecodeMany : codeOk CT Try.f13 (Try.f13.body.get rfl) = true := by kernel_rfl
theorem xe_spec_DrawDecodeMany (t0 : Value) (m : Mem) : ex CT cf_spec_DrawDecodeMany Try.f13 1 m.length [] (fun _ _ _ => none) 400 [.code (Try.f13.body.get rfl)] (argsT 0 [t0]) m = X_spec_DrawDecodeMany [t0] m := by kernel_rfl
theorem okc_spec_DrawDecodeMany : CallOK CT cf_spec_DrawDecodeMany := cfc_ok ok_C_spec_l1Source (cfc_ok ok_C_spec_l1Draw (cfc_ok ok_C_spec_l1Chance (cfc_ok ok_C_spec_l1Some (cfc_ok ok_C_spec_l1Next cfn_ok))))
theorem ok_X_spec_DrawDecodeMany : OkX CT 13 X_spec_DrawDecodeMany := OkX.of_ex (cf := cf_spec_DrawDecodeMany) (np := 1) (LL := []) (J := (fun _ _ _ _ => none)) CT_ok rfl Try.func13 rfl (Nat.le_of_ble_eq_true rfl) (by decide) cok_spec_DrawDecodeMany okc_spec_DrawDecodeMany (fun k => noLoops rfl) (fun args m r h => match args, h with
    | [t0], h => ⟨rfl, (xe_spec_DrawDecodeMany t0 m).trans h⟩)
theorem ok_C_spec_DrawDecodeMany : OkC CT 13 C_spec_DrawDecodeMany := icall_ok rfl ok_X_spec_DrawDecodeMany

/-! ### impl.in -/
noncomputable def cf_impl_in : CallF := cfn
noncomputable def X_impl_in : List Value → Mem → Option VM
  | [t0, t1, t2], m =>
    (binX .leq .no t1 t0) |> bo fun t9 =>
    (gd t9 true (some (t0, m)) m) |> bo fun r2 =>
    (gd t9 true (some (t2, r2.2)) r2.2) |> bo fun r3 =>
    (gd t9 true ((binX .leq .no r2.1 r3.1) |> bo fun v => some (v, r3.2)) r3.2) |> bo fun r4 =>
    (pickX t9 r4.1 (.bool false)) |> bo fun t14 =>
    retK m.length r4.2 [t0, t1, t2] t14
  | _, _ => none
noncomputable def C_impl_in : List Value → Mem → Option VM := fcall X_impl_in
@[simp] theorem c_impl_in : C_impl_in = fcall X_impl_in := (rfl)
theorem cok_impl_in : codeOk CT Try.f99 (Try.f99.body.get rfl) = true := by kernel_rfl
theorem xe_impl_in (t0 t1 t2 : Value) (m : Mem) : ex CT cf_impl_in Try.f99 3 m.length [] (fun _ _ _ => none) 400 [.code (Try.f99.body.get rfl)] (argsT 0 [t0, t1, t2]) m = X_impl_in [t0, t1, t2] m := by kernel_rfl
theorem okc_impl_in : CallOK CT cf_impl_in := cfn_ok
theorem ok_X_impl_in : OkX CT 99 X_impl_in := OkX.of_ex (cf := cf_impl_in) (np := 3) (LL := []) (J := (fun _ _ _ _ => none)) CT_ok rfl Try.func99 rfl (Nat.le_of_ble_eq_true rfl) (by decide) cok_impl_in okc_impl_in (fun k => noLoops rfl) (fun args m r h => match args, h with
    | [t0, t1, t2], h => ⟨rfl, (xe_impl_in t0 t1 t2 m).trans h⟩)
theorem ok_C_impl_in : OkC CT 99 C_impl_in := fcall_ok rfl ok_X_impl_in

/-! ### impl.DecoderFault -/
noncomputable def cf_impl_DecoderFault : CallF := cfc 99 C_impl_in cfn
noncomputable def X_impl_DecoderFault : List Value → Mem → Option VM
  | [t0], m =>
    (boxX m t0) |> bo fun r1 =>
    (ldS r1.2 3 r1.1) |> bo fun t4 =>
    (bldX [.int .i64 0, .int .i64 0, .int .i64 0] []) |> bo fun t5 =>
    (binX .eql (.st [0, 1, 2]) t4 t5) |> bo fun t6 =>
    brX t6
      (
        retK m.length r1.2 [t0] (.int .i64 0))
      (
        (fadX 0 r1.1) |> bo fun t8 =>
        (ld1 r1.2 t8) |> bo fun t9 =>
        (binX .eql .no t9 (.int .i64 1)) |> bo fun t10 =>
        (gd t10 true ((fadX 1 r1.1) |> bo fun v => some (v, r1.2)) r1.2) |> bo fun r8 =>
        (gd t10 true ((ld1 r8.2 r8.1) |> bo fun v => some (v, r8.2)) r8.2) |> bo fun r9 =>
        (gd t10 true ((binX .eql .no r9.1 (.int .i64 128)) |> bo fun v => some (v, r9.2)) r9.2) |> bo fun r10 =>
        (pickX t10 r10.1 (.bool false)) |> bo fun t15 =>
        (gd t15 true ((fadX 2 r1.1) |> bo fun v => some (v, r10.2)) r10.2) |> bo fun r12 =>
        (gd t15 true ((ld1 r12.2 r12.1) |> bo fun v => some (v, r12.2)) r12.2) |> bo fun r13 =>
        (gd t15 true ((C_impl_in [r13.1, (.int .i64 2), (.int .i64 31)] r13.2) |> bo fun r => some (r.1, r.2)) r13.2) |> bo fun r14 =>
        (pickX t15 r14.1 (.bool false)) |> bo fun t20 =>
        brX t20
          (
            retK m.length r14.2 [t0] (.int .i64 0))
          (
            (fadX 0 r1.1) |> bo fun t22 =>
            (ld1 r14.2 t22) |> bo fun t23 =>
            (binX .eql .no t23 (.int .i64 2)) |> bo fun t24 =>
            (gd t24 true ((fadX 1 r1.1) |> bo fun v => some (v, r14.2)) r14.2) |> bo fun r19 =>
            (gd t24 true ((ld1 r19.2 r19.1) |> bo fun v => some (v, r19.2)) r19.2) |> bo fun r20 =>
            (gd t24 true ((binX .eql .no r20.1 (.int .i64 2048)) |> bo fun v => some (v, r20.2)) r20.2) |> bo fun r21 =>
            (pickX t24 r21.1 (.bool false)) |> bo fun t29 =>
            (gd t29 true ((fadX 2 r1.1) |> bo fun v => some (v, r21.2)) r21.2) |> bo fun r23 =>
            (gd t29 true ((ld1 r23.2 r23.1) |> bo fun v => some (v, r23.2)) r23.2) |> bo fun r24 =>
            (gd t29 true ((C_impl_in [r24.1, (.int .i64 0), (.int .i64 15)] r24.2) |> bo fun r => some (r.1, r.2)) r24.2) |> bo fun r25 =>
            (pickX t29 r25.1 (.bool false)) |> bo fun t34 =>
            brX t34
              (
                retK m.length r25.2 [t0] (.int .i64 0))
              (
                (fadX 0 r1.1) |> bo fun t36 =>
                (ld1 r25.2 t36) |> bo fun t37 =>
                (binX .eql .no t37 (.int .i64 1)) |> bo fun t38 =>
                (gd t38 true ((fadX 1 r1.1) |> bo fun v => some (v, r25.2)) r25.2) |> bo fun r30 =>
                (gd t38 true ((ld1 r30.2 r30.1) |> bo fun v => some (v, r30.2)) r30.2) |> bo fun r31 =>
                (gd t38 true ((binX .eql .no r31.1 (.int .i64 2048)) |> bo fun v => some (v, r31.2)) r31.2) |> bo fun r32 =>
                (pickX t38 r32.1 (.bool false)) |> bo fun t43 =>
                (gd t43 true ((fadX 2 r1.1) |> bo fun v => some (v, r32.2)) r32.2) |> bo fun r34 =>
                (gd t43 true ((ld1 r34.2 r34.1) |> bo fun v => some (v, r34.2)) r34.2) |> bo fun r35 =>
                (gd t43 true ((C_impl_in [r35.1, (.int .i64 0), (.int .i64 1023)] r35.2) |> bo fun r => some (r.1, r.2)) r35.2) |> bo fun r36 =>
                (pickX t43 r36.1 (.bool false)) |> bo fun t48 =>
                brX t48
                  (
                    retK m.length r36.2 [t0] (.int .i64 0))
                  (
                    retK m.length r36.2 [t0] (.int .i64 3)))))
  | _, _ => none
noncomputable def C_impl_DecoderFault : List Value → Mem → Option VM := fcall X_impl_DecoderFault
@[simp] theorem c_impl_DecoderFault : C_impl_DecoderFault = fcall X_impl_DecoderFault := (rfl)
theorem cok_impl_DecoderFault : codeOk CT Try.f21 (Try.f21.body.get rfl) = true := by kernel_rfl
theorem xe_impl_DecoderFault (t0 : Value) (m : Mem) : ex CT cf_impl_DecoderFault Try.f21 1 m.length [] (fun _ _ _ => none) 400 [.code (Try.f21.body.get rfl)] (argsT 0 [t0]) m = X_impl_DecoderFault [t0] m := by kernel_rfl
theorem okc_impl_DecoderFault : CallOK CT cf_impl_DecoderFault := cfc_ok ok_C_impl_in cfn_ok
theorem ok_X_impl_DecoderFault : OkX CT 21 X_impl_DecoderFault := OkX.of_ex (cf := cf_impl_DecoderFault) (np := 1) (LL := []) (J := (fun _ _ _ _ => none)) CT_ok rfl Try.func21 rfl (Nat.le_of_ble_eq_true rfl) (by decide) cok_impl_DecoderFault okc_impl_DecoderFault (fun k => noLoops rfl) (fun args m r h => match args, h with
    | [t0], h => ⟨rfl, (xe_impl_DecoderFault t0 m).trans h⟩)
theorem ok_C_impl_DecoderFault : OkC CT 21 C_impl_DecoderFault := fcall_ok rfl ok_X_impl_DecoderFault

/-! ### impl.first -/
noncomputable def cf_impl_first : CallF := cfn
noncomputable def L_impl_first (k : Nat) : Nat → Nat → List Value → Mem → Option VM
  | q + 1, 0, [t5, t6, t7], m =>
    (binX .lss .no t7 t6) |> bo fun t8 =>
    brX t8
      (
        (ixaX 1 t5 t7) |> bo fun t9 =>
        (ld1 m t9) |> bo fun t10 =>
        (binX .neq .no t10 (.int .i64 0)) |> bo fun t12 =>
        brX t12
          (
            retK k m [] t10)
          (
            (binX .add .no t7 (.int .i64 1)) |> bo fun t14 =>
            cutK k m [] [t5, t6, t14] (L_impl_first k q 0)))
      (
        retK k m [] (.int .i64 0))
  | _, _, _, _ => none
noncomputable def J_impl_first (k q l : Nat) : List Value → Mem → Option VM := cond (Nat.beq l 2) (L_impl_first k q 0) (fun _ _ => none)
def LL_impl_first : List (Nat × List Tmp) := [(2, [5, 6, 7])]
noncomputable def X_impl_first : List Value → Mem → Option VM
  | [t0], m =>
    (lenX t0) |> bo fun t6 =>
    cutK m.length m [t0] [t0, t6, (.int .i64 0)] (L_impl_first m.length QQ 0)
  | _, _ => none
noncomputable def C_impl_first : List Value → Mem → Option VM := fcall X_impl_first
@[simp] theorem c_impl_first : C_impl_first = fcall X_impl_first := (rfl)
theorem cok_impl_first : codeOk CT Try.f88 (Try.f88.body.get rfl) = true := by kernel_rfl
theorem xe_impl_first (t0 : Value) (m : Mem) : ex CT cf_impl_first Try.f88 1 m.length LL_impl_first (J_impl_first m.length QQ) 400 [.code (Try.f88.body.get rfl)] (argsT 0 [t0]) m = X_impl_first [t0] m := by kernel_rfl
theorem okc_impl_first : CallOK CT cf_impl_first := cfn_ok
theorem le_impl_first_0 (k q : Nat) (t5 t6 t7 : Value) (m : Mem) : ex CT cf_impl_first Try.f88 1 k LL_impl_first (J_impl_first k q) 400 (atLoop Try.f88 0) [(5, t5), (6, t6), (7, t7)] m = J_impl_first k (q + 1) 2 [t5, t6, t7] m := by kernel_rfl
theorem gl_impl_first (k : Nat) : ∀ q i, i < 1 → GoodL CT k Try.f88 LL_impl_first (J_impl_first k q) (atLoop Try.f88 i)
  | 0, 0, _ => goodL_zero (l := 2) (by kernel_rfl) (fun vs m => by kernel_rfl)
  | 0, _ + 1, h => absurd h (by omega)
  | q + 1, 0, _ => goodL_succ (np := 1) (l := 2) (live := [5, 6, 7]) (n := 1) CT_ok rfl okc_impl_first (c := (Try.f88.body.get rfl)) rfl cok_impl_first (by kernel_rfl) (gl_impl_first k q) (by kernel_rfl) rfl (fun vs m r hl h => match vs, hl with
    | [t5, t6, t7], _ => (le_impl_first_0 k q t5 t6 t7 m).trans h)
  | _ + 1, _ + 1, h => absurd h (by omega)
theorem ok_X_impl_first : OkX CT 88 X_impl_first := OkX.of_ex (cf := cf_impl_first) (np := 1) (LL := LL_impl_first) (J := (fun k => J_impl_first k QQ)) CT_ok rfl Try.func88 rfl (Nat.le_of_ble_eq_true rfl) (by decide) cok_impl_first okc_impl_first (fun k => allLoops rfl (by kernel_rfl) (gl_impl_first k QQ)) (fun args m r h => match args, h with
    | [t0], h => ⟨rfl, (xe_impl_first t0 m).trans h⟩)
theorem ok_C_impl_first : OkC CT 88 C_impl_first := fcall_ok rfl ok_X_impl_first

/-! ### impl.unless -/
noncomputable def cf_impl_unless : CallF := cfn
noncomputable def X_impl_unless : List Value → Mem → Option VM
  | [t0, t1], m =>
    brX t0
      (
        retK m.length m [t0, t1] (.int .i64 0))
      (
        retK m.length m [t0, t1] t1)
  | _, _ => none
noncomputable def C_impl_unless : List Value → Mem → Option VM := fcall X_impl_unless
@[simp] theorem c_impl_unless : C_impl_unless = fcall X_impl_unless := (rfl)
theorem cok_impl_unless : codeOk CT Try.f89 (Try.f89.body.get rfl) = true := by kernel_rfl
theorem xe_impl_unless (t0 t1 : Value) (m : Mem) : ex CT cf_impl_unless Try.f89 2 m.length [] (fun _ _ _ => none) 400 [.code (Try.f89.body.get rfl)] (argsT 0 [t0, t1]) m = X_impl_unless [t0, t1] m := by kernel_rfl
theorem okc_impl_unless : CallOK CT cf_impl_unless := cfn_ok
theorem ok_X_impl_unless : OkX CT 89 X_impl_unless := OkX.of_ex (cf := cf_impl_unless) (np := 2) (LL := []) (J := (fun _ _ _ _ => none)) CT_ok rfl Try.func89 rfl (Nat.le_of_ble_eq_true rfl) (by decide) cok_impl_unless okc_impl_unless (fun k => noLoops rfl) (fun args m r h => match args, h with
    | [t0, t1], h => ⟨rfl, (xe_impl_unless t0 t1 m).trans h⟩)
theorem ok_C_impl_unless : OkC CT 89 C_impl_unless := fcall_ok rfl ok_X_impl_unless

/-! ### impl.isChar -/
noncomputable def cf_impl_isChar : CallF := cfc 99 C_impl_in cfn
noncomputable def X_impl_isChar : List Value → Mem → Option VM
  | [t0], m =>
    (C_impl_in [t0, (.int .i64 0), (.int .i64 65535)] m) |> bo fun r1 =>
    (gd r1.1 true (some (t0, r1.2)) r1.2) |> bo fun r2 =>
    (gd r1.1 true ((C_impl_in [r2.1, (.int .i64 55296), (.int .i64 57343)] r2.2) |> bo fun r => some (r.1, r.2)) r2.2) |> bo fun r3 =>
    (gd r1.1 true ((uop .not r3.1) |> bo fun v => some (v, r3.2)) r3.2) |> bo fun r4 =>
    (pickX r1.1 r4.1 (.bool false)) |> bo fun t9 =>
    retK m.length r4.2 [t0] t9
  | _, _ => none
noncomputable def C_impl_isChar : List Value → Mem → Option VM := fcall X_impl_isChar
@[simp] theorem c_impl_isChar : C_impl_isChar = fcall X_impl_isChar := (rfl)
theorem cok_impl_isChar : codeOk CT Try.f95 (Try.f95.body.get rfl) = true := by kernel_rfl
theorem xe_impl_isChar (t0 : Value) (m : Mem) : ex CT cf_impl_isChar Try.f95 1 m.length [] (fun _ _ _ => none) 400 [.code (Try.f95.body.get rfl)] (argsT 0 [t0]) m = X_impl_isChar [t0] m := by kernel_rfl
theorem okc_impl_isChar : CallOK CT cf_impl_isChar := cfc_ok ok_C_impl_in cfn_ok
theorem ok_X_impl_isChar : OkX CT 95 X_impl_isChar := OkX.of_ex (cf := cf_impl_isChar) (np := 1) (LL := []) (J := (fun _ _ _ _ => none)) CT_ok rfl Try.func95 rfl (Nat.le_of_ble_eq_true rfl) (by decide) cok_impl_isChar okc_impl_isChar (fun k => noLoops rfl) (fun args m r h => match args, h with
    | [t0], h => ⟨rfl, (xe_impl_isChar t0 m).trans h⟩)
theorem ok_C_impl_isChar : OkC CT 95 C_impl_isChar := fcall_ok rfl ok_X_impl_isChar

/-! ### impl.fresh -/
noncomputable def cf_impl_fresh : CallF := cfc 99 C_impl_in cfn
noncomputable def X_impl_fresh : List Value → Mem → Option VM
  | [t0], m =>
    (alX m [.int .i64 0, .int .i64 0, .int .i64 0]) |> bo fun r1 =>
    (cvI .i64 t0) |> bo fun t6 =>
    (binX .lss .no t6 (.int .i64 128)) |> bo fun t9 =>
    brX t9
      (
        (bslX r1.2 1 1 [.int .i64 0] [(0, 1, t6)]) |> bo fun r4 =>
        (bldX [.int .i64 0, .int .i64 0, .int .i64 0] []) |> bo fun t12 =>
        (stX r4.2 3 r1.1 t12) |> bo fun m6 =>
        (resP (some 3) m6 r1.1) |> bo fun c7 =>
        retK m.length m6 [t0] (.tuple #[r4.1, c7]))
      (
        (C_impl_in [t6, (.int .i64 194), (.int .i64 223)] r1.2) |> bo fun r8 =>
        brX r8.1
          (
            (binX .sub .no t6 (.int .i64 192)) |> bo fun t17 =>
            (bldX [.int .i64 0, .int .i64 0, .int .i64 0] [(0, 1, (.int .i64 1)), (1, 1, (.int .i64 128)), (2, 1, t17)]) |> bo fun t18 =>
            (stX r8.2 3 r1.1 t18) |> bo fun m11 =>
            (resP (some 3) m11 r1.1) |> bo fun c12 =>
            retK m.length m11 [t0] (.tuple #[(.slice none 0 0), c12]))
          (
            (C_impl_in [t6, (.int .i64 224), (.int .i64 239)] r8.2) |> bo fun r13 =>
            brX r13.1
              (
                (binX .sub .no t6 (.int .i64 224)) |> bo fun t23 =>
                (bldX [.int .i64 0, .int .i64 0, .int .i64 0] [(0, 1, (.int .i64 2)), (1, 1, (.int .i64 2048)), (2, 1, t23)]) |> bo fun t24 =>
                (stX r13.2 3 r1.1 t24) |> bo fun m16 =>
                (resP (some 3) m16 r1.1) |> bo fun c17 =>
                retK m.length m16 [t0] (.tuple #[(.slice none 0 0), c17]))
              (
                (bslX r13.2 1 1 [.int .i64 0] [(0, 1, (.int .i64 65533))]) |> bo fun r18 =>
                (bldX [.int .i64 0, .int .i64 0, .int .i64 0] []) |> bo fun t26 =>
                (stX r18.2 3 r1.1 t26) |> bo fun m20 =>
                (resP (some 3) m20 r1.1) |> bo fun c21 =>
                retK m.length m20 [t0] (.tuple #[r18.1, c21]))))
  | _, _ => none
noncomputable def C_impl_fresh : List Value → Mem → Option VM := fcall X_impl_fresh
@[simp] theorem c_impl_fresh : C_impl_fresh = fcall X_impl_fresh := (rfl)
theorem cok_impl_fresh : codeOk CT Try.f152 (Try.f152.body.get rfl) = true := by kernel_rfl
theorem xe_impl_fresh (t0 : Value) (m : Mem) : ex CT cf_impl_fresh Try.f152 1 m.length [] (fun _ _ _ => none) 400 [.code (Try.f152.body.get rfl)] (argsT 0 [t0]) m = X_impl_fresh [t0] m := by kernel_rfl
theorem okc_impl_fresh : CallOK CT cf_impl_fresh := cfc_ok ok_C_impl_in cfn_ok
theorem ok_X_impl_fresh : OkX CT 152 X_impl_fresh := OkX.of_ex (cf := cf_impl_fresh) (np := 1) (LL := []) (J := (fun _ _ _ _ => none)) CT_ok rfl Try.func152 rfl (Nat.le_of_ble_eq_true rfl) (by decide) cok_impl_fresh okc_impl_fresh (fun k => noLoops rfl) (fun args m r h => match args, h with
    | [t0], h => ⟨rfl, (xe_impl_fresh t0 m).trans h⟩)
theorem ok_C_impl_fresh : OkC CT 152 C_impl_fresh := fcall_ok rfl ok_X_impl_fresh

/-! ### (impl.Decoder).hear -/
noncomputable def cf_impl_Decoder_hear : CallF := cfc 95 C_impl_isChar (cfc 99 C_impl_in (cfc 152 C_impl_fresh cfn))
noncomputable def X_impl_Decoder_hear : List Value → Mem → Option VM
  | [t0, t1], m =>
    (boxX m t0) |> bo fun r1 =>
    (alX r1.2 [.int .i64 0, .int .i64 0, .int .i64 0]) |> bo fun r2 =>
    (fadX 0 r1.1) |> bo fun t9 =>
    (ld1 r2.2 t9) |> bo fun t10 =>
    (binX .eql .no t10 (.int .i64 0)) |> bo fun t11 =>
    brX t11
      (
        (C_impl_fresh [t1] r2.2) |> bo fun r6 =>
        (extX 0 r6.1) |> bo fun t14 =>
        (extX 1 r6.1) |> bo fun t15 =>
        (stX r6.2 3 r2.1 t15) |> bo fun m9 =>
        (resP (some 3) m9 r2.1) |> bo fun c10 =>
        retK m.length m9 [t0, t1] (.tuple #[t14, c10]))
      (
        (cvI .i64 t1) |> bo fun t17 =>
        (C_impl_in [t17, (.int .i64 128), (.int .i64 191)] r2.2) |> bo fun r12 =>
        (uop .not r12.1) |> bo fun t19 =>
        brX t19
          (
            (C_impl_fresh [t1] r12.2) |> bo fun r14 =>
            (extX 0 r14.1) |> bo fun t23 =>
            (extX 1 r14.1) |> bo fun t24 =>
            (alX r14.2 [.int .i64 0, .int .i64 0, .int .i64 0]) |> bo fun r17 =>
            (stX r17.2 3 r17.1 t24) |> bo fun m18 =>
            (bslX m18 1 1 [.int .i64 0] [(0, 1, (.int .i64 65533))]) |> bo fun r19 =>
            (apL r19.2 1 8 r19.1 t23) |> bo fun r20 =>
            (ldS r20.2 3 r17.1) |> bo fun t28 =>
            (stX r20.2 3 r2.1 t28) |> bo fun m22 =>
            gP (stbL [((rdN r17.1), r19.2, r20.2)])
              (
                (resP (some 3) m22 r2.1) |> bo fun c23 =>
                retK m.length m22 [t0, t1] (.tuple #[r20.1, c23])))
          (
            (fadX 2 r1.1) |> bo fun t29 =>
            (ld1 r12.2 t29) |> bo fun t30 =>
            (binX .mul .no (.int .i64 64) t30) |> bo fun t31 =>
            (cvI .i64 t1) |> bo fun t33 =>
            (binX .add .no t31 t33) |> bo fun t34 =>
            (binX .sub .no t34 (.int .i64 128)) |> bo fun t35 =>
            (fadX 0 r1.1) |> bo fun t37 =>
            (ld1 r12.2 t37) |> bo fun t38 =>
            (binX .eql .no t38 (.int .i64 2)) |> bo fun t39 =>
            brX t39
              (
                (fadX 1 r1.1) |> bo fun t40 =>
                (ld1 r12.2 t40) |> bo fun t41 =>
                (bldX [.int .i64 0, .int .i64 0, .int .i64 0] [(0, 1, (.int .i64 1)), (1, 1, t41), (2, 1, t35)]) |> bo fun t43 =>
                (stX r12.2 3 r2.1 t43) |> bo fun m36 =>
                (resP (some 3) m36 r2.1) |> bo fun c37 =>
                retK m.length m36 [t0, t1] (.tuple #[(.slice none 0 0), c37]))
              (
                (C_impl_isChar [t35] r12.2) |> bo fun r38 =>
                (gd r38.1 true (some (t35, r38.2)) r38.2) |> bo fun r39 =>
                (gd r38.1 true ((fadX 1 r1.1) |> bo fun v => some (v, r39.2)) r39.2) |> bo fun r40 =>
                (gd r38.1 true ((ld1 r40.2 r40.1) |> bo fun v => some (v, r40.2)) r40.2) |> bo fun r41 =>
                (gd r38.1 true ((binX .geq .no r39.1 r41.1) |> bo fun v => some (v, r41.2)) r41.2) |> bo fun r42 =>
                (pickX r38.1 r42.1 (.bool false)) |> bo fun t52 =>
                brX t52
                  (
                    (bslX r42.2 1 1 [.int .i64 0] [(0, 1, t35)]) |> bo fun r44 =>
                    (bldX [.int .i64 0, .int .i64 0, .int .i64 0] []) |> bo fun t55 =>
                    (stX r44.2 3 r2.1 t55) |> bo fun m46 =>
                    (resP (some 3) m46 r2.1) |> bo fun c47 =>
                    retK m.length m46 [t0, t1] (.tuple #[r44.1, c47]))
                  (
                    (bslX r42.2 1 1 [.int .i64 0] [(0, 1, (.int .i64 65533))]) |> bo fun r48 =>
                    (bldX [.int .i64 0, .int .i64 0, .int .i64 0] []) |> bo fun t57 =>
                    (stX r48.2 3 r2.1 t57) |> bo fun m50 =>
                    (resP (some 3) m50 r2.1) |> bo fun c51 =>
                    retK m.length m50 [t0, t1] (.tuple #[r48.1, c51])))))
  | _, _ => none
noncomputable def C_impl_Decoder_hear : List Value → Mem → Option VM := fcall X_impl_Decoder_hear
@[simp] theorem c_impl_Decoder_hear : C_impl_Decoder_hear = fcall X_impl_Decoder_hear := (rfl)
theorem cok_impl_Decoder_hear : codeOk CT Try.f90 (Try.f90.body.get rfl) = true := by kernel_rfl
theorem xe_impl_Decoder_hear (t0 t1 : Value) (m : Mem) : ex CT cf_impl_Decoder_hear Try.f90 2 m.length [] (fun _ _ _ => none) 400 [.code (Try.f90.body.get rfl)] (argsT 0 [t0, t1]) m = X_impl_Decoder_hear [t0, t1] m := by kernel_rfl
theorem okc_impl_Decoder_hear : CallOK CT cf_impl_Decoder_hear := cfc_ok ok_C_impl_isChar (cfc_ok ok_C_impl_in (cfc_ok ok_C_impl_fresh cfn_ok))
theorem ok_X_impl_Decoder_hear : OkX CT 90 X_impl_Decoder_hear := OkX.of_ex (cf := cf_impl_Decoder_hear) (np := 2) (LL := []) (J := (fun _ _ _ _ => none)) CT_ok rfl Try.func90 rfl (Nat.le_of_ble_eq_true rfl) (by decide) cok_impl_Decoder_hear okc_impl_Decoder_hear (fun k => noLoops rfl) (fun args m r h => match args, h with
    | [t0, t1], h => ⟨rfl, (xe_impl_Decoder_hear t0 t1 m).trans h⟩)
theorem ok_C_impl_Decoder_hear : OkC CT 90 C_impl_Decoder_hear := fcall_ok rfl ok_X_impl_Decoder_hear

/-! ### impl.DecodeMany -/
noncomputable def cf_impl_DecodeMany : CallF := cfc 21 C_impl_DecoderFault (cfc 88 C_impl_first (cfc 89 C_impl_unless (cfc 90 C_impl_Decoder_hear cfn)))
noncomputable def L_impl_DecodeMany (k : Nat) : Nat → Nat → List Value → Mem → Option VM
  | q + 1, 0, [t2, t4, t6, t24, t25, t26], m =>
    (binX .lss .no t26 t25) |> bo fun t27 =>
    brX t27
      (
        (ixaX 1 t24 t26) |> bo fun t28 =>
        (ld1 m t28) |> bo fun t29 =>
        (ldS m 3 t2) |> bo fun t31 =>
        (C_impl_Decoder_hear [t31, t29] m) |> bo fun r5 =>
        (extX 0 r5.1) |> bo fun t34 =>
        (extX 1 r5.1) |> bo fun t35 =>
        (alX r5.2 [.int .i64 0, .int .i64 0, .int .i64 0]) |> bo fun r8 =>
        (stX r8.2 3 r8.1 t35) |> bo fun m9 =>
        (apL m9 1 8 t6 t34) |> bo fun r10 =>
        (ldS r10.2 3 r8.1) |> bo fun t39 =>
        (stX r10.2 3 t2 t39) |> bo fun m12 =>
        gP (stbL [((rdN r8.1), m9, r10.2)])
          (
            (binX .add .no t26 (.int .i64 1)) |> bo fun t40 =>
            cutK k m12 [] [t2, t4, r10.1, t24, t25, t40] (L_impl_DecodeMany k q 0)))
      (
        (ldS m 3 t2) |> bo fun t42 =>
        (bldX [.int .i64 0, .slice none 0 0, .int .i64 0, .int .i64 0, .int .i64 0] [(0, 1, (.int .i64 0)), (1, 1, t6), (2, 3, t42)]) |> bo fun t43 =>
        (stX m 5 t4 t43) |> bo fun m16 =>
        (resP (some 5) m16 t4) |> bo fun c17 =>
        retK k m16 [] c17)
  | _, _, _, _ => none
noncomputable def J_impl_DecodeMany (k q l : Nat) : List Value → Mem → Option VM := cond (Nat.beq l 6) (L_impl_DecodeMany k q 0) (fun _ _ => none)
def LL_impl_DecodeMany : List (Nat × List Tmp) := [(6, [2, 4, 6, 24, 25, 26])]
noncomputable def X_impl_DecodeMany : List Value → Mem → Option VM
  | [t0, t1], m =>
    (boxX m t0) |> bo fun r1 =>
    (alX r1.2 [.int .i64 0, .slice none 0 0, .int .i64 0, .int .i64 0, .int .i64 0]) |> bo fun r2 =>
    (ldS r2.2 3 r1.1) |> bo fun t11 =>
    (C_impl_DecoderFault [t11] r2.2) |> bo fun r4 =>
    (lenX t1) |> bo fun t14 =>
    (binX .leq .no t14 (.int .i64 2000)) |> bo fun t15 =>
    (C_impl_unless [t15, (.int .i64 2)] r4.2) |> bo fun r7 =>
    (bslX r7.2 2 1 [.int .i64 0] [(0, 1, r4.1), (1, 1, r7.1)]) |> bo fun r8 =>
    (C_impl_first [r8.1] r8.2) |> bo fun r9 =>
    (binX .neq .no r9.1 (.int .i64 0)) |> bo fun t20 =>
    brX t20
      (
        (bldX [.int .i64 0, .slice none 0 0, .int .i64 0, .int .i64 0, .int .i64 0] [(0, 1, r9.1)]) |> bo fun t22 =>
        (stX r9.2 5 r2.1 t22) |> bo fun m12 =>
        (resP (some 5) m12 r2.1) |> bo fun c13 =>
        retK m.length m12 [t0, t1] c13)
      (
        (bslX r9.2 0 1 [.int .i64 0] []) |> bo fun r14 =>
        (lenX t1) |> bo fun t25 =>
        cutK m.length r14.2 [t0, t1] [r1.1, r2.1, r14.1, t1, t25, (.int .i64 0)] (L_impl_DecodeMany m.length QQ 0))
  | _, _ => none
noncomputable def C_impl_DecodeMany : List Value → Mem → Option VM := icall X_impl_DecodeMany
@[simp] theorem c_impl_DecodeMany : C_impl_DecodeMany = icall X_impl_DecodeMany := (rfl)
theorem cok_impl_DecodeMany : codeOk CT Try.f14 (Try.f14.body.get rfl) = true := by kernel_rfl
theorem xe_impl_DecodeMany (t0 t1 : Value) (m : Mem) : ex CT cf_impl_DecodeMany Try.f14 2 m.length LL_impl_DecodeMany (J_impl_DecodeMany m.length QQ) 400 [.code (Try.f14.body.get rfl)] (argsT 0 [t0, t1]) m = X_impl_DecodeMany [t0, t1] m := by kernel_rfl
theorem okc_impl_DecodeMany : CallOK CT cf_impl_DecodeMany := cfc_ok ok_C_impl_DecoderFault (cfc_ok ok_C_impl_first (cfc_ok ok_C_impl_unless (cfc_ok ok_C_impl_Decoder_hear cfn_ok)))
theorem le_impl_DecodeMany_0 (k q : Nat) (t2 t4 t6 t24 t25 t26 : Value) (m : Mem) : ex CT cf_impl_DecodeMany Try.f14 2 k LL_impl_DecodeMany (J_impl_DecodeMany k q) 400 (atLoop Try.f14 0) [(2, t2), (4, t4), (6, t6), (24, t24), (25, t25), (26, t26)] m = J_impl_DecodeMany k (q + 1) 6 [t2, t4, t6, t24, t25, t26] m := by kernel_rfl
theorem gl_impl_DecodeMany (k : Nat) : ∀ q i, i < 1 → GoodL CT k Try.f14 LL_impl_DecodeMany (J_impl_DecodeMany k q) (atLoop Try.f14 i)
  | 0, 0, _ => goodL_zero (l := 6) (by kernel_rfl) (fun vs m => by kernel_rfl)
  | 0, _ + 1, h => absurd h (by omega)
  | q + 1, 0, _ => goodL_succ (np := 2) (l := 6) (live := [2, 4, 6, 24, 25, 26]) (n := 1) CT_ok rfl okc_impl_DecodeMany (c := (Try.f14.body.get rfl)) rfl cok_impl_DecodeMany (by kernel_rfl) (gl_impl_DecodeMany k q) (by kernel_rfl) rfl (fun vs m r hl h => match vs, hl with
    | [t2, t4, t6, t24, t25, t26], _ => (le_impl_DecodeMany_0 k q t2 t4 t6 t24 t25 t26 m).trans h)
  | _ + 1, _ + 1, h => absurd h (by omega)
theorem ok_X_impl_DecodeMany : OkX CT 14 X_impl_DecodeMany := OkX.of_ex (cf := cf_impl_DecodeMany) (np := 2) (LL := LL_impl_DecodeMany) (J := (fun k => J_impl_DecodeMany k QQ)) CT_ok rfl Try.func14 rfl (Nat.le_of_ble_eq_true rfl) (by decide) cok_impl_DecodeMany okc_impl_DecodeMany (fun k => allLoops rfl (by kernel_rfl) (gl_impl_DecodeMany k QQ)) (fun args m r h => match args, h with
    | [t0, t1], h => ⟨rfl, (xe_impl_DecodeMany t0 t1 m).trans h⟩)
theorem ok_C_impl_DecodeMany : OkC CT 14 C_impl_DecodeMany := icall_ok rfl ok_X_impl_DecodeMany

/-! ### spec.l1Fault -/
noncomputable def cf_spec_l1Fault : CallF := cfc 119 C_spec_l1In cfn
noncomputable def X_spec_l1Fault : List Value → Mem → Option VM
  | [t0], m =>
    (nilX t0) |> bo fun t6 =>
    (fadX 0 t6) |> bo fun t7 =>
    (ld1 m t7) |> bo fun t8 =>
    (binX .eql .no t8 (.int .i64 0)) |> bo fun t9 =>
    brX t9
      (
        (nilX t0) |> bo fun t11 =>
        (fadX 1 t11) |> bo fun t12 =>
        (ld1 m t12) |> bo fun t13 =>
        (binX .eql .no t13 (.int .i64 0)) |> bo fun t14 =>
        (gd t14 true (some (t0, m)) m) |> bo fun r9 =>
        (gd t14 true ((nilX r9.1) |> bo fun v => some (v, r9.2)) r9.2) |> bo fun r10 =>
        (gd t14 true ((fadX 2 r10.1) |> bo fun v => some (v, r10.2)) r10.2) |> bo fun r11 =>
        (gd t14 true ((ld1 r11.2 r11.1) |> bo fun v => some (v, r11.2)) r11.2) |> bo fun r12 =>
        (gd t14 true ((binX .eql .no r12.1 (.int .i64 0)) |> bo fun v => some (v, r12.2)) r12.2) |> bo fun r13 =>
        (pickX t14 r13.1 (.bool false)) |> bo fun t21 =>
        (uop .not t21) |> bo fun t77 =>
        brX t77
          (
            retK m.length r13.2 [t0] (.int .i64 3))
          (
            retK m.length r13.2 [t0] (.int .i64 0)))
      (
        (nilX t0) |> bo fun t24 =>
        (fadX 0 t24) |> bo fun t25 =>
        (ld1 m t25) |> bo fun t26 =>
        (binX .eql .no t26 (.int .i64 2)) |> bo fun t27 =>
        brX t27
          (
            (nilX t0) |> bo fun t29 =>
            (fadX 1 t29) |> bo fun t30 =>
            (ld1 m t30) |> bo fun t31 =>
            (binX .eql .no t31 (.int .i64 2048)) |> bo fun t32 =>
            (gd t32 true (some (t0, m)) m) |> bo fun r24 =>
            (gd t32 true ((nilX r24.1) |> bo fun v => some (v, r24.2)) r24.2) |> bo fun r25 =>
            (gd t32 true ((fadX 2 r25.1) |> bo fun v => some (v, r25.2)) r25.2) |> bo fun r26 =>
            (gd t32 true ((ld1 r26.2 r26.1) |> bo fun v => some (v, r26.2)) r26.2) |> bo fun r27 =>
            (gd t32 true ((C_spec_l1In [r27.1, (.int .i64 0), (.int .i64 15)] r27.2) |> bo fun r => some (r.1, r.2)) r27.2) |> bo fun r28 =>
            (pickX t32 r28.1 (.bool false)) |> bo fun t39 =>
            (uop .not t39) |> bo fun t77 =>
            brX t77
              (
                retK m.length r28.2 [t0] (.int .i64 3))
              (
                retK m.length r28.2 [t0] (.int .i64 0)))
          (
            (nilX t0) |> bo fun t42 =>
            (fadX 0 t42) |> bo fun t43 =>
            (ld1 m t43) |> bo fun t44 =>
            (binX .eql .no t44 (.int .i64 1)) |> bo fun t45 =>
            (gd t45 true (some (t0, m)) m) |> bo fun r35 =>
            (gd t45 true ((nilX r35.1) |> bo fun v => some (v, r35.2)) r35.2) |> bo fun r36 =>
            (gd t45 true ((fadX 1 r36.1) |> bo fun v => some (v, r36.2)) r36.2) |> bo fun r37 =>
            (gd t45 true ((ld1 r37.2 r37.1) |> bo fun v => some (v, r37.2)) r37.2) |> bo fun r38 =>
            (gd t45 true ((binX .eql .no r38.1 (.int .i64 128)) |> bo fun v => some (v, r38.2)) r38.2) |> bo fun r39 =>
            (pickX t45 r39.1 (.bool false)) |> bo fun t52 =>
            brX t52
              (
                (nilX t0) |> bo fun t54 =>
                (fadX 2 t54) |> bo fun t55 =>
                (ld1 r39.2 t55) |> bo fun t56 =>
                (C_spec_l1In [t56, (.int .i64 2), (.int .i64 31)] r39.2) |> bo fun r44 =>
                (uop .not r44.1) |> bo fun t77 =>
                brX t77
                  (
                    retK m.length r44.2 [t0] (.int .i64 3))
                  (
                    retK m.length r44.2 [t0] (.int .i64 0)))
              (
                (nilX t0) |> bo fun t60 =>
                (fadX 0 t60) |> bo fun t61 =>
                (ld1 r39.2 t61) |> bo fun t62 =>
                (binX .eql .no t62 (.int .i64 1)) |> bo fun t63 =>
                (gd t63 true (some (t0, r39.2)) r39.2) |> bo fun r50 =>
                (gd t63 true ((nilX r50.1) |> bo fun v => some (v, r50.2)) r50.2) |> bo fun r51 =>
                (gd t63 true ((fadX 1 r51.1) |> bo fun v => some (v, r51.2)) r51.2) |> bo fun r52 =>
                (gd t63 true ((ld1 r52.2 r52.1) |> bo fun v => some (v, r52.2)) r52.2) |> bo fun r53 =>
                (gd t63 true ((binX .eql .no r53.1 (.int .i64 2048)) |> bo fun v => some (v, r53.2)) r53.2) |> bo fun r54 =>
                (pickX t63 r54.1 (.bool false)) |> bo fun t70 =>
                brX t70
                  (
                    (nilX t0) |> bo fun t72 =>
                    (fadX 2 t72) |> bo fun t73 =>
                    (ld1 r54.2 t73) |> bo fun t74 =>
                    (C_spec_l1In [t74, (.int .i64 0), (.int .i64 1023)] r54.2) |> bo fun r59 =>
                    (uop .not r59.1) |> bo fun t77 =>
                    brX t77
                      (
                        retK m.length r59.2 [t0] (.int .i64 3))
                      (
                        retK m.length r59.2 [t0] (.int .i64 0)))
                  (
                    (uop .not (.bool false)) |> bo fun t77 =>
                    brX t77
                      (
                        retK m.length r54.2 [t0] (.int .i64 3))
                      (
                        retK m.length r54.2 [t0] (.int .i64 0))))))
  | _, _ => none
noncomputable def C_spec_l1Fault : List Value → Mem → Option VM := fcall X_spec_l1Fault
@[simp] theorem c_spec_l1Fault : C_spec_l1Fault = fcall X_spec_l1Fault := (rfl)
theorem cok_spec_l1Fault : codeOk CT Try.f91 (Try.f91.body.get rfl) = true := by kernel_rfl
theorem xe_spec_l1Fault (t0 : Value) (m : Mem) : ex CT cf_spec_l1Fault Try.f91 1 m.length [] (fun _ _ _ => none) 400 [.code (Try.f91.body.get rfl)] (argsT 0 [t0]) m = X_spec_l1Fault [t0] m := by kernel_rfl
theorem okc_spec_l1Fault : CallOK CT cf_spec_l1Fault := cfc_ok ok_C_spec_l1In cfn_ok
theorem ok_X_spec_l1Fault : OkX CT 91 X_spec_l1Fault := OkX.of_ex (cf := cf_spec_l1Fault) (np := 1) (LL := []) (J := (fun _ _ _ _ => none)) CT_ok rfl Try.func91 rfl (Nat.le_of_ble_eq_true rfl) (by decide) cok_spec_l1Fault okc_spec_l1Fault (fun k => noLoops rfl) (fun args m r h => match args, h with
    | [t0], h => ⟨rfl, (xe_spec_l1Fault t0 m).trans h⟩)
theorem ok_C_spec_l1Fault : OkC CT 91 C_spec_l1Fault := fcall_ok rfl ok_X_spec_l1Fault

/-! ### spec.DecodeMany -/
noncomputable def cf_spec_DecodeMany : CallF := cfc 91 C_spec_l1Fault (cfc 92 C_spec_l1Step cfn)
noncomputable def L_spec_DecodeMany (k : Nat) : Nat → Nat → List Value → Mem → Option VM
  | q + 1, 0, [t1, t4, t6, t7], m =>
    (lenX t1) |> bo fun t23 =>
    (binX .lss .no t7 t23) |> bo fun t24 =>
    brX t24
      (
        (fadX 2 t6) |> bo fun t28 =>
        (ldS m 3 t28) |> bo fun t29 =>
        (ixaX 1 t1 t7) |> bo fun t32 =>
        (ld1 m t32) |> bo fun t33 =>
        (cvI .i64 t33) |> bo fun t34 =>
        (C_spec_l1Step [t29, t34] m) |> bo fun r8 =>
        (extX 0 r8.1) |> bo fun t36 =>
        (extX 1 r8.1) |> bo fun t37 =>
        (alX r8.2 [.int .i64 0, .int .i64 0, .int .i64 0]) |> bo fun r11 =>
        (stX r11.2 3 r11.1 t37) |> bo fun m12 =>
        (fadX 1 t6) |> bo fun t38 =>
        (ld1 m12 t38) |> bo fun t39 =>
        (apL m12 1 8 t39 t36) |> bo fun r15 =>
        (fadX 1 t6) |> bo fun t42 =>
        (stX r15.2 1 t42 r15.1) |> bo fun m17 =>
        (ldS m17 3 r11.1) |> bo fun t43 =>
        (fadX 2 t6) |> bo fun t44 =>
        (stX m17 3 t44 t43) |> bo fun m20 =>
        (binX .add .no t7 (.int .i64 1)) |> bo fun t26 =>
        cutK k m20 [t1] [t1, t4, t6, t26] (L_spec_DecodeMany k q 0))
      (
        (ldS m 5 t6) |> bo fun t45 =>
        (stX m 5 t4 t45) |> bo fun m23 =>
        (resP (some 5) m23 t4) |> bo fun c24 =>
        retK k m23 [t1] c24)
  | _, _, _, _ => none
noncomputable def J_spec_DecodeMany (k q l : Nat) : List Value → Mem → Option VM := cond (Nat.beq l 8) (L_spec_DecodeMany k q 0) (fun _ _ => none)
def LL_spec_DecodeMany : List (Nat × List Tmp) := [(8, [1, 4, 6, 7])]
noncomputable def X_spec_DecodeMany : List Value → Mem → Option VM
  | [t0, t1], m =>
    (boxX m t0) |> bo fun r1 =>
    (alX r1.2 [.int .i64 0, .slice none 0 0, .int .i64 0, .int .i64 0, .int .i64 0]) |> bo fun r2 =>
    (C_spec_l1Fault [r1.1] r2.2) |> bo fun r3 =>
    (binX .neq .no r3.1 (.int .i64 0)) |> bo fun t12 =>
    brX t12
      (
        (bldX [.int .i64 0, .slice none 0 0, .int .i64 0, .int .i64 0, .int .i64 0] [(0, 1, r3.1)]) |> bo fun t14 =>
        (stX r3.2 5 r2.1 t14) |> bo fun m6 =>
        (resP (some 5) m6 r2.1) |> bo fun c7 =>
        retK m.length m6 [t0, t1] c7)
      (
        (lenX t1) |> bo fun t16 =>
        (binX .gtr .no t16 (.int .i64 2000)) |> bo fun t17 =>
        brX t17
          (
            (bldX [.int .i64 0, .slice none 0 0, .int .i64 0, .int .i64 0, .int .i64 0] [(0, 1, (.int .i64 2))]) |> bo fun t18 =>
            (stX r3.2 5 r2.1 t18) |> bo fun m11 =>
            (resP (some 5) m11 r2.1) |> bo fun c12 =>
            retK m.length m11 [t0, t1] c12)
          (
            (ldS r3.2 3 r1.1) |> bo fun t19 =>
            (bldX [.int .i64 0, .slice none 0 0, .int .i64 0, .int .i64 0, .int .i64 0] [(2, 3, t19)]) |> bo fun t20 =>
            (alX r3.2 [.int .i64 0, .slice none 0 0, .int .i64 0, .int .i64 0, .int .i64 0]) |> bo fun r15 =>
            (stX r15.2 5 r15.1 t20) |> bo fun m16 =>
            cutK m.length m16 [t0, t1] [t1, r2.1, r15.1, (.int .i64 0)] (L_spec_DecodeMany m.length QQ 0)))
  | _, _ => none
noncomputable def C_spec_DecodeMany : List Value → Mem → Option VM := icall X_spec_DecodeMany
@[simp] theorem c_spec_DecodeMany : C_spec_DecodeMany = icall X_spec_DecodeMany := (rfl)
theorem cok_spec_DecodeMany : codeOk CT Try.f15 (Try.f15.body.get rfl) = true := by kernel_rfl
theorem xe_spec_DecodeMany (t0 t1 : Value) (m : Mem) : ex CT cf_spec_DecodeMany Try.f15 2 m.length LL_spec_DecodeMany (J_spec_DecodeMany m.length QQ) 400 [.code (Try.f15.body.get rfl)] (argsT 0 [t0, t1]) m = X_spec_DecodeMany [t0, t1] m := by kernel_rfl
theorem okc_spec_DecodeMany : CallOK CT cf_spec_DecodeMany := cfc_ok ok_C_spec_l1Fault (cfc_ok ok_C_spec_l1Step cfn_ok)
theorem le_spec_DecodeMany_0 (k q : Nat) (t1 t4 t6 t7 : Value) (m : Mem) : ex CT cf_spec_DecodeMany Try.f15 2 k LL_spec_DecodeMany (J_spec_DecodeMany k q) 400 (atLoop Try.f15 0) [(1, t1), (4, t4), (6, t6), (7, t7)] m = J_spec_DecodeMany k (q + 1) 8 [t1, t4, t6, t7] m := by kernel_rfl
theorem gl_spec_DecodeMany (k : Nat) : ∀ q i, i < 1 → GoodL CT k Try.f15 LL_spec_DecodeMany (J_spec_DecodeMany k q) (atLoop Try.f15 i)
  | 0, 0, _ => goodL_zero (l := 8) (by kernel_rfl) (fun vs m => by kernel_rfl)
  | 0, _ + 1, h => absurd h (by omega)
  | q + 1, 0, _ => goodL_succ (np := 2) (l := 8) (live := [1, 4, 6, 7]) (n := 1) CT_ok rfl okc_spec_DecodeMany (c := (Try.f15.body.get rfl)) rfl cok_spec_DecodeMany (by kernel_rfl) (gl_spec_DecodeMany k q) (by kernel_rfl) rfl (fun vs m r hl h => match vs, hl with
    | [t1, t4, t6, t7], _ => (le_spec_DecodeMany_0 k q t1 t4 t6 t7 m).trans h)
  | _ + 1, _ + 1, h => absurd h (by omega)
theorem ok_X_spec_DecodeMany : OkX CT 15 X_spec_DecodeMany := OkX.of_ex (cf := cf_spec_DecodeMany) (np := 2) (LL := LL_spec_DecodeMany) (J := (fun k => J_spec_DecodeMany k QQ)) CT_ok rfl Try.func15 rfl (Nat.le_of_ble_eq_true rfl) (by decide) cok_spec_DecodeMany okc_spec_DecodeMany (fun k => allLoops rfl (by kernel_rfl) (gl_spec_DecodeMany k QQ)) (fun args m r h => match args, h with
    | [t0, t1], h => ⟨rfl, (xe_spec_DecodeMany t0 t1 m).trans h⟩)
theorem ok_C_spec_DecodeMany : OkC CT 15 C_spec_DecodeMany := icall_ok rfl ok_X_spec_DecodeMany

/-! ### laws.lwAt -/
noncomputable def cf_laws_lwAt : CallF := cfn
noncomputable def X_laws_lwAt : List Value → Mem → Option VM
  | [t0, t1, t2], m =>
    (lenX t0) |> bo fun t10 =>
    (binX .leq .no t2 (.int .i64 1)) |> bo fun t12 =>
    brX t12
      (
        retK m.length m [t0, t1, t2] (.int .i64 0))
      (
        (binX .eql .no t10 (.int .i64 0)) |> bo fun t14 =>
        brX t14
          (
            (binX .mul .no t1 (.int .i64 7)) |> bo fun t16 =>
            (binX .rem .no t16 t2) |> bo fun t18 =>
            retK m.length m [t0, t1, t2] t18)
          (
            (binX .rem .no t1 t10) |> bo fun t22 =>
            (ixaX 1 t0 t22) |> bo fun t23 =>
            (ld1 m t23) |> bo fun t24 =>
            (cvI .i64 t24) |> bo fun t25 =>
            (binX .quo .no t1 t10) |> bo fun t28 =>
            (binX .mul .no t28 (.int .i64 3)) |> bo fun t29 =>
            (binX .add .no t25 t29) |> bo fun t30 =>
            (binX .gtr .no t2 (.int .i64 200)) |> bo fun t32 =>
            brX t32
              (
                (binX .mul .no t30 (.int .i64 251)) |> bo fun t34 =>
                (binX .add .no t1 (.int .i64 1)) |> bo fun t37 =>
                (binX .rem .no t37 t10) |> bo fun t39 =>
                (ixaX 1 t0 t39) |> bo fun t40 =>
                (ld1 m t40) |> bo fun t41 =>
                (cvI .i64 t41) |> bo fun t42 =>
                (binX .add .no t34 t42) |> bo fun t43 =>
                (binX .rem .no t43 t2) |> bo fun t46 =>
                retK m.length m [t0, t1, t2] t46)
              (
                (binX .rem .no t30 t2) |> bo fun t46 =>
                retK m.length m [t0, t1, t2] t46)))
  | _, _ => none
noncomputable def C_laws_lwAt : List Value → Mem → Option VM := fcall X_laws_lwAt
@[simp] theorem c_laws_lwAt : C_laws_lwAt = fcall X_laws_lwAt := (rfl)
theorem cok_laws_lwAt : codeOk CT Try.f16 (Try.f16.body.get rfl) = true := by kernel_rfl
theorem xe_laws_lwAt (t0 t1 t2 : Value) (m : Mem) : ex CT cf_laws_lwAt Try.f16 3 m.length [] (fun _ _ _ => none) 400 [.code (Try.f16.body.get rfl)] (argsT 0 [t0, t1, t2]) m = X_laws_lwAt [t0, t1, t2] m := by kernel_rfl
theorem okc_laws_lwAt : CallOK CT cf_laws_lwAt := cfn_ok
theorem ok_X_laws_lwAt : OkX CT 16 X_laws_lwAt := OkX.of_ex (cf := cf_laws_lwAt) (np := 3) (LL := []) (J := (fun _ _ _ _ => none)) CT_ok rfl Try.func16 rfl (Nat.le_of_ble_eq_true rfl) (by decide) cok_laws_lwAt okc_laws_lwAt (fun k => noLoops rfl) (fun args m r h => match args, h with
    | [t0, t1, t2], h => ⟨rfl, (xe_laws_lwAt t0 t1 t2 m).trans h⟩)
theorem ok_C_laws_lwAt : OkC CT 16 C_laws_lwAt := fcall_ok rfl ok_X_laws_lwAt

/-! ### spec.l1Chars -/
noncomputable def cf_spec_l1Chars : CallF := cfc 87 C_spec_l1Next (cfc 94 C_spec_l1Pick cfn)
noncomputable def L_spec_l1Chars (k : Nat) : Nat → Nat → List Value → Mem → Option VM
  | q + 1, 0, [t0, t3, t4], m =>
    (binX .gtr .no t4 (.int .i64 0)) |> bo fun t9 =>
    brX t9
      (
        (bslX m 9 1 [.int .i64 0] [(0, 1, (.int .i64 97)), (1, 1, (.int .i64 228)), (2, 1, (.int .i64 8364)), (3, 1, (.int .i64 127)), (4, 1, (.int .i64 128)), (5, 1, (.int .i64 2047)), (6, 1, (.int .i64 2048)), (7, 1, (.int .i64 65535)), (8, 1, (.int .i64 10))]) |> bo fun r2 =>
        (C_spec_l1Pick [t0, r2.1] r2.2) |> bo fun r3 =>
        (bslX r3.2 1 1 [.int .i64 0] [(0, 1, r3.1)]) |> bo fun r4 =>
        (apL r4.2 1 8 t3 r4.1) |> bo fun r5 =>
        (binX .sub .no t4 (.int .i64 1)) |> bo fun t11 =>
        cutK k r5.2 [t0] [t0, r5.1, t11] (L_spec_l1Chars k q 0))
      (
        retK k m [t0] t3)
  | _, _, _, _ => none
noncomputable def J_spec_l1Chars (k q l : Nat) : List Value → Mem → Option VM := cond (Nat.beq l 3) (L_spec_l1Chars k q 0) (fun _ _ => none)
def LL_spec_l1Chars : List (Nat × List Tmp) := [(3, [0, 3, 4])]
noncomputable def X_spec_l1Chars : List Value → Mem → Option VM
  | [t0], m =>
    (bslX m 0 1 [.int .i64 0] []) |> bo fun r1 =>
    (C_spec_l1Next [t0, (.int .i64 6)] r1.2) |> bo fun r2 =>
    cutK m.length r2.2 [t0] [t0, r1.1, r2.1] (L_spec_l1Chars m.length QQ 0)
  | _, _ => none
noncomputable def C_spec_l1Chars : List Value → Mem → Option VM := rcall X_spec_l1Chars
@[simp] theorem c_spec_l1Chars : C_spec_l1Chars = rcall X_spec_l1Chars := (rfl)
theorem cok_spec_l1Chars : codeOk CT Try.f93 (Try.f93.body.get rfl) = true := by kernel_rfl
theorem xe_spec_l1Chars (t0 : Value) (m : Mem) : ex CT cf_spec_l1Chars Try.f93 1 m.length LL_spec_l1Chars (J_spec_l1Chars m.length QQ) 400 [.code (Try.f93.body.get rfl)] (argsT 0 [t0]) m = X_spec_l1Chars [t0] m := by kernel_rfl
theorem okc_spec_l1Chars : CallOK CT cf_spec_l1Chars := cfc_ok ok_C_spec_l1Next (cfc_ok ok_C_spec_l1Pick cfn_ok)
theorem le_spec_l1Chars_0 (k q : Nat) (t0 t3 t4 : Value) (m : Mem) : ex CT cf_spec_l1Chars Try.f93 1 k LL_spec_l1Chars (J_spec_l1Chars k q) 400 (atLoop Try.f93 0) [(0, t0), (3, t3), (4, t4)] m = J_spec_l1Chars k (q + 1) 3 [t0, t3, t4] m := by kernel_rfl
theorem gl_spec_l1Chars (k : Nat) : ∀ q i, i < 1 → GoodL CT k Try.f93 LL_spec_l1Chars (J_spec_l1Chars k q) (atLoop Try.f93 i)
  | 0, 0, _ => goodL_zero (l := 3) (by kernel_rfl) (fun vs m => by kernel_rfl)
  | 0, _ + 1, h => absurd h (by omega)
  | q + 1, 0, _ => goodL_succ (np := 1) (l := 3) (live := [0, 3, 4]) (n := 1) CT_ok rfl okc_spec_l1Chars (c := (Try.f93.body.get rfl)) rfl cok_spec_l1Chars (by kernel_rfl) (gl_spec_l1Chars k q) (by kernel_rfl) rfl (fun vs m r hl h => match vs, hl with
    | [t0, t3, t4], _ => (le_spec_l1Chars_0 k q t0 t3 t4 m).trans h)
  | _ + 1, _ + 1, h => absurd h (by omega)
theorem ok_X_spec_l1Chars : OkX CT 93 X_spec_l1Chars := OkX.of_ex (cf := cf_spec_l1Chars) (np := 1) (LL := LL_spec_l1Chars) (J := (fun k => J_spec_l1Chars k QQ)) CT_ok rfl Try.func93 rfl (Nat.le_of_ble_eq_true rfl) (by decide) cok_spec_l1Chars okc_spec_l1Chars (fun k => allLoops rfl (by kernel_rfl) (gl_spec_l1Chars k QQ)) (fun args m r h => match args, h with
    | [t0], h => ⟨rfl, (xe_spec_l1Chars t0 m).trans h⟩)
theorem ok_C_spec_l1Chars : OkC CT 93 C_spec_l1Chars := rcall_ok rfl ok_X_spec_l1Chars

/-! ### spec.DrawEncodeAll -/
noncomputable def cf_spec_DrawEncodeAll : CallF := cfc 83 C_spec_l1Source (cfc 87 C_spec_l1Next (cfc 93 C_spec_l1Chars (cfc 94 C_spec_l1Pick cfn)))
noncomputable def X_spec_DrawEncodeAll : List Value → Mem → Option VM
  | [t0], m =>
    (C_spec_l1Source [t0] m) |> bo fun r1 =>
    (C_spec_l1Chars [r1.1] r1.2) |> bo fun r2 =>
    (C_spec_l1Next [r1.1, (.int .i64 12)] r2.2) |> bo fun r3 =>
    (binX .eql .no r3.1 (.int .i64 0)) |> bo fun t12 =>
    brX t12
      (
        (bslX r3.2 2 1 [.int .i64 0] [(0, 1, (.int .i64 (-1))), (1, 1, (.int .i64 55296))]) |> bo fun r5 =>
        (C_spec_l1Pick [r1.1, r5.1] r5.2) |> bo fun r6 =>
        (bslX r6.2 1 1 [.int .i64 0] [(0, 1, r6.1)]) |> bo fun r7 =>
        (apL r7.2 1 8 r2.1 r7.1) |> bo fun r8 =>
        retK m.length r8.2 [t0] r8.1)
      (
        (binX .eql .no r3.1 (.int .i64 1)) |> bo fun t20 =>
        brX t20
          (
            (mkX r3.2 1 8 [.int .i64 0] (.int .i64 401) (.int .i64 401)) |> bo fun r10 =>
            retK m.length r10.2 [t0] r10.1)
          (
            retK m.length r3.2 [t0] r2.1))
  | _, _ => none
noncomputable def C_spec_DrawEncodeAll : List Value → Mem → Option VM := icall X_spec_DrawEncodeAll
@[simp] theorem c_spec_DrawEncodeAll : C_spec_DrawEncodeAll = icall X_spec_DrawEncodeAll := (rfl)
theorem cok_spec_DrawEncodeAll : codeOk CT Try.f17 (Try.f17.body.get rfl) = true := by kernel_rfl
theorem xe_spec_DrawEncodeAll (t0 : Value) (m : Mem) : ex CT cf_spec_DrawEncodeAll Try.f17 1 m.length [] (fun _ _ _ => none) 400 [.code (Try.f17.body.get rfl)] (argsT 0 [t0]) m = X_spec_DrawEncodeAll [t0] m := by kernel_rfl
theorem okc_spec_DrawEncodeAll : CallOK CT cf_spec_DrawEncodeAll := cfc_ok ok_C_spec_l1Source (cfc_ok ok_C_spec_l1Next (cfc_ok ok_C_spec_l1Chars (cfc_ok ok_C_spec_l1Pick cfn_ok)))
theorem ok_X_spec_DrawEncodeAll : OkX CT 17 X_spec_DrawEncodeAll := OkX.of_ex (cf := cf_spec_DrawEncodeAll) (np := 1) (LL := []) (J := (fun _ _ _ _ => none)) CT_ok rfl Try.func17 rfl (Nat.le_of_ble_eq_true rfl) (by decide) cok_spec_DrawEncodeAll okc_spec_DrawEncodeAll (fun k => noLoops rfl) (fun args m r h => match args, h with
    | [t0], h => ⟨rfl, (xe_spec_DrawEncodeAll t0 m).trans h⟩)
theorem ok_C_spec_DrawEncodeAll : OkC CT 17 C_spec_DrawEncodeAll := icall_ok rfl ok_X_spec_DrawEncodeAll

/-! ### impl.encode -/
noncomputable def cf_impl_encode : CallF := cfn
noncomputable def X_impl_encode : List Value → Mem → Option VM
  | [t0], m =>
    (binX .lss .no t0 (.int .i64 128)) |> bo fun t5 =>
    brX t5
      (
        (cvI .u8 t0) |> bo fun t7 =>
        (bslX m 1 1 [.int .u8 0] [(0, 1, t7)]) |> bo fun r3 =>
        retK m.length r3.2 [t0] r3.1)
      (
        (binX .lss .no t0 (.int .i64 2048)) |> bo fun t11 =>
        brX t11
          (
            (binX .shr .no t0 (.int .u64 6)) |> bo fun t13 =>
            (binX .add .no (.int .i64 192) t13) |> bo fun t14 =>
            (cvI .u8 t14) |> bo fun t15 =>
            (binX .and .no t0 (.int .i64 63)) |> bo fun t17 =>
            (binX .add .no (.int .i64 128) t17) |> bo fun t18 =>
            (cvI .u8 t18) |> bo fun t19 =>
            (bslX m 2 1 [.int .u8 0] [(0, 1, t15), (1, 1, t19)]) |> bo fun r11 =>
            retK m.length r11.2 [t0] r11.1)
          (
            (binX .shr .no t0 (.int .u64 12)) |> bo fun t22 =>
            (binX .add .no (.int .i64 224) t22) |> bo fun t23 =>
            (cvI .u8 t23) |> bo fun t24 =>
            (binX .shr .no t0 (.int .u64 6)) |> bo fun t26 =>
            (binX .and .no t26 (.int .i64 63)) |> bo fun t27 =>
            (binX .add .no (.int .i64 128) t27) |> bo fun t28 =>
            (cvI .u8 t28) |> bo fun t29 =>
            (binX .and .no t0 (.int .i64 63)) |> bo fun t31 =>
            (binX .add .no (.int .i64 128) t31) |> bo fun t32 =>
            (cvI .u8 t32) |> bo fun t33 =>
            (bslX m 3 1 [.int .u8 0] [(0, 1, t24), (1, 1, t29), (2, 1, t33)]) |> bo fun r22 =>
            retK m.length r22.2 [t0] r22.1))
  | _, _ => none
noncomputable def C_impl_encode : List Value → Mem → Option VM := fcall X_impl_encode
@[simp] theorem c_impl_encode : C_impl_encode = fcall X_impl_encode := (rfl)
theorem cok_impl_encode : codeOk CT Try.f96 (Try.f96.body.get rfl) = true := by kernel_rfl
theorem xe_impl_encode (t0 : Value) (m : Mem) : ex CT cf_impl_encode Try.f96 1 m.length [] (fun _ _ _ => none) 400 [.code (Try.f96.body.get rfl)] (argsT 0 [t0]) m = X_impl_encode [t0] m := by kernel_rfl
theorem okc_impl_encode : CallOK CT cf_impl_encode := cfn_ok
theorem ok_X_impl_encode : OkX CT 96 X_impl_encode := OkX.of_ex (cf := cf_impl_encode) (np := 1) (LL := []) (J := (fun _ _ _ _ => none)) CT_ok rfl Try.func96 rfl (Nat.le_of_ble_eq_true rfl) (by decide) cok_impl_encode okc_impl_encode (fun k => noLoops rfl) (fun args m r h => match args, h with
    | [t0], h => ⟨rfl, (xe_impl_encode t0 m).trans h⟩)
theorem ok_C_impl_encode : OkC CT 96 C_impl_encode := fcall_ok rfl ok_X_impl_encode

/-! ### impl.EncodeAll -/
noncomputable def cf_impl_EncodeAll : CallF := cfc 95 C_impl_isChar (cfc 96 C_impl_encode cfn)
noncomputable def L_impl_EncodeAll (k : Nat) : Nat → Nat → List Value → Mem → Option VM
  | q + 1, 0, [t2, t3, t11, t12, t13], m =>
    (binX .lss .no t13 t12) |> bo fun t14 =>
    brX t14
      (
        (ixaX 1 t11 t13) |> bo fun t15 =>
        (ld1 m t15) |> bo fun t16 =>
        (C_impl_isChar [t16] m) |> bo fun r4 =>
        (uop .not r4.1) |> bo fun t19 =>
        brX t19
          (
            (bldX [.int .i64 0, .slice none 0 0] [(0, 1, (.int .i64 3))]) |> bo fun t20 =>
            (stX r4.2 2 t2 t20) |> bo fun m7 =>
            (resP (some 2) m7 t2) |> bo fun c8 =>
            retK k m7 [] c8)
          (
            (C_impl_encode [t16] r4.2) |> bo fun r9 =>
            (apL r9.2 1 1 t3 r9.1) |> bo fun r10 =>
            (binX .add .no t13 (.int .i64 1)) |> bo fun t25 =>
            cutK k r10.2 [] [t2, r10.1, t11, t12, t25] (L_impl_EncodeAll k q 0)))
      (
        (bldX [.int .i64 0, .slice none 0 0] [(0, 1, (.int .i64 0)), (1, 1, t3)]) |> bo fun t27 =>
        (stX m 2 t2 t27) |> bo fun m13 =>
        (resP (some 2) m13 t2) |> bo fun c14 =>
        retK k m13 [] c14)
  | _, _, _, _ => none
noncomputable def J_impl_EncodeAll (k q l : Nat) : List Value → Mem → Option VM := cond (Nat.beq l 5) (L_impl_EncodeAll k q 0) (fun _ _ => none)
def LL_impl_EncodeAll : List (Nat × List Tmp) := [(5, [2, 3, 11, 12, 13])]
noncomputable def X_impl_EncodeAll : List Value → Mem → Option VM
  | [t0], m =>
    (alX m [.int .i64 0, .slice none 0 0]) |> bo fun r1 =>
    (lenX t0) |> bo fun t7 =>
    (binX .gtr .no t7 (.int .i64 400)) |> bo fun t8 =>
    brX t8
      (
        (bldX [.int .i64 0, .slice none 0 0] [(0, 1, (.int .i64 2))]) |> bo fun t9 =>
        (stX r1.2 2 r1.1 t9) |> bo fun m5 =>
        (resP (some 2) m5 r1.1) |> bo fun c6 =>
        retK m.length m5 [t0] c6)
      (
        (bslX r1.2 0 1 [.int .u8 0] []) |> bo fun r7 =>
        (lenX t0) |> bo fun t12 =>
        cutK m.length r7.2 [t0] [r1.1, r7.1, t0, t12, (.int .i64 0)] (L_impl_EncodeAll m.length QQ 0))
  | _, _ => none
noncomputable def C_impl_EncodeAll : List Value → Mem → Option VM := icall X_impl_EncodeAll
@[simp] theorem c_impl_EncodeAll : C_impl_EncodeAll = icall X_impl_EncodeAll := (rfl)
theorem cok_impl_EncodeAll : codeOk CT Try.f18 (Try.f18.body.get rfl) = true := by kernel_rfl
theorem xe_impl_EncodeAll (t0 : Value) (m : Mem) : ex CT cf_impl_EncodeAll Try.f18 1 m.length LL_impl_EncodeAll (J_impl_EncodeAll m.length QQ) 400 [.code (Try.f18.body.get rfl)] (argsT 0 [t0]) m = X_impl_EncodeAll [t0] m := by kernel_rfl
theorem okc_impl_EncodeAll : CallOK CT cf_impl_EncodeAll := cfc_ok ok_C_impl_isChar (cfc_ok ok_C_impl_encode cfn_ok)
theorem le_impl_EncodeAll_0 (k q : Nat) (t2 t3 t11 t12 t13 : Value) (m : Mem) : ex CT cf_impl_EncodeAll Try.f18 1 k LL_impl_EncodeAll (J_impl_EncodeAll k q) 400 (atLoop Try.f18 0) [(2, t2), (3, t3), (11, t11), (12, t12), (13, t13)] m = J_impl_EncodeAll k (q + 1) 5 [t2, t3, t11, t12, t13] m := by kernel_rfl
theorem gl_impl_EncodeAll (k : Nat) : ∀ q i, i < 1 → GoodL CT k Try.f18 LL_impl_EncodeAll (J_impl_EncodeAll k q) (atLoop Try.f18 i)
  | 0, 0, _ => goodL_zero (l := 5) (by kernel_rfl) (fun vs m => by kernel_rfl)
  | 0, _ + 1, h => absurd h (by omega)
  | q + 1, 0, _ => goodL_succ (np := 1) (l := 5) (live := [2, 3, 11, 12, 13]) (n := 1) CT_ok rfl okc_impl_EncodeAll (c := (Try.f18.body.get rfl)) rfl cok_impl_EncodeAll (by kernel_rfl) (gl_impl_EncodeAll k q) (by kernel_rfl) rfl (fun vs m r hl h => match vs, hl with
    | [t2, t3, t11, t12, t13], _ => (le_impl_EncodeAll_0 k q t2 t3 t11 t12 t13 m).trans h)
  | _ + 1, _ + 1, h => absurd h (by omega)
theorem ok_X_impl_EncodeAll : OkX CT 18 X_impl_EncodeAll := OkX.of_ex (cf := cf_impl_EncodeAll) (np := 1) (LL := LL_impl_EncodeAll) (J := (fun k => J_impl_EncodeAll k QQ)) CT_ok rfl Try.func18 rfl (Nat.le_of_ble_eq_true rfl) (by decide) cok_impl_EncodeAll okc_impl_EncodeAll (fun k => allLoops rfl (by kernel_rfl) (gl_impl_EncodeAll k QQ)) (fun args m r h => match args, h with
    | [t0], h => ⟨rfl, (xe_impl_EncodeAll t0 m).trans h⟩)
theorem ok_C_impl_EncodeAll : OkC CT 18 C_impl_EncodeAll := icall_ok rfl ok_X_impl_EncodeAll

/-! ### spec.l1Encode -/
noncomputable def cf_spec_l1Encode : CallF := cfn
noncomputable def X_spec_l1Encode : List Value → Mem → Option VM
  | [t0], m =>
    (binX .lss .no t0 (.int .i64 128)) |> bo fun t4 =>
    brX t4
      (
        (cvI .u8 t0) |> bo fun t6 =>
        (bslX m 1 1 [.int .u8 0] [(0, 1, t6)]) |> bo fun r3 =>
        retK m.length r3.2 [t0] r3.1)
      (
        (binX .lss .no t0 (.int .i64 2048)) |> bo fun t9 =>
        brX t9
          (
            (binX .quo .no t0 (.int .i64 64)) |> bo fun t11 =>
            (binX .add .no (.int .i64 192) t11) |> bo fun t12 =>
            (cvI .u8 t12) |> bo fun t13 =>
            (binX .rem .no t0 (.int .i64 64)) |> bo fun t15 =>
            (binX .add .no (.int .i64 128) t15) |> bo fun t16 =>
            (cvI .u8 t16) |> bo fun t17 =>
            (bslX m 2 1 [.int .u8 0] [(0, 1, t13), (1, 1, t17)]) |> bo fun r11 =>
            retK m.length r11.2 [t0] r11.1)
          (
            (binX .quo .no t0 (.int .i64 4096)) |> bo fun t20 =>
            (binX .add .no (.int .i64 224) t20) |> bo fun t21 =>
            (cvI .u8 t21) |> bo fun t22 =>
            (binX .quo .no t0 (.int .i64 64)) |> bo fun t24 =>
            (binX .rem .no t24 (.int .i64 64)) |> bo fun t25 =>
            (binX .add .no (.int .i64 128) t25) |> bo fun t26 =>
            (cvI .u8 t26) |> bo fun t27 =>
            (binX .rem .no t0 (.int .i64 64)) |> bo fun t29 =>
            (binX .add .no (.int .i64 128) t29) |> bo fun t30 =>
            (cvI .u8 t30) |> bo fun t31 =>
            (bslX m 3 1 [.int .u8 0] [(0, 1, t22), (1, 1, t27), (2, 1, t31)]) |> bo fun r22 =>
            retK m.length r22.2 [t0] r22.1))
  | _, _ => none
noncomputable def C_spec_l1Encode : List Value → Mem → Option VM := fcall X_spec_l1Encode
@[simp] theorem c_spec_l1Encode : C_spec_l1Encode = fcall X_spec_l1Encode := (rfl)
theorem cok_spec_l1Encode : codeOk CT Try.f98 (Try.f98.body.get rfl) = true := by kernel_rfl
theorem xe_spec_l1Encode (t0 : Value) (m : Mem) : ex CT cf_spec_l1Encode Try.f98 1 m.length [] (fun _ _ _ => none) 400 [.code (Try.f98.body.get rfl)] (argsT 0 [t0]) m = X_spec_l1Encode [t0] m := by kernel_rfl
theorem okc_spec_l1Encode : CallOK CT cf_spec_l1Encode := cfn_ok
theorem ok_X_spec_l1Encode : OkX CT 98 X_spec_l1Encode := OkX.of_ex (cf := cf_spec_l1Encode) (np := 1) (LL := []) (J := (fun _ _ _ _ => none)) CT_ok rfl Try.func98 rfl (Nat.le_of_ble_eq_true rfl) (by decide) cok_spec_l1Encode okc_spec_l1Encode (fun k => noLoops rfl) (fun args m r h => match args, h with
    | [t0], h => ⟨rfl, (xe_spec_l1Encode t0 m).trans h⟩)
theorem ok_C_spec_l1Encode : OkC CT 98 C_spec_l1Encode := fcall_ok rfl ok_X_spec_l1Encode

/-! ### spec.EncodeAll -/
noncomputable def cf_spec_EncodeAll : CallF := cfc 97 C_spec_l1Char (cfc 98 C_spec_l1Encode cfn)
noncomputable def L_spec_EncodeAll (k : Nat) : Nat → Nat → List Value → Mem → Option VM
  | q + 1, 0, [t0, t2, t3, t4], m =>
    (lenX t0) |> bo fun t12 =>
    (binX .lss .no t4 t12) |> bo fun t13 =>
    brX t13
      (
        (ixaX 1 t0 t4) |> bo fun t18 =>
        (ld1 m t18) |> bo fun t19 =>
        (C_spec_l1Char [t19] m) |> bo fun r5 =>
        (uop .not r5.1) |> bo fun t21 =>
        brX t21
          (
            (bldX [.int .i64 0, .slice none 0 0] [(0, 1, (.int .i64 3))]) |> bo fun t22 =>
            (stX r5.2 2 t2 t22) |> bo fun m8 =>
            (resP (some 2) m8 t2) |> bo fun c9 =>
            retK k m8 [t0] c9)
          (
            (ixaX 1 t0 t4) |> bo fun t26 =>
            (ld1 r5.2 t26) |> bo fun t27 =>
            (C_spec_l1Encode [t27] r5.2) |> bo fun r12 =>
            (apL r12.2 1 1 t3 r12.1) |> bo fun r13 =>
            (binX .add .no t4 (.int .i64 1)) |> bo fun t15 =>
            cutK k r13.2 [t0] [t0, t2, r13.1, t15] (L_spec_EncodeAll k q 0)))
      (
        (bldX [.int .i64 0, .slice none 0 0] [(1, 1, t3)]) |> bo fun t31 =>
        (stX m 2 t2 t31) |> bo fun m16 =>
        (resP (some 2) m16 t2) |> bo fun c17 =>
        retK k m16 [t0] c17)
  | _, _, _, _ => none
noncomputable def J_spec_EncodeAll (k q l : Nat) : List Value → Mem → Option VM := cond (Nat.beq l 5) (L_spec_EncodeAll k q 0) (fun _ _ => none)
def LL_spec_EncodeAll : List (Nat × List Tmp) := [(5, [0, 2, 3, 4])]
noncomputable def X_spec_EncodeAll : List Value → Mem → Option VM
  | [t0], m =>
    (alX m [.int .i64 0, .slice none 0 0]) |> bo fun r1 =>
    (lenX t0) |> bo fun t6 =>
    (binX .gtr .no t6 (.int .i64 400)) |> bo fun t7 =>
    brX t7
      (
        (bldX [.int .i64 0, .slice none 0 0] [(0, 1, (.int .i64 2))]) |> bo fun t8 =>
        (stX r1.2 2 r1.1 t8) |> bo fun m5 =>
        (resP (some 2) m5 r1.1) |> bo fun c6 =>
        retK m.length m5 [t0] c6)
      (
        (bslX r1.2 0 1 [.int .u8 0] []) |> bo fun r7 =>
        cutK m.length r7.2 [t0] [t0, r1.1, r7.1, (.int .i64 0)] (L_spec_EncodeAll m.length QQ 0))
  | _, _ => none
noncomputable def C_spec_EncodeAll : List Value → Mem → Option VM := icall X_spec_EncodeAll
@[simp] theorem c_spec_EncodeAll : C_spec_EncodeAll = icall X_spec_EncodeAll := (rfl)
theorem cok_spec_EncodeAll : codeOk CT Try.f19 (Try.f19.body.get rfl) = true := by kernel_rfl
theorem xe_spec_EncodeAll (t0 : Value) (m : Mem) : ex CT cf_spec_EncodeAll Try.f19 1 m.length LL_spec_EncodeAll (J_spec_EncodeAll m.length QQ) 400 [.code (Try.f19.body.get rfl)] (argsT 0 [t0]) m = X_spec_EncodeAll [t0] m := by kernel_rfl
theorem okc_spec_EncodeAll : CallOK CT cf_spec_EncodeAll := cfc_ok ok_C_spec_l1Char (cfc_ok ok_C_spec_l1Encode cfn_ok)
theorem le_spec_EncodeAll_0 (k q : Nat) (t0 t2 t3 t4 : Value) (m : Mem) : ex CT cf_spec_EncodeAll Try.f19 1 k LL_spec_EncodeAll (J_spec_EncodeAll k q) 400 (atLoop Try.f19 0) [(0, t0), (2, t2), (3, t3), (4, t4)] m = J_spec_EncodeAll k (q + 1) 5 [t0, t2, t3, t4] m := by kernel_rfl
theorem gl_spec_EncodeAll (k : Nat) : ∀ q i, i < 1 → GoodL CT k Try.f19 LL_spec_EncodeAll (J_spec_EncodeAll k q) (atLoop Try.f19 i)
  | 0, 0, _ => goodL_zero (l := 5) (by kernel_rfl) (fun vs m => by kernel_rfl)
  | 0, _ + 1, h => absurd h (by omega)
  | q + 1, 0, _ => goodL_succ (np := 1) (l := 5) (live := [0, 2, 3, 4]) (n := 1) CT_ok rfl okc_spec_EncodeAll (c := (Try.f19.body.get rfl)) rfl cok_spec_EncodeAll (by kernel_rfl) (gl_spec_EncodeAll k q) (by kernel_rfl) rfl (fun vs m r hl h => match vs, hl with
    | [t0, t2, t3, t4], _ => (le_spec_EncodeAll_0 k q t0 t2 t3 t4 m).trans h)
  | _ + 1, _ + 1, h => absurd h (by omega)
theorem ok_X_spec_EncodeAll : OkX CT 19 X_spec_EncodeAll := OkX.of_ex (cf := cf_spec_EncodeAll) (np := 1) (LL := LL_spec_EncodeAll) (J := (fun k => J_spec_EncodeAll k QQ)) CT_ok rfl Try.func19 rfl (Nat.le_of_ble_eq_true rfl) (by decide) cok_spec_EncodeAll okc_spec_EncodeAll (fun k => allLoops rfl (by kernel_rfl) (gl_spec_EncodeAll k QQ)) (fun args m r h => match args, h with
    | [t0], h => ⟨rfl, (xe_spec_EncodeAll t0 m).trans h⟩)
theorem ok_C_spec_EncodeAll : OkC CT 19 C_spec_EncodeAll := icall_ok rfl ok_X_spec_EncodeAll

/-! ### laws.lwNums -/
noncomputable def cf_laws_lwNums : CallF := cfn
noncomputable def L_laws_lwNums (k : Nat) : Nat → Nat → List Value → Mem → Option VM
  | q + 1, 0, [t0, t1, t5], m =>
    (lenX t0) |> bo fun t13 =>
    (binX .lss .no t5 t13) |> bo fun t14 =>
    brX t14
      (
        (ixaX 1 t0 t5) |> bo fun t19 =>
        (ld1 m t19) |> bo fun t20 =>
        (ixaX 1 t1 t5) |> bo fun t23 =>
        (ld1 m t23) |> bo fun t24 =>
        (binX .neq .no t20 t24) |> bo fun t25 =>
        brX t25
          (
            retK k m [t0, t1] (.bool false))
          (
            (binX .add .no t5 (.int .i64 1)) |> bo fun t16 =>
            cutK k m [t0, t1] [t0, t1, t16] (L_laws_lwNums k q 0)))
      (
        retK k m [t0, t1] (.bool true))
  | _, _, _, _ => none
noncomputable def J_laws_lwNums (k q l : Nat) : List Value → Mem → Option VM := cond (Nat.beq l 4) (L_laws_lwNums k q 0) (fun _ _ => none)
def LL_laws_lwNums : List (Nat × List Tmp) := [(4, [0, 1, 5])]
noncomputable def X_laws_lwNums : List Value → Mem → Option VM
  | [t0, t1], m =>
    (lenX t0) |> bo fun t7 =>
    (lenX t1) |> bo fun t9 =>
    (binX .neq .no t7 t9) |> bo fun t10 =>
    brX t10
      (
        retK m.length m [t0, t1] (.bool false))
      (
        cutK m.length m [t0, t1] [t0, t1, (.int .i64 0)] (L_laws_lwNums m.length QQ 0))
  | _, _ => none
noncomputable def C_laws_lwNums : List Value → Mem → Option VM := fcall X_laws_lwNums
@[simp] theorem c_laws_lwNums : C_laws_lwNums = fcall X_laws_lwNums := (rfl)
theorem cok_laws_lwNums : codeOk CT Try.f20 (Try.f20.body.get rfl) = true := by kernel_rfl
theorem xe_laws_lwNums (t0 t1 : Value) (m : Mem) : ex CT cf_laws_lwNums Try.f20 2 m.length LL_laws_lwNums (J_laws_lwNums m.length QQ) 400 [.code (Try.f20.body.get rfl)] (argsT 0 [t0, t1]) m = X_laws_lwNums [t0, t1] m := by kernel_rfl
theorem okc_laws_lwNums : CallOK CT cf_laws_lwNums := cfn_ok
theorem le_laws_lwNums_0 (k q : Nat) (t0 t1 t5 : Value) (m : Mem) : ex CT cf_laws_lwNums Try.f20 2 k LL_laws_lwNums (J_laws_lwNums k q) 400 (atLoop Try.f20 0) [(0, t0), (1, t1), (5, t5)] m = J_laws_lwNums k (q + 1) 4 [t0, t1, t5] m := by kernel_rfl
theorem gl_laws_lwNums (k : Nat) : ∀ q i, i < 1 → GoodL CT k Try.f20 LL_laws_lwNums (J_laws_lwNums k q) (atLoop Try.f20 i)
  | 0, 0, _ => goodL_zero (l := 4) (by kernel_rfl) (fun vs m => by kernel_rfl)
  | 0, _ + 1, h => absurd h (by omega)
  | q + 1, 0, _ => goodL_succ (np := 2) (l := 4) (live := [0, 1, 5]) (n := 1) CT_ok rfl okc_laws_lwNums (c := (Try.f20.body.get rfl)) rfl cok_laws_lwNums (by kernel_rfl) (gl_laws_lwNums k q) (by kernel_rfl) rfl (fun vs m r hl h => match vs, hl with
    | [t0, t1, t5], _ => (le_laws_lwNums_0 k q t0 t1 t5 m).trans h)
  | _ + 1, _ + 1, h => absurd h (by omega)
theorem ok_X_laws_lwNums : OkX CT 20 X_laws_lwNums := OkX.of_ex (cf := cf_laws_lwNums) (np := 2) (LL := LL_laws_lwNums) (J := (fun k => J_laws_lwNums k QQ)) CT_ok rfl Try.func20 rfl (Nat.le_of_ble_eq_true rfl) (by decide) cok_laws_lwNums okc_laws_lwNums (fun k => allLoops rfl (by kernel_rfl) (gl_laws_lwNums k QQ)) (fun args m r h => match args, h with
    | [t0, t1], h => ⟨rfl, (xe_laws_lwNums t0 t1 m).trans h⟩)
theorem ok_C_laws_lwNums : OkC CT 20 C_laws_lwNums := fcall_ok rfl ok_X_laws_lwNums

/-! ### laws.FnChars -/
noncomputable def cf_laws_FnChars : CallF := cfc 12 C_laws_lwBig (cfc 13 C_spec_DrawDecodeMany (cfc 14 C_impl_DecodeMany (cfc 15 C_spec_DecodeMany (cfc 16 C_laws_lwAt (cfc 17 C_spec_DrawEncodeAll (cfc 18 C_impl_EncodeAll (cfc 19 C_spec_EncodeAll (cfc 20 C_laws_lwNums (cfc 21 C_impl_DecoderFault cfn)))))))))
noncomputable def X_laws_FnChars : List Value → Mem → Option VM
  | [t0], m =>
    (C_laws_lwBig [t0] m) |> bo fun r1 =>
    brX r1.1
      (
        retK m.length r1.2 [t0] (.bool true))
      (
        (C_spec_DrawDecodeMany [t0] r1.2) |> bo fun r2 =>
        (extX 0 r2.1) |> bo fun t16 =>
        (extX 1 r2.1) |> bo fun t17 =>
        (alX r2.2 [.int .i64 0, .int .i64 0, .int .i64 0]) |> bo fun r5 =>
        (stX r5.2 3 r5.1 t16) |> bo fun m6 =>
        (ldS m6 3 r5.1) |> bo fun t18 =>
        (C_impl_DecodeMany [t18, t17] m6) |> bo fun r8 =>
        (alX r8.2 [.int .i64 0, .slice none 0 0, .int .i64 0, .int .i64 0, .int .i64 0]) |> bo fun r9 =>
        (stX r9.2 5 r9.1 r8.1) |> bo fun m10 =>
        (fadX 0 r9.1) |> bo fun t21 =>
        (ld1 m10 t21) |> bo fun t22 =>
        (binX .neq .no t22 (.int .i64 0)) |> bo fun t23 =>
        brX t23
          (
            (ldS m10 3 r5.1) |> bo fun t24 =>
            (C_spec_DecodeMany [t24, t17] m10) |> bo fun r15 =>
            (fld1 0 r15.1) |> bo fun t27 =>
            (fadX 0 r9.1) |> bo fun t28 =>
            (ld1 r15.2 t28) |> bo fun t29 =>
            (binX .eql .no t27 t29) |> bo fun t30 =>
            gP (stbL [((rdN t28), m10, r15.2)])
              (
                retK m.length r15.2 [t0] t30))
          (
            (lenX t17) |> bo fun t33 =>
            (binX .add .no t33 (.int .i64 1)) |> bo fun t34 =>
            (C_laws_lwAt [t0, (.int .i64 3), t34] m10) |> bo fun r22 =>
            (ldS r22.2 3 r5.1) |> bo fun t36 =>
            (slX r22.2 1 t17 none (some r22.1)) |> bo fun t39 =>
            (C_impl_DecodeMany [t36, t39] r22.2) |> bo fun r25 =>
            (alX r25.2 [.int .i64 0, .slice none 0 0, .int .i64 0, .int .i64 0, .int .i64 0]) |> bo fun r26 =>
            (stX r26.2 5 r26.1 r25.1) |> bo fun m27 =>
            (fadX 2 r26.1) |> bo fun t41 =>
            (ldS m27 3 t41) |> bo fun t42 =>
            (slX m27 1 t17 (some r22.1) none) |> bo fun t45 =>
            (C_impl_DecodeMany [t42, t45] m27) |> bo fun r31 =>
            (alX r31.2 [.int .i64 0, .slice none 0 0, .int .i64 0, .int .i64 0, .int .i64 0]) |> bo fun r32 =>
            (stX r32.2 5 r32.1 r31.1) |> bo fun m33 =>
            (C_spec_DrawEncodeAll [t0] m33) |> bo fun r34 =>
            (C_impl_EncodeAll [r34.1] r34.2) |> bo fun r35 =>
            (alX r35.2 [.int .i64 0, .slice none 0 0]) |> bo fun r36 =>
            (stX r36.2 2 r36.1 r35.1) |> bo fun m37 =>
            (fadX 0 r36.1) |> bo fun t51 =>
            (ld1 m37 t51) |> bo fun t52 =>
            (C_spec_EncodeAll [r34.1] m37) |> bo fun r40 =>
            (fld1 0 r40.1) |> bo fun t55 =>
            (binX .neq .no t52 t55) |> bo fun t56 =>
            (gd t56 false ((fadX 0 r36.1) |> bo fun v => some (v, r40.2)) r40.2) |> bo fun r43 =>
            (gd t56 false ((ld1 r43.2 r43.1) |> bo fun v => some (v, r43.2)) r43.2) |> bo fun r44 =>
            (gd t56 false ((binX .eql .no r44.1 (.int .i64 0)) |> bo fun v => some (v, r44.2)) r44.2) |> bo fun r45 =>
            (gd t56 false (some (r45.1, r45.2)) r45.2) |> bo fun r46 =>
            (gd r46.1 true ((bldX [.int .i64 0, .int .i64 0, .int .i64 0] []) |> bo fun v => some (v, r46.2)) r46.2) |> bo fun r47 =>
            (gd r46.1 true ((fadX 1 r36.1) |> bo fun v => some (v, r47.2)) r47.2) |> bo fun r48 =>
            (gd r46.1 true ((ld1 r48.2 r48.1) |> bo fun v => some (v, r48.2)) r48.2) |> bo fun r49 =>
            (gd r46.1 true ((C_impl_DecodeMany [r47.1, r49.1] r49.2) |> bo fun r => some (r.1, r.2)) r49.2) |> bo fun r50 =>
            (gd r46.1 true ((fld1 1 r50.1) |> bo fun v => some (v, r50.2)) r50.2) |> bo fun r51 =>
            (gd r46.1 true (some (r34.1, r51.2)) r51.2) |> bo fun r52 =>
            (gd r46.1 true ((C_laws_lwNums [r51.1, r52.1] r52.2) |> bo fun r => some (r.1, r.2)) r52.2) |> bo fun r53 =>
            (gd r46.1 true ((uop .not r53.1) |> bo fun v => some (v, r53.2)) r53.2) |> bo fun r54 =>
            (gd r46.1 true (some (r54.1, r54.2)) r54.2) |> bo fun r55 =>
            (gd r55.1 false ((bldX [.int .i64 0, .int .i64 0, .int .i64 0] []) |> bo fun v => some (v, r55.2)) r55.2) |> bo fun r56 =>
            (gd r55.1 false ((fadX 1 r36.1) |> bo fun v => some (v, r56.2)) r56.2) |> bo fun r57 =>
            (gd r55.1 false ((ld1 r57.2 r57.1) |> bo fun v => some (v, r57.2)) r57.2) |> bo fun r58 =>
            (gd r55.1 false ((C_impl_DecodeMany [r56.1, r58.1] r58.2) |> bo fun r => some (r.1, r.2)) r58.2) |> bo fun r59 =>
            (gd r55.1 false ((fldS 2 3 r59.1) |> bo fun v => some (v, r59.2)) r59.2) |> bo fun r60 =>
            (gd r55.1 false ((fld1 0 r60.1) |> bo fun v => some (v, r60.2)) r60.2) |> bo fun r61 =>
            (gd r55.1 false ((binX .neq .no r61.1 (.int .i64 0)) |> bo fun v => some (v, r61.2)) r61.2) |> bo fun r62 =>
            (gd r46.1 true ((pickX r55.1 (.bool true) r62.1) |> bo fun v => some (v, r62.2)) r62.2) |> bo fun r63 =>
            (gd t56 false ((pickX r46.1 r63.1 (.bool false)) |> bo fun v => some (v, r63.2)) r63.2) |> bo fun r64 =>
            (pickX t56 (.bool true) r64.1) |> bo fun t80 =>
            gP (stbL [((rdN t51), m37, r40.2)])
              (
                brX t80
                  (
                    retK m.length r64.2 [t0] (.bool false))
                  (
                    (bslX r64.2 0 1 [.int .i64 0] []) |> bo fun r66 =>
                    (fadX 1 r26.1) |> bo fun t82 =>
                    (ld1 r66.2 t82) |> bo fun t83 =>
                    (apL r66.2 1 8 r66.1 t83) |> bo fun r69 =>
                    (fadX 1 r32.1) |> bo fun t85 =>
                    (ld1 r69.2 t85) |> bo fun t86 =>
                    (apL r69.2 1 8 r69.1 t86) |> bo fun r72 =>
                    (fadX 1 r9.1) |> bo fun t88 =>
                    (ld1 r72.2 t88) |> bo fun t89 =>
                    (C_laws_lwNums [r72.1, t89] r72.2) |> bo fun r75 =>
                    (gd r75.1 true ((fadX 2 r32.1) |> bo fun v => some (v, r75.2)) r75.2) |> bo fun r76 =>
                    (gd r75.1 true ((ldS r76.2 3 r76.1) |> bo fun v => some (v, r76.2)) r76.2) |> bo fun r77 =>
                    (gd r75.1 true ((fadX 2 r9.1) |> bo fun v => some (v, r77.2)) r77.2) |> bo fun r78 =>
                    (gd r75.1 true ((ldS r78.2 3 r78.1) |> bo fun v => some (v, r78.2)) r78.2) |> bo fun r79 =>
                    (gd r75.1 true ((binX .eql (.st [0, 1, 2]) r77.1 r79.1) |> bo fun v => some (v, r79.2)) r79.2) |> bo fun r80 =>
                    (pickX r75.1 r80.1 (.bool false)) |> bo fun t97 =>
                    (gd t97 true ((fadX 2 r9.1) |> bo fun v => some (v, r80.2)) r80.2) |> bo fun r82 =>
                    (gd t97 true ((ldS r82.2 3 r82.1) |> bo fun v => some (v, r82.2)) r82.2) |> bo fun r83 =>
                    (gd t97 true ((C_impl_DecoderFault [r83.1] r83.2) |> bo fun r => some (r.1, r.2)) r83.2) |> bo fun r84 =>
                    (gd t97 true ((binX .eql .no r84.1 (.int .i64 0)) |> bo fun v => some (v, r84.2)) r84.2) |> bo fun r85 =>
                    (pickX t97 r85.1 (.bool false)) |> bo fun t103 =>
                    (gd t103 true ((fadX 1 r9.1) |> bo fun v => some (v, r85.2)) r85.2) |> bo fun r87 =>
                    (gd t103 true ((ld1 r87.2 r87.1) |> bo fun v => some (v, r87.2)) r87.2) |> bo fun r88 =>
                    (gd t103 true ((ldS r88.2 3 r5.1) |> bo fun v => some (v, r88.2)) r88.2) |> bo fun r89 =>
                    (gd t103 true (some (t17, r89.2)) r89.2) |> bo fun r90 =>
                    (gd t103 true ((C_spec_DecodeMany [r89.1, r90.1] r90.2) |> bo fun r => some (r.1, r.2)) r90.2) |> bo fun r91 =>
                    (gd t103 true ((fld1 1 r91.1) |> bo fun v => some (v, r91.2)) r91.2) |> bo fun r92 =>
                    (gd t103 true ((C_laws_lwNums [r88.1, r92.1] r92.2) |> bo fun r => some (r.1, r.2)) r92.2) |> bo fun r93 =>
                    (pickX t103 r93.1 (.bool false)) |> bo fun t112 =>
                    gP (stbL [((rdN t85), r66.2, r69.2), ((rdN t88), r66.2, r69.2), ((rdN t88), r69.2, r72.2), ((gdN t103 true (rdN r87.1)), r90.2, r91.2)])
                      (
                        retK m.length r93.2 [t0] t112)))))
  | _, _ => none
noncomputable def C_laws_FnChars : List Value → Mem → Option VM := fcall X_laws_FnChars
@[simp] theorem c_laws_FnChars : C_laws_FnChars = fcall X_laws_FnChars := (rfl)
theorem cok_laws_FnChars : codeOk CT Try.f3 (Try.f3.body.get rfl) = true := by kernel_rfl
theorem xe_laws_FnChars (t0 : Value) (m : Mem) : ex CT cf_laws_FnChars Try.f3 1 m.length [] (fun _ _ _ => none) 400 [.code (Try.f3.body.get rfl)] (argsT 0 [t0]) m = X_laws_FnChars [t0] m := by kernel_rfl
theorem okc_laws_FnChars : CallOK CT cf_laws_FnChars := cfc_ok ok_C_laws_lwBig (cfc_ok ok_C_spec_DrawDecodeMany (cfc_ok ok_C_impl_DecodeMany (cfc_ok ok_C_spec_DecodeMany (cfc_ok ok_C_laws_lwAt (cfc_ok ok_C_spec_DrawEncodeAll (cfc_ok ok_C_impl_EncodeAll (cfc_ok ok_C_spec_EncodeAll (cfc_ok ok_C_laws_lwNums (cfc_ok ok_C_impl_DecoderFault cfn_ok)))))))))
theorem ok_X_laws_FnChars : OkX CT 3 X_laws_FnChars := OkX.of_ex (cf := cf_laws_FnChars) (np := 1) (LL := []) (J := (fun _ _ _ _ => none)) CT_ok rfl Try.func3 rfl (Nat.le_of_ble_eq_true rfl) (by decide) cok_laws_FnChars okc_laws_FnChars (fun k => noLoops rfl) (fun args m r h => match args, h with
    | [t0], h => ⟨rfl, (xe_laws_FnChars t0 m).trans h⟩)
theorem ok_C_laws_FnChars : OkC CT 3 C_laws_FnChars := fcall_ok rfl ok_X_laws_FnChars

end Go.Ab
