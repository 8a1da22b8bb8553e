/- Plain forms of functions, printed by gen.py. -/
import Derived.Test.YtkfbpdbopkdnjaaCf3
import Derived.Test.YtkfbpdbopkdnjaaFC
set_option linter.unusedVariables false
set_option linter.unusedSimpArgs false
namespace Go.Ab
open Go.Proofs
set_option maxRecDepth 100000
set_option linter.unusedVariables false
/-! ### laws.szHoldS -/
noncomputable def cf_laws_szHoldS : CallF := cfn
noncomputable def X_laws_szHoldS : List Value → Mem → Option VM
  | [t0, t1], m =>
    (lenX t0) |> bo fun t7 =>
    (binX .sub .no t1 t7) |> bo fun t8 =>
    (binX .lss .no t8 (.int .i64 0)) |> bo fun t10 =>
    brX t10
      (
        retK m.length m [t0, t8] (.int .i64 (-1)))
      (
        retK m.length m [t0, t8] t8)
  | _, _ => none
noncomputable def C_laws_szHoldS : List Value → Mem → Option VM := fcall X_laws_szHoldS
@[simp] theorem c_laws_szHoldS : C_laws_szHoldS = fcall X_laws_szHoldS := (rfl)
theorem cok_laws_szHoldS : codeOk CT Try.f117 (Try.f117.body.get rfl) = true := by kernel_rfl
theorem xe_laws_szHoldS (t0 t1 : Value) (m : Mem) : ex CT cf_laws_szHoldS Try.f117 2 m.length [] (fun _ _ _ => none) 400 [.code (Try.f117.body.get rfl)] (argsT 0 [t0, t1]) m = X_laws_szHoldS [t0, t1] m := by kernel_rfl
theorem okc_laws_szHoldS : CallOK CT cf_laws_szHoldS := cfn_ok
theorem ok_X_laws_szHoldS : OkX CT 117 X_laws_szHoldS := OkX.of_ex (cf := cf_laws_szHoldS) (np := 2) (LL := []) (J := (fun _ _ _ _ => none)) CT_ok rfl Try.func117 rfl (Nat.le_of_ble_eq_true rfl) (by decide) cok_laws_szHoldS okc_laws_szHoldS (fun k => noLoops rfl) (fun args m r h => match args, h with
    | [t0, t1], h => ⟨rfl, (xe_laws_szHoldS t0 t1 m).trans h⟩)
theorem ok_C_laws_szHoldS : OkC CT 117 C_laws_szHoldS := fcall_ok rfl ok_X_laws_szHoldS

/-! ### laws.szKeyboard -/
noncomputable def cf_laws_szKeyboard : CallF := cfc 117 C_laws_szHoldS cfn
noncomputable def X_laws_szKeyboard : List Value → Mem → Option VM
  | [t0, t1], m =>
    (boxX m t0) |> bo fun r1 =>
    (fadX 0 r1.1) |> bo fun t5 =>
    (ld1 r1.2 t5) |> bo fun t6 =>
    (C_laws_szHoldS [t6, t1] r1.2) |> bo fun r4 =>
    (binX .lss .no r4.1 (.int .i64 0)) |> bo fun t10 =>
    brX t10
      (
        retK m.length r4.2 [t0, r4.1] (.int .i64 (-1)))
      (
        retK m.length r4.2 [t0, r4.1] r4.1)
  | _, _ => none
noncomputable def C_laws_szKeyboard : List Value → Mem → Option VM := fcall X_laws_szKeyboard
@[simp] theorem c_laws_szKeyboard : C_laws_szKeyboard = fcall X_laws_szKeyboard := (rfl)
theorem cok_laws_szKeyboard : codeOk CT Try.f42 (Try.f42.body.get rfl) = true := by kernel_rfl
theorem xe_laws_szKeyboard (t0 t1 : Value) (m : Mem) : ex CT cf_laws_szKeyboard Try.f42 2 m.length [] (fun _ _ _ => none) 400 [.code (Try.f42.body.get rfl)] (argsT 0 [t0, t1]) m = X_laws_szKeyboard [t0, t1] m := by kernel_rfl
theorem okc_laws_szKeyboard : CallOK CT cf_laws_szKeyboard := cfc_ok ok_C_laws_szHoldS cfn_ok
theorem ok_X_laws_szKeyboard : OkX CT 42 X_laws_szKeyboard := OkX.of_ex (cf := cf_laws_szKeyboard) (np := 2) (LL := []) (J := (fun _ _ _ _ => none)) CT_ok rfl Try.func42 rfl (Nat.le_of_ble_eq_true rfl) (by decide) cok_laws_szKeyboard okc_laws_szKeyboard (fun k => noLoops rfl) (fun args m r h => match args, h with
    | [t0, t1], h => ⟨rfl, (xe_laws_szKeyboard t0 t1 m).trans h⟩)
theorem ok_C_laws_szKeyboard : OkC CT 42 C_laws_szKeyboard := fcall_ok rfl ok_X_laws_szKeyboard

/-! ### spec.l1In -/
noncomputable def cf_spec_l1In : CallF := cfn
noncomputable def X_spec_l1In : List Value → Mem → Option VM
  | [t0, t1, t2], m =>
    (binX .geq .no t0 t1) |> bo fun t9 =>
    (gd t9 true (some (t0, m)) m) |> bo fun r2 =>
    (gd t9 true (some (t2, r2.2)) r2.2) |> bo fun r3 =>
    (gd t9 true ((binX .leq .no r2.1 r3.1) |> bo fun v => some (v, r3.2)) r3.2) |> bo fun r4 =>
    (pickX t9 r4.1 (.bool false)) |> bo fun t14 =>
    retK m.length r4.2 [t0, t1, t2] t14
  | _, _ => none
noncomputable def C_spec_l1In : List Value → Mem → Option VM := fcall X_spec_l1In
@[simp] theorem c_spec_l1In : C_spec_l1In = fcall X_spec_l1In := (rfl)
theorem cok_spec_l1In : codeOk CT Try.f119 (Try.f119.body.get rfl) = true := by kernel_rfl
theorem xe_spec_l1In (t0 t1 t2 : Value) (m : Mem) : ex CT cf_spec_l1In Try.f119 3 m.length [] (fun _ _ _ => none) 400 [.code (Try.f119.body.get rfl)] (argsT 0 [t0, t1, t2]) m = X_spec_l1In [t0, t1, t2] m := by kernel_rfl
theorem okc_spec_l1In : CallOK CT cf_spec_l1In := cfn_ok
theorem ok_X_spec_l1In : OkX CT 119 X_spec_l1In := OkX.of_ex (cf := cf_spec_l1In) (np := 3) (LL := []) (J := (fun _ _ _ _ => none)) CT_ok rfl Try.func119 rfl (Nat.le_of_ble_eq_true rfl) (by decide) cok_spec_l1In okc_spec_l1In (fun k => noLoops rfl) (fun args m r h => match args, h with
    | [t0, t1, t2], h => ⟨rfl, (xe_spec_l1In t0 t1 t2 m).trans h⟩)
theorem ok_C_spec_l1In : OkC CT 119 C_spec_l1In := fcall_ok rfl ok_X_spec_l1In

/-! ### spec.l9Fault -/
noncomputable def cf_spec_l9Fault : CallF := cfc 119 C_spec_l1In cfn
noncomputable def L_spec_l9Fault (k : Nat) : Nat → Nat → List Value → Mem → Option VM
  | q + 1, 0, [t0, t3], m =>
    (nilX t0) |> bo fun t13 =>
    (fadX 0 t13) |> bo fun t14 =>
    (ld1 m t14) |> bo fun t15 =>
    (lenX t15) |> bo fun t16 =>
    (binX .lss .no t3 t16) |> bo fun t17 =>
    brX t17
      (
        (nilX t0) |> bo fun t21 =>
        (fadX 0 t21) |> bo fun t22 =>
        (ld1 m t22) |> bo fun t23 =>
        (ixaX 2 t23 t3) |> bo fun t25 =>
        (ldS m 2 t25) |> bo fun t26 =>
        (alX m [.int .i64 0, .int .i64 0]) |> bo fun r11 =>
        (stX r11.2 2 r11.1 t26) |> bo fun m12 =>
        (fadX 0 r11.1) |> bo fun t27 =>
        (ld1 m12 t27) |> bo fun t28 =>
        (C_spec_l1In [t28, (.int .i64 1), (.int .i64 40)] m12) |> bo fun r15 =>
        (uop .not r15.1) |> bo fun t30 =>
        (gd t30 false ((fadX 1 r11.1) |> bo fun v => some (v, r15.2)) r15.2) |> bo fun r17 =>
        (gd t30 false ((ld1 r17.2 r17.1) |> bo fun v => some (v, r17.2)) r17.2) |> bo fun r18 =>
        (gd t30 false ((binX .neq .no r18.1 (.int .i64 1)) |> bo fun v => some (v, r18.2)) r18.2) |> bo fun r19 =>
        (gd t30 false (some (r19.1, r19.2)) r19.2) |> bo fun r20 =>
        (gd r20.1 true ((fadX 1 r11.1) |> bo fun v => some (v, r20.2)) r20.2) |> bo fun r21 =>
        (gd r20.1 true ((ld1 r21.2 r21.1) |> bo fun v => some (v, r21.2)) r21.2) |> bo fun r22 =>
        (gd r20.1 true ((binX .neq .no r22.1 (.int .i64 2)) |> bo fun v => some (v, r22.2)) r22.2) |> bo fun r23 =>
        (gd t30 false ((pickX r20.1 r23.1 (.bool false)) |> bo fun v => some (v, r23.2)) r23.2) |> bo fun r24 =>
        (gd t30 false (some (r24.1, r24.2)) r24.2) |> bo fun r25 =>
        (gd r25.1 true ((fadX 1 r11.1) |> bo fun v => some (v, r25.2)) r25.2) |> bo fun r26 =>
        (gd r25.1 true ((ld1 r26.2 r26.1) |> bo fun v => some (v, r26.2)) r26.2) |> bo fun r27 =>
        (gd r25.1 true ((binX .neq .no r27.1 (.int .i64 4)) |> bo fun v => some (v, r27.2)) r27.2) |> bo fun r28 =>
        (gd t30 false ((pickX r25.1 r28.1 (.bool false)) |> bo fun v => some (v, r28.2)) r28.2) |> bo fun r29 =>
        (pickX t30 (.bool true) r29.1) |> bo fun t45 =>
        (gd t45 false (some (t3, r29.2)) r29.2) |> bo fun r31 =>
        (gd t45 false ((binX .gtr .no r31.1 (.int .i64 0)) |> bo fun v => some (v, r31.2)) r31.2) |> bo fun r32 =>
        (gd t45 false (some (r32.1, r32.2)) r32.2) |> bo fun r33 =>
        (gd r33.1 true ((fadX 0 r11.1) |> bo fun v => some (v, r33.2)) r33.2) |> bo fun r34 =>
        (gd r33.1 true ((ld1 r34.2 r34.1) |> bo fun v => some (v, r34.2)) r34.2) |> bo fun r35 =>
        (gd r33.1 true (some (t0, r35.2)) r35.2) |> bo fun r36 =>
        (gd r33.1 true ((nilX r36.1) |> bo fun v => some (v, r36.2)) r36.2) |> bo fun r37 =>
        (gd r33.1 true ((fadX 0 r37.1) |> bo fun v => some (v, r37.2)) r37.2) |> bo fun r38 =>
        (gd r33.1 true ((ld1 r38.2 r38.1) |> bo fun v => some (v, r38.2)) r38.2) |> bo fun r39 =>
        (gd r33.1 true (some (t3, r39.2)) r39.2) |> bo fun r40 =>
        (gd r33.1 true ((binX .sub .no r40.1 (.int .i64 1)) |> bo fun v => some (v, r40.2)) r40.2) |> bo fun r41 =>
        (gd r33.1 true ((ixaX 2 r39.1 r41.1) |> bo fun v => some (v, r41.2)) r41.2) |> bo fun r42 =>
        (gd r33.1 true ((fadX 0 r42.1) |> bo fun v => some (v, r42.2)) r42.2) |> bo fun r43 =>
        (gd r33.1 true ((ld1 r43.2 r43.1) |> bo fun v => some (v, r43.2)) r43.2) |> bo fun r44 =>
        (gd r33.1 true ((binX .leq .no r35.1 r44.1) |> bo fun v => some (v, r44.2)) r44.2) |> bo fun r45 =>
        (gd t45 false ((pickX r33.1 r45.1 (.bool false)) |> bo fun v => some (v, r45.2)) r45.2) |> bo fun r46 =>
        (pickX t45 (.bool true) r46.1) |> bo fun t63 =>
        brX t63
          (
            retK k r46.2 [t0] (.int .i64 3))
          (
            (binX .add .no t3 (.int .i64 1)) |> bo fun t19 =>
            cutK k r46.2 [t0] [t0, t19] (L_spec_l9Fault k q 0)))
      (
        (nilX t0) |> bo fun t65 =>
        (fadX 2 t65) |> bo fun t66 =>
        (ld1 m t66) |> bo fun t67 =>
        (C_spec_l1In [t67, (.int .i64 0), (.int .i64 3)] m) |> bo fun r52 =>
        (uop .not r52.1) |> bo fun t69 =>
        brX t69
          (
            retK k r52.2 [t0] (.int .i64 3))
          (
            retK k r52.2 [t0] (.int .i64 0)))
  | _, _, _, _ => none
noncomputable def J_spec_l9Fault (k q l : Nat) : List Value → Mem → Option VM := cond (Nat.beq l 4) (L_spec_l9Fault k q 0) (fun _ _ => none)
def LL_spec_l9Fault : List (Nat × List Tmp) := [(4, [0, 3])]
noncomputable def X_spec_l9Fault : List Value → Mem → Option VM
  | [t0], m =>
    (nilX t0) |> bo fun t6 =>
    (fadX 0 t6) |> bo fun t7 =>
    (ld1 m t7) |> bo fun t8 =>
    (lenX t8) |> bo fun t9 =>
    (binX .gtr .no t9 (.int .i64 4)) |> bo fun t10 =>
    brX t10
      (
        retK m.length m [t0] (.int .i64 2))
      (
        cutK m.length m [t0] [t0, (.int .i64 0)] (L_spec_l9Fault m.length QQ 0))
  | _, _ => none
noncomputable def C_spec_l9Fault : List Value → Mem → Option VM := fcall X_spec_l9Fault
@[simp] theorem c_spec_l9Fault : C_spec_l9Fault = fcall X_spec_l9Fault := (rfl)
theorem cok_spec_l9Fault : codeOk CT Try.f118 (Try.f118.body.get rfl) = true := by kernel_rfl
theorem xe_spec_l9Fault (t0 : Value) (m : Mem) : ex CT cf_spec_l9Fault Try.f118 1 m.length LL_spec_l9Fault (J_spec_l9Fault m.length QQ) 400 [.code (Try.f118.body.get rfl)] (argsT 0 [t0]) m = X_spec_l9Fault [t0] m := by kernel_rfl
theorem okc_spec_l9Fault : CallOK CT cf_spec_l9Fault := cfc_ok ok_C_spec_l1In cfn_ok
theorem le_spec_l9Fault_0 (k q : Nat) (t0 t3 : Value) (m : Mem) : ex CT cf_spec_l9Fault Try.f118 1 k LL_spec_l9Fault (J_spec_l9Fault k q) 400 (atLoop Try.f118 0) [(0, t0), (3, t3)] m = J_spec_l9Fault k (q + 1) 4 [t0, t3] m := by kernel_rfl
theorem gl_spec_l9Fault (k : Nat) : ∀ q i, i < 1 → GoodL CT k Try.f118 LL_spec_l9Fault (J_spec_l9Fault k q) (atLoop Try.f118 i)
  | 0, 0, _ => goodL_zero (l := 4) (by kernel_rfl) (fun vs m => by kernel_rfl)
  | 0, _ + 1, h => absurd h (by omega)
  | q + 1, 0, _ => goodL_succ (np := 1) (l := 4) (live := [0, 3]) (n := 1) CT_ok rfl okc_spec_l9Fault (c := (Try.f118.body.get rfl)) rfl cok_spec_l9Fault (by kernel_rfl) (gl_spec_l9Fault k q) (by kernel_rfl) rfl (fun vs m r hl h => match vs, hl with
    | [t0, t3], _ => (le_spec_l9Fault_0 k q t0 t3 m).trans h)
  | _ + 1, _ + 1, h => absurd h (by omega)
theorem ok_X_spec_l9Fault : OkX CT 118 X_spec_l9Fault := OkX.of_ex (cf := cf_spec_l9Fault) (np := 1) (LL := LL_spec_l9Fault) (J := (fun k => J_spec_l9Fault k QQ)) CT_ok rfl Try.func118 rfl (Nat.le_of_ble_eq_true rfl) (by decide) cok_spec_l9Fault okc_spec_l9Fault (fun k => allLoops rfl (by kernel_rfl) (gl_spec_l9Fault k QQ)) (fun args m r h => match args, h with
    | [t0], h => ⟨rfl, (xe_spec_l9Fault t0 m).trans h⟩)
theorem ok_C_spec_l9Fault : OkC CT 118 C_spec_l9Fault := fcall_ok rfl ok_X_spec_l9Fault

/-! ### spec.l9Copy -/
noncomputable def cf_spec_l9Copy : CallF := cfn
noncomputable def X_spec_l9Copy : List Value → Mem → Option VM
  | [t0], m =>
    (boxX m t0) |> bo fun r1 =>
    (alX r1.2 [.slice none 0 0, .bool false, .int .i64 0]) |> bo fun r2 =>
    (bslX r2.2 0 2 [.int .i64 0, .int .i64 0] []) |> bo fun r3 =>
    (fadX 0 r1.1) |> bo fun t4 =>
    (ld1 r3.2 t4) |> bo fun t5 =>
    (apL r3.2 2 16 r3.1 t5) |> bo fun r6 =>
    (fadX 0 r1.1) |> bo fun t7 =>
    (stX r6.2 1 t7 r6.1) |> bo fun m8 =>
    (ldS m8 3 r1.1) |> bo fun t8 =>
    (stX m8 3 r2.1 t8) |> bo fun m10 =>
    (resP (some 3) m10 r2.1) |> bo fun c11 =>
    retK m.length m10 [t0] c11
  | _, _ => none
noncomputable def C_spec_l9Copy : List Value → Mem → Option VM := fcall X_spec_l9Copy
@[simp] theorem c_spec_l9Copy : C_spec_l9Copy = fcall X_spec_l9Copy := (rfl)
theorem cok_spec_l9Copy : codeOk CT Try.f120 (Try.f120.body.get rfl) = true := by kernel_rfl
theorem xe_spec_l9Copy (t0 : Value) (m : Mem) : ex CT cf_spec_l9Copy Try.f120 1 m.length [] (fun _ _ _ => none) 400 [.code (Try.f120.body.get rfl)] (argsT 0 [t0]) m = X_spec_l9Copy [t0] m := by kernel_rfl
theorem okc_spec_l9Copy : CallOK CT cf_spec_l9Copy := cfn_ok
theorem ok_X_spec_l9Copy : OkX CT 120 X_spec_l9Copy := OkX.of_ex (cf := cf_spec_l9Copy) (np := 1) (LL := []) (J := (fun _ _ _ _ => none)) CT_ok rfl Try.func120 rfl (Nat.le_of_ble_eq_true rfl) (by decide) cok_spec_l9Copy okc_spec_l9Copy (fun k => noLoops rfl) (fun args m r h => match args, h with
    | [t0], h => ⟨rfl, (xe_spec_l9Copy t0 m).trans h⟩)
theorem ok_C_spec_l9Copy : OkC CT 120 C_spec_l9Copy := fcall_ok rfl ok_X_spec_l9Copy

/-! ### spec.l9Less -/
noncomputable def cf_spec_l9Less : CallF := cfn
noncomputable def L_spec_l9Less (k : Nat) : Nat → Nat → List Value → Mem → Option VM
  | q + 1, 0, [t0, t1, t5, t6], m =>
    (lenX t0) |> bo fun t10 =>
    (binX .lss .no t6 t10) |> bo fun t11 =>
    brX t11
      (
        (ixaX 2 t0 t6) |> bo fun t16 =>
        (fadX 0 t16) |> bo fun t17 =>
        (ld1 m t17) |> bo fun t18 =>
        (binX .neq .no t18 t1) |> bo fun t20 =>
        brX t20
          (
            (ixaX 2 t0 t6) |> bo fun t24 =>
            (ldS m 2 t24) |> bo fun t25 =>
            (bslX m 1 2 [.int .i64 0, .int .i64 0] [(0, 2, t25)]) |> bo fun r9 =>
            (apL r9.2 2 16 t5 r9.1) |> bo fun r10 =>
            (binX .add .no t6 (.int .i64 1)) |> bo fun t13 =>
            cutK k r10.2 [t0, t1] [t0, t1, r10.1, t13] (L_spec_l9Less k q 0))
          (
            (binX .add .no t6 (.int .i64 1)) |> bo fun t13 =>
            cutK k m [t0, t1] [t0, t1, t5, t13] (L_spec_l9Less k q 0)))
      (
        retK k m [t0, t1] t5)
  | _, _, _, _ => none
noncomputable def J_spec_l9Less (k q l : Nat) : List Value → Mem → Option VM := cond (Nat.beq l 3) (L_spec_l9Less k q 0) (fun _ _ => none)
def LL_spec_l9Less : List (Nat × List Tmp) := [(3, [0, 1, 5, 6])]
noncomputable def X_spec_l9Less : List Value → Mem → Option VM
  | [t0, t1], m =>
    (bslX m 0 2 [.int .i64 0, .int .i64 0] []) |> bo fun r1 =>
    cutK m.length r1.2 [t0, t1] [t0, t1, r1.1, (.int .i64 0)] (L_spec_l9Less m.length QQ 0)
  | _, _ => none
noncomputable def C_spec_l9Less : List Value → Mem → Option VM := fcall X_spec_l9Less
@[simp] theorem c_spec_l9Less : C_spec_l9Less = fcall X_spec_l9Less := (rfl)
theorem cok_spec_l9Less : codeOk CT Try.f121 (Try.f121.body.get rfl) = true := by kernel_rfl
theorem xe_spec_l9Less (t0 t1 : Value) (m : Mem) : ex CT cf_spec_l9Less Try.f121 2 m.length LL_spec_l9Less (J_spec_l9Less m.length QQ) 400 [.code (Try.f121.body.get rfl)] (argsT 0 [t0, t1]) m = X_spec_l9Less [t0, t1] m := by kernel_rfl
theorem okc_spec_l9Less : CallOK CT cf_spec_l9Less := cfn_ok
theorem le_spec_l9Less_0 (k q : Nat) (t0 t1 t5 t6 : Value) (m : Mem) : ex CT cf_spec_l9Less Try.f121 2 k LL_spec_l9Less (J_spec_l9Less k q) 400 (atLoop Try.f121 0) [(0, t0), (1, t1), (5, t5), (6, t6)] m = J_spec_l9Less k (q + 1) 3 [t0, t1, t5, t6] m := by kernel_rfl
theorem gl_spec_l9Less (k : Nat) : ∀ q i, i < 1 → GoodL CT k Try.f121 LL_spec_l9Less (J_spec_l9Less k q) (atLoop Try.f121 i)
  | 0, 0, _ => goodL_zero (l := 3) (by kernel_rfl) (fun vs m => by kernel_rfl)
  | 0, _ + 1, h => absurd h (by omega)
  | q + 1, 0, _ => goodL_succ (np := 2) (l := 3) (live := [0, 1, 5, 6]) (n := 1) CT_ok rfl okc_spec_l9Less (c := (Try.f121.body.get rfl)) rfl cok_spec_l9Less (by kernel_rfl) (gl_spec_l9Less k q) (by kernel_rfl) rfl (fun vs m r hl h => match vs, hl with
    | [t0, t1, t5, t6], _ => (le_spec_l9Less_0 k q t0 t1 t5 t6 m).trans h)
  | _ + 1, _ + 1, h => absurd h (by omega)
theorem ok_X_spec_l9Less : OkX CT 121 X_spec_l9Less := OkX.of_ex (cf := cf_spec_l9Less) (np := 2) (LL := LL_spec_l9Less) (J := (fun k => J_spec_l9Less k QQ)) CT_ok rfl Try.func121 rfl (Nat.le_of_ble_eq_true rfl) (by decide) cok_spec_l9Less okc_spec_l9Less (fun k => allLoops rfl (by kernel_rfl) (gl_spec_l9Less k QQ)) (fun args m r h => match args, h with
    | [t0, t1], h => ⟨rfl, (xe_spec_l9Less t0 t1 m).trans h⟩)
theorem ok_C_spec_l9Less : OkC CT 121 C_spec_l9Less := fcall_ok rfl ok_X_spec_l9Less

/-! ### spec.LiftKey -/
noncomputable def cf_spec_LiftKey : CallF := cfc 118 C_spec_l9Fault (cfc 119 C_spec_l1In (cfc 120 C_spec_l9Copy (cfc 121 C_spec_l9Less cfn)))
noncomputable def X_spec_LiftKey : List Value → Mem → Option VM
  | [t0, t1], m =>
    (boxX m t0) |> bo fun r1 =>
    (alX r1.2 [.int .i64 0, .slice none 0 0, .int .i64 0, .slice none 0 0, .bool false, .int .i64 0]) |> bo fun r2 =>
    (C_spec_l9Fault [r1.1] r2.2) |> bo fun r3 =>
    (binX .neq .no r3.1 (.int .i64 0)) |> bo fun t9 =>
    brX t9
      (
        (bldX [.int .i64 0, .slice none 0 0, .int .i64 0, .slice none 0 0, .bool false, .int .i64 0] [(0, 1, r3.1)]) |> bo fun t11 =>
        (stX r3.2 6 r2.1 t11) |> bo fun m6 =>
        (resP (some 6) m6 r2.1) |> bo fun c7 =>
        retK m.length m6 [t0, t1] c7)
      (
        (C_spec_l1In [t1, (.int .i64 1), (.int .i64 40)] r3.2) |> bo fun r8 =>
        (uop .not r8.1) |> bo fun t14 =>
        brX t14
          (
            (bldX [.int .i64 0, .slice none 0 0, .int .i64 0, .slice none 0 0, .bool false, .int .i64 0] [(0, 1, (.int .i64 3))]) |> bo fun t15 =>
            (stX r8.2 6 r2.1 t15) |> bo fun m11 =>
            (resP (some 6) m11 r2.1) |> bo fun c12 =>
            retK m.length m11 [t0, t1] c12)
          (
            (ldS r8.2 3 r1.1) |> bo fun t16 =>
            (C_spec_l9Copy [t16] r8.2) |> bo fun r14 =>
            (bldX [.int .i64 0, .slice none 0 0, .int .i64 0, .slice none 0 0, .bool false, .int .i64 0] [(3, 3, r14.1)]) |> bo fun t18 =>
            (alX r14.2 [.int .i64 0, .slice none 0 0, .int .i64 0, .slice none 0 0, .bool false, .int .i64 0]) |> bo fun r16 =>
            (stX r16.2 6 r16.1 t18) |> bo fun m17 =>
            (fadX 0 r1.1) |> bo fun t19 =>
            (ld1 m17 t19) |> bo fun t20 =>
            (C_spec_l9Less [t20, t1] m17) |> bo fun r20 =>
            (fadX 3 r16.1) |> bo fun t23 =>
            (fadX 0 t23) |> bo fun t24 =>
            (stX r20.2 1 t24 r20.1) |> bo fun m23 =>
            (ldS m23 6 r16.1) |> bo fun t25 =>
            (stX m23 6 r2.1 t25) |> bo fun m25 =>
            (resP (some 6) m25 r2.1) |> bo fun c26 =>
            retK m.length m25 [t0, t1] c26))
  | _, _ => none
noncomputable def C_spec_LiftKey : List Value → Mem → Option VM := fcall X_spec_LiftKey
@[simp] theorem c_spec_LiftKey : C_spec_LiftKey = fcall X_spec_LiftKey := (rfl)
theorem cok_spec_LiftKey : codeOk CT Try.f43 (Try.f43.body.get rfl) = true := by kernel_rfl
theorem xe_spec_LiftKey (t0 t1 : Value) (m : Mem) : ex CT cf_spec_LiftKey Try.f43 2 m.length [] (fun _ _ _ => none) 400 [.code (Try.f43.body.get rfl)] (argsT 0 [t0, t1]) m = X_spec_LiftKey [t0, t1] m := by kernel_rfl
theorem okc_spec_LiftKey : CallOK CT cf_spec_LiftKey := cfc_ok ok_C_spec_l9Fault (cfc_ok ok_C_spec_l1In (cfc_ok ok_C_spec_l9Copy (cfc_ok ok_C_spec_l9Less cfn_ok)))
theorem ok_X_spec_LiftKey : OkX CT 43 X_spec_LiftKey := OkX.of_ex (cf := cf_spec_LiftKey) (np := 2) (LL := []) (J := (fun _ _ _ _ => none)) CT_ok rfl Try.func43 rfl (Nat.le_of_ble_eq_true rfl) (by decide) cok_spec_LiftKey okc_spec_LiftKey (fun k => noLoops rfl) (fun args m r h => match args, h with
    | [t0, t1], h => ⟨rfl, (xe_spec_LiftKey t0 t1 m).trans h⟩)
theorem ok_C_spec_LiftKey : OkC CT 43 C_spec_LiftKey := fcall_ok rfl ok_X_spec_LiftKey

/-! ### laws.toHold -/
noncomputable def cf_laws_toHold : CallF := cfn
noncomputable def X_laws_toHold : List Value → Mem → Option VM
  | [t0], m =>
    (boxX m t0) |> bo fun r1 =>
    (alX r1.2 [.int .i64 0, .int .i64 0]) |> bo fun r2 =>
    (alX r2.2 [.int .i64 0, .int .i64 0]) |> bo fun r3 =>
    (fadX 0 r1.1) |> bo fun t4 =>
    (ld1 r3.2 t4) |> bo fun t5 =>
    (fadX 0 r3.1) |> bo fun t6 =>
    (stX r3.2 1 t6 t5) |> bo fun m7 =>
    (fadX 1 r1.1) |> bo fun t7 =>
    (ld1 m7 t7) |> bo fun t8 =>
    (fadX 1 r3.1) |> bo fun t9 =>
    (stX m7 1 t9 t8) |> bo fun m11 =>
    (ldS m11 2 r3.1) |> bo fun t10 =>
    (stX m11 2 r2.1 t10) |> bo fun m13 =>
    (resP (some 2) m13 r2.1) |> bo fun c14 =>
    retK m.length m13 [t0] c14
  | _, _ => none
noncomputable def C_laws_toHold : List Value → Mem → Option VM := fcall X_laws_toHold
@[simp] theorem c_laws_toHold : C_laws_toHold = fcall X_laws_toHold := (rfl)
theorem cok_laws_toHold : codeOk CT Try.f164 (Try.f164.body.get rfl) = true := by kernel_rfl
theorem xe_laws_toHold (t0 : Value) (m : Mem) : ex CT cf_laws_toHold Try.f164 1 m.length [] (fun _ _ _ => none) 400 [.code (Try.f164.body.get rfl)] (argsT 0 [t0]) m = X_laws_toHold [t0] m := by kernel_rfl
theorem okc_laws_toHold : CallOK CT cf_laws_toHold := cfn_ok
theorem ok_X_laws_toHold : OkX CT 164 X_laws_toHold := OkX.of_ex (cf := cf_laws_toHold) (np := 1) (LL := []) (J := (fun _ _ _ _ => none)) CT_ok rfl Try.func164 rfl (Nat.le_of_ble_eq_true rfl) (by decide) cok_laws_toHold okc_laws_toHold (fun k => noLoops rfl) (fun args m r h => match args, h with
    | [t0], h => ⟨rfl, (xe_laws_toHold t0 m).trans h⟩)
theorem ok_C_laws_toHold : OkC CT 164 C_laws_toHold := fcall_ok rfl ok_X_laws_toHold

/-! ### laws.toHoldS -/
noncomputable def cf_laws_toHoldS : CallF := cfc 164 C_laws_toHold cfn
noncomputable def L_laws_toHoldS (k : Nat) : Nat → Nat → List Value → Mem → Option VM
  | q + 1, 0, [t0, t3, t4], m =>
    (lenX t0) |> bo fun t10 =>
    (binX .lss .no t4 t10) |> bo fun t11 =>
    brX t11
      (
        (ixaX 2 t0 t4) |> bo fun t18 =>
        (ldS m 2 t18) |> bo fun t19 =>
        (C_laws_toHold [t19] m) |> bo fun r5 =>
        (ixaX 2 t3 t4) |> bo fun t21 =>
        (stX r5.2 2 t21 r5.1) |> bo fun m7 =>
        (binX .add .no t4 (.int .i64 1)) |> bo fun t13 =>
        cutK k m7 [t0] [t0, t3, t13] (L_laws_toHoldS k q 0))
      (
        retK k m [t0] t3)
  | _, _, _, _ => none
noncomputable def J_laws_toHoldS (k q l : Nat) : List Value → Mem → Option VM := cond (Nat.beq l 3) (L_laws_toHoldS k q 0) (fun _ _ => none)
def LL_laws_toHoldS : List (Nat × List Tmp) := [(3, [0, 3, 4])]
noncomputable def X_laws_toHoldS : List Value → Mem → Option VM
  | [t0], m =>
    (lenX t0) |> bo fun t6 =>
    (mkX m 2 16 [.int .i64 0, .int .i64 0] t6 t6) |> bo fun r2 =>
    cutK m.length r2.2 [t0] [t0, r2.1, (.int .i64 0)] (L_laws_toHoldS m.length QQ 0)
  | _, _ => none
noncomputable def C_laws_toHoldS : List Value → Mem → Option VM := fcall X_laws_toHoldS
@[simp] theorem c_laws_toHoldS : C_laws_toHoldS = fcall X_laws_toHoldS := (rfl)
theorem cok_laws_toHoldS : codeOk CT Try.f122 (Try.f122.body.get rfl) = true := by kernel_rfl
theorem xe_laws_toHoldS (t0 : Value) (m : Mem) : ex CT cf_laws_toHoldS Try.f122 1 m.length LL_laws_toHoldS (J_laws_toHoldS m.length QQ) 400 [.code (Try.f122.body.get rfl)] (argsT 0 [t0]) m = X_laws_toHoldS [t0] m := by kernel_rfl
theorem okc_laws_toHoldS : CallOK CT cf_laws_toHoldS := cfc_ok ok_C_laws_toHold cfn_ok
theorem le_laws_toHoldS_0 (k q : Nat) (t0 t3 t4 : Value) (m : Mem) : ex CT cf_laws_toHoldS Try.f122 1 k LL_laws_toHoldS (J_laws_toHoldS k q) 400 (atLoop Try.f122 0) [(0, t0), (3, t3), (4, t4)] m = J_laws_toHoldS k (q + 1) 3 [t0, t3, t4] m := by kernel_rfl
theorem gl_laws_toHoldS (k : Nat) : ∀ q i, i < 1 → GoodL CT k Try.f122 LL_laws_toHoldS (J_laws_toHoldS k q) (atLoop Try.f122 i)
  | 0, 0, _ => goodL_zero (l := 3) (by kernel_rfl) (fun vs m => by kernel_rfl)
  | 0, _ + 1, h => absurd h (by omega)
  | q + 1, 0, _ => goodL_succ (np := 1) (l := 3) (live := [0, 3, 4]) (n := 1) CT_ok rfl okc_laws_toHoldS (c := (Try.f122.body.get rfl)) rfl cok_laws_toHoldS (by kernel_rfl) (gl_laws_toHoldS k q) (by kernel_rfl) rfl (fun vs m r hl h => match vs, hl with
    | [t0, t3, t4], _ => (le_laws_toHoldS_0 k q t0 t3 t4 m).trans h)
  | _ + 1, _ + 1, h => absurd h (by omega)
theorem ok_X_laws_toHoldS : OkX CT 122 X_laws_toHoldS := OkX.of_ex (cf := cf_laws_toHoldS) (np := 1) (LL := LL_laws_toHoldS) (J := (fun k => J_laws_toHoldS k QQ)) CT_ok rfl Try.func122 rfl (Nat.le_of_ble_eq_true rfl) (by decide) cok_laws_toHoldS okc_laws_toHoldS (fun k => allLoops rfl (by kernel_rfl) (gl_laws_toHoldS k QQ)) (fun args m r h => match args, h with
    | [t0], h => ⟨rfl, (xe_laws_toHoldS t0 m).trans h⟩)
theorem ok_C_laws_toHoldS : OkC CT 122 C_laws_toHoldS := fcall_ok rfl ok_X_laws_toHoldS

/-! ### laws.toKeyboard -/
noncomputable def cf_laws_toKeyboard : CallF := cfc 122 C_laws_toHoldS cfn
noncomputable def X_laws_toKeyboard : List Value → Mem → Option VM
  | [t0], m =>
    (boxX m t0) |> bo fun r1 =>
    (alX r1.2 [.slice none 0 0, .bool false, .int .i64 0]) |> bo fun r2 =>
    (alX r2.2 [.slice none 0 0, .bool false, .int .i64 0]) |> bo fun r3 =>
    (fadX 0 r1.1) |> bo fun t4 =>
    (ld1 r3.2 t4) |> bo fun t5 =>
    (C_laws_toHoldS [t5] r3.2) |> bo fun r6 =>
    (fadX 0 r3.1) |> bo fun t7 =>
    (stX r6.2 1 t7 r6.1) |> bo fun m8 =>
    (fadX 1 r1.1) |> bo fun t8 =>
    (ld1 m8 t8) |> bo fun t9 =>
    (fadX 1 r3.1) |> bo fun t10 =>
    (stX m8 1 t10 t9) |> bo fun m12 =>
    (fadX 2 r1.1) |> bo fun t11 =>
    (ld1 m12 t11) |> bo fun t12 =>
    (fadX 2 r3.1) |> bo fun t13 =>
    (stX m12 1 t13 t12) |> bo fun m16 =>
    (ldS m16 3 r3.1) |> bo fun t14 =>
    (stX m16 3 r2.1 t14) |> bo fun m18 =>
    (resP (some 3) m18 r2.1) |> bo fun c19 =>
    retK m.length m18 [t0] c19
  | _, _ => none
noncomputable def C_laws_toKeyboard : List Value → Mem → Option VM := fcall X_laws_toKeyboard
@[simp] theorem c_laws_toKeyboard : C_laws_toKeyboard = fcall X_laws_toKeyboard := (rfl)
theorem cok_laws_toKeyboard : codeOk CT Try.f44 (Try.f44.body.get rfl) = true := by kernel_rfl
theorem xe_laws_toKeyboard (t0 : Value) (m : Mem) : ex CT cf_laws_toKeyboard Try.f44 1 m.length [] (fun _ _ _ => none) 400 [.code (Try.f44.body.get rfl)] (argsT 0 [t0]) m = X_laws_toKeyboard [t0] m := by kernel_rfl
theorem okc_laws_toKeyboard : CallOK CT cf_laws_toKeyboard := cfc_ok ok_C_laws_toHoldS cfn_ok
theorem ok_X_laws_toKeyboard : OkX CT 44 X_laws_toKeyboard := OkX.of_ex (cf := cf_laws_toKeyboard) (np := 1) (LL := []) (J := (fun _ _ _ _ => none)) CT_ok rfl Try.func44 rfl (Nat.le_of_ble_eq_true rfl) (by decide) cok_laws_toKeyboard okc_laws_toKeyboard (fun k => noLoops rfl) (fun args m r h => match args, h with
    | [t0], h => ⟨rfl, (xe_laws_toKeyboard t0 m).trans h⟩)
theorem ok_C_laws_toKeyboard : OkC CT 44 C_laws_toKeyboard := fcall_ok rfl ok_X_laws_toKeyboard

/-! ### impl.first -/
noncomputable def cf_impl_first : CallF := cfn
noncomputable def L_impl_first (k : Nat) : Nat → Nat → List Value → Mem → Option VM
  | q + 1, 0, [t5, t6, t7], m =>
    (binX .lss .no t7 t6) |> bo fun t8 =>
    brX t8
      (
        (ixaX 1 t5 t7) |> bo fun t9 =>
        (ld1 m t9) |> bo fun t10 =>
        (binX .neq .no t10 (.int .i64 0)) |> bo fun t12 =>
        brX t12
          (
            retK k m [] t10)
          (
            (binX .add .no t7 (.int .i64 1)) |> bo fun t14 =>
            cutK k m [] [t5, t6, t14] (L_impl_first k q 0)))
      (
        retK k m [] (.int .i64 0))
  | _, _, _, _ => none
noncomputable def J_impl_first (k q l : Nat) : List Value → Mem → Option VM := cond (Nat.beq l 2) (L_impl_first k q 0) (fun _ _ => none)
def LL_impl_first : List (Nat × List Tmp) := [(2, [5, 6, 7])]
noncomputable def X_impl_first : List Value → Mem → Option VM
  | [t0], m =>
    (lenX t0) |> bo fun t6 =>
    cutK m.length m [t0] [t0, t6, (.int .i64 0)] (L_impl_first m.length QQ 0)
  | _, _ => none
noncomputable def C_impl_first : List Value → Mem → Option VM := fcall X_impl_first
@[simp] theorem c_impl_first : C_impl_first = fcall X_impl_first := (rfl)
theorem cok_impl_first : codeOk CT Try.f88 (Try.f88.body.get rfl) = true := by kernel_rfl
theorem xe_impl_first (t0 : Value) (m : Mem) : ex CT cf_impl_first Try.f88 1 m.length LL_impl_first (J_impl_first m.length QQ) 400 [.code (Try.f88.body.get rfl)] (argsT 0 [t0]) m = X_impl_first [t0] m := by kernel_rfl
theorem okc_impl_first : CallOK CT cf_impl_first := cfn_ok
theorem le_impl_first_0 (k q : Nat) (t5 t6 t7 : Value) (m : Mem) : ex CT cf_impl_first Try.f88 1 k LL_impl_first (J_impl_first k q) 400 (atLoop Try.f88 0) [(5, t5), (6, t6), (7, t7)] m = J_impl_first k (q + 1) 2 [t5, t6, t7] m := by kernel_rfl
theorem gl_impl_first (k : Nat) : ∀ q i, i < 1 → GoodL CT k Try.f88 LL_impl_first (J_impl_first k q) (atLoop Try.f88 i)
  | 0, 0, _ => goodL_zero (l := 2) (by kernel_rfl) (fun vs m => by kernel_rfl)
  | 0, _ + 1, h => absurd h (by omega)
  | q + 1, 0, _ => goodL_succ (np := 1) (l := 2) (live := [5, 6, 7]) (n := 1) CT_ok rfl okc_impl_first (c := (Try.f88.body.get rfl)) rfl cok_impl_first (by kernel_rfl) (gl_impl_first k q) (by kernel_rfl) rfl (fun vs m r hl h => match vs, hl with
    | [t5, t6, t7], _ => (le_impl_first_0 k q t5 t6 t7 m).trans h)
  | _ + 1, _ + 1, h => absurd h (by omega)
theorem ok_X_impl_first : OkX CT 88 X_impl_first := OkX.of_ex (cf := cf_impl_first) (np := 1) (LL := LL_impl_first) (J := (fun k => J_impl_first k QQ)) CT_ok rfl Try.func88 rfl (Nat.le_of_ble_eq_true rfl) (by decide) cok_impl_first okc_impl_first (fun k => allLoops rfl (by kernel_rfl) (gl_impl_first k QQ)) (fun args m r h => match args, h with
    | [t0], h => ⟨rfl, (xe_impl_first t0 m).trans h⟩)
theorem ok_C_impl_first : OkC CT 88 C_impl_first := fcall_ok rfl ok_X_impl_first

/-! ### impl.unless -/
noncomputable def cf_impl_unless : CallF := cfn
noncomputable def X_impl_unless : List Value → Mem → Option VM
  | [t0, t1], m =>
    brX t0
      (
        retK m.length m [t0, t1] (.int .i64 0))
      (
        retK m.length m [t0, t1] t1)
  | _, _ => none
noncomputable def C_impl_unless : List Value → Mem → Option VM := fcall X_impl_unless
@[simp] theorem c_impl_unless : C_impl_unless = fcall X_impl_unless := (rfl)
theorem cok_impl_unless : codeOk CT Try.f89 (Try.f89.body.get rfl) = true := by kernel_rfl
theorem xe_impl_unless (t0 t1 : Value) (m : Mem) : ex CT cf_impl_unless Try.f89 2 m.length [] (fun _ _ _ => none) 400 [.code (Try.f89.body.get rfl)] (argsT 0 [t0, t1]) m = X_impl_unless [t0, t1] m := by kernel_rfl
theorem okc_impl_unless : CallOK CT cf_impl_unless := cfn_ok
theorem ok_X_impl_unless : OkX CT 89 X_impl_unless := OkX.of_ex (cf := cf_impl_unless) (np := 2) (LL := []) (J := (fun _ _ _ _ => none)) CT_ok rfl Try.func89 rfl (Nat.le_of_ble_eq_true rfl) (by decide) cok_impl_unless okc_impl_unless (fun k => noLoops rfl) (fun args m r h => match args, h with
    | [t0, t1], h => ⟨rfl, (xe_impl_unless t0 t1 m).trans h⟩)
theorem ok_C_impl_unless : OkC CT 89 C_impl_unless := fcall_ok rfl ok_X_impl_unless

/-! ### impl.in -/
noncomputable def cf_impl_in : CallF := cfn
noncomputable def X_impl_in : List Value → Mem → Option VM
  | [t0, t1, t2], m =>
    (binX .leq .no t1 t0) |> bo fun t9 =>
    (gd t9 true (some (t0, m)) m) |> bo fun r2 =>
    (gd t9 true (some (t2, r2.2)) r2.2) |> bo fun r3 =>
    (gd t9 true ((binX .leq .no r2.1 r3.1) |> bo fun v => some (v, r3.2)) r3.2) |> bo fun r4 =>
    (pickX t9 r4.1 (.bool false)) |> bo fun t14 =>
    retK m.length r4.2 [t0, t1, t2] t14
  | _, _ => none
noncomputable def C_impl_in : List Value → Mem → Option VM := fcall X_impl_in
@[simp] theorem c_impl_in : C_impl_in = fcall X_impl_in := (rfl)
theorem cok_impl_in : codeOk CT Try.f99 (Try.f99.body.get rfl) = true := by kernel_rfl
theorem xe_impl_in (t0 t1 t2 : Value) (m : Mem) : ex CT cf_impl_in Try.f99 3 m.length [] (fun _ _ _ => none) 400 [.code (Try.f99.body.get rfl)] (argsT 0 [t0, t1, t2]) m = X_impl_in [t0, t1, t2] m := by kernel_rfl
theorem okc_impl_in : CallOK CT cf_impl_in := cfn_ok
theorem ok_X_impl_in : OkX CT 99 X_impl_in := OkX.of_ex (cf := cf_impl_in) (np := 3) (LL := []) (J := (fun _ _ _ _ => none)) CT_ok rfl Try.func99 rfl (Nat.le_of_ble_eq_true rfl) (by decide) cok_impl_in okc_impl_in (fun k => noLoops rfl) (fun args m r h => match args, h with
    | [t0, t1, t2], h => ⟨rfl, (xe_impl_in t0 t1 t2 m).trans h⟩)
theorem ok_C_impl_in : OkC CT 99 C_impl_in := fcall_ok rfl ok_X_impl_in

/-! ### impl.isKey -/
noncomputable def cf_impl_isKey : CallF := cfc 99 C_impl_in cfn
noncomputable def X_impl_isKey : List Value → Mem → Option VM
  | [t0], m =>
    (C_impl_in [t0, (.int .i64 1), (.int .i64 40)] m) |> bo fun r1 =>
    retK m.length r1.2 [t0] r1.1
  | _, _ => none
noncomputable def C_impl_isKey : List Value → Mem → Option VM := fcall X_impl_isKey
@[simp] theorem c_impl_isKey : C_impl_isKey = fcall X_impl_isKey := (rfl)
theorem cok_impl_isKey : codeOk CT Try.f124 (Try.f124.body.get rfl) = true := by kernel_rfl
theorem xe_impl_isKey (t0 : Value) (m : Mem) : ex CT cf_impl_isKey Try.f124 1 m.length [] (fun _ _ _ => none) 400 [.code (Try.f124.body.get rfl)] (argsT 0 [t0]) m = X_impl_isKey [t0] m := by kernel_rfl
theorem okc_impl_isKey : CallOK CT cf_impl_isKey := cfc_ok ok_C_impl_in cfn_ok
theorem ok_X_impl_isKey : OkX CT 124 X_impl_isKey := OkX.of_ex (cf := cf_impl_isKey) (np := 1) (LL := []) (J := (fun _ _ _ _ => none)) CT_ok rfl Try.func124 rfl (Nat.le_of_ble_eq_true rfl) (by decide) cok_impl_isKey okc_impl_isKey (fun k => noLoops rfl) (fun args m r h => match args, h with
    | [t0], h => ⟨rfl, (xe_impl_isKey t0 m).trans h⟩)
theorem ok_C_impl_isKey : OkC CT 124 C_impl_isKey := fcall_ok rfl ok_X_impl_isKey

/-! ### impl.isBit -/
noncomputable def cf_impl_isBit : CallF := cfn
noncomputable def X_impl_isBit : List Value → Mem → Option VM
  | [t0], m =>
    (binX .eql .no t0 (.int .i64 1)) |> bo fun t4 =>
    (gd t4 false (some (t0, m)) m) |> bo fun r2 =>
    (gd t4 false ((binX .eql .no r2.1 (.int .i64 2)) |> bo fun v => some (v, r2.2)) r2.2) |> bo fun r3 =>
    (pickX t4 (.bool true) r3.1) |> bo fun t8 =>
    (gd t8 false (some (t0, r3.2)) r3.2) |> bo fun r5 =>
    (gd t8 false ((binX .eql .no r5.1 (.int .i64 4)) |> bo fun v => some (v, r5.2)) r5.2) |> bo fun r6 =>
    (pickX t8 (.bool true) r6.1) |> bo fun t12 =>
    retK m.length r6.2 [t0] t12
  | _, _ => none
noncomputable def C_impl_isBit : List Value → Mem → Option VM := fcall X_impl_isBit
@[simp] theorem c_impl_isBit : C_impl_isBit = fcall X_impl_isBit := (rfl)
theorem cok_impl_isBit : codeOk CT Try.f165 (Try.f165.body.get rfl) = true := by kernel_rfl
theorem xe_impl_isBit (t0 : Value) (m : Mem) : ex CT cf_impl_isBit Try.f165 1 m.length [] (fun _ _ _ => none) 400 [.code (Try.f165.body.get rfl)] (argsT 0 [t0]) m = X_impl_isBit [t0] m := by kernel_rfl
theorem okc_impl_isBit : CallOK CT cf_impl_isBit := cfn_ok
theorem ok_X_impl_isBit : OkX CT 165 X_impl_isBit := OkX.of_ex (cf := cf_impl_isBit) (np := 1) (LL := []) (J := (fun _ _ _ _ => none)) CT_ok rfl Try.func165 rfl (Nat.le_of_ble_eq_true rfl) (by decide) cok_impl_isBit okc_impl_isBit (fun k => noLoops rfl) (fun args m r h => match args, h with
    | [t0], h => ⟨rfl, (xe_impl_isBit t0 m).trans h⟩)
theorem ok_C_impl_isBit : OkC CT 165 C_impl_isBit := fcall_ok rfl ok_X_impl_isBit

/-! ### impl.KeyboardFault -/
noncomputable def cf_impl_KeyboardFault : CallF := cfc 89 C_impl_unless (cfc 99 C_impl_in (cfc 124 C_impl_isKey (cfc 165 C_impl_isBit cfn)))
noncomputable def L_impl_KeyboardFault (k : Nat) : Nat → Nat → List Value → Mem → Option VM
  | q + 1, 0, [t1, t10, t11, t12], m =>
    (binX .lss .no t12 t11) |> bo fun t13 =>
    brX t13
      (
        (ixaX 2 t10 t12) |> bo fun t15 =>
        (ldS m 2 t15) |> bo fun t16 =>
        (alX m [.int .i64 0, .int .i64 0]) |> bo fun r4 =>
        (stX r4.2 2 r4.1 t16) |> bo fun m5 =>
        (fadX 0 r4.1) |> bo fun t17 =>
        (ld1 m5 t17) |> bo fun t18 =>
        (C_impl_isKey [t18] m5) |> bo fun r8 =>
        (uop .not r8.1) |> bo fun t20 =>
        (gd t20 false ((fadX 1 r4.1) |> bo fun v => some (v, r8.2)) r8.2) |> bo fun r10 =>
        (gd t20 false ((ld1 r10.2 r10.1) |> bo fun v => some (v, r10.2)) r10.2) |> bo fun r11 =>
        (gd t20 false ((C_impl_isBit [r11.1] r11.2) |> bo fun r => some (r.1, r.2)) r11.2) |> bo fun r12 =>
        (gd t20 false ((uop .not r12.1) |> bo fun v => some (v, r12.2)) r12.2) |> bo fun r13 =>
        (pickX t20 (.bool true) r13.1) |> bo fun t26 =>
        (gd t26 false (some (t12, r13.2)) r13.2) |> bo fun r15 =>
        (gd t26 false ((binX .gtr .no r15.1 (.int .i64 0)) |> bo fun v => some (v, r15.2)) r15.2) |> bo fun r16 =>
        (gd t26 false (some (r16.1, r16.2)) r16.2) |> bo fun r17 =>
        (gd r17.1 true ((fadX 0 r4.1) |> bo fun v => some (v, r17.2)) r17.2) |> bo fun r18 =>
        (gd r17.1 true ((ld1 r18.2 r18.1) |> bo fun v => some (v, r18.2)) r18.2) |> bo fun r19 =>
        (gd r17.1 true ((fadX 0 t1) |> bo fun v => some (v, r19.2)) r19.2) |> bo fun r20 =>
        (gd r17.1 true ((ld1 r20.2 r20.1) |> bo fun v => some (v, r20.2)) r20.2) |> bo fun r21 =>
        (gd r17.1 true (some (t12, r21.2)) r21.2) |> bo fun r22 =>
        (gd r17.1 true ((binX .sub .no r22.1 (.int .i64 1)) |> bo fun v => some (v, r22.2)) r22.2) |> bo fun r23 =>
        (gd r17.1 true ((ixaX 2 r21.1 r23.1) |> bo fun v => some (v, r23.2)) r23.2) |> bo fun r24 =>
        (gd r17.1 true ((fadX 0 r24.1) |> bo fun v => some (v, r24.2)) r24.2) |> bo fun r25 =>
        (gd r17.1 true ((ld1 r25.2 r25.1) |> bo fun v => some (v, r25.2)) r25.2) |> bo fun r26 =>
        (gd r17.1 true ((binX .leq .no r19.1 r26.1) |> bo fun v => some (v, r26.2)) r26.2) |> bo fun r27 =>
        (gd t26 false ((pickX r17.1 r27.1 (.bool false)) |> bo fun v => some (v, r27.2)) r27.2) |> bo fun r28 =>
        (pickX t26 (.bool true) r28.1) |> bo fun t42 =>
        brX t42
          (
            retK k r28.2 [] (.int .i64 3))
          (
            (binX .add .no t12 (.int .i64 1)) |> bo fun t43 =>
            cutK k r28.2 [] [t1, t10, t11, t43] (L_impl_KeyboardFault k q 0)))
      (
        (fadX 2 t1) |> bo fun t44 =>
        (ld1 m t44) |> bo fun t45 =>
        (C_impl_in [t45, (.int .i64 0), (.int .i64 3)] m) |> bo fun r33 =>
        (C_impl_unless [r33.1, (.int .i64 3)] r33.2) |> bo fun r34 =>
        retK k r34.2 [] r34.1)
  | _, _, _, _ => none
noncomputable def J_impl_KeyboardFault (k q l : Nat) : List Value → Mem → Option VM := cond (Nat.beq l 4) (L_impl_KeyboardFault k q 0) (fun _ _ => none)
def LL_impl_KeyboardFault : List (Nat × List Tmp) := [(4, [1, 10, 11, 12])]
noncomputable def X_impl_KeyboardFault : List Value → Mem → Option VM
  | [t0], m =>
    (boxX m t0) |> bo fun r1 =>
    (fadX 0 r1.1) |> bo fun t5 =>
    (ld1 r1.2 t5) |> bo fun t6 =>
    (lenX t6) |> bo fun t7 =>
    (binX .gtr .no t7 (.int .i64 4)) |> bo fun t8 =>
    brX t8
      (
        retK m.length r1.2 [t0] (.int .i64 2))
      (
        (fadX 0 r1.1) |> bo fun t9 =>
        (ld1 r1.2 t9) |> bo fun t10 =>
        (lenX t10) |> bo fun t11 =>
        cutK m.length r1.2 [t0] [r1.1, t10, t11, (.int .i64 0)] (L_impl_KeyboardFault m.length QQ 0))
  | _, _ => none
noncomputable def C_impl_KeyboardFault : List Value → Mem → Option VM := fcall X_impl_KeyboardFault
@[simp] theorem c_impl_KeyboardFault : C_impl_KeyboardFault = fcall X_impl_KeyboardFault := (rfl)
theorem cok_impl_KeyboardFault : codeOk CT Try.f123 (Try.f123.body.get rfl) = true := by kernel_rfl
theorem xe_impl_KeyboardFault (t0 : Value) (m : Mem) : ex CT cf_impl_KeyboardFault Try.f123 1 m.length LL_impl_KeyboardFault (J_impl_KeyboardFault m.length QQ) 400 [.code (Try.f123.body.get rfl)] (argsT 0 [t0]) m = X_impl_KeyboardFault [t0] m := by kernel_rfl
theorem okc_impl_KeyboardFault : CallOK CT cf_impl_KeyboardFault := cfc_ok ok_C_impl_unless (cfc_ok ok_C_impl_in (cfc_ok ok_C_impl_isKey (cfc_ok ok_C_impl_isBit cfn_ok)))
theorem le_impl_KeyboardFault_0 (k q : Nat) (t1 t10 t11 t12 : Value) (m : Mem) : ex CT cf_impl_KeyboardFault Try.f123 1 k LL_impl_KeyboardFault (J_impl_KeyboardFault k q) 400 (atLoop Try.f123 0) [(1, t1), (10, t10), (11, t11), (12, t12)] m = J_impl_KeyboardFault k (q + 1) 4 [t1, t10, t11, t12] m := by kernel_rfl
theorem gl_impl_KeyboardFault (k : Nat) : ∀ q i, i < 1 → GoodL CT k Try.f123 LL_impl_KeyboardFault (J_impl_KeyboardFault k q) (atLoop Try.f123 i)
  | 0, 0, _ => goodL_zero (l := 4) (by kernel_rfl) (fun vs m => by kernel_rfl)
  | 0, _ + 1, h => absurd h (by omega)
  | q + 1, 0, _ => goodL_succ (np := 1) (l := 4) (live := [1, 10, 11, 12]) (n := 1) CT_ok rfl okc_impl_KeyboardFault (c := (Try.f123.body.get rfl)) rfl cok_impl_KeyboardFault (by kernel_rfl) (gl_impl_KeyboardFault k q) (by kernel_rfl) rfl (fun vs m r hl h => match vs, hl with
    | [t1, t10, t11, t12], _ => (le_impl_KeyboardFault_0 k q t1 t10 t11 t12 m).trans h)
  | _ + 1, _ + 1, h => absurd h (by omega)
theorem ok_X_impl_KeyboardFault : OkX CT 123 X_impl_KeyboardFault := OkX.of_ex (cf := cf_impl_KeyboardFault) (np := 1) (LL := LL_impl_KeyboardFault) (J := (fun k => J_impl_KeyboardFault k QQ)) CT_ok rfl Try.func123 rfl (Nat.le_of_ble_eq_true rfl) (by decide) cok_impl_KeyboardFault okc_impl_KeyboardFault (fun k => allLoops rfl (by kernel_rfl) (gl_impl_KeyboardFault k QQ)) (fun args m r h => match args, h with
    | [t0], h => ⟨rfl, (xe_impl_KeyboardFault t0 m).trans h⟩)
theorem ok_C_impl_KeyboardFault : OkC CT 123 C_impl_KeyboardFault := fcall_ok rfl ok_X_impl_KeyboardFault

/-! ### slices.Clone[[]impl.Hold,impl.Hold] -/
noncomputable def cf_slices_Clone_impl_Hold_impl_Hold : CallF := cfn
noncomputable def X_slices_Clone_impl_Hold_impl_Hold : List Value → Mem → Option VM
  | [t0], m =>
    (nlX .eql t0) |> bo fun t4 =>
    brX t4
      (
        retK m.length m [t0] (.slice none 0 0))
      (
        (bslX m 0 2 [.int .i64 0, .int .i64 0] []) |> bo fun r2 =>
        (apL r2.2 2 16 r2.1 t0) |> bo fun r3 =>
        retK m.length r3.2 [t0] r3.1)
  | _, _ => none
theorem cok_slices_Clone_impl_Hold_impl_Hold : codeOk CT Try.f166 (Try.f166.body.get rfl) = true := by kernel_rfl
theorem xe_slices_Clone_impl_Hold_impl_Hold (t0 : Value) (m : Mem) : ex CT cf_slices_Clone_impl_Hold_impl_Hold Try.f166 1 m.length [] (fun _ _ _ => none) 400 [.code (Try.f166.body.get rfl)] (argsT 0 [t0]) m = X_slices_Clone_impl_Hold_impl_Hold [t0] m := by kernel_rfl
theorem okc_slices_Clone_impl_Hold_impl_Hold : CallOK CT cf_slices_Clone_impl_Hold_impl_Hold := cfn_ok
theorem ok_X_slices_Clone_impl_Hold_impl_Hold : OkX CT 166 X_slices_Clone_impl_Hold_impl_Hold := OkX.of_ex (cf := cf_slices_Clone_impl_Hold_impl_Hold) (np := 1) (LL := []) (J := (fun _ _ _ _ => none)) CT_ok rfl Try.func166 rfl (Nat.le_of_ble_eq_true rfl) (by decide) cok_slices_Clone_impl_Hold_impl_Hold okc_slices_Clone_impl_Hold_impl_Hold (fun k => noLoops rfl) (fun args m r h => match args, h with
    | [t0], h => ⟨rfl, (xe_slices_Clone_impl_Hold_impl_Hold t0 m).trans h⟩)
noncomputable def C_slices_Clone_impl_Hold_impl_Hold : List Value → Mem → Option VM := cloneC 2
@[simp] theorem c_slices_Clone_impl_Hold_impl_Hold : C_slices_Clone_impl_Hold_impl_Hold = cloneC 2 := (rfl)
theorem cl0_slices_Clone_impl_Hold_impl_Hold : X_slices_Clone_impl_Hold_impl_Hold [.float .f64 0] [] = some (.slice none 0 0, []) := by simp -implicitDefEqProofs [X_slices_Clone_impl_Hold_impl_Hold, retK_eq]
theorem cl1_slices_Clone_impl_Hold_impl_Hold : X_slices_Clone_impl_Hold_impl_Hold [.float .f64 1] [] = some (.slice (some ⟨0, 0, none⟩) 0 0, [⟨[], 2, true, true⟩]) := by simp -implicitDefEqProofs [X_slices_Clone_impl_Hold_impl_Hold, retK_eq, apL_f1]
theorem cl2_slices_Clone_impl_Hold_impl_Hold (len : Nat) (cs : Array Value) (hl : len ≠ 0) (hs : cs.size = len * 2) (hk : len < 1000000000) (hh : cs.toList.all hard = true) : X_slices_Clone_impl_Hold_impl_Hold [.iface len (.agg cs)] [] = some (.slice (some ⟨0, 0, none⟩) len len, [⟨cs.toList, 2, true, true⟩]) := by
  have ha := fun m n o c => apL_agg (m := m) (sz := 2) (bytes := 16) (n := n) (o := o) (len := 0) (c := c) hs (by omega) (by omega)
  simp -implicitDefEqProofs [X_slices_Clone_impl_Hold_impl_Hold, retK_eq, ha, hl, hard_all hh]
theorem ok_C_slices_Clone_impl_Hold_impl_Hold : OkC CT 166 C_slices_Clone_impl_Hold_impl_Hold := cloneC_ok rfl ok_X_slices_Clone_impl_Hold_impl_Hold cl0_slices_Clone_impl_Hold_impl_Hold cl1_slices_Clone_impl_Hold_impl_Hold cl2_slices_Clone_impl_Hold_impl_Hold

/-! ### (impl.Keyboard).clone -/
noncomputable def cf_impl_Keyboard_clone : CallF := cfc 166 C_slices_Clone_impl_Hold_impl_Hold cfn
noncomputable def X_impl_Keyboard_clone : List Value → Mem → Option VM
  | [t0], m =>
    (boxX m t0) |> bo fun r1 =>
    (alX r1.2 [.slice none 0 0, .bool false, .int .i64 0]) |> bo fun r2 =>
    (fadX 0 r1.1) |> bo fun t3 =>
    (ld1 r2.2 t3) |> bo fun t4 =>
    (C_slices_Clone_impl_Hold_impl_Hold [t4] r2.2) |> bo fun r5 =>
    (fadX 0 r1.1) |> bo fun t6 =>
    (stX r5.2 1 t6 r5.1) |> bo fun m7 =>
    (ldS m7 3 r1.1) |> bo fun t7 =>
    (stX m7 3 r2.1 t7) |> bo fun m9 =>
    (resP (some 3) m9 r2.1) |> bo fun c10 =>
    retK m.length m9 [t0] c10
  | _, _ => none
noncomputable def C_impl_Keyboard_clone : List Value → Mem → Option VM := fcall X_impl_Keyboard_clone
@[simp] theorem c_impl_Keyboard_clone : C_impl_Keyboard_clone = fcall X_impl_Keyboard_clone := (rfl)
theorem cok_impl_Keyboard_clone : codeOk CT Try.f125 (Try.f125.body.get rfl) = true := by kernel_rfl
theorem xe_impl_Keyboard_clone (t0 : Value) (m : Mem) : ex CT cf_impl_Keyboard_clone Try.f125 1 m.length [] (fun _ _ _ => none) 400 [.code (Try.f125.body.get rfl)] (argsT 0 [t0]) m = X_impl_Keyboard_clone [t0] m := by kernel_rfl
theorem okc_impl_Keyboard_clone : CallOK CT cf_impl_Keyboard_clone := cfc_ok ok_C_slices_Clone_impl_Hold_impl_Hold cfn_ok
theorem ok_X_impl_Keyboard_clone : OkX CT 125 X_impl_Keyboard_clone := OkX.of_ex (cf := cf_impl_Keyboard_clone) (np := 1) (LL := []) (J := (fun _ _ _ _ => none)) CT_ok rfl Try.func125 rfl (Nat.le_of_ble_eq_true rfl) (by decide) cok_impl_Keyboard_clone okc_impl_Keyboard_clone (fun k => noLoops rfl) (fun args m r h => match args, h with
    | [t0], h => ⟨rfl, (xe_impl_Keyboard_clone t0 m).trans h⟩)
theorem ok_C_impl_Keyboard_clone : OkC CT 125 C_impl_Keyboard_clone := fcall_ok rfl ok_X_impl_Keyboard_clone

/-! ### impl.LiftKey$1 -/
noncomputable def cf_impl_LiftKey_1 : CallF := cfn
noncomputable def X_impl_LiftKey_1 : List Value → Mem → Option VM
  | [t0, t1], m =>
    (boxX m t0) |> bo fun r1 =>
    (fadX 0 r1.1) |> bo fun t4 =>
    (ld1 r1.2 t4) |> bo fun t5 =>
    (ld1 r1.2 t1) |> bo fun t6 =>
    (binX .eql .no t5 t6) |> bo fun t7 =>
    retK m.length r1.2 [t0, t1] t7
  | _, _ => none
noncomputable def C_impl_LiftKey_1 : List Value → Mem → Option VM := fcall X_impl_LiftKey_1
@[simp] theorem c_impl_LiftKey_1 : C_impl_LiftKey_1 = fcall X_impl_LiftKey_1 := (rfl)
theorem cok_impl_LiftKey_1 : codeOk CT Try.f127 (Try.f127.body.get rfl) = true := by kernel_rfl
theorem xe_impl_LiftKey_1 (t0 t1 : Value) (m : Mem) : ex CT cf_impl_LiftKey_1 Try.f127 2 m.length [] (fun _ _ _ => none) 400 [.code (Try.f127.body.get rfl)] (argsT 0 [t0, t1]) m = X_impl_LiftKey_1 [t0, t1] m := by kernel_rfl
theorem okc_impl_LiftKey_1 : CallOK CT cf_impl_LiftKey_1 := cfn_ok
theorem ok_X_impl_LiftKey_1 : OkX CT 127 X_impl_LiftKey_1 := OkX.of_ex (cf := cf_impl_LiftKey_1) (np := 2) (LL := []) (J := (fun _ _ _ _ => none)) CT_ok rfl Try.func127 rfl (Nat.le_of_ble_eq_true rfl) (by decide) cok_impl_LiftKey_1 okc_impl_LiftKey_1 (fun k => noLoops rfl) (fun args m r h => match args, h with
    | [t0, t1], h => ⟨rfl, (xe_impl_LiftKey_1 t0 t1 m).trans h⟩)
theorem ok_C_impl_LiftKey_1 : OkC CT 127 C_impl_LiftKey_1 := fcall_ok rfl ok_X_impl_LiftKey_1

/-! ### slices.IndexFunc[[]impl.Hold,impl.Hold] -/
noncomputable def cf_slices_IndexFunc_impl_Hold_impl_Hold : CallF := cfc 127 C_impl_LiftKey_1 cfn
noncomputable def L_slices_IndexFunc_impl_Hold_impl_Hold (k : Nat) : Nat → Nat → List Value → Mem → Option VM
  | q + 1, 0, [t0, t1, t7, t8], m =>
    (binX .lss .no t8 t7) |> bo fun t9 =>
    brX t9
      (
        (ixaX 2 t0 t8) |> bo fun t14 =>
        (ldS m 2 t14) |> bo fun t15 =>
        (callV cf_slices_IndexFunc_impl_Hold_impl_Hold t1 [t15] m) |> bo fun r4 =>
        brX r4.1
          (
            retK k r4.2 [t0, t1] t8)
          (
            (binX .add .no t8 (.int .i64 1)) |> bo fun t18 =>
            cutK k r4.2 [t0, t1] [t0, t1, t7, t18] (L_slices_IndexFunc_impl_Hold_impl_Hold k q 0)))
      (
        retK k m [t0, t1] (.int .i64 (-1)))
  | _, _, _, _ => none
noncomputable def J_slices_IndexFunc_impl_Hold_impl_Hold (k q l : Nat) : List Value → Mem → Option VM := cond (Nat.beq l 2) (L_slices_IndexFunc_impl_Hold_impl_Hold k q 0) (fun _ _ => none)
def LL_slices_IndexFunc_impl_Hold_impl_Hold : List (Nat × List Tmp) := [(2, [0, 1, 7, 8])]
noncomputable def X_slices_IndexFunc_impl_Hold_impl_Hold : List Value → Mem → Option VM
  | [t0, t1], m =>
    (lenX t0) |> bo fun t7 =>
    cutK m.length m [t0, t1] [t0, t1, t7, (.int .i64 0)] (L_slices_IndexFunc_impl_Hold_impl_Hold m.length QQ 0)
  | _, _ => none
noncomputable def C_slices_IndexFunc_impl_Hold_impl_Hold : List Value → Mem → Option VM := rcall X_slices_IndexFunc_impl_Hold_impl_Hold
@[simp] theorem c_slices_IndexFunc_impl_Hold_impl_Hold : C_slices_IndexFunc_impl_Hold_impl_Hold = rcall X_slices_IndexFunc_impl_Hold_impl_Hold := (rfl)
theorem cok_slices_IndexFunc_impl_Hold_impl_Hold : codeOk CT Try.f167 (Try.f167.body.get rfl) = true := by kernel_rfl
theorem xe_slices_IndexFunc_impl_Hold_impl_Hold (t0 t1 : Value) (m : Mem) : ex CT cf_slices_IndexFunc_impl_Hold_impl_Hold Try.f167 2 m.length LL_slices_IndexFunc_impl_Hold_impl_Hold (J_slices_IndexFunc_impl_Hold_impl_Hold m.length QQ) 400 [.code (Try.f167.body.get rfl)] (argsT 0 [t0, t1]) m = X_slices_IndexFunc_impl_Hold_impl_Hold [t0, t1] m := by kernel_rfl
theorem okc_slices_IndexFunc_impl_Hold_impl_Hold : CallOK CT cf_slices_IndexFunc_impl_Hold_impl_Hold := cfc_ok ok_C_impl_LiftKey_1 cfn_ok
theorem le_slices_IndexFunc_impl_Hold_impl_Hold_0 (k q : Nat) (t0 t1 t7 t8 : Value) (m : Mem) : ex CT cf_slices_IndexFunc_impl_Hold_impl_Hold Try.f167 2 k LL_slices_IndexFunc_impl_Hold_impl_Hold (J_slices_IndexFunc_impl_Hold_impl_Hold k q) 400 (atLoop Try.f167 0) [(0, t0), (1, t1), (7, t7), (8, t8)] m = J_slices_IndexFunc_impl_Hold_impl_Hold k (q + 1) 2 [t0, t1, t7, t8] m := by kernel_rfl
theorem gl_slices_IndexFunc_impl_Hold_impl_Hold (k : Nat) : ∀ q i, i < 1 → GoodL CT k Try.f167 LL_slices_IndexFunc_impl_Hold_impl_Hold (J_slices_IndexFunc_impl_Hold_impl_Hold k q) (atLoop Try.f167 i)
  | 0, 0, _ => goodL_zero (l := 2) (by kernel_rfl) (fun vs m => by kernel_rfl)
  | 0, _ + 1, h => absurd h (by omega)
  | q + 1, 0, _ => goodL_succ (np := 2) (l := 2) (live := [0, 1, 7, 8]) (n := 1) CT_ok rfl okc_slices_IndexFunc_impl_Hold_impl_Hold (c := (Try.f167.body.get rfl)) rfl cok_slices_IndexFunc_impl_Hold_impl_Hold (by kernel_rfl) (gl_slices_IndexFunc_impl_Hold_impl_Hold k q) (by kernel_rfl) rfl (fun vs m r hl h => match vs, hl with
    | [t0, t1, t7, t8], _ => (le_slices_IndexFunc_impl_Hold_impl_Hold_0 k q t0 t1 t7 t8 m).trans h)
  | _ + 1, _ + 1, h => absurd h (by omega)
theorem ok_X_slices_IndexFunc_impl_Hold_impl_Hold : OkX CT 167 X_slices_IndexFunc_impl_Hold_impl_Hold := OkX.of_ex (cf := cf_slices_IndexFunc_impl_Hold_impl_Hold) (np := 2) (LL := LL_slices_IndexFunc_impl_Hold_impl_Hold) (J := (fun k => J_slices_IndexFunc_impl_Hold_impl_Hold k QQ)) CT_ok rfl Try.func167 rfl (Nat.le_of_ble_eq_true rfl) (by decide) cok_slices_IndexFunc_impl_Hold_impl_Hold okc_slices_IndexFunc_impl_Hold_impl_Hold (fun k => allLoops rfl (by kernel_rfl) (gl_slices_IndexFunc_impl_Hold_impl_Hold k QQ)) (fun args m r h => match args, h with
    | [t0, t1], h => ⟨rfl, (xe_slices_IndexFunc_impl_Hold_impl_Hold t0 t1 m).trans h⟩)
theorem ok_C_slices_IndexFunc_impl_Hold_impl_Hold : OkC CT 167 C_slices_IndexFunc_impl_Hold_impl_Hold := rcall_ok rfl ok_X_slices_IndexFunc_impl_Hold_impl_Hold

/-! ### slices.DeleteFunc[[]impl.Hold,impl.Hold] -/
noncomputable def cf_slices_DeleteFunc_impl_Hold_impl_Hold : CallF := cfc 127 C_impl_LiftKey_1 (cfc 167 C_slices_IndexFunc_impl_Hold_impl_Hold cfn)
noncomputable def L_slices_DeleteFunc_impl_Hold_impl_Hold (k : Nat) : Nat → Nat → List Value → Mem → Option VM
  | q + 1, 0, [t0, t1, t5, t6], m =>
    (lenX t0) |> bo fun t18 =>
    (binX .lss .no t6 t18) |> bo fun t19 =>
    brX t19
      (
        (ixaX 2 t0 t6) |> bo fun t24 =>
        (ldS m 2 t24) |> bo fun t25 =>
        (alX m [.int .i64 0, .int .i64 0]) |> bo fun r5 =>
        (stX r5.2 2 r5.1 t25) |> bo fun m6 =>
        (ldS m6 2 r5.1) |> bo fun t27 =>
        (callV cf_slices_DeleteFunc_impl_Hold_impl_Hold t1 [t27] m6) |> bo fun r8 =>
        (uop .not r8.1) |> bo fun t29 =>
        brX t29
          (
            (ldS r8.2 2 r5.1) |> bo fun t32 =>
            (ixaX 2 t0 t5) |> bo fun t33 =>
            (stX r8.2 2 t33 t32) |> bo fun m12 =>
            (binX .add .no t5 (.int .i64 1)) |> bo fun t35 =>
            (binX .add .no t6 (.int .i64 1)) |> bo fun t21 =>
            cutK k m12 [t0, t1] [t0, t1, t35, t21] (L_slices_DeleteFunc_impl_Hold_impl_Hold k q 0))
          (
            (binX .add .no t6 (.int .i64 1)) |> bo fun t21 =>
            cutK k r8.2 [t0, t1] [t0, t1, t5, t21] (L_slices_DeleteFunc_impl_Hold_impl_Hold k q 0)))
      (
        (slX m 2 t0 (some t5) none) |> bo fun t38 =>
        (clX m [.int .i64 0, .int .i64 0] t38) |> bo fun r17 =>
        (slX r17.2 2 t0 none (some t5)) |> bo fun t41 =>
        retK k r17.2 [t0, t1] t41)
  | _, _, _, _ => none
noncomputable def J_slices_DeleteFunc_impl_Hold_impl_Hold (k q l : Nat) : List Value → Mem → Option VM := cond (Nat.beq l 5) (L_slices_DeleteFunc_impl_Hold_impl_Hold k q 0) (fun _ _ => none)
def LL_slices_DeleteFunc_impl_Hold_impl_Hold : List (Nat × List Tmp) := [(5, [0, 1, 5, 6])]
noncomputable def X_slices_DeleteFunc_impl_Hold_impl_Hold : List Value → Mem → Option VM
  | [t0, t1], m =>
    (C_slices_IndexFunc_impl_Hold_impl_Hold [t0, t1] m) |> bo fun r1 =>
    (binX .eql .no r1.1 (.int .i64 (-1))) |> bo fun t12 =>
    brX t12
      (
        retK m.length r1.2 [t0, t1] t0)
      (
        (binX .add .no r1.1 (.int .i64 1)) |> bo fun t15 =>
        cutK m.length r1.2 [t0, t1] [t0, t1, r1.1, t15] (L_slices_DeleteFunc_impl_Hold_impl_Hold m.length QQ 0))
  | _, _ => none
noncomputable def C_slices_DeleteFunc_impl_Hold_impl_Hold : List Value → Mem → Option VM := rcall X_slices_DeleteFunc_impl_Hold_impl_Hold
@[simp] theorem c_slices_DeleteFunc_impl_Hold_impl_Hold : C_slices_DeleteFunc_impl_Hold_impl_Hold = rcall X_slices_DeleteFunc_impl_Hold_impl_Hold := (rfl)
theorem cok_slices_DeleteFunc_impl_Hold_impl_Hold : codeOk CT Try.f126 (Try.f126.body.get rfl) = true := by kernel_rfl
theorem xe_slices_DeleteFunc_impl_Hold_impl_Hold (t0 t1 : Value) (m : Mem) : ex CT cf_slices_DeleteFunc_impl_Hold_impl_Hold Try.f126 2 m.length LL_slices_DeleteFunc_impl_Hold_impl_Hold (J_slices_DeleteFunc_impl_Hold_impl_Hold m.length QQ) 400 [.code (Try.f126.body.get rfl)] (argsT 0 [t0, t1]) m = X_slices_DeleteFunc_impl_Hold_impl_Hold [t0, t1] m := by kernel_rfl
theorem okc_slices_DeleteFunc_impl_Hold_impl_Hold : CallOK CT cf_slices_DeleteFunc_impl_Hold_impl_Hold := cfc_ok ok_C_impl_LiftKey_1 (cfc_ok ok_C_slices_IndexFunc_impl_Hold_impl_Hold cfn_ok)
theorem le_slices_DeleteFunc_impl_Hold_impl_Hold_0 (k q : Nat) (t0 t1 t5 t6 : Value) (m : Mem) : ex CT cf_slices_DeleteFunc_impl_Hold_impl_Hold Try.f126 2 k LL_slices_DeleteFunc_impl_Hold_impl_Hold (J_slices_DeleteFunc_impl_Hold_impl_Hold k q) 400 (atLoop Try.f126 0) [(0, t0), (1, t1), (5, t5), (6, t6)] m = J_slices_DeleteFunc_impl_Hold_impl_Hold k (q + 1) 5 [t0, t1, t5, t6] m := by kernel_rfl
theorem gl_slices_DeleteFunc_impl_Hold_impl_Hold (k : Nat) : ∀ q i, i < 1 → GoodL CT k Try.f126 LL_slices_DeleteFunc_impl_Hold_impl_Hold (J_slices_DeleteFunc_impl_Hold_impl_Hold k q) (atLoop Try.f126 i)
  | 0, 0, _ => goodL_zero (l := 5) (by kernel_rfl) (fun vs m => by kernel_rfl)
  | 0, _ + 1, h => absurd h (by omega)
  | q + 1, 0, _ => goodL_succ (np := 2) (l := 5) (live := [0, 1, 5, 6]) (n := 1) CT_ok rfl okc_slices_DeleteFunc_impl_Hold_impl_Hold (c := (Try.f126.body.get rfl)) rfl cok_slices_DeleteFunc_impl_Hold_impl_Hold (by kernel_rfl) (gl_slices_DeleteFunc_impl_Hold_impl_Hold k q) (by kernel_rfl) rfl (fun vs m r hl h => match vs, hl with
    | [t0, t1, t5, t6], _ => (le_slices_DeleteFunc_impl_Hold_impl_Hold_0 k q t0 t1 t5 t6 m).trans h)
  | _ + 1, _ + 1, h => absurd h (by omega)
theorem ok_X_slices_DeleteFunc_impl_Hold_impl_Hold : OkX CT 126 X_slices_DeleteFunc_impl_Hold_impl_Hold := OkX.of_ex (cf := cf_slices_DeleteFunc_impl_Hold_impl_Hold) (np := 2) (LL := LL_slices_DeleteFunc_impl_Hold_impl_Hold) (J := (fun k => J_slices_DeleteFunc_impl_Hold_impl_Hold k QQ)) CT_ok rfl Try.func126 rfl (Nat.le_of_ble_eq_true rfl) (by decide) cok_slices_DeleteFunc_impl_Hold_impl_Hold okc_slices_DeleteFunc_impl_Hold_impl_Hold (fun k => allLoops rfl (by kernel_rfl) (gl_slices_DeleteFunc_impl_Hold_impl_Hold k QQ)) (fun args m r h => match args, h with
    | [t0, t1], h => ⟨rfl, (xe_slices_DeleteFunc_impl_Hold_impl_Hold t0 t1 m).trans h⟩)
theorem ok_C_slices_DeleteFunc_impl_Hold_impl_Hold : OkC CT 126 C_slices_DeleteFunc_impl_Hold_impl_Hold := rcall_ok rfl ok_X_slices_DeleteFunc_impl_Hold_impl_Hold

/-! ### impl.LiftKey -/
noncomputable def cf_impl_LiftKey : CallF := cfc 88 C_impl_first (cfc 89 C_impl_unless (cfc 123 C_impl_KeyboardFault (cfc 124 C_impl_isKey (cfc 125 C_impl_Keyboard_clone (cfc 126 C_slices_DeleteFunc_impl_Hold_impl_Hold cfn)))))
noncomputable def X_impl_LiftKey : List Value → Mem → Option VM
  | [t0, t1], m =>
    (boxX m t0) |> bo fun r1 =>
    (boxX r1.2 t1) |> bo fun r2 =>
    (alX r2.2 [.int .i64 0, .slice none 0 0, .int .i64 0, .slice none 0 0, .bool false, .int .i64 0]) |> bo fun r3 =>
    (ldS r3.2 3 r1.1) |> bo fun t7 =>
    (C_impl_KeyboardFault [t7] r3.2) |> bo fun r5 =>
    (ld1 r5.2 r2.1) |> bo fun t9 =>
    (C_impl_isKey [t9] r5.2) |> bo fun r7 =>
    (C_impl_unless [r7.1, (.int .i64 3)] r7.2) |> bo fun r8 =>
    (bslX r8.2 2 1 [.int .i64 0] [(0, 1, r5.1), (1, 1, r8.1)]) |> bo fun r9 =>
    (C_impl_first [r9.1] r9.2) |> bo fun r10 =>
    gP (stbL [((rdN r2.1), r3.2, r5.2)])
      (
        (binX .neq .no r10.1 (.int .i64 0)) |> bo fun t15 =>
        brX t15
          (
            (bldX [.int .i64 0, .slice none 0 0, .int .i64 0, .slice none 0 0, .bool false, .int .i64 0] [(0, 1, r10.1)]) |> bo fun t17 =>
            (stX r10.2 6 r3.1 t17) |> bo fun m13 =>
            (resP (some 6) m13 r3.1) |> bo fun c14 =>
            retK m.length m13 [t0, t1] c14)
          (
            (ldS r10.2 3 r1.1) |> bo fun t18 =>
            (C_impl_Keyboard_clone [t18] r10.2) |> bo fun r16 =>
            (alX r16.2 [.slice none 0 0, .bool false, .int .i64 0]) |> bo fun r17 =>
            (stX r17.2 3 r17.1 r16.1) |> bo fun m18 =>
            (fadX 0 r17.1) |> bo fun t20 =>
            (ld1 m18 t20) |> bo fun t21 =>
            (C_slices_DeleteFunc_impl_Hold_impl_Hold [t21, (.func (.func 127) #[] #[r2.1])] m18) |> bo fun r21 =>
            (fadX 0 r17.1) |> bo fun t24 =>
            (stX r21.2 1 t24 r21.1) |> bo fun m23 =>
            (ldS m23 3 r17.1) |> bo fun t25 =>
            (bldX [.int .i64 0, .slice none 0 0, .int .i64 0, .slice none 0 0, .bool false, .int .i64 0] [(3, 3, t25)]) |> bo fun t26 =>
            (stX m23 6 r3.1 t26) |> bo fun m26 =>
            (resP (some 6) m26 r3.1) |> bo fun c27 =>
            retK m.length m26 [t0, t1] c27))
  | _, _ => none
noncomputable def C_impl_LiftKey : List Value → Mem → Option VM := fcall X_impl_LiftKey
@[simp] theorem c_impl_LiftKey : C_impl_LiftKey = fcall X_impl_LiftKey := (rfl)
theorem cok_impl_LiftKey : codeOk CT Try.f45 (Try.f45.body.get rfl) = true := by kernel_rfl
theorem xe_impl_LiftKey (t0 t1 : Value) (m : Mem) : ex CT cf_impl_LiftKey Try.f45 2 m.length [] (fun _ _ _ => none) 400 [.code (Try.f45.body.get rfl)] (argsT 0 [t0, t1]) m = X_impl_LiftKey [t0, t1] m := by kernel_rfl
theorem okc_impl_LiftKey : CallOK CT cf_impl_LiftKey := cfc_ok ok_C_impl_first (cfc_ok ok_C_impl_unless (cfc_ok ok_C_impl_KeyboardFault (cfc_ok ok_C_impl_isKey (cfc_ok ok_C_impl_Keyboard_clone (cfc_ok ok_C_slices_DeleteFunc_impl_Hold_impl_Hold cfn_ok)))))
theorem ok_X_impl_LiftKey : OkX CT 45 X_impl_LiftKey := OkX.of_ex (cf := cf_impl_LiftKey) (np := 2) (LL := []) (J := (fun _ _ _ _ => none)) CT_ok rfl Try.func45 rfl (Nat.le_of_ble_eq_true rfl) (by decide) cok_impl_LiftKey okc_impl_LiftKey (fun k => noLoops rfl) (fun args m r h => match args, h with
    | [t0, t1], h => ⟨rfl, (xe_impl_LiftKey t0 t1 m).trans h⟩)
theorem ok_C_impl_LiftKey : OkC CT 45 C_impl_LiftKey := fcall_ok rfl ok_X_impl_LiftKey

/-! ### laws.eqHold -/
noncomputable def cf_laws_eqHold : CallF := cfn
noncomputable def X_laws_eqHold : List Value → Mem → Option VM
  | [t0, t1], m =>
    (boxX m t0) |> bo fun r1 =>
    (boxX r1.2 t1) |> bo fun r2 =>
    (fadX 0 r1.1) |> bo fun t5 =>
    (ld1 r2.2 t5) |> bo fun t6 =>
    (fadX 0 r2.1) |> bo fun t7 =>
    (ld1 r2.2 t7) |> bo fun t8 =>
    (binX .neq .no t6 t8) |> bo fun t9 =>
    brX t9
      (
        retK m.length r2.2 [t0, t1] (.bool false))
      (
        (fadX 1 r1.1) |> bo fun t10 =>
        (ld1 r2.2 t10) |> bo fun t11 =>
        (fadX 1 r2.1) |> bo fun t12 =>
        (ld1 r2.2 t12) |> bo fun t13 =>
        (binX .neq .no t11 t13) |> bo fun t14 =>
        brX t14
          (
            retK m.length r2.2 [t0, t1] (.bool false))
          (
            retK m.length r2.2 [t0, t1] (.bool true)))
  | _, _ => none
noncomputable def C_laws_eqHold : List Value → Mem → Option VM := fcall X_laws_eqHold
@[simp] theorem c_laws_eqHold : C_laws_eqHold = fcall X_laws_eqHold := (rfl)
theorem cok_laws_eqHold : codeOk CT Try.f168 (Try.f168.body.get rfl) = true := by kernel_rfl
theorem xe_laws_eqHold (t0 t1 : Value) (m : Mem) : ex CT cf_laws_eqHold Try.f168 2 m.length [] (fun _ _ _ => none) 400 [.code (Try.f168.body.get rfl)] (argsT 0 [t0, t1]) m = X_laws_eqHold [t0, t1] m := by kernel_rfl
theorem okc_laws_eqHold : CallOK CT cf_laws_eqHold := cfn_ok
theorem ok_X_laws_eqHold : OkX CT 168 X_laws_eqHold := OkX.of_ex (cf := cf_laws_eqHold) (np := 2) (LL := []) (J := (fun _ _ _ _ => none)) CT_ok rfl Try.func168 rfl (Nat.le_of_ble_eq_true rfl) (by decide) cok_laws_eqHold okc_laws_eqHold (fun k => noLoops rfl) (fun args m r h => match args, h with
    | [t0, t1], h => ⟨rfl, (xe_laws_eqHold t0 t1 m).trans h⟩)
theorem ok_C_laws_eqHold : OkC CT 168 C_laws_eqHold := fcall_ok rfl ok_X_laws_eqHold

/-! ### laws.eqHoldS -/
noncomputable def cf_laws_eqHoldS : CallF := cfc 168 C_laws_eqHold cfn
noncomputable def L_laws_eqHoldS (k : Nat) : Nat → Nat → List Value → Mem → Option VM
  | q + 1, 0, [t0, t1, t5], m =>
    (lenX t0) |> bo fun t13 =>
    (binX .lss .no t5 t13) |> bo fun t14 =>
    brX t14
      (
        (ixaX 2 t0 t5) |> bo fun t19 =>
        (ldS m 2 t19) |> bo fun t20 =>
        (ixaX 2 t1 t5) |> bo fun t23 =>
        (ldS m 2 t23) |> bo fun t24 =>
        (C_laws_eqHold [t20, t24] m) |> bo fun r7 =>
        (uop .not r7.1) |> bo fun t26 =>
        brX t26
          (
            retK k r7.2 [t0, t1] (.bool false))
          (
            (binX .add .no t5 (.int .i64 1)) |> bo fun t16 =>
            cutK k r7.2 [t0, t1] [t0, t1, t16] (L_laws_eqHoldS k q 0)))
      (
        retK k m [t0, t1] (.bool true))
  | _, _, _, _ => none
noncomputable def J_laws_eqHoldS (k q l : Nat) : List Value → Mem → Option VM := cond (Nat.beq l 4) (L_laws_eqHoldS k q 0) (fun _ _ => none)
def LL_laws_eqHoldS : List (Nat × List Tmp) := [(4, [0, 1, 5])]
noncomputable def X_laws_eqHoldS : List Value → Mem → Option VM
  | [t0, t1], m =>
    (lenX t0) |> bo fun t7 =>
    (lenX t1) |> bo fun t9 =>
    (binX .neq .no t7 t9) |> bo fun t10 =>
    brX t10
      (
        retK m.length m [t0, t1] (.bool false))
      (
        cutK m.length m [t0, t1] [t0, t1, (.int .i64 0)] (L_laws_eqHoldS m.length QQ 0))
  | _, _ => none
noncomputable def C_laws_eqHoldS : List Value → Mem → Option VM := fcall X_laws_eqHoldS
@[simp] theorem c_laws_eqHoldS : C_laws_eqHoldS = fcall X_laws_eqHoldS := (rfl)
theorem cok_laws_eqHoldS : codeOk CT Try.f129 (Try.f129.body.get rfl) = true := by kernel_rfl
theorem xe_laws_eqHoldS (t0 t1 : Value) (m : Mem) : ex CT cf_laws_eqHoldS Try.f129 2 m.length LL_laws_eqHoldS (J_laws_eqHoldS m.length QQ) 400 [.code (Try.f129.body.get rfl)] (argsT 0 [t0, t1]) m = X_laws_eqHoldS [t0, t1] m := by kernel_rfl
theorem okc_laws_eqHoldS : CallOK CT cf_laws_eqHoldS := cfc_ok ok_C_laws_eqHold cfn_ok
theorem le_laws_eqHoldS_0 (k q : Nat) (t0 t1 t5 : Value) (m : Mem) : ex CT cf_laws_eqHoldS Try.f129 2 k LL_laws_eqHoldS (J_laws_eqHoldS k q) 400 (atLoop Try.f129 0) [(0, t0), (1, t1), (5, t5)] m = J_laws_eqHoldS k (q + 1) 4 [t0, t1, t5] m := by kernel_rfl
theorem gl_laws_eqHoldS (k : Nat) : ∀ q i, i < 1 → GoodL CT k Try.f129 LL_laws_eqHoldS (J_laws_eqHoldS k q) (atLoop Try.f129 i)
  | 0, 0, _ => goodL_zero (l := 4) (by kernel_rfl) (fun vs m => by kernel_rfl)
  | 0, _ + 1, h => absurd h (by omega)
  | q + 1, 0, _ => goodL_succ (np := 2) (l := 4) (live := [0, 1, 5]) (n := 1) CT_ok rfl okc_laws_eqHoldS (c := (Try.f129.body.get rfl)) rfl cok_laws_eqHoldS (by kernel_rfl) (gl_laws_eqHoldS k q) (by kernel_rfl) rfl (fun vs m r hl h => match vs, hl with
    | [t0, t1, t5], _ => (le_laws_eqHoldS_0 k q t0 t1 t5 m).trans h)
  | _ + 1, _ + 1, h => absurd h (by omega)
theorem ok_X_laws_eqHoldS : OkX CT 129 X_laws_eqHoldS := OkX.of_ex (cf := cf_laws_eqHoldS) (np := 2) (LL := LL_laws_eqHoldS) (J := (fun k => J_laws_eqHoldS k QQ)) CT_ok rfl Try.func129 rfl (Nat.le_of_ble_eq_true rfl) (by decide) cok_laws_eqHoldS okc_laws_eqHoldS (fun k => allLoops rfl (by kernel_rfl) (gl_laws_eqHoldS k QQ)) (fun args m r h => match args, h with
    | [t0, t1], h => ⟨rfl, (xe_laws_eqHoldS t0 t1 m).trans h⟩)
theorem ok_C_laws_eqHoldS : OkC CT 129 C_laws_eqHoldS := fcall_ok rfl ok_X_laws_eqHoldS

/-! ### laws.eqKeyboard -/
noncomputable def cf_laws_eqKeyboard : CallF := cfc 129 C_laws_eqHoldS cfn
noncomputable def X_laws_eqKeyboard : List Value → Mem → Option VM
  | [t0, t1], m =>
    (boxX m t0) |> bo fun r1 =>
    (boxX r1.2 t1) |> bo fun r2 =>
    (fadX 0 r1.1) |> bo fun t5 =>
    (ld1 r2.2 t5) |> bo fun t6 =>
    (fadX 0 r2.1) |> bo fun t7 =>
    (ld1 r2.2 t7) |> bo fun t8 =>
    (C_laws_eqHoldS [t6, t8] r2.2) |> bo fun r7 =>
    (uop .not r7.1) |> bo fun t10 =>
    brX t10
      (
        retK m.length r7.2 [t0, t1] (.bool false))
      (
        (fadX 1 r1.1) |> bo fun t11 =>
        (ld1 r7.2 t11) |> bo fun t12 =>
        (fadX 1 r2.1) |> bo fun t13 =>
        (ld1 r7.2 t13) |> bo fun t14 =>
        (binX .neq .bool t12 t14) |> bo fun t15 =>
        brX t15
          (
            retK m.length r7.2 [t0, t1] (.bool false))
          (
            (fadX 2 r1.1) |> bo fun t16 =>
            (ld1 r7.2 t16) |> bo fun t17 =>
            (fadX 2 r2.1) |> bo fun t18 =>
            (ld1 r7.2 t18) |> bo fun t19 =>
            (binX .neq .no t17 t19) |> bo fun t20 =>
            brX t20
              (
                retK m.length r7.2 [t0, t1] (.bool false))
              (
                retK m.length r7.2 [t0, t1] (.bool true))))
  | _, _ => none
noncomputable def C_laws_eqKeyboard : List Value → Mem → Option VM := fcall X_laws_eqKeyboard
@[simp] theorem c_laws_eqKeyboard : C_laws_eqKeyboard = fcall X_laws_eqKeyboard := (rfl)
theorem cok_laws_eqKeyboard : codeOk CT Try.f47 (Try.f47.body.get rfl) = true := by kernel_rfl
theorem xe_laws_eqKeyboard (t0 t1 : Value) (m : Mem) : ex CT cf_laws_eqKeyboard Try.f47 2 m.length [] (fun _ _ _ => none) 400 [.code (Try.f47.body.get rfl)] (argsT 0 [t0, t1]) m = X_laws_eqKeyboard [t0, t1] m := by kernel_rfl
theorem okc_laws_eqKeyboard : CallOK CT cf_laws_eqKeyboard := cfc_ok ok_C_laws_eqHoldS cfn_ok
theorem ok_X_laws_eqKeyboard : OkX CT 47 X_laws_eqKeyboard := OkX.of_ex (cf := cf_laws_eqKeyboard) (np := 2) (LL := []) (J := (fun _ _ _ _ => none)) CT_ok rfl Try.func47 rfl (Nat.le_of_ble_eq_true rfl) (by decide) cok_laws_eqKeyboard okc_laws_eqKeyboard (fun k => noLoops rfl) (fun args m r h => match args, h with
    | [t0, t1], h => ⟨rfl, (xe_laws_eqKeyboard t0 t1 m).trans h⟩)
theorem ok_C_laws_eqKeyboard : OkC CT 47 C_laws_eqKeyboard := fcall_ok rfl ok_X_laws_eqKeyboard

/-! ### laws.eqByteS -/
noncomputable def cf_laws_eqByteS : CallF := cfn
noncomputable def L_laws_eqByteS (k : Nat) : Nat → Nat → List Value → Mem → Option VM
  | q + 1, 0, [t0, t1, t5], m =>
    (lenX t0) |> bo fun t13 =>
    (binX .lss .no t5 t13) |> bo fun t14 =>
    brX t14
      (
        (ixaX 1 t0 t5) |> bo fun t19 =>
        (ld1 m t19) |> bo fun t20 =>
        (ixaX 1 t1 t5) |> bo fun t23 =>
        (ld1 m t23) |> bo fun t24 =>
        (binX .neq .no t20 t24) |> bo fun t25 =>
        brX t25
          (
            retK k m [t0, t1] (.bool false))
          (
            (binX .add .no t5 (.int .i64 1)) |> bo fun t16 =>
            cutK k m [t0, t1] [t0, t1, t16] (L_laws_eqByteS k q 0)))
      (
        retK k m [t0, t1] (.bool true))
  | _, _, _, _ => none
noncomputable def J_laws_eqByteS (k q l : Nat) : List Value → Mem → Option VM := cond (Nat.beq l 4) (L_laws_eqByteS k q 0) (fun _ _ => none)
def LL_laws_eqByteS : List (Nat × List Tmp) := [(4, [0, 1, 5])]
noncomputable def X_laws_eqByteS : List Value → Mem → Option VM
  | [t0, t1], m =>
    (lenX t0) |> bo fun t7 =>
    (lenX t1) |> bo fun t9 =>
    (binX .neq .no t7 t9) |> bo fun t10 =>
    brX t10
      (
        retK m.length m [t0, t1] (.bool false))
      (
        cutK m.length m [t0, t1] [t0, t1, (.int .i64 0)] (L_laws_eqByteS m.length QQ 0))
  | _, _ => none
noncomputable def C_laws_eqByteS : List Value → Mem → Option VM := fcall X_laws_eqByteS
@[simp] theorem c_laws_eqByteS : C_laws_eqByteS = fcall X_laws_eqByteS := (rfl)
theorem cok_laws_eqByteS : codeOk CT Try.f128 (Try.f128.body.get rfl) = true := by kernel_rfl
theorem xe_laws_eqByteS (t0 t1 : Value) (m : Mem) : ex CT cf_laws_eqByteS Try.f128 2 m.length LL_laws_eqByteS (J_laws_eqByteS m.length QQ) 400 [.code (Try.f128.body.get rfl)] (argsT 0 [t0, t1]) m = X_laws_eqByteS [t0, t1] m := by kernel_rfl
theorem okc_laws_eqByteS : CallOK CT cf_laws_eqByteS := cfn_ok
theorem le_laws_eqByteS_0 (k q : Nat) (t0 t1 t5 : Value) (m : Mem) : ex CT cf_laws_eqByteS Try.f128 2 k LL_laws_eqByteS (J_laws_eqByteS k q) 400 (atLoop Try.f128 0) [(0, t0), (1, t1), (5, t5)] m = J_laws_eqByteS k (q + 1) 4 [t0, t1, t5] m := by kernel_rfl
theorem gl_laws_eqByteS (k : Nat) : ∀ q i, i < 1 → GoodL CT k Try.f128 LL_laws_eqByteS (J_laws_eqByteS k q) (atLoop Try.f128 i)
  | 0, 0, _ => goodL_zero (l := 4) (by kernel_rfl) (fun vs m => by kernel_rfl)
  | 0, _ + 1, h => absurd h (by omega)
  | q + 1, 0, _ => goodL_succ (np := 2) (l := 4) (live := [0, 1, 5]) (n := 1) CT_ok rfl okc_laws_eqByteS (c := (Try.f128.body.get rfl)) rfl cok_laws_eqByteS (by kernel_rfl) (gl_laws_eqByteS k q) (by kernel_rfl) rfl (fun vs m r hl h => match vs, hl with
    | [t0, t1, t5], _ => (le_laws_eqByteS_0 k q t0 t1 t5 m).trans h)
  | _ + 1, _ + 1, h => absurd h (by omega)
theorem ok_X_laws_eqByteS : OkX CT 128 X_laws_eqByteS := OkX.of_ex (cf := cf_laws_eqByteS) (np := 2) (LL := LL_laws_eqByteS) (J := (fun k => J_laws_eqByteS k QQ)) CT_ok rfl Try.func128 rfl (Nat.le_of_ble_eq_true rfl) (by decide) cok_laws_eqByteS okc_laws_eqByteS (fun k => allLoops rfl (by kernel_rfl) (gl_laws_eqByteS k QQ)) (fun args m r h => match args, h with
    | [t0, t1], h => ⟨rfl, (xe_laws_eqByteS t0 t1 m).trans h⟩)
theorem ok_C_laws_eqByteS : OkC CT 128 C_laws_eqByteS := fcall_ok rfl ok_X_laws_eqByteS

/-! ### laws.eqKeyResult -/
noncomputable def cf_laws_eqKeyResult : CallF := cfc 47 C_laws_eqKeyboard (cfc 128 C_laws_eqByteS cfn)
noncomputable def X_laws_eqKeyResult : List Value → Mem → Option VM
  | [t0, t1], m =>
    (boxX m t0) |> bo fun r1 =>
    (boxX r1.2 t1) |> bo fun r2 =>
    (fadX 0 r1.1) |> bo fun t5 =>
    (ld1 r2.2 t5) |> bo fun t6 =>
    (fadX 0 r2.1) |> bo fun t7 =>
    (ld1 r2.2 t7) |> bo fun t8 =>
    (binX .neq .no t6 t8) |> bo fun t9 =>
    brX t9
      (
        retK m.length r2.2 [t0, t1] (.bool false))
      (
        (fadX 1 r1.1) |> bo fun t10 =>
        (ld1 r2.2 t10) |> bo fun t11 =>
        (fadX 1 r2.1) |> bo fun t12 =>
        (ld1 r2.2 t12) |> bo fun t13 =>
        (C_laws_eqByteS [t11, t13] r2.2) |> bo fun r12 =>
        (uop .not r12.1) |> bo fun t15 =>
        brX t15
          (
            retK m.length r12.2 [t0, t1] (.bool false))
          (
            (fadX 2 r1.1) |> bo fun t16 =>
            (ld1 r12.2 t16) |> bo fun t17 =>
            (fadX 2 r2.1) |> bo fun t18 =>
            (ld1 r12.2 t18) |> bo fun t19 =>
            (binX .neq .no t17 t19) |> bo fun t20 =>
            brX t20
              (
                retK m.length r12.2 [t0, t1] (.bool false))
              (
                (fadX 3 r1.1) |> bo fun t21 =>
                (ldS r12.2 3 t21) |> bo fun t22 =>
                (fadX 3 r2.1) |> bo fun t23 =>
                (ldS r12.2 3 t23) |> bo fun t24 =>
                (C_laws_eqKeyboard [t22, t24] r12.2) |> bo fun r23 =>
                (uop .not r23.1) |> bo fun t26 =>
                brX t26
                  (
                    retK m.length r23.2 [t0, t1] (.bool false))
                  (
                    retK m.length r23.2 [t0, t1] (.bool true)))))
  | _, _ => none
noncomputable def C_laws_eqKeyResult : List Value → Mem → Option VM := fcall X_laws_eqKeyResult
@[simp] theorem c_laws_eqKeyResult : C_laws_eqKeyResult = fcall X_laws_eqKeyResult := (rfl)
theorem cok_laws_eqKeyResult : codeOk CT Try.f46 (Try.f46.body.get rfl) = true := by kernel_rfl
theorem xe_laws_eqKeyResult (t0 t1 : Value) (m : Mem) : ex CT cf_laws_eqKeyResult Try.f46 2 m.length [] (fun _ _ _ => none) 400 [.code (Try.f46.body.get rfl)] (argsT 0 [t0, t1]) m = X_laws_eqKeyResult [t0, t1] m := by kernel_rfl
theorem okc_laws_eqKeyResult : CallOK CT cf_laws_eqKeyResult := cfc_ok ok_C_laws_eqKeyboard (cfc_ok ok_C_laws_eqByteS cfn_ok)
theorem ok_X_laws_eqKeyResult : OkX CT 46 X_laws_eqKeyResult := OkX.of_ex (cf := cf_laws_eqKeyResult) (np := 2) (LL := []) (J := (fun _ _ _ _ => none)) CT_ok rfl Try.func46 rfl (Nat.le_of_ble_eq_true rfl) (by decide) cok_laws_eqKeyResult okc_laws_eqKeyResult (fun k => noLoops rfl) (fun args m r h => match args, h with
    | [t0, t1], h => ⟨rfl, (xe_laws_eqKeyResult t0 t1 m).trans h⟩)
theorem ok_C_laws_eqKeyResult : OkC CT 46 C_laws_eqKeyResult := fcall_ok rfl ok_X_laws_eqKeyResult

/-! ### laws.markHoldS -/
noncomputable def cf_laws_markHoldS : CallF := cfn
noncomputable def L_laws_markHoldS (k : Nat) : Nat → Nat → List Value → Mem → Option VM
  | q + 1, 0, [t0, t1, t5], m =>
    (lenX t0) |> bo fun t8 =>
    (binX .lss .no t5 t8) |> bo fun t9 =>
    brX t9
      (
        (ixaX 2 t0 t5) |> bo fun t15 =>
        (fadX 0 t15) |> bo fun t16 =>
        (stX m 1 t16 t1) |> bo fun m5 =>
        (binX .add .no t1 (.int .i64 1)) |> bo fun t18 =>
        (ixaX 2 t0 t5) |> bo fun t22 =>
        (fadX 1 t22) |> bo fun t23 =>
        (stX m5 1 t23 t18) |> bo fun m9 =>
        (binX .add .no t18 (.int .i64 1)) |> bo fun t25 =>
        (binX .add .no t5 (.int .i64 1)) |> bo fun t11 =>
        cutK k m9 [t0, t25] [t0, t25, t11] (L_laws_markHoldS k q 0))
      (
        retK k m [t0, t1] t1)
  | _, _, _, _ => none
noncomputable def J_laws_markHoldS (k q l : Nat) : List Value → Mem → Option VM := cond (Nat.beq l 2) (L_laws_markHoldS k q 0) (fun _ _ => none)
def LL_laws_markHoldS : List (Nat × List Tmp) := [(2, [0, 1, 5])]
noncomputable def X_laws_markHoldS : List Value → Mem → Option VM
  | [t0, t1], m =>
    cutK m.length m [t0, t1] [t0, t1, (.int .i64 0)] (L_laws_markHoldS m.length QQ 0)
  | _, _ => none
noncomputable def C_laws_markHoldS : List Value → Mem → Option VM := rcall X_laws_markHoldS
@[simp] theorem c_laws_markHoldS : C_laws_markHoldS = rcall X_laws_markHoldS := (rfl)
theorem cok_laws_markHoldS : codeOk CT Try.f130 (Try.f130.body.get rfl) = true := by kernel_rfl
theorem xe_laws_markHoldS (t0 t1 : Value) (m : Mem) : ex CT cf_laws_markHoldS Try.f130 2 m.length LL_laws_markHoldS (J_laws_markHoldS m.length QQ) 400 [.code (Try.f130.body.get rfl)] (argsT 0 [t0, t1]) m = X_laws_markHoldS [t0, t1] m := by kernel_rfl
theorem okc_laws_markHoldS : CallOK CT cf_laws_markHoldS := cfn_ok
theorem le_laws_markHoldS_0 (k q : Nat) (t0 t1 t5 : Value) (m : Mem) : ex CT cf_laws_markHoldS Try.f130 2 k LL_laws_markHoldS (J_laws_markHoldS k q) 400 (atLoop Try.f130 0) [(0, t0), (1, t1), (5, t5)] m = J_laws_markHoldS k (q + 1) 2 [t0, t1, t5] m := by kernel_rfl
theorem gl_laws_markHoldS (k : Nat) : ∀ q i, i < 1 → GoodL CT k Try.f130 LL_laws_markHoldS (J_laws_markHoldS k q) (atLoop Try.f130 i)
  | 0, 0, _ => goodL_zero (l := 2) (by kernel_rfl) (fun vs m => by kernel_rfl)
  | 0, _ + 1, h => absurd h (by omega)
  | q + 1, 0, _ => goodL_succ (np := 2) (l := 2) (live := [0, 1, 5]) (n := 1) CT_ok rfl okc_laws_markHoldS (c := (Try.f130.body.get rfl)) rfl cok_laws_markHoldS (by kernel_rfl) (gl_laws_markHoldS k q) (by kernel_rfl) rfl (fun vs m r hl h => match vs, hl with
    | [t0, t1, t5], _ => (le_laws_markHoldS_0 k q t0 t1 t5 m).trans h)
  | _ + 1, _ + 1, h => absurd h (by omega)
theorem ok_X_laws_markHoldS : OkX CT 130 X_laws_markHoldS := OkX.of_ex (cf := cf_laws_markHoldS) (np := 2) (LL := LL_laws_markHoldS) (J := (fun k => J_laws_markHoldS k QQ)) CT_ok rfl Try.func130 rfl (Nat.le_of_ble_eq_true rfl) (by decide) cok_laws_markHoldS okc_laws_markHoldS (fun k => allLoops rfl (by kernel_rfl) (gl_laws_markHoldS k QQ)) (fun args m r h => match args, h with
    | [t0, t1], h => ⟨rfl, (xe_laws_markHoldS t0 t1 m).trans h⟩)
theorem ok_C_laws_markHoldS : OkC CT 130 C_laws_markHoldS := rcall_ok rfl ok_X_laws_markHoldS

/-! ### laws.markKeyboard -/
noncomputable def cf_laws_markKeyboard : CallF := cfc 130 C_laws_markHoldS cfn
noncomputable def X_laws_markKeyboard : List Value → Mem → Option VM
  | [t0, t1], m =>
    (boxX m t0) |> bo fun r1 =>
    (fadX 0 r1.1) |> bo fun t5 =>
    (ld1 r1.2 t5) |> bo fun t6 =>
    (C_laws_markHoldS [t6, t1] r1.2) |> bo fun r4 =>
    retK m.length r4.2 [t0, r4.1] r4.1
  | _, _ => none
noncomputable def C_laws_markKeyboard : List Value → Mem → Option VM := rcall X_laws_markKeyboard
@[simp] theorem c_laws_markKeyboard : C_laws_markKeyboard = rcall X_laws_markKeyboard := (rfl)
theorem cok_laws_markKeyboard : codeOk CT Try.f48 (Try.f48.body.get rfl) = true := by kernel_rfl
theorem xe_laws_markKeyboard (t0 t1 : Value) (m : Mem) : ex CT cf_laws_markKeyboard Try.f48 2 m.length [] (fun _ _ _ => none) 400 [.code (Try.f48.body.get rfl)] (argsT 0 [t0, t1]) m = X_laws_markKeyboard [t0, t1] m := by kernel_rfl
theorem okc_laws_markKeyboard : CallOK CT cf_laws_markKeyboard := cfc_ok ok_C_laws_markHoldS cfn_ok
theorem ok_X_laws_markKeyboard : OkX CT 48 X_laws_markKeyboard := OkX.of_ex (cf := cf_laws_markKeyboard) (np := 2) (LL := []) (J := (fun _ _ _ _ => none)) CT_ok rfl Try.func48 rfl (Nat.le_of_ble_eq_true rfl) (by decide) cok_laws_markKeyboard okc_laws_markKeyboard (fun k => noLoops rfl) (fun args m r h => match args, h with
    | [t0, t1], h => ⟨rfl, (xe_laws_markKeyboard t0 t1 m).trans h⟩)
theorem ok_C_laws_markKeyboard : OkC CT 48 C_laws_markKeyboard := rcall_ok rfl ok_X_laws_markKeyboard

/-! ### laws.markByteS -/
noncomputable def cf_laws_markByteS : CallF := cfn
noncomputable def L_laws_markByteS (k : Nat) : Nat → Nat → List Value → Mem → Option VM
  | q + 1, 0, [t0, t1, t5], m =>
    (lenX t0) |> bo fun t8 =>
    (binX .lss .no t5 t8) |> bo fun t9 =>
    brX t9
      (
        (cvI .u8 t1) |> bo fun t15 =>
        (ixaX 1 t0 t5) |> bo fun t16 =>
        (stX m 1 t16 t15) |> bo fun m5 =>
        (binX .add .no t1 (.int .i64 1)) |> bo fun t18 =>
        (binX .add .no t5 (.int .i64 1)) |> bo fun t11 =>
        cutK k m5 [t0, t18] [t0, t18, t11] (L_laws_markByteS k q 0))
      (
        retK k m [t0, t1] t1)
  | _, _, _, _ => none
noncomputable def J_laws_markByteS (k q l : Nat) : List Value → Mem → Option VM := cond (Nat.beq l 2) (L_laws_markByteS k q 0) (fun _ _ => none)
def LL_laws_markByteS : List (Nat × List Tmp) := [(2, [0, 1, 5])]
noncomputable def X_laws_markByteS : List Value → Mem → Option VM
  | [t0, t1], m =>
    cutK m.length m [t0, t1] [t0, t1, (.int .i64 0)] (L_laws_markByteS m.length QQ 0)
  | _, _ => none
noncomputable def C_laws_markByteS : List Value → Mem → Option VM := rcall X_laws_markByteS
@[simp] theorem c_laws_markByteS : C_laws_markByteS = rcall X_laws_markByteS := (rfl)
theorem cok_laws_markByteS : codeOk CT Try.f131 (Try.f131.body.get rfl) = true := by kernel_rfl
theorem xe_laws_markByteS (t0 t1 : Value) (m : Mem) : ex CT cf_laws_markByteS Try.f131 2 m.length LL_laws_markByteS (J_laws_markByteS m.length QQ) 400 [.code (Try.f131.body.get rfl)] (argsT 0 [t0, t1]) m = X_laws_markByteS [t0, t1] m := by kernel_rfl
theorem okc_laws_markByteS : CallOK CT cf_laws_markByteS := cfn_ok
theorem le_laws_markByteS_0 (k q : Nat) (t0 t1 t5 : Value) (m : Mem) : ex CT cf_laws_markByteS Try.f131 2 k LL_laws_markByteS (J_laws_markByteS k q) 400 (atLoop Try.f131 0) [(0, t0), (1, t1), (5, t5)] m = J_laws_markByteS k (q + 1) 2 [t0, t1, t5] m := by kernel_rfl
theorem gl_laws_markByteS (k : Nat) : ∀ q i, i < 1 → GoodL CT k Try.f131 LL_laws_markByteS (J_laws_markByteS k q) (atLoop Try.f131 i)
  | 0, 0, _ => goodL_zero (l := 2) (by kernel_rfl) (fun vs m => by kernel_rfl)
  | 0, _ + 1, h => absurd h (by omega)
  | q + 1, 0, _ => goodL_succ (np := 2) (l := 2) (live := [0, 1, 5]) (n := 1) CT_ok rfl okc_laws_markByteS (c := (Try.f131.body.get rfl)) rfl cok_laws_markByteS (by kernel_rfl) (gl_laws_markByteS k q) (by kernel_rfl) rfl (fun vs m r hl h => match vs, hl with
    | [t0, t1, t5], _ => (le_laws_markByteS_0 k q t0 t1 t5 m).trans h)
  | _ + 1, _ + 1, h => absurd h (by omega)
theorem ok_X_laws_markByteS : OkX CT 131 X_laws_markByteS := OkX.of_ex (cf := cf_laws_markByteS) (np := 2) (LL := LL_laws_markByteS) (J := (fun k => J_laws_markByteS k QQ)) CT_ok rfl Try.func131 rfl (Nat.le_of_ble_eq_true rfl) (by decide) cok_laws_markByteS okc_laws_markByteS (fun k => allLoops rfl (by kernel_rfl) (gl_laws_markByteS k QQ)) (fun args m r h => match args, h with
    | [t0, t1], h => ⟨rfl, (xe_laws_markByteS t0 t1 m).trans h⟩)
theorem ok_C_laws_markByteS : OkC CT 131 C_laws_markByteS := rcall_ok rfl ok_X_laws_markByteS

/-! ### laws.markKeyResult -/
noncomputable def cf_laws_markKeyResult : CallF := cfc 48 C_laws_markKeyboard (cfc 131 C_laws_markByteS cfn)
noncomputable def X_laws_markKeyResult : List Value → Mem → Option VM
  | [t0, t1], m =>
    (boxX m t0) |> bo fun r1 =>
    (fadX 1 r1.1) |> bo fun t5 =>
    (ld1 r1.2 t5) |> bo fun t6 =>
    (C_laws_markByteS [t6, t1] r1.2) |> bo fun r4 =>
    (fadX 3 r1.1) |> bo fun t9 =>
    (ldS r4.2 3 t9) |> bo fun t10 =>
    (C_laws_markKeyboard [t10, r4.1] r4.2) |> bo fun r7 =>
    retK m.length r7.2 [t0, r7.1] r7.1
  | _, _ => none
noncomputable def C_laws_markKeyResult : List Value → Mem → Option VM := rcall X_laws_markKeyResult
@[simp] theorem c_laws_markKeyResult : C_laws_markKeyResult = rcall X_laws_markKeyResult := (rfl)
theorem cok_laws_markKeyResult : codeOk CT Try.f49 (Try.f49.body.get rfl) = true := by kernel_rfl
theorem xe_laws_markKeyResult (t0 t1 : Value) (m : Mem) : ex CT cf_laws_markKeyResult Try.f49 2 m.length [] (fun _ _ _ => none) 400 [.code (Try.f49.body.get rfl)] (argsT 0 [t0, t1]) m = X_laws_markKeyResult [t0, t1] m := by kernel_rfl
theorem okc_laws_markKeyResult : CallOK CT cf_laws_markKeyResult := cfc_ok ok_C_laws_markKeyboard (cfc_ok ok_C_laws_markByteS cfn_ok)
theorem ok_X_laws_markKeyResult : OkX CT 49 X_laws_markKeyResult := OkX.of_ex (cf := cf_laws_markKeyResult) (np := 2) (LL := []) (J := (fun _ _ _ _ => none)) CT_ok rfl Try.func49 rfl (Nat.le_of_ble_eq_true rfl) (by decide) cok_laws_markKeyResult okc_laws_markKeyResult (fun k => noLoops rfl) (fun args m r h => match args, h with
    | [t0, t1], h => ⟨rfl, (xe_laws_markKeyResult t0 t1 m).trans h⟩)
theorem ok_C_laws_markKeyResult : OkC CT 49 C_laws_markKeyResult := rcall_ok rfl ok_X_laws_markKeyResult

/-! ### laws.heldByteS -/
noncomputable def cf_laws_heldByteS : CallF := cfn
noncomputable def L_laws_heldByteS (k : Nat) : Nat → Nat → List Value → Mem → Option VM
  | q + 1, 0, [t0, t1, t5], m =>
    (lenX t0) |> bo fun t8 =>
    (binX .lss .no t5 t8) |> bo fun t9 =>
    brX t9
      (
        (ixaX 1 t0 t5) |> bo fun t14 =>
        (ld1 m t14) |> bo fun t15 =>
        (cvI .u8 t1) |> bo fun t17 =>
        (binX .neq .no t15 t17) |> bo fun t18 =>
        brX t18
          (
            retK k m [t0, t1] (.int .i64 (-1)))
          (
            (binX .add .no t1 (.int .i64 1)) |> bo fun t20 =>
            (binX .add .no t5 (.int .i64 1)) |> bo fun t11 =>
            cutK k m [t0, t20] [t0, t20, t11] (L_laws_heldByteS k q 0)))
      (
        retK k m [t0, t1] t1)
  | _, _, _, _ => none
noncomputable def J_laws_heldByteS (k q l : Nat) : List Value → Mem → Option VM := cond (Nat.beq l 2) (L_laws_heldByteS k q 0) (fun _ _ => none)
def LL_laws_heldByteS : List (Nat × List Tmp) := [(2, [0, 1, 5])]
noncomputable def X_laws_heldByteS : List Value → Mem → Option VM
  | [t0, t1], m =>
    cutK m.length m [t0, t1] [t0, t1, (.int .i64 0)] (L_laws_heldByteS m.length QQ 0)
  | _, _ => none
noncomputable def C_laws_heldByteS : List Value → Mem → Option VM := fcall X_laws_heldByteS
@[simp] theorem c_laws_heldByteS : C_laws_heldByteS = fcall X_laws_heldByteS := (rfl)
theorem cok_laws_heldByteS : codeOk CT Try.f132 (Try.f132.body.get rfl) = true := by kernel_rfl
theorem xe_laws_heldByteS (t0 t1 : Value) (m : Mem) : ex CT cf_laws_heldByteS Try.f132 2 m.length LL_laws_heldByteS (J_laws_heldByteS m.length QQ) 400 [.code (Try.f132.body.get rfl)] (argsT 0 [t0, t1]) m = X_laws_heldByteS [t0, t1] m := by kernel_rfl
theorem okc_laws_heldByteS : CallOK CT cf_laws_heldByteS := cfn_ok
theorem le_laws_heldByteS_0 (k q : Nat) (t0 t1 t5 : Value) (m : Mem) : ex CT cf_laws_heldByteS Try.f132 2 k LL_laws_heldByteS (J_laws_heldByteS k q) 400 (atLoop Try.f132 0) [(0, t0), (1, t1), (5, t5)] m = J_laws_heldByteS k (q + 1) 2 [t0, t1, t5] m := by kernel_rfl
theorem gl_laws_heldByteS (k : Nat) : ∀ q i, i < 1 → GoodL CT k Try.f132 LL_laws_heldByteS (J_laws_heldByteS k q) (atLoop Try.f132 i)
  | 0, 0, _ => goodL_zero (l := 2) (by kernel_rfl) (fun vs m => by kernel_rfl)
  | 0, _ + 1, h => absurd h (by omega)
  | q + 1, 0, _ => goodL_succ (np := 2) (l := 2) (live := [0, 1, 5]) (n := 1) CT_ok rfl okc_laws_heldByteS (c := (Try.f132.body.get rfl)) rfl cok_laws_heldByteS (by kernel_rfl) (gl_laws_heldByteS k q) (by kernel_rfl) rfl (fun vs m r hl h => match vs, hl with
    | [t0, t1, t5], _ => (le_laws_heldByteS_0 k q t0 t1 t5 m).trans h)
  | _ + 1, _ + 1, h => absurd h (by omega)
theorem ok_X_laws_heldByteS : OkX CT 132 X_laws_heldByteS := OkX.of_ex (cf := cf_laws_heldByteS) (np := 2) (LL := LL_laws_heldByteS) (J := (fun k => J_laws_heldByteS k QQ)) CT_ok rfl Try.func132 rfl (Nat.le_of_ble_eq_true rfl) (by decide) cok_laws_heldByteS okc_laws_heldByteS (fun k => allLoops rfl (by kernel_rfl) (gl_laws_heldByteS k QQ)) (fun args m r h => match args, h with
    | [t0, t1], h => ⟨rfl, (xe_laws_heldByteS t0 t1 m).trans h⟩)
theorem ok_C_laws_heldByteS : OkC CT 132 C_laws_heldByteS := fcall_ok rfl ok_X_laws_heldByteS

/-! ### laws.heldHoldS -/
noncomputable def cf_laws_heldHoldS : CallF := cfn
noncomputable def L_laws_heldHoldS (k : Nat) : Nat → Nat → List Value → Mem → Option VM
  | q + 1, 0, [t0, t1, t5], m =>
    (lenX t0) |> bo fun t8 =>
    (binX .lss .no t5 t8) |> bo fun t9 =>
    brX t9
      (
        (ixaX 2 t0 t5) |> bo fun t14 =>
        (fadX 0 t14) |> bo fun t15 =>
        (ld1 m t15) |> bo fun t16 =>
        (binX .neq .no t16 t1) |> bo fun t18 =>
        brX t18
          (
            retK k m [t0, t1] (.int .i64 (-1)))
          (
            (binX .add .no t1 (.int .i64 1)) |> bo fun t20 =>
            (ixaX 2 t0 t5) |> bo fun t23 =>
            (fadX 1 t23) |> bo fun t24 =>
            (ld1 m t24) |> bo fun t25 =>
            (binX .neq .no t25 t20) |> bo fun t27 =>
            brX t27
              (
                retK k m [t0, t20] (.int .i64 (-1)))
              (
                (binX .add .no t20 (.int .i64 1)) |> bo fun t29 =>
                (binX .add .no t5 (.int .i64 1)) |> bo fun t11 =>
                cutK k m [t0, t29] [t0, t29, t11] (L_laws_heldHoldS k q 0))))
      (
        retK k m [t0, t1] t1)
  | _, _, _, _ => none
noncomputable def J_laws_heldHoldS (k q l : Nat) : List Value → Mem → Option VM := cond (Nat.beq l 2) (L_laws_heldHoldS k q 0) (fun _ _ => none)
def LL_laws_heldHoldS : List (Nat × List Tmp) := [(2, [0, 1, 5])]
noncomputable def X_laws_heldHoldS : List Value → Mem → Option VM
  | [t0, t1], m =>
    cutK m.length m [t0, t1] [t0, t1, (.int .i64 0)] (L_laws_heldHoldS m.length QQ 0)
  | _, _ => none
noncomputable def C_laws_heldHoldS : List Value → Mem → Option VM := fcall X_laws_heldHoldS
@[simp] theorem c_laws_heldHoldS : C_laws_heldHoldS = fcall X_laws_heldHoldS := (rfl)
theorem cok_laws_heldHoldS : codeOk CT Try.f169 (Try.f169.body.get rfl) = true := by kernel_rfl
theorem xe_laws_heldHoldS (t0 t1 : Value) (m : Mem) : ex CT cf_laws_heldHoldS Try.f169 2 m.length LL_laws_heldHoldS (J_laws_heldHoldS m.length QQ) 400 [.code (Try.f169.body.get rfl)] (argsT 0 [t0, t1]) m = X_laws_heldHoldS [t0, t1] m := by kernel_rfl
theorem okc_laws_heldHoldS : CallOK CT cf_laws_heldHoldS := cfn_ok
theorem le_laws_heldHoldS_0 (k q : Nat) (t0 t1 t5 : Value) (m : Mem) : ex CT cf_laws_heldHoldS Try.f169 2 k LL_laws_heldHoldS (J_laws_heldHoldS k q) 400 (atLoop Try.f169 0) [(0, t0), (1, t1), (5, t5)] m = J_laws_heldHoldS k (q + 1) 2 [t0, t1, t5] m := by kernel_rfl
theorem gl_laws_heldHoldS (k : Nat) : ∀ q i, i < 1 → GoodL CT k Try.f169 LL_laws_heldHoldS (J_laws_heldHoldS k q) (atLoop Try.f169 i)
  | 0, 0, _ => goodL_zero (l := 2) (by kernel_rfl) (fun vs m => by kernel_rfl)
  | 0, _ + 1, h => absurd h (by omega)
  | q + 1, 0, _ => goodL_succ (np := 2) (l := 2) (live := [0, 1, 5]) (n := 1) CT_ok rfl okc_laws_heldHoldS (c := (Try.f169.body.get rfl)) rfl cok_laws_heldHoldS (by kernel_rfl) (gl_laws_heldHoldS k q) (by kernel_rfl) rfl (fun vs m r hl h => match vs, hl with
    | [t0, t1, t5], _ => (le_laws_heldHoldS_0 k q t0 t1 t5 m).trans h)
  | _ + 1, _ + 1, h => absurd h (by omega)
theorem ok_X_laws_heldHoldS : OkX CT 169 X_laws_heldHoldS := OkX.of_ex (cf := cf_laws_heldHoldS) (np := 2) (LL := LL_laws_heldHoldS) (J := (fun k => J_laws_heldHoldS k QQ)) CT_ok rfl Try.func169 rfl (Nat.le_of_ble_eq_true rfl) (by decide) cok_laws_heldHoldS okc_laws_heldHoldS (fun k => allLoops rfl (by kernel_rfl) (gl_laws_heldHoldS k QQ)) (fun args m r h => match args, h with
    | [t0, t1], h => ⟨rfl, (xe_laws_heldHoldS t0 t1 m).trans h⟩)
theorem ok_C_laws_heldHoldS : OkC CT 169 C_laws_heldHoldS := fcall_ok rfl ok_X_laws_heldHoldS

/-! ### laws.heldKeyboard -/
noncomputable def cf_laws_heldKeyboard : CallF := cfc 169 C_laws_heldHoldS cfn
noncomputable def X_laws_heldKeyboard : List Value → Mem → Option VM
  | [t0, t1], m =>
    (boxX m t0) |> bo fun r1 =>
    (fadX 0 r1.1) |> bo fun t5 =>
    (ld1 r1.2 t5) |> bo fun t6 =>
    (C_laws_heldHoldS [t6, t1] r1.2) |> bo fun r4 =>
    (binX .lss .no r4.1 (.int .i64 0)) |> bo fun t10 =>
    brX t10
      (
        retK m.length r4.2 [t0, r4.1] (.int .i64 (-1)))
      (
        retK m.length r4.2 [t0, r4.1] r4.1)
  | _, _ => none
noncomputable def C_laws_heldKeyboard : List Value → Mem → Option VM := fcall X_laws_heldKeyboard
@[simp] theorem c_laws_heldKeyboard : C_laws_heldKeyboard = fcall X_laws_heldKeyboard := (rfl)
theorem cok_laws_heldKeyboard : codeOk CT Try.f133 (Try.f133.body.get rfl) = true := by kernel_rfl
theorem xe_laws_heldKeyboard (t0 t1 : Value) (m : Mem) : ex CT cf_laws_heldKeyboard Try.f133 2 m.length [] (fun _ _ _ => none) 400 [.code (Try.f133.body.get rfl)] (argsT 0 [t0, t1]) m = X_laws_heldKeyboard [t0, t1] m := by kernel_rfl
theorem okc_laws_heldKeyboard : CallOK CT cf_laws_heldKeyboard := cfc_ok ok_C_laws_heldHoldS cfn_ok
theorem ok_X_laws_heldKeyboard : OkX CT 133 X_laws_heldKeyboard := OkX.of_ex (cf := cf_laws_heldKeyboard) (np := 2) (LL := []) (J := (fun _ _ _ _ => none)) CT_ok rfl Try.func133 rfl (Nat.le_of_ble_eq_true rfl) (by decide) cok_laws_heldKeyboard okc_laws_heldKeyboard (fun k => noLoops rfl) (fun args m r h => match args, h with
    | [t0, t1], h => ⟨rfl, (xe_laws_heldKeyboard t0 t1 m).trans h⟩)
theorem ok_C_laws_heldKeyboard : OkC CT 133 C_laws_heldKeyboard := fcall_ok rfl ok_X_laws_heldKeyboard

/-! ### laws.heldKeyResult -/
noncomputable def cf_laws_heldKeyResult : CallF := cfc 132 C_laws_heldByteS (cfc 133 C_laws_heldKeyboard cfn)
noncomputable def X_laws_heldKeyResult : List Value → Mem → Option VM
  | [t0, t1], m =>
    (boxX m t0) |> bo fun r1 =>
    (fadX 1 r1.1) |> bo fun t5 =>
    (ld1 r1.2 t5) |> bo fun t6 =>
    (C_laws_heldByteS [t6, t1] r1.2) |> bo fun r4 =>
    (binX .lss .no r4.1 (.int .i64 0)) |> bo fun t10 =>
    brX t10
      (
        retK m.length r4.2 [t0, r4.1] (.int .i64 (-1)))
      (
        (fadX 3 r1.1) |> bo fun t11 =>
        (ldS r4.2 3 t11) |> bo fun t12 =>
        (C_laws_heldKeyboard [t12, r4.1] r4.2) |> bo fun r8 =>
        (binX .lss .no r8.1 (.int .i64 0)) |> bo fun t16 =>
        brX t16
          (
            retK m.length r8.2 [t0, r8.1] (.int .i64 (-1)))
          (
            retK m.length r8.2 [t0, r8.1] r8.1))
  | _, _ => none
noncomputable def C_laws_heldKeyResult : List Value → Mem → Option VM := fcall X_laws_heldKeyResult
@[simp] theorem c_laws_heldKeyResult : C_laws_heldKeyResult = fcall X_laws_heldKeyResult := (rfl)
theorem cok_laws_heldKeyResult : codeOk CT Try.f50 (Try.f50.body.get rfl) = true := by kernel_rfl
theorem xe_laws_heldKeyResult (t0 t1 : Value) (m : Mem) : ex CT cf_laws_heldKeyResult Try.f50 2 m.length [] (fun _ _ _ => none) 400 [.code (Try.f50.body.get rfl)] (argsT 0 [t0, t1]) m = X_laws_heldKeyResult [t0, t1] m := by kernel_rfl
theorem okc_laws_heldKeyResult : CallOK CT cf_laws_heldKeyResult := cfc_ok ok_C_laws_heldByteS (cfc_ok ok_C_laws_heldKeyboard cfn_ok)
theorem ok_X_laws_heldKeyResult : OkX CT 50 X_laws_heldKeyResult := OkX.of_ex (cf := cf_laws_heldKeyResult) (np := 2) (LL := []) (J := (fun _ _ _ _ => none)) CT_ok rfl Try.func50 rfl (Nat.le_of_ble_eq_true rfl) (by decide) cok_laws_heldKeyResult okc_laws_heldKeyResult (fun k => noLoops rfl) (fun args m r h => match args, h with
    | [t0, t1], h => ⟨rfl, (xe_laws_heldKeyResult t0 t1 m).trans h⟩)
theorem ok_C_laws_heldKeyResult : OkC CT 50 C_laws_heldKeyResult := fcall_ok rfl ok_X_laws_heldKeyResult

/-! ### laws.FnExactLiftKey -/
noncomputable def cf_laws_FnExactLiftKey : CallF := cfc 42 C_laws_szKeyboard (cfc 43 C_spec_LiftKey (cfc 44 C_laws_toKeyboard (cfc 45 C_impl_LiftKey (cfc 46 C_laws_eqKeyResult (cfc 47 C_laws_eqKeyboard (cfc 48 C_laws_markKeyboard (cfc 49 C_laws_markKeyResult (cfc 50 C_laws_heldKeyResult cfn))))))))
noncomputable def X_laws_FnExactLiftKey : List Value → Mem → Option VM
  | [t0, t1], m =>
    (boxX m t0) |> bo fun r1 =>
    (ldS r1.2 3 r1.1) |> bo fun t13 =>
    (C_laws_szKeyboard [t13, (.int .i64 1048576)] r1.2) |> bo fun r3 =>
    (binX .lss .no r3.1 (.int .i64 0)) |> bo fun t17 =>
    brX t17
      (
        retK m.length r3.2 [t0, t1] (.bool true))
      (
        (ldS r3.2 3 r1.1) |> bo fun t18 =>
        (C_laws_toKeyboard [t18] r3.2) |> bo fun r6 =>
        (C_spec_LiftKey [r6.1, t1] r6.2) |> bo fun r7 =>
        (alX r7.2 [.int .i64 0, .slice none 0 0, .int .i64 0, .slice none 0 0, .bool false, .int .i64 0]) |> bo fun r8 =>
        (stX r8.2 6 r8.1 r7.1) |> bo fun m9 =>
        (ldS m9 3 r1.1) |> bo fun t22 =>
        (C_laws_toKeyboard [t22] m9) |> bo fun r11 =>
        (alX r11.2 [.slice none 0 0, .bool false, .int .i64 0]) |> bo fun r12 =>
        (stX r12.2 3 r12.1 r11.1) |> bo fun m13 =>
        (ldS m13 3 r12.1) |> bo fun t24 =>
        (C_impl_LiftKey [t24, t1] m13) |> bo fun r15 =>
        (alX r15.2 [.int .i64 0, .slice none 0 0, .int .i64 0, .slice none 0 0, .bool false, .int .i64 0]) |> bo fun r16 =>
        (stX r16.2 6 r16.1 r15.1) |> bo fun m17 =>
        (ldS m17 6 r16.1) |> bo fun t27 =>
        (ldS m17 6 r8.1) |> bo fun t28 =>
        (C_laws_eqKeyResult [t27, t28] m17) |> bo fun r20 =>
        (uop .not r20.1) |> bo fun t30 =>
        brX t30
          (
            retK m.length r20.2 [t0, t1] (.bool false))
          (
            (ldS r20.2 3 r12.1) |> bo fun t31 =>
            (ldS r20.2 3 r1.1) |> bo fun t32 =>
            (C_laws_toKeyboard [t32] r20.2) |> bo fun r24 =>
            (C_laws_eqKeyboard [t31, r24.1] r24.2) |> bo fun r25 =>
            (uop .not r25.1) |> bo fun t35 =>
            gP (stbL [((rdN r12.1), r20.2, r24.2)])
              (
                brX t35
                  (
                    retK m.length r25.2 [t0, t1] (.bool false))
                  (
                    (ldS r25.2 3 r12.1) |> bo fun t36 =>
                    (C_laws_markKeyboard [t36, (.int .i64 1)] r25.2) |> bo fun r28 =>
                    (binX .lss .no r28.1 (.int .i64 0)) |> bo fun t40 =>
                    (gd t40 false ((ldS r28.2 6 r16.1) |> bo fun v => some (v, r28.2)) r28.2) |> bo fun r30 =>
                    (gd t40 false ((ldS r30.2 6 r8.1) |> bo fun v => some (v, r30.2)) r30.2) |> bo fun r31 =>
                    (gd t40 false ((C_laws_eqKeyResult [r30.1, r31.1] r31.2) |> bo fun r => some (r.1, r.2)) r31.2) |> bo fun r32 =>
                    (gd t40 false ((uop .not r32.1) |> bo fun v => some (v, r32.2)) r32.2) |> bo fun r33 =>
                    (pickX t40 (.bool true) r33.1) |> bo fun t46 =>
                    brX t46
                      (
                        retK m.length r33.2 [t0, t1] (.bool false))
                      (
                        (ldS r33.2 6 r16.1) |> bo fun t47 =>
                        (C_laws_markKeyResult [t47, (.int .i64 1)] r33.2) |> bo fun r36 =>
                        (ldS r36.2 6 r16.1) |> bo fun t50 =>
                        (C_laws_heldKeyResult [t50, (.int .i64 1)] r36.2) |> bo fun r38 =>
                        (binX .lss .no r38.1 (.int .i64 0)) |> bo fun t54 =>
                        brX t54
                          (
                            retK m.length r38.2 [t0, t1] (.bool false))
                          (
                            (binX .neq .no r38.1 r36.1) |> bo fun t57 =>
                            brX t57
                              (
                                retK m.length r38.2 [t0, t1] (.bool false))
                              (
                                (ldS r38.2 3 r1.1) |> bo fun t58 =>
                                (C_laws_toKeyboard [t58] r38.2) |> bo fun r42 =>
                                (C_impl_LiftKey [r42.1, t1] r42.2) |> bo fun r43 =>
                                (alX r43.2 [.int .i64 0, .slice none 0 0, .int .i64 0, .slice none 0 0, .bool false, .int .i64 0]) |> bo fun r44 =>
                                (stX r44.2 6 r44.1 r43.1) |> bo fun m45 =>
                                (ldS m45 6 r44.1) |> bo fun t62 =>
                                (ldS m45 6 r8.1) |> bo fun t63 =>
                                (C_laws_eqKeyResult [t62, t63] m45) |> bo fun r48 =>
                                (uop .not r48.1) |> bo fun t65 =>
                                brX t65
                                  (
                                    retK m.length r48.2 [t0, t1] (.bool false))
                                  (
                                    (ldS r48.2 6 r16.1) |> bo fun t66 =>
                                    (C_laws_heldKeyResult [t66, (.int .i64 1)] r48.2) |> bo fun r51 =>
                                    (binX .lss .no r51.1 (.int .i64 0)) |> bo fun t70 =>
                                    brX t70
                                      (
                                        retK m.length r51.2 [t0, t1] (.bool false))
                                      (
                                        (binX .neq .no r51.1 r36.1) |> bo fun t73 =>
                                        brX t73
                                          (
                                            retK m.length r51.2 [t0, t1] (.bool false))
                                          (
                                            retK m.length r51.2 [t0, t1] (.bool true)))))))))))
  | _, _ => none
noncomputable def C_laws_FnExactLiftKey : List Value → Mem → Option VM := fcall X_laws_FnExactLiftKey
@[simp] theorem c_laws_FnExactLiftKey : C_laws_FnExactLiftKey = fcall X_laws_FnExactLiftKey := (rfl)
theorem cok_laws_FnExactLiftKey : codeOk CT Try.f7 (Try.f7.body.get rfl) = true := by kernel_rfl
theorem xe_laws_FnExactLiftKey (t0 t1 : Value) (m : Mem) : ex CT cf_laws_FnExactLiftKey Try.f7 2 m.length [] (fun _ _ _ => none) 400 [.code (Try.f7.body.get rfl)] (argsT 0 [t0, t1]) m = X_laws_FnExactLiftKey [t0, t1] m := by kernel_rfl
theorem okc_laws_FnExactLiftKey : CallOK CT cf_laws_FnExactLiftKey := cfc_ok ok_C_laws_szKeyboard (cfc_ok ok_C_spec_LiftKey (cfc_ok ok_C_laws_toKeyboard (cfc_ok ok_C_impl_LiftKey (cfc_ok ok_C_laws_eqKeyResult (cfc_ok ok_C_laws_eqKeyboard (cfc_ok ok_C_laws_markKeyboard (cfc_ok ok_C_laws_markKeyResult (cfc_ok ok_C_laws_heldKeyResult cfn_ok))))))))
theorem ok_X_laws_FnExactLiftKey : OkX CT 7 X_laws_FnExactLiftKey := OkX.of_ex (cf := cf_laws_FnExactLiftKey) (np := 2) (LL := []) (J := (fun _ _ _ _ => none)) CT_ok rfl Try.func7 rfl (Nat.le_of_ble_eq_true rfl) (by decide) cok_laws_FnExactLiftKey okc_laws_FnExactLiftKey (fun k => noLoops rfl) (fun args m r h => match args, h with
    | [t0, t1], h => ⟨rfl, (xe_laws_FnExactLiftKey t0 t1 m).trans h⟩)
theorem ok_C_laws_FnExactLiftKey : OkC CT 7 C_laws_FnExactLiftKey := fcall_ok rfl ok_X_laws_FnExactLiftKey

end Go.Ab
