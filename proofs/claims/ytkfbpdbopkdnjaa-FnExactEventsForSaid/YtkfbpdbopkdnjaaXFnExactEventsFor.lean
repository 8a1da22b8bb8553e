/- Plain forms of functions, printed by gen.py. -/
import Derived.Test.YtkfbpdbopkdnjaaCf3
import Derived.Test.YtkfbpdbopkdnjaaFC
import Derived.Test.YtkfbpdbopkdnjaaFD
set_option linter.unusedVariables false
set_option linter.unusedSimpArgs false
namespace Go.Ab
open Go.Proofs
set_option maxRecDepth 100000
set_option linter.unusedVariables false
/-! ### laws.szByteS -/
noncomputable def cf_laws_szByteS : CallF := cfn
noncomputable def X_laws_szByteS : List Value → Mem → Option VM
  | [t0, t1], m =>
    (lenX t0) |> bo fun t7 =>
    (binX .sub .no t1 t7) |> bo fun t8 =>
    (binX .lss .no t8 (.int .i64 0)) |> bo fun t10 =>
    brX t10
      (
        retK m.length m [t0, t8] (.int .i64 (-1)))
      (
        retK m.length m [t0, t8] t8)
  | _, _ => none
noncomputable def C_laws_szByteS : List Value → Mem → Option VM := fcall X_laws_szByteS
@[simp] theorem c_laws_szByteS : C_laws_szByteS = fcall X_laws_szByteS := (rfl)
theorem cok_laws_szByteS : codeOk CT Try.f135 (Try.f135.body.get rfl) = true := by kernel_rfl
theorem xe_laws_szByteS (t0 t1 : Value) (m : Mem) : ex CT cf_laws_szByteS Try.f135 2 m.length [] (fun _ _ _ => none) 400 [.code (Try.f135.body.get rfl)] (argsT 0 [t0, t1]) m = X_laws_szByteS [t0, t1] m := by kernel_rfl
theorem okc_laws_szByteS : CallOK CT cf_laws_szByteS := cfn_ok
theorem ok_X_laws_szByteS : OkX CT 135 X_laws_szByteS := OkX.of_ex (cf := cf_laws_szByteS) (np := 2) (LL := []) (J := (fun _ _ _ _ => none)) CT_ok rfl Try.func135 rfl (Nat.le_of_ble_eq_true rfl) (by decide) cok_laws_szByteS okc_laws_szByteS (fun k => noLoops rfl) (fun args m r h => match args, h with
    | [t0, t1], h => ⟨rfl, (xe_laws_szByteS t0 t1 m).trans h⟩)
theorem ok_C_laws_szByteS : OkC CT 135 C_laws_szByteS := fcall_ok rfl ok_X_laws_szByteS

/-! ### laws.szEvent -/
noncomputable def cf_laws_szEvent : CallF := cfc 135 C_laws_szByteS cfn
noncomputable def X_laws_szEvent : List Value → Mem → Option VM
  | [t0, t1], m =>
    (boxX m t0) |> bo fun r1 =>
    (fadX 4 r1.1) |> bo fun t5 =>
    (ld1 r1.2 t5) |> bo fun t6 =>
    (C_laws_szByteS [t6, t1] r1.2) |> bo fun r4 =>
    (binX .lss .no r4.1 (.int .i64 0)) |> bo fun t10 =>
    brX t10
      (
        retK m.length r4.2 [t0, r4.1] (.int .i64 (-1)))
      (
        retK m.length r4.2 [t0, r4.1] r4.1)
  | _, _ => none
noncomputable def C_laws_szEvent : List Value → Mem → Option VM := fcall X_laws_szEvent
@[simp] theorem c_laws_szEvent : C_laws_szEvent = fcall X_laws_szEvent := (rfl)
theorem cok_laws_szEvent : codeOk CT Try.f134 (Try.f134.body.get rfl) = true := by kernel_rfl
theorem xe_laws_szEvent (t0 t1 : Value) (m : Mem) : ex CT cf_laws_szEvent Try.f134 2 m.length [] (fun _ _ _ => none) 400 [.code (Try.f134.body.get rfl)] (argsT 0 [t0, t1]) m = X_laws_szEvent [t0, t1] m := by kernel_rfl
theorem okc_laws_szEvent : CallOK CT cf_laws_szEvent := cfc_ok ok_C_laws_szByteS cfn_ok
theorem ok_X_laws_szEvent : OkX CT 134 X_laws_szEvent := OkX.of_ex (cf := cf_laws_szEvent) (np := 2) (LL := []) (J := (fun _ _ _ _ => none)) CT_ok rfl Try.func134 rfl (Nat.le_of_ble_eq_true rfl) (by decide) cok_laws_szEvent okc_laws_szEvent (fun k => noLoops rfl) (fun args m r h => match args, h with
    | [t0, t1], h => ⟨rfl, (xe_laws_szEvent t0 t1 m).trans h⟩)
theorem ok_C_laws_szEvent : OkC CT 134 C_laws_szEvent := fcall_ok rfl ok_X_laws_szEvent

/-! ### laws.szEventS -/
noncomputable def cf_laws_szEventS : CallF := cfc 134 C_laws_szEvent cfn
noncomputable def L_laws_szEventS (k : Nat) : Nat → Nat → List Value → Mem → Option VM
  | q + 1, 0, [t0, t1, t5], m =>
    (lenX t0) |> bo fun t14 =>
    (binX .lss .no t5 t14) |> bo fun t15 =>
    brX t15
      (
        (ixaX 13 t0 t5) |> bo fun t20 =>
        (ldS m 13 t20) |> bo fun t21 =>
        (C_laws_szEvent [t21, t1] m) |> bo fun r5 =>
        (binX .lss .no r5.1 (.int .i64 0)) |> bo fun t25 =>
        brX t25
          (
            retK k r5.2 [t0, r5.1] (.int .i64 (-1)))
          (
            (binX .add .no t5 (.int .i64 1)) |> bo fun t17 =>
            cutK k r5.2 [t0, r5.1] [t0, r5.1, t17] (L_laws_szEventS k q 0)))
      (
        retK k m [t0, t1] t1)
  | _, _, _, _ => none
noncomputable def J_laws_szEventS (k q l : Nat) : List Value → Mem → Option VM := cond (Nat.beq l 5) (L_laws_szEventS k q 0) (fun _ _ => none)
def LL_laws_szEventS : List (Nat × List Tmp) := [(5, [0, 1, 5])]
noncomputable def X_laws_szEventS : List Value → Mem → Option VM
  | [t0, t1], m =>
    (lenX t0) |> bo fun t8 =>
    (binX .sub .no t1 t8) |> bo fun t9 =>
    (binX .lss .no t9 (.int .i64 0)) |> bo fun t11 =>
    brX t11
      (
        retK m.length m [t0, t9] (.int .i64 (-1)))
      (
        cutK m.length m [t0, t9] [t0, t9, (.int .i64 0)] (L_laws_szEventS m.length QQ 0))
  | _, _ => none
noncomputable def C_laws_szEventS : List Value → Mem → Option VM := fcall X_laws_szEventS
@[simp] theorem c_laws_szEventS : C_laws_szEventS = fcall X_laws_szEventS := (rfl)
theorem cok_laws_szEventS : codeOk CT Try.f51 (Try.f51.body.get rfl) = true := by kernel_rfl
theorem xe_laws_szEventS (t0 t1 : Value) (m : Mem) : ex CT cf_laws_szEventS Try.f51 2 m.length LL_laws_szEventS (J_laws_szEventS m.length QQ) 400 [.code (Try.f51.body.get rfl)] (argsT 0 [t0, t1]) m = X_laws_szEventS [t0, t1] m := by kernel_rfl
theorem okc_laws_szEventS : CallOK CT cf_laws_szEventS := cfc_ok ok_C_laws_szEvent cfn_ok
theorem le_laws_szEventS_0 (k q : Nat) (t0 t1 t5 : Value) (m : Mem) : ex CT cf_laws_szEventS Try.f51 2 k LL_laws_szEventS (J_laws_szEventS k q) 400 (atLoop Try.f51 0) [(0, t0), (1, t1), (5, t5)] m = J_laws_szEventS k (q + 1) 5 [t0, t1, t5] m := by kernel_rfl
theorem gl_laws_szEventS (k : Nat) : ∀ q i, i < 1 → GoodL CT k Try.f51 LL_laws_szEventS (J_laws_szEventS k q) (atLoop Try.f51 i)
  | 0, 0, _ => goodL_zero (l := 5) (by kernel_rfl) (fun vs m => by kernel_rfl)
  | 0, _ + 1, h => absurd h (by omega)
  | q + 1, 0, _ => goodL_succ (np := 2) (l := 5) (live := [0, 1, 5]) (n := 1) CT_ok rfl okc_laws_szEventS (c := (Try.f51.body.get rfl)) rfl cok_laws_szEventS (by kernel_rfl) (gl_laws_szEventS k q) (by kernel_rfl) rfl (fun vs m r hl h => match vs, hl with
    | [t0, t1, t5], _ => (le_laws_szEventS_0 k q t0 t1 t5 m).trans h)
  | _ + 1, _ + 1, h => absurd h (by omega)
theorem ok_X_laws_szEventS : OkX CT 51 X_laws_szEventS := OkX.of_ex (cf := cf_laws_szEventS) (np := 2) (LL := LL_laws_szEventS) (J := (fun k => J_laws_szEventS k QQ)) CT_ok rfl Try.func51 rfl (Nat.le_of_ble_eq_true rfl) (by decide) cok_laws_szEventS okc_laws_szEventS (fun k => allLoops rfl (by kernel_rfl) (gl_laws_szEventS k QQ)) (fun args m r h => match args, h with
    | [t0, t1], h => ⟨rfl, (xe_laws_szEventS t0 t1 m).trans h⟩)
theorem ok_C_laws_szEventS : OkC CT 51 C_laws_szEventS := fcall_ok rfl ok_X_laws_szEventS

/-! ### laws.toWay -/
noncomputable def cf_laws_toWay : CallF := cfn
noncomputable def X_laws_toWay : List Value → Mem → Option VM
  | [t0], m =>
    (boxX m t0) |> bo fun r1 =>
    (alX r1.2 [.int .i64 0, .int .i64 0, .int .i64 0, .int .i64 0, .int .i64 0, .int .i64 0, .int .i64 0]) |> bo fun r2 =>
    (alX r2.2 [.int .i64 0, .int .i64 0, .int .i64 0, .int .i64 0, .int .i64 0, .int .i64 0, .int .i64 0]) |> bo fun r3 =>
    (fadX 0 r1.1) |> bo fun t4 =>
    (ld1 r3.2 t4) |> bo fun t5 =>
    (fadX 0 r3.1) |> bo fun t6 =>
    (stX r3.2 1 t6 t5) |> bo fun m7 =>
    (fadX 1 r1.1) |> bo fun t7 =>
    (ld1 m7 t7) |> bo fun t8 =>
    (fadX 1 r3.1) |> bo fun t9 =>
    (stX m7 1 t9 t8) |> bo fun m11 =>
    (fadX 2 r1.1) |> bo fun t10 =>
    (ld1 m11 t10) |> bo fun t11 =>
    (fadX 2 r3.1) |> bo fun t12 =>
    (stX m11 1 t12 t11) |> bo fun m15 =>
    (fadX 3 r1.1) |> bo fun t13 =>
    (ld1 m15 t13) |> bo fun t14 =>
    (fadX 3 r3.1) |> bo fun t15 =>
    (stX m15 1 t15 t14) |> bo fun m19 =>
    (fadX 4 r1.1) |> bo fun t16 =>
    (ld1 m19 t16) |> bo fun t17 =>
    (fadX 4 r3.1) |> bo fun t18 =>
    (stX m19 1 t18 t17) |> bo fun m23 =>
    (fadX 5 r1.1) |> bo fun t19 =>
    (ld1 m23 t19) |> bo fun t20 =>
    (fadX 5 r3.1) |> bo fun t21 =>
    (stX m23 1 t21 t20) |> bo fun m27 =>
    (fadX 6 r1.1) |> bo fun t22 =>
    (ld1 m27 t22) |> bo fun t23 =>
    (fadX 6 r3.1) |> bo fun t24 =>
    (stX m27 1 t24 t23) |> bo fun m31 =>
    (ldS m31 7 r3.1) |> bo fun t25 =>
    (stX m31 7 r2.1 t25) |> bo fun m33 =>
    (resP (some 7) m33 r2.1) |> bo fun c34 =>
    retK m.length m33 [t0] c34
  | _, _ => none
noncomputable def C_laws_toWay : List Value → Mem → Option VM := fcall X_laws_toWay
@[simp] theorem c_laws_toWay : C_laws_toWay = fcall X_laws_toWay := (rfl)
theorem cok_laws_toWay : codeOk CT Try.f71 (Try.f71.body.get rfl) = true := by kernel_rfl
theorem xe_laws_toWay (t0 : Value) (m : Mem) : ex CT cf_laws_toWay Try.f71 1 m.length [] (fun _ _ _ => none) 400 [.code (Try.f71.body.get rfl)] (argsT 0 [t0]) m = X_laws_toWay [t0] m := by kernel_rfl
theorem okc_laws_toWay : CallOK CT cf_laws_toWay := cfn_ok
theorem ok_X_laws_toWay : OkX CT 71 X_laws_toWay := OkX.of_ex (cf := cf_laws_toWay) (np := 1) (LL := []) (J := (fun _ _ _ _ => none)) CT_ok rfl Try.func71 rfl (Nat.le_of_ble_eq_true rfl) (by decide) cok_laws_toWay okc_laws_toWay (fun k => noLoops rfl) (fun args m r h => match args, h with
    | [t0], h => ⟨rfl, (xe_laws_toWay t0 m).trans h⟩)
theorem ok_C_laws_toWay : OkC CT 71 C_laws_toWay := fcall_ok rfl ok_X_laws_toWay

/-! ### laws.toByteS -/
noncomputable def cf_laws_toByteS : CallF := cfn
noncomputable def L_laws_toByteS (k : Nat) : Nat → Nat → List Value → Mem → Option VM
  | q + 1, 0, [t0, t3, t4], m =>
    (lenX t0) |> bo fun t10 =>
    (binX .lss .no t4 t10) |> bo fun t11 =>
    brX t11
      (
        (ixaX 1 t0 t4) |> bo fun t18 =>
        (ld1 m t18) |> bo fun t19 =>
        (ixaX 1 t3 t4) |> bo fun t20 =>
        (stX m 1 t20 t19) |> bo fun m6 =>
        (binX .add .no t4 (.int .i64 1)) |> bo fun t13 =>
        cutK k m6 [t0] [t0, t3, t13] (L_laws_toByteS k q 0))
      (
        retK k m [t0] t3)
  | _, _, _, _ => none
noncomputable def J_laws_toByteS (k q l : Nat) : List Value → Mem → Option VM := cond (Nat.beq l 3) (L_laws_toByteS k q 0) (fun _ _ => none)
def LL_laws_toByteS : List (Nat × List Tmp) := [(3, [0, 3, 4])]
noncomputable def X_laws_toByteS : List Value → Mem → Option VM
  | [t0], m =>
    (lenX t0) |> bo fun t6 =>
    (mkX m 1 1 [.int .u8 0] t6 t6) |> bo fun r2 =>
    cutK m.length r2.2 [t0] [t0, r2.1, (.int .i64 0)] (L_laws_toByteS m.length QQ 0)
  | _, _ => none
noncomputable def C_laws_toByteS : List Value → Mem → Option VM := fcall X_laws_toByteS
@[simp] theorem c_laws_toByteS : C_laws_toByteS = fcall X_laws_toByteS := (rfl)
theorem cok_laws_toByteS : codeOk CT Try.f137 (Try.f137.body.get rfl) = true := by kernel_rfl
theorem xe_laws_toByteS (t0 : Value) (m : Mem) : ex CT cf_laws_toByteS Try.f137 1 m.length LL_laws_toByteS (J_laws_toByteS m.length QQ) 400 [.code (Try.f137.body.get rfl)] (argsT 0 [t0]) m = X_laws_toByteS [t0] m := by kernel_rfl
theorem okc_laws_toByteS : CallOK CT cf_laws_toByteS := cfn_ok
theorem le_laws_toByteS_0 (k q : Nat) (t0 t3 t4 : Value) (m : Mem) : ex CT cf_laws_toByteS Try.f137 1 k LL_laws_toByteS (J_laws_toByteS k q) 400 (atLoop Try.f137 0) [(0, t0), (3, t3), (4, t4)] m = J_laws_toByteS k (q + 1) 3 [t0, t3, t4] m := by kernel_rfl
theorem gl_laws_toByteS (k : Nat) : ∀ q i, i < 1 → GoodL CT k Try.f137 LL_laws_toByteS (J_laws_toByteS k q) (atLoop Try.f137 i)
  | 0, 0, _ => goodL_zero (l := 3) (by kernel_rfl) (fun vs m => by kernel_rfl)
  | 0, _ + 1, h => absurd h (by omega)
  | q + 1, 0, _ => goodL_succ (np := 1) (l := 3) (live := [0, 3, 4]) (n := 1) CT_ok rfl okc_laws_toByteS (c := (Try.f137.body.get rfl)) rfl cok_laws_toByteS (by kernel_rfl) (gl_laws_toByteS k q) (by kernel_rfl) rfl (fun vs m r hl h => match vs, hl with
    | [t0, t3, t4], _ => (le_laws_toByteS_0 k q t0 t3 t4 m).trans h)
  | _ + 1, _ + 1, h => absurd h (by omega)
theorem ok_X_laws_toByteS : OkX CT 137 X_laws_toByteS := OkX.of_ex (cf := cf_laws_toByteS) (np := 1) (LL := LL_laws_toByteS) (J := (fun k => J_laws_toByteS k QQ)) CT_ok rfl Try.func137 rfl (Nat.le_of_ble_eq_true rfl) (by decide) cok_laws_toByteS okc_laws_toByteS (fun k => allLoops rfl (by kernel_rfl) (gl_laws_toByteS k QQ)) (fun args m r h => match args, h with
    | [t0], h => ⟨rfl, (xe_laws_toByteS t0 m).trans h⟩)
theorem ok_C_laws_toByteS : OkC CT 137 C_laws_toByteS := fcall_ok rfl ok_X_laws_toByteS

/-! ### laws.toEvent -/
noncomputable def cf_laws_toEvent : CallF := cfc 71 C_laws_toWay (cfc 137 C_laws_toByteS cfn)
noncomputable def X_laws_toEvent : List Value → Mem → Option VM
  | [t0], m =>
    (boxX m t0) |> bo fun r1 =>
    (alX r1.2 [.int .i64 0, .int .i64 0, .int .i64 0, .bool false, .slice none 0 0, .int .i64 0, .int .i64 0, .int .i64 0, .int .i64 0, .int .i64 0, .int .i64 0, .int .i64 0, .int .i64 0]) |> bo fun r2 =>
    (alX r2.2 [.int .i64 0, .int .i64 0, .int .i64 0, .bool false, .slice none 0 0, .int .i64 0, .int .i64 0, .int .i64 0, .int .i64 0, .int .i64 0, .int .i64 0, .int .i64 0, .int .i64 0]) |> bo fun r3 =>
    (fadX 0 r1.1) |> bo fun t4 =>
    (ld1 r3.2 t4) |> bo fun t5 =>
    (fadX 0 r3.1) |> bo fun t6 =>
    (stX r3.2 1 t6 t5) |> bo fun m7 =>
    (fadX 1 r1.1) |> bo fun t7 =>
    (ld1 m7 t7) |> bo fun t8 =>
    (fadX 1 r3.1) |> bo fun t9 =>
    (stX m7 1 t9 t8) |> bo fun m11 =>
    (fadX 2 r1.1) |> bo fun t10 =>
    (ld1 m11 t10) |> bo fun t11 =>
    (fadX 2 r3.1) |> bo fun t12 =>
    (stX m11 1 t12 t11) |> bo fun m15 =>
    (fadX 3 r1.1) |> bo fun t13 =>
    (ld1 m15 t13) |> bo fun t14 =>
    (fadX 3 r3.1) |> bo fun t15 =>
    (stX m15 1 t15 t14) |> bo fun m19 =>
    (fadX 4 r1.1) |> bo fun t16 =>
    (ld1 m19 t16) |> bo fun t17 =>
    (C_laws_toByteS [t17] m19) |> bo fun r22 =>
    (fadX 4 r3.1) |> bo fun t19 =>
    (stX r22.2 1 t19 r22.1) |> bo fun m24 =>
    (fadX 5 r1.1) |> bo fun t20 =>
    (ld1 m24 t20) |> bo fun t21 =>
    (fadX 5 r3.1) |> bo fun t22 =>
    (stX m24 1 t22 t21) |> bo fun m28 =>
    (fadX 6 r1.1) |> bo fun t23 =>
    (ldS m28 7 t23) |> bo fun t24 =>
    (C_laws_toWay [t24] m28) |> bo fun r31 =>
    (fadX 6 r3.1) |> bo fun t26 =>
    (stX r31.2 7 t26 r31.1) |> bo fun m33 =>
    (ldS m33 13 r3.1) |> bo fun t27 =>
    (stX m33 13 r2.1 t27) |> bo fun m35 =>
    (resP (some 13) m35 r2.1) |> bo fun c36 =>
    retK m.length m35 [t0] c36
  | _, _ => none
noncomputable def C_laws_toEvent : List Value → Mem → Option VM := fcall X_laws_toEvent
@[simp] theorem c_laws_toEvent : C_laws_toEvent = fcall X_laws_toEvent := (rfl)
theorem cok_laws_toEvent : codeOk CT Try.f136 (Try.f136.body.get rfl) = true := by kernel_rfl
theorem xe_laws_toEvent (t0 : Value) (m : Mem) : ex CT cf_laws_toEvent Try.f136 1 m.length [] (fun _ _ _ => none) 400 [.code (Try.f136.body.get rfl)] (argsT 0 [t0]) m = X_laws_toEvent [t0] m := by kernel_rfl
theorem okc_laws_toEvent : CallOK CT cf_laws_toEvent := cfc_ok ok_C_laws_toWay (cfc_ok ok_C_laws_toByteS cfn_ok)
theorem ok_X_laws_toEvent : OkX CT 136 X_laws_toEvent := OkX.of_ex (cf := cf_laws_toEvent) (np := 1) (LL := []) (J := (fun _ _ _ _ => none)) CT_ok rfl Try.func136 rfl (Nat.le_of_ble_eq_true rfl) (by decide) cok_laws_toEvent okc_laws_toEvent (fun k => noLoops rfl) (fun args m r h => match args, h with
    | [t0], h => ⟨rfl, (xe_laws_toEvent t0 m).trans h⟩)
theorem ok_C_laws_toEvent : OkC CT 136 C_laws_toEvent := fcall_ok rfl ok_X_laws_toEvent

/-! ### laws.toEventS -/
noncomputable def cf_laws_toEventS : CallF := cfc 136 C_laws_toEvent cfn
noncomputable def L_laws_toEventS (k : Nat) : Nat → Nat → List Value → Mem → Option VM
  | q + 1, 0, [t0, t3, t4], m =>
    (lenX t0) |> bo fun t10 =>
    (binX .lss .no t4 t10) |> bo fun t11 =>
    brX t11
      (
        (ixaX 13 t0 t4) |> bo fun t18 =>
        (ldS m 13 t18) |> bo fun t19 =>
        (C_laws_toEvent [t19] m) |> bo fun r5 =>
        (ixaX 13 t3 t4) |> bo fun t21 =>
        (stX r5.2 13 t21 r5.1) |> bo fun m7 =>
        (binX .add .no t4 (.int .i64 1)) |> bo fun t13 =>
        cutK k m7 [t0] [t0, t3, t13] (L_laws_toEventS k q 0))
      (
        retK k m [t0] t3)
  | _, _, _, _ => none
noncomputable def J_laws_toEventS (k q l : Nat) : List Value → Mem → Option VM := cond (Nat.beq l 3) (L_laws_toEventS k q 0) (fun _ _ => none)
def LL_laws_toEventS : List (Nat × List Tmp) := [(3, [0, 3, 4])]
noncomputable def X_laws_toEventS : List Value → Mem → Option VM
  | [t0], m =>
    (lenX t0) |> bo fun t6 =>
    (mkX m 13 120 [.int .i64 0, .int .i64 0, .int .i64 0, .bool false, .slice none 0 0, .int .i64 0, .int .i64 0, .int .i64 0, .int .i64 0, .int .i64 0, .int .i64 0, .int .i64 0, .int .i64 0] t6 t6) |> bo fun r2 =>
    cutK m.length r2.2 [t0] [t0, r2.1, (.int .i64 0)] (L_laws_toEventS m.length QQ 0)
  | _, _ => none
noncomputable def C_laws_toEventS : List Value → Mem → Option VM := fcall X_laws_toEventS
@[simp] theorem c_laws_toEventS : C_laws_toEventS = fcall X_laws_toEventS := (rfl)
theorem cok_laws_toEventS : codeOk CT Try.f54 (Try.f54.body.get rfl) = true := by kernel_rfl
theorem xe_laws_toEventS (t0 : Value) (m : Mem) : ex CT cf_laws_toEventS Try.f54 1 m.length LL_laws_toEventS (J_laws_toEventS m.length QQ) 400 [.code (Try.f54.body.get rfl)] (argsT 0 [t0]) m = X_laws_toEventS [t0] m := by kernel_rfl
theorem okc_laws_toEventS : CallOK CT cf_laws_toEventS := cfc_ok ok_C_laws_toEvent cfn_ok
theorem le_laws_toEventS_0 (k q : Nat) (t0 t3 t4 : Value) (m : Mem) : ex CT cf_laws_toEventS Try.f54 1 k LL_laws_toEventS (J_laws_toEventS k q) 400 (atLoop Try.f54 0) [(0, t0), (3, t3), (4, t4)] m = J_laws_toEventS k (q + 1) 3 [t0, t3, t4] m := by kernel_rfl
theorem gl_laws_toEventS (k : Nat) : ∀ q i, i < 1 → GoodL CT k Try.f54 LL_laws_toEventS (J_laws_toEventS k q) (atLoop Try.f54 i)
  | 0, 0, _ => goodL_zero (l := 3) (by kernel_rfl) (fun vs m => by kernel_rfl)
  | 0, _ + 1, h => absurd h (by omega)
  | q + 1, 0, _ => goodL_succ (np := 1) (l := 3) (live := [0, 3, 4]) (n := 1) CT_ok rfl okc_laws_toEventS (c := (Try.f54.body.get rfl)) rfl cok_laws_toEventS (by kernel_rfl) (gl_laws_toEventS k q) (by kernel_rfl) rfl (fun vs m r hl h => match vs, hl with
    | [t0, t3, t4], _ => (le_laws_toEventS_0 k q t0 t3 t4 m).trans h)
  | _ + 1, _ + 1, h => absurd h (by omega)
theorem ok_X_laws_toEventS : OkX CT 54 X_laws_toEventS := OkX.of_ex (cf := cf_laws_toEventS) (np := 1) (LL := LL_laws_toEventS) (J := (fun k => J_laws_toEventS k QQ)) CT_ok rfl Try.func54 rfl (Nat.le_of_ble_eq_true rfl) (by decide) cok_laws_toEventS okc_laws_toEventS (fun k => allLoops rfl (by kernel_rfl) (gl_laws_toEventS k QQ)) (fun args m r h => match args, h with
    | [t0], h => ⟨rfl, (xe_laws_toEventS t0 m).trans h⟩)
theorem ok_C_laws_toEventS : OkC CT 54 C_laws_toEventS := fcall_ok rfl ok_X_laws_toEventS

/-! ### laws.eqByteS -/
noncomputable def cf_laws_eqByteS : CallF := cfn
noncomputable def L_laws_eqByteS (k : Nat) : Nat → Nat → List Value → Mem → Option VM
  | q + 1, 0, [t0, t1, t5], m =>
    (lenX t0) |> bo fun t13 =>
    (binX .lss .no t5 t13) |> bo fun t14 =>
    brX t14
      (
        (ixaX 1 t0 t5) |> bo fun t19 =>
        (ld1 m t19) |> bo fun t20 =>
        (ixaX 1 t1 t5) |> bo fun t23 =>
        (ld1 m t23) |> bo fun t24 =>
        (binX .neq .no t20 t24) |> bo fun t25 =>
        brX t25
          (
            retK k m [t0, t1] (.bool false))
          (
            (binX .add .no t5 (.int .i64 1)) |> bo fun t16 =>
            cutK k m [t0, t1] [t0, t1, t16] (L_laws_eqByteS k q 0)))
      (
        retK k m [t0, t1] (.bool true))
  | _, _, _, _ => none
noncomputable def J_laws_eqByteS (k q l : Nat) : List Value → Mem → Option VM := cond (Nat.beq l 4) (L_laws_eqByteS k q 0) (fun _ _ => none)
def LL_laws_eqByteS : List (Nat × List Tmp) := [(4, [0, 1, 5])]
noncomputable def X_laws_eqByteS : List Value → Mem → Option VM
  | [t0, t1], m =>
    (lenX t0) |> bo fun t7 =>
    (lenX t1) |> bo fun t9 =>
    (binX .neq .no t7 t9) |> bo fun t10 =>
    brX t10
      (
        retK m.length m [t0, t1] (.bool false))
      (
        cutK m.length m [t0, t1] [t0, t1, (.int .i64 0)] (L_laws_eqByteS m.length QQ 0))
  | _, _ => none
noncomputable def C_laws_eqByteS : List Value → Mem → Option VM := fcall X_laws_eqByteS
@[simp] theorem c_laws_eqByteS : C_laws_eqByteS = fcall X_laws_eqByteS := (rfl)
theorem cok_laws_eqByteS : codeOk CT Try.f128 (Try.f128.body.get rfl) = true := by kernel_rfl
theorem xe_laws_eqByteS (t0 t1 : Value) (m : Mem) : ex CT cf_laws_eqByteS Try.f128 2 m.length LL_laws_eqByteS (J_laws_eqByteS m.length QQ) 400 [.code (Try.f128.body.get rfl)] (argsT 0 [t0, t1]) m = X_laws_eqByteS [t0, t1] m := by kernel_rfl
theorem okc_laws_eqByteS : CallOK CT cf_laws_eqByteS := cfn_ok
theorem le_laws_eqByteS_0 (k q : Nat) (t0 t1 t5 : Value) (m : Mem) : ex CT cf_laws_eqByteS Try.f128 2 k LL_laws_eqByteS (J_laws_eqByteS k q) 400 (atLoop Try.f128 0) [(0, t0), (1, t1), (5, t5)] m = J_laws_eqByteS k (q + 1) 4 [t0, t1, t5] m := by kernel_rfl
theorem gl_laws_eqByteS (k : Nat) : ∀ q i, i < 1 → GoodL CT k Try.f128 LL_laws_eqByteS (J_laws_eqByteS k q) (atLoop Try.f128 i)
  | 0, 0, _ => goodL_zero (l := 4) (by kernel_rfl) (fun vs m => by kernel_rfl)
  | 0, _ + 1, h => absurd h (by omega)
  | q + 1, 0, _ => goodL_succ (np := 2) (l := 4) (live := [0, 1, 5]) (n := 1) CT_ok rfl okc_laws_eqByteS (c := (Try.f128.body.get rfl)) rfl cok_laws_eqByteS (by kernel_rfl) (gl_laws_eqByteS k q) (by kernel_rfl) rfl (fun vs m r hl h => match vs, hl with
    | [t0, t1, t5], _ => (le_laws_eqByteS_0 k q t0 t1 t5 m).trans h)
  | _ + 1, _ + 1, h => absurd h (by omega)
theorem ok_X_laws_eqByteS : OkX CT 128 X_laws_eqByteS := OkX.of_ex (cf := cf_laws_eqByteS) (np := 2) (LL := LL_laws_eqByteS) (J := (fun k => J_laws_eqByteS k QQ)) CT_ok rfl Try.func128 rfl (Nat.le_of_ble_eq_true rfl) (by decide) cok_laws_eqByteS okc_laws_eqByteS (fun k => allLoops rfl (by kernel_rfl) (gl_laws_eqByteS k QQ)) (fun args m r h => match args, h with
    | [t0, t1], h => ⟨rfl, (xe_laws_eqByteS t0 t1 m).trans h⟩)
theorem ok_C_laws_eqByteS : OkC CT 128 C_laws_eqByteS := fcall_ok rfl ok_X_laws_eqByteS

/-! ### laws.eqWay -/
noncomputable def cf_laws_eqWay : CallF := cfn
noncomputable def X_laws_eqWay : List Value → Mem → Option VM
  | [t0, t1], m =>
    (boxX m t0) |> bo fun r1 =>
    (boxX r1.2 t1) |> bo fun r2 =>
    (fadX 0 r1.1) |> bo fun t5 =>
    (ld1 r2.2 t5) |> bo fun t6 =>
    (fadX 0 r2.1) |> bo fun t7 =>
    (ld1 r2.2 t7) |> bo fun t8 =>
    (binX .neq .no t6 t8) |> bo fun t9 =>
    brX t9
      (
        retK m.length r2.2 [t0, t1] (.bool false))
      (
        (fadX 1 r1.1) |> bo fun t10 =>
        (ld1 r2.2 t10) |> bo fun t11 =>
        (fadX 1 r2.1) |> bo fun t12 =>
        (ld1 r2.2 t12) |> bo fun t13 =>
        (binX .neq .no t11 t13) |> bo fun t14 =>
        brX t14
          (
            retK m.length r2.2 [t0, t1] (.bool false))
          (
            (fadX 2 r1.1) |> bo fun t15 =>
            (ld1 r2.2 t15) |> bo fun t16 =>
            (fadX 2 r2.1) |> bo fun t17 =>
            (ld1 r2.2 t17) |> bo fun t18 =>
            (binX .neq .no t16 t18) |> bo fun t19 =>
            brX t19
              (
                retK m.length r2.2 [t0, t1] (.bool false))
              (
                (fadX 3 r1.1) |> bo fun t20 =>
                (ld1 r2.2 t20) |> bo fun t21 =>
                (fadX 3 r2.1) |> bo fun t22 =>
                (ld1 r2.2 t22) |> bo fun t23 =>
                (binX .neq .no t21 t23) |> bo fun t24 =>
                brX t24
                  (
                    retK m.length r2.2 [t0, t1] (.bool false))
                  (
                    (fadX 4 r1.1) |> bo fun t25 =>
                    (ld1 r2.2 t25) |> bo fun t26 =>
                    (fadX 4 r2.1) |> bo fun t27 =>
                    (ld1 r2.2 t27) |> bo fun t28 =>
                    (binX .neq .no t26 t28) |> bo fun t29 =>
                    brX t29
                      (
                        retK m.length r2.2 [t0, t1] (.bool false))
                      (
                        (fadX 5 r1.1) |> bo fun t30 =>
                        (ld1 r2.2 t30) |> bo fun t31 =>
                        (fadX 5 r2.1) |> bo fun t32 =>
                        (ld1 r2.2 t32) |> bo fun t33 =>
                        (binX .neq .no t31 t33) |> bo fun t34 =>
                        brX t34
                          (
                            retK m.length r2.2 [t0, t1] (.bool false))
                          (
                            (fadX 6 r1.1) |> bo fun t35 =>
                            (ld1 r2.2 t35) |> bo fun t36 =>
                            (fadX 6 r2.1) |> bo fun t37 =>
                            (ld1 r2.2 t37) |> bo fun t38 =>
                            (binX .neq .no t36 t38) |> bo fun t39 =>
                            brX t39
                              (
                                retK m.length r2.2 [t0, t1] (.bool false))
                              (
                                retK m.length r2.2 [t0, t1] (.bool true))))))))
  | _, _ => none
noncomputable def C_laws_eqWay : List Value → Mem → Option VM := fcall X_laws_eqWay
@[simp] theorem c_laws_eqWay : C_laws_eqWay = fcall X_laws_eqWay := (rfl)
theorem cok_laws_eqWay : codeOk CT Try.f170 (Try.f170.body.get rfl) = true := by kernel_rfl
theorem xe_laws_eqWay (t0 t1 : Value) (m : Mem) : ex CT cf_laws_eqWay Try.f170 2 m.length [] (fun _ _ _ => none) 400 [.code (Try.f170.body.get rfl)] (argsT 0 [t0, t1]) m = X_laws_eqWay [t0, t1] m := by kernel_rfl
theorem okc_laws_eqWay : CallOK CT cf_laws_eqWay := cfn_ok
theorem ok_X_laws_eqWay : OkX CT 170 X_laws_eqWay := OkX.of_ex (cf := cf_laws_eqWay) (np := 2) (LL := []) (J := (fun _ _ _ _ => none)) CT_ok rfl Try.func170 rfl (Nat.le_of_ble_eq_true rfl) (by decide) cok_laws_eqWay okc_laws_eqWay (fun k => noLoops rfl) (fun args m r h => match args, h with
    | [t0, t1], h => ⟨rfl, (xe_laws_eqWay t0 t1 m).trans h⟩)
theorem ok_C_laws_eqWay : OkC CT 170 C_laws_eqWay := fcall_ok rfl ok_X_laws_eqWay

/-! ### laws.eqEvent -/
noncomputable def cf_laws_eqEvent : CallF := cfc 128 C_laws_eqByteS (cfc 170 C_laws_eqWay cfn)
noncomputable def X_laws_eqEvent : List Value → Mem → Option VM
  | [t0, t1], m =>
    (boxX m t0) |> bo fun r1 =>
    (boxX r1.2 t1) |> bo fun r2 =>
    (fadX 0 r1.1) |> bo fun t5 =>
    (ld1 r2.2 t5) |> bo fun t6 =>
    (fadX 0 r2.1) |> bo fun t7 =>
    (ld1 r2.2 t7) |> bo fun t8 =>
    (binX .neq .no t6 t8) |> bo fun t9 =>
    brX t9
      (
        retK m.length r2.2 [t0, t1] (.bool false))
      (
        (fadX 1 r1.1) |> bo fun t10 =>
        (ld1 r2.2 t10) |> bo fun t11 =>
        (fadX 1 r2.1) |> bo fun t12 =>
        (ld1 r2.2 t12) |> bo fun t13 =>
        (binX .neq .no t11 t13) |> bo fun t14 =>
        brX t14
          (
            retK m.length r2.2 [t0, t1] (.bool false))
          (
            (fadX 2 r1.1) |> bo fun t15 =>
            (ld1 r2.2 t15) |> bo fun t16 =>
            (fadX 2 r2.1) |> bo fun t17 =>
            (ld1 r2.2 t17) |> bo fun t18 =>
            (binX .neq .no t16 t18) |> bo fun t19 =>
            brX t19
              (
                retK m.length r2.2 [t0, t1] (.bool false))
              (
                (fadX 3 r1.1) |> bo fun t20 =>
                (ld1 r2.2 t20) |> bo fun t21 =>
                (fadX 3 r2.1) |> bo fun t22 =>
                (ld1 r2.2 t22) |> bo fun t23 =>
                (binX .neq .bool t21 t23) |> bo fun t24 =>
                brX t24
                  (
                    retK m.length r2.2 [t0, t1] (.bool false))
                  (
                    (fadX 4 r1.1) |> bo fun t25 =>
                    (ld1 r2.2 t25) |> bo fun t26 =>
                    (fadX 4 r2.1) |> bo fun t27 =>
                    (ld1 r2.2 t27) |> bo fun t28 =>
                    (C_laws_eqByteS [t26, t28] r2.2) |> bo fun r27 =>
                    (uop .not r27.1) |> bo fun t30 =>
                    brX t30
                      (
                        retK m.length r27.2 [t0, t1] (.bool false))
                      (
                        (fadX 5 r1.1) |> bo fun t31 =>
                        (ld1 r27.2 t31) |> bo fun t32 =>
                        (fadX 5 r2.1) |> bo fun t33 =>
                        (ld1 r27.2 t33) |> bo fun t34 =>
                        (binX .neq .no t32 t34) |> bo fun t35 =>
                        brX t35
                          (
                            retK m.length r27.2 [t0, t1] (.bool false))
                          (
                            (fadX 6 r1.1) |> bo fun t36 =>
                            (ldS r27.2 7 t36) |> bo fun t37 =>
                            (fadX 6 r2.1) |> bo fun t38 =>
                            (ldS r27.2 7 t38) |> bo fun t39 =>
                            (C_laws_eqWay [t37, t39] r27.2) |> bo fun r38 =>
                            (uop .not r38.1) |> bo fun t41 =>
                            brX t41
                              (
                                retK m.length r38.2 [t0, t1] (.bool false))
                              (
                                retK m.length r38.2 [t0, t1] (.bool true))))))))
  | _, _ => none
noncomputable def C_laws_eqEvent : List Value → Mem → Option VM := fcall X_laws_eqEvent
@[simp] theorem c_laws_eqEvent : C_laws_eqEvent = fcall X_laws_eqEvent := (rfl)
theorem cok_laws_eqEvent : codeOk CT Try.f138 (Try.f138.body.get rfl) = true := by kernel_rfl
theorem xe_laws_eqEvent (t0 t1 : Value) (m : Mem) : ex CT cf_laws_eqEvent Try.f138 2 m.length [] (fun _ _ _ => none) 400 [.code (Try.f138.body.get rfl)] (argsT 0 [t0, t1]) m = X_laws_eqEvent [t0, t1] m := by kernel_rfl
theorem okc_laws_eqEvent : CallOK CT cf_laws_eqEvent := cfc_ok ok_C_laws_eqByteS (cfc_ok ok_C_laws_eqWay cfn_ok)
theorem ok_X_laws_eqEvent : OkX CT 138 X_laws_eqEvent := OkX.of_ex (cf := cf_laws_eqEvent) (np := 2) (LL := []) (J := (fun _ _ _ _ => none)) CT_ok rfl Try.func138 rfl (Nat.le_of_ble_eq_true rfl) (by decide) cok_laws_eqEvent okc_laws_eqEvent (fun k => noLoops rfl) (fun args m r h => match args, h with
    | [t0, t1], h => ⟨rfl, (xe_laws_eqEvent t0 t1 m).trans h⟩)
theorem ok_C_laws_eqEvent : OkC CT 138 C_laws_eqEvent := fcall_ok rfl ok_X_laws_eqEvent

/-! ### laws.eqEventS -/
noncomputable def cf_laws_eqEventS : CallF := cfc 138 C_laws_eqEvent cfn
noncomputable def L_laws_eqEventS (k : Nat) : Nat → Nat → List Value → Mem → Option VM
  | q + 1, 0, [t0, t1, t5], m =>
    (lenX t0) |> bo fun t13 =>
    (binX .lss .no t5 t13) |> bo fun t14 =>
    brX t14
      (
        (ixaX 13 t0 t5) |> bo fun t19 =>
        (ldS m 13 t19) |> bo fun t20 =>
        (ixaX 13 t1 t5) |> bo fun t23 =>
        (ldS m 13 t23) |> bo fun t24 =>
        (C_laws_eqEvent [t20, t24] m) |> bo fun r7 =>
        (uop .not r7.1) |> bo fun t26 =>
        brX t26
          (
            retK k r7.2 [t0, t1] (.bool false))
          (
            (binX .add .no t5 (.int .i64 1)) |> bo fun t16 =>
            cutK k r7.2 [t0, t1] [t0, t1, t16] (L_laws_eqEventS k q 0)))
      (
        retK k m [t0, t1] (.bool true))
  | _, _, _, _ => none
noncomputable def J_laws_eqEventS (k q l : Nat) : List Value → Mem → Option VM := cond (Nat.beq l 4) (L_laws_eqEventS k q 0) (fun _ _ => none)
def LL_laws_eqEventS : List (Nat × List Tmp) := [(4, [0, 1, 5])]
noncomputable def X_laws_eqEventS : List Value → Mem → Option VM
  | [t0, t1], m =>
    (lenX t0) |> bo fun t7 =>
    (lenX t1) |> bo fun t9 =>
    (binX .neq .no t7 t9) |> bo fun t10 =>
    brX t10
      (
        retK m.length m [t0, t1] (.bool false))
      (
        cutK m.length m [t0, t1] [t0, t1, (.int .i64 0)] (L_laws_eqEventS m.length QQ 0))
  | _, _ => none
noncomputable def C_laws_eqEventS : List Value → Mem → Option VM := fcall X_laws_eqEventS
@[simp] theorem c_laws_eqEventS : C_laws_eqEventS = fcall X_laws_eqEventS := (rfl)
theorem cok_laws_eqEventS : codeOk CT Try.f58 (Try.f58.body.get rfl) = true := by kernel_rfl
theorem xe_laws_eqEventS (t0 t1 : Value) (m : Mem) : ex CT cf_laws_eqEventS Try.f58 2 m.length LL_laws_eqEventS (J_laws_eqEventS m.length QQ) 400 [.code (Try.f58.body.get rfl)] (argsT 0 [t0, t1]) m = X_laws_eqEventS [t0, t1] m := by kernel_rfl
theorem okc_laws_eqEventS : CallOK CT cf_laws_eqEventS := cfc_ok ok_C_laws_eqEvent cfn_ok
theorem le_laws_eqEventS_0 (k q : Nat) (t0 t1 t5 : Value) (m : Mem) : ex CT cf_laws_eqEventS Try.f58 2 k LL_laws_eqEventS (J_laws_eqEventS k q) 400 (atLoop Try.f58 0) [(0, t0), (1, t1), (5, t5)] m = J_laws_eqEventS k (q + 1) 4 [t0, t1, t5] m := by kernel_rfl
theorem gl_laws_eqEventS (k : Nat) : ∀ q i, i < 1 → GoodL CT k Try.f58 LL_laws_eqEventS (J_laws_eqEventS k q) (atLoop Try.f58 i)
  | 0, 0, _ => goodL_zero (l := 4) (by kernel_rfl) (fun vs m => by kernel_rfl)
  | 0, _ + 1, h => absurd h (by omega)
  | q + 1, 0, _ => goodL_succ (np := 2) (l := 4) (live := [0, 1, 5]) (n := 1) CT_ok rfl okc_laws_eqEventS (c := (Try.f58.body.get rfl)) rfl cok_laws_eqEventS (by kernel_rfl) (gl_laws_eqEventS k q) (by kernel_rfl) rfl (fun vs m r hl h => match vs, hl with
    | [t0, t1, t5], _ => (le_laws_eqEventS_0 k q t0 t1 t5 m).trans h)
  | _ + 1, _ + 1, h => absurd h (by omega)
theorem ok_X_laws_eqEventS : OkX CT 58 X_laws_eqEventS := OkX.of_ex (cf := cf_laws_eqEventS) (np := 2) (LL := LL_laws_eqEventS) (J := (fun k => J_laws_eqEventS k QQ)) CT_ok rfl Try.func58 rfl (Nat.le_of_ble_eq_true rfl) (by decide) cok_laws_eqEventS okc_laws_eqEventS (fun k => allLoops rfl (by kernel_rfl) (gl_laws_eqEventS k QQ)) (fun args m r h => match args, h with
    | [t0, t1], h => ⟨rfl, (xe_laws_eqEventS t0 t1 m).trans h⟩)
theorem ok_C_laws_eqEventS : OkC CT 58 C_laws_eqEventS := fcall_ok rfl ok_X_laws_eqEventS

/-! ### laws.markByteS -/
noncomputable def cf_laws_markByteS : CallF := cfn
noncomputable def L_laws_markByteS (k : Nat) : Nat → Nat → List Value → Mem → Option VM
  | q + 1, 0, [t0, t1, t5], m =>
    (lenX t0) |> bo fun t8 =>
    (binX .lss .no t5 t8) |> bo fun t9 =>
    brX t9
      (
        (cvI .u8 t1) |> bo fun t15 =>
        (ixaX 1 t0 t5) |> bo fun t16 =>
        (stX m 1 t16 t15) |> bo fun m5 =>
        (binX .add .no t1 (.int .i64 1)) |> bo fun t18 =>
        (binX .add .no t5 (.int .i64 1)) |> bo fun t11 =>
        cutK k m5 [t0, t18] [t0, t18, t11] (L_laws_markByteS k q 0))
      (
        retK k m [t0, t1] t1)
  | _, _, _, _ => none
noncomputable def J_laws_markByteS (k q l : Nat) : List Value → Mem → Option VM := cond (Nat.beq l 2) (L_laws_markByteS k q 0) (fun _ _ => none)
def LL_laws_markByteS : List (Nat × List Tmp) := [(2, [0, 1, 5])]
noncomputable def X_laws_markByteS : List Value → Mem → Option VM
  | [t0, t1], m =>
    cutK m.length m [t0, t1] [t0, t1, (.int .i64 0)] (L_laws_markByteS m.length QQ 0)
  | _, _ => none
noncomputable def C_laws_markByteS : List Value → Mem → Option VM := rcall X_laws_markByteS
@[simp] theorem c_laws_markByteS : C_laws_markByteS = rcall X_laws_markByteS := (rfl)
theorem cok_laws_markByteS : codeOk CT Try.f131 (Try.f131.body.get rfl) = true := by kernel_rfl
theorem xe_laws_markByteS (t0 t1 : Value) (m : Mem) : ex CT cf_laws_markByteS Try.f131 2 m.length LL_laws_markByteS (J_laws_markByteS m.length QQ) 400 [.code (Try.f131.body.get rfl)] (argsT 0 [t0, t1]) m = X_laws_markByteS [t0, t1] m := by kernel_rfl
theorem okc_laws_markByteS : CallOK CT cf_laws_markByteS := cfn_ok
theorem le_laws_markByteS_0 (k q : Nat) (t0 t1 t5 : Value) (m : Mem) : ex CT cf_laws_markByteS Try.f131 2 k LL_laws_markByteS (J_laws_markByteS k q) 400 (atLoop Try.f131 0) [(0, t0), (1, t1), (5, t5)] m = J_laws_markByteS k (q + 1) 2 [t0, t1, t5] m := by kernel_rfl
theorem gl_laws_markByteS (k : Nat) : ∀ q i, i < 1 → GoodL CT k Try.f131 LL_laws_markByteS (J_laws_markByteS k q) (atLoop Try.f131 i)
  | 0, 0, _ => goodL_zero (l := 2) (by kernel_rfl) (fun vs m => by kernel_rfl)
  | 0, _ + 1, h => absurd h (by omega)
  | q + 1, 0, _ => goodL_succ (np := 2) (l := 2) (live := [0, 1, 5]) (n := 1) CT_ok rfl okc_laws_markByteS (c := (Try.f131.body.get rfl)) rfl cok_laws_markByteS (by kernel_rfl) (gl_laws_markByteS k q) (by kernel_rfl) rfl (fun vs m r hl h => match vs, hl with
    | [t0, t1, t5], _ => (le_laws_markByteS_0 k q t0 t1 t5 m).trans h)
  | _ + 1, _ + 1, h => absurd h (by omega)
theorem ok_X_laws_markByteS : OkX CT 131 X_laws_markByteS := OkX.of_ex (cf := cf_laws_markByteS) (np := 2) (LL := LL_laws_markByteS) (J := (fun k => J_laws_markByteS k QQ)) CT_ok rfl Try.func131 rfl (Nat.le_of_ble_eq_true rfl) (by decide) cok_laws_markByteS okc_laws_markByteS (fun k => allLoops rfl (by kernel_rfl) (gl_laws_markByteS k QQ)) (fun args m r h => match args, h with
    | [t0, t1], h => ⟨rfl, (xe_laws_markByteS t0 t1 m).trans h⟩)
theorem ok_C_laws_markByteS : OkC CT 131 C_laws_markByteS := rcall_ok rfl ok_X_laws_markByteS

/-! ### laws.markEventS -/
noncomputable def cf_laws_markEventS : CallF := cfc 131 C_laws_markByteS cfn
noncomputable def L_laws_markEventS (k : Nat) : Nat → Nat → List Value → Mem → Option VM
  | q + 1, 0, [t0, t1, t5], m =>
    (lenX t0) |> bo fun t8 =>
    (binX .lss .no t5 t8) |> bo fun t9 =>
    brX t9
      (
        (ixaX 13 t0 t5) |> bo fun t15 =>
        (fadX 0 t15) |> bo fun t16 =>
        (stX m 1 t16 t1) |> bo fun m5 =>
        (binX .add .no t1 (.int .i64 1)) |> bo fun t18 =>
        (ixaX 13 t0 t5) |> bo fun t22 =>
        (fadX 1 t22) |> bo fun t23 =>
        (stX m5 1 t23 t18) |> bo fun m9 =>
        (binX .add .no t18 (.int .i64 1)) |> bo fun t25 =>
        (ixaX 13 t0 t5) |> bo fun t29 =>
        (fadX 2 t29) |> bo fun t30 =>
        (stX m9 1 t30 t25) |> bo fun m13 =>
        (binX .add .no t25 (.int .i64 1)) |> bo fun t32 =>
        (binX .rem .no t32 (.int .i64 3)) |> bo fun t36 =>
        (binX .eql .no t36 (.int .i64 0)) |> bo fun t37 =>
        (ixaX 13 t0 t5) |> bo fun t38 =>
        (fadX 3 t38) |> bo fun t39 =>
        (stX m13 1 t39 t37) |> bo fun m19 =>
        (binX .add .no t32 (.int .i64 1)) |> bo fun t41 =>
        (ixaX 13 t0 t5) |> bo fun t44 =>
        (fadX 4 t44) |> bo fun t45 =>
        (ld1 m19 t45) |> bo fun t46 =>
        (C_laws_markByteS [t46, t41] m19) |> bo fun r24 =>
        (ixaX 13 t0 t5) |> bo fun t52 =>
        (fadX 5 t52) |> bo fun t53 =>
        (stX r24.2 1 t53 r24.1) |> bo fun m27 =>
        (binX .add .no r24.1 (.int .i64 1)) |> bo fun t55 =>
        (ixaX 13 t0 t5) |> bo fun t59 =>
        (fadX 6 t59) |> bo fun t60 =>
        (fadX 0 t60) |> bo fun t61 =>
        (stX m27 1 t61 t55) |> bo fun m32 =>
        (binX .add .no t55 (.int .i64 1)) |> bo fun t63 =>
        (ixaX 13 t0 t5) |> bo fun t67 =>
        (fadX 6 t67) |> bo fun t68 =>
        (fadX 1 t68) |> bo fun t69 =>
        (stX m32 1 t69 t63) |> bo fun m37 =>
        (binX .add .no t63 (.int .i64 1)) |> bo fun t71 =>
        (ixaX 13 t0 t5) |> bo fun t75 =>
        (fadX 6 t75) |> bo fun t76 =>
        (fadX 2 t76) |> bo fun t77 =>
        (stX m37 1 t77 t71) |> bo fun m42 =>
        (binX .add .no t71 (.int .i64 1)) |> bo fun t79 =>
        (ixaX 13 t0 t5) |> bo fun t83 =>
        (fadX 6 t83) |> bo fun t84 =>
        (fadX 3 t84) |> bo fun t85 =>
        (stX m42 1 t85 t79) |> bo fun m47 =>
        (binX .add .no t79 (.int .i64 1)) |> bo fun t87 =>
        (ixaX 13 t0 t5) |> bo fun t91 =>
        (fadX 6 t91) |> bo fun t92 =>
        (fadX 4 t92) |> bo fun t93 =>
        (stX m47 1 t93 t87) |> bo fun m52 =>
        (binX .add .no t87 (.int .i64 1)) |> bo fun t95 =>
        (ixaX 13 t0 t5) |> bo fun t99 =>
        (fadX 6 t99) |> bo fun t100 =>
        (fadX 5 t100) |> bo fun t101 =>
        (stX m52 1 t101 t95) |> bo fun m57 =>
        (binX .add .no t95 (.int .i64 1)) |> bo fun t103 =>
        (ixaX 13 t0 t5) |> bo fun t107 =>
        (fadX 6 t107) |> bo fun t108 =>
        (fadX 6 t108) |> bo fun t109 =>
        (stX m57 1 t109 t103) |> bo fun m62 =>
        (binX .add .no t103 (.int .i64 1)) |> bo fun t111 =>
        (binX .add .no t5 (.int .i64 1)) |> bo fun t11 =>
        cutK k m62 [t0, t111] [t0, t111, t11] (L_laws_markEventS k q 0))
      (
        retK k m [t0, t1] t1)
  | _, _, _, _ => none
noncomputable def J_laws_markEventS (k q l : Nat) : List Value → Mem → Option VM := cond (Nat.beq l 2) (L_laws_markEventS k q 0) (fun _ _ => none)
def LL_laws_markEventS : List (Nat × List Tmp) := [(2, [0, 1, 5])]
noncomputable def X_laws_markEventS : List Value → Mem → Option VM
  | [t0, t1], m =>
    cutK m.length m [t0, t1] [t0, t1, (.int .i64 0)] (L_laws_markEventS m.length QQ 0)
  | _, _ => none
noncomputable def C_laws_markEventS : List Value → Mem → Option VM := rcall X_laws_markEventS
@[simp] theorem c_laws_markEventS : C_laws_markEventS = rcall X_laws_markEventS := (rfl)
theorem cok_laws_markEventS : codeOk CT Try.f60 (Try.f60.body.get rfl) = true := by kernel_rfl
theorem xe_laws_markEventS (t0 t1 : Value) (m : Mem) : ex CT cf_laws_markEventS Try.f60 2 m.length LL_laws_markEventS (J_laws_markEventS m.length QQ) 400 [.code (Try.f60.body.get rfl)] (argsT 0 [t0, t1]) m = X_laws_markEventS [t0, t1] m := by kernel_rfl
theorem okc_laws_markEventS : CallOK CT cf_laws_markEventS := cfc_ok ok_C_laws_markByteS cfn_ok
theorem le_laws_markEventS_0 (k q : Nat) (t0 t1 t5 : Value) (m : Mem) : ex CT cf_laws_markEventS Try.f60 2 k LL_laws_markEventS (J_laws_markEventS k q) 400 (atLoop Try.f60 0) [(0, t0), (1, t1), (5, t5)] m = J_laws_markEventS k (q + 1) 2 [t0, t1, t5] m := by kernel_rfl
theorem gl_laws_markEventS (k : Nat) : ∀ q i, i < 1 → GoodL CT k Try.f60 LL_laws_markEventS (J_laws_markEventS k q) (atLoop Try.f60 i)
  | 0, 0, _ => goodL_zero (l := 2) (by kernel_rfl) (fun vs m => by kernel_rfl)
  | 0, _ + 1, h => absurd h (by omega)
  | q + 1, 0, _ => goodL_succ (np := 2) (l := 2) (live := [0, 1, 5]) (n := 1) CT_ok rfl okc_laws_markEventS (c := (Try.f60.body.get rfl)) rfl cok_laws_markEventS (by kernel_rfl) (gl_laws_markEventS k q) (by kernel_rfl) rfl (fun vs m r hl h => match vs, hl with
    | [t0, t1, t5], _ => (le_laws_markEventS_0 k q t0 t1 t5 m).trans h)
  | _ + 1, _ + 1, h => absurd h (by omega)
theorem ok_X_laws_markEventS : OkX CT 60 X_laws_markEventS := OkX.of_ex (cf := cf_laws_markEventS) (np := 2) (LL := LL_laws_markEventS) (J := (fun k => J_laws_markEventS k QQ)) CT_ok rfl Try.func60 rfl (Nat.le_of_ble_eq_true rfl) (by decide) cok_laws_markEventS okc_laws_markEventS (fun k => allLoops rfl (by kernel_rfl) (gl_laws_markEventS k QQ)) (fun args m r h => match args, h with
    | [t0, t1], h => ⟨rfl, (xe_laws_markEventS t0 t1 m).trans h⟩)
theorem ok_C_laws_markEventS : OkC CT 60 C_laws_markEventS := rcall_ok rfl ok_X_laws_markEventS

/-! ### spec.l1In -/
noncomputable def cf_spec_l1In : CallF := cfn
noncomputable def X_spec_l1In : List Value → Mem → Option VM
  | [t0, t1, t2], m =>
    (binX .geq .no t0 t1) |> bo fun t9 =>
    (gd t9 true (some (t0, m)) m) |> bo fun r2 =>
    (gd t9 true (some (t2, r2.2)) r2.2) |> bo fun r3 =>
    (gd t9 true ((binX .leq .no r2.1 r3.1) |> bo fun v => some (v, r3.2)) r3.2) |> bo fun r4 =>
    (pickX t9 r4.1 (.bool false)) |> bo fun t14 =>
    retK m.length r4.2 [t0, t1, t2] t14
  | _, _ => none
noncomputable def C_spec_l1In : List Value → Mem → Option VM := fcall X_spec_l1In
@[simp] theorem c_spec_l1In : C_spec_l1In = fcall X_spec_l1In := (rfl)
theorem cok_spec_l1In : codeOk CT Try.f119 (Try.f119.body.get rfl) = true := by kernel_rfl
theorem xe_spec_l1In (t0 t1 t2 : Value) (m : Mem) : ex CT cf_spec_l1In Try.f119 3 m.length [] (fun _ _ _ => none) 400 [.code (Try.f119.body.get rfl)] (argsT 0 [t0, t1, t2]) m = X_spec_l1In [t0, t1, t2] m := by kernel_rfl
theorem okc_spec_l1In : CallOK CT cf_spec_l1In := cfn_ok
theorem ok_X_spec_l1In : OkX CT 119 X_spec_l1In := OkX.of_ex (cf := cf_spec_l1In) (np := 3) (LL := []) (J := (fun _ _ _ _ => none)) CT_ok rfl Try.func119 rfl (Nat.le_of_ble_eq_true rfl) (by decide) cok_spec_l1In okc_spec_l1In (fun k => noLoops rfl) (fun args m r h => match args, h with
    | [t0, t1, t2], h => ⟨rfl, (xe_spec_l1In t0 t1 t2 m).trans h⟩)
theorem ok_C_spec_l1In : OkC CT 119 C_spec_l1In := fcall_ok rfl ok_X_spec_l1In

/-! ### spec.l15Addressed -/
noncomputable def cf_spec_l15Addressed : CallF := cfc 119 C_spec_l1In cfn
noncomputable def X_spec_l15Addressed : List Value → Mem → Option VM
  | [t0], m =>
    (C_spec_l1In [t0, (.int .i64 2), (.int .i64 4)] m) |> bo fun r1 =>
    retK m.length r1.2 [t0] r1.1
  | _, _ => none
noncomputable def C_spec_l15Addressed : List Value → Mem → Option VM := fcall X_spec_l15Addressed
@[simp] theorem c_spec_l15Addressed : C_spec_l15Addressed = fcall X_spec_l15Addressed := (rfl)
theorem cok_spec_l15Addressed : codeOk CT Try.f171 (Try.f171.body.get rfl) = true := by kernel_rfl
theorem xe_spec_l15Addressed (t0 : Value) (m : Mem) : ex CT cf_spec_l15Addressed Try.f171 1 m.length [] (fun _ _ _ => none) 400 [.code (Try.f171.body.get rfl)] (argsT 0 [t0]) m = X_spec_l15Addressed [t0] m := by kernel_rfl
theorem okc_spec_l15Addressed : CallOK CT cf_spec_l15Addressed := cfc_ok ok_C_spec_l1In cfn_ok
theorem ok_X_spec_l15Addressed : OkX CT 171 X_spec_l15Addressed := OkX.of_ex (cf := cf_spec_l15Addressed) (np := 1) (LL := []) (J := (fun _ _ _ _ => none)) CT_ok rfl Try.func171 rfl (Nat.le_of_ble_eq_true rfl) (by decide) cok_spec_l15Addressed okc_spec_l15Addressed (fun k => noLoops rfl) (fun args m r h => match args, h with
    | [t0], h => ⟨rfl, (xe_spec_l15Addressed t0 m).trans h⟩)
theorem ok_C_spec_l15Addressed : OkC CT 171 C_spec_l15Addressed := fcall_ok rfl ok_X_spec_l15Addressed

/-! ### spec.l1Copy -/
noncomputable def cf_spec_l1Copy : CallF := cfn
noncomputable def X_spec_l1Copy : List Value → Mem → Option VM
  | [t0], m =>
    (bslX m 0 1 [.int .u8 0] []) |> bo fun r1 =>
    (apL r1.2 1 1 r1.1 t0) |> bo fun r2 =>
    retK m.length r2.2 [t0] r2.1
  | _, _ => none
noncomputable def C_spec_l1Copy : List Value → Mem → Option VM := fcall X_spec_l1Copy
@[simp] theorem c_spec_l1Copy : C_spec_l1Copy = fcall X_spec_l1Copy := (rfl)
theorem cok_spec_l1Copy : codeOk CT Try.f172 (Try.f172.body.get rfl) = true := by kernel_rfl
theorem xe_spec_l1Copy (t0 : Value) (m : Mem) : ex CT cf_spec_l1Copy Try.f172 1 m.length [] (fun _ _ _ => none) 400 [.code (Try.f172.body.get rfl)] (argsT 0 [t0]) m = X_spec_l1Copy [t0] m := by kernel_rfl
theorem okc_spec_l1Copy : CallOK CT cf_spec_l1Copy := cfn_ok
theorem ok_X_spec_l1Copy : OkX CT 172 X_spec_l1Copy := OkX.of_ex (cf := cf_spec_l1Copy) (np := 1) (LL := []) (J := (fun _ _ _ _ => none)) CT_ok rfl Try.func172 rfl (Nat.le_of_ble_eq_true rfl) (by decide) cok_spec_l1Copy okc_spec_l1Copy (fun k => noLoops rfl) (fun args m r h => match args, h with
    | [t0], h => ⟨rfl, (xe_spec_l1Copy t0 m).trans h⟩)
theorem ok_C_spec_l1Copy : OkC CT 172 C_spec_l1Copy := fcall_ok rfl ok_X_spec_l1Copy

/-! ### spec.l15For -/
noncomputable def cf_spec_l15For : CallF := cfc 171 C_spec_l15Addressed (cfc 172 C_spec_l1Copy cfn)
noncomputable def L_spec_l15For (k : Nat) : Nat → Nat → List Value → Mem → Option VM
  | q + 1, 0, [t0, t1, t5, t6], m =>
    (lenX t0) |> bo fun t11 =>
    (binX .lss .no t6 t11) |> bo fun t12 =>
    brX t12
      (
        (ixaX 13 t0 t6) |> bo fun t17 =>
        (fadX 0 t17) |> bo fun t18 =>
        (ld1 m t18) |> bo fun t19 =>
        (C_spec_l15Addressed [t19] m) |> bo fun r6 =>
        (uop .not r6.1) |> bo fun t21 =>
        (gd t21 false (some (t0, r6.2)) r6.2) |> bo fun r8 =>
        (gd t21 false (some (t6, r8.2)) r8.2) |> bo fun r9 =>
        (gd t21 false ((ixaX 13 r8.1 r9.1) |> bo fun v => some (v, r9.2)) r9.2) |> bo fun r10 =>
        (gd t21 false ((fadX 1 r10.1) |> bo fun v => some (v, r10.2)) r10.2) |> bo fun r11 =>
        (gd t21 false ((ld1 r11.2 r11.1) |> bo fun v => some (v, r11.2)) r11.2) |> bo fun r12 =>
        (gd t21 false (some (t1, r12.2)) r12.2) |> bo fun r13 =>
        (gd t21 false ((binX .eql .no r12.1 r13.1) |> bo fun v => some (v, r13.2)) r13.2) |> bo fun r14 =>
        (pickX t21 (.bool true) r14.1) |> bo fun t30 =>
        brX t30
          (
            (ixaX 13 t0 t6) |> bo fun t33 =>
            (ldS r14.2 13 t33) |> bo fun t34 =>
            (alX r14.2 [.int .i64 0, .int .i64 0, .int .i64 0, .bool false, .slice none 0 0, .int .i64 0, .int .i64 0, .int .i64 0, .int .i64 0, .int .i64 0, .int .i64 0, .int .i64 0, .int .i64 0]) |> bo fun r18 =>
            (stX r18.2 13 r18.1 t34) |> bo fun m19 =>
            (fadX 4 r18.1) |> bo fun t35 =>
            (ld1 m19 t35) |> bo fun t36 =>
            (C_spec_l1Copy [t36] m19) |> bo fun r22 =>
            (fadX 4 r18.1) |> bo fun t38 =>
            (stX r22.2 1 t38 r22.1) |> bo fun m24 =>
            (ldS m24 13 r18.1) |> bo fun t40 =>
            (bslX m24 1 13 [.int .i64 0, .int .i64 0, .int .i64 0, .bool false, .slice none 0 0, .int .i64 0, .int .i64 0, .int .i64 0, .int .i64 0, .int .i64 0, .int .i64 0, .int .i64 0, .int .i64 0] [(0, 13, t40)]) |> bo fun r26 =>
            (apL r26.2 13 120 t5 r26.1) |> bo fun r27 =>
            (binX .add .no t6 (.int .i64 1)) |> bo fun t14 =>
            cutK k r27.2 [t0, t1] [t0, t1, r27.1, t14] (L_spec_l15For k q 0))
          (
            (binX .add .no t6 (.int .i64 1)) |> bo fun t14 =>
            cutK k r14.2 [t0, t1] [t0, t1, t5, t14] (L_spec_l15For k q 0)))
      (
        retK k m [t0, t1] t5)
  | _, _, _, _ => none
noncomputable def J_spec_l15For (k q l : Nat) : List Value → Mem → Option VM := cond (Nat.beq l 3) (L_spec_l15For k q 0) (fun _ _ => none)
def LL_spec_l15For : List (Nat × List Tmp) := [(3, [0, 1, 5, 6])]
noncomputable def X_spec_l15For : List Value → Mem → Option VM
  | [t0, t1], m =>
    (bslX m 0 13 [.int .i64 0, .int .i64 0, .int .i64 0, .bool false, .slice none 0 0, .int .i64 0, .int .i64 0, .int .i64 0, .int .i64 0, .int .i64 0, .int .i64 0, .int .i64 0, .int .i64 0] []) |> bo fun r1 =>
    cutK m.length r1.2 [t0, t1] [t0, t1, r1.1, (.int .i64 0)] (L_spec_l15For m.length QQ 0)
  | _, _ => none
noncomputable def C_spec_l15For : List Value → Mem → Option VM := fcall X_spec_l15For
@[simp] theorem c_spec_l15For : C_spec_l15For = fcall X_spec_l15For := (rfl)
theorem cok_spec_l15For : codeOk CT Try.f139 (Try.f139.body.get rfl) = true := by kernel_rfl
theorem xe_spec_l15For (t0 t1 : Value) (m : Mem) : ex CT cf_spec_l15For Try.f139 2 m.length LL_spec_l15For (J_spec_l15For m.length QQ) 400 [.code (Try.f139.body.get rfl)] (argsT 0 [t0, t1]) m = X_spec_l15For [t0, t1] m := by kernel_rfl
theorem okc_spec_l15For : CallOK CT cf_spec_l15For := cfc_ok ok_C_spec_l15Addressed (cfc_ok ok_C_spec_l1Copy cfn_ok)
theorem le_spec_l15For_0 (k q : Nat) (t0 t1 t5 t6 : Value) (m : Mem) : ex CT cf_spec_l15For Try.f139 2 k LL_spec_l15For (J_spec_l15For k q) 400 (atLoop Try.f139 0) [(0, t0), (1, t1), (5, t5), (6, t6)] m = J_spec_l15For k (q + 1) 3 [t0, t1, t5, t6] m := by kernel_rfl
theorem gl_spec_l15For (k : Nat) : ∀ q i, i < 1 → GoodL CT k Try.f139 LL_spec_l15For (J_spec_l15For k q) (atLoop Try.f139 i)
  | 0, 0, _ => goodL_zero (l := 3) (by kernel_rfl) (fun vs m => by kernel_rfl)
  | 0, _ + 1, h => absurd h (by omega)
  | q + 1, 0, _ => goodL_succ (np := 2) (l := 3) (live := [0, 1, 5, 6]) (n := 1) CT_ok rfl okc_spec_l15For (c := (Try.f139.body.get rfl)) rfl cok_spec_l15For (by kernel_rfl) (gl_spec_l15For k q) (by kernel_rfl) rfl (fun vs m r hl h => match vs, hl with
    | [t0, t1, t5, t6], _ => (le_spec_l15For_0 k q t0 t1 t5 t6 m).trans h)
  | _ + 1, _ + 1, h => absurd h (by omega)
theorem ok_X_spec_l15For : OkX CT 139 X_spec_l15For := OkX.of_ex (cf := cf_spec_l15For) (np := 2) (LL := LL_spec_l15For) (J := (fun k => J_spec_l15For k QQ)) CT_ok rfl Try.func139 rfl (Nat.le_of_ble_eq_true rfl) (by decide) cok_spec_l15For okc_spec_l15For (fun k => allLoops rfl (by kernel_rfl) (gl_spec_l15For k QQ)) (fun args m r h => match args, h with
    | [t0, t1], h => ⟨rfl, (xe_spec_l15For t0 t1 m).trans h⟩)
theorem ok_C_spec_l15For : OkC CT 139 C_spec_l15For := fcall_ok rfl ok_X_spec_l15For

/-! ### spec.EventsFor -/
noncomputable def cf_spec_EventsFor : CallF := cfc 139 C_spec_l15For cfn
noncomputable def X_spec_EventsFor : List Value → Mem → Option VM
  | [t0, t1], m =>
    (alX m [.int .i64 0, .slice none 0 0]) |> bo fun r1 =>
    (lenX t0) |> bo fun t6 =>
    (binX .gtr .no t6 (.int .i64 40)) |> bo fun t7 =>
    brX t7
      (
        (bldX [.int .i64 0, .slice none 0 0] [(0, 1, (.int .i64 2))]) |> bo fun t8 =>
        (stX r1.2 2 r1.1 t8) |> bo fun m5 =>
        (resP (some 2) m5 r1.1) |> bo fun c6 =>
        retK m.length m5 [t0, t1] c6)
      (
        (C_spec_l15For [t0, t1] r1.2) |> bo fun r7 =>
        (bldX [.int .i64 0, .slice none 0 0] [(1, 1, r7.1)]) |> bo fun t12 =>
        (stX r7.2 2 r1.1 t12) |> bo fun m9 =>
        (resP (some 2) m9 r1.1) |> bo fun c10 =>
        retK m.length m9 [t0, t1] c10)
  | _, _ => none
noncomputable def C_spec_EventsFor : List Value → Mem → Option VM := fcall X_spec_EventsFor
@[simp] theorem c_spec_EventsFor : C_spec_EventsFor = fcall X_spec_EventsFor := (rfl)
theorem cok_spec_EventsFor : codeOk CT Try.f64 (Try.f64.body.get rfl) = true := by kernel_rfl
theorem xe_spec_EventsFor (t0 t1 : Value) (m : Mem) : ex CT cf_spec_EventsFor Try.f64 2 m.length [] (fun _ _ _ => none) 400 [.code (Try.f64.body.get rfl)] (argsT 0 [t0, t1]) m = X_spec_EventsFor [t0, t1] m := by kernel_rfl
theorem okc_spec_EventsFor : CallOK CT cf_spec_EventsFor := cfc_ok ok_C_spec_l15For cfn_ok
theorem ok_X_spec_EventsFor : OkX CT 64 X_spec_EventsFor := OkX.of_ex (cf := cf_spec_EventsFor) (np := 2) (LL := []) (J := (fun _ _ _ _ => none)) CT_ok rfl Try.func64 rfl (Nat.le_of_ble_eq_true rfl) (by decide) cok_spec_EventsFor okc_spec_EventsFor (fun k => noLoops rfl) (fun args m r h => match args, h with
    | [t0, t1], h => ⟨rfl, (xe_spec_EventsFor t0 t1 m).trans h⟩)
theorem ok_C_spec_EventsFor : OkC CT 64 C_spec_EventsFor := fcall_ok rfl ok_X_spec_EventsFor

/-! ### slices.Clone[[]byte,byte] -/
noncomputable def cf_slices_Clone_byte_byte : CallF := cfn
noncomputable def X_slices_Clone_byte_byte : List Value → Mem → Option VM
  | [t0], m =>
    (nlX .eql t0) |> bo fun t4 =>
    brX t4
      (
        retK m.length m [t0] (.slice none 0 0))
      (
        (bslX m 0 1 [.int .u8 0] []) |> bo fun r2 =>
        (apL r2.2 1 1 r2.1 t0) |> bo fun r3 =>
        retK m.length r3.2 [t0] r3.1)
  | _, _ => none
theorem cok_slices_Clone_byte_byte : codeOk CT Try.f173 (Try.f173.body.get rfl) = true := by kernel_rfl
theorem xe_slices_Clone_byte_byte (t0 : Value) (m : Mem) : ex CT cf_slices_Clone_byte_byte Try.f173 1 m.length [] (fun _ _ _ => none) 400 [.code (Try.f173.body.get rfl)] (argsT 0 [t0]) m = X_slices_Clone_byte_byte [t0] m := by kernel_rfl
theorem okc_slices_Clone_byte_byte : CallOK CT cf_slices_Clone_byte_byte := cfn_ok
theorem ok_X_slices_Clone_byte_byte : OkX CT 173 X_slices_Clone_byte_byte := OkX.of_ex (cf := cf_slices_Clone_byte_byte) (np := 1) (LL := []) (J := (fun _ _ _ _ => none)) CT_ok rfl Try.func173 rfl (Nat.le_of_ble_eq_true rfl) (by decide) cok_slices_Clone_byte_byte okc_slices_Clone_byte_byte (fun k => noLoops rfl) (fun args m r h => match args, h with
    | [t0], h => ⟨rfl, (xe_slices_Clone_byte_byte t0 m).trans h⟩)
noncomputable def C_slices_Clone_byte_byte : List Value → Mem → Option VM := cloneC 1
@[simp] theorem c_slices_Clone_byte_byte : C_slices_Clone_byte_byte = cloneC 1 := (rfl)
theorem cl0_slices_Clone_byte_byte : X_slices_Clone_byte_byte [.float .f64 0] [] = some (.slice none 0 0, []) := by simp -implicitDefEqProofs [X_slices_Clone_byte_byte, retK_eq]
theorem cl1_slices_Clone_byte_byte : X_slices_Clone_byte_byte [.float .f64 1] [] = some (.slice (some ⟨0, 0, none⟩) 0 0, [⟨[], 1, true, true⟩]) := by simp -implicitDefEqProofs [X_slices_Clone_byte_byte, retK_eq, apL_f1]
theorem cl2_slices_Clone_byte_byte (len : Nat) (cs : Array Value) (hl : len ≠ 0) (hs : cs.size = len * 1) (hk : len < 1000000000) (hh : cs.toList.all hard = true) : X_slices_Clone_byte_byte [.iface len (.agg cs)] [] = some (.slice (some ⟨0, 0, none⟩) len len, [⟨cs.toList, 1, true, true⟩]) := by
  have ha := fun m n o c => apL_agg (m := m) (sz := 1) (bytes := 1) (n := n) (o := o) (len := 0) (c := c) hs (by omega) (by omega)
  simp -implicitDefEqProofs [X_slices_Clone_byte_byte, retK_eq, ha, hl, hard_all hh]
theorem ok_C_slices_Clone_byte_byte : OkC CT 173 C_slices_Clone_byte_byte := cloneC_ok rfl ok_X_slices_Clone_byte_byte cl0_slices_Clone_byte_byte cl1_slices_Clone_byte_byte cl2_slices_Clone_byte_byte

/-! ### (impl.Event).clone -/
noncomputable def cf_impl_Event_clone : CallF := cfc 173 C_slices_Clone_byte_byte cfn
noncomputable def X_impl_Event_clone : List Value → Mem → Option VM
  | [t0], m =>
    (boxX m t0) |> bo fun r1 =>
    (alX r1.2 [.int .i64 0, .int .i64 0, .int .i64 0, .bool false, .slice none 0 0, .int .i64 0, .int .i64 0, .int .i64 0, .int .i64 0, .int .i64 0, .int .i64 0, .int .i64 0, .int .i64 0]) |> bo fun r2 =>
    (fadX 4 r1.1) |> bo fun t3 =>
    (ld1 r2.2 t3) |> bo fun t4 =>
    (C_slices_Clone_byte_byte [t4] r2.2) |> bo fun r5 =>
    (fadX 4 r1.1) |> bo fun t6 =>
    (stX r5.2 1 t6 r5.1) |> bo fun m7 =>
    (ldS m7 13 r1.1) |> bo fun t7 =>
    (stX m7 13 r2.1 t7) |> bo fun m9 =>
    (resP (some 13) m9 r2.1) |> bo fun c10 =>
    retK m.length m9 [t0] c10
  | _, _ => none
noncomputable def C_impl_Event_clone : List Value → Mem → Option VM := fcall X_impl_Event_clone
@[simp] theorem c_impl_Event_clone : C_impl_Event_clone = fcall X_impl_Event_clone := (rfl)
theorem cok_impl_Event_clone : codeOk CT Try.f140 (Try.f140.body.get rfl) = true := by kernel_rfl
theorem xe_impl_Event_clone (t0 : Value) (m : Mem) : ex CT cf_impl_Event_clone Try.f140 1 m.length [] (fun _ _ _ => none) 400 [.code (Try.f140.body.get rfl)] (argsT 0 [t0]) m = X_impl_Event_clone [t0] m := by kernel_rfl
theorem okc_impl_Event_clone : CallOK CT cf_impl_Event_clone := cfc_ok ok_C_slices_Clone_byte_byte cfn_ok
theorem ok_X_impl_Event_clone : OkX CT 140 X_impl_Event_clone := OkX.of_ex (cf := cf_impl_Event_clone) (np := 1) (LL := []) (J := (fun _ _ _ _ => none)) CT_ok rfl Try.func140 rfl (Nat.le_of_ble_eq_true rfl) (by decide) cok_impl_Event_clone okc_impl_Event_clone (fun k => noLoops rfl) (fun args m r h => match args, h with
    | [t0], h => ⟨rfl, (xe_impl_Event_clone t0 m).trans h⟩)
theorem ok_C_impl_Event_clone : OkC CT 140 C_impl_Event_clone := fcall_ok rfl ok_X_impl_Event_clone

/-! ### impl.EventsFor -/
noncomputable def cf_impl_EventsFor : CallF := cfc 140 C_impl_Event_clone cfn
noncomputable def L_impl_EventsFor (k : Nat) : Nat → Nat → List Value → Mem → Option VM
  | q + 1, 0, [t1, t4, t5, t14, t15, t16], m =>
    (binX .lss .no t16 t15) |> bo fun t17 =>
    brX t17
      (
        (ixaX 13 t14 t16) |> bo fun t18 =>
        (ldS m 13 t18) |> bo fun t19 =>
        (alX m [.int .i64 0, .int .i64 0, .int .i64 0, .bool false, .slice none 0 0, .int .i64 0, .int .i64 0, .int .i64 0, .int .i64 0, .int .i64 0, .int .i64 0, .int .i64 0, .int .i64 0]) |> bo fun r4 =>
        (stX r4.2 13 r4.1 t19) |> bo fun m5 =>
        (fadX 0 r4.1) |> bo fun t20 =>
        (ld1 m5 t20) |> bo fun t21 =>
        (binX .eql .no t21 (.int .i64 2)) |> bo fun t22 =>
        (gd t22 false ((fadX 0 r4.1) |> bo fun v => some (v, m5)) m5) |> bo fun r9 =>
        (gd t22 false ((ld1 r9.2 r9.1) |> bo fun v => some (v, r9.2)) r9.2) |> bo fun r10 =>
        (gd t22 false ((binX .eql .no r10.1 (.int .i64 3)) |> bo fun v => some (v, r10.2)) r10.2) |> bo fun r11 =>
        (pickX t22 (.bool true) r11.1) |> bo fun t27 =>
        (gd t27 false ((fadX 0 r4.1) |> bo fun v => some (v, r11.2)) r11.2) |> bo fun r13 =>
        (gd t27 false ((ld1 r13.2 r13.1) |> bo fun v => some (v, r13.2)) r13.2) |> bo fun r14 =>
        (gd t27 false ((binX .eql .no r14.1 (.int .i64 4)) |> bo fun v => some (v, r14.2)) r14.2) |> bo fun r15 =>
        (pickX t27 (.bool true) r15.1) |> bo fun t32 =>
        (uop .not t32) |> bo fun t34 =>
        (gd t34 false ((fadX 1 r4.1) |> bo fun v => some (v, r15.2)) r15.2) |> bo fun r18 =>
        (gd t34 false ((ld1 r18.2 r18.1) |> bo fun v => some (v, r18.2)) r18.2) |> bo fun r19 =>
        (gd t34 false (some (t1, r19.2)) r19.2) |> bo fun r20 =>
        (gd t34 false ((binX .eql .no r19.1 r20.1) |> bo fun v => some (v, r20.2)) r20.2) |> bo fun r21 =>
        (pickX t34 (.bool true) r21.1) |> bo fun t40 =>
        brX t40
          (
            (ldS r21.2 13 r4.1) |> bo fun t42 =>
            (C_impl_Event_clone [t42] r21.2) |> bo fun r24 =>
            (bslX r24.2 1 13 [.int .i64 0, .int .i64 0, .int .i64 0, .bool false, .slice none 0 0, .int .i64 0, .int .i64 0, .int .i64 0, .int .i64 0, .int .i64 0, .int .i64 0, .int .i64 0, .int .i64 0] [(0, 13, r24.1)]) |> bo fun r25 =>
            (apL r25.2 13 120 t5 r25.1) |> bo fun r26 =>
            (binX .add .no t16 (.int .i64 1)) |> bo fun t46 =>
            cutK k r26.2 [t1] [t1, t4, r26.1, t14, t15, t46] (L_impl_EventsFor k q 0))
          (
            (binX .add .no t16 (.int .i64 1)) |> bo fun t46 =>
            cutK k r21.2 [t1] [t1, t4, t5, t14, t15, t46] (L_impl_EventsFor k q 0)))
      (
        (bldX [.int .i64 0, .slice none 0 0] [(0, 1, (.int .i64 0)), (1, 1, t5)]) |> bo fun t48 =>
        (stX m 2 t4 t48) |> bo fun m30 =>
        (resP (some 2) m30 t4) |> bo fun c31 =>
        retK k m30 [t1] c31)
  | _, _, _, _ => none
noncomputable def J_impl_EventsFor (k q l : Nat) : List Value → Mem → Option VM := cond (Nat.beq l 5) (L_impl_EventsFor k q 0) (fun _ _ => none)
def LL_impl_EventsFor : List (Nat × List Tmp) := [(5, [1, 4, 5, 14, 15, 16])]
noncomputable def X_impl_EventsFor : List Value → Mem → Option VM
  | [t0, t1], m =>
    (alX m [.int .i64 0, .slice none 0 0]) |> bo fun r1 =>
    (lenX t0) |> bo fun t10 =>
    (binX .gtr .no t10 (.int .i64 40)) |> bo fun t11 =>
    brX t11
      (
        (bldX [.int .i64 0, .slice none 0 0] [(0, 1, (.int .i64 2))]) |> bo fun t12 =>
        (stX r1.2 2 r1.1 t12) |> bo fun m5 =>
        (resP (some 2) m5 r1.1) |> bo fun c6 =>
        retK m.length m5 [t0, t1] c6)
      (
        (bslX r1.2 0 13 [.int .i64 0, .int .i64 0, .int .i64 0, .bool false, .slice none 0 0, .int .i64 0, .int .i64 0, .int .i64 0, .int .i64 0, .int .i64 0, .int .i64 0, .int .i64 0, .int .i64 0] []) |> bo fun r7 =>
        (lenX t0) |> bo fun t15 =>
        cutK m.length r7.2 [t0, t1] [t1, r1.1, r7.1, t0, t15, (.int .i64 0)] (L_impl_EventsFor m.length QQ 0))
  | _, _ => none
noncomputable def C_impl_EventsFor : List Value → Mem → Option VM := fcall X_impl_EventsFor
@[simp] theorem c_impl_EventsFor : C_impl_EventsFor = fcall X_impl_EventsFor := (rfl)
theorem cok_impl_EventsFor : codeOk CT Try.f65 (Try.f65.body.get rfl) = true := by kernel_rfl
theorem xe_impl_EventsFor (t0 t1 : Value) (m : Mem) : ex CT cf_impl_EventsFor Try.f65 2 m.length LL_impl_EventsFor (J_impl_EventsFor m.length QQ) 400 [.code (Try.f65.body.get rfl)] (argsT 0 [t0, t1]) m = X_impl_EventsFor [t0, t1] m := by kernel_rfl
theorem okc_impl_EventsFor : CallOK CT cf_impl_EventsFor := cfc_ok ok_C_impl_Event_clone cfn_ok
theorem le_impl_EventsFor_0 (k q : Nat) (t1 t4 t5 t14 t15 t16 : Value) (m : Mem) : ex CT cf_impl_EventsFor Try.f65 2 k LL_impl_EventsFor (J_impl_EventsFor k q) 400 (atLoop Try.f65 0) [(1, t1), (4, t4), (5, t5), (14, t14), (15, t15), (16, t16)] m = J_impl_EventsFor k (q + 1) 5 [t1, t4, t5, t14, t15, t16] m := by kernel_rfl
theorem gl_impl_EventsFor (k : Nat) : ∀ q i, i < 1 → GoodL CT k Try.f65 LL_impl_EventsFor (J_impl_EventsFor k q) (atLoop Try.f65 i)
  | 0, 0, _ => goodL_zero (l := 5) (by kernel_rfl) (fun vs m => by kernel_rfl)
  | 0, _ + 1, h => absurd h (by omega)
  | q + 1, 0, _ => goodL_succ (np := 2) (l := 5) (live := [1, 4, 5, 14, 15, 16]) (n := 1) CT_ok rfl okc_impl_EventsFor (c := (Try.f65.body.get rfl)) rfl cok_impl_EventsFor (by kernel_rfl) (gl_impl_EventsFor k q) (by kernel_rfl) rfl (fun vs m r hl h => match vs, hl with
    | [t1, t4, t5, t14, t15, t16], _ => (le_impl_EventsFor_0 k q t1 t4 t5 t14 t15 t16 m).trans h)
  | _ + 1, _ + 1, h => absurd h (by omega)
theorem ok_X_impl_EventsFor : OkX CT 65 X_impl_EventsFor := OkX.of_ex (cf := cf_impl_EventsFor) (np := 2) (LL := LL_impl_EventsFor) (J := (fun k => J_impl_EventsFor k QQ)) CT_ok rfl Try.func65 rfl (Nat.le_of_ble_eq_true rfl) (by decide) cok_impl_EventsFor okc_impl_EventsFor (fun k => allLoops rfl (by kernel_rfl) (gl_impl_EventsFor k QQ)) (fun args m r h => match args, h with
    | [t0, t1], h => ⟨rfl, (xe_impl_EventsFor t0 t1 m).trans h⟩)
theorem ok_C_impl_EventsFor : OkC CT 65 C_impl_EventsFor := fcall_ok rfl ok_X_impl_EventsFor

/-! ### laws.eqEventsResult -/
noncomputable def cf_laws_eqEventsResult : CallF := cfc 58 C_laws_eqEventS cfn
noncomputable def X_laws_eqEventsResult : List Value → Mem → Option VM
  | [t0, t1], m =>
    (boxX m t0) |> bo fun r1 =>
    (boxX r1.2 t1) |> bo fun r2 =>
    (fadX 0 r1.1) |> bo fun t5 =>
    (ld1 r2.2 t5) |> bo fun t6 =>
    (fadX 0 r2.1) |> bo fun t7 =>
    (ld1 r2.2 t7) |> bo fun t8 =>
    (binX .neq .no t6 t8) |> bo fun t9 =>
    brX t9
      (
        retK m.length r2.2 [t0, t1] (.bool false))
      (
        (fadX 1 r1.1) |> bo fun t10 =>
        (ld1 r2.2 t10) |> bo fun t11 =>
        (fadX 1 r2.1) |> bo fun t12 =>
        (ld1 r2.2 t12) |> bo fun t13 =>
        (C_laws_eqEventS [t11, t13] r2.2) |> bo fun r12 =>
        (uop .not r12.1) |> bo fun t15 =>
        brX t15
          (
            retK m.length r12.2 [t0, t1] (.bool false))
          (
            retK m.length r12.2 [t0, t1] (.bool true)))
  | _, _ => none
noncomputable def C_laws_eqEventsResult : List Value → Mem → Option VM := fcall X_laws_eqEventsResult
@[simp] theorem c_laws_eqEventsResult : C_laws_eqEventsResult = fcall X_laws_eqEventsResult := (rfl)
theorem cok_laws_eqEventsResult : codeOk CT Try.f66 (Try.f66.body.get rfl) = true := by kernel_rfl
theorem xe_laws_eqEventsResult (t0 t1 : Value) (m : Mem) : ex CT cf_laws_eqEventsResult Try.f66 2 m.length [] (fun _ _ _ => none) 400 [.code (Try.f66.body.get rfl)] (argsT 0 [t0, t1]) m = X_laws_eqEventsResult [t0, t1] m := by kernel_rfl
theorem okc_laws_eqEventsResult : CallOK CT cf_laws_eqEventsResult := cfc_ok ok_C_laws_eqEventS cfn_ok
theorem ok_X_laws_eqEventsResult : OkX CT 66 X_laws_eqEventsResult := OkX.of_ex (cf := cf_laws_eqEventsResult) (np := 2) (LL := []) (J := (fun _ _ _ _ => none)) CT_ok rfl Try.func66 rfl (Nat.le_of_ble_eq_true rfl) (by decide) cok_laws_eqEventsResult okc_laws_eqEventsResult (fun k => noLoops rfl) (fun args m r h => match args, h with
    | [t0, t1], h => ⟨rfl, (xe_laws_eqEventsResult t0 t1 m).trans h⟩)
theorem ok_C_laws_eqEventsResult : OkC CT 66 C_laws_eqEventsResult := fcall_ok rfl ok_X_laws_eqEventsResult

/-! ### laws.markEventsResult -/
noncomputable def cf_laws_markEventsResult : CallF := cfc 60 C_laws_markEventS cfn
noncomputable def X_laws_markEventsResult : List Value → Mem → Option VM
  | [t0, t1], m =>
    (boxX m t0) |> bo fun r1 =>
    (fadX 1 r1.1) |> bo fun t5 =>
    (ld1 r1.2 t5) |> bo fun t6 =>
    (C_laws_markEventS [t6, t1] r1.2) |> bo fun r4 =>
    retK m.length r4.2 [t0, r4.1] r4.1
  | _, _ => none
noncomputable def C_laws_markEventsResult : List Value → Mem → Option VM := rcall X_laws_markEventsResult
@[simp] theorem c_laws_markEventsResult : C_laws_markEventsResult = rcall X_laws_markEventsResult := (rfl)
theorem cok_laws_markEventsResult : codeOk CT Try.f67 (Try.f67.body.get rfl) = true := by kernel_rfl
theorem xe_laws_markEventsResult (t0 t1 : Value) (m : Mem) : ex CT cf_laws_markEventsResult Try.f67 2 m.length [] (fun _ _ _ => none) 400 [.code (Try.f67.body.get rfl)] (argsT 0 [t0, t1]) m = X_laws_markEventsResult [t0, t1] m := by kernel_rfl
theorem okc_laws_markEventsResult : CallOK CT cf_laws_markEventsResult := cfc_ok ok_C_laws_markEventS cfn_ok
theorem ok_X_laws_markEventsResult : OkX CT 67 X_laws_markEventsResult := OkX.of_ex (cf := cf_laws_markEventsResult) (np := 2) (LL := []) (J := (fun _ _ _ _ => none)) CT_ok rfl Try.func67 rfl (Nat.le_of_ble_eq_true rfl) (by decide) cok_laws_markEventsResult okc_laws_markEventsResult (fun k => noLoops rfl) (fun args m r h => match args, h with
    | [t0, t1], h => ⟨rfl, (xe_laws_markEventsResult t0 t1 m).trans h⟩)
theorem ok_C_laws_markEventsResult : OkC CT 67 C_laws_markEventsResult := rcall_ok rfl ok_X_laws_markEventsResult

/-! ### laws.heldByteS -/
noncomputable def cf_laws_heldByteS : CallF := cfn
noncomputable def L_laws_heldByteS (k : Nat) : Nat → Nat → List Value → Mem → Option VM
  | q + 1, 0, [t0, t1, t5], m =>
    (lenX t0) |> bo fun t8 =>
    (binX .lss .no t5 t8) |> bo fun t9 =>
    brX t9
      (
        (ixaX 1 t0 t5) |> bo fun t14 =>
        (ld1 m t14) |> bo fun t15 =>
        (cvI .u8 t1) |> bo fun t17 =>
        (binX .neq .no t15 t17) |> bo fun t18 =>
        brX t18
          (
            retK k m [t0, t1] (.int .i64 (-1)))
          (
            (binX .add .no t1 (.int .i64 1)) |> bo fun t20 =>
            (binX .add .no t5 (.int .i64 1)) |> bo fun t11 =>
            cutK k m [t0, t20] [t0, t20, t11] (L_laws_heldByteS k q 0)))
      (
        retK k m [t0, t1] t1)
  | _, _, _, _ => none
noncomputable def J_laws_heldByteS (k q l : Nat) : List Value → Mem → Option VM := cond (Nat.beq l 2) (L_laws_heldByteS k q 0) (fun _ _ => none)
def LL_laws_heldByteS : List (Nat × List Tmp) := [(2, [0, 1, 5])]
noncomputable def X_laws_heldByteS : List Value → Mem → Option VM
  | [t0, t1], m =>
    cutK m.length m [t0, t1] [t0, t1, (.int .i64 0)] (L_laws_heldByteS m.length QQ 0)
  | _, _ => none
noncomputable def C_laws_heldByteS : List Value → Mem → Option VM := fcall X_laws_heldByteS
@[simp] theorem c_laws_heldByteS : C_laws_heldByteS = fcall X_laws_heldByteS := (rfl)
theorem cok_laws_heldByteS : codeOk CT Try.f132 (Try.f132.body.get rfl) = true := by kernel_rfl
theorem xe_laws_heldByteS (t0 t1 : Value) (m : Mem) : ex CT cf_laws_heldByteS Try.f132 2 m.length LL_laws_heldByteS (J_laws_heldByteS m.length QQ) 400 [.code (Try.f132.body.get rfl)] (argsT 0 [t0, t1]) m = X_laws_heldByteS [t0, t1] m := by kernel_rfl
theorem okc_laws_heldByteS : CallOK CT cf_laws_heldByteS := cfn_ok
theorem le_laws_heldByteS_0 (k q : Nat) (t0 t1 t5 : Value) (m : Mem) : ex CT cf_laws_heldByteS Try.f132 2 k LL_laws_heldByteS (J_laws_heldByteS k q) 400 (atLoop Try.f132 0) [(0, t0), (1, t1), (5, t5)] m = J_laws_heldByteS k (q + 1) 2 [t0, t1, t5] m := by kernel_rfl
theorem gl_laws_heldByteS (k : Nat) : ∀ q i, i < 1 → GoodL CT k Try.f132 LL_laws_heldByteS (J_laws_heldByteS k q) (atLoop Try.f132 i)
  | 0, 0, _ => goodL_zero (l := 2) (by kernel_rfl) (fun vs m => by kernel_rfl)
  | 0, _ + 1, h => absurd h (by omega)
  | q + 1, 0, _ => goodL_succ (np := 2) (l := 2) (live := [0, 1, 5]) (n := 1) CT_ok rfl okc_laws_heldByteS (c := (Try.f132.body.get rfl)) rfl cok_laws_heldByteS (by kernel_rfl) (gl_laws_heldByteS k q) (by kernel_rfl) rfl (fun vs m r hl h => match vs, hl with
    | [t0, t1, t5], _ => (le_laws_heldByteS_0 k q t0 t1 t5 m).trans h)
  | _ + 1, _ + 1, h => absurd h (by omega)
theorem ok_X_laws_heldByteS : OkX CT 132 X_laws_heldByteS := OkX.of_ex (cf := cf_laws_heldByteS) (np := 2) (LL := LL_laws_heldByteS) (J := (fun k => J_laws_heldByteS k QQ)) CT_ok rfl Try.func132 rfl (Nat.le_of_ble_eq_true rfl) (by decide) cok_laws_heldByteS okc_laws_heldByteS (fun k => allLoops rfl (by kernel_rfl) (gl_laws_heldByteS k QQ)) (fun args m r h => match args, h with
    | [t0, t1], h => ⟨rfl, (xe_laws_heldByteS t0 t1 m).trans h⟩)
theorem ok_C_laws_heldByteS : OkC CT 132 C_laws_heldByteS := fcall_ok rfl ok_X_laws_heldByteS

/-! ### laws.heldEventS -/
noncomputable def cf_laws_heldEventS : CallF := cfc 132 C_laws_heldByteS cfn
noncomputable def L_laws_heldEventS (k : Nat) : Nat → Nat → List Value → Mem → Option VM
  | q + 1, 0, [t0, t1, t5], m =>
    (lenX t0) |> bo fun t8 =>
    (binX .lss .no t5 t8) |> bo fun t9 =>
    brX t9
      (
        (ixaX 13 t0 t5) |> bo fun t14 =>
        (fadX 0 t14) |> bo fun t15 =>
        (ld1 m t15) |> bo fun t16 =>
        (binX .neq .no t16 t1) |> bo fun t18 =>
        brX t18
          (
            retK k m [t0, t1] (.int .i64 (-1)))
          (
            (binX .add .no t1 (.int .i64 1)) |> bo fun t20 =>
            (ixaX 13 t0 t5) |> bo fun t23 =>
            (fadX 1 t23) |> bo fun t24 =>
            (ld1 m t24) |> bo fun t25 =>
            (binX .neq .no t25 t20) |> bo fun t27 =>
            brX t27
              (
                retK k m [t0, t20] (.int .i64 (-1)))
              (
                (binX .add .no t20 (.int .i64 1)) |> bo fun t29 =>
                (ixaX 13 t0 t5) |> bo fun t32 =>
                (fadX 2 t32) |> bo fun t33 =>
                (ld1 m t33) |> bo fun t34 =>
                (binX .neq .no t34 t29) |> bo fun t36 =>
                brX t36
                  (
                    retK k m [t0, t29] (.int .i64 (-1)))
                  (
                    (binX .add .no t29 (.int .i64 1)) |> bo fun t38 =>
                    (ixaX 13 t0 t5) |> bo fun t41 =>
                    (fadX 3 t41) |> bo fun t42 =>
                    (ld1 m t42) |> bo fun t43 =>
                    (binX .rem .no t38 (.int .i64 3)) |> bo fun t45 =>
                    (binX .eql .no t45 (.int .i64 0)) |> bo fun t46 =>
                    (binX .neq .bool t43 t46) |> bo fun t47 =>
                    brX t47
                      (
                        retK k m [t0, t38] (.int .i64 (-1)))
                      (
                        (binX .add .no t38 (.int .i64 1)) |> bo fun t49 =>
                        (ixaX 13 t0 t5) |> bo fun t52 =>
                        (fadX 4 t52) |> bo fun t53 =>
                        (ld1 m t53) |> bo fun t54 =>
                        (C_laws_heldByteS [t54, t49] m) |> bo fun r28 =>
                        (binX .lss .no r28.1 (.int .i64 0)) |> bo fun t58 =>
                        brX t58
                          (
                            retK k r28.2 [t0, r28.1] (.int .i64 (-1)))
                          (
                            (ixaX 13 t0 t5) |> bo fun t61 =>
                            (fadX 5 t61) |> bo fun t62 =>
                            (ld1 r28.2 t62) |> bo fun t63 =>
                            (binX .neq .no t63 r28.1) |> bo fun t65 =>
                            brX t65
                              (
                                retK k r28.2 [t0, r28.1] (.int .i64 (-1)))
                              (
                                (binX .add .no r28.1 (.int .i64 1)) |> bo fun t67 =>
                                (ixaX 13 t0 t5) |> bo fun t70 =>
                                (fadX 6 t70) |> bo fun t71 =>
                                (fadX 0 t71) |> bo fun t72 =>
                                (ld1 r28.2 t72) |> bo fun t73 =>
                                (binX .neq .no t73 t67) |> bo fun t75 =>
                                brX t75
                                  (
                                    retK k r28.2 [t0, t67] (.int .i64 (-1)))
                                  (
                                    (binX .add .no t67 (.int .i64 1)) |> bo fun t77 =>
                                    (ixaX 13 t0 t5) |> bo fun t80 =>
                                    (fadX 6 t80) |> bo fun t81 =>
                                    (fadX 1 t81) |> bo fun t82 =>
                                    (ld1 r28.2 t82) |> bo fun t83 =>
                                    (binX .neq .no t83 t77) |> bo fun t85 =>
                                    brX t85
                                      (
                                        retK k r28.2 [t0, t77] (.int .i64 (-1)))
                                      (
                                        (binX .add .no t77 (.int .i64 1)) |> bo fun t87 =>
                                        (ixaX 13 t0 t5) |> bo fun t90 =>
                                        (fadX 6 t90) |> bo fun t91 =>
                                        (fadX 2 t91) |> bo fun t92 =>
                                        (ld1 r28.2 t92) |> bo fun t93 =>
                                        (binX .neq .no t93 t87) |> bo fun t95 =>
                                        brX t95
                                          (
                                            retK k r28.2 [t0, t87] (.int .i64 (-1)))
                                          (
                                            (binX .add .no t87 (.int .i64 1)) |> bo fun t97 =>
                                            (ixaX 13 t0 t5) |> bo fun t100 =>
                                            (fadX 6 t100) |> bo fun t101 =>
                                            (fadX 3 t101) |> bo fun t102 =>
                                            (ld1 r28.2 t102) |> bo fun t103 =>
                                            (binX .neq .no t103 t97) |> bo fun t105 =>
                                            brX t105
                                              (
                                                retK k r28.2 [t0, t97] (.int .i64 (-1)))
                                              (
                                                (binX .add .no t97 (.int .i64 1)) |> bo fun t107 =>
                                                (ixaX 13 t0 t5) |> bo fun t110 =>
                                                (fadX 6 t110) |> bo fun t111 =>
                                                (fadX 4 t111) |> bo fun t112 =>
                                                (ld1 r28.2 t112) |> bo fun t113 =>
                                                (binX .neq .no t113 t107) |> bo fun t115 =>
                                                brX t115
                                                  (
                                                    retK k r28.2 [t0, t107] (.int .i64 (-1)))
                                                  (
                                                    (binX .add .no t107 (.int .i64 1)) |> bo fun t117 =>
                                                    (ixaX 13 t0 t5) |> bo fun t120 =>
                                                    (fadX 6 t120) |> bo fun t121 =>
                                                    (fadX 5 t121) |> bo fun t122 =>
                                                    (ld1 r28.2 t122) |> bo fun t123 =>
                                                    (binX .neq .no t123 t117) |> bo fun t125 =>
                                                    brX t125
                                                      (
                                                        retK k r28.2 [t0, t117] (.int .i64 (-1)))
                                                      (
                                                        (binX .add .no t117 (.int .i64 1)) |> bo fun t127 =>
                                                        (ixaX 13 t0 t5) |> bo fun t130 =>
                                                        (fadX 6 t130) |> bo fun t131 =>
                                                        (fadX 6 t131) |> bo fun t132 =>
                                                        (ld1 r28.2 t132) |> bo fun t133 =>
                                                        (binX .neq .no t133 t127) |> bo fun t135 =>
                                                        brX t135
                                                          (
                                                            retK k r28.2 [t0, t127] (.int .i64 (-1)))
                                                          (
                                                            (binX .add .no t127 (.int .i64 1)) |> bo fun t137 =>
                                                            (binX .add .no t5 (.int .i64 1)) |> bo fun t11 =>
                                                            cutK k r28.2 [t0, t137] [t0, t137, t11] (L_laws_heldEventS k q 0)))))))))))))))
      (
        retK k m [t0, t1] t1)
  | _, _, _, _ => none
noncomputable def J_laws_heldEventS (k q l : Nat) : List Value → Mem → Option VM := cond (Nat.beq l 2) (L_laws_heldEventS k q 0) (fun _ _ => none)
def LL_laws_heldEventS : List (Nat × List Tmp) := [(2, [0, 1, 5])]
noncomputable def X_laws_heldEventS : List Value → Mem → Option VM
  | [t0, t1], m =>
    cutK m.length m [t0, t1] [t0, t1, (.int .i64 0)] (L_laws_heldEventS m.length QQ 0)
  | _, _ => none
noncomputable def C_laws_heldEventS : List Value → Mem → Option VM := fcall X_laws_heldEventS
@[simp] theorem c_laws_heldEventS : C_laws_heldEventS = fcall X_laws_heldEventS := (rfl)
theorem cok_laws_heldEventS : codeOk CT Try.f141 (Try.f141.body.get rfl) = true := by kernel_rfl
theorem xe_laws_heldEventS (t0 t1 : Value) (m : Mem) : ex CT cf_laws_heldEventS Try.f141 2 m.length LL_laws_heldEventS (J_laws_heldEventS m.length QQ) 400 [.code (Try.f141.body.get rfl)] (argsT 0 [t0, t1]) m = X_laws_heldEventS [t0, t1] m := by kernel_rfl
theorem okc_laws_heldEventS : CallOK CT cf_laws_heldEventS := cfc_ok ok_C_laws_heldByteS cfn_ok
theorem le_laws_heldEventS_0 (k q : Nat) (t0 t1 t5 : Value) (m : Mem) : ex CT cf_laws_heldEventS Try.f141 2 k LL_laws_heldEventS (J_laws_heldEventS k q) 400 (atLoop Try.f141 0) [(0, t0), (1, t1), (5, t5)] m = J_laws_heldEventS k (q + 1) 2 [t0, t1, t5] m := by kernel_rfl
theorem gl_laws_heldEventS (k : Nat) : ∀ q i, i < 1 → GoodL CT k Try.f141 LL_laws_heldEventS (J_laws_heldEventS k q) (atLoop Try.f141 i)
  | 0, 0, _ => goodL_zero (l := 2) (by kernel_rfl) (fun vs m => by kernel_rfl)
  | 0, _ + 1, h => absurd h (by omega)
  | q + 1, 0, _ => goodL_succ (np := 2) (l := 2) (live := [0, 1, 5]) (n := 1) CT_ok rfl okc_laws_heldEventS (c := (Try.f141.body.get rfl)) rfl cok_laws_heldEventS (by kernel_rfl) (gl_laws_heldEventS k q) (by kernel_rfl) rfl (fun vs m r hl h => match vs, hl with
    | [t0, t1, t5], _ => (le_laws_heldEventS_0 k q t0 t1 t5 m).trans h)
  | _ + 1, _ + 1, h => absurd h (by omega)
theorem ok_X_laws_heldEventS : OkX CT 141 X_laws_heldEventS := OkX.of_ex (cf := cf_laws_heldEventS) (np := 2) (LL := LL_laws_heldEventS) (J := (fun k => J_laws_heldEventS k QQ)) CT_ok rfl Try.func141 rfl (Nat.le_of_ble_eq_true rfl) (by decide) cok_laws_heldEventS okc_laws_heldEventS (fun k => allLoops rfl (by kernel_rfl) (gl_laws_heldEventS k QQ)) (fun args m r h => match args, h with
    | [t0, t1], h => ⟨rfl, (xe_laws_heldEventS t0 t1 m).trans h⟩)
theorem ok_C_laws_heldEventS : OkC CT 141 C_laws_heldEventS := fcall_ok rfl ok_X_laws_heldEventS

/-! ### laws.heldEventsResult -/
noncomputable def cf_laws_heldEventsResult : CallF := cfc 141 C_laws_heldEventS cfn
noncomputable def X_laws_heldEventsResult : List Value → Mem → Option VM
  | [t0, t1], m =>
    (boxX m t0) |> bo fun r1 =>
    (fadX 1 r1.1) |> bo fun t5 =>
    (ld1 r1.2 t5) |> bo fun t6 =>
    (C_laws_heldEventS [t6, t1] r1.2) |> bo fun r4 =>
    (binX .lss .no r4.1 (.int .i64 0)) |> bo fun t10 =>
    brX t10
      (
        retK m.length r4.2 [t0, r4.1] (.int .i64 (-1)))
      (
        retK m.length r4.2 [t0, r4.1] r4.1)
  | _, _ => none
noncomputable def C_laws_heldEventsResult : List Value → Mem → Option VM := fcall X_laws_heldEventsResult
@[simp] theorem c_laws_heldEventsResult : C_laws_heldEventsResult = fcall X_laws_heldEventsResult := (rfl)
theorem cok_laws_heldEventsResult : codeOk CT Try.f68 (Try.f68.body.get rfl) = true := by kernel_rfl
theorem xe_laws_heldEventsResult (t0 t1 : Value) (m : Mem) : ex CT cf_laws_heldEventsResult Try.f68 2 m.length [] (fun _ _ _ => none) 400 [.code (Try.f68.body.get rfl)] (argsT 0 [t0, t1]) m = X_laws_heldEventsResult [t0, t1] m := by kernel_rfl
theorem okc_laws_heldEventsResult : CallOK CT cf_laws_heldEventsResult := cfc_ok ok_C_laws_heldEventS cfn_ok
theorem ok_X_laws_heldEventsResult : OkX CT 68 X_laws_heldEventsResult := OkX.of_ex (cf := cf_laws_heldEventsResult) (np := 2) (LL := []) (J := (fun _ _ _ _ => none)) CT_ok rfl Try.func68 rfl (Nat.le_of_ble_eq_true rfl) (by decide) cok_laws_heldEventsResult okc_laws_heldEventsResult (fun k => noLoops rfl) (fun args m r h => match args, h with
    | [t0, t1], h => ⟨rfl, (xe_laws_heldEventsResult t0 t1 m).trans h⟩)
theorem ok_C_laws_heldEventsResult : OkC CT 68 C_laws_heldEventsResult := fcall_ok rfl ok_X_laws_heldEventsResult

/-! ### laws.FnExactEventsFor -/
noncomputable def cf_laws_FnExactEventsFor : CallF := cfc 51 C_laws_szEventS (cfc 54 C_laws_toEventS (cfc 58 C_laws_eqEventS (cfc 60 C_laws_markEventS (cfc 64 C_spec_EventsFor (cfc 65 C_impl_EventsFor (cfc 66 C_laws_eqEventsResult (cfc 67 C_laws_markEventsResult (cfc 68 C_laws_heldEventsResult cfn))))))))
noncomputable def X_laws_FnExactEventsFor : List Value → Mem → Option VM
  | [t0, t1], m =>
    (C_laws_szEventS [t0, (.int .i64 1048576)] m) |> bo fun r1 =>
    (binX .lss .no r1.1 (.int .i64 0)) |> bo fun t17 =>
    brX t17
      (
        retK m.length r1.2 [t0, t1] (.bool true))
      (
        (C_laws_toEventS [t0] r1.2) |> bo fun r3 =>
        (C_spec_EventsFor [r3.1, t1] r3.2) |> bo fun r4 =>
        (alX r4.2 [.int .i64 0, .slice none 0 0]) |> bo fun r5 =>
        (stX r5.2 2 r5.1 r4.1) |> bo fun m6 =>
        (C_laws_toEventS [t0] m6) |> bo fun r7 =>
        (C_impl_EventsFor [r7.1, t1] r7.2) |> bo fun r8 =>
        (alX r8.2 [.int .i64 0, .slice none 0 0]) |> bo fun r9 =>
        (stX r9.2 2 r9.1 r8.1) |> bo fun m10 =>
        (ldS m10 2 r9.1) |> bo fun t27 =>
        (ldS m10 2 r5.1) |> bo fun t28 =>
        (C_laws_eqEventsResult [t27, t28] m10) |> bo fun r13 =>
        (uop .not r13.1) |> bo fun t30 =>
        brX t30
          (
            retK m.length r13.2 [t0, t1] (.bool false))
          (
            (C_laws_toEventS [t0] r13.2) |> bo fun r15 =>
            (C_laws_eqEventS [r7.1, r15.1] r15.2) |> bo fun r16 =>
            (uop .not r16.1) |> bo fun t35 =>
            brX t35
              (
                retK m.length r16.2 [t0, t1] (.bool false))
              (
                (C_laws_markEventS [r7.1, (.int .i64 1)] r16.2) |> bo fun r18 =>
                (binX .lss .no r18.1 (.int .i64 0)) |> bo fun t40 =>
                (gd t40 false ((ldS r18.2 2 r9.1) |> bo fun v => some (v, r18.2)) r18.2) |> bo fun r20 =>
                (gd t40 false ((ldS r20.2 2 r5.1) |> bo fun v => some (v, r20.2)) r20.2) |> bo fun r21 =>
                (gd t40 false ((C_laws_eqEventsResult [r20.1, r21.1] r21.2) |> bo fun r => some (r.1, r.2)) r21.2) |> bo fun r22 =>
                (gd t40 false ((uop .not r22.1) |> bo fun v => some (v, r22.2)) r22.2) |> bo fun r23 =>
                (pickX t40 (.bool true) r23.1) |> bo fun t46 =>
                brX t46
                  (
                    retK m.length r23.2 [t0, t1] (.bool false))
                  (
                    (ldS r23.2 2 r9.1) |> bo fun t47 =>
                    (C_laws_markEventsResult [t47, (.int .i64 1)] r23.2) |> bo fun r26 =>
                    (ldS r26.2 2 r9.1) |> bo fun t50 =>
                    (C_laws_heldEventsResult [t50, (.int .i64 1)] r26.2) |> bo fun r28 =>
                    (binX .lss .no r28.1 (.int .i64 0)) |> bo fun t54 =>
                    brX t54
                      (
                        retK m.length r28.2 [t0, t1] (.bool false))
                      (
                        (binX .neq .no r28.1 r26.1) |> bo fun t57 =>
                        brX t57
                          (
                            retK m.length r28.2 [t0, t1] (.bool false))
                          (
                            (C_laws_toEventS [t0] r28.2) |> bo fun r31 =>
                            (C_impl_EventsFor [r31.1, t1] r31.2) |> bo fun r32 =>
                            (alX r32.2 [.int .i64 0, .slice none 0 0]) |> bo fun r33 =>
                            (stX r33.2 2 r33.1 r32.1) |> bo fun m34 =>
                            (ldS m34 2 r33.1) |> bo fun t62 =>
                            (ldS m34 2 r5.1) |> bo fun t63 =>
                            (C_laws_eqEventsResult [t62, t63] m34) |> bo fun r37 =>
                            (uop .not r37.1) |> bo fun t65 =>
                            brX t65
                              (
                                retK m.length r37.2 [t0, t1] (.bool false))
                              (
                                (ldS r37.2 2 r9.1) |> bo fun t66 =>
                                (C_laws_heldEventsResult [t66, (.int .i64 1)] r37.2) |> bo fun r40 =>
                                (binX .lss .no r40.1 (.int .i64 0)) |> bo fun t70 =>
                                brX t70
                                  (
                                    retK m.length r40.2 [t0, t1] (.bool false))
                                  (
                                    (binX .neq .no r40.1 r26.1) |> bo fun t73 =>
                                    brX t73
                                      (
                                        retK m.length r40.2 [t0, t1] (.bool false))
                                      (
                                        retK m.length r40.2 [t0, t1] (.bool true))))))))))
  | _, _ => none
noncomputable def C_laws_FnExactEventsFor : List Value → Mem → Option VM := fcall X_laws_FnExactEventsFor
@[simp] theorem c_laws_FnExactEventsFor : C_laws_FnExactEventsFor = fcall X_laws_FnExactEventsFor := (rfl)
theorem cok_laws_FnExactEventsFor : codeOk CT Try.f9 (Try.f9.body.get rfl) = true := by kernel_rfl
theorem xe_laws_FnExactEventsFor (t0 t1 : Value) (m : Mem) : ex CT cf_laws_FnExactEventsFor Try.f9 2 m.length [] (fun _ _ _ => none) 400 [.code (Try.f9.body.get rfl)] (argsT 0 [t0, t1]) m = X_laws_FnExactEventsFor [t0, t1] m := by kernel_rfl
theorem okc_laws_FnExactEventsFor : CallOK CT cf_laws_FnExactEventsFor := cfc_ok ok_C_laws_szEventS (cfc_ok ok_C_laws_toEventS (cfc_ok ok_C_laws_eqEventS (cfc_ok ok_C_laws_markEventS (cfc_ok ok_C_spec_EventsFor (cfc_ok ok_C_impl_EventsFor (cfc_ok ok_C_laws_eqEventsResult (cfc_ok ok_C_laws_markEventsResult (cfc_ok ok_C_laws_heldEventsResult cfn_ok))))))))
theorem ok_X_laws_FnExactEventsFor : OkX CT 9 X_laws_FnExactEventsFor := OkX.of_ex (cf := cf_laws_FnExactEventsFor) (np := 2) (LL := []) (J := (fun _ _ _ _ => none)) CT_ok rfl Try.func9 rfl (Nat.le_of_ble_eq_true rfl) (by decide) cok_laws_FnExactEventsFor okc_laws_FnExactEventsFor (fun k => noLoops rfl) (fun args m r h => match args, h with
    | [t0, t1], h => ⟨rfl, (xe_laws_FnExactEventsFor t0 t1 m).trans h⟩)
theorem ok_C_laws_FnExactEventsFor : OkC CT 9 C_laws_FnExactEventsFor := fcall_ok rfl ok_X_laws_FnExactEventsFor

end Go.Ab
