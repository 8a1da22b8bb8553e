/- Plain forms of functions, printed by gen.py. -/
import Derived.Test.YtkfbpdbopkdnjaaCf3
import Derived.Test.YtkfbpdbopkdnjaaFC
import Derived.Test.YtkfbpdbopkdnjaaFD
set_option linter.unusedVariables false
set_option linter.unusedSimpArgs false
namespace Go.Ab
open Go.Proofs
set_option maxRecDepth 100000
set_option linter.unusedVariables false
/-! ### laws.szByteS -/
noncomputable def cf_laws_szByteS : CallF := cfn
noncomputable def X_laws_szByteS : List Value → Mem → Option VM
  | [t0, t1], m =>
    (lenX t0) |> bo fun t7 =>
    (binX .sub .no t1 t7) |> bo fun t8 =>
    (binX .lss .no t8 (.int .i64 0)) |> bo fun t10 =>
    brX t10
      (
        retK m.length m [t0, t8] (.int .i64 (-1)))
      (
        retK m.length m [t0, t8] t8)
  | _, _ => none
noncomputable def C_laws_szByteS : List Value → Mem → Option VM := fcall X_laws_szByteS
@[simp] theorem c_laws_szByteS : C_laws_szByteS = fcall X_laws_szByteS := (rfl)
theorem cok_laws_szByteS : codeOk CT Try.f135 (Try.f135.body.get rfl) = true := by kernel_rfl
theorem xe_laws_szByteS (t0 t1 : Value) (m : Mem) : ex CT cf_laws_szByteS Try.f135 2 m.length [] (fun _ _ _ => none) 400 [.code (Try.f135.body.get rfl)] (argsT 0 [t0, t1]) m = X_laws_szByteS [t0, t1] m := by kernel_rfl
theorem okc_laws_szByteS : CallOK CT cf_laws_szByteS := cfn_ok
theorem ok_X_laws_szByteS : OkX CT 135 X_laws_szByteS := OkX.of_ex (cf := cf_laws_szByteS) (np := 2) (LL := []) (J := (fun _ _ _ _ => none)) CT_ok rfl Try.func135 rfl (Nat.le_of_ble_eq_true rfl) (by decide) cok_laws_szByteS okc_laws_szByteS (fun k => noLoops rfl) (fun args m r h => match args, h with
    | [t0, t1], h => ⟨rfl, (xe_laws_szByteS t0 t1 m).trans h⟩)
theorem ok_C_laws_szByteS : OkC CT 135 C_laws_szByteS := fcall_ok rfl ok_X_laws_szByteS

/-! ### laws.szEvent -/
noncomputable def cf_laws_szEvent : CallF := cfc 135 C_laws_szByteS cfn
noncomputable def X_laws_szEvent : List Value → Mem → Option VM
  | [t0, t1], m =>
    (boxX m t0) |> bo fun r1 =>
    (fadX 4 r1.1) |> bo fun t5 =>
    (ld1 r1.2 t5) |> bo fun t6 =>
    (C_laws_szByteS [t6, t1] r1.2) |> bo fun r4 =>
    (binX .lss .no r4.1 (.int .i64 0)) |> bo fun t10 =>
    brX t10
      (
        retK m.length r4.2 [t0, r4.1] (.int .i64 (-1)))
      (
        retK m.length r4.2 [t0, r4.1] r4.1)
  | _, _ => none
noncomputable def C_laws_szEvent : List Value → Mem → Option VM := fcall X_laws_szEvent
@[simp] theorem c_laws_szEvent : C_laws_szEvent = fcall X_laws_szEvent := (rfl)
theorem cok_laws_szEvent : codeOk CT Try.f134 (Try.f134.body.get rfl) = true := by kernel_rfl
theorem xe_laws_szEvent (t0 t1 : Value) (m : Mem) : ex CT cf_laws_szEvent Try.f134 2 m.length [] (fun _ _ _ => none) 400 [.code (Try.f134.body.get rfl)] (argsT 0 [t0, t1]) m = X_laws_szEvent [t0, t1] m := by kernel_rfl
theorem okc_laws_szEvent : CallOK CT cf_laws_szEvent := cfc_ok ok_C_laws_szByteS cfn_ok
theorem ok_X_laws_szEvent : OkX CT 134 X_laws_szEvent := OkX.of_ex (cf := cf_laws_szEvent) (np := 2) (LL := []) (J := (fun _ _ _ _ => none)) CT_ok rfl Try.func134 rfl (Nat.le_of_ble_eq_true rfl) (by decide) cok_laws_szEvent okc_laws_szEvent (fun k => noLoops rfl) (fun args m r h => match args, h with
    | [t0, t1], h => ⟨rfl, (xe_laws_szEvent t0 t1 m).trans h⟩)
theorem ok_C_laws_szEvent : OkC CT 134 C_laws_szEvent := fcall_ok rfl ok_X_laws_szEvent

/-! ### laws.szEventS -/
noncomputable def cf_laws_szEventS : CallF := cfc 134 C_laws_szEvent cfn
noncomputable def L_laws_szEventS (k : Nat) : Nat → Nat → List Value → Mem → Option VM
  | q + 1, 0, [t0, t1, t5], m =>
    (lenX t0) |> bo fun t14 =>
    (binX .lss .no t5 t14) |> bo fun t15 =>
    brX t15
      (
        (ixaX 13 t0 t5) |> bo fun t20 =>
        (ldS m 13 t20) |> bo fun t21 =>
        (C_laws_szEvent [t21, t1] m) |> bo fun r5 =>
        (binX .lss .no r5.1 (.int .i64 0)) |> bo fun t25 =>
        brX t25
          (
            retK k r5.2 [t0, r5.1] (.int .i64 (-1)))
          (
            (binX .add .no t5 (.int .i64 1)) |> bo fun t17 =>
            cutK k r5.2 [t0, r5.1] [t0, r5.1, t17] (L_laws_szEventS k q 0)))
      (
        retK k m [t0, t1] t1)
  | _, _, _, _ => none
noncomputable def J_laws_szEventS (k q l : Nat) : List Value → Mem → Option VM := cond (Nat.beq l 5) (L_laws_szEventS k q 0) (fun _ _ => none)
def LL_laws_szEventS : List (Nat × List Tmp) := [(5, [0, 1, 5])]
noncomputable def X_laws_szEventS : List Value → Mem → Option VM
  | [t0, t1], m =>
    (lenX t0) |> bo fun t8 =>
    (binX .sub .no t1 t8) |> bo fun t9 =>
    (binX .lss .no t9 (.int .i64 0)) |> bo fun t11 =>
    brX t11
      (
        retK m.length m [t0, t9] (.int .i64 (-1)))
      (
        cutK m.length m [t0, t9] [t0, t9, (.int .i64 0)] (L_laws_szEventS m.length QQ 0))
  | _, _ => none
noncomputable def C_laws_szEventS : List Value → Mem → Option VM := fcall X_laws_szEventS
@[simp] theorem c_laws_szEventS : C_laws_szEventS = fcall X_laws_szEventS := (rfl)
theorem cok_laws_szEventS : codeOk CT Try.f51 (Try.f51.body.get rfl) = true := by kernel_rfl
theorem xe_laws_szEventS (t0 t1 : Value) (m : Mem) : ex CT cf_laws_szEventS Try.f51 2 m.length LL_laws_szEventS (J_laws_szEventS m.length QQ) 400 [.code (Try.f51.body.get rfl)] (argsT 0 [t0, t1]) m = X_laws_szEventS [t0, t1] m := by kernel_rfl
theorem okc_laws_szEventS : CallOK CT cf_laws_szEventS := cfc_ok ok_C_laws_szEvent cfn_ok
theorem le_laws_szEventS_0 (k q : Nat) (t0 t1 t5 : Value) (m : Mem) : ex CT cf_laws_szEventS Try.f51 2 k LL_laws_szEventS (J_laws_szEventS k q) 400 (atLoop Try.f51 0) [(0, t0), (1, t1), (5, t5)] m = J_laws_szEventS k (q + 1) 5 [t0, t1, t5] m := by kernel_rfl
theorem gl_laws_szEventS (k : Nat) : ∀ q i, i < 1 → GoodL CT k Try.f51 LL_laws_szEventS (J_laws_szEventS k q) (atLoop Try.f51 i)
  | 0, 0, _ => goodL_zero (l := 5) (by kernel_rfl) (fun vs m => by kernel_rfl)
  | 0, _ + 1, h => absurd h (by omega)
  | q + 1, 0, _ => goodL_succ (np := 2) (l := 5) (live := [0, 1, 5]) (n := 1) CT_ok rfl okc_laws_szEventS (c := (Try.f51.body.get rfl)) rfl cok_laws_szEventS (by kernel_rfl) (gl_laws_szEventS k q) (by kernel_rfl) rfl (fun vs m r hl h => match vs, hl with
    | [t0, t1, t5], _ => (le_laws_szEventS_0 k q t0 t1 t5 m).trans h)
  | _ + 1, _ + 1, h => absurd h (by omega)
theorem ok_X_laws_szEventS : OkX CT 51 X_laws_szEventS := OkX.of_ex (cf := cf_laws_szEventS) (np := 2) (LL := LL_laws_szEventS) (J := (fun k => J_laws_szEventS k QQ)) CT_ok rfl Try.func51 rfl (Nat.le_of_ble_eq_true rfl) (by decide) cok_laws_szEventS okc_laws_szEventS (fun k => allLoops rfl (by kernel_rfl) (gl_laws_szEventS k QQ)) (fun args m r h => match args, h with
    | [t0, t1], h => ⟨rfl, (xe_laws_szEventS t0 t1 m).trans h⟩)
theorem ok_C_laws_szEventS : OkC CT 51 C_laws_szEventS := fcall_ok rfl ok_X_laws_szEventS

/-! ### laws.szByteSS -/
noncomputable def cf_laws_szByteSS : CallF := cfc 135 C_laws_szByteS cfn
noncomputable def L_laws_szByteSS (k : Nat) : Nat → Nat → List Value → Mem → Option VM
  | q + 1, 0, [t0, t1, t5], m =>
    (lenX t0) |> bo fun t14 =>
    (binX .lss .no t5 t14) |> bo fun t15 =>
    brX t15
      (
        (ixaX 1 t0 t5) |> bo fun t20 =>
        (ld1 m t20) |> bo fun t21 =>
        (C_laws_szByteS [t21, t1] m) |> bo fun r5 =>
        (binX .lss .no r5.1 (.int .i64 0)) |> bo fun t25 =>
        brX t25
          (
            retK k r5.2 [t0, r5.1] (.int .i64 (-1)))
          (
            (binX .add .no t5 (.int .i64 1)) |> bo fun t17 =>
            cutK k r5.2 [t0, r5.1] [t0, r5.1, t17] (L_laws_szByteSS k q 0)))
      (
        retK k m [t0, t1] t1)
  | _, _, _, _ => none
noncomputable def J_laws_szByteSS (k q l : Nat) : List Value → Mem → Option VM := cond (Nat.beq l 5) (L_laws_szByteSS k q 0) (fun _ _ => none)
def LL_laws_szByteSS : List (Nat × List Tmp) := [(5, [0, 1, 5])]
noncomputable def X_laws_szByteSS : List Value → Mem → Option VM
  | [t0, t1], m =>
    (lenX t0) |> bo fun t8 =>
    (binX .sub .no t1 t8) |> bo fun t9 =>
    (binX .lss .no t9 (.int .i64 0)) |> bo fun t11 =>
    brX t11
      (
        retK m.length m [t0, t9] (.int .i64 (-1)))
      (
        cutK m.length m [t0, t9] [t0, t9, (.int .i64 0)] (L_laws_szByteSS m.length QQ 0))
  | _, _ => none
noncomputable def C_laws_szByteSS : List Value → Mem → Option VM := fcall X_laws_szByteSS
@[simp] theorem c_laws_szByteSS : C_laws_szByteSS = fcall X_laws_szByteSS := (rfl)
theorem cok_laws_szByteSS : codeOk CT Try.f52 (Try.f52.body.get rfl) = true := by kernel_rfl
theorem xe_laws_szByteSS (t0 t1 : Value) (m : Mem) : ex CT cf_laws_szByteSS Try.f52 2 m.length LL_laws_szByteSS (J_laws_szByteSS m.length QQ) 400 [.code (Try.f52.body.get rfl)] (argsT 0 [t0, t1]) m = X_laws_szByteSS [t0, t1] m := by kernel_rfl
theorem okc_laws_szByteSS : CallOK CT cf_laws_szByteSS := cfc_ok ok_C_laws_szByteS cfn_ok
theorem le_laws_szByteSS_0 (k q : Nat) (t0 t1 t5 : Value) (m : Mem) : ex CT cf_laws_szByteSS Try.f52 2 k LL_laws_szByteSS (J_laws_szByteSS k q) 400 (atLoop Try.f52 0) [(0, t0), (1, t1), (5, t5)] m = J_laws_szByteSS k (q + 1) 5 [t0, t1, t5] m := by kernel_rfl
theorem gl_laws_szByteSS (k : Nat) : ∀ q i, i < 1 → GoodL CT k Try.f52 LL_laws_szByteSS (J_laws_szByteSS k q) (atLoop Try.f52 i)
  | 0, 0, _ => goodL_zero (l := 5) (by kernel_rfl) (fun vs m => by kernel_rfl)
  | 0, _ + 1, h => absurd h (by omega)
  | q + 1, 0, _ => goodL_succ (np := 2) (l := 5) (live := [0, 1, 5]) (n := 1) CT_ok rfl okc_laws_szByteSS (c := (Try.f52.body.get rfl)) rfl cok_laws_szByteSS (by kernel_rfl) (gl_laws_szByteSS k q) (by kernel_rfl) rfl (fun vs m r hl h => match vs, hl with
    | [t0, t1, t5], _ => (le_laws_szByteSS_0 k q t0 t1 t5 m).trans h)
  | _ + 1, _ + 1, h => absurd h (by omega)
theorem ok_X_laws_szByteSS : OkX CT 52 X_laws_szByteSS := OkX.of_ex (cf := cf_laws_szByteSS) (np := 2) (LL := LL_laws_szByteSS) (J := (fun k => J_laws_szByteSS k QQ)) CT_ok rfl Try.func52 rfl (Nat.le_of_ble_eq_true rfl) (by decide) cok_laws_szByteSS okc_laws_szByteSS (fun k => allLoops rfl (by kernel_rfl) (gl_laws_szByteSS k QQ)) (fun args m r h => match args, h with
    | [t0, t1], h => ⟨rfl, (xe_laws_szByteSS t0 t1 m).trans h⟩)
theorem ok_C_laws_szByteSS : OkC CT 52 C_laws_szByteSS := fcall_ok rfl ok_X_laws_szByteSS

/-! ### spec.ReadBy -/
noncomputable def cf_spec_ReadBy : CallF := cfn
noncomputable def L_spec_ReadBy (k : Nat) : Nat → Nat → List Value → Mem → Option VM
  | q + 1, 0, [t0, t1, t2, t6, t7, t8], m =>
    (lenX t0) |> bo fun t22 =>
    (binX .lss .no t8 t22) |> bo fun t23 =>
    brX t23
      (
        (ixaX 13 t0 t8) |> bo fun t28 =>
        (fadX 0 t28) |> bo fun t29 =>
        (ld1 m t29) |> bo fun t30 =>
        (binX .eql .no t30 (.int .i64 3)) |> bo fun t31 =>
        (gd t31 true (some (t0, m)) m) |> bo fun r7 =>
        (gd t31 true (some (t8, r7.2)) r7.2) |> bo fun r8 =>
        (gd t31 true ((ixaX 13 r7.1 r8.1) |> bo fun v => some (v, r8.2)) r8.2) |> bo fun r9 =>
        (gd t31 true ((fadX 1 r9.1) |> bo fun v => some (v, r9.2)) r9.2) |> bo fun r10 =>
        (gd t31 true ((ld1 r10.2 r10.1) |> bo fun v => some (v, r10.2)) r10.2) |> bo fun r11 =>
        (gd t31 true (some (t2, r11.2)) r11.2) |> bo fun r12 =>
        (gd t31 true ((binX .eql .no r11.1 r12.1) |> bo fun v => some (v, r12.2)) r12.2) |> bo fun r13 =>
        (pickX t31 r13.1 (.bool false)) |> bo fun t40 =>
        brX t40
          (
            (ixaX 1 t1 t8) |> bo fun t44 =>
            (ld1 r13.2 t44) |> bo fun t45 =>
            (apL r13.2 1 1 t7 t45) |> bo fun r17 =>
            (binX .add .no t8 (.int .i64 1)) |> bo fun t25 =>
            cutK k r17.2 [t0, t1, t2] [t0, t1, t2, t6, r17.1, t25] (L_spec_ReadBy k q 0))
          (
            (binX .add .no t8 (.int .i64 1)) |> bo fun t25 =>
            cutK k r13.2 [t0, t1, t2] [t0, t1, t2, t6, t7, t25] (L_spec_ReadBy k q 0)))
      (
        (bldX [.int .i64 0, .slice none 0 0] [(1, 1, t7)]) |> bo fun t48 =>
        (stX m 2 t6 t48) |> bo fun m21 =>
        (resP (some 2) m21 t6) |> bo fun c22 =>
        retK k m21 [t0, t1, t2] c22)
  | _, _, _, _ => none
noncomputable def J_spec_ReadBy (k q l : Nat) : List Value → Mem → Option VM := cond (Nat.beq l 7) (L_spec_ReadBy k q 0) (fun _ _ => none)
def LL_spec_ReadBy : List (Nat × List Tmp) := [(7, [0, 1, 2, 6, 7, 8])]
noncomputable def X_spec_ReadBy : List Value → Mem → Option VM
  | [t0, t1, t2], m =>
    (alX m [.int .i64 0, .slice none 0 0]) |> bo fun r1 =>
    (lenX t0) |> bo fun t10 =>
    (binX .gtr .no t10 (.int .i64 40)) |> bo fun t11 =>
    brX t11
      (
        (bldX [.int .i64 0, .slice none 0 0] [(0, 1, (.int .i64 2))]) |> bo fun t12 =>
        (stX r1.2 2 r1.1 t12) |> bo fun m5 =>
        (resP (some 2) m5 r1.1) |> bo fun c6 =>
        retK m.length m5 [t0, t1, t2] c6)
      (
        (lenX t0) |> bo fun t14 =>
        (lenX t1) |> bo fun t16 =>
        (binX .neq .no t14 t16) |> bo fun t17 =>
        brX t17
          (
            (bldX [.int .i64 0, .slice none 0 0] [(0, 1, (.int .i64 1))]) |> bo fun t18 =>
            (stX r1.2 2 r1.1 t18) |> bo fun m11 =>
            (resP (some 2) m11 r1.1) |> bo fun c12 =>
            retK m.length m11 [t0, t1, t2] c12)
          (
            (bslX r1.2 0 1 [.int .u8 0] []) |> bo fun r13 =>
            cutK m.length r13.2 [t0, t1, t2] [t0, t1, t2, r1.1, r13.1, (.int .i64 0)] (L_spec_ReadBy m.length QQ 0)))
  | _, _ => none
noncomputable def C_spec_ReadBy : List Value → Mem → Option VM := fcall X_spec_ReadBy
@[simp] theorem c_spec_ReadBy : C_spec_ReadBy = fcall X_spec_ReadBy := (rfl)
theorem cok_spec_ReadBy : codeOk CT Try.f53 (Try.f53.body.get rfl) = true := by kernel_rfl
theorem xe_spec_ReadBy (t0 t1 t2 : Value) (m : Mem) : ex CT cf_spec_ReadBy Try.f53 3 m.length LL_spec_ReadBy (J_spec_ReadBy m.length QQ) 400 [.code (Try.f53.body.get rfl)] (argsT 0 [t0, t1, t2]) m = X_spec_ReadBy [t0, t1, t2] m := by kernel_rfl
theorem okc_spec_ReadBy : CallOK CT cf_spec_ReadBy := cfn_ok
theorem le_spec_ReadBy_0 (k q : Nat) (t0 t1 t2 t6 t7 t8 : Value) (m : Mem) : ex CT cf_spec_ReadBy Try.f53 3 k LL_spec_ReadBy (J_spec_ReadBy k q) 400 (atLoop Try.f53 0) [(0, t0), (1, t1), (2, t2), (6, t6), (7, t7), (8, t8)] m = J_spec_ReadBy k (q + 1) 7 [t0, t1, t2, t6, t7, t8] m := by kernel_rfl
theorem gl_spec_ReadBy (k : Nat) : ∀ q i, i < 1 → GoodL CT k Try.f53 LL_spec_ReadBy (J_spec_ReadBy k q) (atLoop Try.f53 i)
  | 0, 0, _ => goodL_zero (l := 7) (by kernel_rfl) (fun vs m => by kernel_rfl)
  | 0, _ + 1, h => absurd h (by omega)
  | q + 1, 0, _ => goodL_succ (np := 3) (l := 7) (live := [0, 1, 2, 6, 7, 8]) (n := 1) CT_ok rfl okc_spec_ReadBy (c := (Try.f53.body.get rfl)) rfl cok_spec_ReadBy (by kernel_rfl) (gl_spec_ReadBy k q) (by kernel_rfl) rfl (fun vs m r hl h => match vs, hl with
    | [t0, t1, t2, t6, t7, t8], _ => (le_spec_ReadBy_0 k q t0 t1 t2 t6 t7 t8 m).trans h)
  | _ + 1, _ + 1, h => absurd h (by omega)
theorem ok_X_spec_ReadBy : OkX CT 53 X_spec_ReadBy := OkX.of_ex (cf := cf_spec_ReadBy) (np := 3) (LL := LL_spec_ReadBy) (J := (fun k => J_spec_ReadBy k QQ)) CT_ok rfl Try.func53 rfl (Nat.le_of_ble_eq_true rfl) (by decide) cok_spec_ReadBy okc_spec_ReadBy (fun k => allLoops rfl (by kernel_rfl) (gl_spec_ReadBy k QQ)) (fun args m r h => match args, h with
    | [t0, t1, t2], h => ⟨rfl, (xe_spec_ReadBy t0 t1 t2 m).trans h⟩)
theorem ok_C_spec_ReadBy : OkC CT 53 C_spec_ReadBy := fcall_ok rfl ok_X_spec_ReadBy

/-! ### laws.toWay -/
noncomputable def cf_laws_toWay : CallF := cfn
noncomputable def X_laws_toWay : List Value → Mem → Option VM
  | [t0], m =>
    (boxX m t0) |> bo fun r1 =>
    (alX r1.2 [.int .i64 0, .int .i64 0, .int .i64 0, .int .i64 0, .int .i64 0, .int .i64 0, .int .i64 0]) |> bo fun r2 =>
    (alX r2.2 [.int .i64 0, .int .i64 0, .int .i64 0, .int .i64 0, .int .i64 0, .int .i64 0, .int .i64 0]) |> bo fun r3 =>
    (fadX 0 r1.1) |> bo fun t4 =>
    (ld1 r3.2 t4) |> bo fun t5 =>
    (fadX 0 r3.1) |> bo fun t6 =>
    (stX r3.2 1 t6 t5) |> bo fun m7 =>
    (fadX 1 r1.1) |> bo fun t7 =>
    (ld1 m7 t7) |> bo fun t8 =>
    (fadX 1 r3.1) |> bo fun t9 =>
    (stX m7 1 t9 t8) |> bo fun m11 =>
    (fadX 2 r1.1) |> bo fun t10 =>
    (ld1 m11 t10) |> bo fun t11 =>
    (fadX 2 r3.1) |> bo fun t12 =>
    (stX m11 1 t12 t11) |> bo fun m15 =>
    (fadX 3 r1.1) |> bo fun t13 =>
    (ld1 m15 t13) |> bo fun t14 =>
    (fadX 3 r3.1) |> bo fun t15 =>
    (stX m15 1 t15 t14) |> bo fun m19 =>
    (fadX 4 r1.1) |> bo fun t16 =>
    (ld1 m19 t16) |> bo fun t17 =>
    (fadX 4 r3.1) |> bo fun t18 =>
    (stX m19 1 t18 t17) |> bo fun m23 =>
    (fadX 5 r1.1) |> bo fun t19 =>
    (ld1 m23 t19) |> bo fun t20 =>
    (fadX 5 r3.1) |> bo fun t21 =>
    (stX m23 1 t21 t20) |> bo fun m27 =>
    (fadX 6 r1.1) |> bo fun t22 =>
    (ld1 m27 t22) |> bo fun t23 =>
    (fadX 6 r3.1) |> bo fun t24 =>
    (stX m27 1 t24 t23) |> bo fun m31 =>
    (ldS m31 7 r3.1) |> bo fun t25 =>
    (stX m31 7 r2.1 t25) |> bo fun m33 =>
    (resP (some 7) m33 r2.1) |> bo fun c34 =>
    retK m.length m33 [t0] c34
  | _, _ => none
noncomputable def C_laws_toWay : List Value → Mem → Option VM := fcall X_laws_toWay
@[simp] theorem c_laws_toWay : C_laws_toWay = fcall X_laws_toWay := (rfl)
theorem cok_laws_toWay : codeOk CT Try.f71 (Try.f71.body.get rfl) = true := by kernel_rfl
theorem xe_laws_toWay (t0 : Value) (m : Mem) : ex CT cf_laws_toWay Try.f71 1 m.length [] (fun _ _ _ => none) 400 [.code (Try.f71.body.get rfl)] (argsT 0 [t0]) m = X_laws_toWay [t0] m := by kernel_rfl
theorem okc_laws_toWay : CallOK CT cf_laws_toWay := cfn_ok
theorem ok_X_laws_toWay : OkX CT 71 X_laws_toWay := OkX.of_ex (cf := cf_laws_toWay) (np := 1) (LL := []) (J := (fun _ _ _ _ => none)) CT_ok rfl Try.func71 rfl (Nat.le_of_ble_eq_true rfl) (by decide) cok_laws_toWay okc_laws_toWay (fun k => noLoops rfl) (fun args m r h => match args, h with
    | [t0], h => ⟨rfl, (xe_laws_toWay t0 m).trans h⟩)
theorem ok_C_laws_toWay : OkC CT 71 C_laws_toWay := fcall_ok rfl ok_X_laws_toWay

/-! ### laws.toByteS -/
noncomputable def cf_laws_toByteS : CallF := cfn
noncomputable def L_laws_toByteS (k : Nat) : Nat → Nat → List Value → Mem → Option VM
  | q + 1, 0, [t0, t3, t4], m =>
    (lenX t0) |> bo fun t10 =>
    (binX .lss .no t4 t10) |> bo fun t11 =>
    brX t11
      (
        (ixaX 1 t0 t4) |> bo fun t18 =>
        (ld1 m t18) |> bo fun t19 =>
        (ixaX 1 t3 t4) |> bo fun t20 =>
        (stX m 1 t20 t19) |> bo fun m6 =>
        (binX .add .no t4 (.int .i64 1)) |> bo fun t13 =>
        cutK k m6 [t0] [t0, t3, t13] (L_laws_toByteS k q 0))
      (
        retK k m [t0] t3)
  | _, _, _, _ => none
noncomputable def J_laws_toByteS (k q l : Nat) : List Value → Mem → Option VM := cond (Nat.beq l 3) (L_laws_toByteS k q 0) (fun _ _ => none)
def LL_laws_toByteS : List (Nat × List Tmp) := [(3, [0, 3, 4])]
noncomputable def X_laws_toByteS : List Value → Mem → Option VM
  | [t0], m =>
    (lenX t0) |> bo fun t6 =>
    (mkX m 1 1 [.int .u8 0] t6 t6) |> bo fun r2 =>
    cutK m.length r2.2 [t0] [t0, r2.1, (.int .i64 0)] (L_laws_toByteS m.length QQ 0)
  | _, _ => none
noncomputable def C_laws_toByteS : List Value → Mem → Option VM := fcall X_laws_toByteS
@[simp] theorem c_laws_toByteS : C_laws_toByteS = fcall X_laws_toByteS := (rfl)
theorem cok_laws_toByteS : codeOk CT Try.f137 (Try.f137.body.get rfl) = true := by kernel_rfl
theorem xe_laws_toByteS (t0 : Value) (m : Mem) : ex CT cf_laws_toByteS Try.f137 1 m.length LL_laws_toByteS (J_laws_toByteS m.length QQ) 400 [.code (Try.f137.body.get rfl)] (argsT 0 [t0]) m = X_laws_toByteS [t0] m := by kernel_rfl
theorem okc_laws_toByteS : CallOK CT cf_laws_toByteS := cfn_ok
theorem le_laws_toByteS_0 (k q : Nat) (t0 t3 t4 : Value) (m : Mem) : ex CT cf_laws_toByteS Try.f137 1 k LL_laws_toByteS (J_laws_toByteS k q) 400 (atLoop Try.f137 0) [(0, t0), (3, t3), (4, t4)] m = J_laws_toByteS k (q + 1) 3 [t0, t3, t4] m := by kernel_rfl
theorem gl_laws_toByteS (k : Nat) : ∀ q i, i < 1 → GoodL CT k Try.f137 LL_laws_toByteS (J_laws_toByteS k q) (atLoop Try.f137 i)
  | 0, 0, _ => goodL_zero (l := 3) (by kernel_rfl) (fun vs m => by kernel_rfl)
  | 0, _ + 1, h => absurd h (by omega)
  | q + 1, 0, _ => goodL_succ (np := 1) (l := 3) (live := [0, 3, 4]) (n := 1) CT_ok rfl okc_laws_toByteS (c := (Try.f137.body.get rfl)) rfl cok_laws_toByteS (by kernel_rfl) (gl_laws_toByteS k q) (by kernel_rfl) rfl (fun vs m r hl h => match vs, hl with
    | [t0, t3, t4], _ => (le_laws_toByteS_0 k q t0 t3 t4 m).trans h)
  | _ + 1, _ + 1, h => absurd h (by omega)
theorem ok_X_laws_toByteS : OkX CT 137 X_laws_toByteS := OkX.of_ex (cf := cf_laws_toByteS) (np := 1) (LL := LL_laws_toByteS) (J := (fun k => J_laws_toByteS k QQ)) CT_ok rfl Try.func137 rfl (Nat.le_of_ble_eq_true rfl) (by decide) cok_laws_toByteS okc_laws_toByteS (fun k => allLoops rfl (by kernel_rfl) (gl_laws_toByteS k QQ)) (fun args m r h => match args, h with
    | [t0], h => ⟨rfl, (xe_laws_toByteS t0 m).trans h⟩)
theorem ok_C_laws_toByteS : OkC CT 137 C_laws_toByteS := fcall_ok rfl ok_X_laws_toByteS

/-! ### laws.toEvent -/
noncomputable def cf_laws_toEvent : CallF := cfc 71 C_laws_toWay (cfc 137 C_laws_toByteS cfn)
noncomputable def X_laws_toEvent : List Value → Mem → Option VM
  | [t0], m =>
    (boxX m t0) |> bo fun r1 =>
    (alX r1.2 [.int .i64 0, .int .i64 0, .int .i64 0, .bool false, .slice none 0 0, .int .i64 0, .int .i64 0, .int .i64 0, .int .i64 0, .int .i64 0, .int .i64 0, .int .i64 0, .int .i64 0]) |> bo fun r2 =>
    (alX r2.2 [.int .i64 0, .int .i64 0, .int .i64 0, .bool false, .slice none 0 0, .int .i64 0, .int .i64 0, .int .i64 0, .int .i64 0, .int .i64 0, .int .i64 0, .int .i64 0, .int .i64 0]) |> bo fun r3 =>
    (fadX 0 r1.1) |> bo fun t4 =>
    (ld1 r3.2 t4) |> bo fun t5 =>
    (fadX 0 r3.1) |> bo fun t6 =>
    (stX r3.2 1 t6 t5) |> bo fun m7 =>
    (fadX 1 r1.1) |> bo fun t7 =>
    (ld1 m7 t7) |> bo fun t8 =>
    (fadX 1 r3.1) |> bo fun t9 =>
    (stX m7 1 t9 t8) |> bo fun m11 =>
    (fadX 2 r1.1) |> bo fun t10 =>
    (ld1 m11 t10) |> bo fun t11 =>
    (fadX 2 r3.1) |> bo fun t12 =>
    (stX m11 1 t12 t11) |> bo fun m15 =>
    (fadX 3 r1.1) |> bo fun t13 =>
    (ld1 m15 t13) |> bo fun t14 =>
    (fadX 3 r3.1) |> bo fun t15 =>
    (stX m15 1 t15 t14) |> bo fun m19 =>
    (fadX 4 r1.1) |> bo fun t16 =>
    (ld1 m19 t16) |> bo fun t17 =>
    (C_laws_toByteS [t17] m19) |> bo fun r22 =>
    (fadX 4 r3.1) |> bo fun t19 =>
    (stX r22.2 1 t19 r22.1) |> bo fun m24 =>
    (fadX 5 r1.1) |> bo fun t20 =>
    (ld1 m24 t20) |> bo fun t21 =>
    (fadX 5 r3.1) |> bo fun t22 =>
    (stX m24 1 t22 t21) |> bo fun m28 =>
    (fadX 6 r1.1) |> bo fun t23 =>
    (ldS m28 7 t23) |> bo fun t24 =>
    (C_laws_toWay [t24] m28) |> bo fun r31 =>
    (fadX 6 r3.1) |> bo fun t26 =>
    (stX r31.2 7 t26 r31.1) |> bo fun m33 =>
    (ldS m33 13 r3.1) |> bo fun t27 =>
    (stX m33 13 r2.1 t27) |> bo fun m35 =>
    (resP (some 13) m35 r2.1) |> bo fun c36 =>
    retK m.length m35 [t0] c36
  | _, _ => none
noncomputable def C_laws_toEvent : List Value → Mem → Option VM := fcall X_laws_toEvent
@[simp] theorem c_laws_toEvent : C_laws_toEvent = fcall X_laws_toEvent := (rfl)
theorem cok_laws_toEvent : codeOk CT Try.f136 (Try.f136.body.get rfl) = true := by kernel_rfl
theorem xe_laws_toEvent (t0 : Value) (m : Mem) : ex CT cf_laws_toEvent Try.f136 1 m.length [] (fun _ _ _ => none) 400 [.code (Try.f136.body.get rfl)] (argsT 0 [t0]) m = X_laws_toEvent [t0] m := by kernel_rfl
theorem okc_laws_toEvent : CallOK CT cf_laws_toEvent := cfc_ok ok_C_laws_toWay (cfc_ok ok_C_laws_toByteS cfn_ok)
theorem ok_X_laws_toEvent : OkX CT 136 X_laws_toEvent := OkX.of_ex (cf := cf_laws_toEvent) (np := 1) (LL := []) (J := (fun _ _ _ _ => none)) CT_ok rfl Try.func136 rfl (Nat.le_of_ble_eq_true rfl) (by decide) cok_laws_toEvent okc_laws_toEvent (fun k => noLoops rfl) (fun args m r h => match args, h with
    | [t0], h => ⟨rfl, (xe_laws_toEvent t0 m).trans h⟩)
theorem ok_C_laws_toEvent : OkC CT 136 C_laws_toEvent := fcall_ok rfl ok_X_laws_toEvent

/-! ### laws.toEventS -/
noncomputable def cf_laws_toEventS : CallF := cfc 136 C_laws_toEvent cfn
noncomputable def L_laws_toEventS (k : Nat) : Nat → Nat → List Value → Mem → Option VM
  | q + 1, 0, [t0, t3, t4], m =>
    (lenX t0) |> bo fun t10 =>
    (binX .lss .no t4 t10) |> bo fun t11 =>
    brX t11
      (
        (ixaX 13 t0 t4) |> bo fun t18 =>
        (ldS m 13 t18) |> bo fun t19 =>
        (C_laws_toEvent [t19] m) |> bo fun r5 =>
        (ixaX 13 t3 t4) |> bo fun t21 =>
        (stX r5.2 13 t21 r5.1) |> bo fun m7 =>
        (binX .add .no t4 (.int .i64 1)) |> bo fun t13 =>
        cutK k m7 [t0] [t0, t3, t13] (L_laws_toEventS k q 0))
      (
        retK k m [t0] t3)
  | _, _, _, _ => none
noncomputable def J_laws_toEventS (k q l : Nat) : List Value → Mem → Option VM := cond (Nat.beq l 3) (L_laws_toEventS k q 0) (fun _ _ => none)
def LL_laws_toEventS : List (Nat × List Tmp) := [(3, [0, 3, 4])]
noncomputable def X_laws_toEventS : List Value → Mem → Option VM
  | [t0], m =>
    (lenX t0) |> bo fun t6 =>
    (mkX m 13 120 [.int .i64 0, .int .i64 0, .int .i64 0, .bool false, .slice none 0 0, .int .i64 0, .int .i64 0, .int .i64 0, .int .i64 0, .int .i64 0, .int .i64 0, .int .i64 0, .int .i64 0] t6 t6) |> bo fun r2 =>
    cutK m.length r2.2 [t0] [t0, r2.1, (.int .i64 0)] (L_laws_toEventS m.length QQ 0)
  | _, _ => none
noncomputable def C_laws_toEventS : List Value → Mem → Option VM := fcall X_laws_toEventS
@[simp] theorem c_laws_toEventS : C_laws_toEventS = fcall X_laws_toEventS := (rfl)
theorem cok_laws_toEventS : codeOk CT Try.f54 (Try.f54.body.get rfl) = true := by kernel_rfl
theorem xe_laws_toEventS (t0 : Value) (m : Mem) : ex CT cf_laws_toEventS Try.f54 1 m.length LL_laws_toEventS (J_laws_toEventS m.length QQ) 400 [.code (Try.f54.body.get rfl)] (argsT 0 [t0]) m = X_laws_toEventS [t0] m := by kernel_rfl
theorem okc_laws_toEventS : CallOK CT cf_laws_toEventS := cfc_ok ok_C_laws_toEvent cfn_ok
theorem le_laws_toEventS_0 (k q : Nat) (t0 t3 t4 : Value) (m : Mem) : ex CT cf_laws_toEventS Try.f54 1 k LL_laws_toEventS (J_laws_toEventS k q) 400 (atLoop Try.f54 0) [(0, t0), (3, t3), (4, t4)] m = J_laws_toEventS k (q + 1) 3 [t0, t3, t4] m := by kernel_rfl
theorem gl_laws_toEventS (k : Nat) : ∀ q i, i < 1 → GoodL CT k Try.f54 LL_laws_toEventS (J_laws_toEventS k q) (atLoop Try.f54 i)
  | 0, 0, _ => goodL_zero (l := 3) (by kernel_rfl) (fun vs m => by kernel_rfl)
  | 0, _ + 1, h => absurd h (by omega)
  | q + 1, 0, _ => goodL_succ (np := 1) (l := 3) (live := [0, 3, 4]) (n := 1) CT_ok rfl okc_laws_toEventS (c := (Try.f54.body.get rfl)) rfl cok_laws_toEventS (by kernel_rfl) (gl_laws_toEventS k q) (by kernel_rfl) rfl (fun vs m r hl h => match vs, hl with
    | [t0, t3, t4], _ => (le_laws_toEventS_0 k q t0 t3 t4 m).trans h)
  | _ + 1, _ + 1, h => absurd h (by omega)
theorem ok_X_laws_toEventS : OkX CT 54 X_laws_toEventS := OkX.of_ex (cf := cf_laws_toEventS) (np := 1) (LL := LL_laws_toEventS) (J := (fun k => J_laws_toEventS k QQ)) CT_ok rfl Try.func54 rfl (Nat.le_of_ble_eq_true rfl) (by decide) cok_laws_toEventS okc_laws_toEventS (fun k => allLoops rfl (by kernel_rfl) (gl_laws_toEventS k QQ)) (fun args m r h => match args, h with
    | [t0], h => ⟨rfl, (xe_laws_toEventS t0 m).trans h⟩)
theorem ok_C_laws_toEventS : OkC CT 54 C_laws_toEventS := fcall_ok rfl ok_X_laws_toEventS

/-! ### laws.toByteSS -/
noncomputable def cf_laws_toByteSS : CallF := cfc 137 C_laws_toByteS cfn
noncomputable def L_laws_toByteSS (k : Nat) : Nat → Nat → List Value → Mem → Option VM
  | q + 1, 0, [t0, t3, t4], m =>
    (lenX t0) |> bo fun t10 =>
    (binX .lss .no t4 t10) |> bo fun t11 =>
    brX t11
      (
        (ixaX 1 t0 t4) |> bo fun t18 =>
        (ld1 m t18) |> bo fun t19 =>
        (C_laws_toByteS [t19] m) |> bo fun r5 =>
        (ixaX 1 t3 t4) |> bo fun t21 =>
        (stX r5.2 1 t21 r5.1) |> bo fun m7 =>
        (binX .add .no t4 (.int .i64 1)) |> bo fun t13 =>
        cutK k m7 [t0] [t0, t3, t13] (L_laws_toByteSS k q 0))
      (
        retK k m [t0] t3)
  | _, _, _, _ => none
noncomputable def J_laws_toByteSS (k q l : Nat) : List Value → Mem → Option VM := cond (Nat.beq l 3) (L_laws_toByteSS k q 0) (fun _ _ => none)
def LL_laws_toByteSS : List (Nat × List Tmp) := [(3, [0, 3, 4])]
noncomputable def X_laws_toByteSS : List Value → Mem → Option VM
  | [t0], m =>
    (lenX t0) |> bo fun t6 =>
    (mkX m 1 24 [.slice none 0 0] t6 t6) |> bo fun r2 =>
    cutK m.length r2.2 [t0] [t0, r2.1, (.int .i64 0)] (L_laws_toByteSS m.length QQ 0)
  | _, _ => none
noncomputable def C_laws_toByteSS : List Value → Mem → Option VM := fcall X_laws_toByteSS
@[simp] theorem c_laws_toByteSS : C_laws_toByteSS = fcall X_laws_toByteSS := (rfl)
theorem cok_laws_toByteSS : codeOk CT Try.f55 (Try.f55.body.get rfl) = true := by kernel_rfl
theorem xe_laws_toByteSS (t0 : Value) (m : Mem) : ex CT cf_laws_toByteSS Try.f55 1 m.length LL_laws_toByteSS (J_laws_toByteSS m.length QQ) 400 [.code (Try.f55.body.get rfl)] (argsT 0 [t0]) m = X_laws_toByteSS [t0] m := by kernel_rfl
theorem okc_laws_toByteSS : CallOK CT cf_laws_toByteSS := cfc_ok ok_C_laws_toByteS cfn_ok
theorem le_laws_toByteSS_0 (k q : Nat) (t0 t3 t4 : Value) (m : Mem) : ex CT cf_laws_toByteSS Try.f55 1 k LL_laws_toByteSS (J_laws_toByteSS k q) 400 (atLoop Try.f55 0) [(0, t0), (3, t3), (4, t4)] m = J_laws_toByteSS k (q + 1) 3 [t0, t3, t4] m := by kernel_rfl
theorem gl_laws_toByteSS (k : Nat) : ∀ q i, i < 1 → GoodL CT k Try.f55 LL_laws_toByteSS (J_laws_toByteSS k q) (atLoop Try.f55 i)
  | 0, 0, _ => goodL_zero (l := 3) (by kernel_rfl) (fun vs m => by kernel_rfl)
  | 0, _ + 1, h => absurd h (by omega)
  | q + 1, 0, _ => goodL_succ (np := 1) (l := 3) (live := [0, 3, 4]) (n := 1) CT_ok rfl okc_laws_toByteSS (c := (Try.f55.body.get rfl)) rfl cok_laws_toByteSS (by kernel_rfl) (gl_laws_toByteSS k q) (by kernel_rfl) rfl (fun vs m r hl h => match vs, hl with
    | [t0, t3, t4], _ => (le_laws_toByteSS_0 k q t0 t3 t4 m).trans h)
  | _ + 1, _ + 1, h => absurd h (by omega)
theorem ok_X_laws_toByteSS : OkX CT 55 X_laws_toByteSS := OkX.of_ex (cf := cf_laws_toByteSS) (np := 1) (LL := LL_laws_toByteSS) (J := (fun k => J_laws_toByteSS k QQ)) CT_ok rfl Try.func55 rfl (Nat.le_of_ble_eq_true rfl) (by decide) cok_laws_toByteSS okc_laws_toByteSS (fun k => allLoops rfl (by kernel_rfl) (gl_laws_toByteSS k QQ)) (fun args m r h => match args, h with
    | [t0], h => ⟨rfl, (xe_laws_toByteSS t0 m).trans h⟩)
theorem ok_C_laws_toByteSS : OkC CT 55 C_laws_toByteSS := fcall_ok rfl ok_X_laws_toByteSS

/-! ### impl.first -/
noncomputable def cf_impl_first : CallF := cfn
noncomputable def L_impl_first (k : Nat) : Nat → Nat → List Value → Mem → Option VM
  | q + 1, 0, [t5, t6, t7], m =>
    (binX .lss .no t7 t6) |> bo fun t8 =>
    brX t8
      (
        (ixaX 1 t5 t7) |> bo fun t9 =>
        (ld1 m t9) |> bo fun t10 =>
        (binX .neq .no t10 (.int .i64 0)) |> bo fun t12 =>
        brX t12
          (
            retK k m [] t10)
          (
            (binX .add .no t7 (.int .i64 1)) |> bo fun t14 =>
            cutK k m [] [t5, t6, t14] (L_impl_first k q 0)))
      (
        retK k m [] (.int .i64 0))
  | _, _, _, _ => none
noncomputable def J_impl_first (k q l : Nat) : List Value → Mem → Option VM := cond (Nat.beq l 2) (L_impl_first k q 0) (fun _ _ => none)
def LL_impl_first : List (Nat × List Tmp) := [(2, [5, 6, 7])]
noncomputable def X_impl_first : List Value → Mem → Option VM
  | [t0], m =>
    (lenX t0) |> bo fun t6 =>
    cutK m.length m [t0] [t0, t6, (.int .i64 0)] (L_impl_first m.length QQ 0)
  | _, _ => none
noncomputable def C_impl_first : List Value → Mem → Option VM := fcall X_impl_first
@[simp] theorem c_impl_first : C_impl_first = fcall X_impl_first := (rfl)
theorem cok_impl_first : codeOk CT Try.f88 (Try.f88.body.get rfl) = true := by kernel_rfl
theorem xe_impl_first (t0 : Value) (m : Mem) : ex CT cf_impl_first Try.f88 1 m.length LL_impl_first (J_impl_first m.length QQ) 400 [.code (Try.f88.body.get rfl)] (argsT 0 [t0]) m = X_impl_first [t0] m := by kernel_rfl
theorem okc_impl_first : CallOK CT cf_impl_first := cfn_ok
theorem le_impl_first_0 (k q : Nat) (t5 t6 t7 : Value) (m : Mem) : ex CT cf_impl_first Try.f88 1 k LL_impl_first (J_impl_first k q) 400 (atLoop Try.f88 0) [(5, t5), (6, t6), (7, t7)] m = J_impl_first k (q + 1) 2 [t5, t6, t7] m := by kernel_rfl
theorem gl_impl_first (k : Nat) : ∀ q i, i < 1 → GoodL CT k Try.f88 LL_impl_first (J_impl_first k q) (atLoop Try.f88 i)
  | 0, 0, _ => goodL_zero (l := 2) (by kernel_rfl) (fun vs m => by kernel_rfl)
  | 0, _ + 1, h => absurd h (by omega)
  | q + 1, 0, _ => goodL_succ (np := 1) (l := 2) (live := [5, 6, 7]) (n := 1) CT_ok rfl okc_impl_first (c := (Try.f88.body.get rfl)) rfl cok_impl_first (by kernel_rfl) (gl_impl_first k q) (by kernel_rfl) rfl (fun vs m r hl h => match vs, hl with
    | [t5, t6, t7], _ => (le_impl_first_0 k q t5 t6 t7 m).trans h)
  | _ + 1, _ + 1, h => absurd h (by omega)
theorem ok_X_impl_first : OkX CT 88 X_impl_first := OkX.of_ex (cf := cf_impl_first) (np := 1) (LL := LL_impl_first) (J := (fun k => J_impl_first k QQ)) CT_ok rfl Try.func88 rfl (Nat.le_of_ble_eq_true rfl) (by decide) cok_impl_first okc_impl_first (fun k => allLoops rfl (by kernel_rfl) (gl_impl_first k QQ)) (fun args m r h => match args, h with
    | [t0], h => ⟨rfl, (xe_impl_first t0 m).trans h⟩)
theorem ok_C_impl_first : OkC CT 88 C_impl_first := fcall_ok rfl ok_X_impl_first

/-! ### impl.unless -/
noncomputable def cf_impl_unless : CallF := cfn
noncomputable def X_impl_unless : List Value → Mem → Option VM
  | [t0, t1], m =>
    brX t0
      (
        retK m.length m [t0, t1] (.int .i64 0))
      (
        retK m.length m [t0, t1] t1)
  | _, _ => none
noncomputable def C_impl_unless : List Value → Mem → Option VM := fcall X_impl_unless
@[simp] theorem c_impl_unless : C_impl_unless = fcall X_impl_unless := (rfl)
theorem cok_impl_unless : codeOk CT Try.f89 (Try.f89.body.get rfl) = true := by kernel_rfl
theorem xe_impl_unless (t0 t1 : Value) (m : Mem) : ex CT cf_impl_unless Try.f89 2 m.length [] (fun _ _ _ => none) 400 [.code (Try.f89.body.get rfl)] (argsT 0 [t0, t1]) m = X_impl_unless [t0, t1] m := by kernel_rfl
theorem okc_impl_unless : CallOK CT cf_impl_unless := cfn_ok
theorem ok_X_impl_unless : OkX CT 89 X_impl_unless := OkX.of_ex (cf := cf_impl_unless) (np := 2) (LL := []) (J := (fun _ _ _ _ => none)) CT_ok rfl Try.func89 rfl (Nat.le_of_ble_eq_true rfl) (by decide) cok_impl_unless okc_impl_unless (fun k => noLoops rfl) (fun args m r h => match args, h with
    | [t0, t1], h => ⟨rfl, (xe_impl_unless t0 t1 m).trans h⟩)
theorem ok_C_impl_unless : OkC CT 89 C_impl_unless := fcall_ok rfl ok_X_impl_unless

/-! ### impl.ReadBy -/
noncomputable def cf_impl_ReadBy : CallF := cfc 88 C_impl_first (cfc 89 C_impl_unless cfn)
noncomputable def L_impl_ReadBy (k : Nat) : Nat → Nat → List Value → Mem → Option VM
  | q + 1, 0, [t1, t2, t6, t8, t28, t29, t30], m =>
    (binX .lss .no t30 t29) |> bo fun t31 =>
    brX t31
      (
        (ixaX 13 t28 t30) |> bo fun t33 =>
        (ldS m 13 t33) |> bo fun t34 =>
        (alX m [.int .i64 0, .int .i64 0, .int .i64 0, .bool false, .slice none 0 0, .int .i64 0, .int .i64 0, .int .i64 0, .int .i64 0, .int .i64 0, .int .i64 0, .int .i64 0, .int .i64 0]) |> bo fun r4 =>
        (stX r4.2 13 r4.1 t34) |> bo fun m5 =>
        (fadX 0 r4.1) |> bo fun t35 =>
        (ld1 m5 t35) |> bo fun t36 =>
        (binX .eql .no t36 (.int .i64 3)) |> bo fun t37 =>
        (gd t37 true ((fadX 1 r4.1) |> bo fun v => some (v, m5)) m5) |> bo fun r9 =>
        (gd t37 true ((ld1 r9.2 r9.1) |> bo fun v => some (v, r9.2)) r9.2) |> bo fun r10 =>
        (gd t37 true (some (t2, r10.2)) r10.2) |> bo fun r11 =>
        (gd t37 true ((binX .eql .no r10.1 r11.1) |> bo fun v => some (v, r11.2)) r11.2) |> bo fun r12 =>
        (pickX t37 r12.1 (.bool false)) |> bo fun t43 =>
        brX t43
          (
            (ixaX 1 t1 t30) |> bo fun t47 =>
            (ld1 r12.2 t47) |> bo fun t48 =>
            (apL r12.2 1 1 t8 t48) |> bo fun r16 =>
            (binX .add .no t30 (.int .i64 1)) |> bo fun t50 =>
            cutK k r16.2 [t1, t2] [t1, t2, t6, r16.1, t28, t29, t50] (L_impl_ReadBy k q 0))
          (
            (binX .add .no t30 (.int .i64 1)) |> bo fun t50 =>
            cutK k r12.2 [t1, t2] [t1, t2, t6, t8, t28, t29, t50] (L_impl_ReadBy k q 0)))
      (
        (bldX [.int .i64 0, .slice none 0 0] [(0, 1, (.int .i64 0)), (1, 1, t8)]) |> bo fun t52 =>
        (stX m 2 t6 t52) |> bo fun m20 =>
        (resP (some 2) m20 t6) |> bo fun c21 =>
        retK k m20 [t1, t2] c21)
  | _, _, _, _ => none
noncomputable def J_impl_ReadBy (k q l : Nat) : List Value → Mem → Option VM := cond (Nat.beq l 6) (L_impl_ReadBy k q 0) (fun _ _ => none)
def LL_impl_ReadBy : List (Nat × List Tmp) := [(6, [1, 2, 6, 8, 28, 29, 30])]
noncomputable def X_impl_ReadBy : List Value → Mem → Option VM
  | [t0, t1, t2], m =>
    (alX m [.int .i64 0, .slice none 0 0]) |> bo fun r1 =>
    (lenX t0) |> bo fun t12 =>
    (binX .leq .no t12 (.int .i64 40)) |> bo fun t13 =>
    (C_impl_unless [t13, (.int .i64 2)] r1.2) |> bo fun r4 =>
    (lenX t1) |> bo fun t16 =>
    (lenX t0) |> bo fun t18 =>
    (binX .eql .no t16 t18) |> bo fun t19 =>
    (C_impl_unless [t19, (.int .i64 1)] r4.2) |> bo fun r8 =>
    (bslX r8.2 2 1 [.int .i64 0] [(0, 1, r4.1), (1, 1, r8.1)]) |> bo fun r9 =>
    (C_impl_first [r9.1] r9.2) |> bo fun r10 =>
    (binX .neq .no r10.1 (.int .i64 0)) |> bo fun t24 =>
    brX t24
      (
        (bldX [.int .i64 0, .slice none 0 0] [(0, 1, r10.1)]) |> bo fun t26 =>
        (stX r10.2 2 r1.1 t26) |> bo fun m13 =>
        (resP (some 2) m13 r1.1) |> bo fun c14 =>
        retK m.length m13 [t0, t1, t2] c14)
      (
        (bslX r10.2 0 1 [.int .u8 0] []) |> bo fun r15 =>
        (lenX t0) |> bo fun t29 =>
        cutK m.length r15.2 [t0, t1, t2] [t1, t2, r1.1, r15.1, t0, t29, (.int .i64 0)] (L_impl_ReadBy m.length QQ 0))
  | _, _ => none
noncomputable def C_impl_ReadBy : List Value → Mem → Option VM := fcall X_impl_ReadBy
@[simp] theorem c_impl_ReadBy : C_impl_ReadBy = fcall X_impl_ReadBy := (rfl)
theorem cok_impl_ReadBy : codeOk CT Try.f56 (Try.f56.body.get rfl) = true := by kernel_rfl
theorem xe_impl_ReadBy (t0 t1 t2 : Value) (m : Mem) : ex CT cf_impl_ReadBy Try.f56 3 m.length LL_impl_ReadBy (J_impl_ReadBy m.length QQ) 400 [.code (Try.f56.body.get rfl)] (argsT 0 [t0, t1, t2]) m = X_impl_ReadBy [t0, t1, t2] m := by kernel_rfl
theorem okc_impl_ReadBy : CallOK CT cf_impl_ReadBy := cfc_ok ok_C_impl_first (cfc_ok ok_C_impl_unless cfn_ok)
theorem le_impl_ReadBy_0 (k q : Nat) (t1 t2 t6 t8 t28 t29 t30 : Value) (m : Mem) : ex CT cf_impl_ReadBy Try.f56 3 k LL_impl_ReadBy (J_impl_ReadBy k q) 400 (atLoop Try.f56 0) [(1, t1), (2, t2), (6, t6), (8, t8), (28, t28), (29, t29), (30, t30)] m = J_impl_ReadBy k (q + 1) 6 [t1, t2, t6, t8, t28, t29, t30] m := by kernel_rfl
theorem gl_impl_ReadBy (k : Nat) : ∀ q i, i < 1 → GoodL CT k Try.f56 LL_impl_ReadBy (J_impl_ReadBy k q) (atLoop Try.f56 i)
  | 0, 0, _ => goodL_zero (l := 6) (by kernel_rfl) (fun vs m => by kernel_rfl)
  | 0, _ + 1, h => absurd h (by omega)
  | q + 1, 0, _ => goodL_succ (np := 3) (l := 6) (live := [1, 2, 6, 8, 28, 29, 30]) (n := 1) CT_ok rfl okc_impl_ReadBy (c := (Try.f56.body.get rfl)) rfl cok_impl_ReadBy (by kernel_rfl) (gl_impl_ReadBy k q) (by kernel_rfl) rfl (fun vs m r hl h => match vs, hl with
    | [t1, t2, t6, t8, t28, t29, t30], _ => (le_impl_ReadBy_0 k q t1 t2 t6 t8 t28 t29 t30 m).trans h)
  | _ + 1, _ + 1, h => absurd h (by omega)
theorem ok_X_impl_ReadBy : OkX CT 56 X_impl_ReadBy := OkX.of_ex (cf := cf_impl_ReadBy) (np := 3) (LL := LL_impl_ReadBy) (J := (fun k => J_impl_ReadBy k QQ)) CT_ok rfl Try.func56 rfl (Nat.le_of_ble_eq_true rfl) (by decide) cok_impl_ReadBy okc_impl_ReadBy (fun k => allLoops rfl (by kernel_rfl) (gl_impl_ReadBy k QQ)) (fun args m r h => match args, h with
    | [t0, t1, t2], h => ⟨rfl, (xe_impl_ReadBy t0 t1 t2 m).trans h⟩)
theorem ok_C_impl_ReadBy : OkC CT 56 C_impl_ReadBy := fcall_ok rfl ok_X_impl_ReadBy

/-! ### laws.eqByteS -/
noncomputable def cf_laws_eqByteS : CallF := cfn
noncomputable def L_laws_eqByteS (k : Nat) : Nat → Nat → List Value → Mem → Option VM
  | q + 1, 0, [t0, t1, t5], m =>
    (lenX t0) |> bo fun t13 =>
    (binX .lss .no t5 t13) |> bo fun t14 =>
    brX t14
      (
        (ixaX 1 t0 t5) |> bo fun t19 =>
        (ld1 m t19) |> bo fun t20 =>
        (ixaX 1 t1 t5) |> bo fun t23 =>
        (ld1 m t23) |> bo fun t24 =>
        (binX .neq .no t20 t24) |> bo fun t25 =>
        brX t25
          (
            retK k m [t0, t1] (.bool false))
          (
            (binX .add .no t5 (.int .i64 1)) |> bo fun t16 =>
            cutK k m [t0, t1] [t0, t1, t16] (L_laws_eqByteS k q 0)))
      (
        retK k m [t0, t1] (.bool true))
  | _, _, _, _ => none
noncomputable def J_laws_eqByteS (k q l : Nat) : List Value → Mem → Option VM := cond (Nat.beq l 4) (L_laws_eqByteS k q 0) (fun _ _ => none)
def LL_laws_eqByteS : List (Nat × List Tmp) := [(4, [0, 1, 5])]
noncomputable def X_laws_eqByteS : List Value → Mem → Option VM
  | [t0, t1], m =>
    (lenX t0) |> bo fun t7 =>
    (lenX t1) |> bo fun t9 =>
    (binX .neq .no t7 t9) |> bo fun t10 =>
    brX t10
      (
        retK m.length m [t0, t1] (.bool false))
      (
        cutK m.length m [t0, t1] [t0, t1, (.int .i64 0)] (L_laws_eqByteS m.length QQ 0))
  | _, _ => none
noncomputable def C_laws_eqByteS : List Value → Mem → Option VM := fcall X_laws_eqByteS
@[simp] theorem c_laws_eqByteS : C_laws_eqByteS = fcall X_laws_eqByteS := (rfl)
theorem cok_laws_eqByteS : codeOk CT Try.f128 (Try.f128.body.get rfl) = true := by kernel_rfl
theorem xe_laws_eqByteS (t0 t1 : Value) (m : Mem) : ex CT cf_laws_eqByteS Try.f128 2 m.length LL_laws_eqByteS (J_laws_eqByteS m.length QQ) 400 [.code (Try.f128.body.get rfl)] (argsT 0 [t0, t1]) m = X_laws_eqByteS [t0, t1] m := by kernel_rfl
theorem okc_laws_eqByteS : CallOK CT cf_laws_eqByteS := cfn_ok
theorem le_laws_eqByteS_0 (k q : Nat) (t0 t1 t5 : Value) (m : Mem) : ex CT cf_laws_eqByteS Try.f128 2 k LL_laws_eqByteS (J_laws_eqByteS k q) 400 (atLoop Try.f128 0) [(0, t0), (1, t1), (5, t5)] m = J_laws_eqByteS k (q + 1) 4 [t0, t1, t5] m := by kernel_rfl
theorem gl_laws_eqByteS (k : Nat) : ∀ q i, i < 1 → GoodL CT k Try.f128 LL_laws_eqByteS (J_laws_eqByteS k q) (atLoop Try.f128 i)
  | 0, 0, _ => goodL_zero (l := 4) (by kernel_rfl) (fun vs m => by kernel_rfl)
  | 0, _ + 1, h => absurd h (by omega)
  | q + 1, 0, _ => goodL_succ (np := 2) (l := 4) (live := [0, 1, 5]) (n := 1) CT_ok rfl okc_laws_eqByteS (c := (Try.f128.body.get rfl)) rfl cok_laws_eqByteS (by kernel_rfl) (gl_laws_eqByteS k q) (by kernel_rfl) rfl (fun vs m r hl h => match vs, hl with
    | [t0, t1, t5], _ => (le_laws_eqByteS_0 k q t0 t1 t5 m).trans h)
  | _ + 1, _ + 1, h => absurd h (by omega)
theorem ok_X_laws_eqByteS : OkX CT 128 X_laws_eqByteS := OkX.of_ex (cf := cf_laws_eqByteS) (np := 2) (LL := LL_laws_eqByteS) (J := (fun k => J_laws_eqByteS k QQ)) CT_ok rfl Try.func128 rfl (Nat.le_of_ble_eq_true rfl) (by decide) cok_laws_eqByteS okc_laws_eqByteS (fun k => allLoops rfl (by kernel_rfl) (gl_laws_eqByteS k QQ)) (fun args m r h => match args, h with
    | [t0, t1], h => ⟨rfl, (xe_laws_eqByteS t0 t1 m).trans h⟩)
theorem ok_C_laws_eqByteS : OkC CT 128 C_laws_eqByteS := fcall_ok rfl ok_X_laws_eqByteS

/-! ### laws.eqBytesResult -/
noncomputable def cf_laws_eqBytesResult : CallF := cfc 128 C_laws_eqByteS cfn
noncomputable def X_laws_eqBytesResult : List Value → Mem → Option VM
  | [t0, t1], m =>
    (boxX m t0) |> bo fun r1 =>
    (boxX r1.2 t1) |> bo fun r2 =>
    (fadX 0 r1.1) |> bo fun t5 =>
    (ld1 r2.2 t5) |> bo fun t6 =>
    (fadX 0 r2.1) |> bo fun t7 =>
    (ld1 r2.2 t7) |> bo fun t8 =>
    (binX .neq .no t6 t8) |> bo fun t9 =>
    brX t9
      (
        retK m.length r2.2 [t0, t1] (.bool false))
      (
        (fadX 1 r1.1) |> bo fun t10 =>
        (ld1 r2.2 t10) |> bo fun t11 =>
        (fadX 1 r2.1) |> bo fun t12 =>
        (ld1 r2.2 t12) |> bo fun t13 =>
        (C_laws_eqByteS [t11, t13] r2.2) |> bo fun r12 =>
        (uop .not r12.1) |> bo fun t15 =>
        brX t15
          (
            retK m.length r12.2 [t0, t1] (.bool false))
          (
            retK m.length r12.2 [t0, t1] (.bool true)))
  | _, _ => none
noncomputable def C_laws_eqBytesResult : List Value → Mem → Option VM := fcall X_laws_eqBytesResult
@[simp] theorem c_laws_eqBytesResult : C_laws_eqBytesResult = fcall X_laws_eqBytesResult := (rfl)
theorem cok_laws_eqBytesResult : codeOk CT Try.f57 (Try.f57.body.get rfl) = true := by kernel_rfl
theorem xe_laws_eqBytesResult (t0 t1 : Value) (m : Mem) : ex CT cf_laws_eqBytesResult Try.f57 2 m.length [] (fun _ _ _ => none) 400 [.code (Try.f57.body.get rfl)] (argsT 0 [t0, t1]) m = X_laws_eqBytesResult [t0, t1] m := by kernel_rfl
theorem okc_laws_eqBytesResult : CallOK CT cf_laws_eqBytesResult := cfc_ok ok_C_laws_eqByteS cfn_ok
theorem ok_X_laws_eqBytesResult : OkX CT 57 X_laws_eqBytesResult := OkX.of_ex (cf := cf_laws_eqBytesResult) (np := 2) (LL := []) (J := (fun _ _ _ _ => none)) CT_ok rfl Try.func57 rfl (Nat.le_of_ble_eq_true rfl) (by decide) cok_laws_eqBytesResult okc_laws_eqBytesResult (fun k => noLoops rfl) (fun args m r h => match args, h with
    | [t0, t1], h => ⟨rfl, (xe_laws_eqBytesResult t0 t1 m).trans h⟩)
theorem ok_C_laws_eqBytesResult : OkC CT 57 C_laws_eqBytesResult := fcall_ok rfl ok_X_laws_eqBytesResult

/-! ### laws.eqWay -/
noncomputable def cf_laws_eqWay : CallF := cfn
noncomputable def X_laws_eqWay : List Value → Mem → Option VM
  | [t0, t1], m =>
    (boxX m t0) |> bo fun r1 =>
    (boxX r1.2 t1) |> bo fun r2 =>
    (fadX 0 r1.1) |> bo fun t5 =>
    (ld1 r2.2 t5) |> bo fun t6 =>
    (fadX 0 r2.1) |> bo fun t7 =>
    (ld1 r2.2 t7) |> bo fun t8 =>
    (binX .neq .no t6 t8) |> bo fun t9 =>
    brX t9
      (
        retK m.length r2.2 [t0, t1] (.bool false))
      (
        (fadX 1 r1.1) |> bo fun t10 =>
        (ld1 r2.2 t10) |> bo fun t11 =>
        (fadX 1 r2.1) |> bo fun t12 =>
        (ld1 r2.2 t12) |> bo fun t13 =>
        (binX .neq .no t11 t13) |> bo fun t14 =>
        brX t14
          (
            retK m.length r2.2 [t0, t1] (.bool false))
          (
            (fadX 2 r1.1) |> bo fun t15 =>
            (ld1 r2.2 t15) |> bo fun t16 =>
            (fadX 2 r2.1) |> bo fun t17 =>
            (ld1 r2.2 t17) |> bo fun t18 =>
            (binX .neq .no t16 t18) |> bo fun t19 =>
            brX t19
              (
                retK m.length r2.2 [t0, t1] (.bool false))
              (
                (fadX 3 r1.1) |> bo fun t20 =>
                (ld1 r2.2 t20) |> bo fun t21 =>
                (fadX 3 r2.1) |> bo fun t22 =>
                (ld1 r2.2 t22) |> bo fun t23 =>
                (binX .neq .no t21 t23) |> bo fun t24 =>
                brX t24
                  (
                    retK m.length r2.2 [t0, t1] (.bool false))
                  (
                    (fadX 4 r1.1) |> bo fun t25 =>
                    (ld1 r2.2 t25) |> bo fun t26 =>
                    (fadX 4 r2.1) |> bo fun t27 =>
                    (ld1 r2.2 t27) |> bo fun t28 =>
                    (binX .neq .no t26 t28) |> bo fun t29 =>
                    brX t29
                      (
                        retK m.length r2.2 [t0, t1] (.bool false))
                      (
                        (fadX 5 r1.1) |> bo fun t30 =>
                        (ld1 r2.2 t30) |> bo fun t31 =>
                        (fadX 5 r2.1) |> bo fun t32 =>
                        (ld1 r2.2 t32) |> bo fun t33 =>
                        (binX .neq .no t31 t33) |> bo fun t34 =>
                        brX t34
                          (
                            retK m.length r2.2 [t0, t1] (.bool false))
                          (
                            (fadX 6 r1.1) |> bo fun t35 =>
                            (ld1 r2.2 t35) |> bo fun t36 =>
                            (fadX 6 r2.1) |> bo fun t37 =>
                            (ld1 r2.2 t37) |> bo fun t38 =>
                            (binX .neq .no t36 t38) |> bo fun t39 =>
                            brX t39
                              (
                                retK m.length r2.2 [t0, t1] (.bool false))
                              (
                                retK m.length r2.2 [t0, t1] (.bool true))))))))
  | _, _ => none
noncomputable def C_laws_eqWay : List Value → Mem → Option VM := fcall X_laws_eqWay
@[simp] theorem c_laws_eqWay : C_laws_eqWay = fcall X_laws_eqWay := (rfl)
theorem cok_laws_eqWay : codeOk CT Try.f170 (Try.f170.body.get rfl) = true := by kernel_rfl
theorem xe_laws_eqWay (t0 t1 : Value) (m : Mem) : ex CT cf_laws_eqWay Try.f170 2 m.length [] (fun _ _ _ => none) 400 [.code (Try.f170.body.get rfl)] (argsT 0 [t0, t1]) m = X_laws_eqWay [t0, t1] m := by kernel_rfl
theorem okc_laws_eqWay : CallOK CT cf_laws_eqWay := cfn_ok
theorem ok_X_laws_eqWay : OkX CT 170 X_laws_eqWay := OkX.of_ex (cf := cf_laws_eqWay) (np := 2) (LL := []) (J := (fun _ _ _ _ => none)) CT_ok rfl Try.func170 rfl (Nat.le_of_ble_eq_true rfl) (by decide) cok_laws_eqWay okc_laws_eqWay (fun k => noLoops rfl) (fun args m r h => match args, h with
    | [t0, t1], h => ⟨rfl, (xe_laws_eqWay t0 t1 m).trans h⟩)
theorem ok_C_laws_eqWay : OkC CT 170 C_laws_eqWay := fcall_ok rfl ok_X_laws_eqWay

/-! ### laws.eqEvent -/
noncomputable def cf_laws_eqEvent : CallF := cfc 128 C_laws_eqByteS (cfc 170 C_laws_eqWay cfn)
noncomputable def X_laws_eqEvent : List Value → Mem → Option VM
  | [t0, t1], m =>
    (boxX m t0) |> bo fun r1 =>
    (boxX r1.2 t1) |> bo fun r2 =>
    (fadX 0 r1.1) |> bo fun t5 =>
    (ld1 r2.2 t5) |> bo fun t6 =>
    (fadX 0 r2.1) |> bo fun t7 =>
    (ld1 r2.2 t7) |> bo fun t8 =>
    (binX .neq .no t6 t8) |> bo fun t9 =>
    brX t9
      (
        retK m.length r2.2 [t0, t1] (.bool false))
      (
        (fadX 1 r1.1) |> bo fun t10 =>
        (ld1 r2.2 t10) |> bo fun t11 =>
        (fadX 1 r2.1) |> bo fun t12 =>
        (ld1 r2.2 t12) |> bo fun t13 =>
        (binX .neq .no t11 t13) |> bo fun t14 =>
        brX t14
          (
            retK m.length r2.2 [t0, t1] (.bool false))
          (
            (fadX 2 r1.1) |> bo fun t15 =>
            (ld1 r2.2 t15) |> bo fun t16 =>
            (fadX 2 r2.1) |> bo fun t17 =>
            (ld1 r2.2 t17) |> bo fun t18 =>
            (binX .neq .no t16 t18) |> bo fun t19 =>
            brX t19
              (
                retK m.length r2.2 [t0, t1] (.bool false))
              (
                (fadX 3 r1.1) |> bo fun t20 =>
                (ld1 r2.2 t20) |> bo fun t21 =>
                (fadX 3 r2.1) |> bo fun t22 =>
                (ld1 r2.2 t22) |> bo fun t23 =>
                (binX .neq .bool t21 t23) |> bo fun t24 =>
                brX t24
                  (
                    retK m.length r2.2 [t0, t1] (.bool false))
                  (
                    (fadX 4 r1.1) |> bo fun t25 =>
                    (ld1 r2.2 t25) |> bo fun t26 =>
                    (fadX 4 r2.1) |> bo fun t27 =>
                    (ld1 r2.2 t27) |> bo fun t28 =>
                    (C_laws_eqByteS [t26, t28] r2.2) |> bo fun r27 =>
                    (uop .not r27.1) |> bo fun t30 =>
                    brX t30
                      (
                        retK m.length r27.2 [t0, t1] (.bool false))
                      (
                        (fadX 5 r1.1) |> bo fun t31 =>
                        (ld1 r27.2 t31) |> bo fun t32 =>
                        (fadX 5 r2.1) |> bo fun t33 =>
                        (ld1 r27.2 t33) |> bo fun t34 =>
                        (binX .neq .no t32 t34) |> bo fun t35 =>
                        brX t35
                          (
                            retK m.length r27.2 [t0, t1] (.bool false))
                          (
                            (fadX 6 r1.1) |> bo fun t36 =>
                            (ldS r27.2 7 t36) |> bo fun t37 =>
                            (fadX 6 r2.1) |> bo fun t38 =>
                            (ldS r27.2 7 t38) |> bo fun t39 =>
                            (C_laws_eqWay [t37, t39] r27.2) |> bo fun r38 =>
                            (uop .not r38.1) |> bo fun t41 =>
                            brX t41
                              (
                                retK m.length r38.2 [t0, t1] (.bool false))
                              (
                                retK m.length r38.2 [t0, t1] (.bool true))))))))
  | _, _ => none
noncomputable def C_laws_eqEvent : List Value → Mem → Option VM := fcall X_laws_eqEvent
@[simp] theorem c_laws_eqEvent : C_laws_eqEvent = fcall X_laws_eqEvent := (rfl)
theorem cok_laws_eqEvent : codeOk CT Try.f138 (Try.f138.body.get rfl) = true := by kernel_rfl
theorem xe_laws_eqEvent (t0 t1 : Value) (m : Mem) : ex CT cf_laws_eqEvent Try.f138 2 m.length [] (fun _ _ _ => none) 400 [.code (Try.f138.body.get rfl)] (argsT 0 [t0, t1]) m = X_laws_eqEvent [t0, t1] m := by kernel_rfl
theorem okc_laws_eqEvent : CallOK CT cf_laws_eqEvent := cfc_ok ok_C_laws_eqByteS (cfc_ok ok_C_laws_eqWay cfn_ok)
theorem ok_X_laws_eqEvent : OkX CT 138 X_laws_eqEvent := OkX.of_ex (cf := cf_laws_eqEvent) (np := 2) (LL := []) (J := (fun _ _ _ _ => none)) CT_ok rfl Try.func138 rfl (Nat.le_of_ble_eq_true rfl) (by decide) cok_laws_eqEvent okc_laws_eqEvent (fun k => noLoops rfl) (fun args m r h => match args, h with
    | [t0, t1], h => ⟨rfl, (xe_laws_eqEvent t0 t1 m).trans h⟩)
theorem ok_C_laws_eqEvent : OkC CT 138 C_laws_eqEvent := fcall_ok rfl ok_X_laws_eqEvent

/-! ### laws.eqEventS -/
noncomputable def cf_laws_eqEventS : CallF := cfc 138 C_laws_eqEvent cfn
noncomputable def L_laws_eqEventS (k : Nat) : Nat → Nat → List Value → Mem → Option VM
  | q + 1, 0, [t0, t1, t5], m =>
    (lenX t0) |> bo fun t13 =>
    (binX .lss .no t5 t13) |> bo fun t14 =>
    brX t14
      (
        (ixaX 13 t0 t5) |> bo fun t19 =>
        (ldS m 13 t19) |> bo fun t20 =>
        (ixaX 13 t1 t5) |> bo fun t23 =>
        (ldS m 13 t23) |> bo fun t24 =>
        (C_laws_eqEvent [t20, t24] m) |> bo fun r7 =>
        (uop .not r7.1) |> bo fun t26 =>
        brX t26
          (
            retK k r7.2 [t0, t1] (.bool false))
          (
            (binX .add .no t5 (.int .i64 1)) |> bo fun t16 =>
            cutK k r7.2 [t0, t1] [t0, t1, t16] (L_laws_eqEventS k q 0)))
      (
        retK k m [t0, t1] (.bool true))
  | _, _, _, _ => none
noncomputable def J_laws_eqEventS (k q l : Nat) : List Value → Mem → Option VM := cond (Nat.beq l 4) (L_laws_eqEventS k q 0) (fun _ _ => none)
def LL_laws_eqEventS : List (Nat × List Tmp) := [(4, [0, 1, 5])]
noncomputable def X_laws_eqEventS : List Value → Mem → Option VM
  | [t0, t1], m =>
    (lenX t0) |> bo fun t7 =>
    (lenX t1) |> bo fun t9 =>
    (binX .neq .no t7 t9) |> bo fun t10 =>
    brX t10
      (
        retK m.length m [t0, t1] (.bool false))
      (
        cutK m.length m [t0, t1] [t0, t1, (.int .i64 0)] (L_laws_eqEventS m.length QQ 0))
  | _, _ => none
noncomputable def C_laws_eqEventS : List Value → Mem → Option VM := fcall X_laws_eqEventS
@[simp] theorem c_laws_eqEventS : C_laws_eqEventS = fcall X_laws_eqEventS := (rfl)
theorem cok_laws_eqEventS : codeOk CT Try.f58 (Try.f58.body.get rfl) = true := by kernel_rfl
theorem xe_laws_eqEventS (t0 t1 : Value) (m : Mem) : ex CT cf_laws_eqEventS Try.f58 2 m.length LL_laws_eqEventS (J_laws_eqEventS m.length QQ) 400 [.code (Try.f58.body.get rfl)] (argsT 0 [t0, t1]) m = X_laws_eqEventS [t0, t1] m := by kernel_rfl
theorem okc_laws_eqEventS : CallOK CT cf_laws_eqEventS := cfc_ok ok_C_laws_eqEvent cfn_ok
theorem le_laws_eqEventS_0 (k q : Nat) (t0 t1 t5 : Value) (m : Mem) : ex CT cf_laws_eqEventS Try.f58 2 k LL_laws_eqEventS (J_laws_eqEventS k q) 400 (atLoop Try.f58 0) [(0, t0), (1, t1), (5, t5)] m = J_laws_eqEventS k (q + 1) 4 [t0, t1, t5] m := by kernel_rfl
theorem gl_laws_eqEventS (k : Nat) : ∀ q i, i < 1 → GoodL CT k Try.f58 LL_laws_eqEventS (J_laws_eqEventS k q) (atLoop Try.f58 i)
  | 0, 0, _ => goodL_zero (l := 4) (by kernel_rfl) (fun vs m => by kernel_rfl)
  | 0, _ + 1, h => absurd h (by omega)
  | q + 1, 0, _ => goodL_succ (np := 2) (l := 4) (live := [0, 1, 5]) (n := 1) CT_ok rfl okc_laws_eqEventS (c := (Try.f58.body.get rfl)) rfl cok_laws_eqEventS (by kernel_rfl) (gl_laws_eqEventS k q) (by kernel_rfl) rfl (fun vs m r hl h => match vs, hl with
    | [t0, t1, t5], _ => (le_laws_eqEventS_0 k q t0 t1 t5 m).trans h)
  | _ + 1, _ + 1, h => absurd h (by omega)
theorem ok_X_laws_eqEventS : OkX CT 58 X_laws_eqEventS := OkX.of_ex (cf := cf_laws_eqEventS) (np := 2) (LL := LL_laws_eqEventS) (J := (fun k => J_laws_eqEventS k QQ)) CT_ok rfl Try.func58 rfl (Nat.le_of_ble_eq_true rfl) (by decide) cok_laws_eqEventS okc_laws_eqEventS (fun k => allLoops rfl (by kernel_rfl) (gl_laws_eqEventS k QQ)) (fun args m r h => match args, h with
    | [t0, t1], h => ⟨rfl, (xe_laws_eqEventS t0 t1 m).trans h⟩)
theorem ok_C_laws_eqEventS : OkC CT 58 C_laws_eqEventS := fcall_ok rfl ok_X_laws_eqEventS

/-! ### laws.eqByteSS -/
noncomputable def cf_laws_eqByteSS : CallF := cfc 128 C_laws_eqByteS cfn
noncomputable def L_laws_eqByteSS (k : Nat) : Nat → Nat → List Value → Mem → Option VM
  | q + 1, 0, [t0, t1, t5], m =>
    (lenX t0) |> bo fun t13 =>
    (binX .lss .no t5 t13) |> bo fun t14 =>
    brX t14
      (
        (ixaX 1 t0 t5) |> bo fun t19 =>
        (ld1 m t19) |> bo fun t20 =>
        (ixaX 1 t1 t5) |> bo fun t23 =>
        (ld1 m t23) |> bo fun t24 =>
        (C_laws_eqByteS [t20, t24] m) |> bo fun r7 =>
        (uop .not r7.1) |> bo fun t26 =>
        brX t26
          (
            retK k r7.2 [t0, t1] (.bool false))
          (
            (binX .add .no t5 (.int .i64 1)) |> bo fun t16 =>
            cutK k r7.2 [t0, t1] [t0, t1, t16] (L_laws_eqByteSS k q 0)))
      (
        retK k m [t0, t1] (.bool true))
  | _, _, _, _ => none
noncomputable def J_laws_eqByteSS (k q l : Nat) : List Value → Mem → Option VM := cond (Nat.beq l 4) (L_laws_eqByteSS k q 0) (fun _ _ => none)
def LL_laws_eqByteSS : List (Nat × List Tmp) := [(4, [0, 1, 5])]
noncomputable def X_laws_eqByteSS : List Value → Mem → Option VM
  | [t0, t1], m =>
    (lenX t0) |> bo fun t7 =>
    (lenX t1) |> bo fun t9 =>
    (binX .neq .no t7 t9) |> bo fun t10 =>
    brX t10
      (
        retK m.length m [t0, t1] (.bool false))
      (
        cutK m.length m [t0, t1] [t0, t1, (.int .i64 0)] (L_laws_eqByteSS m.length QQ 0))
  | _, _ => none
noncomputable def C_laws_eqByteSS : List Value → Mem → Option VM := fcall X_laws_eqByteSS
@[simp] theorem c_laws_eqByteSS : C_laws_eqByteSS = fcall X_laws_eqByteSS := (rfl)
theorem cok_laws_eqByteSS : codeOk CT Try.f59 (Try.f59.body.get rfl) = true := by kernel_rfl
theorem xe_laws_eqByteSS (t0 t1 : Value) (m : Mem) : ex CT cf_laws_eqByteSS Try.f59 2 m.length LL_laws_eqByteSS (J_laws_eqByteSS m.length QQ) 400 [.code (Try.f59.body.get rfl)] (argsT 0 [t0, t1]) m = X_laws_eqByteSS [t0, t1] m := by kernel_rfl
theorem okc_laws_eqByteSS : CallOK CT cf_laws_eqByteSS := cfc_ok ok_C_laws_eqByteS cfn_ok
theorem le_laws_eqByteSS_0 (k q : Nat) (t0 t1 t5 : Value) (m : Mem) : ex CT cf_laws_eqByteSS Try.f59 2 k LL_laws_eqByteSS (J_laws_eqByteSS k q) 400 (atLoop Try.f59 0) [(0, t0), (1, t1), (5, t5)] m = J_laws_eqByteSS k (q + 1) 4 [t0, t1, t5] m := by kernel_rfl
theorem gl_laws_eqByteSS (k : Nat) : ∀ q i, i < 1 → GoodL CT k Try.f59 LL_laws_eqByteSS (J_laws_eqByteSS k q) (atLoop Try.f59 i)
  | 0, 0, _ => goodL_zero (l := 4) (by kernel_rfl) (fun vs m => by kernel_rfl)
  | 0, _ + 1, h => absurd h (by omega)
  | q + 1, 0, _ => goodL_succ (np := 2) (l := 4) (live := [0, 1, 5]) (n := 1) CT_ok rfl okc_laws_eqByteSS (c := (Try.f59.body.get rfl)) rfl cok_laws_eqByteSS (by kernel_rfl) (gl_laws_eqByteSS k q) (by kernel_rfl) rfl (fun vs m r hl h => match vs, hl with
    | [t0, t1, t5], _ => (le_laws_eqByteSS_0 k q t0 t1 t5 m).trans h)
  | _ + 1, _ + 1, h => absurd h (by omega)
theorem ok_X_laws_eqByteSS : OkX CT 59 X_laws_eqByteSS := OkX.of_ex (cf := cf_laws_eqByteSS) (np := 2) (LL := LL_laws_eqByteSS) (J := (fun k => J_laws_eqByteSS k QQ)) CT_ok rfl Try.func59 rfl (Nat.le_of_ble_eq_true rfl) (by decide) cok_laws_eqByteSS okc_laws_eqByteSS (fun k => allLoops rfl (by kernel_rfl) (gl_laws_eqByteSS k QQ)) (fun args m r h => match args, h with
    | [t0, t1], h => ⟨rfl, (xe_laws_eqByteSS t0 t1 m).trans h⟩)
theorem ok_C_laws_eqByteSS : OkC CT 59 C_laws_eqByteSS := fcall_ok rfl ok_X_laws_eqByteSS

/-! ### laws.markByteS -/
noncomputable def cf_laws_markByteS : CallF := cfn
noncomputable def L_laws_markByteS (k : Nat) : Nat → Nat → List Value → Mem → Option VM
  | q + 1, 0, [t0, t1, t5], m =>
    (lenX t0) |> bo fun t8 =>
    (binX .lss .no t5 t8) |> bo fun t9 =>
    brX t9
      (
        (cvI .u8 t1) |> bo fun t15 =>
        (ixaX 1 t0 t5) |> bo fun t16 =>
        (stX m 1 t16 t15) |> bo fun m5 =>
        (binX .add .no t1 (.int .i64 1)) |> bo fun t18 =>
        (binX .add .no t5 (.int .i64 1)) |> bo fun t11 =>
        cutK k m5 [t0, t18] [t0, t18, t11] (L_laws_markByteS k q 0))
      (
        retK k m [t0, t1] t1)
  | _, _, _, _ => none
noncomputable def J_laws_markByteS (k q l : Nat) : List Value → Mem → Option VM := cond (Nat.beq l 2) (L_laws_markByteS k q 0) (fun _ _ => none)
def LL_laws_markByteS : List (Nat × List Tmp) := [(2, [0, 1, 5])]
noncomputable def X_laws_markByteS : List Value → Mem → Option VM
  | [t0, t1], m =>
    cutK m.length m [t0, t1] [t0, t1, (.int .i64 0)] (L_laws_markByteS m.length QQ 0)
  | _, _ => none
noncomputable def C_laws_markByteS : List Value → Mem → Option VM := rcall X_laws_markByteS
@[simp] theorem c_laws_markByteS : C_laws_markByteS = rcall X_laws_markByteS := (rfl)
theorem cok_laws_markByteS : codeOk CT Try.f131 (Try.f131.body.get rfl) = true := by kernel_rfl
theorem xe_laws_markByteS (t0 t1 : Value) (m : Mem) : ex CT cf_laws_markByteS Try.f131 2 m.length LL_laws_markByteS (J_laws_markByteS m.length QQ) 400 [.code (Try.f131.body.get rfl)] (argsT 0 [t0, t1]) m = X_laws_markByteS [t0, t1] m := by kernel_rfl
theorem okc_laws_markByteS : CallOK CT cf_laws_markByteS := cfn_ok
theorem le_laws_markByteS_0 (k q : Nat) (t0 t1 t5 : Value) (m : Mem) : ex CT cf_laws_markByteS Try.f131 2 k LL_laws_markByteS (J_laws_markByteS k q) 400 (atLoop Try.f131 0) [(0, t0), (1, t1), (5, t5)] m = J_laws_markByteS k (q + 1) 2 [t0, t1, t5] m := by kernel_rfl
theorem gl_laws_markByteS (k : Nat) : ∀ q i, i < 1 → GoodL CT k Try.f131 LL_laws_markByteS (J_laws_markByteS k q) (atLoop Try.f131 i)
  | 0, 0, _ => goodL_zero (l := 2) (by kernel_rfl) (fun vs m => by kernel_rfl)
  | 0, _ + 1, h => absurd h (by omega)
  | q + 1, 0, _ => goodL_succ (np := 2) (l := 2) (live := [0, 1, 5]) (n := 1) CT_ok rfl okc_laws_markByteS (c := (Try.f131.body.get rfl)) rfl cok_laws_markByteS (by kernel_rfl) (gl_laws_markByteS k q) (by kernel_rfl) rfl (fun vs m r hl h => match vs, hl with
    | [t0, t1, t5], _ => (le_laws_markByteS_0 k q t0 t1 t5 m).trans h)
  | _ + 1, _ + 1, h => absurd h (by omega)
theorem ok_X_laws_markByteS : OkX CT 131 X_laws_markByteS := OkX.of_ex (cf := cf_laws_markByteS) (np := 2) (LL := LL_laws_markByteS) (J := (fun k => J_laws_markByteS k QQ)) CT_ok rfl Try.func131 rfl (Nat.le_of_ble_eq_true rfl) (by decide) cok_laws_markByteS okc_laws_markByteS (fun k => allLoops rfl (by kernel_rfl) (gl_laws_markByteS k QQ)) (fun args m r h => match args, h with
    | [t0, t1], h => ⟨rfl, (xe_laws_markByteS t0 t1 m).trans h⟩)
theorem ok_C_laws_markByteS : OkC CT 131 C_laws_markByteS := rcall_ok rfl ok_X_laws_markByteS

/-! ### laws.markEventS -/
noncomputable def cf_laws_markEventS : CallF := cfc 131 C_laws_markByteS cfn
noncomputable def L_laws_markEventS (k : Nat) : Nat → Nat → List Value → Mem → Option VM
  | q + 1, 0, [t0, t1, t5], m =>
    (lenX t0) |> bo fun t8 =>
    (binX .lss .no t5 t8) |> bo fun t9 =>
    brX t9
      (
        (ixaX 13 t0 t5) |> bo fun t15 =>
        (fadX 0 t15) |> bo fun t16 =>
        (stX m 1 t16 t1) |> bo fun m5 =>
        (binX .add .no t1 (.int .i64 1)) |> bo fun t18 =>
        (ixaX 13 t0 t5) |> bo fun t22 =>
        (fadX 1 t22) |> bo fun t23 =>
        (stX m5 1 t23 t18) |> bo fun m9 =>
        (binX .add .no t18 (.int .i64 1)) |> bo fun t25 =>
        (ixaX 13 t0 t5) |> bo fun t29 =>
        (fadX 2 t29) |> bo fun t30 =>
        (stX m9 1 t30 t25) |> bo fun m13 =>
        (binX .add .no t25 (.int .i64 1)) |> bo fun t32 =>
        (binX .rem .no t32 (.int .i64 3)) |> bo fun t36 =>
        (binX .eql .no t36 (.int .i64 0)) |> bo fun t37 =>
        (ixaX 13 t0 t5) |> bo fun t38 =>
        (fadX 3 t38) |> bo fun t39 =>
        (stX m13 1 t39 t37) |> bo fun m19 =>
        (binX .add .no t32 (.int .i64 1)) |> bo fun t41 =>
        (ixaX 13 t0 t5) |> bo fun t44 =>
        (fadX 4 t44) |> bo fun t45 =>
        (ld1 m19 t45) |> bo fun t46 =>
        (C_laws_markByteS [t46, t41] m19) |> bo fun r24 =>
        (ixaX 13 t0 t5) |> bo fun t52 =>
        (fadX 5 t52) |> bo fun t53 =>
        (stX r24.2 1 t53 r24.1) |> bo fun m27 =>
        (binX .add .no r24.1 (.int .i64 1)) |> bo fun t55 =>
        (ixaX 13 t0 t5) |> bo fun t59 =>
        (fadX 6 t59) |> bo fun t60 =>
        (fadX 0 t60) |> bo fun t61 =>
        (stX m27 1 t61 t55) |> bo fun m32 =>
        (binX .add .no t55 (.int .i64 1)) |> bo fun t63 =>
        (ixaX 13 t0 t5) |> bo fun t67 =>
        (fadX 6 t67) |> bo fun t68 =>
        (fadX 1 t68) |> bo fun t69 =>
        (stX m32 1 t69 t63) |> bo fun m37 =>
        (binX .add .no t63 (.int .i64 1)) |> bo fun t71 =>
        (ixaX 13 t0 t5) |> bo fun t75 =>
        (fadX 6 t75) |> bo fun t76 =>
        (fadX 2 t76) |> bo fun t77 =>
        (stX m37 1 t77 t71) |> bo fun m42 =>
        (binX .add .no t71 (.int .i64 1)) |> bo fun t79 =>
        (ixaX 13 t0 t5) |> bo fun t83 =>
        (fadX 6 t83) |> bo fun t84 =>
        (fadX 3 t84) |> bo fun t85 =>
        (stX m42 1 t85 t79) |> bo fun m47 =>
        (binX .add .no t79 (.int .i64 1)) |> bo fun t87 =>
        (ixaX 13 t0 t5) |> bo fun t91 =>
        (fadX 6 t91) |> bo fun t92 =>
        (fadX 4 t92) |> bo fun t93 =>
        (stX m47 1 t93 t87) |> bo fun m52 =>
        (binX .add .no t87 (.int .i64 1)) |> bo fun t95 =>
        (ixaX 13 t0 t5) |> bo fun t99 =>
        (fadX 6 t99) |> bo fun t100 =>
        (fadX 5 t100) |> bo fun t101 =>
        (stX m52 1 t101 t95) |> bo fun m57 =>
        (binX .add .no t95 (.int .i64 1)) |> bo fun t103 =>
        (ixaX 13 t0 t5) |> bo fun t107 =>
        (fadX 6 t107) |> bo fun t108 =>
        (fadX 6 t108) |> bo fun t109 =>
        (stX m57 1 t109 t103) |> bo fun m62 =>
        (binX .add .no t103 (.int .i64 1)) |> bo fun t111 =>
        (binX .add .no t5 (.int .i64 1)) |> bo fun t11 =>
        cutK k m62 [t0, t111] [t0, t111, t11] (L_laws_markEventS k q 0))
      (
        retK k m [t0, t1] t1)
  | _, _, _, _ => none
noncomputable def J_laws_markEventS (k q l : Nat) : List Value → Mem → Option VM := cond (Nat.beq l 2) (L_laws_markEventS k q 0) (fun _ _ => none)
def LL_laws_markEventS : List (Nat × List Tmp) := [(2, [0, 1, 5])]
noncomputable def X_laws_markEventS : List Value → Mem → Option VM
  | [t0, t1], m =>
    cutK m.length m [t0, t1] [t0, t1, (.int .i64 0)] (L_laws_markEventS m.length QQ 0)
  | _, _ => none
noncomputable def C_laws_markEventS : List Value → Mem → Option VM := rcall X_laws_markEventS
@[simp] theorem c_laws_markEventS : C_laws_markEventS = rcall X_laws_markEventS := (rfl)
theorem cok_laws_markEventS : codeOk CT Try.f60 (Try.f60.body.get rfl) = true := by kernel_rfl
theorem xe_laws_markEventS (t0 t1 : Value) (m : Mem) : ex CT cf_laws_markEventS Try.f60 2 m.length LL_laws_markEventS (J_laws_markEventS m.length QQ) 400 [.code (Try.f60.body.get rfl)] (argsT 0 [t0, t1]) m = X_laws_markEventS [t0, t1] m := by kernel_rfl
theorem okc_laws_markEventS : CallOK CT cf_laws_markEventS := cfc_ok ok_C_laws_markByteS cfn_ok
theorem le_laws_markEventS_0 (k q : Nat) (t0 t1 t5 : Value) (m : Mem) : ex CT cf_laws_markEventS Try.f60 2 k LL_laws_markEventS (J_laws_markEventS k q) 400 (atLoop Try.f60 0) [(0, t0), (1, t1), (5, t5)] m = J_laws_markEventS k (q + 1) 2 [t0, t1, t5] m := by kernel_rfl
theorem gl_laws_markEventS (k : Nat) : ∀ q i, i < 1 → GoodL CT k Try.f60 LL_laws_markEventS (J_laws_markEventS k q) (atLoop Try.f60 i)
  | 0, 0, _ => goodL_zero (l := 2) (by kernel_rfl) (fun vs m => by kernel_rfl)
  | 0, _ + 1, h => absurd h (by omega)
  | q + 1, 0, _ => goodL_succ (np := 2) (l := 2) (live := [0, 1, 5]) (n := 1) CT_ok rfl okc_laws_markEventS (c := (Try.f60.body.get rfl)) rfl cok_laws_markEventS (by kernel_rfl) (gl_laws_markEventS k q) (by kernel_rfl) rfl (fun vs m r hl h => match vs, hl with
    | [t0, t1, t5], _ => (le_laws_markEventS_0 k q t0 t1 t5 m).trans h)
  | _ + 1, _ + 1, h => absurd h (by omega)
theorem ok_X_laws_markEventS : OkX CT 60 X_laws_markEventS := OkX.of_ex (cf := cf_laws_markEventS) (np := 2) (LL := LL_laws_markEventS) (J := (fun k => J_laws_markEventS k QQ)) CT_ok rfl Try.func60 rfl (Nat.le_of_ble_eq_true rfl) (by decide) cok_laws_markEventS okc_laws_markEventS (fun k => allLoops rfl (by kernel_rfl) (gl_laws_markEventS k QQ)) (fun args m r h => match args, h with
    | [t0, t1], h => ⟨rfl, (xe_laws_markEventS t0 t1 m).trans h⟩)
theorem ok_C_laws_markEventS : OkC CT 60 C_laws_markEventS := rcall_ok rfl ok_X_laws_markEventS

/-! ### laws.markByteSS -/
noncomputable def cf_laws_markByteSS : CallF := cfc 131 C_laws_markByteS cfn
noncomputable def L_laws_markByteSS (k : Nat) : Nat → Nat → List Value → Mem → Option VM
  | q + 1, 0, [t0, t1, t5], m =>
    (lenX t0) |> bo fun t8 =>
    (binX .lss .no t5 t8) |> bo fun t9 =>
    brX t9
      (
        (ixaX 1 t0 t5) |> bo fun t14 =>
        (ld1 m t14) |> bo fun t15 =>
        (C_laws_markByteS [t15, t1] m) |> bo fun r5 =>
        (binX .add .no t5 (.int .i64 1)) |> bo fun t11 =>
        cutK k r5.2 [t0, r5.1] [t0, r5.1, t11] (L_laws_markByteSS k q 0))
      (
        retK k m [t0, t1] t1)
  | _, _, _, _ => none
noncomputable def J_laws_markByteSS (k q l : Nat) : List Value → Mem → Option VM := cond (Nat.beq l 2) (L_laws_markByteSS k q 0) (fun _ _ => none)
def LL_laws_markByteSS : List (Nat × List Tmp) := [(2, [0, 1, 5])]
noncomputable def X_laws_markByteSS : List Value → Mem → Option VM
  | [t0, t1], m =>
    cutK m.length m [t0, t1] [t0, t1, (.int .i64 0)] (L_laws_markByteSS m.length QQ 0)
  | _, _ => none
noncomputable def C_laws_markByteSS : List Value → Mem → Option VM := rcall X_laws_markByteSS
@[simp] theorem c_laws_markByteSS : C_laws_markByteSS = rcall X_laws_markByteSS := (rfl)
theorem cok_laws_markByteSS : codeOk CT Try.f61 (Try.f61.body.get rfl) = true := by kernel_rfl
theorem xe_laws_markByteSS (t0 t1 : Value) (m : Mem) : ex CT cf_laws_markByteSS Try.f61 2 m.length LL_laws_markByteSS (J_laws_markByteSS m.length QQ) 400 [.code (Try.f61.body.get rfl)] (argsT 0 [t0, t1]) m = X_laws_markByteSS [t0, t1] m := by kernel_rfl
theorem okc_laws_markByteSS : CallOK CT cf_laws_markByteSS := cfc_ok ok_C_laws_markByteS cfn_ok
theorem le_laws_markByteSS_0 (k q : Nat) (t0 t1 t5 : Value) (m : Mem) : ex CT cf_laws_markByteSS Try.f61 2 k LL_laws_markByteSS (J_laws_markByteSS k q) 400 (atLoop Try.f61 0) [(0, t0), (1, t1), (5, t5)] m = J_laws_markByteSS k (q + 1) 2 [t0, t1, t5] m := by kernel_rfl
theorem gl_laws_markByteSS (k : Nat) : ∀ q i, i < 1 → GoodL CT k Try.f61 LL_laws_markByteSS (J_laws_markByteSS k q) (atLoop Try.f61 i)
  | 0, 0, _ => goodL_zero (l := 2) (by kernel_rfl) (fun vs m => by kernel_rfl)
  | 0, _ + 1, h => absurd h (by omega)
  | q + 1, 0, _ => goodL_succ (np := 2) (l := 2) (live := [0, 1, 5]) (n := 1) CT_ok rfl okc_laws_markByteSS (c := (Try.f61.body.get rfl)) rfl cok_laws_markByteSS (by kernel_rfl) (gl_laws_markByteSS k q) (by kernel_rfl) rfl (fun vs m r hl h => match vs, hl with
    | [t0, t1, t5], _ => (le_laws_markByteSS_0 k q t0 t1 t5 m).trans h)
  | _ + 1, _ + 1, h => absurd h (by omega)
theorem ok_X_laws_markByteSS : OkX CT 61 X_laws_markByteSS := OkX.of_ex (cf := cf_laws_markByteSS) (np := 2) (LL := LL_laws_markByteSS) (J := (fun k => J_laws_markByteSS k QQ)) CT_ok rfl Try.func61 rfl (Nat.le_of_ble_eq_true rfl) (by decide) cok_laws_markByteSS okc_laws_markByteSS (fun k => allLoops rfl (by kernel_rfl) (gl_laws_markByteSS k QQ)) (fun args m r h => match args, h with
    | [t0, t1], h => ⟨rfl, (xe_laws_markByteSS t0 t1 m).trans h⟩)
theorem ok_C_laws_markByteSS : OkC CT 61 C_laws_markByteSS := rcall_ok rfl ok_X_laws_markByteSS

/-! ### laws.markBytesResult -/
noncomputable def cf_laws_markBytesResult : CallF := cfc 131 C_laws_markByteS cfn
noncomputable def X_laws_markBytesResult : List Value → Mem → Option VM
  | [t0, t1], m =>
    (boxX m t0) |> bo fun r1 =>
    (fadX 1 r1.1) |> bo fun t5 =>
    (ld1 r1.2 t5) |> bo fun t6 =>
    (C_laws_markByteS [t6, t1] r1.2) |> bo fun r4 =>
    retK m.length r4.2 [t0, r4.1] r4.1
  | _, _ => none
noncomputable def C_laws_markBytesResult : List Value → Mem → Option VM := rcall X_laws_markBytesResult
@[simp] theorem c_laws_markBytesResult : C_laws_markBytesResult = rcall X_laws_markBytesResult := (rfl)
theorem cok_laws_markBytesResult : codeOk CT Try.f62 (Try.f62.body.get rfl) = true := by kernel_rfl
theorem xe_laws_markBytesResult (t0 t1 : Value) (m : Mem) : ex CT cf_laws_markBytesResult Try.f62 2 m.length [] (fun _ _ _ => none) 400 [.code (Try.f62.body.get rfl)] (argsT 0 [t0, t1]) m = X_laws_markBytesResult [t0, t1] m := by kernel_rfl
theorem okc_laws_markBytesResult : CallOK CT cf_laws_markBytesResult := cfc_ok ok_C_laws_markByteS cfn_ok
theorem ok_X_laws_markBytesResult : OkX CT 62 X_laws_markBytesResult := OkX.of_ex (cf := cf_laws_markBytesResult) (np := 2) (LL := []) (J := (fun _ _ _ _ => none)) CT_ok rfl Try.func62 rfl (Nat.le_of_ble_eq_true rfl) (by decide) cok_laws_markBytesResult okc_laws_markBytesResult (fun k => noLoops rfl) (fun args m r h => match args, h with
    | [t0, t1], h => ⟨rfl, (xe_laws_markBytesResult t0 t1 m).trans h⟩)
theorem ok_C_laws_markBytesResult : OkC CT 62 C_laws_markBytesResult := rcall_ok rfl ok_X_laws_markBytesResult

/-! ### laws.heldByteS -/
noncomputable def cf_laws_heldByteS : CallF := cfn
noncomputable def L_laws_heldByteS (k : Nat) : Nat → Nat → List Value → Mem → Option VM
  | q + 1, 0, [t0, t1, t5], m =>
    (lenX t0) |> bo fun t8 =>
    (binX .lss .no t5 t8) |> bo fun t9 =>
    brX t9
      (
        (ixaX 1 t0 t5) |> bo fun t14 =>
        (ld1 m t14) |> bo fun t15 =>
        (cvI .u8 t1) |> bo fun t17 =>
        (binX .neq .no t15 t17) |> bo fun t18 =>
        brX t18
          (
            retK k m [t0, t1] (.int .i64 (-1)))
          (
            (binX .add .no t1 (.int .i64 1)) |> bo fun t20 =>
            (binX .add .no t5 (.int .i64 1)) |> bo fun t11 =>
            cutK k m [t0, t20] [t0, t20, t11] (L_laws_heldByteS k q 0)))
      (
        retK k m [t0, t1] t1)
  | _, _, _, _ => none
noncomputable def J_laws_heldByteS (k q l : Nat) : List Value → Mem → Option VM := cond (Nat.beq l 2) (L_laws_heldByteS k q 0) (fun _ _ => none)
def LL_laws_heldByteS : List (Nat × List Tmp) := [(2, [0, 1, 5])]
noncomputable def X_laws_heldByteS : List Value → Mem → Option VM
  | [t0, t1], m =>
    cutK m.length m [t0, t1] [t0, t1, (.int .i64 0)] (L_laws_heldByteS m.length QQ 0)
  | _, _ => none
noncomputable def C_laws_heldByteS : List Value → Mem → Option VM := fcall X_laws_heldByteS
@[simp] theorem c_laws_heldByteS : C_laws_heldByteS = fcall X_laws_heldByteS := (rfl)
theorem cok_laws_heldByteS : codeOk CT Try.f132 (Try.f132.body.get rfl) = true := by kernel_rfl
theorem xe_laws_heldByteS (t0 t1 : Value) (m : Mem) : ex CT cf_laws_heldByteS Try.f132 2 m.length LL_laws_heldByteS (J_laws_heldByteS m.length QQ) 400 [.code (Try.f132.body.get rfl)] (argsT 0 [t0, t1]) m = X_laws_heldByteS [t0, t1] m := by kernel_rfl
theorem okc_laws_heldByteS : CallOK CT cf_laws_heldByteS := cfn_ok
theorem le_laws_heldByteS_0 (k q : Nat) (t0 t1 t5 : Value) (m : Mem) : ex CT cf_laws_heldByteS Try.f132 2 k LL_laws_heldByteS (J_laws_heldByteS k q) 400 (atLoop Try.f132 0) [(0, t0), (1, t1), (5, t5)] m = J_laws_heldByteS k (q + 1) 2 [t0, t1, t5] m := by kernel_rfl
theorem gl_laws_heldByteS (k : Nat) : ∀ q i, i < 1 → GoodL CT k Try.f132 LL_laws_heldByteS (J_laws_heldByteS k q) (atLoop Try.f132 i)
  | 0, 0, _ => goodL_zero (l := 2) (by kernel_rfl) (fun vs m => by kernel_rfl)
  | 0, _ + 1, h => absurd h (by omega)
  | q + 1, 0, _ => goodL_succ (np := 2) (l := 2) (live := [0, 1, 5]) (n := 1) CT_ok rfl okc_laws_heldByteS (c := (Try.f132.body.get rfl)) rfl cok_laws_heldByteS (by kernel_rfl) (gl_laws_heldByteS k q) (by kernel_rfl) rfl (fun vs m r hl h => match vs, hl with
    | [t0, t1, t5], _ => (le_laws_heldByteS_0 k q t0 t1 t5 m).trans h)
  | _ + 1, _ + 1, h => absurd h (by omega)
theorem ok_X_laws_heldByteS : OkX CT 132 X_laws_heldByteS := OkX.of_ex (cf := cf_laws_heldByteS) (np := 2) (LL := LL_laws_heldByteS) (J := (fun k => J_laws_heldByteS k QQ)) CT_ok rfl Try.func132 rfl (Nat.le_of_ble_eq_true rfl) (by decide) cok_laws_heldByteS okc_laws_heldByteS (fun k => allLoops rfl (by kernel_rfl) (gl_laws_heldByteS k QQ)) (fun args m r h => match args, h with
    | [t0, t1], h => ⟨rfl, (xe_laws_heldByteS t0 t1 m).trans h⟩)
theorem ok_C_laws_heldByteS : OkC CT 132 C_laws_heldByteS := fcall_ok rfl ok_X_laws_heldByteS

/-! ### laws.heldBytesResult -/
noncomputable def cf_laws_heldBytesResult : CallF := cfc 132 C_laws_heldByteS cfn
noncomputable def X_laws_heldBytesResult : List Value → Mem → Option VM
  | [t0, t1], m =>
    (boxX m t0) |> bo fun r1 =>
    (fadX 1 r1.1) |> bo fun t5 =>
    (ld1 r1.2 t5) |> bo fun t6 =>
    (C_laws_heldByteS [t6, t1] r1.2) |> bo fun r4 =>
    (binX .lss .no r4.1 (.int .i64 0)) |> bo fun t10 =>
    brX t10
      (
        retK m.length r4.2 [t0, r4.1] (.int .i64 (-1)))
      (
        retK m.length r4.2 [t0, r4.1] r4.1)
  | _, _ => none
noncomputable def C_laws_heldBytesResult : List Value → Mem → Option VM := fcall X_laws_heldBytesResult
@[simp] theorem c_laws_heldBytesResult : C_laws_heldBytesResult = fcall X_laws_heldBytesResult := (rfl)
theorem cok_laws_heldBytesResult : codeOk CT Try.f63 (Try.f63.body.get rfl) = true := by kernel_rfl
theorem xe_laws_heldBytesResult (t0 t1 : Value) (m : Mem) : ex CT cf_laws_heldBytesResult Try.f63 2 m.length [] (fun _ _ _ => none) 400 [.code (Try.f63.body.get rfl)] (argsT 0 [t0, t1]) m = X_laws_heldBytesResult [t0, t1] m := by kernel_rfl
theorem okc_laws_heldBytesResult : CallOK CT cf_laws_heldBytesResult := cfc_ok ok_C_laws_heldByteS cfn_ok
theorem ok_X_laws_heldBytesResult : OkX CT 63 X_laws_heldBytesResult := OkX.of_ex (cf := cf_laws_heldBytesResult) (np := 2) (LL := []) (J := (fun _ _ _ _ => none)) CT_ok rfl Try.func63 rfl (Nat.le_of_ble_eq_true rfl) (by decide) cok_laws_heldBytesResult okc_laws_heldBytesResult (fun k => noLoops rfl) (fun args m r h => match args, h with
    | [t0, t1], h => ⟨rfl, (xe_laws_heldBytesResult t0 t1 m).trans h⟩)
theorem ok_C_laws_heldBytesResult : OkC CT 63 C_laws_heldBytesResult := fcall_ok rfl ok_X_laws_heldBytesResult

/-! ### laws.FnExactReadBy -/
noncomputable def cf_laws_FnExactReadBy : CallF := cfc 51 C_laws_szEventS (cfc 52 C_laws_szByteSS (cfc 53 C_spec_ReadBy (cfc 54 C_laws_toEventS (cfc 55 C_laws_toByteSS (cfc 56 C_impl_ReadBy (cfc 57 C_laws_eqBytesResult (cfc 58 C_laws_eqEventS (cfc 59 C_laws_eqByteSS (cfc 60 C_laws_markEventS (cfc 61 C_laws_markByteSS (cfc 62 C_laws_markBytesResult (cfc 63 C_laws_heldBytesResult cfn))))))))))))
noncomputable def X_laws_FnExactReadBy : List Value → Mem → Option VM
  | [t0, t1, t2], m =>
    (C_laws_szEventS [t0, (.int .i64 1048576)] m) |> bo fun r1 =>
    (binX .lss .no r1.1 (.int .i64 0)) |> bo fun t20 =>
    brX t20
      (
        retK m.length r1.2 [t0, t1, t2] (.bool true))
      (
        (C_laws_szByteSS [t1, r1.1] r1.2) |> bo fun r3 =>
        (binX .lss .no r3.1 (.int .i64 0)) |> bo fun t25 =>
        brX t25
          (
            retK m.length r3.2 [t0, t1, t2] (.bool true))
          (
            (C_laws_toEventS [t0] r3.2) |> bo fun r5 =>
            (C_laws_toByteSS [t1] r5.2) |> bo fun r6 =>
            (C_spec_ReadBy [r5.1, r6.1, t2] r6.2) |> bo fun r7 =>
            (alX r7.2 [.int .i64 0, .slice none 0 0]) |> bo fun r8 =>
            (stX r8.2 2 r8.1 r7.1) |> bo fun m9 =>
            (C_laws_toEventS [t0] m9) |> bo fun r10 =>
            (C_laws_toByteSS [t1] r10.2) |> bo fun r11 =>
            (C_impl_ReadBy [r10.1, r11.1, t2] r11.2) |> bo fun r12 =>
            (alX r12.2 [.int .i64 0, .slice none 0 0]) |> bo fun r13 =>
            (stX r13.2 2 r13.1 r12.1) |> bo fun m14 =>
            (ldS m14 2 r13.1) |> bo fun t40 =>
            (ldS m14 2 r8.1) |> bo fun t41 =>
            (C_laws_eqBytesResult [t40, t41] m14) |> bo fun r17 =>
            (uop .not r17.1) |> bo fun t43 =>
            brX t43
              (
                retK m.length r17.2 [t0, t1, t2] (.bool false))
              (
                (C_laws_toEventS [t0] r17.2) |> bo fun r19 =>
                (C_laws_eqEventS [r10.1, r19.1] r19.2) |> bo fun r20 =>
                (uop .not r20.1) |> bo fun t48 =>
                brX t48
                  (
                    retK m.length r20.2 [t0, t1, t2] (.bool false))
                  (
                    (C_laws_toByteSS [t1] r20.2) |> bo fun r22 =>
                    (C_laws_eqByteSS [r11.1, r22.1] r22.2) |> bo fun r23 =>
                    (uop .not r23.1) |> bo fun t53 =>
                    brX t53
                      (
                        retK m.length r23.2 [t0, t1, t2] (.bool false))
                      (
                        (C_laws_markEventS [r10.1, (.int .i64 1)] r23.2) |> bo fun r25 =>
                        (C_laws_markByteSS [r11.1, r25.1] r25.2) |> bo fun r26 =>
                        (binX .lss .no r26.1 (.int .i64 0)) |> bo fun t61 =>
                        (gd t61 false ((ldS r26.2 2 r13.1) |> bo fun v => some (v, r26.2)) r26.2) |> bo fun r28 =>
                        (gd t61 false ((ldS r28.2 2 r8.1) |> bo fun v => some (v, r28.2)) r28.2) |> bo fun r29 =>
                        (gd t61 false ((C_laws_eqBytesResult [r28.1, r29.1] r29.2) |> bo fun r => some (r.1, r.2)) r29.2) |> bo fun r30 =>
                        (gd t61 false ((uop .not r30.1) |> bo fun v => some (v, r30.2)) r30.2) |> bo fun r31 =>
                        (pickX t61 (.bool true) r31.1) |> bo fun t67 =>
                        brX t67
                          (
                            retK m.length r31.2 [t0, t1, t2] (.bool false))
                          (
                            (ldS r31.2 2 r13.1) |> bo fun t68 =>
                            (C_laws_markBytesResult [t68, (.int .i64 1)] r31.2) |> bo fun r34 =>
                            (ldS r34.2 2 r13.1) |> bo fun t71 =>
                            (C_laws_heldBytesResult [t71, (.int .i64 1)] r34.2) |> bo fun r36 =>
                            (binX .lss .no r36.1 (.int .i64 0)) |> bo fun t75 =>
                            brX t75
                              (
                                retK m.length r36.2 [t0, t1, t2] (.bool false))
                              (
                                (binX .neq .no r36.1 r34.1) |> bo fun t78 =>
                                brX t78
                                  (
                                    retK m.length r36.2 [t0, t1, t2] (.bool false))
                                  (
                                    (C_laws_toEventS [t0] r36.2) |> bo fun r39 =>
                                    (C_laws_toByteSS [t1] r39.2) |> bo fun r40 =>
                                    (C_impl_ReadBy [r39.1, r40.1, t2] r40.2) |> bo fun r41 =>
                                    (alX r41.2 [.int .i64 0, .slice none 0 0]) |> bo fun r42 =>
                                    (stX r42.2 2 r42.1 r41.1) |> bo fun m43 =>
                                    (ldS m43 2 r42.1) |> bo fun t85 =>
                                    (ldS m43 2 r8.1) |> bo fun t86 =>
                                    (C_laws_eqBytesResult [t85, t86] m43) |> bo fun r46 =>
                                    (uop .not r46.1) |> bo fun t88 =>
                                    brX t88
                                      (
                                        retK m.length r46.2 [t0, t1, t2] (.bool false))
                                      (
                                        (ldS r46.2 2 r13.1) |> bo fun t89 =>
                                        (C_laws_heldBytesResult [t89, (.int .i64 1)] r46.2) |> bo fun r49 =>
                                        (binX .lss .no r49.1 (.int .i64 0)) |> bo fun t93 =>
                                        brX t93
                                          (
                                            retK m.length r49.2 [t0, t1, t2] (.bool false))
                                          (
                                            (binX .neq .no r49.1 r34.1) |> bo fun t96 =>
                                            brX t96
                                              (
                                                retK m.length r49.2 [t0, t1, t2] (.bool false))
                                              (
                                                retK m.length r49.2 [t0, t1, t2] (.bool true))))))))))))
  | _, _ => none
noncomputable def C_laws_FnExactReadBy : List Value → Mem → Option VM := fcall X_laws_FnExactReadBy
@[simp] theorem c_laws_FnExactReadBy : C_laws_FnExactReadBy = fcall X_laws_FnExactReadBy := (rfl)
theorem cok_laws_FnExactReadBy : codeOk CT Try.f8 (Try.f8.body.get rfl) = true := by kernel_rfl
theorem xe_laws_FnExactReadBy (t0 t1 t2 : Value) (m : Mem) : ex CT cf_laws_FnExactReadBy Try.f8 3 m.length [] (fun _ _ _ => none) 400 [.code (Try.f8.body.get rfl)] (argsT 0 [t0, t1, t2]) m = X_laws_FnExactReadBy [t0, t1, t2] m := by kernel_rfl
theorem okc_laws_FnExactReadBy : CallOK CT cf_laws_FnExactReadBy := cfc_ok ok_C_laws_szEventS (cfc_ok ok_C_laws_szByteSS (cfc_ok ok_C_spec_ReadBy (cfc_ok ok_C_laws_toEventS (cfc_ok ok_C_laws_toByteSS (cfc_ok ok_C_impl_ReadBy (cfc_ok ok_C_laws_eqBytesResult (cfc_ok ok_C_laws_eqEventS (cfc_ok ok_C_laws_eqByteSS (cfc_ok ok_C_laws_markEventS (cfc_ok ok_C_laws_markByteSS (cfc_ok ok_C_laws_markBytesResult (cfc_ok ok_C_laws_heldBytesResult cfn_ok))))))))))))
theorem ok_X_laws_FnExactReadBy : OkX CT 8 X_laws_FnExactReadBy := OkX.of_ex (cf := cf_laws_FnExactReadBy) (np := 3) (LL := []) (J := (fun _ _ _ _ => none)) CT_ok rfl Try.func8 rfl (Nat.le_of_ble_eq_true rfl) (by decide) cok_laws_FnExactReadBy okc_laws_FnExactReadBy (fun k => noLoops rfl) (fun args m r h => match args, h with
    | [t0, t1, t2], h => ⟨rfl, (xe_laws_FnExactReadBy t0 t1 t2 m).trans h⟩)
theorem ok_C_laws_FnExactReadBy : OkC CT 8 C_laws_FnExactReadBy := fcall_ok rfl ok_X_laws_FnExactReadBy

end Go.Ab
