/- Plain forms of functions, printed by gen.py. -/
import Derived.Test.YtkfbpdbopkdnjaaCf3
import Derived.Test.YtkfbpdbopkdnjaaFC
import Derived.Test.YtkfbpdbopkdnjaaFD
set_option linter.unusedVariables false
set_option linter.unusedSimpArgs false
namespace Go.Ab
open Go.Proofs
set_option maxRecDepth 100000
set_option linter.unusedVariables false
/-! ### laws.szInt64S -/
noncomputable def cf_laws_szInt64S : CallF := cfn
noncomputable def X_laws_szInt64S : List Value → Mem → Option VM
  | [t0, t1], m =>
    (lenX t0) |> bo fun t7 =>
    (binX .sub .no t1 t7) |> bo fun t8 =>
    (binX .lss .no t8 (.int .i64 0)) |> bo fun t10 =>
    brX t10
      (
        retK m.length m [t0, t8] (.int .i64 (-1)))
      (
        retK m.length m [t0, t8] t8)
  | _, _ => none
noncomputable def C_laws_szInt64S : List Value → Mem → Option VM := fcall X_laws_szInt64S
@[simp] theorem c_laws_szInt64S : C_laws_szInt64S = fcall X_laws_szInt64S := (rfl)
theorem cok_laws_szInt64S : codeOk CT Try.f107 (Try.f107.body.get rfl) = true := by kernel_rfl
theorem xe_laws_szInt64S (t0 t1 : Value) (m : Mem) : ex CT cf_laws_szInt64S Try.f107 2 m.length [] (fun _ _ _ => none) 400 [.code (Try.f107.body.get rfl)] (argsT 0 [t0, t1]) m = X_laws_szInt64S [t0, t1] m := by kernel_rfl
theorem okc_laws_szInt64S : CallOK CT cf_laws_szInt64S := cfn_ok
theorem ok_X_laws_szInt64S : OkX CT 107 X_laws_szInt64S := OkX.of_ex (cf := cf_laws_szInt64S) (np := 2) (LL := []) (J := (fun _ _ _ _ => none)) CT_ok rfl Try.func107 rfl (Nat.le_of_ble_eq_true rfl) (by decide) cok_laws_szInt64S okc_laws_szInt64S (fun k => noLoops rfl) (fun args m r h => match args, h with
    | [t0, t1], h => ⟨rfl, (xe_laws_szInt64S t0 t1 m).trans h⟩)
theorem ok_C_laws_szInt64S : OkC CT 107 C_laws_szInt64S := fcall_ok rfl ok_X_laws_szInt64S

/-! ### laws.szParser -/
noncomputable def cf_laws_szParser : CallF := cfc 107 C_laws_szInt64S cfn
noncomputable def X_laws_szParser : List Value → Mem → Option VM
  | [t0, t1], m =>
    (boxX m t0) |> bo fun r1 =>
    (fadX 3 r1.1) |> bo fun t5 =>
    (ld1 r1.2 t5) |> bo fun t6 =>
    (C_laws_szInt64S [t6, t1] r1.2) |> bo fun r4 =>
    (binX .lss .no r4.1 (.int .i64 0)) |> bo fun t10 =>
    brX t10
      (
        retK m.length r4.2 [t0, r4.1] (.int .i64 (-1)))
      (
        retK m.length r4.2 [t0, r4.1] r4.1)
  | _, _ => none
noncomputable def C_laws_szParser : List Value → Mem → Option VM := fcall X_laws_szParser
@[simp] theorem c_laws_szParser : C_laws_szParser = fcall X_laws_szParser := (rfl)
theorem cok_laws_szParser : codeOk CT Try.f27 (Try.f27.body.get rfl) = true := by kernel_rfl
theorem xe_laws_szParser (t0 t1 : Value) (m : Mem) : ex CT cf_laws_szParser Try.f27 2 m.length [] (fun _ _ _ => none) 400 [.code (Try.f27.body.get rfl)] (argsT 0 [t0, t1]) m = X_laws_szParser [t0, t1] m := by kernel_rfl
theorem okc_laws_szParser : CallOK CT cf_laws_szParser := cfc_ok ok_C_laws_szInt64S cfn_ok
theorem ok_X_laws_szParser : OkX CT 27 X_laws_szParser := OkX.of_ex (cf := cf_laws_szParser) (np := 2) (LL := []) (J := (fun _ _ _ _ => none)) CT_ok rfl Try.func27 rfl (Nat.le_of_ble_eq_true rfl) (by decide) cok_laws_szParser okc_laws_szParser (fun k => noLoops rfl) (fun args m r h => match args, h with
    | [t0, t1], h => ⟨rfl, (xe_laws_szParser t0 t1 m).trans h⟩)
theorem ok_C_laws_szParser : OkC CT 27 C_laws_szParser := fcall_ok rfl ok_X_laws_szParser

/-! ### laws.toInt64S -/
noncomputable def cf_laws_toInt64S : CallF := cfn
noncomputable def L_laws_toInt64S (k : Nat) : Nat → Nat → List Value → Mem → Option VM
  | q + 1, 0, [t0, t3, t4], m =>
    (lenX t0) |> bo fun t10 =>
    (binX .lss .no t4 t10) |> bo fun t11 =>
    brX t11
      (
        (ixaX 1 t0 t4) |> bo fun t18 =>
        (ld1 m t18) |> bo fun t19 =>
        (ixaX 1 t3 t4) |> bo fun t20 =>
        (stX m 1 t20 t19) |> bo fun m6 =>
        (binX .add .no t4 (.int .i64 1)) |> bo fun t13 =>
        cutK k m6 [t0] [t0, t3, t13] (L_laws_toInt64S k q 0))
      (
        retK k m [t0] t3)
  | _, _, _, _ => none
noncomputable def J_laws_toInt64S (k q l : Nat) : List Value → Mem → Option VM := cond (Nat.beq l 3) (L_laws_toInt64S k q 0) (fun _ _ => none)
def LL_laws_toInt64S : List (Nat × List Tmp) := [(3, [0, 3, 4])]
noncomputable def X_laws_toInt64S : List Value → Mem → Option VM
  | [t0], m =>
    (lenX t0) |> bo fun t6 =>
    (mkX m 1 8 [.int .i64 0] t6 t6) |> bo fun r2 =>
    cutK m.length r2.2 [t0] [t0, r2.1, (.int .i64 0)] (L_laws_toInt64S m.length QQ 0)
  | _, _ => none
noncomputable def C_laws_toInt64S : List Value → Mem → Option VM := fcall X_laws_toInt64S
@[simp] theorem c_laws_toInt64S : C_laws_toInt64S = fcall X_laws_toInt64S := (rfl)
theorem cok_laws_toInt64S : codeOk CT Try.f35 (Try.f35.body.get rfl) = true := by kernel_rfl
theorem xe_laws_toInt64S (t0 : Value) (m : Mem) : ex CT cf_laws_toInt64S Try.f35 1 m.length LL_laws_toInt64S (J_laws_toInt64S m.length QQ) 400 [.code (Try.f35.body.get rfl)] (argsT 0 [t0]) m = X_laws_toInt64S [t0] m := by kernel_rfl
theorem okc_laws_toInt64S : CallOK CT cf_laws_toInt64S := cfn_ok
theorem le_laws_toInt64S_0 (k q : Nat) (t0 t3 t4 : Value) (m : Mem) : ex CT cf_laws_toInt64S Try.f35 1 k LL_laws_toInt64S (J_laws_toInt64S k q) 400 (atLoop Try.f35 0) [(0, t0), (3, t3), (4, t4)] m = J_laws_toInt64S k (q + 1) 3 [t0, t3, t4] m := by kernel_rfl
theorem gl_laws_toInt64S (k : Nat) : ∀ q i, i < 1 → GoodL CT k Try.f35 LL_laws_toInt64S (J_laws_toInt64S k q) (atLoop Try.f35 i)
  | 0, 0, _ => goodL_zero (l := 3) (by kernel_rfl) (fun vs m => by kernel_rfl)
  | 0, _ + 1, h => absurd h (by omega)
  | q + 1, 0, _ => goodL_succ (np := 1) (l := 3) (live := [0, 3, 4]) (n := 1) CT_ok rfl okc_laws_toInt64S (c := (Try.f35.body.get rfl)) rfl cok_laws_toInt64S (by kernel_rfl) (gl_laws_toInt64S k q) (by kernel_rfl) rfl (fun vs m r hl h => match vs, hl with
    | [t0, t3, t4], _ => (le_laws_toInt64S_0 k q t0 t3 t4 m).trans h)
  | _ + 1, _ + 1, h => absurd h (by omega)
theorem ok_X_laws_toInt64S : OkX CT 35 X_laws_toInt64S := OkX.of_ex (cf := cf_laws_toInt64S) (np := 1) (LL := LL_laws_toInt64S) (J := (fun k => J_laws_toInt64S k QQ)) CT_ok rfl Try.func35 rfl (Nat.le_of_ble_eq_true rfl) (by decide) cok_laws_toInt64S okc_laws_toInt64S (fun k => allLoops rfl (by kernel_rfl) (gl_laws_toInt64S k QQ)) (fun args m r h => match args, h with
    | [t0], h => ⟨rfl, (xe_laws_toInt64S t0 m).trans h⟩)
theorem ok_C_laws_toInt64S : OkC CT 35 C_laws_toInt64S := fcall_ok rfl ok_X_laws_toInt64S

/-! ### laws.toParser -/
noncomputable def cf_laws_toParser : CallF := cfc 35 C_laws_toInt64S cfn
noncomputable def X_laws_toParser : List Value → Mem → Option VM
  | [t0], m =>
    (boxX m t0) |> bo fun r1 =>
    (alX r1.2 [.int .i64 0, .int .i64 0, .bool false, .slice none 0 0]) |> bo fun r2 =>
    (alX r2.2 [.int .i64 0, .int .i64 0, .bool false, .slice none 0 0]) |> bo fun r3 =>
    (fadX 0 r1.1) |> bo fun t4 =>
    (ld1 r3.2 t4) |> bo fun t5 =>
    (fadX 0 r3.1) |> bo fun t6 =>
    (stX r3.2 1 t6 t5) |> bo fun m7 =>
    (fadX 1 r1.1) |> bo fun t7 =>
    (ld1 m7 t7) |> bo fun t8 =>
    (fadX 1 r3.1) |> bo fun t9 =>
    (stX m7 1 t9 t8) |> bo fun m11 =>
    (fadX 2 r1.1) |> bo fun t10 =>
    (ld1 m11 t10) |> bo fun t11 =>
    (fadX 2 r3.1) |> bo fun t12 =>
    (stX m11 1 t12 t11) |> bo fun m15 =>
    (fadX 3 r1.1) |> bo fun t13 =>
    (ld1 m15 t13) |> bo fun t14 =>
    (C_laws_toInt64S [t14] m15) |> bo fun r18 =>
    (fadX 3 r3.1) |> bo fun t16 =>
    (stX r18.2 1 t16 r18.1) |> bo fun m20 =>
    (ldS m20 4 r3.1) |> bo fun t17 =>
    (stX m20 4 r2.1 t17) |> bo fun m22 =>
    (resP (some 4) m22 r2.1) |> bo fun c23 =>
    retK m.length m22 [t0] c23
  | _, _ => none
noncomputable def C_laws_toParser : List Value → Mem → Option VM := fcall X_laws_toParser
@[simp] theorem c_laws_toParser : C_laws_toParser = fcall X_laws_toParser := (rfl)
theorem cok_laws_toParser : codeOk CT Try.f28 (Try.f28.body.get rfl) = true := by kernel_rfl
theorem xe_laws_toParser (t0 : Value) (m : Mem) : ex CT cf_laws_toParser Try.f28 1 m.length [] (fun _ _ _ => none) 400 [.code (Try.f28.body.get rfl)] (argsT 0 [t0]) m = X_laws_toParser [t0] m := by kernel_rfl
theorem okc_laws_toParser : CallOK CT cf_laws_toParser := cfc_ok ok_C_laws_toInt64S cfn_ok
theorem ok_X_laws_toParser : OkX CT 28 X_laws_toParser := OkX.of_ex (cf := cf_laws_toParser) (np := 1) (LL := []) (J := (fun _ _ _ _ => none)) CT_ok rfl Try.func28 rfl (Nat.le_of_ble_eq_true rfl) (by decide) cok_laws_toParser okc_laws_toParser (fun k => noLoops rfl) (fun args m r h => match args, h with
    | [t0], h => ⟨rfl, (xe_laws_toParser t0 m).trans h⟩)
theorem ok_C_laws_toParser : OkC CT 28 C_laws_toParser := fcall_ok rfl ok_X_laws_toParser

/-! ### laws.eqInt64S -/
noncomputable def cf_laws_eqInt64S : CallF := cfn
noncomputable def L_laws_eqInt64S (k : Nat) : Nat → Nat → List Value → Mem → Option VM
  | q + 1, 0, [t0, t1, t5], m =>
    (lenX t0) |> bo fun t13 =>
    (binX .lss .no t5 t13) |> bo fun t14 =>
    brX t14
      (
        (ixaX 1 t0 t5) |> bo fun t19 =>
        (ld1 m t19) |> bo fun t20 =>
        (ixaX 1 t1 t5) |> bo fun t23 =>
        (ld1 m t23) |> bo fun t24 =>
        (binX .neq .no t20 t24) |> bo fun t25 =>
        brX t25
          (
            retK k m [t0, t1] (.bool false))
          (
            (binX .add .no t5 (.int .i64 1)) |> bo fun t16 =>
            cutK k m [t0, t1] [t0, t1, t16] (L_laws_eqInt64S k q 0)))
      (
        retK k m [t0, t1] (.bool true))
  | _, _, _, _ => none
noncomputable def J_laws_eqInt64S (k q l : Nat) : List Value → Mem → Option VM := cond (Nat.beq l 4) (L_laws_eqInt64S k q 0) (fun _ _ => none)
def LL_laws_eqInt64S : List (Nat × List Tmp) := [(4, [0, 1, 5])]
noncomputable def X_laws_eqInt64S : List Value → Mem → Option VM
  | [t0, t1], m =>
    (lenX t0) |> bo fun t7 =>
    (lenX t1) |> bo fun t9 =>
    (binX .neq .no t7 t9) |> bo fun t10 =>
    brX t10
      (
        retK m.length m [t0, t1] (.bool false))
      (
        cutK m.length m [t0, t1] [t0, t1, (.int .i64 0)] (L_laws_eqInt64S m.length QQ 0))
  | _, _ => none
noncomputable def C_laws_eqInt64S : List Value → Mem → Option VM := fcall X_laws_eqInt64S
@[simp] theorem c_laws_eqInt64S : C_laws_eqInt64S = fcall X_laws_eqInt64S := (rfl)
theorem cok_laws_eqInt64S : codeOk CT Try.f38 (Try.f38.body.get rfl) = true := by kernel_rfl
theorem xe_laws_eqInt64S (t0 t1 : Value) (m : Mem) : ex CT cf_laws_eqInt64S Try.f38 2 m.length LL_laws_eqInt64S (J_laws_eqInt64S m.length QQ) 400 [.code (Try.f38.body.get rfl)] (argsT 0 [t0, t1]) m = X_laws_eqInt64S [t0, t1] m := by kernel_rfl
theorem okc_laws_eqInt64S : CallOK CT cf_laws_eqInt64S := cfn_ok
theorem le_laws_eqInt64S_0 (k q : Nat) (t0 t1 t5 : Value) (m : Mem) : ex CT cf_laws_eqInt64S Try.f38 2 k LL_laws_eqInt64S (J_laws_eqInt64S k q) 400 (atLoop Try.f38 0) [(0, t0), (1, t1), (5, t5)] m = J_laws_eqInt64S k (q + 1) 4 [t0, t1, t5] m := by kernel_rfl
theorem gl_laws_eqInt64S (k : Nat) : ∀ q i, i < 1 → GoodL CT k Try.f38 LL_laws_eqInt64S (J_laws_eqInt64S k q) (atLoop Try.f38 i)
  | 0, 0, _ => goodL_zero (l := 4) (by kernel_rfl) (fun vs m => by kernel_rfl)
  | 0, _ + 1, h => absurd h (by omega)
  | q + 1, 0, _ => goodL_succ (np := 2) (l := 4) (live := [0, 1, 5]) (n := 1) CT_ok rfl okc_laws_eqInt64S (c := (Try.f38.body.get rfl)) rfl cok_laws_eqInt64S (by kernel_rfl) (gl_laws_eqInt64S k q) (by kernel_rfl) rfl (fun vs m r hl h => match vs, hl with
    | [t0, t1, t5], _ => (le_laws_eqInt64S_0 k q t0 t1 t5 m).trans h)
  | _ + 1, _ + 1, h => absurd h (by omega)
theorem ok_X_laws_eqInt64S : OkX CT 38 X_laws_eqInt64S := OkX.of_ex (cf := cf_laws_eqInt64S) (np := 2) (LL := LL_laws_eqInt64S) (J := (fun k => J_laws_eqInt64S k QQ)) CT_ok rfl Try.func38 rfl (Nat.le_of_ble_eq_true rfl) (by decide) cok_laws_eqInt64S okc_laws_eqInt64S (fun k => allLoops rfl (by kernel_rfl) (gl_laws_eqInt64S k QQ)) (fun args m r h => match args, h with
    | [t0, t1], h => ⟨rfl, (xe_laws_eqInt64S t0 t1 m).trans h⟩)
theorem ok_C_laws_eqInt64S : OkC CT 38 C_laws_eqInt64S := fcall_ok rfl ok_X_laws_eqInt64S

/-! ### laws.eqParser -/
noncomputable def cf_laws_eqParser : CallF := cfc 38 C_laws_eqInt64S cfn
noncomputable def X_laws_eqParser : List Value → Mem → Option VM
  | [t0, t1], m =>
    (boxX m t0) |> bo fun r1 =>
    (boxX r1.2 t1) |> bo fun r2 =>
    (fadX 0 r1.1) |> bo fun t5 =>
    (ld1 r2.2 t5) |> bo fun t6 =>
    (fadX 0 r2.1) |> bo fun t7 =>
    (ld1 r2.2 t7) |> bo fun t8 =>
    (binX .neq .no t6 t8) |> bo fun t9 =>
    brX t9
      (
        retK m.length r2.2 [t0, t1] (.bool false))
      (
        (fadX 1 r1.1) |> bo fun t10 =>
        (ld1 r2.2 t10) |> bo fun t11 =>
        (fadX 1 r2.1) |> bo fun t12 =>
        (ld1 r2.2 t12) |> bo fun t13 =>
        (binX .neq .no t11 t13) |> bo fun t14 =>
        brX t14
          (
            retK m.length r2.2 [t0, t1] (.bool false))
          (
            (fadX 2 r1.1) |> bo fun t15 =>
            (ld1 r2.2 t15) |> bo fun t16 =>
            (fadX 2 r2.1) |> bo fun t17 =>
            (ld1 r2.2 t17) |> bo fun t18 =>
            (binX .neq .bool t16 t18) |> bo fun t19 =>
            brX t19
              (
                retK m.length r2.2 [t0, t1] (.bool false))
              (
                (fadX 3 r1.1) |> bo fun t20 =>
                (ld1 r2.2 t20) |> bo fun t21 =>
                (fadX 3 r2.1) |> bo fun t22 =>
                (ld1 r2.2 t22) |> bo fun t23 =>
                (C_laws_eqInt64S [t21, t23] r2.2) |> bo fun r22 =>
                (uop .not r22.1) |> bo fun t25 =>
                brX t25
                  (
                    retK m.length r22.2 [t0, t1] (.bool false))
                  (
                    retK m.length r22.2 [t0, t1] (.bool true)))))
  | _, _ => none
noncomputable def C_laws_eqParser : List Value → Mem → Option VM := fcall X_laws_eqParser
@[simp] theorem c_laws_eqParser : C_laws_eqParser = fcall X_laws_eqParser := (rfl)
theorem cok_laws_eqParser : codeOk CT Try.f30 (Try.f30.body.get rfl) = true := by kernel_rfl
theorem xe_laws_eqParser (t0 t1 : Value) (m : Mem) : ex CT cf_laws_eqParser Try.f30 2 m.length [] (fun _ _ _ => none) 400 [.code (Try.f30.body.get rfl)] (argsT 0 [t0, t1]) m = X_laws_eqParser [t0, t1] m := by kernel_rfl
theorem okc_laws_eqParser : CallOK CT cf_laws_eqParser := cfc_ok ok_C_laws_eqInt64S cfn_ok
theorem ok_X_laws_eqParser : OkX CT 30 X_laws_eqParser := OkX.of_ex (cf := cf_laws_eqParser) (np := 2) (LL := []) (J := (fun _ _ _ _ => none)) CT_ok rfl Try.func30 rfl (Nat.le_of_ble_eq_true rfl) (by decide) cok_laws_eqParser okc_laws_eqParser (fun k => noLoops rfl) (fun args m r h => match args, h with
    | [t0, t1], h => ⟨rfl, (xe_laws_eqParser t0 t1 m).trans h⟩)
theorem ok_C_laws_eqParser : OkC CT 30 C_laws_eqParser := fcall_ok rfl ok_X_laws_eqParser

/-! ### laws.markInt64S -/
noncomputable def cf_laws_markInt64S : CallF := cfn
noncomputable def L_laws_markInt64S (k : Nat) : Nat → Nat → List Value → Mem → Option VM
  | q + 1, 0, [t0, t1, t5], m =>
    (lenX t0) |> bo fun t8 =>
    (binX .lss .no t5 t8) |> bo fun t9 =>
    brX t9
      (
        (ixaX 1 t0 t5) |> bo fun t15 =>
        (stX m 1 t15 t1) |> bo fun m4 =>
        (binX .add .no t1 (.int .i64 1)) |> bo fun t17 =>
        (binX .add .no t5 (.int .i64 1)) |> bo fun t11 =>
        cutK k m4 [t0, t17] [t0, t17, t11] (L_laws_markInt64S k q 0))
      (
        retK k m [t0, t1] t1)
  | _, _, _, _ => none
noncomputable def J_laws_markInt64S (k q l : Nat) : List Value → Mem → Option VM := cond (Nat.beq l 2) (L_laws_markInt64S k q 0) (fun _ _ => none)
def LL_laws_markInt64S : List (Nat × List Tmp) := [(2, [0, 1, 5])]
noncomputable def X_laws_markInt64S : List Value → Mem → Option VM
  | [t0, t1], m =>
    cutK m.length m [t0, t1] [t0, t1, (.int .i64 0)] (L_laws_markInt64S m.length QQ 0)
  | _, _ => none
noncomputable def C_laws_markInt64S : List Value → Mem → Option VM := rcall X_laws_markInt64S
@[simp] theorem c_laws_markInt64S : C_laws_markInt64S = rcall X_laws_markInt64S := (rfl)
theorem cok_laws_markInt64S : codeOk CT Try.f39 (Try.f39.body.get rfl) = true := by kernel_rfl
theorem xe_laws_markInt64S (t0 t1 : Value) (m : Mem) : ex CT cf_laws_markInt64S Try.f39 2 m.length LL_laws_markInt64S (J_laws_markInt64S m.length QQ) 400 [.code (Try.f39.body.get rfl)] (argsT 0 [t0, t1]) m = X_laws_markInt64S [t0, t1] m := by kernel_rfl
theorem okc_laws_markInt64S : CallOK CT cf_laws_markInt64S := cfn_ok
theorem le_laws_markInt64S_0 (k q : Nat) (t0 t1 t5 : Value) (m : Mem) : ex CT cf_laws_markInt64S Try.f39 2 k LL_laws_markInt64S (J_laws_markInt64S k q) 400 (atLoop Try.f39 0) [(0, t0), (1, t1), (5, t5)] m = J_laws_markInt64S k (q + 1) 2 [t0, t1, t5] m := by kernel_rfl
theorem gl_laws_markInt64S (k : Nat) : ∀ q i, i < 1 → GoodL CT k Try.f39 LL_laws_markInt64S (J_laws_markInt64S k q) (atLoop Try.f39 i)
  | 0, 0, _ => goodL_zero (l := 2) (by kernel_rfl) (fun vs m => by kernel_rfl)
  | 0, _ + 1, h => absurd h (by omega)
  | q + 1, 0, _ => goodL_succ (np := 2) (l := 2) (live := [0, 1, 5]) (n := 1) CT_ok rfl okc_laws_markInt64S (c := (Try.f39.body.get rfl)) rfl cok_laws_markInt64S (by kernel_rfl) (gl_laws_markInt64S k q) (by kernel_rfl) rfl (fun vs m r hl h => match vs, hl with
    | [t0, t1, t5], _ => (le_laws_markInt64S_0 k q t0 t1 t5 m).trans h)
  | _ + 1, _ + 1, h => absurd h (by omega)
theorem ok_X_laws_markInt64S : OkX CT 39 X_laws_markInt64S := OkX.of_ex (cf := cf_laws_markInt64S) (np := 2) (LL := LL_laws_markInt64S) (J := (fun k => J_laws_markInt64S k QQ)) CT_ok rfl Try.func39 rfl (Nat.le_of_ble_eq_true rfl) (by decide) cok_laws_markInt64S okc_laws_markInt64S (fun k => allLoops rfl (by kernel_rfl) (gl_laws_markInt64S k QQ)) (fun args m r h => match args, h with
    | [t0, t1], h => ⟨rfl, (xe_laws_markInt64S t0 t1 m).trans h⟩)
theorem ok_C_laws_markInt64S : OkC CT 39 C_laws_markInt64S := rcall_ok rfl ok_X_laws_markInt64S

/-! ### laws.markParser -/
noncomputable def cf_laws_markParser : CallF := cfc 39 C_laws_markInt64S cfn
noncomputable def X_laws_markParser : List Value → Mem → Option VM
  | [t0, t1], m =>
    (boxX m t0) |> bo fun r1 =>
    (fadX 3 r1.1) |> bo fun t5 =>
    (ld1 r1.2 t5) |> bo fun t6 =>
    (C_laws_markInt64S [t6, t1] r1.2) |> bo fun r4 =>
    retK m.length r4.2 [t0, r4.1] r4.1
  | _, _ => none
noncomputable def C_laws_markParser : List Value → Mem → Option VM := rcall X_laws_markParser
@[simp] theorem c_laws_markParser : C_laws_markParser = rcall X_laws_markParser := (rfl)
theorem cok_laws_markParser : codeOk CT Try.f31 (Try.f31.body.get rfl) = true := by kernel_rfl
theorem xe_laws_markParser (t0 t1 : Value) (m : Mem) : ex CT cf_laws_markParser Try.f31 2 m.length [] (fun _ _ _ => none) 400 [.code (Try.f31.body.get rfl)] (argsT 0 [t0, t1]) m = X_laws_markParser [t0, t1] m := by kernel_rfl
theorem okc_laws_markParser : CallOK CT cf_laws_markParser := cfc_ok ok_C_laws_markInt64S cfn_ok
theorem ok_X_laws_markParser : OkX CT 31 X_laws_markParser := OkX.of_ex (cf := cf_laws_markParser) (np := 2) (LL := []) (J := (fun _ _ _ _ => none)) CT_ok rfl Try.func31 rfl (Nat.le_of_ble_eq_true rfl) (by decide) cok_laws_markParser okc_laws_markParser (fun k => noLoops rfl) (fun args m r h => match args, h with
    | [t0, t1], h => ⟨rfl, (xe_laws_markParser t0 t1 m).trans h⟩)
theorem ok_C_laws_markParser : OkC CT 31 C_laws_markParser := rcall_ok rfl ok_X_laws_markParser

/-! ### spec.l1In -/
noncomputable def cf_spec_l1In : CallF := cfn
noncomputable def X_spec_l1In : List Value → Mem → Option VM
  | [t0, t1, t2], m =>
    (binX .geq .no t0 t1) |> bo fun t9 =>
    (gd t9 true (some (t0, m)) m) |> bo fun r2 =>
    (gd t9 true (some (t2, r2.2)) r2.2) |> bo fun r3 =>
    (gd t9 true ((binX .leq .no r2.1 r3.1) |> bo fun v => some (v, r3.2)) r3.2) |> bo fun r4 =>
    (pickX t9 r4.1 (.bool false)) |> bo fun t14 =>
    retK m.length r4.2 [t0, t1, t2] t14
  | _, _ => none
noncomputable def C_spec_l1In : List Value → Mem → Option VM := fcall X_spec_l1In
@[simp] theorem c_spec_l1In : C_spec_l1In = fcall X_spec_l1In := (rfl)
theorem cok_spec_l1In : codeOk CT Try.f119 (Try.f119.body.get rfl) = true := by kernel_rfl
theorem xe_spec_l1In (t0 t1 t2 : Value) (m : Mem) : ex CT cf_spec_l1In Try.f119 3 m.length [] (fun _ _ _ => none) 400 [.code (Try.f119.body.get rfl)] (argsT 0 [t0, t1, t2]) m = X_spec_l1In [t0, t1, t2] m := by kernel_rfl
theorem okc_spec_l1In : CallOK CT cf_spec_l1In := cfn_ok
theorem ok_X_spec_l1In : OkX CT 119 X_spec_l1In := OkX.of_ex (cf := cf_spec_l1In) (np := 3) (LL := []) (J := (fun _ _ _ _ => none)) CT_ok rfl Try.func119 rfl (Nat.le_of_ble_eq_true rfl) (by decide) cok_spec_l1In okc_spec_l1In (fun k => noLoops rfl) (fun args m r h => match args, h with
    | [t0, t1, t2], h => ⟨rfl, (xe_spec_l1In t0 t1 t2 m).trans h⟩)
theorem ok_C_spec_l1In : OkC CT 119 C_spec_l1In := fcall_ok rfl ok_X_spec_l1In

/-! ### spec.l1Char -/
noncomputable def cf_spec_l1Char : CallF := cfc 119 C_spec_l1In cfn
noncomputable def X_spec_l1Char : List Value → Mem → Option VM
  | [t0], m =>
    (C_spec_l1In [t0, (.int .i64 0), (.int .i64 55295)] m) |> bo fun r1 =>
    (gd r1.1 false (some (t0, r1.2)) r1.2) |> bo fun r2 =>
    (gd r1.1 false ((C_spec_l1In [r2.1, (.int .i64 57344), (.int .i64 65535)] r2.2) |> bo fun r => some (r.1, r.2)) r2.2) |> bo fun r3 =>
    (pickX r1.1 (.bool true) r3.1) |> bo fun t8 =>
    retK m.length r3.2 [t0] t8
  | _, _ => none
noncomputable def C_spec_l1Char : List Value → Mem → Option VM := fcall X_spec_l1Char
@[simp] theorem c_spec_l1Char : C_spec_l1Char = fcall X_spec_l1Char := (rfl)
theorem cok_spec_l1Char : codeOk CT Try.f97 (Try.f97.body.get rfl) = true := by kernel_rfl
theorem xe_spec_l1Char (t0 : Value) (m : Mem) : ex CT cf_spec_l1Char Try.f97 1 m.length [] (fun _ _ _ => none) 400 [.code (Try.f97.body.get rfl)] (argsT 0 [t0]) m = X_spec_l1Char [t0] m := by kernel_rfl
theorem okc_spec_l1Char : CallOK CT cf_spec_l1Char := cfc_ok ok_C_spec_l1In cfn_ok
theorem ok_X_spec_l1Char : OkX CT 97 X_spec_l1Char := OkX.of_ex (cf := cf_spec_l1Char) (np := 1) (LL := []) (J := (fun _ _ _ _ => none)) CT_ok rfl Try.func97 rfl (Nat.le_of_ble_eq_true rfl) (by decide) cok_spec_l1Char okc_spec_l1Char (fun k => noLoops rfl) (fun args m r h => match args, h with
    | [t0], h => ⟨rfl, (xe_spec_l1Char t0 m).trans h⟩)
theorem ok_C_spec_l1Char : OkC CT 97 C_spec_l1Char := fcall_ok rfl ok_X_spec_l1Char

/-! ### spec.l4Params -/
noncomputable def cf_spec_l4Params : CallF := cfc 119 C_spec_l1In cfn
noncomputable def L_spec_l4Params (k : Nat) : Nat → Nat → List Value → Mem → Option VM
  | q + 1, 0, [t0, t3], m =>
    (lenX t0) |> bo fun t14 =>
    (binX .lss .no t3 t14) |> bo fun t15 =>
    brX t15
      (
        (ixaX 1 t0 t3) |> bo fun t20 =>
        (ld1 m t20) |> bo fun t21 =>
        (C_spec_l1In [t21, (.int .i64 0), (.int .i64 999)] m) |> bo fun r5 =>
        (uop .not r5.1) |> bo fun t23 =>
        brX t23
          (
            retK k r5.2 [t0] (.int .i64 3))
          (
            (binX .add .no t3 (.int .i64 1)) |> bo fun t17 =>
            cutK k r5.2 [t0] [t0, t17] (L_spec_l4Params k q 0)))
      (
        retK k m [t0] (.int .i64 0))
  | _, _, _, _ => none
noncomputable def J_spec_l4Params (k q l : Nat) : List Value → Mem → Option VM := cond (Nat.beq l 4) (L_spec_l4Params k q 0) (fun _ _ => none)
def LL_spec_l4Params : List (Nat × List Tmp) := [(4, [0, 3])]
noncomputable def X_spec_l4Params : List Value → Mem → Option VM
  | [t0], m =>
    (lenX t0) |> bo fun t5 =>
    (binX .lss .no t5 (.int .i64 1)) |> bo fun t6 =>
    (gd t6 false (some (t0, m)) m) |> bo fun r3 =>
    (gd t6 false ((lenX r3.1) |> bo fun v => some (v, r3.2)) r3.2) |> bo fun r4 =>
    (gd t6 false ((binX .gtr .no r4.1 (.int .i64 6)) |> bo fun v => some (v, r4.2)) r4.2) |> bo fun r5 =>
    (pickX t6 (.bool true) r5.1) |> bo fun t11 =>
    brX t11
      (
        retK m.length r5.2 [t0] (.int .i64 2))
      (
        cutK m.length r5.2 [t0] [t0, (.int .i64 0)] (L_spec_l4Params m.length QQ 0))
  | _, _ => none
noncomputable def C_spec_l4Params : List Value → Mem → Option VM := fcall X_spec_l4Params
@[simp] theorem c_spec_l4Params : C_spec_l4Params = fcall X_spec_l4Params := (rfl)
theorem cok_spec_l4Params : codeOk CT Try.f157 (Try.f157.body.get rfl) = true := by kernel_rfl
theorem xe_spec_l4Params (t0 : Value) (m : Mem) : ex CT cf_spec_l4Params Try.f157 1 m.length LL_spec_l4Params (J_spec_l4Params m.length QQ) 400 [.code (Try.f157.body.get rfl)] (argsT 0 [t0]) m = X_spec_l4Params [t0] m := by kernel_rfl
theorem okc_spec_l4Params : CallOK CT cf_spec_l4Params := cfc_ok ok_C_spec_l1In cfn_ok
theorem le_spec_l4Params_0 (k q : Nat) (t0 t3 : Value) (m : Mem) : ex CT cf_spec_l4Params Try.f157 1 k LL_spec_l4Params (J_spec_l4Params k q) 400 (atLoop Try.f157 0) [(0, t0), (3, t3)] m = J_spec_l4Params k (q + 1) 4 [t0, t3] m := by kernel_rfl
theorem gl_spec_l4Params (k : Nat) : ∀ q i, i < 1 → GoodL CT k Try.f157 LL_spec_l4Params (J_spec_l4Params k q) (atLoop Try.f157 i)
  | 0, 0, _ => goodL_zero (l := 4) (by kernel_rfl) (fun vs m => by kernel_rfl)
  | 0, _ + 1, h => absurd h (by omega)
  | q + 1, 0, _ => goodL_succ (np := 1) (l := 4) (live := [0, 3]) (n := 1) CT_ok rfl okc_spec_l4Params (c := (Try.f157.body.get rfl)) rfl cok_spec_l4Params (by kernel_rfl) (gl_spec_l4Params k q) (by kernel_rfl) rfl (fun vs m r hl h => match vs, hl with
    | [t0, t3], _ => (le_spec_l4Params_0 k q t0 t3 m).trans h)
  | _ + 1, _ + 1, h => absurd h (by omega)
theorem ok_X_spec_l4Params : OkX CT 157 X_spec_l4Params := OkX.of_ex (cf := cf_spec_l4Params) (np := 1) (LL := LL_spec_l4Params) (J := (fun k => J_spec_l4Params k QQ)) CT_ok rfl Try.func157 rfl (Nat.le_of_ble_eq_true rfl) (by decide) cok_spec_l4Params okc_spec_l4Params (fun k => allLoops rfl (by kernel_rfl) (gl_spec_l4Params k QQ)) (fun args m r h => match args, h with
    | [t0], h => ⟨rfl, (xe_spec_l4Params t0 m).trans h⟩)
theorem ok_C_spec_l4Params : OkC CT 157 C_spec_l4Params := fcall_ok rfl ok_X_spec_l4Params

/-! ### spec.l4Fault -/
noncomputable def cf_spec_l4Fault : CallF := cfc 119 C_spec_l1In (cfc 157 C_spec_l4Params cfn)
noncomputable def X_spec_l4Fault : List Value → Mem → Option VM
  | [t0], m =>
    (nilX t0) |> bo fun t4 =>
    (fadX 0 t4) |> bo fun t5 =>
    (ld1 m t5) |> bo fun t6 =>
    (C_spec_l1In [t6, (.int .i64 0), (.int .i64 3)] m) |> bo fun r4 =>
    (uop .not r4.1) |> bo fun t8 =>
    (gd t8 false (some (t0, r4.2)) r4.2) |> bo fun r6 =>
    (gd t8 false ((nilX r6.1) |> bo fun v => some (v, r6.2)) r6.2) |> bo fun r7 =>
    (gd t8 false ((fadX 0 r7.1) |> bo fun v => some (v, r7.2)) r7.2) |> bo fun r8 =>
    (gd t8 false ((ld1 r8.2 r8.1) |> bo fun v => some (v, r8.2)) r8.2) |> bo fun r9 =>
    (gd t8 false ((binX .neq .no r9.1 (.int .i64 3)) |> bo fun v => some (v, r9.2)) r9.2) |> bo fun r10 =>
    (gd t8 false (some (r10.1, r10.2)) r10.2) |> bo fun r11 =>
    (gd r11.1 true (some (t0, r11.2)) r11.2) |> bo fun r12 =>
    (gd r11.1 true ((nilX r12.1) |> bo fun v => some (v, r12.2)) r12.2) |> bo fun r13 =>
    (gd r11.1 true ((fadX 1 r13.1) |> bo fun v => some (v, r13.2)) r13.2) |> bo fun r14 =>
    (gd r11.1 true ((ld1 r14.2 r14.1) |> bo fun v => some (v, r14.2)) r14.2) |> bo fun r15 =>
    (gd r11.1 true ((binX .neq .no r15.1 (.int .i64 0)) |> bo fun v => some (v, r15.2)) r15.2) |> bo fun r16 =>
    (gd t8 false ((pickX r11.1 r16.1 (.bool false)) |> bo fun v => some (v, r16.2)) r16.2) |> bo fun r17 =>
    (pickX t8 (.bool true) r17.1) |> bo fun t22 =>
    (gd t22 false (some (t0, r17.2)) r17.2) |> bo fun r19 =>
    (gd t22 false ((nilX r19.1) |> bo fun v => some (v, r19.2)) r19.2) |> bo fun r20 =>
    (gd t22 false ((fadX 0 r20.1) |> bo fun v => some (v, r20.2)) r20.2) |> bo fun r21 =>
    (gd t22 false ((ld1 r21.2 r21.1) |> bo fun v => some (v, r21.2)) r21.2) |> bo fun r22 =>
    (gd t22 false ((binX .neq .no r22.1 (.int .i64 2)) |> bo fun v => some (v, r22.2)) r22.2) |> bo fun r23 =>
    (gd t22 false (some (r23.1, r23.2)) r23.2) |> bo fun r24 =>
    (gd r24.1 true (some (t0, r24.2)) r24.2) |> bo fun r25 =>
    (gd r24.1 true ((nilX r25.1) |> bo fun v => some (v, r25.2)) r25.2) |> bo fun r26 =>
    (gd r24.1 true ((fadX 2 r26.1) |> bo fun v => some (v, r26.2)) r26.2) |> bo fun r27 =>
    (gd r24.1 true ((ld1 r27.2 r27.1) |> bo fun v => some (v, r27.2)) r27.2) |> bo fun r28 =>
    (gd r24.1 true (some (r28.1, r28.2)) r28.2) |> bo fun r29 =>
    (gd r29.1 false (some (t0, r29.2)) r29.2) |> bo fun r30 =>
    (gd r29.1 false ((nilX r30.1) |> bo fun v => some (v, r30.2)) r30.2) |> bo fun r31 =>
    (gd r29.1 false ((fadX 3 r31.1) |> bo fun v => some (v, r31.2)) r31.2) |> bo fun r32 =>
    (gd r29.1 false ((ld1 r32.2 r32.1) |> bo fun v => some (v, r32.2)) r32.2) |> bo fun r33 =>
    (gd r29.1 false ((lenX r33.1) |> bo fun v => some (v, r33.2)) r33.2) |> bo fun r34 =>
    (gd r29.1 false ((binX .gtr .no r34.1 (.int .i64 0)) |> bo fun v => some (v, r34.2)) r34.2) |> bo fun r35 =>
    (gd r24.1 true ((pickX r29.1 (.bool true) r35.1) |> bo fun v => some (v, r35.2)) r35.2) |> bo fun r36 =>
    (gd t22 false ((pickX r24.1 r36.1 (.bool false)) |> bo fun v => some (v, r36.2)) r36.2) |> bo fun r37 =>
    (pickX t22 (.bool true) r37.1) |> bo fun t43 =>
    brX t43
      (
        retK m.length r37.2 [t0] (.int .i64 1))
      (
        (nilX t0) |> bo fun t45 =>
        (fadX 0 t45) |> bo fun t46 =>
        (ld1 r37.2 t46) |> bo fun t47 =>
        (binX .eql .no t47 (.int .i64 3)) |> bo fun t48 =>
        (gd t48 true (some (t0, r37.2)) r37.2) |> bo fun r43 =>
        (gd t48 true ((nilX r43.1) |> bo fun v => some (v, r43.2)) r43.2) |> bo fun r44 =>
        (gd t48 true ((fadX 1 r44.1) |> bo fun v => some (v, r44.2)) r44.2) |> bo fun r45 =>
        (gd t48 true ((ld1 r45.2 r45.1) |> bo fun v => some (v, r45.2)) r45.2) |> bo fun r46 =>
        (gd t48 true ((C_spec_l1In [r46.1, (.int .i64 1), (.int .i64 2)] r46.2) |> bo fun r => some (r.1, r.2)) r46.2) |> bo fun r47 =>
        (gd t48 true ((uop .not r47.1) |> bo fun v => some (v, r47.2)) r47.2) |> bo fun r48 =>
        (pickX t48 r48.1 (.bool false)) |> bo fun t56 =>
        brX t56
          (
            retK m.length r48.2 [t0] (.int .i64 3))
          (
            (nilX t0) |> bo fun t58 =>
            (fadX 0 t58) |> bo fun t59 =>
            (ld1 r48.2 t59) |> bo fun t60 =>
            (binX .eql .no t60 (.int .i64 2)) |> bo fun t61 =>
            brX t61
              (
                (nilX t0) |> bo fun t63 =>
                (fadX 3 t63) |> bo fun t64 =>
                (ld1 r48.2 t64) |> bo fun t65 =>
                (C_spec_l4Params [t65] r48.2) |> bo fun r57 =>
                retK m.length r57.2 [t0] r57.1)
              (
                retK m.length r48.2 [t0] (.int .i64 0))))
  | _, _ => none
noncomputable def C_spec_l4Fault : List Value → Mem → Option VM := fcall X_spec_l4Fault
@[simp] theorem c_spec_l4Fault : C_spec_l4Fault = fcall X_spec_l4Fault := (rfl)
theorem cok_spec_l4Fault : codeOk CT Try.f102 (Try.f102.body.get rfl) = true := by kernel_rfl
theorem xe_spec_l4Fault (t0 : Value) (m : Mem) : ex CT cf_spec_l4Fault Try.f102 1 m.length [] (fun _ _ _ => none) 400 [.code (Try.f102.body.get rfl)] (argsT 0 [t0]) m = X_spec_l4Fault [t0] m := by kernel_rfl
theorem okc_spec_l4Fault : CallOK CT cf_spec_l4Fault := cfc_ok ok_C_spec_l1In (cfc_ok ok_C_spec_l4Params cfn_ok)
theorem ok_X_spec_l4Fault : OkX CT 102 X_spec_l4Fault := OkX.of_ex (cf := cf_spec_l4Fault) (np := 1) (LL := []) (J := (fun _ _ _ _ => none)) CT_ok rfl Try.func102 rfl (Nat.le_of_ble_eq_true rfl) (by decide) cok_spec_l4Fault okc_spec_l4Fault (fun k => noLoops rfl) (fun args m r h => match args, h with
    | [t0], h => ⟨rfl, (xe_spec_l4Fault t0 m).trans h⟩)
theorem ok_C_spec_l4Fault : OkC CT 102 C_spec_l4Fault := fcall_ok rfl ok_X_spec_l4Fault

/-! ### spec.l4Copy -/
noncomputable def cf_spec_l4Copy : CallF := cfn
noncomputable def X_spec_l4Copy : List Value → Mem → Option VM
  | [t0], m =>
    (boxX m t0) |> bo fun r1 =>
    (alX r1.2 [.int .i64 0, .int .i64 0, .bool false, .slice none 0 0]) |> bo fun r2 =>
    (bslX r2.2 0 1 [.int .i64 0] []) |> bo fun r3 =>
    (fadX 3 r1.1) |> bo fun t4 =>
    (ld1 r3.2 t4) |> bo fun t5 =>
    (apL r3.2 1 8 r3.1 t5) |> bo fun r6 =>
    (fadX 3 r1.1) |> bo fun t7 =>
    (stX r6.2 1 t7 r6.1) |> bo fun m8 =>
    (ldS m8 4 r1.1) |> bo fun t8 =>
    (stX m8 4 r2.1 t8) |> bo fun m10 =>
    (resP (some 4) m10 r2.1) |> bo fun c11 =>
    retK m.length m10 [t0] c11
  | _, _ => none
noncomputable def C_spec_l4Copy : List Value → Mem → Option VM := fcall X_spec_l4Copy
@[simp] theorem c_spec_l4Copy : C_spec_l4Copy = fcall X_spec_l4Copy := (rfl)
theorem cok_spec_l4Copy : codeOk CT Try.f112 (Try.f112.body.get rfl) = true := by kernel_rfl
theorem xe_spec_l4Copy (t0 : Value) (m : Mem) : ex CT cf_spec_l4Copy Try.f112 1 m.length [] (fun _ _ _ => none) 400 [.code (Try.f112.body.get rfl)] (argsT 0 [t0]) m = X_spec_l4Copy [t0] m := by kernel_rfl
theorem okc_spec_l4Copy : CallOK CT cf_spec_l4Copy := cfn_ok
theorem ok_X_spec_l4Copy : OkX CT 112 X_spec_l4Copy := OkX.of_ex (cf := cf_spec_l4Copy) (np := 1) (LL := []) (J := (fun _ _ _ _ => none)) CT_ok rfl Try.func112 rfl (Nat.le_of_ble_eq_true rfl) (by decide) cok_spec_l4Copy okc_spec_l4Copy (fun k => noLoops rfl) (fun args m r h => match args, h with
    | [t0], h => ⟨rfl, (xe_spec_l4Copy t0 m).trans h⟩)
theorem ok_C_spec_l4Copy : OkC CT 112 C_spec_l4Copy := fcall_ok rfl ok_X_spec_l4Copy

/-! ### spec.l4Escape -/
noncomputable def cf_spec_l4Escape : CallF := cfc 119 C_spec_l1In cfn
noncomputable def X_spec_l4Escape : List Value → Mem → Option VM
  | [t0], m =>
    (alX m [.int .i64 0, .int .i64 0, .int .i64 0, .bool false, .slice none 0 0]) |> bo fun r1 =>
    (alX r1.2 [.int .i64 0, .int .i64 0, .bool false, .slice none 0 0]) |> bo fun r2 =>
    (binX .eql .no t0 (.int .i64 91)) |> bo fun t6 =>
    brX t6
      (
        (bldX [.int .i64 0, .int .i64 0, .int .i64 0, .bool false, .slice none 0 0] []) |> bo fun t7 =>
        (bslX r2.2 1 1 [.int .i64 0] [(0, 1, (.int .i64 0))]) |> bo fun r5 =>
        (bldX [.int .i64 0, .int .i64 0, .bool false, .slice none 0 0] [(0, 1, (.int .i64 2)), (3, 1, r5.1)]) |> bo fun t9 =>
        (stX r5.2 5 r1.1 t7) |> bo fun m7 =>
        (stX m7 4 r2.1 t9) |> bo fun m8 =>
        (resP (some 5) m8 r1.1) |> bo fun c9 =>
        (resP (some 4) m8 r2.1) |> bo fun c10 =>
        retK m.length m8 [t0] (.tuple #[c9, c10]))
      (
        (binX .eql .no t0 (.int .i64 40)) |> bo fun t12 =>
        brX t12
          (
            (bldX [.int .i64 0, .int .i64 0, .int .i64 0, .bool false, .slice none 0 0] []) |> bo fun t13 =>
            (bldX [.int .i64 0, .int .i64 0, .bool false, .slice none 0 0] [(0, 1, (.int .i64 3)), (1, 1, (.int .i64 1))]) |> bo fun t14 =>
            (stX r2.2 5 r1.1 t13) |> bo fun m14 =>
            (stX m14 4 r2.1 t14) |> bo fun m15 =>
            (resP (some 5) m15 r1.1) |> bo fun c16 =>
            (resP (some 4) m15 r2.1) |> bo fun c17 =>
            retK m.length m15 [t0] (.tuple #[c16, c17]))
          (
            (binX .eql .no t0 (.int .i64 41)) |> bo fun t17 =>
            brX t17
              (
                (bldX [.int .i64 0, .int .i64 0, .int .i64 0, .bool false, .slice none 0 0] []) |> bo fun t18 =>
                (bldX [.int .i64 0, .int .i64 0, .bool false, .slice none 0 0] [(0, 1, (.int .i64 3)), (1, 1, (.int .i64 2))]) |> bo fun t19 =>
                (stX r2.2 5 r1.1 t18) |> bo fun m21 =>
                (stX m21 4 r2.1 t19) |> bo fun m22 =>
                (resP (some 5) m22 r1.1) |> bo fun c23 =>
                (resP (some 4) m22 r2.1) |> bo fun c24 =>
                retK m.length m22 [t0] (.tuple #[c23, c24]))
              (
                (C_spec_l1In [t0, (.int .i64 48), (.int .i64 126)] r2.2) |> bo fun r25 =>
                brX r25.1
                  (
                    (bldX [.int .i64 0, .int .i64 0, .int .i64 0, .bool false, .slice none 0 0] [(0, 1, (.int .i64 3)), (1, 1, t0)]) |> bo fun t24 =>
                    (bldX [.int .i64 0, .int .i64 0, .bool false, .slice none 0 0] []) |> bo fun t25 =>
                    (stX r25.2 5 r1.1 t24) |> bo fun m28 =>
                    (stX m28 4 r2.1 t25) |> bo fun m29 =>
                    (resP (some 5) m29 r1.1) |> bo fun c30 =>
                    (resP (some 4) m29 r2.1) |> bo fun c31 =>
                    retK m.length m29 [t0] (.tuple #[c30, c31]))
                  (
                    (bldX [.int .i64 0, .int .i64 0, .int .i64 0, .bool false, .slice none 0 0] []) |> bo fun t26 =>
                    (bldX [.int .i64 0, .int .i64 0, .bool false, .slice none 0 0] []) |> bo fun t27 =>
                    (stX r25.2 5 r1.1 t26) |> bo fun m34 =>
                    (stX m34 4 r2.1 t27) |> bo fun m35 =>
                    (resP (some 5) m35 r1.1) |> bo fun c36 =>
                    (resP (some 4) m35 r2.1) |> bo fun c37 =>
                    retK m.length m35 [t0] (.tuple #[c36, c37])))))
  | _, _ => none
noncomputable def C_spec_l4Escape : List Value → Mem → Option VM := fcall X_spec_l4Escape
@[simp] theorem c_spec_l4Escape : C_spec_l4Escape = fcall X_spec_l4Escape := (rfl)
theorem cok_spec_l4Escape : codeOk CT Try.f158 (Try.f158.body.get rfl) = true := by kernel_rfl
theorem xe_spec_l4Escape (t0 : Value) (m : Mem) : ex CT cf_spec_l4Escape Try.f158 1 m.length [] (fun _ _ _ => none) 400 [.code (Try.f158.body.get rfl)] (argsT 0 [t0]) m = X_spec_l4Escape [t0] m := by kernel_rfl
theorem okc_spec_l4Escape : CallOK CT cf_spec_l4Escape := cfc_ok ok_C_spec_l1In cfn_ok
theorem ok_X_spec_l4Escape : OkX CT 158 X_spec_l4Escape := OkX.of_ex (cf := cf_spec_l4Escape) (np := 1) (LL := []) (J := (fun _ _ _ _ => none)) CT_ok rfl Try.func158 rfl (Nat.le_of_ble_eq_true rfl) (by decide) cok_spec_l4Escape okc_spec_l4Escape (fun k => noLoops rfl) (fun args m r h => match args, h with
    | [t0], h => ⟨rfl, (xe_spec_l4Escape t0 m).trans h⟩)
theorem ok_C_spec_l4Escape : OkC CT 158 C_spec_l4Escape := fcall_ok rfl ok_X_spec_l4Escape

/-! ### spec.l1Min -/
noncomputable def cf_spec_l1Min : CallF := cfn
noncomputable def X_spec_l1Min : List Value → Mem → Option VM
  | [t0, t1], m =>
    (binX .lss .no t0 t1) |> bo fun t7 =>
    brX t7
      (
        retK m.length m [t0, t1] t0)
      (
        retK m.length m [t0, t1] t1)
  | _, _ => none
noncomputable def C_spec_l1Min : List Value → Mem → Option VM := fcall X_spec_l1Min
@[simp] theorem c_spec_l1Min : C_spec_l1Min = fcall X_spec_l1Min := (rfl)
theorem cok_spec_l1Min : codeOk CT Try.f176 (Try.f176.body.get rfl) = true := by kernel_rfl
theorem xe_spec_l1Min (t0 t1 : Value) (m : Mem) : ex CT cf_spec_l1Min Try.f176 2 m.length [] (fun _ _ _ => none) 400 [.code (Try.f176.body.get rfl)] (argsT 0 [t0, t1]) m = X_spec_l1Min [t0, t1] m := by kernel_rfl
theorem okc_spec_l1Min : CallOK CT cf_spec_l1Min := cfn_ok
theorem ok_X_spec_l1Min : OkX CT 176 X_spec_l1Min := OkX.of_ex (cf := cf_spec_l1Min) (np := 2) (LL := []) (J := (fun _ _ _ _ => none)) CT_ok rfl Try.func176 rfl (Nat.le_of_ble_eq_true rfl) (by decide) cok_spec_l1Min okc_spec_l1Min (fun k => noLoops rfl) (fun args m r h => match args, h with
    | [t0, t1], h => ⟨rfl, (xe_spec_l1Min t0 t1 m).trans h⟩)
theorem ok_C_spec_l1Min : OkC CT 176 C_spec_l1Min := fcall_ok rfl ok_X_spec_l1Min

/-! ### spec.l4Param -/
noncomputable def cf_spec_l4Param : CallF := cfc 119 C_spec_l1In (cfc 176 C_spec_l1Min cfn)
noncomputable def X_spec_l4Param : List Value → Mem → Option VM
  | [t0, t1], m =>
    (boxX m t0) |> bo fun r1 =>
    (alX r1.2 [.int .i64 0, .int .i64 0, .int .i64 0, .bool false, .slice none 0 0]) |> bo fun r2 =>
    (alX r2.2 [.int .i64 0, .int .i64 0, .bool false, .slice none 0 0]) |> bo fun r3 =>
    (fadX 3 r1.1) |> bo fun t7 =>
    (ld1 r3.2 t7) |> bo fun t8 =>
    (lenX t8) |> bo fun t9 =>
    (binX .sub .no t9 (.int .i64 1)) |> bo fun t10 =>
    (C_spec_l1In [t1, (.int .i64 48), (.int .i64 57)] r3.2) |> bo fun r8 =>
    brX r8.1
      (
        (fadX 3 r1.1) |> bo fun t14 =>
        (ld1 r8.2 t14) |> bo fun t15 =>
        (fadX 3 r1.1) |> bo fun t17 =>
        (ld1 r8.2 t17) |> bo fun t18 =>
        (ixaX 1 t18 t10) |> bo fun t20 =>
        (ld1 r8.2 t20) |> bo fun t21 =>
        (binX .mul .no (.int .i64 10) t21) |> bo fun t22 =>
        (binX .add .no t22 t1) |> bo fun t24 =>
        (binX .sub .no t24 (.int .i64 48)) |> bo fun t25 =>
        (C_spec_l1Min [(.int .i64 999), t25] r8.2) |> bo fun r18 =>
        (ixaX 1 t15 t10) |> bo fun t27 =>
        (stX r18.2 1 t27 r18.1) |> bo fun m20 =>
        gP (stbL [((rdN t14), r8.2, r18.2)])
          (
            (bldX [.int .i64 0, .int .i64 0, .int .i64 0, .bool false, .slice none 0 0] []) |> bo fun t59 =>
            (ldS m20 4 r1.1) |> bo fun t60 =>
            (stX m20 5 r2.1 t59) |> bo fun m23 =>
            (stX m23 4 r3.1 t60) |> bo fun m24 =>
            gP (stbL [((rdN r1.1), m20, m23)])
              (
                (resP (some 5) m24 r2.1) |> bo fun c25 =>
                (resP (some 4) m24 r3.1) |> bo fun c26 =>
                retK m.length m24 [t0, t1] (.tuple #[c25, c26]))))
      (
        (binX .eql .no t1 (.int .i64 59)) |> bo fun t30 =>
        brX t30
          (
            (fadX 3 r1.1) |> bo fun t31 =>
            (ld1 r8.2 t31) |> bo fun t32 =>
            (lenX t32) |> bo fun t33 =>
            (binX .lss .no t33 (.int .i64 6)) |> bo fun t34 =>
            brX t34
              (
                (fadX 3 r1.1) |> bo fun t35 =>
                (ld1 r8.2 t35) |> bo fun t36 =>
                (bslX r8.2 1 1 [.int .i64 0] [(0, 1, (.int .i64 0))]) |> bo fun r34 =>
                (apL r34.2 1 8 t36 r34.1) |> bo fun r35 =>
                (fadX 3 r1.1) |> bo fun t39 =>
                (stX r35.2 1 t39 r35.1) |> bo fun m37 =>
                (bldX [.int .i64 0, .int .i64 0, .int .i64 0, .bool false, .slice none 0 0] []) |> bo fun t59 =>
                (ldS m37 4 r1.1) |> bo fun t60 =>
                (stX m37 5 r2.1 t59) |> bo fun m40 =>
                (stX m40 4 r3.1 t60) |> bo fun m41 =>
                gP (stbL [((rdN r1.1), m37, m40)])
                  (
                    (resP (some 5) m41 r2.1) |> bo fun c42 =>
                    (resP (some 4) m41 r3.1) |> bo fun c43 =>
                    retK m.length m41 [t0, t1] (.tuple #[c42, c43])))
              (
                (bldX [.int .i64 0, .int .i64 0, .int .i64 0, .bool false, .slice none 0 0] []) |> bo fun t59 =>
                (ldS r8.2 4 r1.1) |> bo fun t60 =>
                (stX r8.2 5 r2.1 t59) |> bo fun m46 =>
                (stX m46 4 r3.1 t60) |> bo fun m47 =>
                gP (stbL [((rdN r1.1), r8.2, m46)])
                  (
                    (resP (some 5) m47 r2.1) |> bo fun c48 =>
                    (resP (some 4) m47 r3.1) |> bo fun c49 =>
                    retK m.length m47 [t0, t1] (.tuple #[c48, c49]))))
          (
            (binX .eql .no t1 (.int .i64 63)) |> bo fun t42 =>
            brX t42
              (
                (fadX 2 r1.1) |> bo fun t43 =>
                (stX r8.2 1 t43 (.bool true)) |> bo fun m52 =>
                (bldX [.int .i64 0, .int .i64 0, .int .i64 0, .bool false, .slice none 0 0] []) |> bo fun t59 =>
                (ldS m52 4 r1.1) |> bo fun t60 =>
                (stX m52 5 r2.1 t59) |> bo fun m55 =>
                (stX m55 4 r3.1 t60) |> bo fun m56 =>
                gP (stbL [((rdN r1.1), m52, m55)])
                  (
                    (resP (some 5) m56 r2.1) |> bo fun c57 =>
                    (resP (some 4) m56 r3.1) |> bo fun c58 =>
                    retK m.length m56 [t0, t1] (.tuple #[c57, c58])))
              (
                (C_spec_l1In [t1, (.int .i64 64), (.int .i64 126)] r8.2) |> bo fun r59 =>
                brX r59.1
                  (
                    (fadX 2 r1.1) |> bo fun t48 =>
                    (ld1 r59.2 t48) |> bo fun t49 =>
                    (fadX 3 r1.1) |> bo fun t50 =>
                    (ld1 r59.2 t50) |> bo fun t51 =>
                    (bldX [.int .i64 0, .int .i64 0, .int .i64 0, .bool false, .slice none 0 0] [(0, 1, (.int .i64 4)), (1, 1, t1), (3, 1, t49), (4, 1, t51)]) |> bo fun t52 =>
                    (bldX [.int .i64 0, .int .i64 0, .bool false, .slice none 0 0] []) |> bo fun t53 =>
                    (stX r59.2 5 r2.1 t52) |> bo fun m66 =>
                    (stX m66 4 r3.1 t53) |> bo fun m67 =>
                    (resP (some 5) m67 r2.1) |> bo fun c68 =>
                    (resP (some 4) m67 r3.1) |> bo fun c69 =>
                    retK m.length m67 [t0, t1] (.tuple #[c68, c69]))
                  (
                    (binX .gtr .no t1 (.int .i64 126)) |> bo fun t56 =>
                    brX t56
                      (
                        (bldX [.int .i64 0, .int .i64 0, .int .i64 0, .bool false, .slice none 0 0] []) |> bo fun t57 =>
                        (bldX [.int .i64 0, .int .i64 0, .bool false, .slice none 0 0] []) |> bo fun t58 =>
                        (stX r59.2 5 r2.1 t57) |> bo fun m73 =>
                        (stX m73 4 r3.1 t58) |> bo fun m74 =>
                        (resP (some 5) m74 r2.1) |> bo fun c75 =>
                        (resP (some 4) m74 r3.1) |> bo fun c76 =>
                        retK m.length m74 [t0, t1] (.tuple #[c75, c76]))
                      (
                        (bldX [.int .i64 0, .int .i64 0, .int .i64 0, .bool false, .slice none 0 0] []) |> bo fun t59 =>
                        (ldS r59.2 4 r1.1) |> bo fun t60 =>
                        (stX r59.2 5 r2.1 t59) |> bo fun m79 =>
                        (stX m79 4 r3.1 t60) |> bo fun m80 =>
                        gP (stbL [((rdN r1.1), r59.2, m79)])
                          (
                            (resP (some 5) m80 r2.1) |> bo fun c81 =>
                            (resP (some 4) m80 r3.1) |> bo fun c82 =>
                            retK m.length m80 [t0, t1] (.tuple #[c81, c82])))))))
  | _, _ => none
noncomputable def C_spec_l4Param : List Value → Mem → Option VM := rcall X_spec_l4Param
@[simp] theorem c_spec_l4Param : C_spec_l4Param = rcall X_spec_l4Param := (rfl)
theorem cok_spec_l4Param : codeOk CT Try.f159 (Try.f159.body.get rfl) = true := by kernel_rfl
theorem xe_spec_l4Param (t0 t1 : Value) (m : Mem) : ex CT cf_spec_l4Param Try.f159 2 m.length [] (fun _ _ _ => none) 400 [.code (Try.f159.body.get rfl)] (argsT 0 [t0, t1]) m = X_spec_l4Param [t0, t1] m := by kernel_rfl
theorem okc_spec_l4Param : CallOK CT cf_spec_l4Param := cfc_ok ok_C_spec_l1In (cfc_ok ok_C_spec_l1Min cfn_ok)
theorem ok_X_spec_l4Param : OkX CT 159 X_spec_l4Param := OkX.of_ex (cf := cf_spec_l4Param) (np := 2) (LL := []) (J := (fun _ _ _ _ => none)) CT_ok rfl Try.func159 rfl (Nat.le_of_ble_eq_true rfl) (by decide) cok_spec_l4Param okc_spec_l4Param (fun k => noLoops rfl) (fun args m r h => match args, h with
    | [t0, t1], h => ⟨rfl, (xe_spec_l4Param t0 t1 m).trans h⟩)
theorem ok_C_spec_l4Param : OkC CT 159 C_spec_l4Param := rcall_ok rfl ok_X_spec_l4Param

/-! ### spec.l4Step -/
noncomputable def cf_spec_l4Step : CallF := cfc 112 C_spec_l4Copy (cfc 158 C_spec_l4Escape (cfc 159 C_spec_l4Param cfn))
noncomputable def X_spec_l4Step : List Value → Mem → Option VM
  | [t0, t1], m =>
    (boxX m t0) |> bo fun r1 =>
    (alX r1.2 [.int .i64 0, .int .i64 0, .int .i64 0, .bool false, .slice none 0 0]) |> bo fun r2 =>
    (alX r2.2 [.int .i64 0, .int .i64 0, .bool false, .slice none 0 0]) |> bo fun r3 =>
    (binX .eql .no t1 (.int .i64 24)) |> bo fun t8 =>
    (gd t8 false (some (t1, r3.2)) r3.2) |> bo fun r5 =>
    (gd t8 false ((binX .eql .no r5.1 (.int .i64 26)) |> bo fun v => some (v, r5.2)) r5.2) |> bo fun r6 =>
    (pickX t8 (.bool true) r6.1) |> bo fun t12 =>
    brX t12
      (
        (bldX [.int .i64 0, .int .i64 0, .int .i64 0, .bool false, .slice none 0 0] []) |> bo fun t13 =>
        (bldX [.int .i64 0, .int .i64 0, .bool false, .slice none 0 0] []) |> bo fun t14 =>
        (stX r6.2 5 r2.1 t13) |> bo fun m10 =>
        (stX m10 4 r3.1 t14) |> bo fun m11 =>
        (resP (some 5) m11 r2.1) |> bo fun c12 =>
        (resP (some 4) m11 r3.1) |> bo fun c13 =>
        retK m.length m11 [t0, t1] (.tuple #[c12, c13]))
      (
        (binX .eql .no t1 (.int .i64 27)) |> bo fun t17 =>
        brX t17
          (
            (bldX [.int .i64 0, .int .i64 0, .int .i64 0, .bool false, .slice none 0 0] []) |> bo fun t18 =>
            (bldX [.int .i64 0, .int .i64 0, .bool false, .slice none 0 0] [(0, 1, (.int .i64 1))]) |> bo fun t19 =>
            (stX r6.2 5 r2.1 t18) |> bo fun m17 =>
            (stX m17 4 r3.1 t19) |> bo fun m18 =>
            (resP (some 5) m18 r2.1) |> bo fun c19 =>
            (resP (some 4) m18 r3.1) |> bo fun c20 =>
            retK m.length m18 [t0, t1] (.tuple #[c19, c20]))
          (
            (binX .lss .no t1 (.int .i64 32)) |> bo fun t22 =>
            brX t22
              (
                (bldX [.int .i64 0, .int .i64 0, .int .i64 0, .bool false, .slice none 0 0] [(0, 1, (.int .i64 2)), (1, 1, t1)]) |> bo fun t24 =>
                (ldS r6.2 4 r1.1) |> bo fun t25 =>
                (C_spec_l4Copy [t25] r6.2) |> bo fun r24 =>
                (stX r24.2 5 r2.1 t24) |> bo fun m25 =>
                (stX m25 4 r3.1 r24.1) |> bo fun m26 =>
                (resP (some 5) m26 r2.1) |> bo fun c27 =>
                (resP (some 4) m26 r3.1) |> bo fun c28 =>
                retK m.length m26 [t0, t1] (.tuple #[c27, c28]))
              (
                (binX .eql .no t1 (.int .i64 127)) |> bo fun t29 =>
                brX t29
                  (
                    (bldX [.int .i64 0, .int .i64 0, .int .i64 0, .bool false, .slice none 0 0] []) |> bo fun t30 =>
                    (ldS r6.2 4 r1.1) |> bo fun t31 =>
                    (C_spec_l4Copy [t31] r6.2) |> bo fun r32 =>
                    (stX r32.2 5 r2.1 t30) |> bo fun m33 =>
                    (stX m33 4 r3.1 r32.1) |> bo fun m34 =>
                    (resP (some 5) m34 r2.1) |> bo fun c35 =>
                    (resP (some 4) m34 r3.1) |> bo fun c36 =>
                    retK m.length m34 [t0, t1] (.tuple #[c35, c36]))
                  (
                    (fadX 0 r1.1) |> bo fun t33 =>
                    (ld1 r6.2 t33) |> bo fun t34 =>
                    (binX .eql .no t34 (.int .i64 1)) |> bo fun t36 =>
                    brX t36
                      (
                        (C_spec_l4Escape [t1] r6.2) |> bo fun r40 =>
                        (extX 0 r40.1) |> bo fun t39 =>
                        (extX 1 r40.1) |> bo fun t40 =>
                        (stX r40.2 5 r2.1 t39) |> bo fun m43 =>
                        (stX m43 4 r3.1 t40) |> bo fun m44 =>
                        (resP (some 5) m44 r2.1) |> bo fun c45 =>
                        (resP (some 4) m44 r3.1) |> bo fun c46 =>
                        retK m.length m44 [t0, t1] (.tuple #[c45, c46]))
                      (
                        (binX .eql .no t34 (.int .i64 3)) |> bo fun t42 =>
                        brX t42
                          (
                            (fadX 1 r1.1) |> bo fun t44 =>
                            (ld1 r6.2 t44) |> bo fun t45 =>
                            (bldX [.int .i64 0, .int .i64 0, .int .i64 0, .bool false, .slice none 0 0] [(0, 1, (.int .i64 5)), (1, 1, t1), (2, 1, t45)]) |> bo fun t46 =>
                            (bldX [.int .i64 0, .int .i64 0, .bool false, .slice none 0 0] []) |> bo fun t47 =>
                            (stX r6.2 5 r2.1 t46) |> bo fun m52 =>
                            (stX m52 4 r3.1 t47) |> bo fun m53 =>
                            (resP (some 5) m53 r2.1) |> bo fun c54 =>
                            (resP (some 4) m53 r3.1) |> bo fun c55 =>
                            retK m.length m53 [t0, t1] (.tuple #[c54, c55]))
                          (
                            (binX .eql .no t34 (.int .i64 2)) |> bo fun t49 =>
                            brX t49
                              (
                                (ldS r6.2 4 r1.1) |> bo fun t50 =>
                                (C_spec_l4Copy [t50] r6.2) |> bo fun r58 =>
                                (C_spec_l4Param [r58.1, t1] r58.2) |> bo fun r59 =>
                                (extX 0 r59.1) |> bo fun t54 =>
                                (extX 1 r59.1) |> bo fun t55 =>
                                (stX r59.2 5 r2.1 t54) |> bo fun m62 =>
                                (stX m62 4 r3.1 t55) |> bo fun m63 =>
                                (resP (some 5) m63 r2.1) |> bo fun c64 =>
                                (resP (some 4) m63 r3.1) |> bo fun c65 =>
                                retK m.length m63 [t0, t1] (.tuple #[c64, c65]))
                              (
                                (bldX [.int .i64 0, .int .i64 0, .int .i64 0, .bool false, .slice none 0 0] [(0, 1, (.int .i64 1)), (1, 1, t1)]) |> bo fun t57 =>
                                (bldX [.int .i64 0, .int .i64 0, .bool false, .slice none 0 0] []) |> bo fun t58 =>
                                (stX r6.2 5 r2.1 t57) |> bo fun m68 =>
                                (stX m68 4 r3.1 t58) |> bo fun m69 =>
                                (resP (some 5) m69 r2.1) |> bo fun c70 =>
                                (resP (some 4) m69 r3.1) |> bo fun c71 =>
                                retK m.length m69 [t0, t1] (.tuple #[c70, c71]))))))))
  | _, _ => none
noncomputable def C_spec_l4Step : List Value → Mem → Option VM := fcall X_spec_l4Step
@[simp] theorem c_spec_l4Step : C_spec_l4Step = fcall X_spec_l4Step := (rfl)
theorem cok_spec_l4Step : codeOk CT Try.f103 (Try.f103.body.get rfl) = true := by kernel_rfl
theorem xe_spec_l4Step (t0 t1 : Value) (m : Mem) : ex CT cf_spec_l4Step Try.f103 2 m.length [] (fun _ _ _ => none) 400 [.code (Try.f103.body.get rfl)] (argsT 0 [t0, t1]) m = X_spec_l4Step [t0, t1] m := by kernel_rfl
theorem okc_spec_l4Step : CallOK CT cf_spec_l4Step := cfc_ok ok_C_spec_l4Copy (cfc_ok ok_C_spec_l4Escape (cfc_ok ok_C_spec_l4Param cfn_ok))
theorem ok_X_spec_l4Step : OkX CT 103 X_spec_l4Step := OkX.of_ex (cf := cf_spec_l4Step) (np := 2) (LL := []) (J := (fun _ _ _ _ => none)) CT_ok rfl Try.func103 rfl (Nat.le_of_ble_eq_true rfl) (by decide) cok_spec_l4Step okc_spec_l4Step (fun k => noLoops rfl) (fun args m r h => match args, h with
    | [t0, t1], h => ⟨rfl, (xe_spec_l4Step t0 t1 m).trans h⟩)
theorem ok_C_spec_l4Step : OkC CT 103 C_spec_l4Step := fcall_ok rfl ok_X_spec_l4Step

/-! ### spec.ParseMany -/
noncomputable def cf_spec_ParseMany : CallF := cfc 97 C_spec_l1Char (cfc 102 C_spec_l4Fault (cfc 103 C_spec_l4Step (cfc 112 C_spec_l4Copy cfn)))
noncomputable def L_spec_ParseMany (k : Nat) : Nat → Nat → List Value → Mem → Option VM
  | q + 1, 0, [t1, t4, t6, t7], m =>
    (lenX t1) |> bo fun t24 =>
    (binX .lss .no t7 t24) |> bo fun t25 =>
    brX t25
      (
        (ixaX 1 t1 t7) |> bo fun t30 =>
        (ld1 m t30) |> bo fun t31 =>
        (C_spec_l1Char [t31] m) |> bo fun r5 =>
        (uop .not r5.1) |> bo fun t33 =>
        brX t33
          (
            (bldX [.int .i64 0, .slice none 0 0, .int .i64 0, .int .i64 0, .bool false, .slice none 0 0] [(0, 1, (.int .i64 3))]) |> bo fun t34 =>
            (stX r5.2 6 t4 t34) |> bo fun m8 =>
            (resP (some 6) m8 t4) |> bo fun c9 =>
            retK k m8 [t1] c9)
          (
            (fadX 2 t6) |> bo fun t36 =>
            (ldS r5.2 4 t36) |> bo fun t37 =>
            (ixaX 1 t1 t7) |> bo fun t40 =>
            (ld1 r5.2 t40) |> bo fun t41 =>
            (C_spec_l4Step [t37, t41] r5.2) |> bo fun r14 =>
            (extX 0 r14.1) |> bo fun t43 =>
            (extX 1 r14.1) |> bo fun t44 =>
            (alX r14.2 [.int .i64 0, .int .i64 0, .int .i64 0, .bool false, .slice none 0 0]) |> bo fun r17 =>
            (alX r17.2 [.int .i64 0, .int .i64 0, .bool false, .slice none 0 0]) |> bo fun r18 =>
            (stX r18.2 5 r17.1 t43) |> bo fun m19 =>
            (stX m19 4 r18.1 t44) |> bo fun m20 =>
            (ldS m20 4 r18.1) |> bo fun t45 =>
            (fadX 2 t6) |> bo fun t46 =>
            (stX m20 4 t46 t45) |> bo fun m23 =>
            (fadX 0 r17.1) |> bo fun t47 =>
            (ld1 m23 t47) |> bo fun t48 =>
            (binX .neq .no t48 (.int .i64 0)) |> bo fun t49 =>
            brX t49
              (
                (fadX 1 t6) |> bo fun t50 =>
                (ld1 m23 t50) |> bo fun t51 =>
                (ldS m23 5 r17.1) |> bo fun t52 =>
                (bslX m23 1 5 [.int .i64 0, .int .i64 0, .int .i64 0, .bool false, .slice none 0 0] [(0, 5, t52)]) |> bo fun r30 =>
                (apL r30.2 5 56 t51 r30.1) |> bo fun r31 =>
                (fadX 1 t6) |> bo fun t55 =>
                (stX r31.2 1 t55 r31.1) |> bo fun m33 =>
                (binX .add .no t7 (.int .i64 1)) |> bo fun t27 =>
                cutK k m33 [t1] [t1, t4, t6, t27] (L_spec_ParseMany k q 0))
              (
                (binX .add .no t7 (.int .i64 1)) |> bo fun t27 =>
                cutK k m23 [t1] [t1, t4, t6, t27] (L_spec_ParseMany k q 0))))
      (
        (ldS m 6 t6) |> bo fun t56 =>
        (stX m 6 t4 t56) |> bo fun m37 =>
        (resP (some 6) m37 t4) |> bo fun c38 =>
        retK k m37 [t1] c38)
  | _, _, _, _ => none
noncomputable def J_spec_ParseMany (k q l : Nat) : List Value → Mem → Option VM := cond (Nat.beq l 8) (L_spec_ParseMany k q 0) (fun _ _ => none)
def LL_spec_ParseMany : List (Nat × List Tmp) := [(8, [1, 4, 6, 7])]
noncomputable def X_spec_ParseMany : List Value → Mem → Option VM
  | [t0, t1], m =>
    (boxX m t0) |> bo fun r1 =>
    (alX r1.2 [.int .i64 0, .slice none 0 0, .int .i64 0, .int .i64 0, .bool false, .slice none 0 0]) |> bo fun r2 =>
    (C_spec_l4Fault [r1.1] r2.2) |> bo fun r3 =>
    (binX .neq .no r3.1 (.int .i64 0)) |> bo fun t12 =>
    brX t12
      (
        (bldX [.int .i64 0, .slice none 0 0, .int .i64 0, .int .i64 0, .bool false, .slice none 0 0] [(0, 1, r3.1)]) |> bo fun t14 =>
        (stX r3.2 6 r2.1 t14) |> bo fun m6 =>
        (resP (some 6) m6 r2.1) |> bo fun c7 =>
        retK m.length m6 [t0, t1] c7)
      (
        (lenX t1) |> bo fun t16 =>
        (binX .gtr .no t16 (.int .i64 2000)) |> bo fun t17 =>
        brX t17
          (
            (bldX [.int .i64 0, .slice none 0 0, .int .i64 0, .int .i64 0, .bool false, .slice none 0 0] [(0, 1, (.int .i64 2))]) |> bo fun t18 =>
            (stX r3.2 6 r2.1 t18) |> bo fun m11 =>
            (resP (some 6) m11 r2.1) |> bo fun c12 =>
            retK m.length m11 [t0, t1] c12)
          (
            (ldS r3.2 4 r1.1) |> bo fun t19 =>
            (C_spec_l4Copy [t19] r3.2) |> bo fun r14 =>
            (bldX [.int .i64 0, .slice none 0 0, .int .i64 0, .int .i64 0, .bool false, .slice none 0 0] [(2, 4, r14.1)]) |> bo fun t21 =>
            (alX r14.2 [.int .i64 0, .slice none 0 0, .int .i64 0, .int .i64 0, .bool false, .slice none 0 0]) |> bo fun r16 =>
            (stX r16.2 6 r16.1 t21) |> bo fun m17 =>
            cutK m.length m17 [t0, t1] [t1, r2.1, r16.1, (.int .i64 0)] (L_spec_ParseMany m.length QQ 0)))
  | _, _ => none
noncomputable def C_spec_ParseMany : List Value → Mem → Option VM := fcall X_spec_ParseMany
@[simp] theorem c_spec_ParseMany : C_spec_ParseMany = fcall X_spec_ParseMany := (rfl)
theorem cok_spec_ParseMany : codeOk CT Try.f34 (Try.f34.body.get rfl) = true := by kernel_rfl
theorem xe_spec_ParseMany (t0 t1 : Value) (m : Mem) : ex CT cf_spec_ParseMany Try.f34 2 m.length LL_spec_ParseMany (J_spec_ParseMany m.length QQ) 400 [.code (Try.f34.body.get rfl)] (argsT 0 [t0, t1]) m = X_spec_ParseMany [t0, t1] m := by kernel_rfl
theorem okc_spec_ParseMany : CallOK CT cf_spec_ParseMany := cfc_ok ok_C_spec_l1Char (cfc_ok ok_C_spec_l4Fault (cfc_ok ok_C_spec_l4Step (cfc_ok ok_C_spec_l4Copy cfn_ok)))
theorem le_spec_ParseMany_0 (k q : Nat) (t1 t4 t6 t7 : Value) (m : Mem) : ex CT cf_spec_ParseMany Try.f34 2 k LL_spec_ParseMany (J_spec_ParseMany k q) 400 (atLoop Try.f34 0) [(1, t1), (4, t4), (6, t6), (7, t7)] m = J_spec_ParseMany k (q + 1) 8 [t1, t4, t6, t7] m := by kernel_rfl
theorem gl_spec_ParseMany (k : Nat) : ∀ q i, i < 1 → GoodL CT k Try.f34 LL_spec_ParseMany (J_spec_ParseMany k q) (atLoop Try.f34 i)
  | 0, 0, _ => goodL_zero (l := 8) (by kernel_rfl) (fun vs m => by kernel_rfl)
  | 0, _ + 1, h => absurd h (by omega)
  | q + 1, 0, _ => goodL_succ (np := 2) (l := 8) (live := [1, 4, 6, 7]) (n := 1) CT_ok rfl okc_spec_ParseMany (c := (Try.f34.body.get rfl)) rfl cok_spec_ParseMany (by kernel_rfl) (gl_spec_ParseMany k q) (by kernel_rfl) rfl (fun vs m r hl h => match vs, hl with
    | [t1, t4, t6, t7], _ => (le_spec_ParseMany_0 k q t1 t4 t6 t7 m).trans h)
  | _ + 1, _ + 1, h => absurd h (by omega)
theorem ok_X_spec_ParseMany : OkX CT 34 X_spec_ParseMany := OkX.of_ex (cf := cf_spec_ParseMany) (np := 2) (LL := LL_spec_ParseMany) (J := (fun k => J_spec_ParseMany k QQ)) CT_ok rfl Try.func34 rfl (Nat.le_of_ble_eq_true rfl) (by decide) cok_spec_ParseMany okc_spec_ParseMany (fun k => allLoops rfl (by kernel_rfl) (gl_spec_ParseMany k QQ)) (fun args m r h => match args, h with
    | [t0, t1], h => ⟨rfl, (xe_spec_ParseMany t0 t1 m).trans h⟩)
theorem ok_C_spec_ParseMany : OkC CT 34 C_spec_ParseMany := fcall_ok rfl ok_X_spec_ParseMany

/-! ### impl.first -/
noncomputable def cf_impl_first : CallF := cfn
noncomputable def L_impl_first (k : Nat) : Nat → Nat → List Value → Mem → Option VM
  | q + 1, 0, [t5, t6, t7], m =>
    (binX .lss .no t7 t6) |> bo fun t8 =>
    brX t8
      (
        (ixaX 1 t5 t7) |> bo fun t9 =>
        (ld1 m t9) |> bo fun t10 =>
        (binX .neq .no t10 (.int .i64 0)) |> bo fun t12 =>
        brX t12
          (
            retK k m [] t10)
          (
            (binX .add .no t7 (.int .i64 1)) |> bo fun t14 =>
            cutK k m [] [t5, t6, t14] (L_impl_first k q 0)))
      (
        retK k m [] (.int .i64 0))
  | _, _, _, _ => none
noncomputable def J_impl_first (k q l : Nat) : List Value → Mem → Option VM := cond (Nat.beq l 2) (L_impl_first k q 0) (fun _ _ => none)
def LL_impl_first : List (Nat × List Tmp) := [(2, [5, 6, 7])]
noncomputable def X_impl_first : List Value → Mem → Option VM
  | [t0], m =>
    (lenX t0) |> bo fun t6 =>
    cutK m.length m [t0] [t0, t6, (.int .i64 0)] (L_impl_first m.length QQ 0)
  | _, _ => none
noncomputable def C_impl_first : List Value → Mem → Option VM := fcall X_impl_first
@[simp] theorem c_impl_first : C_impl_first = fcall X_impl_first := (rfl)
theorem cok_impl_first : codeOk CT Try.f88 (Try.f88.body.get rfl) = true := by kernel_rfl
theorem xe_impl_first (t0 : Value) (m : Mem) : ex CT cf_impl_first Try.f88 1 m.length LL_impl_first (J_impl_first m.length QQ) 400 [.code (Try.f88.body.get rfl)] (argsT 0 [t0]) m = X_impl_first [t0] m := by kernel_rfl
theorem okc_impl_first : CallOK CT cf_impl_first := cfn_ok
theorem le_impl_first_0 (k q : Nat) (t5 t6 t7 : Value) (m : Mem) : ex CT cf_impl_first Try.f88 1 k LL_impl_first (J_impl_first k q) 400 (atLoop Try.f88 0) [(5, t5), (6, t6), (7, t7)] m = J_impl_first k (q + 1) 2 [t5, t6, t7] m := by kernel_rfl
theorem gl_impl_first (k : Nat) : ∀ q i, i < 1 → GoodL CT k Try.f88 LL_impl_first (J_impl_first k q) (atLoop Try.f88 i)
  | 0, 0, _ => goodL_zero (l := 2) (by kernel_rfl) (fun vs m => by kernel_rfl)
  | 0, _ + 1, h => absurd h (by omega)
  | q + 1, 0, _ => goodL_succ (np := 1) (l := 2) (live := [5, 6, 7]) (n := 1) CT_ok rfl okc_impl_first (c := (Try.f88.body.get rfl)) rfl cok_impl_first (by kernel_rfl) (gl_impl_first k q) (by kernel_rfl) rfl (fun vs m r hl h => match vs, hl with
    | [t5, t6, t7], _ => (le_impl_first_0 k q t5 t6 t7 m).trans h)
  | _ + 1, _ + 1, h => absurd h (by omega)
theorem ok_X_impl_first : OkX CT 88 X_impl_first := OkX.of_ex (cf := cf_impl_first) (np := 1) (LL := LL_impl_first) (J := (fun k => J_impl_first k QQ)) CT_ok rfl Try.func88 rfl (Nat.le_of_ble_eq_true rfl) (by decide) cok_impl_first okc_impl_first (fun k => allLoops rfl (by kernel_rfl) (gl_impl_first k QQ)) (fun args m r h => match args, h with
    | [t0], h => ⟨rfl, (xe_impl_first t0 m).trans h⟩)
theorem ok_C_impl_first : OkC CT 88 C_impl_first := fcall_ok rfl ok_X_impl_first

/-! ### impl.unless -/
noncomputable def cf_impl_unless : CallF := cfn
noncomputable def X_impl_unless : List Value → Mem → Option VM
  | [t0, t1], m =>
    brX t0
      (
        retK m.length m [t0, t1] (.int .i64 0))
      (
        retK m.length m [t0, t1] t1)
  | _, _ => none
noncomputable def C_impl_unless : List Value → Mem → Option VM := fcall X_impl_unless
@[simp] theorem c_impl_unless : C_impl_unless = fcall X_impl_unless := (rfl)
theorem cok_impl_unless : codeOk CT Try.f89 (Try.f89.body.get rfl) = true := by kernel_rfl
theorem xe_impl_unless (t0 t1 : Value) (m : Mem) : ex CT cf_impl_unless Try.f89 2 m.length [] (fun _ _ _ => none) 400 [.code (Try.f89.body.get rfl)] (argsT 0 [t0, t1]) m = X_impl_unless [t0, t1] m := by kernel_rfl
theorem okc_impl_unless : CallOK CT cf_impl_unless := cfn_ok
theorem ok_X_impl_unless : OkX CT 89 X_impl_unless := OkX.of_ex (cf := cf_impl_unless) (np := 2) (LL := []) (J := (fun _ _ _ _ => none)) CT_ok rfl Try.func89 rfl (Nat.le_of_ble_eq_true rfl) (by decide) cok_impl_unless okc_impl_unless (fun k => noLoops rfl) (fun args m r h => match args, h with
    | [t0, t1], h => ⟨rfl, (xe_impl_unless t0 t1 m).trans h⟩)
theorem ok_C_impl_unless : OkC CT 89 C_impl_unless := fcall_ok rfl ok_X_impl_unless

/-! ### impl.in -/
noncomputable def cf_impl_in : CallF := cfn
noncomputable def X_impl_in : List Value → Mem → Option VM
  | [t0, t1, t2], m =>
    (binX .leq .no t1 t0) |> bo fun t9 =>
    (gd t9 true (some (t0, m)) m) |> bo fun r2 =>
    (gd t9 true (some (t2, r2.2)) r2.2) |> bo fun r3 =>
    (gd t9 true ((binX .leq .no r2.1 r3.1) |> bo fun v => some (v, r3.2)) r3.2) |> bo fun r4 =>
    (pickX t9 r4.1 (.bool false)) |> bo fun t14 =>
    retK m.length r4.2 [t0, t1, t2] t14
  | _, _ => none
noncomputable def C_impl_in : List Value → Mem → Option VM := fcall X_impl_in
@[simp] theorem c_impl_in : C_impl_in = fcall X_impl_in := (rfl)
theorem cok_impl_in : codeOk CT Try.f99 (Try.f99.body.get rfl) = true := by kernel_rfl
theorem xe_impl_in (t0 t1 t2 : Value) (m : Mem) : ex CT cf_impl_in Try.f99 3 m.length [] (fun _ _ _ => none) 400 [.code (Try.f99.body.get rfl)] (argsT 0 [t0, t1, t2]) m = X_impl_in [t0, t1, t2] m := by kernel_rfl
theorem okc_impl_in : CallOK CT cf_impl_in := cfn_ok
theorem ok_X_impl_in : OkX CT 99 X_impl_in := OkX.of_ex (cf := cf_impl_in) (np := 3) (LL := []) (J := (fun _ _ _ _ => none)) CT_ok rfl Try.func99 rfl (Nat.le_of_ble_eq_true rfl) (by decide) cok_impl_in okc_impl_in (fun k => noLoops rfl) (fun args m r h => match args, h with
    | [t0, t1, t2], h => ⟨rfl, (xe_impl_in t0 t1 t2 m).trans h⟩)
theorem ok_C_impl_in : OkC CT 99 C_impl_in := fcall_ok rfl ok_X_impl_in

/-! ### impl.isSet -/
noncomputable def cf_impl_isSet : CallF := cfc 99 C_impl_in cfn
noncomputable def X_impl_isSet : List Value → Mem → Option VM
  | [t0], m =>
    (C_impl_in [t0, (.int .i64 1), (.int .i64 2)] m) |> bo fun r1 =>
    retK m.length r1.2 [t0] r1.1
  | _, _ => none
noncomputable def C_impl_isSet : List Value → Mem → Option VM := fcall X_impl_isSet
@[simp] theorem c_impl_isSet : C_impl_isSet = fcall X_impl_isSet := (rfl)
theorem cok_impl_isSet : codeOk CT Try.f104 (Try.f104.body.get rfl) = true := by kernel_rfl
theorem xe_impl_isSet (t0 : Value) (m : Mem) : ex CT cf_impl_isSet Try.f104 1 m.length [] (fun _ _ _ => none) 400 [.code (Try.f104.body.get rfl)] (argsT 0 [t0]) m = X_impl_isSet [t0] m := by kernel_rfl
theorem okc_impl_isSet : CallOK CT cf_impl_isSet := cfc_ok ok_C_impl_in cfn_ok
theorem ok_X_impl_isSet : OkX CT 104 X_impl_isSet := OkX.of_ex (cf := cf_impl_isSet) (np := 1) (LL := []) (J := (fun _ _ _ _ => none)) CT_ok rfl Try.func104 rfl (Nat.le_of_ble_eq_true rfl) (by decide) cok_impl_isSet okc_impl_isSet (fun k => noLoops rfl) (fun args m r h => match args, h with
    | [t0], h => ⟨rfl, (xe_impl_isSet t0 m).trans h⟩)
theorem ok_C_impl_isSet : OkC CT 104 C_impl_isSet := fcall_ok rfl ok_X_impl_isSet

/-! ### impl.paramsCode$1 -/
noncomputable def cf_impl_paramsCode_1 : CallF := cfc 99 C_impl_in cfn
noncomputable def X_impl_paramsCode_1 : List Value → Mem → Option VM
  | [t0], m =>
    (C_impl_in [t0, (.int .i64 0), (.int .i64 999)] m) |> bo fun r1 =>
    (uop .not r1.1) |> bo fun t5 =>
    retK m.length r1.2 [t0] t5
  | _, _ => none
noncomputable def C_impl_paramsCode_1 : List Value → Mem → Option VM := fcall X_impl_paramsCode_1
@[simp] theorem c_impl_paramsCode_1 : C_impl_paramsCode_1 = fcall X_impl_paramsCode_1 := (rfl)
theorem cok_impl_paramsCode_1 : codeOk CT Try.f161 (Try.f161.body.get rfl) = true := by kernel_rfl
theorem xe_impl_paramsCode_1 (t0 : Value) (m : Mem) : ex CT cf_impl_paramsCode_1 Try.f161 1 m.length [] (fun _ _ _ => none) 400 [.code (Try.f161.body.get rfl)] (argsT 0 [t0]) m = X_impl_paramsCode_1 [t0] m := by kernel_rfl
theorem okc_impl_paramsCode_1 : CallOK CT cf_impl_paramsCode_1 := cfc_ok ok_C_impl_in cfn_ok
theorem ok_X_impl_paramsCode_1 : OkX CT 161 X_impl_paramsCode_1 := OkX.of_ex (cf := cf_impl_paramsCode_1) (np := 1) (LL := []) (J := (fun _ _ _ _ => none)) CT_ok rfl Try.func161 rfl (Nat.le_of_ble_eq_true rfl) (by decide) cok_impl_paramsCode_1 okc_impl_paramsCode_1 (fun k => noLoops rfl) (fun args m r h => match args, h with
    | [t0], h => ⟨rfl, (xe_impl_paramsCode_1 t0 m).trans h⟩)
theorem ok_C_impl_paramsCode_1 : OkC CT 161 C_impl_paramsCode_1 := fcall_ok rfl ok_X_impl_paramsCode_1

/-! ### slices.IndexFunc[[]int64,int64] -/
noncomputable def cf_slices_IndexFunc_int64_int64 : CallF := cfc 161 C_impl_paramsCode_1 cfn
noncomputable def L_slices_IndexFunc_int64_int64 (k : Nat) : Nat → Nat → List Value → Mem → Option VM
  | q + 1, 0, [t0, t1, t7, t8], m =>
    (binX .lss .no t8 t7) |> bo fun t9 =>
    brX t9
      (
        (ixaX 1 t0 t8) |> bo fun t14 =>
        (ld1 m t14) |> bo fun t15 =>
        (callV cf_slices_IndexFunc_int64_int64 t1 [t15] m) |> bo fun r4 =>
        brX r4.1
          (
            retK k r4.2 [t0, t1] t8)
          (
            (binX .add .no t8 (.int .i64 1)) |> bo fun t18 =>
            cutK k r4.2 [t0, t1] [t0, t1, t7, t18] (L_slices_IndexFunc_int64_int64 k q 0)))
      (
        retK k m [t0, t1] (.int .i64 (-1)))
  | _, _, _, _ => none
noncomputable def J_slices_IndexFunc_int64_int64 (k q l : Nat) : List Value → Mem → Option VM := cond (Nat.beq l 2) (L_slices_IndexFunc_int64_int64 k q 0) (fun _ _ => none)
def LL_slices_IndexFunc_int64_int64 : List (Nat × List Tmp) := [(2, [0, 1, 7, 8])]
noncomputable def X_slices_IndexFunc_int64_int64 : List Value → Mem → Option VM
  | [t0, t1], m =>
    (lenX t0) |> bo fun t7 =>
    cutK m.length m [t0, t1] [t0, t1, t7, (.int .i64 0)] (L_slices_IndexFunc_int64_int64 m.length QQ 0)
  | _, _ => none
noncomputable def C_slices_IndexFunc_int64_int64 : List Value → Mem → Option VM := fcall X_slices_IndexFunc_int64_int64
@[simp] theorem c_slices_IndexFunc_int64_int64 : C_slices_IndexFunc_int64_int64 = fcall X_slices_IndexFunc_int64_int64 := (rfl)
theorem cok_slices_IndexFunc_int64_int64 : codeOk CT Try.f183 (Try.f183.body.get rfl) = true := by kernel_rfl
theorem xe_slices_IndexFunc_int64_int64 (t0 t1 : Value) (m : Mem) : ex CT cf_slices_IndexFunc_int64_int64 Try.f183 2 m.length LL_slices_IndexFunc_int64_int64 (J_slices_IndexFunc_int64_int64 m.length QQ) 400 [.code (Try.f183.body.get rfl)] (argsT 0 [t0, t1]) m = X_slices_IndexFunc_int64_int64 [t0, t1] m := by kernel_rfl
theorem okc_slices_IndexFunc_int64_int64 : CallOK CT cf_slices_IndexFunc_int64_int64 := cfc_ok ok_C_impl_paramsCode_1 cfn_ok
theorem le_slices_IndexFunc_int64_int64_0 (k q : Nat) (t0 t1 t7 t8 : Value) (m : Mem) : ex CT cf_slices_IndexFunc_int64_int64 Try.f183 2 k LL_slices_IndexFunc_int64_int64 (J_slices_IndexFunc_int64_int64 k q) 400 (atLoop Try.f183 0) [(0, t0), (1, t1), (7, t7), (8, t8)] m = J_slices_IndexFunc_int64_int64 k (q + 1) 2 [t0, t1, t7, t8] m := by kernel_rfl
theorem gl_slices_IndexFunc_int64_int64 (k : Nat) : ∀ q i, i < 1 → GoodL CT k Try.f183 LL_slices_IndexFunc_int64_int64 (J_slices_IndexFunc_int64_int64 k q) (atLoop Try.f183 i)
  | 0, 0, _ => goodL_zero (l := 2) (by kernel_rfl) (fun vs m => by kernel_rfl)
  | 0, _ + 1, h => absurd h (by omega)
  | q + 1, 0, _ => goodL_succ (np := 2) (l := 2) (live := [0, 1, 7, 8]) (n := 1) CT_ok rfl okc_slices_IndexFunc_int64_int64 (c := (Try.f183.body.get rfl)) rfl cok_slices_IndexFunc_int64_int64 (by kernel_rfl) (gl_slices_IndexFunc_int64_int64 k q) (by kernel_rfl) rfl (fun vs m r hl h => match vs, hl with
    | [t0, t1, t7, t8], _ => (le_slices_IndexFunc_int64_int64_0 k q t0 t1 t7 t8 m).trans h)
  | _ + 1, _ + 1, h => absurd h (by omega)
theorem ok_X_slices_IndexFunc_int64_int64 : OkX CT 183 X_slices_IndexFunc_int64_int64 := OkX.of_ex (cf := cf_slices_IndexFunc_int64_int64) (np := 2) (LL := LL_slices_IndexFunc_int64_int64) (J := (fun k => J_slices_IndexFunc_int64_int64 k QQ)) CT_ok rfl Try.func183 rfl (Nat.le_of_ble_eq_true rfl) (by decide) cok_slices_IndexFunc_int64_int64 okc_slices_IndexFunc_int64_int64 (fun k => allLoops rfl (by kernel_rfl) (gl_slices_IndexFunc_int64_int64 k QQ)) (fun args m r h => match args, h with
    | [t0, t1], h => ⟨rfl, (xe_slices_IndexFunc_int64_int64 t0 t1 m).trans h⟩)
theorem ok_C_slices_IndexFunc_int64_int64 : OkC CT 183 C_slices_IndexFunc_int64_int64 := fcall_ok rfl ok_X_slices_IndexFunc_int64_int64

/-! ### slices.ContainsFunc[[]int64,int64] -/
noncomputable def cf_slices_ContainsFunc_int64_int64 : CallF := cfc 183 C_slices_IndexFunc_int64_int64 cfn
noncomputable def X_slices_ContainsFunc_int64_int64 : List Value → Mem → Option VM
  | [t0, t1], m =>
    (C_slices_IndexFunc_int64_int64 [t0, t1] m) |> bo fun r1 =>
    (binX .geq .no r1.1 (.int .i64 0)) |> bo fun t8 =>
    retK m.length r1.2 [t0, t1] t8
  | _, _ => none
noncomputable def C_slices_ContainsFunc_int64_int64 : List Value → Mem → Option VM := fcall X_slices_ContainsFunc_int64_int64
@[simp] theorem c_slices_ContainsFunc_int64_int64 : C_slices_ContainsFunc_int64_int64 = fcall X_slices_ContainsFunc_int64_int64 := (rfl)
theorem cok_slices_ContainsFunc_int64_int64 : codeOk CT Try.f160 (Try.f160.body.get rfl) = true := by kernel_rfl
theorem xe_slices_ContainsFunc_int64_int64 (t0 t1 : Value) (m : Mem) : ex CT cf_slices_ContainsFunc_int64_int64 Try.f160 2 m.length [] (fun _ _ _ => none) 400 [.code (Try.f160.body.get rfl)] (argsT 0 [t0, t1]) m = X_slices_ContainsFunc_int64_int64 [t0, t1] m := by kernel_rfl
theorem okc_slices_ContainsFunc_int64_int64 : CallOK CT cf_slices_ContainsFunc_int64_int64 := cfc_ok ok_C_slices_IndexFunc_int64_int64 cfn_ok
theorem ok_X_slices_ContainsFunc_int64_int64 : OkX CT 160 X_slices_ContainsFunc_int64_int64 := OkX.of_ex (cf := cf_slices_ContainsFunc_int64_int64) (np := 2) (LL := []) (J := (fun _ _ _ _ => none)) CT_ok rfl Try.func160 rfl (Nat.le_of_ble_eq_true rfl) (by decide) cok_slices_ContainsFunc_int64_int64 okc_slices_ContainsFunc_int64_int64 (fun k => noLoops rfl) (fun args m r h => match args, h with
    | [t0, t1], h => ⟨rfl, (xe_slices_ContainsFunc_int64_int64 t0 t1 m).trans h⟩)
theorem ok_C_slices_ContainsFunc_int64_int64 : OkC CT 160 C_slices_ContainsFunc_int64_int64 := fcall_ok rfl ok_X_slices_ContainsFunc_int64_int64

/-! ### impl.paramsCode -/
noncomputable def cf_impl_paramsCode : CallF := cfc 89 C_impl_unless (cfc 99 C_impl_in (cfc 160 C_slices_ContainsFunc_int64_int64 cfn))
noncomputable def X_impl_paramsCode : List Value → Mem → Option VM
  | [t0], m =>
    (lenX t0) |> bo fun t4 =>
    (C_impl_in [t4, (.int .i64 1), (.int .i64 6)] m) |> bo fun r2 =>
    (uop .not r2.1) |> bo fun t6 =>
    brX t6
      (
        retK m.length r2.2 [t0] (.int .i64 2))
      (
        (C_slices_ContainsFunc_int64_int64 [t0, (.func (.func 161) #[] #[])] r2.2) |> bo fun r4 =>
        (uop .not r4.1) |> bo fun t9 =>
        (C_impl_unless [t9, (.int .i64 3)] r4.2) |> bo fun r6 =>
        retK m.length r6.2 [t0] r6.1)
  | _, _ => none
noncomputable def C_impl_paramsCode : List Value → Mem → Option VM := fcall X_impl_paramsCode
@[simp] theorem c_impl_paramsCode : C_impl_paramsCode = fcall X_impl_paramsCode := (rfl)
theorem cok_impl_paramsCode : codeOk CT Try.f105 (Try.f105.body.get rfl) = true := by kernel_rfl
theorem xe_impl_paramsCode (t0 : Value) (m : Mem) : ex CT cf_impl_paramsCode Try.f105 1 m.length [] (fun _ _ _ => none) 400 [.code (Try.f105.body.get rfl)] (argsT 0 [t0]) m = X_impl_paramsCode [t0] m := by kernel_rfl
theorem okc_impl_paramsCode : CallOK CT cf_impl_paramsCode := cfc_ok ok_C_impl_unless (cfc_ok ok_C_impl_in (cfc_ok ok_C_slices_ContainsFunc_int64_int64 cfn_ok))
theorem ok_X_impl_paramsCode : OkX CT 105 X_impl_paramsCode := OkX.of_ex (cf := cf_impl_paramsCode) (np := 1) (LL := []) (J := (fun _ _ _ _ => none)) CT_ok rfl Try.func105 rfl (Nat.le_of_ble_eq_true rfl) (by decide) cok_impl_paramsCode okc_impl_paramsCode (fun k => noLoops rfl) (fun args m r h => match args, h with
    | [t0], h => ⟨rfl, (xe_impl_paramsCode t0 m).trans h⟩)
theorem ok_C_impl_paramsCode : OkC CT 105 C_impl_paramsCode := fcall_ok rfl ok_X_impl_paramsCode

/-! ### impl.ParserFault -/
noncomputable def cf_impl_ParserFault : CallF := cfc 88 C_impl_first (cfc 89 C_impl_unless (cfc 104 C_impl_isSet (cfc 105 C_impl_paramsCode cfn)))
noncomputable def X_impl_ParserFault : List Value → Mem → Option VM
  | [t0], m =>
    (boxX m t0) |> bo fun r1 =>
    (fadX 3 r1.1) |> bo fun t4 =>
    (ld1 r1.2 t4) |> bo fun t5 =>
    (lenX t5) |> bo fun t6 =>
    (binX .eql .no t6 (.int .i64 0)) |> bo fun t7 =>
    (gd t7 true ((fadX 2 r1.1) |> bo fun v => some (v, r1.2)) r1.2) |> bo fun r6 =>
    (gd t7 true ((ld1 r6.2 r6.1) |> bo fun v => some (v, r6.2)) r6.2) |> bo fun r7 =>
    (gd t7 true ((uop .not r7.1) |> bo fun v => some (v, r7.2)) r7.2) |> bo fun r8 =>
    (pickX t7 r8.1 (.bool false)) |> bo fun t12 =>
    (fadX 0 r1.1) |> bo fun t13 =>
    (ld1 r8.2 t13) |> bo fun t14 =>
    (binX .eql .no t14 (.int .i64 0)) |> bo fun t16 =>
    brX t16
      (
        brX t16
          (
            (gd t12 true ((fadX 1 r1.1) |> bo fun v => some (v, r8.2)) r8.2) |> bo fun r13 =>
            (gd t12 true ((ld1 r13.2 r13.1) |> bo fun v => some (v, r13.2)) r13.2) |> bo fun r14 =>
            (gd t12 true ((binX .eql .no r14.1 (.int .i64 0)) |> bo fun v => some (v, r14.2)) r14.2) |> bo fun r15 =>
            (pickX t12 r15.1 (.bool false)) |> bo fun t23 =>
            (C_impl_unless [t23, (.int .i64 1)] r15.2) |> bo fun r17 =>
            retK m.length r17.2 [t0] r17.1)
          (
            (binX .eql .no t14 (.int .i64 3)) |> bo fun t26 =>
            brX t26
              (
                (C_impl_unless [t12, (.int .i64 1)] r8.2) |> bo fun r19 =>
                (fadX 1 r1.1) |> bo fun t29 =>
                (ld1 r19.2 t29) |> bo fun t30 =>
                (C_impl_isSet [t30] r19.2) |> bo fun r22 =>
                (C_impl_unless [r22.1, (.int .i64 3)] r22.2) |> bo fun r23 =>
                (bslX r23.2 2 1 [.int .i64 0] [(0, 1, r19.1), (1, 1, r23.1)]) |> bo fun r24 =>
                (C_impl_first [r24.1] r24.2) |> bo fun r25 =>
                gP (stbL [((rdN t29), r8.2, r19.2)])
                  (
                    retK m.length r25.2 [t0] r25.1))
              (
                (binX .eql .no t14 (.int .i64 2)) |> bo fun t36 =>
                brX t36
                  (
                    (fadX 1 r1.1) |> bo fun t37 =>
                    (ld1 r8.2 t37) |> bo fun t38 =>
                    (binX .eql .no t38 (.int .i64 0)) |> bo fun t39 =>
                    (C_impl_unless [t39, (.int .i64 1)] r8.2) |> bo fun r30 =>
                    (fadX 3 r1.1) |> bo fun t41 =>
                    (ld1 r30.2 t41) |> bo fun t42 =>
                    (C_impl_paramsCode [t42] r30.2) |> bo fun r33 =>
                    (bslX r33.2 2 1 [.int .i64 0] [(0, 1, r30.1), (1, 1, r33.1)]) |> bo fun r34 =>
                    (C_impl_first [r34.1] r34.2) |> bo fun r35 =>
                    gP (stbL [((rdN t41), r8.2, r30.2)])
                      (
                        retK m.length r35.2 [t0] r35.1))
                  (
                    retK m.length r8.2 [t0] (.int .i64 1)))))
      (
        (binX .eql .no t14 (.int .i64 1)) |> bo fun t17 =>
        brX t17
          (
            (gd t12 true ((fadX 1 r1.1) |> bo fun v => some (v, r8.2)) r8.2) |> bo fun r37 =>
            (gd t12 true ((ld1 r37.2 r37.1) |> bo fun v => some (v, r37.2)) r37.2) |> bo fun r38 =>
            (gd t12 true ((binX .eql .no r38.1 (.int .i64 0)) |> bo fun v => some (v, r38.2)) r38.2) |> bo fun r39 =>
            (pickX t12 r39.1 (.bool false)) |> bo fun t23 =>
            (C_impl_unless [t23, (.int .i64 1)] r39.2) |> bo fun r41 =>
            retK m.length r41.2 [t0] r41.1)
          (
            (binX .eql .no t14 (.int .i64 3)) |> bo fun t26 =>
            brX t26
              (
                (C_impl_unless [t12, (.int .i64 1)] r8.2) |> bo fun r43 =>
                (fadX 1 r1.1) |> bo fun t29 =>
                (ld1 r43.2 t29) |> bo fun t30 =>
                (C_impl_isSet [t30] r43.2) |> bo fun r46 =>
                (C_impl_unless [r46.1, (.int .i64 3)] r46.2) |> bo fun r47 =>
                (bslX r47.2 2 1 [.int .i64 0] [(0, 1, r43.1), (1, 1, r47.1)]) |> bo fun r48 =>
                (C_impl_first [r48.1] r48.2) |> bo fun r49 =>
                gP (stbL [((rdN t29), r8.2, r43.2)])
                  (
                    retK m.length r49.2 [t0] r49.1))
              (
                (binX .eql .no t14 (.int .i64 2)) |> bo fun t36 =>
                brX t36
                  (
                    (fadX 1 r1.1) |> bo fun t37 =>
                    (ld1 r8.2 t37) |> bo fun t38 =>
                    (binX .eql .no t38 (.int .i64 0)) |> bo fun t39 =>
                    (C_impl_unless [t39, (.int .i64 1)] r8.2) |> bo fun r54 =>
                    (fadX 3 r1.1) |> bo fun t41 =>
                    (ld1 r54.2 t41) |> bo fun t42 =>
                    (C_impl_paramsCode [t42] r54.2) |> bo fun r57 =>
                    (bslX r57.2 2 1 [.int .i64 0] [(0, 1, r54.1), (1, 1, r57.1)]) |> bo fun r58 =>
                    (C_impl_first [r58.1] r58.2) |> bo fun r59 =>
                    gP (stbL [((rdN t41), r8.2, r54.2)])
                      (
                        retK m.length r59.2 [t0] r59.1))
                  (
                    retK m.length r8.2 [t0] (.int .i64 1)))))
  | _, _ => none
noncomputable def C_impl_ParserFault : List Value → Mem → Option VM := fcall X_impl_ParserFault
@[simp] theorem c_impl_ParserFault : C_impl_ParserFault = fcall X_impl_ParserFault := (rfl)
theorem cok_impl_ParserFault : codeOk CT Try.f25 (Try.f25.body.get rfl) = true := by kernel_rfl
theorem xe_impl_ParserFault (t0 : Value) (m : Mem) : ex CT cf_impl_ParserFault Try.f25 1 m.length [] (fun _ _ _ => none) 400 [.code (Try.f25.body.get rfl)] (argsT 0 [t0]) m = X_impl_ParserFault [t0] m := by kernel_rfl
theorem okc_impl_ParserFault : CallOK CT cf_impl_ParserFault := cfc_ok ok_C_impl_first (cfc_ok ok_C_impl_unless (cfc_ok ok_C_impl_isSet (cfc_ok ok_C_impl_paramsCode cfn_ok)))
theorem ok_X_impl_ParserFault : OkX CT 25 X_impl_ParserFault := OkX.of_ex (cf := cf_impl_ParserFault) (np := 1) (LL := []) (J := (fun _ _ _ _ => none)) CT_ok rfl Try.func25 rfl (Nat.le_of_ble_eq_true rfl) (by decide) cok_impl_ParserFault okc_impl_ParserFault (fun k => noLoops rfl) (fun args m r h => match args, h with
    | [t0], h => ⟨rfl, (xe_impl_ParserFault t0 m).trans h⟩)
theorem ok_C_impl_ParserFault : OkC CT 25 C_impl_ParserFault := fcall_ok rfl ok_X_impl_ParserFault

/-! ### impl.isChar -/
noncomputable def cf_impl_isChar : CallF := cfc 99 C_impl_in cfn
noncomputable def X_impl_isChar : List Value → Mem → Option VM
  | [t0], m =>
    (C_impl_in [t0, (.int .i64 0), (.int .i64 65535)] m) |> bo fun r1 =>
    (gd r1.1 true (some (t0, r1.2)) r1.2) |> bo fun r2 =>
    (gd r1.1 true ((C_impl_in [r2.1, (.int .i64 55296), (.int .i64 57343)] r2.2) |> bo fun r => some (r.1, r.2)) r2.2) |> bo fun r3 =>
    (gd r1.1 true ((uop .not r3.1) |> bo fun v => some (v, r3.2)) r3.2) |> bo fun r4 =>
    (pickX r1.1 r4.1 (.bool false)) |> bo fun t9 =>
    retK m.length r4.2 [t0] t9
  | _, _ => none
noncomputable def C_impl_isChar : List Value → Mem → Option VM := fcall X_impl_isChar
@[simp] theorem c_impl_isChar : C_impl_isChar = fcall X_impl_isChar := (rfl)
theorem cok_impl_isChar : codeOk CT Try.f95 (Try.f95.body.get rfl) = true := by kernel_rfl
theorem xe_impl_isChar (t0 : Value) (m : Mem) : ex CT cf_impl_isChar Try.f95 1 m.length [] (fun _ _ _ => none) 400 [.code (Try.f95.body.get rfl)] (argsT 0 [t0]) m = X_impl_isChar [t0] m := by kernel_rfl
theorem okc_impl_isChar : CallOK CT cf_impl_isChar := cfc_ok ok_C_impl_in cfn_ok
theorem ok_X_impl_isChar : OkX CT 95 X_impl_isChar := OkX.of_ex (cf := cf_impl_isChar) (np := 1) (LL := []) (J := (fun _ _ _ _ => none)) CT_ok rfl Try.func95 rfl (Nat.le_of_ble_eq_true rfl) (by decide) cok_impl_isChar okc_impl_isChar (fun k => noLoops rfl) (fun args m r h => match args, h with
    | [t0], h => ⟨rfl, (xe_impl_isChar t0 m).trans h⟩)
theorem ok_C_impl_isChar : OkC CT 95 C_impl_isChar := fcall_ok rfl ok_X_impl_isChar

/-! ### slices.Clone[[]int64,int64] -/
noncomputable def cf_slices_Clone_int64_int64 : CallF := cfn
noncomputable def X_slices_Clone_int64_int64 : List Value → Mem → Option VM
  | [t0], m =>
    (nlX .eql t0) |> bo fun t4 =>
    brX t4
      (
        retK m.length m [t0] (.slice none 0 0))
      (
        (bslX m 0 1 [.int .i64 0] []) |> bo fun r2 =>
        (apL r2.2 1 8 r2.1 t0) |> bo fun r3 =>
        retK m.length r3.2 [t0] r3.1)
  | _, _ => none
theorem cok_slices_Clone_int64_int64 : codeOk CT Try.f163 (Try.f163.body.get rfl) = true := by kernel_rfl
theorem xe_slices_Clone_int64_int64 (t0 : Value) (m : Mem) : ex CT cf_slices_Clone_int64_int64 Try.f163 1 m.length [] (fun _ _ _ => none) 400 [.code (Try.f163.body.get rfl)] (argsT 0 [t0]) m = X_slices_Clone_int64_int64 [t0] m := by kernel_rfl
theorem okc_slices_Clone_int64_int64 : CallOK CT cf_slices_Clone_int64_int64 := cfn_ok
theorem ok_X_slices_Clone_int64_int64 : OkX CT 163 X_slices_Clone_int64_int64 := OkX.of_ex (cf := cf_slices_Clone_int64_int64) (np := 1) (LL := []) (J := (fun _ _ _ _ => none)) CT_ok rfl Try.func163 rfl (Nat.le_of_ble_eq_true rfl) (by decide) cok_slices_Clone_int64_int64 okc_slices_Clone_int64_int64 (fun k => noLoops rfl) (fun args m r h => match args, h with
    | [t0], h => ⟨rfl, (xe_slices_Clone_int64_int64 t0 m).trans h⟩)
noncomputable def C_slices_Clone_int64_int64 : List Value → Mem → Option VM := cloneC 1
@[simp] theorem c_slices_Clone_int64_int64 : C_slices_Clone_int64_int64 = cloneC 1 := (rfl)
theorem cl0_slices_Clone_int64_int64 : X_slices_Clone_int64_int64 [.float .f64 0] [] = some (.slice none 0 0, []) := by simp -implicitDefEqProofs [X_slices_Clone_int64_int64, retK_eq]
theorem cl1_slices_Clone_int64_int64 : X_slices_Clone_int64_int64 [.float .f64 1] [] = some (.slice (some ⟨0, 0, none⟩) 0 0, [⟨[], 1, true, true⟩]) := by simp -implicitDefEqProofs [X_slices_Clone_int64_int64, retK_eq, apL_f1]
theorem cl2_slices_Clone_int64_int64 (len : Nat) (cs : Array Value) (hl : len ≠ 0) (hs : cs.size = len * 1) (hk : len < 1000000000) (hh : cs.toList.all hard = true) : X_slices_Clone_int64_int64 [.iface len (.agg cs)] [] = some (.slice (some ⟨0, 0, none⟩) len len, [⟨cs.toList, 1, true, true⟩]) := by
  have ha := fun m n o c => apL_agg (m := m) (sz := 1) (bytes := 8) (n := n) (o := o) (len := 0) (c := c) hs (by omega) (by omega)
  simp -implicitDefEqProofs [X_slices_Clone_int64_int64, retK_eq, ha, hl, hard_all hh]
theorem ok_C_slices_Clone_int64_int64 : OkC CT 163 C_slices_Clone_int64_int64 := cloneC_ok rfl ok_X_slices_Clone_int64_int64 cl0_slices_Clone_int64_int64 cl1_slices_Clone_int64_int64 cl2_slices_Clone_int64_int64

/-! ### (impl.Parser).clone -/
noncomputable def cf_impl_Parser_clone : CallF := cfc 163 C_slices_Clone_int64_int64 cfn
noncomputable def X_impl_Parser_clone : List Value → Mem → Option VM
  | [t0], m =>
    (boxX m t0) |> bo fun r1 =>
    (alX r1.2 [.int .i64 0, .int .i64 0, .bool false, .slice none 0 0]) |> bo fun r2 =>
    (fadX 3 r1.1) |> bo fun t3 =>
    (ld1 r2.2 t3) |> bo fun t4 =>
    (C_slices_Clone_int64_int64 [t4] r2.2) |> bo fun r5 =>
    (fadX 3 r1.1) |> bo fun t6 =>
    (stX r5.2 1 t6 r5.1) |> bo fun m7 =>
    (ldS m7 4 r1.1) |> bo fun t7 =>
    (stX m7 4 r2.1 t7) |> bo fun m9 =>
    (resP (some 4) m9 r2.1) |> bo fun c10 =>
    retK m.length m9 [t0] c10
  | _, _ => none
noncomputable def C_impl_Parser_clone : List Value → Mem → Option VM := fcall X_impl_Parser_clone
@[simp] theorem c_impl_Parser_clone : C_impl_Parser_clone = fcall X_impl_Parser_clone := (rfl)
theorem cok_impl_Parser_clone : codeOk CT Try.f113 (Try.f113.body.get rfl) = true := by kernel_rfl
theorem xe_impl_Parser_clone (t0 : Value) (m : Mem) : ex CT cf_impl_Parser_clone Try.f113 1 m.length [] (fun _ _ _ => none) 400 [.code (Try.f113.body.get rfl)] (argsT 0 [t0]) m = X_impl_Parser_clone [t0] m := by kernel_rfl
theorem okc_impl_Parser_clone : CallOK CT cf_impl_Parser_clone := cfc_ok ok_C_slices_Clone_int64_int64 cfn_ok
theorem ok_X_impl_Parser_clone : OkX CT 113 X_impl_Parser_clone := OkX.of_ex (cf := cf_impl_Parser_clone) (np := 1) (LL := []) (J := (fun _ _ _ _ => none)) CT_ok rfl Try.func113 rfl (Nat.le_of_ble_eq_true rfl) (by decide) cok_impl_Parser_clone okc_impl_Parser_clone (fun k => noLoops rfl) (fun args m r h => match args, h with
    | [t0], h => ⟨rfl, (xe_impl_Parser_clone t0 m).trans h⟩)
theorem ok_C_impl_Parser_clone : OkC CT 113 C_impl_Parser_clone := fcall_ok rfl ok_X_impl_Parser_clone

/-! ### impl.afterEscape -/
noncomputable def cf_impl_afterEscape : CallF := cfc 99 C_impl_in cfn
noncomputable def X_impl_afterEscape : List Value → Mem → Option VM
  | [t0], m =>
    (alX m [.int .i64 0, .int .i64 0, .int .i64 0, .bool false, .slice none 0 0]) |> bo fun r1 =>
    (alX r1.2 [.int .i64 0, .int .i64 0, .bool false, .slice none 0 0]) |> bo fun r2 =>
    (binX .eql .no t0 (.int .i64 91)) |> bo fun t6 =>
    brX t6
      (
        (bldX [.int .i64 0, .int .i64 0, .int .i64 0, .bool false, .slice none 0 0] []) |> bo fun t7 =>
        (bslX r2.2 1 1 [.int .i64 0] [(0, 1, (.int .i64 0))]) |> bo fun r5 =>
        (bldX [.int .i64 0, .int .i64 0, .bool false, .slice none 0 0] [(0, 1, (.int .i64 2)), (3, 1, r5.1)]) |> bo fun t9 =>
        (stX r5.2 5 r1.1 t7) |> bo fun m7 =>
        (stX m7 4 r2.1 t9) |> bo fun m8 =>
        (resP (some 5) m8 r1.1) |> bo fun c9 =>
        (resP (some 4) m8 r2.1) |> bo fun c10 =>
        retK m.length m8 [t0] (.tuple #[c9, c10]))
      (
        (binX .eql .no t0 (.int .i64 40)) |> bo fun t12 =>
        (gd t12 false (some (t0, r2.2)) r2.2) |> bo fun r12 =>
        (gd t12 false ((binX .eql .no r12.1 (.int .i64 41)) |> bo fun v => some (v, r12.2)) r12.2) |> bo fun r13 =>
        (pickX t12 (.bool true) r13.1) |> bo fun t16 =>
        brX t16
          (
            (bldX [.int .i64 0, .int .i64 0, .int .i64 0, .bool false, .slice none 0 0] []) |> bo fun t17 =>
            (binX .sub .no t0 (.int .i64 40)) |> bo fun t19 =>
            (binX .add .no t19 (.int .i64 1)) |> bo fun t20 =>
            (bldX [.int .i64 0, .int .i64 0, .bool false, .slice none 0 0] [(0, 1, (.int .i64 3)), (1, 1, t20)]) |> bo fun t21 =>
            (stX r13.2 5 r1.1 t17) |> bo fun m19 =>
            (stX m19 4 r2.1 t21) |> bo fun m20 =>
            (resP (some 5) m20 r1.1) |> bo fun c21 =>
            (resP (some 4) m20 r2.1) |> bo fun c22 =>
            retK m.length m20 [t0] (.tuple #[c21, c22]))
          (
            (C_impl_in [t0, (.int .i64 48), (.int .i64 126)] r13.2) |> bo fun r23 =>
            brX r23.1
              (
                (bldX [.int .i64 0, .int .i64 0, .int .i64 0, .bool false, .slice none 0 0] [(0, 1, (.int .i64 3)), (1, 1, t0)]) |> bo fun t26 =>
                (bldX [.int .i64 0, .int .i64 0, .bool false, .slice none 0 0] []) |> bo fun t27 =>
                (stX r23.2 5 r1.1 t26) |> bo fun m26 =>
                (stX m26 4 r2.1 t27) |> bo fun m27 =>
                (resP (some 5) m27 r1.1) |> bo fun c28 =>
                (resP (some 4) m27 r2.1) |> bo fun c29 =>
                retK m.length m27 [t0] (.tuple #[c28, c29]))
              (
                (bldX [.int .i64 0, .int .i64 0, .int .i64 0, .bool false, .slice none 0 0] []) |> bo fun t28 =>
                (bldX [.int .i64 0, .int .i64 0, .bool false, .slice none 0 0] []) |> bo fun t29 =>
                (stX r23.2 5 r1.1 t28) |> bo fun m32 =>
                (stX m32 4 r2.1 t29) |> bo fun m33 =>
                (resP (some 5) m33 r1.1) |> bo fun c34 =>
                (resP (some 4) m33 r2.1) |> bo fun c35 =>
                retK m.length m33 [t0] (.tuple #[c34, c35]))))
  | _, _ => none
noncomputable def C_impl_afterEscape : List Value → Mem → Option VM := fcall X_impl_afterEscape
@[simp] theorem c_impl_afterEscape : C_impl_afterEscape = fcall X_impl_afterEscape := (rfl)
theorem cok_impl_afterEscape : codeOk CT Try.f155 (Try.f155.body.get rfl) = true := by kernel_rfl
theorem xe_impl_afterEscape (t0 : Value) (m : Mem) : ex CT cf_impl_afterEscape Try.f155 1 m.length [] (fun _ _ _ => none) 400 [.code (Try.f155.body.get rfl)] (argsT 0 [t0]) m = X_impl_afterEscape [t0] m := by kernel_rfl
theorem okc_impl_afterEscape : CallOK CT cf_impl_afterEscape := cfc_ok ok_C_impl_in cfn_ok
theorem ok_X_impl_afterEscape : OkX CT 155 X_impl_afterEscape := OkX.of_ex (cf := cf_impl_afterEscape) (np := 1) (LL := []) (J := (fun _ _ _ _ => none)) CT_ok rfl Try.func155 rfl (Nat.le_of_ble_eq_true rfl) (by decide) cok_impl_afterEscape okc_impl_afterEscape (fun k => noLoops rfl) (fun args m r h => match args, h with
    | [t0], h => ⟨rfl, (xe_impl_afterEscape t0 m).trans h⟩)
theorem ok_C_impl_afterEscape : OkC CT 155 C_impl_afterEscape := fcall_ok rfl ok_X_impl_afterEscape

/-! ### (impl.Parser).inParams -/
noncomputable def cf_impl_Parser_inParams : CallF := cfc 99 C_impl_in cfn
noncomputable def X_impl_Parser_inParams : List Value → Mem → Option VM
  | [t0, t1], m =>
    (boxX m t0) |> bo fun r1 =>
    (alX r1.2 [.int .i64 0, .int .i64 0, .int .i64 0, .bool false, .slice none 0 0]) |> bo fun r2 =>
    (alX r2.2 [.int .i64 0, .int .i64 0, .bool false, .slice none 0 0]) |> bo fun r3 =>
    (fadX 3 r1.1) |> bo fun t7 =>
    (ld1 r3.2 t7) |> bo fun t8 =>
    (lenX t8) |> bo fun t9 =>
    (binX .sub .no t9 (.int .i64 1)) |> bo fun t10 =>
    (C_impl_in [t1, (.int .i64 48), (.int .i64 57)] r3.2) |> bo fun r8 =>
    brX r8.1
      (
        (fadX 3 r1.1) |> bo fun t14 =>
        (ld1 r8.2 t14) |> bo fun t15 =>
        (fadX 3 r1.1) |> bo fun t17 =>
        (ld1 r8.2 t17) |> bo fun t18 =>
        (ixaX 1 t18 t10) |> bo fun t20 =>
        (ld1 r8.2 t20) |> bo fun t21 =>
        (binX .mul .no (.int .i64 10) t21) |> bo fun t22 =>
        (binX .add .no t22 t1) |> bo fun t24 =>
        (binX .sub .no t24 (.int .i64 48)) |> bo fun t25 =>
        (minMax false t25 [(.int .i64 999)]) |> bo fun t26 =>
        (ixaX 1 t15 t10) |> bo fun t27 =>
        (stX r8.2 1 t27 t26) |> bo fun m20 =>
        (bldX [.int .i64 0, .int .i64 0, .int .i64 0, .bool false, .slice none 0 0] []) |> bo fun t61 =>
        (ldS m20 4 r1.1) |> bo fun t62 =>
        (stX m20 5 r2.1 t61) |> bo fun m23 =>
        (stX m23 4 r3.1 t62) |> bo fun m24 =>
        gP (stbL [((rdN r1.1), m20, m23)])
          (
            (resP (some 5) m24 r2.1) |> bo fun c25 =>
            (resP (some 4) m24 r3.1) |> bo fun c26 =>
            retK m.length m24 [t0, t1] (.tuple #[c25, c26])))
      (
        (binX .eql .no t1 (.int .i64 59)) |> bo fun t30 =>
        (gd t30 true ((fadX 3 r1.1) |> bo fun v => some (v, r8.2)) r8.2) |> bo fun r28 =>
        (gd t30 true ((ld1 r28.2 r28.1) |> bo fun v => some (v, r28.2)) r28.2) |> bo fun r29 =>
        (gd t30 true ((lenX r29.1) |> bo fun v => some (v, r29.2)) r29.2) |> bo fun r30 =>
        (gd t30 true ((binX .lss .no r30.1 (.int .i64 6)) |> bo fun v => some (v, r30.2)) r30.2) |> bo fun r31 =>
        (pickX t30 r31.1 (.bool false)) |> bo fun t36 =>
        brX t36
          (
            (fadX 3 r1.1) |> bo fun t37 =>
            (ld1 r31.2 t37) |> bo fun t38 =>
            (bslX r31.2 1 1 [.int .i64 0] [(0, 1, (.int .i64 0))]) |> bo fun r35 =>
            (apL r35.2 1 8 t38 r35.1) |> bo fun r36 =>
            (fadX 3 r1.1) |> bo fun t41 =>
            (stX r36.2 1 t41 r36.1) |> bo fun m38 =>
            (bldX [.int .i64 0, .int .i64 0, .int .i64 0, .bool false, .slice none 0 0] []) |> bo fun t61 =>
            (ldS m38 4 r1.1) |> bo fun t62 =>
            (stX m38 5 r2.1 t61) |> bo fun m41 =>
            (stX m41 4 r3.1 t62) |> bo fun m42 =>
            gP (stbL [((rdN r1.1), m38, m41)])
              (
                (resP (some 5) m42 r2.1) |> bo fun c43 =>
                (resP (some 4) m42 r3.1) |> bo fun c44 =>
                retK m.length m42 [t0, t1] (.tuple #[c43, c44])))
          (
            (binX .eql .no t1 (.int .i64 63)) |> bo fun t44 =>
            brX t44
              (
                (fadX 2 r1.1) |> bo fun t45 =>
                (stX r31.2 1 t45 (.bool true)) |> bo fun m47 =>
                (bldX [.int .i64 0, .int .i64 0, .int .i64 0, .bool false, .slice none 0 0] []) |> bo fun t61 =>
                (ldS m47 4 r1.1) |> bo fun t62 =>
                (stX m47 5 r2.1 t61) |> bo fun m50 =>
                (stX m50 4 r3.1 t62) |> bo fun m51 =>
                gP (stbL [((rdN r1.1), m47, m50)])
                  (
                    (resP (some 5) m51 r2.1) |> bo fun c52 =>
                    (resP (some 4) m51 r3.1) |> bo fun c53 =>
                    retK m.length m51 [t0, t1] (.tuple #[c52, c53])))
              (
                (C_impl_in [t1, (.int .i64 64), (.int .i64 126)] r31.2) |> bo fun r54 =>
                brX r54.1
                  (
                    (fadX 2 r1.1) |> bo fun t50 =>
                    (ld1 r54.2 t50) |> bo fun t51 =>
                    (fadX 3 r1.1) |> bo fun t52 =>
                    (ld1 r54.2 t52) |> bo fun t53 =>
                    (bldX [.int .i64 0, .int .i64 0, .int .i64 0, .bool false, .slice none 0 0] [(0, 1, (.int .i64 4)), (1, 1, t1), (3, 1, t51), (4, 1, t53)]) |> bo fun t54 =>
                    (bldX [.int .i64 0, .int .i64 0, .bool false, .slice none 0 0] []) |> bo fun t55 =>
                    (stX r54.2 5 r2.1 t54) |> bo fun m61 =>
                    (stX m61 4 r3.1 t55) |> bo fun m62 =>
                    (resP (some 5) m62 r2.1) |> bo fun c63 =>
                    (resP (some 4) m62 r3.1) |> bo fun c64 =>
                    retK m.length m62 [t0, t1] (.tuple #[c63, c64]))
                  (
                    (binX .gtr .no t1 (.int .i64 126)) |> bo fun t58 =>
                    brX t58
                      (
                        (bldX [.int .i64 0, .int .i64 0, .int .i64 0, .bool false, .slice none 0 0] []) |> bo fun t59 =>
                        (bldX [.int .i64 0, .int .i64 0, .bool false, .slice none 0 0] []) |> bo fun t60 =>
                        (stX r54.2 5 r2.1 t59) |> bo fun m68 =>
                        (stX m68 4 r3.1 t60) |> bo fun m69 =>
                        (resP (some 5) m69 r2.1) |> bo fun c70 =>
                        (resP (some 4) m69 r3.1) |> bo fun c71 =>
                        retK m.length m69 [t0, t1] (.tuple #[c70, c71]))
                      (
                        (bldX [.int .i64 0, .int .i64 0, .int .i64 0, .bool false, .slice none 0 0] []) |> bo fun t61 =>
                        (ldS r54.2 4 r1.1) |> bo fun t62 =>
                        (stX r54.2 5 r2.1 t61) |> bo fun m74 =>
                        (stX m74 4 r3.1 t62) |> bo fun m75 =>
                        gP (stbL [((rdN r1.1), r54.2, m74)])
                          (
                            (resP (some 5) m75 r2.1) |> bo fun c76 =>
                            (resP (some 4) m75 r3.1) |> bo fun c77 =>
                            retK m.length m75 [t0, t1] (.tuple #[c76, c77])))))))
  | _, _ => none
noncomputable def C_impl_Parser_inParams : List Value → Mem → Option VM := rcall X_impl_Parser_inParams
@[simp] theorem c_impl_Parser_inParams : C_impl_Parser_inParams = rcall X_impl_Parser_inParams := (rfl)
theorem cok_impl_Parser_inParams : codeOk CT Try.f156 (Try.f156.body.get rfl) = true := by kernel_rfl
theorem xe_impl_Parser_inParams (t0 t1 : Value) (m : Mem) : ex CT cf_impl_Parser_inParams Try.f156 2 m.length [] (fun _ _ _ => none) 400 [.code (Try.f156.body.get rfl)] (argsT 0 [t0, t1]) m = X_impl_Parser_inParams [t0, t1] m := by kernel_rfl
theorem okc_impl_Parser_inParams : CallOK CT cf_impl_Parser_inParams := cfc_ok ok_C_impl_in cfn_ok
theorem ok_X_impl_Parser_inParams : OkX CT 156 X_impl_Parser_inParams := OkX.of_ex (cf := cf_impl_Parser_inParams) (np := 2) (LL := []) (J := (fun _ _ _ _ => none)) CT_ok rfl Try.func156 rfl (Nat.le_of_ble_eq_true rfl) (by decide) cok_impl_Parser_inParams okc_impl_Parser_inParams (fun k => noLoops rfl) (fun args m r h => match args, h with
    | [t0, t1], h => ⟨rfl, (xe_impl_Parser_inParams t0 t1 m).trans h⟩)
theorem ok_C_impl_Parser_inParams : OkC CT 156 C_impl_Parser_inParams := rcall_ok rfl ok_X_impl_Parser_inParams

/-! ### (impl.Parser).hear -/
noncomputable def cf_impl_Parser_hear : CallF := cfc 113 C_impl_Parser_clone (cfc 155 C_impl_afterEscape (cfc 156 C_impl_Parser_inParams cfn))
noncomputable def X_impl_Parser_hear : List Value → Mem → Option VM
  | [t0, t1], m =>
    (boxX m t0) |> bo fun r1 =>
    (alX r1.2 [.int .i64 0, .int .i64 0, .int .i64 0, .bool false, .slice none 0 0]) |> bo fun r2 =>
    (alX r2.2 [.int .i64 0, .int .i64 0, .bool false, .slice none 0 0]) |> bo fun r3 =>
    (binX .eql .no t1 (.int .i64 24)) |> bo fun t8 =>
    (gd t8 false (some (t1, r3.2)) r3.2) |> bo fun r5 =>
    (gd t8 false ((binX .eql .no r5.1 (.int .i64 26)) |> bo fun v => some (v, r5.2)) r5.2) |> bo fun r6 =>
    (pickX t8 (.bool true) r6.1) |> bo fun t12 =>
    brX t12
      (
        (bldX [.int .i64 0, .int .i64 0, .int .i64 0, .bool false, .slice none 0 0] []) |> bo fun t13 =>
        (bldX [.int .i64 0, .int .i64 0, .bool false, .slice none 0 0] []) |> bo fun t14 =>
        (stX r6.2 5 r2.1 t13) |> bo fun m10 =>
        (stX m10 4 r3.1 t14) |> bo fun m11 =>
        (resP (some 5) m11 r2.1) |> bo fun c12 =>
        (resP (some 4) m11 r3.1) |> bo fun c13 =>
        retK m.length m11 [t0, t1] (.tuple #[c12, c13]))
      (
        (binX .eql .no t1 (.int .i64 27)) |> bo fun t17 =>
        brX t17
          (
            (bldX [.int .i64 0, .int .i64 0, .int .i64 0, .bool false, .slice none 0 0] []) |> bo fun t18 =>
            (bldX [.int .i64 0, .int .i64 0, .bool false, .slice none 0 0] [(0, 1, (.int .i64 1))]) |> bo fun t19 =>
            (stX r6.2 5 r2.1 t18) |> bo fun m17 =>
            (stX m17 4 r3.1 t19) |> bo fun m18 =>
            (resP (some 5) m18 r2.1) |> bo fun c19 =>
            (resP (some 4) m18 r3.1) |> bo fun c20 =>
            retK m.length m18 [t0, t1] (.tuple #[c19, c20]))
          (
            (binX .lss .no t1 (.int .i64 32)) |> bo fun t22 =>
            brX t22
              (
                (bldX [.int .i64 0, .int .i64 0, .int .i64 0, .bool false, .slice none 0 0] [(0, 1, (.int .i64 2)), (1, 1, t1)]) |> bo fun t24 =>
                (ldS r6.2 4 r1.1) |> bo fun t25 =>
                (C_impl_Parser_clone [t25] r6.2) |> bo fun r24 =>
                (stX r24.2 5 r2.1 t24) |> bo fun m25 =>
                (stX m25 4 r3.1 r24.1) |> bo fun m26 =>
                (resP (some 5) m26 r2.1) |> bo fun c27 =>
                (resP (some 4) m26 r3.1) |> bo fun c28 =>
                retK m.length m26 [t0, t1] (.tuple #[c27, c28]))
              (
                (binX .eql .no t1 (.int .i64 127)) |> bo fun t29 =>
                brX t29
                  (
                    (bldX [.int .i64 0, .int .i64 0, .int .i64 0, .bool false, .slice none 0 0] []) |> bo fun t30 =>
                    (ldS r6.2 4 r1.1) |> bo fun t31 =>
                    (C_impl_Parser_clone [t31] r6.2) |> bo fun r32 =>
                    (stX r32.2 5 r2.1 t30) |> bo fun m33 =>
                    (stX m33 4 r3.1 r32.1) |> bo fun m34 =>
                    (resP (some 5) m34 r2.1) |> bo fun c35 =>
                    (resP (some 4) m34 r3.1) |> bo fun c36 =>
                    retK m.length m34 [t0, t1] (.tuple #[c35, c36]))
                  (
                    (fadX 0 r1.1) |> bo fun t33 =>
                    (ld1 r6.2 t33) |> bo fun t34 =>
                    (binX .eql .no t34 (.int .i64 0)) |> bo fun t36 =>
                    brX t36
                      (
                        (bldX [.int .i64 0, .int .i64 0, .int .i64 0, .bool false, .slice none 0 0] [(0, 1, (.int .i64 1)), (1, 1, t1)]) |> bo fun t38 =>
                        (bldX [.int .i64 0, .int .i64 0, .bool false, .slice none 0 0] []) |> bo fun t39 =>
                        (stX r6.2 5 r2.1 t38) |> bo fun m42 =>
                        (stX m42 4 r3.1 t39) |> bo fun m43 =>
                        (resP (some 5) m43 r2.1) |> bo fun c44 =>
                        (resP (some 4) m43 r3.1) |> bo fun c45 =>
                        retK m.length m43 [t0, t1] (.tuple #[c44, c45]))
                      (
                        (binX .eql .no t34 (.int .i64 1)) |> bo fun t41 =>
                        brX t41
                          (
                            (C_impl_afterEscape [t1] r6.2) |> bo fun r47 =>
                            (extX 0 r47.1) |> bo fun t44 =>
                            (extX 1 r47.1) |> bo fun t45 =>
                            (stX r47.2 5 r2.1 t44) |> bo fun m50 =>
                            (stX m50 4 r3.1 t45) |> bo fun m51 =>
                            (resP (some 5) m51 r2.1) |> bo fun c52 =>
                            (resP (some 4) m51 r3.1) |> bo fun c53 =>
                            retK m.length m51 [t0, t1] (.tuple #[c52, c53]))
                          (
                            (binX .eql .no t34 (.int .i64 3)) |> bo fun t47 =>
                            brX t47
                              (
                                (fadX 1 r1.1) |> bo fun t49 =>
                                (ld1 r6.2 t49) |> bo fun t50 =>
                                (bldX [.int .i64 0, .int .i64 0, .int .i64 0, .bool false, .slice none 0 0] [(0, 1, (.int .i64 5)), (1, 1, t1), (2, 1, t50)]) |> bo fun t51 =>
                                (bldX [.int .i64 0, .int .i64 0, .bool false, .slice none 0 0] []) |> bo fun t52 =>
                                (stX r6.2 5 r2.1 t51) |> bo fun m59 =>
                                (stX m59 4 r3.1 t52) |> bo fun m60 =>
                                (resP (some 5) m60 r2.1) |> bo fun c61 =>
                                (resP (some 4) m60 r3.1) |> bo fun c62 =>
                                retK m.length m60 [t0, t1] (.tuple #[c61, c62]))
                              (
                                (ldS r6.2 4 r1.1) |> bo fun t53 =>
                                (C_impl_Parser_clone [t53] r6.2) |> bo fun r64 =>
                                (C_impl_Parser_inParams [r64.1, t1] r64.2) |> bo fun r65 =>
                                (extX 0 r65.1) |> bo fun t57 =>
                                (extX 1 r65.1) |> bo fun t58 =>
                                (stX r65.2 5 r2.1 t57) |> bo fun m68 =>
                                (stX m68 4 r3.1 t58) |> bo fun m69 =>
                                (resP (some 5) m69 r2.1) |> bo fun c70 =>
                                (resP (some 4) m69 r3.1) |> bo fun c71 =>
                                retK m.length m69 [t0, t1] (.tuple #[c70, c71]))))))))
  | _, _ => none
noncomputable def C_impl_Parser_hear : List Value → Mem → Option VM := fcall X_impl_Parser_hear
@[simp] theorem c_impl_Parser_hear : C_impl_Parser_hear = fcall X_impl_Parser_hear := (rfl)
theorem cok_impl_Parser_hear : codeOk CT Try.f101 (Try.f101.body.get rfl) = true := by kernel_rfl
theorem xe_impl_Parser_hear (t0 t1 : Value) (m : Mem) : ex CT cf_impl_Parser_hear Try.f101 2 m.length [] (fun _ _ _ => none) 400 [.code (Try.f101.body.get rfl)] (argsT 0 [t0, t1]) m = X_impl_Parser_hear [t0, t1] m := by kernel_rfl
theorem okc_impl_Parser_hear : CallOK CT cf_impl_Parser_hear := cfc_ok ok_C_impl_Parser_clone (cfc_ok ok_C_impl_afterEscape (cfc_ok ok_C_impl_Parser_inParams cfn_ok))
theorem ok_X_impl_Parser_hear : OkX CT 101 X_impl_Parser_hear := OkX.of_ex (cf := cf_impl_Parser_hear) (np := 2) (LL := []) (J := (fun _ _ _ _ => none)) CT_ok rfl Try.func101 rfl (Nat.le_of_ble_eq_true rfl) (by decide) cok_impl_Parser_hear okc_impl_Parser_hear (fun k => noLoops rfl) (fun args m r h => match args, h with
    | [t0, t1], h => ⟨rfl, (xe_impl_Parser_hear t0 t1 m).trans h⟩)
theorem ok_C_impl_Parser_hear : OkC CT 101 C_impl_Parser_hear := fcall_ok rfl ok_X_impl_Parser_hear

/-! ### impl.ParseMany -/
noncomputable def cf_impl_ParseMany : CallF := cfc 25 C_impl_ParserFault (cfc 88 C_impl_first (cfc 89 C_impl_unless (cfc 95 C_impl_isChar (cfc 101 C_impl_Parser_hear (cfc 113 C_impl_Parser_clone cfn)))))
noncomputable def L_impl_ParseMany (k : Nat) : Nat → Nat → List Value → Mem → Option VM
  | q + 1, 0, [t2, t4, t6, t26, t27, t28], m =>
    (binX .lss .no t28 t27) |> bo fun t29 =>
    brX t29
      (
        (ixaX 1 t26 t28) |> bo fun t30 =>
        (ld1 m t30) |> bo fun t31 =>
        (C_impl_isChar [t31] m) |> bo fun r4 =>
        (uop .not r4.1) |> bo fun t34 =>
        brX t34
          (
            (bldX [.int .i64 0, .slice none 0 0, .int .i64 0, .int .i64 0, .bool false, .slice none 0 0] [(0, 1, (.int .i64 3))]) |> bo fun t35 =>
            (stX r4.2 6 t4 t35) |> bo fun m7 =>
            (resP (some 6) m7 t4) |> bo fun c8 =>
            retK k m7 [] c8)
          (
            (ldS r4.2 4 t2) |> bo fun t37 =>
            (C_impl_Parser_hear [t37, t31] r4.2) |> bo fun r10 =>
            (extX 0 r10.1) |> bo fun t40 =>
            (extX 1 r10.1) |> bo fun t41 =>
            (alX r10.2 [.int .i64 0, .int .i64 0, .int .i64 0, .bool false, .slice none 0 0]) |> bo fun r13 =>
            (alX r13.2 [.int .i64 0, .int .i64 0, .bool false, .slice none 0 0]) |> bo fun r14 =>
            (stX r14.2 5 r13.1 t40) |> bo fun m15 =>
            (stX m15 4 r14.1 t41) |> bo fun m16 =>
            (fadX 0 r13.1) |> bo fun t42 =>
            (ld1 m16 t42) |> bo fun t43 =>
            (binX .neq .no t43 (.int .i64 0)) |> bo fun t44 =>
            brX t44
              (
                (ldS m16 5 r13.1) |> bo fun t46 =>
                (bslX m16 1 5 [.int .i64 0, .int .i64 0, .int .i64 0, .bool false, .slice none 0 0] [(0, 5, t46)]) |> bo fun r21 =>
                (apL r21.2 5 56 t6 r21.1) |> bo fun r22 =>
                (ldS r22.2 4 r14.1) |> bo fun t49 =>
                (stX r22.2 4 t2 t49) |> bo fun m24 =>
                (binX .add .no t28 (.int .i64 1)) |> bo fun t50 =>
                cutK k m24 [] [t2, t4, r22.1, t26, t27, t50] (L_impl_ParseMany k q 0))
              (
                (ldS m16 4 r14.1) |> bo fun t49 =>
                (stX m16 4 t2 t49) |> bo fun m27 =>
                (binX .add .no t28 (.int .i64 1)) |> bo fun t50 =>
                cutK k m27 [] [t2, t4, t6, t26, t27, t50] (L_impl_ParseMany k q 0))))
      (
        (ldS m 4 t2) |> bo fun t52 =>
        (bldX [.int .i64 0, .slice none 0 0, .int .i64 0, .int .i64 0, .bool false, .slice none 0 0] [(0, 1, (.int .i64 0)), (1, 1, t6), (2, 4, t52)]) |> bo fun t53 =>
        (stX m 6 t4 t53) |> bo fun m31 =>
        (resP (some 6) m31 t4) |> bo fun c32 =>
        retK k m31 [] c32)
  | _, _, _, _ => none
noncomputable def J_impl_ParseMany (k q l : Nat) : List Value → Mem → Option VM := cond (Nat.beq l 7) (L_impl_ParseMany k q 0) (fun _ _ => none)
def LL_impl_ParseMany : List (Nat × List Tmp) := [(7, [2, 4, 6, 26, 27, 28])]
noncomputable def X_impl_ParseMany : List Value → Mem → Option VM
  | [t0, t1], m =>
    (boxX m t0) |> bo fun r1 =>
    (alX r1.2 [.int .i64 0, .slice none 0 0, .int .i64 0, .int .i64 0, .bool false, .slice none 0 0]) |> bo fun r2 =>
    (ldS r2.2 4 r1.1) |> bo fun t11 =>
    (C_impl_ParserFault [t11] r2.2) |> bo fun r4 =>
    (lenX t1) |> bo fun t14 =>
    (binX .leq .no t14 (.int .i64 2000)) |> bo fun t15 =>
    (C_impl_unless [t15, (.int .i64 2)] r4.2) |> bo fun r7 =>
    (bslX r7.2 2 1 [.int .i64 0] [(0, 1, r4.1), (1, 1, r7.1)]) |> bo fun r8 =>
    (C_impl_first [r8.1] r8.2) |> bo fun r9 =>
    (binX .neq .no r9.1 (.int .i64 0)) |> bo fun t20 =>
    brX t20
      (
        (bldX [.int .i64 0, .slice none 0 0, .int .i64 0, .int .i64 0, .bool false, .slice none 0 0] [(0, 1, r9.1)]) |> bo fun t22 =>
        (stX r9.2 6 r2.1 t22) |> bo fun m12 =>
        (resP (some 6) m12 r2.1) |> bo fun c13 =>
        retK m.length m12 [t0, t1] c13)
      (
        (bslX r9.2 0 5 [.int .i64 0, .int .i64 0, .int .i64 0, .bool false, .slice none 0 0] []) |> bo fun r14 =>
        (ldS r14.2 4 r1.1) |> bo fun t24 =>
        (C_impl_Parser_clone [t24] r14.2) |> bo fun r16 =>
        (stX r16.2 4 r1.1 r16.1) |> bo fun m17 =>
        (lenX t1) |> bo fun t27 =>
        cutK m.length m17 [t0, t1] [r1.1, r2.1, r14.1, t1, t27, (.int .i64 0)] (L_impl_ParseMany m.length QQ 0))
  | _, _ => none
noncomputable def C_impl_ParseMany : List Value → Mem → Option VM := fcall X_impl_ParseMany
@[simp] theorem c_impl_ParseMany : C_impl_ParseMany = fcall X_impl_ParseMany := (rfl)
theorem cok_impl_ParseMany : codeOk CT Try.f36 (Try.f36.body.get rfl) = true := by kernel_rfl
theorem xe_impl_ParseMany (t0 t1 : Value) (m : Mem) : ex CT cf_impl_ParseMany Try.f36 2 m.length LL_impl_ParseMany (J_impl_ParseMany m.length QQ) 400 [.code (Try.f36.body.get rfl)] (argsT 0 [t0, t1]) m = X_impl_ParseMany [t0, t1] m := by kernel_rfl
theorem okc_impl_ParseMany : CallOK CT cf_impl_ParseMany := cfc_ok ok_C_impl_ParserFault (cfc_ok ok_C_impl_first (cfc_ok ok_C_impl_unless (cfc_ok ok_C_impl_isChar (cfc_ok ok_C_impl_Parser_hear (cfc_ok ok_C_impl_Parser_clone cfn_ok)))))
theorem le_impl_ParseMany_0 (k q : Nat) (t2 t4 t6 t26 t27 t28 : Value) (m : Mem) : ex CT cf_impl_ParseMany Try.f36 2 k LL_impl_ParseMany (J_impl_ParseMany k q) 400 (atLoop Try.f36 0) [(2, t2), (4, t4), (6, t6), (26, t26), (27, t27), (28, t28)] m = J_impl_ParseMany k (q + 1) 7 [t2, t4, t6, t26, t27, t28] m := by kernel_rfl
theorem gl_impl_ParseMany (k : Nat) : ∀ q i, i < 1 → GoodL CT k Try.f36 LL_impl_ParseMany (J_impl_ParseMany k q) (atLoop Try.f36 i)
  | 0, 0, _ => goodL_zero (l := 7) (by kernel_rfl) (fun vs m => by kernel_rfl)
  | 0, _ + 1, h => absurd h (by omega)
  | q + 1, 0, _ => goodL_succ (np := 2) (l := 7) (live := [2, 4, 6, 26, 27, 28]) (n := 1) CT_ok rfl okc_impl_ParseMany (c := (Try.f36.body.get rfl)) rfl cok_impl_ParseMany (by kernel_rfl) (gl_impl_ParseMany k q) (by kernel_rfl) rfl (fun vs m r hl h => match vs, hl with
    | [t2, t4, t6, t26, t27, t28], _ => (le_impl_ParseMany_0 k q t2 t4 t6 t26 t27 t28 m).trans h)
  | _ + 1, _ + 1, h => absurd h (by omega)
theorem ok_X_impl_ParseMany : OkX CT 36 X_impl_ParseMany := OkX.of_ex (cf := cf_impl_ParseMany) (np := 2) (LL := LL_impl_ParseMany) (J := (fun k => J_impl_ParseMany k QQ)) CT_ok rfl Try.func36 rfl (Nat.le_of_ble_eq_true rfl) (by decide) cok_impl_ParseMany okc_impl_ParseMany (fun k => allLoops rfl (by kernel_rfl) (gl_impl_ParseMany k QQ)) (fun args m r h => match args, h with
    | [t0, t1], h => ⟨rfl, (xe_impl_ParseMany t0 t1 m).trans h⟩)
theorem ok_C_impl_ParseMany : OkC CT 36 C_impl_ParseMany := fcall_ok rfl ok_X_impl_ParseMany

/-! ### laws.eqAction -/
noncomputable def cf_laws_eqAction : CallF := cfc 38 C_laws_eqInt64S cfn
noncomputable def X_laws_eqAction : List Value → Mem → Option VM
  | [t0, t1], m =>
    (boxX m t0) |> bo fun r1 =>
    (boxX r1.2 t1) |> bo fun r2 =>
    (fadX 0 r1.1) |> bo fun t5 =>
    (ld1 r2.2 t5) |> bo fun t6 =>
    (fadX 0 r2.1) |> bo fun t7 =>
    (ld1 r2.2 t7) |> bo fun t8 =>
    (binX .neq .no t6 t8) |> bo fun t9 =>
    brX t9
      (
        retK m.length r2.2 [t0, t1] (.bool false))
      (
        (fadX 1 r1.1) |> bo fun t10 =>
        (ld1 r2.2 t10) |> bo fun t11 =>
        (fadX 1 r2.1) |> bo fun t12 =>
        (ld1 r2.2 t12) |> bo fun t13 =>
        (binX .neq .no t11 t13) |> bo fun t14 =>
        brX t14
          (
            retK m.length r2.2 [t0, t1] (.bool false))
          (
            (fadX 2 r1.1) |> bo fun t15 =>
            (ld1 r2.2 t15) |> bo fun t16 =>
            (fadX 2 r2.1) |> bo fun t17 =>
            (ld1 r2.2 t17) |> bo fun t18 =>
            (binX .neq .no t16 t18) |> bo fun t19 =>
            brX t19
              (
                retK m.length r2.2 [t0, t1] (.bool false))
              (
                (fadX 3 r1.1) |> bo fun t20 =>
                (ld1 r2.2 t20) |> bo fun t21 =>
                (fadX 3 r2.1) |> bo fun t22 =>
                (ld1 r2.2 t22) |> bo fun t23 =>
                (binX .neq .bool t21 t23) |> bo fun t24 =>
                brX t24
                  (
                    retK m.length r2.2 [t0, t1] (.bool false))
                  (
                    (fadX 4 r1.1) |> bo fun t25 =>
                    (ld1 r2.2 t25) |> bo fun t26 =>
                    (fadX 4 r2.1) |> bo fun t27 =>
                    (ld1 r2.2 t27) |> bo fun t28 =>
                    (C_laws_eqInt64S [t26, t28] r2.2) |> bo fun r27 =>
                    (uop .not r27.1) |> bo fun t30 =>
                    brX t30
                      (
                        retK m.length r27.2 [t0, t1] (.bool false))
                      (
                        retK m.length r27.2 [t0, t1] (.bool true))))))
  | _, _ => none
noncomputable def C_laws_eqAction : List Value → Mem → Option VM := fcall X_laws_eqAction
@[simp] theorem c_laws_eqAction : C_laws_eqAction = fcall X_laws_eqAction := (rfl)
theorem cok_laws_eqAction : codeOk CT Try.f108 (Try.f108.body.get rfl) = true := by kernel_rfl
theorem xe_laws_eqAction (t0 t1 : Value) (m : Mem) : ex CT cf_laws_eqAction Try.f108 2 m.length [] (fun _ _ _ => none) 400 [.code (Try.f108.body.get rfl)] (argsT 0 [t0, t1]) m = X_laws_eqAction [t0, t1] m := by kernel_rfl
theorem okc_laws_eqAction : CallOK CT cf_laws_eqAction := cfc_ok ok_C_laws_eqInt64S cfn_ok
theorem ok_X_laws_eqAction : OkX CT 108 X_laws_eqAction := OkX.of_ex (cf := cf_laws_eqAction) (np := 2) (LL := []) (J := (fun _ _ _ _ => none)) CT_ok rfl Try.func108 rfl (Nat.le_of_ble_eq_true rfl) (by decide) cok_laws_eqAction okc_laws_eqAction (fun k => noLoops rfl) (fun args m r h => match args, h with
    | [t0, t1], h => ⟨rfl, (xe_laws_eqAction t0 t1 m).trans h⟩)
theorem ok_C_laws_eqAction : OkC CT 108 C_laws_eqAction := fcall_ok rfl ok_X_laws_eqAction

/-! ### laws.eqActionS -/
noncomputable def cf_laws_eqActionS : CallF := cfc 108 C_laws_eqAction cfn
noncomputable def L_laws_eqActionS (k : Nat) : Nat → Nat → List Value → Mem → Option VM
  | q + 1, 0, [t0, t1, t5], m =>
    (lenX t0) |> bo fun t13 =>
    (binX .lss .no t5 t13) |> bo fun t14 =>
    brX t14
      (
        (ixaX 5 t0 t5) |> bo fun t19 =>
        (ldS m 5 t19) |> bo fun t20 =>
        (ixaX 5 t1 t5) |> bo fun t23 =>
        (ldS m 5 t23) |> bo fun t24 =>
        (C_laws_eqAction [t20, t24] m) |> bo fun r7 =>
        (uop .not r7.1) |> bo fun t26 =>
        brX t26
          (
            retK k r7.2 [t0, t1] (.bool false))
          (
            (binX .add .no t5 (.int .i64 1)) |> bo fun t16 =>
            cutK k r7.2 [t0, t1] [t0, t1, t16] (L_laws_eqActionS k q 0)))
      (
        retK k m [t0, t1] (.bool true))
  | _, _, _, _ => none
noncomputable def J_laws_eqActionS (k q l : Nat) : List Value → Mem → Option VM := cond (Nat.beq l 4) (L_laws_eqActionS k q 0) (fun _ _ => none)
def LL_laws_eqActionS : List (Nat × List Tmp) := [(4, [0, 1, 5])]
noncomputable def X_laws_eqActionS : List Value → Mem → Option VM
  | [t0, t1], m =>
    (lenX t0) |> bo fun t7 =>
    (lenX t1) |> bo fun t9 =>
    (binX .neq .no t7 t9) |> bo fun t10 =>
    brX t10
      (
        retK m.length m [t0, t1] (.bool false))
      (
        cutK m.length m [t0, t1] [t0, t1, (.int .i64 0)] (L_laws_eqActionS m.length QQ 0))
  | _, _ => none
noncomputable def C_laws_eqActionS : List Value → Mem → Option VM := fcall X_laws_eqActionS
@[simp] theorem c_laws_eqActionS : C_laws_eqActionS = fcall X_laws_eqActionS := (rfl)
theorem cok_laws_eqActionS : codeOk CT Try.f114 (Try.f114.body.get rfl) = true := by kernel_rfl
theorem xe_laws_eqActionS (t0 t1 : Value) (m : Mem) : ex CT cf_laws_eqActionS Try.f114 2 m.length LL_laws_eqActionS (J_laws_eqActionS m.length QQ) 400 [.code (Try.f114.body.get rfl)] (argsT 0 [t0, t1]) m = X_laws_eqActionS [t0, t1] m := by kernel_rfl
theorem okc_laws_eqActionS : CallOK CT cf_laws_eqActionS := cfc_ok ok_C_laws_eqAction cfn_ok
theorem le_laws_eqActionS_0 (k q : Nat) (t0 t1 t5 : Value) (m : Mem) : ex CT cf_laws_eqActionS Try.f114 2 k LL_laws_eqActionS (J_laws_eqActionS k q) 400 (atLoop Try.f114 0) [(0, t0), (1, t1), (5, t5)] m = J_laws_eqActionS k (q + 1) 4 [t0, t1, t5] m := by kernel_rfl
theorem gl_laws_eqActionS (k : Nat) : ∀ q i, i < 1 → GoodL CT k Try.f114 LL_laws_eqActionS (J_laws_eqActionS k q) (atLoop Try.f114 i)
  | 0, 0, _ => goodL_zero (l := 4) (by kernel_rfl) (fun vs m => by kernel_rfl)
  | 0, _ + 1, h => absurd h (by omega)
  | q + 1, 0, _ => goodL_succ (np := 2) (l := 4) (live := [0, 1, 5]) (n := 1) CT_ok rfl okc_laws_eqActionS (c := (Try.f114.body.get rfl)) rfl cok_laws_eqActionS (by kernel_rfl) (gl_laws_eqActionS k q) (by kernel_rfl) rfl (fun vs m r hl h => match vs, hl with
    | [t0, t1, t5], _ => (le_laws_eqActionS_0 k q t0 t1 t5 m).trans h)
  | _ + 1, _ + 1, h => absurd h (by omega)
theorem ok_X_laws_eqActionS : OkX CT 114 X_laws_eqActionS := OkX.of_ex (cf := cf_laws_eqActionS) (np := 2) (LL := LL_laws_eqActionS) (J := (fun k => J_laws_eqActionS k QQ)) CT_ok rfl Try.func114 rfl (Nat.le_of_ble_eq_true rfl) (by decide) cok_laws_eqActionS okc_laws_eqActionS (fun k => allLoops rfl (by kernel_rfl) (gl_laws_eqActionS k QQ)) (fun args m r h => match args, h with
    | [t0, t1], h => ⟨rfl, (xe_laws_eqActionS t0 t1 m).trans h⟩)
theorem ok_C_laws_eqActionS : OkC CT 114 C_laws_eqActionS := fcall_ok rfl ok_X_laws_eqActionS

/-! ### laws.eqActionsResult -/
noncomputable def cf_laws_eqActionsResult : CallF := cfc 30 C_laws_eqParser (cfc 114 C_laws_eqActionS cfn)
noncomputable def X_laws_eqActionsResult : List Value → Mem → Option VM
  | [t0, t1], m =>
    (boxX m t0) |> bo fun r1 =>
    (boxX r1.2 t1) |> bo fun r2 =>
    (fadX 0 r1.1) |> bo fun t5 =>
    (ld1 r2.2 t5) |> bo fun t6 =>
    (fadX 0 r2.1) |> bo fun t7 =>
    (ld1 r2.2 t7) |> bo fun t8 =>
    (binX .neq .no t6 t8) |> bo fun t9 =>
    brX t9
      (
        retK m.length r2.2 [t0, t1] (.bool false))
      (
        (fadX 1 r1.1) |> bo fun t10 =>
        (ld1 r2.2 t10) |> bo fun t11 =>
        (fadX 1 r2.1) |> bo fun t12 =>
        (ld1 r2.2 t12) |> bo fun t13 =>
        (C_laws_eqActionS [t11, t13] r2.2) |> bo fun r12 =>
        (uop .not r12.1) |> bo fun t15 =>
        brX t15
          (
            retK m.length r12.2 [t0, t1] (.bool false))
          (
            (fadX 2 r1.1) |> bo fun t16 =>
            (ldS r12.2 4 t16) |> bo fun t17 =>
            (fadX 2 r2.1) |> bo fun t18 =>
            (ldS r12.2 4 t18) |> bo fun t19 =>
            (C_laws_eqParser [t17, t19] r12.2) |> bo fun r18 =>
            (uop .not r18.1) |> bo fun t21 =>
            brX t21
              (
                retK m.length r18.2 [t0, t1] (.bool false))
              (
                retK m.length r18.2 [t0, t1] (.bool true))))
  | _, _ => none
noncomputable def C_laws_eqActionsResult : List Value → Mem → Option VM := fcall X_laws_eqActionsResult
@[simp] theorem c_laws_eqActionsResult : C_laws_eqActionsResult = fcall X_laws_eqActionsResult := (rfl)
theorem cok_laws_eqActionsResult : codeOk CT Try.f37 (Try.f37.body.get rfl) = true := by kernel_rfl
theorem xe_laws_eqActionsResult (t0 t1 : Value) (m : Mem) : ex CT cf_laws_eqActionsResult Try.f37 2 m.length [] (fun _ _ _ => none) 400 [.code (Try.f37.body.get rfl)] (argsT 0 [t0, t1]) m = X_laws_eqActionsResult [t0, t1] m := by kernel_rfl
theorem okc_laws_eqActionsResult : CallOK CT cf_laws_eqActionsResult := cfc_ok ok_C_laws_eqParser (cfc_ok ok_C_laws_eqActionS cfn_ok)
theorem ok_X_laws_eqActionsResult : OkX CT 37 X_laws_eqActionsResult := OkX.of_ex (cf := cf_laws_eqActionsResult) (np := 2) (LL := []) (J := (fun _ _ _ _ => none)) CT_ok rfl Try.func37 rfl (Nat.le_of_ble_eq_true rfl) (by decide) cok_laws_eqActionsResult okc_laws_eqActionsResult (fun k => noLoops rfl) (fun args m r h => match args, h with
    | [t0, t1], h => ⟨rfl, (xe_laws_eqActionsResult t0 t1 m).trans h⟩)
theorem ok_C_laws_eqActionsResult : OkC CT 37 C_laws_eqActionsResult := fcall_ok rfl ok_X_laws_eqActionsResult

/-! ### laws.markActionS -/
noncomputable def cf_laws_markActionS : CallF := cfc 39 C_laws_markInt64S cfn
noncomputable def L_laws_markActionS (k : Nat) : Nat → Nat → List Value → Mem → Option VM
  | q + 1, 0, [t0, t1, t5], m =>
    (lenX t0) |> bo fun t8 =>
    (binX .lss .no t5 t8) |> bo fun t9 =>
    brX t9
      (
        (ixaX 5 t0 t5) |> bo fun t15 =>
        (fadX 0 t15) |> bo fun t16 =>
        (stX m 1 t16 t1) |> bo fun m5 =>
        (binX .add .no t1 (.int .i64 1)) |> bo fun t18 =>
        (ixaX 5 t0 t5) |> bo fun t22 =>
        (fadX 1 t22) |> bo fun t23 =>
        (stX m5 1 t23 t18) |> bo fun m9 =>
        (binX .add .no t18 (.int .i64 1)) |> bo fun t25 =>
        (ixaX 5 t0 t5) |> bo fun t29 =>
        (fadX 2 t29) |> bo fun t30 =>
        (stX m9 1 t30 t25) |> bo fun m13 =>
        (binX .add .no t25 (.int .i64 1)) |> bo fun t32 =>
        (binX .rem .no t32 (.int .i64 3)) |> bo fun t36 =>
        (binX .eql .no t36 (.int .i64 0)) |> bo fun t37 =>
        (ixaX 5 t0 t5) |> bo fun t38 =>
        (fadX 3 t38) |> bo fun t39 =>
        (stX m13 1 t39 t37) |> bo fun m19 =>
        (binX .add .no t32 (.int .i64 1)) |> bo fun t41 =>
        (ixaX 5 t0 t5) |> bo fun t44 =>
        (fadX 4 t44) |> bo fun t45 =>
        (ld1 m19 t45) |> bo fun t46 =>
        (C_laws_markInt64S [t46, t41] m19) |> bo fun r24 =>
        (binX .add .no t5 (.int .i64 1)) |> bo fun t11 =>
        cutK k r24.2 [t0, r24.1] [t0, r24.1, t11] (L_laws_markActionS k q 0))
      (
        retK k m [t0, t1] t1)
  | _, _, _, _ => none
noncomputable def J_laws_markActionS (k q l : Nat) : List Value → Mem → Option VM := cond (Nat.beq l 2) (L_laws_markActionS k q 0) (fun _ _ => none)
def LL_laws_markActionS : List (Nat × List Tmp) := [(2, [0, 1, 5])]
noncomputable def X_laws_markActionS : List Value → Mem → Option VM
  | [t0, t1], m =>
    cutK m.length m [t0, t1] [t0, t1, (.int .i64 0)] (L_laws_markActionS m.length QQ 0)
  | _, _ => none
noncomputable def C_laws_markActionS : List Value → Mem → Option VM := rcall X_laws_markActionS
@[simp] theorem c_laws_markActionS : C_laws_markActionS = rcall X_laws_markActionS := (rfl)
theorem cok_laws_markActionS : codeOk CT Try.f115 (Try.f115.body.get rfl) = true := by kernel_rfl
theorem xe_laws_markActionS (t0 t1 : Value) (m : Mem) : ex CT cf_laws_markActionS Try.f115 2 m.length LL_laws_markActionS (J_laws_markActionS m.length QQ) 400 [.code (Try.f115.body.get rfl)] (argsT 0 [t0, t1]) m = X_laws_markActionS [t0, t1] m := by kernel_rfl
theorem okc_laws_markActionS : CallOK CT cf_laws_markActionS := cfc_ok ok_C_laws_markInt64S cfn_ok
theorem le_laws_markActionS_0 (k q : Nat) (t0 t1 t5 : Value) (m : Mem) : ex CT cf_laws_markActionS Try.f115 2 k LL_laws_markActionS (J_laws_markActionS k q) 400 (atLoop Try.f115 0) [(0, t0), (1, t1), (5, t5)] m = J_laws_markActionS k (q + 1) 2 [t0, t1, t5] m := by kernel_rfl
theorem gl_laws_markActionS (k : Nat) : ∀ q i, i < 1 → GoodL CT k Try.f115 LL_laws_markActionS (J_laws_markActionS k q) (atLoop Try.f115 i)
  | 0, 0, _ => goodL_zero (l := 2) (by kernel_rfl) (fun vs m => by kernel_rfl)
  | 0, _ + 1, h => absurd h (by omega)
  | q + 1, 0, _ => goodL_succ (np := 2) (l := 2) (live := [0, 1, 5]) (n := 1) CT_ok rfl okc_laws_markActionS (c := (Try.f115.body.get rfl)) rfl cok_laws_markActionS (by kernel_rfl) (gl_laws_markActionS k q) (by kernel_rfl) rfl (fun vs m r hl h => match vs, hl with
    | [t0, t1, t5], _ => (le_laws_markActionS_0 k q t0 t1 t5 m).trans h)
  | _ + 1, _ + 1, h => absurd h (by omega)
theorem ok_X_laws_markActionS : OkX CT 115 X_laws_markActionS := OkX.of_ex (cf := cf_laws_markActionS) (np := 2) (LL := LL_laws_markActionS) (J := (fun k => J_laws_markActionS k QQ)) CT_ok rfl Try.func115 rfl (Nat.le_of_ble_eq_true rfl) (by decide) cok_laws_markActionS okc_laws_markActionS (fun k => allLoops rfl (by kernel_rfl) (gl_laws_markActionS k QQ)) (fun args m r h => match args, h with
    | [t0, t1], h => ⟨rfl, (xe_laws_markActionS t0 t1 m).trans h⟩)
theorem ok_C_laws_markActionS : OkC CT 115 C_laws_markActionS := rcall_ok rfl ok_X_laws_markActionS

/-! ### laws.markActionsResult -/
noncomputable def cf_laws_markActionsResult : CallF := cfc 31 C_laws_markParser (cfc 115 C_laws_markActionS cfn)
noncomputable def X_laws_markActionsResult : List Value → Mem → Option VM
  | [t0, t1], m =>
    (boxX m t0) |> bo fun r1 =>
    (fadX 1 r1.1) |> bo fun t5 =>
    (ld1 r1.2 t5) |> bo fun t6 =>
    (C_laws_markActionS [t6, t1] r1.2) |> bo fun r4 =>
    (fadX 2 r1.1) |> bo fun t9 =>
    (ldS r4.2 4 t9) |> bo fun t10 =>
    (C_laws_markParser [t10, r4.1] r4.2) |> bo fun r7 =>
    retK m.length r7.2 [t0, r7.1] r7.1
  | _, _ => none
noncomputable def C_laws_markActionsResult : List Value → Mem → Option VM := rcall X_laws_markActionsResult
@[simp] theorem c_laws_markActionsResult : C_laws_markActionsResult = rcall X_laws_markActionsResult := (rfl)
theorem cok_laws_markActionsResult : codeOk CT Try.f40 (Try.f40.body.get rfl) = true := by kernel_rfl
theorem xe_laws_markActionsResult (t0 t1 : Value) (m : Mem) : ex CT cf_laws_markActionsResult Try.f40 2 m.length [] (fun _ _ _ => none) 400 [.code (Try.f40.body.get rfl)] (argsT 0 [t0, t1]) m = X_laws_markActionsResult [t0, t1] m := by kernel_rfl
theorem okc_laws_markActionsResult : CallOK CT cf_laws_markActionsResult := cfc_ok ok_C_laws_markParser (cfc_ok ok_C_laws_markActionS cfn_ok)
theorem ok_X_laws_markActionsResult : OkX CT 40 X_laws_markActionsResult := OkX.of_ex (cf := cf_laws_markActionsResult) (np := 2) (LL := []) (J := (fun _ _ _ _ => none)) CT_ok rfl Try.func40 rfl (Nat.le_of_ble_eq_true rfl) (by decide) cok_laws_markActionsResult okc_laws_markActionsResult (fun k => noLoops rfl) (fun args m r h => match args, h with
    | [t0, t1], h => ⟨rfl, (xe_laws_markActionsResult t0 t1 m).trans h⟩)
theorem ok_C_laws_markActionsResult : OkC CT 40 C_laws_markActionsResult := rcall_ok rfl ok_X_laws_markActionsResult

/-! ### laws.heldInt64S -/
noncomputable def cf_laws_heldInt64S : CallF := cfn
noncomputable def L_laws_heldInt64S (k : Nat) : Nat → Nat → List Value → Mem → Option VM
  | q + 1, 0, [t0, t1, t5], m =>
    (lenX t0) |> bo fun t8 =>
    (binX .lss .no t5 t8) |> bo fun t9 =>
    brX t9
      (
        (ixaX 1 t0 t5) |> bo fun t14 =>
        (ld1 m t14) |> bo fun t15 =>
        (binX .neq .no t15 t1) |> bo fun t17 =>
        brX t17
          (
            retK k m [t0, t1] (.int .i64 (-1)))
          (
            (binX .add .no t1 (.int .i64 1)) |> bo fun t19 =>
            (binX .add .no t5 (.int .i64 1)) |> bo fun t11 =>
            cutK k m [t0, t19] [t0, t19, t11] (L_laws_heldInt64S k q 0)))
      (
        retK k m [t0, t1] t1)
  | _, _, _, _ => none
noncomputable def J_laws_heldInt64S (k q l : Nat) : List Value → Mem → Option VM := cond (Nat.beq l 2) (L_laws_heldInt64S k q 0) (fun _ _ => none)
def LL_laws_heldInt64S : List (Nat × List Tmp) := [(2, [0, 1, 5])]
noncomputable def X_laws_heldInt64S : List Value → Mem → Option VM
  | [t0, t1], m =>
    cutK m.length m [t0, t1] [t0, t1, (.int .i64 0)] (L_laws_heldInt64S m.length QQ 0)
  | _, _ => none
noncomputable def C_laws_heldInt64S : List Value → Mem → Option VM := fcall X_laws_heldInt64S
@[simp] theorem c_laws_heldInt64S : C_laws_heldInt64S = fcall X_laws_heldInt64S := (rfl)
theorem cok_laws_heldInt64S : codeOk CT Try.f162 (Try.f162.body.get rfl) = true := by kernel_rfl
theorem xe_laws_heldInt64S (t0 t1 : Value) (m : Mem) : ex CT cf_laws_heldInt64S Try.f162 2 m.length LL_laws_heldInt64S (J_laws_heldInt64S m.length QQ) 400 [.code (Try.f162.body.get rfl)] (argsT 0 [t0, t1]) m = X_laws_heldInt64S [t0, t1] m := by kernel_rfl
theorem okc_laws_heldInt64S : CallOK CT cf_laws_heldInt64S := cfn_ok
theorem le_laws_heldInt64S_0 (k q : Nat) (t0 t1 t5 : Value) (m : Mem) : ex CT cf_laws_heldInt64S Try.f162 2 k LL_laws_heldInt64S (J_laws_heldInt64S k q) 400 (atLoop Try.f162 0) [(0, t0), (1, t1), (5, t5)] m = J_laws_heldInt64S k (q + 1) 2 [t0, t1, t5] m := by kernel_rfl
theorem gl_laws_heldInt64S (k : Nat) : ∀ q i, i < 1 → GoodL CT k Try.f162 LL_laws_heldInt64S (J_laws_heldInt64S k q) (atLoop Try.f162 i)
  | 0, 0, _ => goodL_zero (l := 2) (by kernel_rfl) (fun vs m => by kernel_rfl)
  | 0, _ + 1, h => absurd h (by omega)
  | q + 1, 0, _ => goodL_succ (np := 2) (l := 2) (live := [0, 1, 5]) (n := 1) CT_ok rfl okc_laws_heldInt64S (c := (Try.f162.body.get rfl)) rfl cok_laws_heldInt64S (by kernel_rfl) (gl_laws_heldInt64S k q) (by kernel_rfl) rfl (fun vs m r hl h => match vs, hl with
    | [t0, t1, t5], _ => (le_laws_heldInt64S_0 k q t0 t1 t5 m).trans h)
  | _ + 1, _ + 1, h => absurd h (by omega)
theorem ok_X_laws_heldInt64S : OkX CT 162 X_laws_heldInt64S := OkX.of_ex (cf := cf_laws_heldInt64S) (np := 2) (LL := LL_laws_heldInt64S) (J := (fun k => J_laws_heldInt64S k QQ)) CT_ok rfl Try.func162 rfl (Nat.le_of_ble_eq_true rfl) (by decide) cok_laws_heldInt64S okc_laws_heldInt64S (fun k => allLoops rfl (by kernel_rfl) (gl_laws_heldInt64S k QQ)) (fun args m r h => match args, h with
    | [t0, t1], h => ⟨rfl, (xe_laws_heldInt64S t0 t1 m).trans h⟩)
theorem ok_C_laws_heldInt64S : OkC CT 162 C_laws_heldInt64S := fcall_ok rfl ok_X_laws_heldInt64S

/-! ### laws.heldParser -/
noncomputable def cf_laws_heldParser : CallF := cfc 162 C_laws_heldInt64S cfn
noncomputable def X_laws_heldParser : List Value → Mem → Option VM
  | [t0, t1], m =>
    (boxX m t0) |> bo fun r1 =>
    (fadX 3 r1.1) |> bo fun t5 =>
    (ld1 r1.2 t5) |> bo fun t6 =>
    (C_laws_heldInt64S [t6, t1] r1.2) |> bo fun r4 =>
    (binX .lss .no r4.1 (.int .i64 0)) |> bo fun t10 =>
    brX t10
      (
        retK m.length r4.2 [t0, r4.1] (.int .i64 (-1)))
      (
        retK m.length r4.2 [t0, r4.1] r4.1)
  | _, _ => none
noncomputable def C_laws_heldParser : List Value → Mem → Option VM := fcall X_laws_heldParser
@[simp] theorem c_laws_heldParser : C_laws_heldParser = fcall X_laws_heldParser := (rfl)
theorem cok_laws_heldParser : codeOk CT Try.f111 (Try.f111.body.get rfl) = true := by kernel_rfl
theorem xe_laws_heldParser (t0 t1 : Value) (m : Mem) : ex CT cf_laws_heldParser Try.f111 2 m.length [] (fun _ _ _ => none) 400 [.code (Try.f111.body.get rfl)] (argsT 0 [t0, t1]) m = X_laws_heldParser [t0, t1] m := by kernel_rfl
theorem okc_laws_heldParser : CallOK CT cf_laws_heldParser := cfc_ok ok_C_laws_heldInt64S cfn_ok
theorem ok_X_laws_heldParser : OkX CT 111 X_laws_heldParser := OkX.of_ex (cf := cf_laws_heldParser) (np := 2) (LL := []) (J := (fun _ _ _ _ => none)) CT_ok rfl Try.func111 rfl (Nat.le_of_ble_eq_true rfl) (by decide) cok_laws_heldParser okc_laws_heldParser (fun k => noLoops rfl) (fun args m r h => match args, h with
    | [t0, t1], h => ⟨rfl, (xe_laws_heldParser t0 t1 m).trans h⟩)
theorem ok_C_laws_heldParser : OkC CT 111 C_laws_heldParser := fcall_ok rfl ok_X_laws_heldParser

/-! ### laws.heldActionS -/
noncomputable def cf_laws_heldActionS : CallF := cfc 162 C_laws_heldInt64S cfn
noncomputable def L_laws_heldActionS (k : Nat) : Nat → Nat → List Value → Mem → Option VM
  | q + 1, 0, [t0, t1, t5], m =>
    (lenX t0) |> bo fun t8 =>
    (binX .lss .no t5 t8) |> bo fun t9 =>
    brX t9
      (
        (ixaX 5 t0 t5) |> bo fun t14 =>
        (fadX 0 t14) |> bo fun t15 =>
        (ld1 m t15) |> bo fun t16 =>
        (binX .neq .no t16 t1) |> bo fun t18 =>
        brX t18
          (
            retK k m [t0, t1] (.int .i64 (-1)))
          (
            (binX .add .no t1 (.int .i64 1)) |> bo fun t20 =>
            (ixaX 5 t0 t5) |> bo fun t23 =>
            (fadX 1 t23) |> bo fun t24 =>
            (ld1 m t24) |> bo fun t25 =>
            (binX .neq .no t25 t20) |> bo fun t27 =>
            brX t27
              (
                retK k m [t0, t20] (.int .i64 (-1)))
              (
                (binX .add .no t20 (.int .i64 1)) |> bo fun t29 =>
                (ixaX 5 t0 t5) |> bo fun t32 =>
                (fadX 2 t32) |> bo fun t33 =>
                (ld1 m t33) |> bo fun t34 =>
                (binX .neq .no t34 t29) |> bo fun t36 =>
                brX t36
                  (
                    retK k m [t0, t29] (.int .i64 (-1)))
                  (
                    (binX .add .no t29 (.int .i64 1)) |> bo fun t38 =>
                    (ixaX 5 t0 t5) |> bo fun t41 =>
                    (fadX 3 t41) |> bo fun t42 =>
                    (ld1 m t42) |> bo fun t43 =>
                    (binX .rem .no t38 (.int .i64 3)) |> bo fun t45 =>
                    (binX .eql .no t45 (.int .i64 0)) |> bo fun t46 =>
                    (binX .neq .bool t43 t46) |> bo fun t47 =>
                    brX t47
                      (
                        retK k m [t0, t38] (.int .i64 (-1)))
                      (
                        (binX .add .no t38 (.int .i64 1)) |> bo fun t49 =>
                        (ixaX 5 t0 t5) |> bo fun t52 =>
                        (fadX 4 t52) |> bo fun t53 =>
                        (ld1 m t53) |> bo fun t54 =>
                        (C_laws_heldInt64S [t54, t49] m) |> bo fun r28 =>
                        (binX .lss .no r28.1 (.int .i64 0)) |> bo fun t58 =>
                        brX t58
                          (
                            retK k r28.2 [t0, r28.1] (.int .i64 (-1)))
                          (
                            (binX .add .no t5 (.int .i64 1)) |> bo fun t11 =>
                            cutK k r28.2 [t0, r28.1] [t0, r28.1, t11] (L_laws_heldActionS k q 0)))))))
      (
        retK k m [t0, t1] t1)
  | _, _, _, _ => none
noncomputable def J_laws_heldActionS (k q l : Nat) : List Value → Mem → Option VM := cond (Nat.beq l 2) (L_laws_heldActionS k q 0) (fun _ _ => none)
def LL_laws_heldActionS : List (Nat × List Tmp) := [(2, [0, 1, 5])]
noncomputable def X_laws_heldActionS : List Value → Mem → Option VM
  | [t0, t1], m =>
    cutK m.length m [t0, t1] [t0, t1, (.int .i64 0)] (L_laws_heldActionS m.length QQ 0)
  | _, _ => none
noncomputable def C_laws_heldActionS : List Value → Mem → Option VM := fcall X_laws_heldActionS
@[simp] theorem c_laws_heldActionS : C_laws_heldActionS = fcall X_laws_heldActionS := (rfl)
theorem cok_laws_heldActionS : codeOk CT Try.f116 (Try.f116.body.get rfl) = true := by kernel_rfl
theorem xe_laws_heldActionS (t0 t1 : Value) (m : Mem) : ex CT cf_laws_heldActionS Try.f116 2 m.length LL_laws_heldActionS (J_laws_heldActionS m.length QQ) 400 [.code (Try.f116.body.get rfl)] (argsT 0 [t0, t1]) m = X_laws_heldActionS [t0, t1] m := by kernel_rfl
theorem okc_laws_heldActionS : CallOK CT cf_laws_heldActionS := cfc_ok ok_C_laws_heldInt64S cfn_ok
theorem le_laws_heldActionS_0 (k q : Nat) (t0 t1 t5 : Value) (m : Mem) : ex CT cf_laws_heldActionS Try.f116 2 k LL_laws_heldActionS (J_laws_heldActionS k q) 400 (atLoop Try.f116 0) [(0, t0), (1, t1), (5, t5)] m = J_laws_heldActionS k (q + 1) 2 [t0, t1, t5] m := by kernel_rfl
theorem gl_laws_heldActionS (k : Nat) : ∀ q i, i < 1 → GoodL CT k Try.f116 LL_laws_heldActionS (J_laws_heldActionS k q) (atLoop Try.f116 i)
  | 0, 0, _ => goodL_zero (l := 2) (by kernel_rfl) (fun vs m => by kernel_rfl)
  | 0, _ + 1, h => absurd h (by omega)
  | q + 1, 0, _ => goodL_succ (np := 2) (l := 2) (live := [0, 1, 5]) (n := 1) CT_ok rfl okc_laws_heldActionS (c := (Try.f116.body.get rfl)) rfl cok_laws_heldActionS (by kernel_rfl) (gl_laws_heldActionS k q) (by kernel_rfl) rfl (fun vs m r hl h => match vs, hl with
    | [t0, t1, t5], _ => (le_laws_heldActionS_0 k q t0 t1 t5 m).trans h)
  | _ + 1, _ + 1, h => absurd h (by omega)
theorem ok_X_laws_heldActionS : OkX CT 116 X_laws_heldActionS := OkX.of_ex (cf := cf_laws_heldActionS) (np := 2) (LL := LL_laws_heldActionS) (J := (fun k => J_laws_heldActionS k QQ)) CT_ok rfl Try.func116 rfl (Nat.le_of_ble_eq_true rfl) (by decide) cok_laws_heldActionS okc_laws_heldActionS (fun k => allLoops rfl (by kernel_rfl) (gl_laws_heldActionS k QQ)) (fun args m r h => match args, h with
    | [t0, t1], h => ⟨rfl, (xe_laws_heldActionS t0 t1 m).trans h⟩)
theorem ok_C_laws_heldActionS : OkC CT 116 C_laws_heldActionS := fcall_ok rfl ok_X_laws_heldActionS

/-! ### laws.heldActionsResult -/
noncomputable def cf_laws_heldActionsResult : CallF := cfc 111 C_laws_heldParser (cfc 116 C_laws_heldActionS cfn)
noncomputable def X_laws_heldActionsResult : List Value → Mem → Option VM
  | [t0, t1], m =>
    (boxX m t0) |> bo fun r1 =>
    (fadX 1 r1.1) |> bo fun t5 =>
    (ld1 r1.2 t5) |> bo fun t6 =>
    (C_laws_heldActionS [t6, t1] r1.2) |> bo fun r4 =>
    (binX .lss .no r4.1 (.int .i64 0)) |> bo fun t10 =>
    brX t10
      (
        retK m.length r4.2 [t0, r4.1] (.int .i64 (-1)))
      (
        (fadX 2 r1.1) |> bo fun t11 =>
        (ldS r4.2 4 t11) |> bo fun t12 =>
        (C_laws_heldParser [t12, r4.1] r4.2) |> bo fun r8 =>
        (binX .lss .no r8.1 (.int .i64 0)) |> bo fun t16 =>
        brX t16
          (
            retK m.length r8.2 [t0, r8.1] (.int .i64 (-1)))
          (
            retK m.length r8.2 [t0, r8.1] r8.1))
  | _, _ => none
noncomputable def C_laws_heldActionsResult : List Value → Mem → Option VM := fcall X_laws_heldActionsResult
@[simp] theorem c_laws_heldActionsResult : C_laws_heldActionsResult = fcall X_laws_heldActionsResult := (rfl)
theorem cok_laws_heldActionsResult : codeOk CT Try.f41 (Try.f41.body.get rfl) = true := by kernel_rfl
theorem xe_laws_heldActionsResult (t0 t1 : Value) (m : Mem) : ex CT cf_laws_heldActionsResult Try.f41 2 m.length [] (fun _ _ _ => none) 400 [.code (Try.f41.body.get rfl)] (argsT 0 [t0, t1]) m = X_laws_heldActionsResult [t0, t1] m := by kernel_rfl
theorem okc_laws_heldActionsResult : CallOK CT cf_laws_heldActionsResult := cfc_ok ok_C_laws_heldParser (cfc_ok ok_C_laws_heldActionS cfn_ok)
theorem ok_X_laws_heldActionsResult : OkX CT 41 X_laws_heldActionsResult := OkX.of_ex (cf := cf_laws_heldActionsResult) (np := 2) (LL := []) (J := (fun _ _ _ _ => none)) CT_ok rfl Try.func41 rfl (Nat.le_of_ble_eq_true rfl) (by decide) cok_laws_heldActionsResult okc_laws_heldActionsResult (fun k => noLoops rfl) (fun args m r h => match args, h with
    | [t0, t1], h => ⟨rfl, (xe_laws_heldActionsResult t0 t1 m).trans h⟩)
theorem ok_C_laws_heldActionsResult : OkC CT 41 C_laws_heldActionsResult := fcall_ok rfl ok_X_laws_heldActionsResult

/-! ### laws.FnExactParseMany -/
noncomputable def cf_laws_FnExactParseMany : CallF := cfc 27 C_laws_szParser (cfc 28 C_laws_toParser (cfc 30 C_laws_eqParser (cfc 31 C_laws_markParser (cfc 34 C_spec_ParseMany (cfc 35 C_laws_toInt64S (cfc 36 C_impl_ParseMany (cfc 37 C_laws_eqActionsResult (cfc 38 C_laws_eqInt64S (cfc 39 C_laws_markInt64S (cfc 40 C_laws_markActionsResult (cfc 41 C_laws_heldActionsResult cfn)))))))))))
noncomputable def X_laws_FnExactParseMany : List Value → Mem → Option VM
  | [t0, t1], m =>
    (boxX m t0) |> bo fun r1 =>
    (lenX t1) |> bo fun t15 =>
    (binX .gtr .no t15 (.int .i64 1048576)) |> bo fun t16 =>
    brX t16
      (
        retK m.length r1.2 [t0, t1] (.bool true))
      (
        (ldS r1.2 4 r1.1) |> bo fun t17 =>
        (C_laws_szParser [t17, (.int .i64 1048576)] r1.2) |> bo fun r5 =>
        (binX .lss .no r5.1 (.int .i64 0)) |> bo fun t21 =>
        brX t21
          (
            retK m.length r5.2 [t0, t1] (.bool true))
          (
            (ldS r5.2 4 r1.1) |> bo fun t22 =>
            (C_laws_toParser [t22] r5.2) |> bo fun r8 =>
            (C_laws_toInt64S [t1] r8.2) |> bo fun r9 =>
            (C_spec_ParseMany [r8.1, r9.1] r9.2) |> bo fun r10 =>
            (alX r10.2 [.int .i64 0, .slice none 0 0, .int .i64 0, .int .i64 0, .bool false, .slice none 0 0]) |> bo fun r11 =>
            (stX r11.2 6 r11.1 r10.1) |> bo fun m12 =>
            (ldS m12 4 r1.1) |> bo fun t27 =>
            (C_laws_toParser [t27] m12) |> bo fun r14 =>
            (alX r14.2 [.int .i64 0, .int .i64 0, .bool false, .slice none 0 0]) |> bo fun r15 =>
            (stX r15.2 4 r15.1 r14.1) |> bo fun m16 =>
            (C_laws_toInt64S [t1] m16) |> bo fun r17 =>
            (ldS r17.2 4 r15.1) |> bo fun t31 =>
            (C_impl_ParseMany [t31, r17.1] r17.2) |> bo fun r19 =>
            (alX r19.2 [.int .i64 0, .slice none 0 0, .int .i64 0, .int .i64 0, .bool false, .slice none 0 0]) |> bo fun r20 =>
            (stX r20.2 6 r20.1 r19.1) |> bo fun m21 =>
            (ldS m21 6 r20.1) |> bo fun t34 =>
            (ldS m21 6 r11.1) |> bo fun t35 =>
            (C_laws_eqActionsResult [t34, t35] m21) |> bo fun r24 =>
            (uop .not r24.1) |> bo fun t37 =>
            brX t37
              (
                retK m.length r24.2 [t0, t1] (.bool false))
              (
                (ldS r24.2 4 r15.1) |> bo fun t38 =>
                (ldS r24.2 4 r1.1) |> bo fun t39 =>
                (C_laws_toParser [t39] r24.2) |> bo fun r28 =>
                (C_laws_eqParser [t38, r28.1] r28.2) |> bo fun r29 =>
                (uop .not r29.1) |> bo fun t42 =>
                gP (stbL [((rdN r15.1), r24.2, r28.2)])
                  (
                    brX t42
                      (
                        retK m.length r29.2 [t0, t1] (.bool false))
                      (
                        (C_laws_toInt64S [t1] r29.2) |> bo fun r31 =>
                        (C_laws_eqInt64S [r17.1, r31.1] r31.2) |> bo fun r32 =>
                        (uop .not r32.1) |> bo fun t47 =>
                        brX t47
                          (
                            retK m.length r32.2 [t0, t1] (.bool false))
                          (
                            (ldS r32.2 4 r15.1) |> bo fun t48 =>
                            (C_laws_markParser [t48, (.int .i64 1)] r32.2) |> bo fun r35 =>
                            (C_laws_markInt64S [r17.1, r35.1] r35.2) |> bo fun r36 =>
                            (binX .lss .no r36.1 (.int .i64 0)) |> bo fun t55 =>
                            (gd t55 false ((ldS r36.2 6 r20.1) |> bo fun v => some (v, r36.2)) r36.2) |> bo fun r38 =>
                            (gd t55 false ((ldS r38.2 6 r11.1) |> bo fun v => some (v, r38.2)) r38.2) |> bo fun r39 =>
                            (gd t55 false ((C_laws_eqActionsResult [r38.1, r39.1] r39.2) |> bo fun r => some (r.1, r.2)) r39.2) |> bo fun r40 =>
                            (gd t55 false ((uop .not r40.1) |> bo fun v => some (v, r40.2)) r40.2) |> bo fun r41 =>
                            (pickX t55 (.bool true) r41.1) |> bo fun t61 =>
                            brX t61
                              (
                                retK m.length r41.2 [t0, t1] (.bool false))
                              (
                                (ldS r41.2 6 r20.1) |> bo fun t62 =>
                                (C_laws_markActionsResult [t62, (.int .i64 1)] r41.2) |> bo fun r44 =>
                                (ldS r44.2 6 r20.1) |> bo fun t65 =>
                                (C_laws_heldActionsResult [t65, (.int .i64 1)] r44.2) |> bo fun r46 =>
                                (binX .lss .no r46.1 (.int .i64 0)) |> bo fun t69 =>
                                brX t69
                                  (
                                    retK m.length r46.2 [t0, t1] (.bool false))
                                  (
                                    (binX .neq .no r46.1 r44.1) |> bo fun t72 =>
                                    brX t72
                                      (
                                        retK m.length r46.2 [t0, t1] (.bool false))
                                      (
                                        (ldS r46.2 4 r1.1) |> bo fun t73 =>
                                        (C_laws_toParser [t73] r46.2) |> bo fun r50 =>
                                        (C_laws_toInt64S [t1] r50.2) |> bo fun r51 =>
                                        (C_impl_ParseMany [r50.1, r51.1] r51.2) |> bo fun r52 =>
                                        (alX r52.2 [.int .i64 0, .slice none 0 0, .int .i64 0, .int .i64 0, .bool false, .slice none 0 0]) |> bo fun r53 =>
                                        (stX r53.2 6 r53.1 r52.1) |> bo fun m54 =>
                                        (ldS m54 6 r53.1) |> bo fun t78 =>
                                        (ldS m54 6 r11.1) |> bo fun t79 =>
                                        (C_laws_eqActionsResult [t78, t79] m54) |> bo fun r57 =>
                                        (uop .not r57.1) |> bo fun t81 =>
                                        brX t81
                                          (
                                            retK m.length r57.2 [t0, t1] (.bool false))
                                          (
                                            (ldS r57.2 6 r20.1) |> bo fun t82 =>
                                            (C_laws_heldActionsResult [t82, (.int .i64 1)] r57.2) |> bo fun r60 =>
                                            (binX .lss .no r60.1 (.int .i64 0)) |> bo fun t86 =>
                                            brX t86
                                              (
                                                retK m.length r60.2 [t0, t1] (.bool false))
                                              (
                                                (binX .neq .no r60.1 r44.1) |> bo fun t89 =>
                                                brX t89
                                                  (
                                                    retK m.length r60.2 [t0, t1] (.bool false))
                                                  (
                                                    retK m.length r60.2 [t0, t1] (.bool true)))))))))))))
  | _, _ => none
noncomputable def C_laws_FnExactParseMany : List Value → Mem → Option VM := fcall X_laws_FnExactParseMany
@[simp] theorem c_laws_FnExactParseMany : C_laws_FnExactParseMany = fcall X_laws_FnExactParseMany := (rfl)
theorem cok_laws_FnExactParseMany : codeOk CT Try.f6 (Try.f6.body.get rfl) = true := by kernel_rfl
theorem xe_laws_FnExactParseMany (t0 t1 : Value) (m : Mem) : ex CT cf_laws_FnExactParseMany Try.f6 2 m.length [] (fun _ _ _ => none) 400 [.code (Try.f6.body.get rfl)] (argsT 0 [t0, t1]) m = X_laws_FnExactParseMany [t0, t1] m := by kernel_rfl
theorem okc_laws_FnExactParseMany : CallOK CT cf_laws_FnExactParseMany := cfc_ok ok_C_laws_szParser (cfc_ok ok_C_laws_toParser (cfc_ok ok_C_laws_eqParser (cfc_ok ok_C_laws_markParser (cfc_ok ok_C_spec_ParseMany (cfc_ok ok_C_laws_toInt64S (cfc_ok ok_C_impl_ParseMany (cfc_ok ok_C_laws_eqActionsResult (cfc_ok ok_C_laws_eqInt64S (cfc_ok ok_C_laws_markInt64S (cfc_ok ok_C_laws_markActionsResult (cfc_ok ok_C_laws_heldActionsResult cfn_ok)))))))))))
theorem ok_X_laws_FnExactParseMany : OkX CT 6 X_laws_FnExactParseMany := OkX.of_ex (cf := cf_laws_FnExactParseMany) (np := 2) (LL := []) (J := (fun _ _ _ _ => none)) CT_ok rfl Try.func6 rfl (Nat.le_of_ble_eq_true rfl) (by decide) cok_laws_FnExactParseMany okc_laws_FnExactParseMany (fun k => noLoops rfl) (fun args m r h => match args, h with
    | [t0, t1], h => ⟨rfl, (xe_laws_FnExactParseMany t0 t1 m).trans h⟩)
theorem ok_C_laws_FnExactParseMany : OkC CT 6 C_laws_FnExactParseMany := fcall_ok rfl ok_X_laws_FnExactParseMany

end Go.Ab
