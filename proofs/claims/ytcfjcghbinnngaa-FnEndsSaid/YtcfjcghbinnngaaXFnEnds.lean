/- Plain forms of functions, printed by gen.py. -/
import Derived.Test.YtcfjcghbinnngaaCf14
import Derived.Test.YtcfjcghbinnngaaFC
import Derived.Test.YtcfjcghbinnngaaFD
set_option linter.unusedVariables false
set_option linter.unusedSimpArgs false
namespace Go.Ab
open Go.Proofs
set_option maxRecDepth 100000
set_option linter.unusedVariables false
noncomputable def cf_laws_lwBig : CallF := cfn
noncomputable def X_laws_lwBig : List Value → Mem → Option VM
 | [t0], m =>
  (lenX t0) |> bo fun t4 =>
  (binX .gtr .no t4 (.int .i64 1048576)) |> bo fun t5 =>
  retK m.length m [t0] t5
 | _, _ => none
noncomputable def C_laws_lwBig : List Value → Mem → Option VM := fcall X_laws_lwBig
@[simp] theorem c_laws_lwBig : C_laws_lwBig = fcall X_laws_lwBig := (rfl)
theorem cok_laws_lwBig : codeOk CT Try.f5 (Try.f5.body.get rfl) = true := by kernel_rfl
theorem xe_laws_lwBig (t0 : Value) (m : Mem) : ex CT cf_laws_lwBig Try.f5 1 m.length [] (fun _ _ _ => none) 400 [.code (Try.f5.body.get rfl)] (argsT 0 [t0]) m = X_laws_lwBig [t0] m := by kernel_rfl
theorem okc_laws_lwBig : CallOK CT cf_laws_lwBig := cfn_ok
theorem ok_X_laws_lwBig : OkX CT 5 X_laws_lwBig := OkX.of_ex (cf := cf_laws_lwBig) (np := 1) (LL := []) (J := (fun _ _ _ _ => none)) CT_ok rfl Try.func5 rfl (Nat.le_of_ble_eq_true rfl) (by decide) cok_laws_lwBig okc_laws_lwBig (fun k => noLoops rfl) (fun args m r h => match args, h with
  | [t0], h => ⟨rfl, (xe_laws_lwBig t0 m).trans h⟩)
theorem ok_C_laws_lwBig : OkC CT 5 C_laws_lwBig := fcall_ok rfl ok_X_laws_lwBig
noncomputable def cf_impl_in : CallF := cfn
noncomputable def X_impl_in : List Value → Mem → Option VM
 | [t0, t1, t2], m =>
  (binX .leq .no t1 t0) |> bo fun t9 =>
  (gd t9 true (some (t0, m)) m) |> bo fun r2 =>
  (gd t9 true (some (t2, r2.2)) r2.2) |> bo fun r3 =>
  (gd t9 true ((binX .leq .no r2.1 r3.1) |> bo fun v => some (v, r3.2)) r3.2) |> bo fun r4 =>
  (pickX t9 r4.1 (.bool false)) |> bo fun t14 =>
  retK m.length r4.2 [t0, t1, t2] t14
 | _, _ => none
noncomputable def C_impl_in : List Value → Mem → Option VM := fcall X_impl_in
@[simp] theorem c_impl_in : C_impl_in = fcall X_impl_in := (rfl)
theorem cok_impl_in : codeOk CT Try.f21 (Try.f21.body.get rfl) = true := by kernel_rfl
theorem xe_impl_in (t0 t1 t2 : Value) (m : Mem) : ex CT cf_impl_in Try.f21 3 m.length [] (fun _ _ _ => none) 400 [.code (Try.f21.body.get rfl)] (argsT 0 [t0, t1, t2]) m = X_impl_in [t0, t1, t2] m := by kernel_rfl
theorem okc_impl_in : CallOK CT cf_impl_in := cfn_ok
theorem ok_X_impl_in : OkX CT 21 X_impl_in := OkX.of_ex (cf := cf_impl_in) (np := 3) (LL := []) (J := (fun _ _ _ _ => none)) CT_ok rfl Try.func21 rfl (Nat.le_of_ble_eq_true rfl) (by decide) cok_impl_in okc_impl_in (fun k => noLoops rfl) (fun args m r h => match args, h with
  | [t0, t1, t2], h => ⟨rfl, (xe_impl_in t0 t1 t2 m).trans h⟩)
theorem ok_C_impl_in : OkC CT 21 C_impl_in := fcall_ok rfl ok_X_impl_in
noncomputable def cf_impl_usual : CallF := cfn
noncomputable def X_impl_usual : List Value → Mem → Option VM
 | [t0], m =>
  (alX m [.int .i64 0, .int .i64 0, .int .i64 0, .int .i64 0, .int .i64 0, .int .i64 0, .int .i64 0]) |> bo fun r1 =>
  (bldX [.int .i64 0, .int .i64 0, .int .i64 0, .int .i64 0, .int .i64 0, .int .i64 0, .int .i64 0] [(0, 1, t0), (1, 1, (.int .i64 127)), (2, 1, (.int .i64 21)), (3, 1, (.int .i64 23)), (4, 1, (.int .i64 4)), (5, 1, (.int .i64 3)), (6, 1, (.int .i64 22))]) |> bo fun t4 =>
  (stX r1.2 7 r1.1 t4) |> bo fun m3 =>
  (resP (some 7) m3 r1.1) |> bo fun c4 =>
  retK m.length m3 [t0] c4
 | _, _ => none
noncomputable def C_impl_usual : List Value → Mem → Option VM := fcall X_impl_usual
@[simp] theorem c_impl_usual : C_impl_usual = fcall X_impl_usual := (rfl)
theorem cok_impl_usual : codeOk CT Try.f22 (Try.f22.body.get rfl) = true := by kernel_rfl
theorem xe_impl_usual (t0 : Value) (m : Mem) : ex CT cf_impl_usual Try.f22 1 m.length [] (fun _ _ _ => none) 400 [.code (Try.f22.body.get rfl)] (argsT 0 [t0]) m = X_impl_usual [t0] m := by kernel_rfl
theorem okc_impl_usual : CallOK CT cf_impl_usual := cfn_ok
theorem ok_X_impl_usual : OkX CT 22 X_impl_usual := OkX.of_ex (cf := cf_impl_usual) (np := 1) (LL := []) (J := (fun _ _ _ _ => none)) CT_ok rfl Try.func22 rfl (Nat.le_of_ble_eq_true rfl) (by decide) cok_impl_usual okc_impl_usual (fun k => noLoops rfl) (fun args m r h => match args, h with
  | [t0], h => ⟨rfl, (xe_impl_usual t0 m).trans h⟩)
theorem ok_C_impl_usual : OkC CT 22 C_impl_usual := fcall_ok rfl ok_X_impl_usual
noncomputable def cf_impl_UsualWay : CallF := cfc 21 C_impl_in (cfc 22 C_impl_usual cfn)
noncomputable def X_impl_UsualWay : List Value → Mem → Option VM
 | [t0], m =>
  (alX m [.int .i64 0, .int .i64 0, .int .i64 0, .int .i64 0, .int .i64 0, .int .i64 0, .int .i64 0, .int .i64 0]) |> bo fun r1 =>
  (C_impl_in [t0, (.int .i64 0), (.int .i64 511)] r1.2) |> bo fun r2 =>
  (uop .not r2.1) |> bo fun t5 =>
  brX t5
   (
    (bldX [.int .i64 0, .int .i64 0, .int .i64 0, .int .i64 0, .int .i64 0, .int .i64 0, .int .i64 0, .int .i64 0] [(0, 1, (.int .i64 3))]) |> bo fun t6 =>
    (stX r2.2 8 r1.1 t6) |> bo fun m5 =>
    (resP (some 8) m5 r1.1) |> bo fun c6 =>
    retK m.length m5 [t0] c6)
   (
    (C_impl_usual [t0] r2.2) |> bo fun r7 =>
    (bldX [.int .i64 0, .int .i64 0, .int .i64 0, .int .i64 0, .int .i64 0, .int .i64 0, .int .i64 0, .int .i64 0] [(0, 1, (.int .i64 0)), (1, 7, r7.1)]) |> bo fun t9 =>
    (stX r7.2 8 r1.1 t9) |> bo fun m9 =>
    (resP (some 8) m9 r1.1) |> bo fun c10 =>
    retK m.length m9 [t0] c10)
 | _, _ => none
noncomputable def C_impl_UsualWay : List Value → Mem → Option VM := fcall X_impl_UsualWay
@[simp] theorem c_impl_UsualWay : C_impl_UsualWay = fcall X_impl_UsualWay := (rfl)
theorem cok_impl_UsualWay : codeOk CT Try.f6 (Try.f6.body.get rfl) = true := by kernel_rfl
theorem xe_impl_UsualWay (t0 : Value) (m : Mem) : ex CT cf_impl_UsualWay Try.f6 1 m.length [] (fun _ _ _ => none) 400 [.code (Try.f6.body.get rfl)] (argsT 0 [t0]) m = X_impl_UsualWay [t0] m := by kernel_rfl
theorem okc_impl_UsualWay : CallOK CT cf_impl_UsualWay := cfc_ok ok_C_impl_in (cfc_ok ok_C_impl_usual cfn_ok)
theorem ok_X_impl_UsualWay : OkX CT 6 X_impl_UsualWay := OkX.of_ex (cf := cf_impl_UsualWay) (np := 1) (LL := []) (J := (fun _ _ _ _ => none)) CT_ok rfl Try.func6 rfl (Nat.le_of_ble_eq_true rfl) (by decide) cok_impl_UsualWay okc_impl_UsualWay (fun k => noLoops rfl) (fun args m r h => match args, h with
  | [t0], h => ⟨rfl, (xe_impl_UsualWay t0 m).trans h⟩)
theorem ok_C_impl_UsualWay : OkC CT 6 C_impl_UsualWay := fcall_ok rfl ok_X_impl_UsualWay
noncomputable def cf_laws_lwAt : CallF := cfn
noncomputable def X_laws_lwAt : List Value → Mem → Option VM
 | [t0, t1, t2], m =>
  (lenX t0) |> bo fun t10 =>
  (binX .leq .no t2 (.int .i64 1)) |> bo fun t12 =>
  brX t12
   (
    retK m.length m [t0, t1, t2] (.int .i64 0))
   (
    (binX .eql .no t10 (.int .i64 0)) |> bo fun t14 =>
    brX t14
     (
      (binX .mul .no t1 (.int .i64 7)) |> bo fun t16 =>
      (binX .rem .no t16 t2) |> bo fun t18 =>
      retK m.length m [t0, t1, t2] t18)
     (
      (binX .rem .no t1 t10) |> bo fun t22 =>
      (ixaX 1 t0 t22) |> bo fun t23 =>
      (ld1 m t23) |> bo fun t24 =>
      (cvI .i64 t24) |> bo fun t25 =>
      (binX .quo .no t1 t10) |> bo fun t28 =>
      (binX .mul .no t28 (.int .i64 3)) |> bo fun t29 =>
      (binX .add .no t25 t29) |> bo fun t30 =>
      (binX .gtr .no t2 (.int .i64 200)) |> bo fun t32 =>
      brX t32
       (
        (binX .mul .no t30 (.int .i64 251)) |> bo fun t34 =>
        (binX .add .no t1 (.int .i64 1)) |> bo fun t37 =>
        (binX .rem .no t37 t10) |> bo fun t39 =>
        (ixaX 1 t0 t39) |> bo fun t40 =>
        (ld1 m t40) |> bo fun t41 =>
        (cvI .i64 t41) |> bo fun t42 =>
        (binX .add .no t34 t42) |> bo fun t43 =>
        (binX .rem .no t43 t2) |> bo fun t46 =>
        retK m.length m [t0, t1, t2] t46)
       (
        (binX .rem .no t30 t2) |> bo fun t46 =>
        retK m.length m [t0, t1, t2] t46)))
 | _, _ => none
noncomputable def C_laws_lwAt : List Value → Mem → Option VM := fcall X_laws_lwAt
@[simp] theorem c_laws_lwAt : C_laws_lwAt = fcall X_laws_lwAt := (rfl)
theorem cok_laws_lwAt : codeOk CT Try.f7 (Try.f7.body.get rfl) = true := by kernel_rfl
theorem xe_laws_lwAt (t0 t1 t2 : Value) (m : Mem) : ex CT cf_laws_lwAt Try.f7 3 m.length [] (fun _ _ _ => none) 400 [.code (Try.f7.body.get rfl)] (argsT 0 [t0, t1, t2]) m = X_laws_lwAt [t0, t1, t2] m := by kernel_rfl
theorem okc_laws_lwAt : CallOK CT cf_laws_lwAt := cfn_ok
theorem ok_X_laws_lwAt : OkX CT 7 X_laws_lwAt := OkX.of_ex (cf := cf_laws_lwAt) (np := 3) (LL := []) (J := (fun _ _ _ _ => none)) CT_ok rfl Try.func7 rfl (Nat.le_of_ble_eq_true rfl) (by decide) cok_laws_lwAt okc_laws_lwAt (fun k => noLoops rfl) (fun args m r h => match args, h with
  | [t0, t1, t2], h => ⟨rfl, (xe_laws_lwAt t0 t1 t2 m).trans h⟩)
theorem ok_C_laws_lwAt : OkC CT 7 C_laws_lwAt := fcall_ok rfl ok_X_laws_lwAt
noncomputable def cf_impl_first : CallF := cfn
noncomputable def L_impl_first (k : Nat) : Nat → Nat → List Value → Mem → Option VM
 | q + 1, 0, [t5, t6, t7], m =>
  (binX .lss .no t7 t6) |> bo fun t8 =>
  brX t8
   (
    (ixaX 1 t5 t7) |> bo fun t9 =>
    (ld1 m t9) |> bo fun t10 =>
    (binX .neq .no t10 (.int .i64 0)) |> bo fun t12 =>
    brX t12
     (
      retK k m [] t10)
     (
      (binX .add .no t7 (.int .i64 1)) |> bo fun t14 =>
      cutK k m [] [t5, t6, t14] (L_impl_first k q 0)))
   (
    retK k m [] (.int .i64 0))
 | _, _, _, _ => none
noncomputable def J_impl_first (k q l : Nat) : List Value → Mem → Option VM := cond (Nat.beq l 2) (L_impl_first k q 0) (fun _ _ => none)
def LL_impl_first : List (Nat × List Tmp) := [(2, [5, 6, 7])]
noncomputable def X_impl_first : List Value → Mem → Option VM
 | [t0], m =>
  (lenX t0) |> bo fun t6 =>
  cutK m.length m [t0] [t0, t6, (.int .i64 0)] (L_impl_first m.length QQ 0)
 | _, _ => none
noncomputable def C_impl_first : List Value → Mem → Option VM := fcall X_impl_first
@[simp] theorem c_impl_first : C_impl_first = fcall X_impl_first := (rfl)
theorem cok_impl_first : codeOk CT Try.f23 (Try.f23.body.get rfl) = true := by kernel_rfl
theorem xe_impl_first (t0 : Value) (m : Mem) : ex CT cf_impl_first Try.f23 1 m.length LL_impl_first (J_impl_first m.length QQ) 400 [.code (Try.f23.body.get rfl)] (argsT 0 [t0]) m = X_impl_first [t0] m := by kernel_rfl
theorem okc_impl_first : CallOK CT cf_impl_first := cfn_ok
theorem le_impl_first_0 (k q : Nat) (t5 t6 t7 : Value) (m : Mem) : ex CT cf_impl_first Try.f23 1 k LL_impl_first (J_impl_first k q) 400 (atLoop Try.f23 0) [(5, t5), (6, t6), (7, t7)] m = J_impl_first k (q + 1) 2 [t5, t6, t7] m := by kernel_rfl
theorem gl_impl_first (k : Nat) : ∀ q i, i < 1 → GoodL CT k Try.f23 LL_impl_first (J_impl_first k q) (atLoop Try.f23 i)
 | 0, 0, _ => goodL_zero (l := 2) (by kernel_rfl) (fun vs m => by kernel_rfl)
 | 0, _ + 1, h => absurd h (by omega)
 | q + 1, 0, _ => goodL_succ (np := 1) (l := 2) (live := [5, 6, 7]) (n := 1) CT_ok rfl okc_impl_first (c := (Try.f23.body.get rfl)) rfl cok_impl_first (by kernel_rfl) (gl_impl_first k q) (by kernel_rfl) rfl (fun vs m r hl h => match vs, hl with
  | [t5, t6, t7], _ => (le_impl_first_0 k q t5 t6 t7 m).trans h)
 | _ + 1, _ + 1, h => absurd h (by omega)
theorem ok_X_impl_first : OkX CT 23 X_impl_first := OkX.of_ex (cf := cf_impl_first) (np := 1) (LL := LL_impl_first) (J := (fun k => J_impl_first k QQ)) CT_ok rfl Try.func23 rfl (Nat.le_of_ble_eq_true rfl) (by decide) cok_impl_first okc_impl_first (fun k => allLoops rfl (by kernel_rfl) (gl_impl_first k QQ)) (fun args m r h => match args, h with
  | [t0], h => ⟨rfl, (xe_impl_first t0 m).trans h⟩)
theorem ok_C_impl_first : OkC CT 23 C_impl_first := fcall_ok rfl ok_X_impl_first
noncomputable def cf_impl_Way_numbers : CallF := cfn
noncomputable def X_impl_Way_numbers : List Value → Mem → Option VM
 | [t0], m =>
  (boxX m t0) |> bo fun r1 =>
  (fadX 0 r1.1) |> bo fun t3 =>
  (ld1 r1.2 t3) |> bo fun t4 =>
  (fadX 1 r1.1) |> bo fun t5 =>
  (ld1 r1.2 t5) |> bo fun t6 =>
  (fadX 2 r1.1) |> bo fun t7 =>
  (ld1 r1.2 t7) |> bo fun t8 =>
  (fadX 3 r1.1) |> bo fun t9 =>
  (ld1 r1.2 t9) |> bo fun t10 =>
  (fadX 4 r1.1) |> bo fun t11 =>
  (ld1 r1.2 t11) |> bo fun t12 =>
  (fadX 5 r1.1) |> bo fun t13 =>
  (ld1 r1.2 t13) |> bo fun t14 =>
  (fadX 6 r1.1) |> bo fun t15 =>
  (ld1 r1.2 t15) |> bo fun t16 =>
  (bslX r1.2 7 1 [.int .i64 0] [(0, 1, t4), (1, 1, t6), (2, 1, t8), (3, 1, t10), (4, 1, t12), (5, 1, t14), (6, 1, t16)]) |> bo fun r16 =>
  retK m.length r16.2 [t0] r16.1
 | _, _ => none
noncomputable def C_impl_Way_numbers : List Value → Mem → Option VM := fcall X_impl_Way_numbers
@[simp] theorem c_impl_Way_numbers : C_impl_Way_numbers = fcall X_impl_Way_numbers := (rfl)
theorem cok_impl_Way_numbers : codeOk CT Try.f45 (Try.f45.body.get rfl) = true := by kernel_rfl
theorem xe_impl_Way_numbers (t0 : Value) (m : Mem) : ex CT cf_impl_Way_numbers Try.f45 1 m.length [] (fun _ _ _ => none) 400 [.code (Try.f45.body.get rfl)] (argsT 0 [t0]) m = X_impl_Way_numbers [t0] m := by kernel_rfl
theorem okc_impl_Way_numbers : CallOK CT cf_impl_Way_numbers := cfn_ok
theorem ok_X_impl_Way_numbers : OkX CT 45 X_impl_Way_numbers := OkX.of_ex (cf := cf_impl_Way_numbers) (np := 1) (LL := []) (J := (fun _ _ _ _ => none)) CT_ok rfl Try.func45 rfl (Nat.le_of_ble_eq_true rfl) (by decide) cok_impl_Way_numbers okc_impl_Way_numbers (fun k => noLoops rfl) (fun args m r h => match args, h with
  | [t0], h => ⟨rfl, (xe_impl_Way_numbers t0 m).trans h⟩)
theorem ok_C_impl_Way_numbers : OkC CT 45 C_impl_Way_numbers := fcall_ok rfl ok_X_impl_Way_numbers
noncomputable def cf_impl_WayFault : CallF := cfc 21 C_impl_in (cfc 45 C_impl_Way_numbers cfn)
noncomputable def L_impl_WayFault (k : Nat) : Nat → Nat → List Value → Mem → Option VM
 | q + 1, 0, [t6, t7, t8], m =>
  (binX .lss .no t8 t7) |> bo fun t9 =>
  brX t9
   (
    (ixaX 1 t6 t8) |> bo fun t11 =>
    (ld1 m t11) |> bo fun t12 =>
    (C_impl_in [t12, (.int .i64 0), (.int .i64 255)] m) |> bo fun r4 =>
    (uop .not r4.1) |> bo fun t15 =>
    (gd t15 true (some (t8, r4.2)) r4.2) |> bo fun r6 =>
    (gd t15 true ((binX .eql .no r6.1 (.int .i64 0)) |> bo fun v => some (v, r6.2)) r6.2) |> bo fun r7 =>
    (gd t15 true (some (r7.1, r7.2)) r7.2) |> bo fun r8 =>
    (gd r8.1 true (some (t12, r8.2)) r8.2) |> bo fun r9 =>
    (gd r8.1 true ((C_impl_in [r9.1, (.int .i64 0), (.int .i64 511)] r9.2) |> bo fun r => some (r.1, r.2)) r9.2) |> bo fun r10 =>
    (gd t15 true ((pickX r8.1 r10.1 (.bool false)) |> bo fun v => some (v, r10.2)) r10.2) |> bo fun r11 =>
    (gd t15 true ((uop .not r11.1) |> bo fun v => some (v, r11.2)) r11.2) |> bo fun r12 =>
    (pickX t15 r12.1 (.bool false)) |> bo fun t24 =>
    brX t24
     (
      retK k r12.2 [] (.int .i64 3))
     (
      (binX .add .no t8 (.int .i64 1)) |> bo fun t25 =>
      cutK k r12.2 [] [t6, t7, t25] (L_impl_WayFault k q 0)))
   (
    retK k m [] (.int .i64 0))
 | _, _, _, _ => none
noncomputable def J_impl_WayFault (k q l : Nat) : List Value → Mem → Option VM := cond (Nat.beq l 2) (L_impl_WayFault k q 0) (fun _ _ => none)
def LL_impl_WayFault : List (Nat × List Tmp) := [(2, [6, 7, 8])]
noncomputable def X_impl_WayFault : List Value → Mem → Option VM
 | [t0], m =>
  (boxX m t0) |> bo fun r1 =>
  (ldS r1.2 7 r1.1) |> bo fun t5 =>
  (C_impl_Way_numbers [t5] r1.2) |> bo fun r3 =>
  (lenX r3.1) |> bo fun t7 =>
  cutK m.length r3.2 [t0] [r3.1, t7, (.int .i64 0)] (L_impl_WayFault m.length QQ 0)
 | _, _ => none
noncomputable def C_impl_WayFault : List Value → Mem → Option VM := fcall X_impl_WayFault
@[simp] theorem c_impl_WayFault : C_impl_WayFault = fcall X_impl_WayFault := (rfl)
theorem cok_impl_WayFault : codeOk CT Try.f24 (Try.f24.body.get rfl) = true := by kernel_rfl
theorem xe_impl_WayFault (t0 : Value) (m : Mem) : ex CT cf_impl_WayFault Try.f24 1 m.length LL_impl_WayFault (J_impl_WayFault m.length QQ) 400 [.code (Try.f24.body.get rfl)] (argsT 0 [t0]) m = X_impl_WayFault [t0] m := by kernel_rfl
theorem okc_impl_WayFault : CallOK CT cf_impl_WayFault := cfc_ok ok_C_impl_in (cfc_ok ok_C_impl_Way_numbers cfn_ok)
theorem le_impl_WayFault_0 (k q : Nat) (t6 t7 t8 : Value) (m : Mem) : ex CT cf_impl_WayFault Try.f24 1 k LL_impl_WayFault (J_impl_WayFault k q) 400 (atLoop Try.f24 0) [(6, t6), (7, t7), (8, t8)] m = J_impl_WayFault k (q + 1) 2 [t6, t7, t8] m := by kernel_rfl
theorem gl_impl_WayFault (k : Nat) : ∀ q i, i < 1 → GoodL CT k Try.f24 LL_impl_WayFault (J_impl_WayFault k q) (atLoop Try.f24 i)
 | 0, 0, _ => goodL_zero (l := 2) (by kernel_rfl) (fun vs m => by kernel_rfl)
 | 0, _ + 1, h => absurd h (by omega)
 | q + 1, 0, _ => goodL_succ (np := 1) (l := 2) (live := [6, 7, 8]) (n := 1) CT_ok rfl okc_impl_WayFault (c := (Try.f24.body.get rfl)) rfl cok_impl_WayFault (by kernel_rfl) (gl_impl_WayFault k q) (by kernel_rfl) rfl (fun vs m r hl h => match vs, hl with
  | [t6, t7, t8], _ => (le_impl_WayFault_0 k q t6 t7 t8 m).trans h)
 | _ + 1, _ + 1, h => absurd h (by omega)
theorem ok_X_impl_WayFault : OkX CT 24 X_impl_WayFault := OkX.of_ex (cf := cf_impl_WayFault) (np := 1) (LL := LL_impl_WayFault) (J := (fun k => J_impl_WayFault k QQ)) CT_ok rfl Try.func24 rfl (Nat.le_of_ble_eq_true rfl) (by decide) cok_impl_WayFault okc_impl_WayFault (fun k => allLoops rfl (by kernel_rfl) (gl_impl_WayFault k QQ)) (fun args m r h => match args, h with
  | [t0], h => ⟨rfl, (xe_impl_WayFault t0 m).trans h⟩)
theorem ok_C_impl_WayFault : OkC CT 24 C_impl_WayFault := fcall_ok rfl ok_X_impl_WayFault
noncomputable def cf_impl_unless : CallF := cfn
noncomputable def X_impl_unless : List Value → Mem → Option VM
 | [t0, t1], m =>
  brX t0
   (
    retK m.length m [t0, t1] (.int .i64 0))
   (
    retK m.length m [t0, t1] t1)
 | _, _ => none
noncomputable def C_impl_unless : List Value → Mem → Option VM := fcall X_impl_unless
@[simp] theorem c_impl_unless : C_impl_unless = fcall X_impl_unless := (rfl)
theorem cok_impl_unless : codeOk CT Try.f27 (Try.f27.body.get rfl) = true := by kernel_rfl
theorem xe_impl_unless (t0 t1 : Value) (m : Mem) : ex CT cf_impl_unless Try.f27 2 m.length [] (fun _ _ _ => none) 400 [.code (Try.f27.body.get rfl)] (argsT 0 [t0, t1]) m = X_impl_unless [t0, t1] m := by kernel_rfl
theorem okc_impl_unless : CallOK CT cf_impl_unless := cfn_ok
theorem ok_X_impl_unless : OkX CT 27 X_impl_unless := OkX.of_ex (cf := cf_impl_unless) (np := 2) (LL := []) (J := (fun _ _ _ _ => none)) CT_ok rfl Try.func27 rfl (Nat.le_of_ble_eq_true rfl) (by decide) cok_impl_unless okc_impl_unless (fun k => noLoops rfl) (fun args m r h => match args, h with
  | [t0, t1], h => ⟨rfl, (xe_impl_unless t0 t1 m).trans h⟩)
theorem ok_C_impl_unless : OkC CT 27 C_impl_unless := fcall_ok rfl ok_X_impl_unless
noncomputable def cf_impl_Line_size : CallF := cfn
noncomputable def L_impl_Line_size (k : Nat) : Nat → Nat → List Value → Mem → Option VM
 | q + 1, 0, [t3, t10, t11, t12], m =>
  (binX .lss .no t12 t11) |> bo fun t13 =>
  brX t13
   (
    (ixaX 1 t10 t12) |> bo fun t14 =>
    (ld1 m t14) |> bo fun t15 =>
    (lenX t15) |> bo fun t18 =>
    (binX .add .no t3 t18) |> bo fun t19 =>
    (binX .add .no t12 (.int .i64 1)) |> bo fun t20 =>
    cutK k m [] [t19, t10, t11, t20] (L_impl_Line_size k q 0))
   (
    retK k m [] t3)
 | _, _, _, _ => none
noncomputable def J_impl_Line_size (k q l : Nat) : List Value → Mem → Option VM := cond (Nat.beq l 3) (L_impl_Line_size k q 0) (fun _ _ => none)
def LL_impl_Line_size : List (Nat × List Tmp) := [(3, [3, 10, 11, 12])]
noncomputable def X_impl_Line_size : List Value → Mem → Option VM
 | [t0], m =>
  (boxX m t0) |> bo fun r1 =>
  (fadX 1 r1.1) |> bo fun t6 =>
  (ld1 r1.2 t6) |> bo fun t7 =>
  (lenX t7) |> bo fun t8 =>
  (fadX 0 r1.1) |> bo fun t9 =>
  (ld1 r1.2 t9) |> bo fun t10 =>
  (lenX t10) |> bo fun t11 =>
  cutK m.length r1.2 [t0] [t8, t10, t11, (.int .i64 0)] (L_impl_Line_size m.length QQ 0)
 | _, _ => none
noncomputable def C_impl_Line_size : List Value → Mem → Option VM := fcall X_impl_Line_size
@[simp] theorem c_impl_Line_size : C_impl_Line_size = fcall X_impl_Line_size := (rfl)
theorem cok_impl_Line_size : codeOk CT Try.f31 (Try.f31.body.get rfl) = true := by kernel_rfl
theorem xe_impl_Line_size (t0 : Value) (m : Mem) : ex CT cf_impl_Line_size Try.f31 1 m.length LL_impl_Line_size (J_impl_Line_size m.length QQ) 400 [.code (Try.f31.body.get rfl)] (argsT 0 [t0]) m = X_impl_Line_size [t0] m := by kernel_rfl
theorem okc_impl_Line_size : CallOK CT cf_impl_Line_size := cfn_ok
theorem le_impl_Line_size_0 (k q : Nat) (t3 t10 t11 t12 : Value) (m : Mem) : ex CT cf_impl_Line_size Try.f31 1 k LL_impl_Line_size (J_impl_Line_size k q) 400 (atLoop Try.f31 0) [(3, t3), (10, t10), (11, t11), (12, t12)] m = J_impl_Line_size k (q + 1) 3 [t3, t10, t11, t12] m := by kernel_rfl
theorem gl_impl_Line_size (k : Nat) : ∀ q i, i < 1 → GoodL CT k Try.f31 LL_impl_Line_size (J_impl_Line_size k q) (atLoop Try.f31 i)
 | 0, 0, _ => goodL_zero (l := 3) (by kernel_rfl) (fun vs m => by kernel_rfl)
 | 0, _ + 1, h => absurd h (by omega)
 | q + 1, 0, _ => goodL_succ (np := 1) (l := 3) (live := [3, 10, 11, 12]) (n := 1) CT_ok rfl okc_impl_Line_size (c := (Try.f31.body.get rfl)) rfl cok_impl_Line_size (by kernel_rfl) (gl_impl_Line_size k q) (by kernel_rfl) rfl (fun vs m r hl h => match vs, hl with
  | [t3, t10, t11, t12], _ => (le_impl_Line_size_0 k q t3 t10 t11 t12 m).trans h)
 | _ + 1, _ + 1, h => absurd h (by omega)
theorem ok_X_impl_Line_size : OkX CT 31 X_impl_Line_size := OkX.of_ex (cf := cf_impl_Line_size) (np := 1) (LL := LL_impl_Line_size) (J := (fun k => J_impl_Line_size k QQ)) CT_ok rfl Try.func31 rfl (Nat.le_of_ble_eq_true rfl) (by decide) cok_impl_Line_size okc_impl_Line_size (fun k => allLoops rfl (by kernel_rfl) (gl_impl_Line_size k QQ)) (fun args m r h => match args, h with
  | [t0], h => ⟨rfl, (xe_impl_Line_size t0 m).trans h⟩)
theorem ok_C_impl_Line_size : OkC CT 31 C_impl_Line_size := fcall_ok rfl ok_X_impl_Line_size
noncomputable def cf_impl_LineFault : CallF := cfc 21 C_impl_in (cfc 23 C_impl_first (cfc 27 C_impl_unless (cfc 31 C_impl_Line_size cfn)))
noncomputable def X_impl_LineFault : List Value → Mem → Option VM
 | [t0], m =>
  (boxX m t0) |> bo fun r1 =>
  (fadX 0 r1.1) |> bo fun t3 =>
  (ld1 r1.2 t3) |> bo fun t4 =>
  (lenX t4) |> bo fun t5 =>
  (binX .leq .no t5 (.int .i64 40)) |> bo fun t6 =>
  (gd t6 true ((ldS r1.2 4 r1.1) |> bo fun v => some (v, r1.2)) r1.2) |> bo fun r6 =>
  (gd t6 true ((C_impl_Line_size [r6.1] r6.2) |> bo fun r => some (r.1, r.2)) r6.2) |> bo fun r7 =>
  (gd t6 true ((binX .leq .no r7.1 (.int .i64 40)) |> bo fun v => some (v, r7.2)) r7.2) |> bo fun r8 =>
  (pickX t6 r8.1 (.bool false)) |> bo fun t11 =>
  (C_impl_unless [t11, (.int .i64 2)] r8.2) |> bo fun r10 =>
  (fadX 3 r1.1) |> bo fun t13 =>
  (ld1 r10.2 t13) |> bo fun t14 =>
  (C_impl_in [t14, (.int .i64 0), (.int .i64 999)] r10.2) |> bo fun r13 =>
  (C_impl_unless [r13.1, (.int .i64 3)] r13.2) |> bo fun r14 =>
  (bslX r14.2 2 1 [.int .i64 0] [(0, 1, r10.1), (1, 1, r14.1)]) |> bo fun r15 =>
  (C_impl_first [r15.1] r15.2) |> bo fun r16 =>
  gP (stbL [((rdN t13), r6.2, r7.2), ((rdN t13), r8.2, r10.2)])
   (
    retK m.length r16.2 [t0] r16.1)
 | _, _ => none
noncomputable def C_impl_LineFault : List Value → Mem → Option VM := fcall X_impl_LineFault
@[simp] theorem c_impl_LineFault : C_impl_LineFault = fcall X_impl_LineFault := (rfl)
theorem cok_impl_LineFault : codeOk CT Try.f25 (Try.f25.body.get rfl) = true := by kernel_rfl
theorem xe_impl_LineFault (t0 : Value) (m : Mem) : ex CT cf_impl_LineFault Try.f25 1 m.length [] (fun _ _ _ => none) 400 [.code (Try.f25.body.get rfl)] (argsT 0 [t0]) m = X_impl_LineFault [t0] m := by kernel_rfl
theorem okc_impl_LineFault : CallOK CT cf_impl_LineFault := cfc_ok ok_C_impl_in (cfc_ok ok_C_impl_first (cfc_ok ok_C_impl_unless (cfc_ok ok_C_impl_Line_size cfn_ok)))
theorem ok_X_impl_LineFault : OkX CT 25 X_impl_LineFault := OkX.of_ex (cf := cf_impl_LineFault) (np := 1) (LL := []) (J := (fun _ _ _ _ => none)) CT_ok rfl Try.func25 rfl (Nat.le_of_ble_eq_true rfl) (by decide) cok_impl_LineFault okc_impl_LineFault (fun k => noLoops rfl) (fun args m r h => match args, h with
  | [t0], h => ⟨rfl, (xe_impl_LineFault t0 m).trans h⟩)
theorem ok_C_impl_LineFault : OkC CT 25 C_impl_LineFault := fcall_ok rfl ok_X_impl_LineFault
noncomputable def cf_slices_Clone_byte_byte : CallF := cfn
noncomputable def X_slices_Clone_byte_byte : List Value → Mem → Option VM
 | [t0], m =>
  (nlX .eql t0) |> bo fun t4 =>
  brX t4
   (
    retK m.length m [t0] (.slice none 0 0))
   (
    ((bslX m 0 1 [.int .u8 0] []) |> bo fun r => some (.slice none 0 0, r.2)) |> bo fun r2 =>
    (apL r2.2 1 1 r2.1 t0) |> bo fun r3 =>
    retK m.length r3.2 [t0] r3.1)
 | _, _ => none
theorem cok_slices_Clone_byte_byte : codeOk CT.l0 Try.f47 (Try.f47.body.get rfl) = true := by kernel_rfl
theorem xe_slices_Clone_byte_byte (t0 : Value) (m : Mem) : ex CT.l0 cf_slices_Clone_byte_byte Try.f47 1 m.length [] (fun _ _ _ => none) 400 [.code (Try.f47.body.get rfl)] (argsT 0 [t0]) m = X_slices_Clone_byte_byte [t0] m := by kernel_rfl
theorem okc_slices_Clone_byte_byte : CallOK CT.l0 cf_slices_Clone_byte_byte := cfn_ok
theorem ok_X_slices_Clone_byte_byte : OkX CT.l0 47 X_slices_Clone_byte_byte := OkX.of_ex (cf := cf_slices_Clone_byte_byte) (np := 1) (LL := []) (J := (fun _ _ _ _ => none)) CT_ok.l0 rfl Try.func47 rfl (Nat.le_of_ble_eq_true rfl) (by decide) cok_slices_Clone_byte_byte okc_slices_Clone_byte_byte (fun k => noLoops rfl) (fun args m r h => match args, h with
  | [t0], h => ⟨rfl, (xe_slices_Clone_byte_byte t0 m).trans h⟩)
noncomputable def C_slices_Clone_byte_byte : List Value → Mem → Option VM := cloneC0 1
@[simp] theorem c_slices_Clone_byte_byte : C_slices_Clone_byte_byte = cloneC0 1 := (rfl)
theorem cl0_slices_Clone_byte_byte : X_slices_Clone_byte_byte [.float .f64 0] [] = some (.slice none 0 0, []) := by simp -implicitDefEqProofs [X_slices_Clone_byte_byte, retK_eq]
theorem cl1_slices_Clone_byte_byte : X_slices_Clone_byte_byte [.float .f64 1] [] = some (.slice none 0 0, []) := by simp -implicitDefEqProofs [X_slices_Clone_byte_byte, retK_eq, apL_nil0]
theorem cl2_slices_Clone_byte_byte (len : Nat) (cs : Array Value) (hl : len ≠ 0) (hs : cs.size = len * 1) (hk : len < 1000000000) (hh : cs.toList.all hard = true) : X_slices_Clone_byte_byte [.iface len (.agg cs)] [] = some (.slice (some ⟨0, 0, none⟩) len len, [⟨cs.toList, 1, true, true⟩]) := by
 have ha := fun m => apL_nagg (m := m) (sz := 1) (bytes := 1) hs hl hk (by omega)
 simp -implicitDefEqProofs [X_slices_Clone_byte_byte, retK_eq, ha, hl, hard_all hh]
theorem ok_C_slices_Clone_byte_byte : OkC CT 47 C_slices_Clone_byte_byte := cloneC0_ok rfl ok_X_slices_Clone_byte_byte cl0_slices_Clone_byte_byte cl1_slices_Clone_byte_byte cl2_slices_Clone_byte_byte
noncomputable def cf_impl_Line_clone : CallF := cfc 47 C_slices_Clone_byte_byte cfn
noncomputable def L_impl_Line_clone (k : Nat) : Nat → Nat → List Value → Mem → Option VM
 | q + 1, 0, [t1, t2, t3, t8, t9, t10], m =>
  (binX .lss .no t10 t9) |> bo fun t11 =>
  brX t11
   (
    (ixaX 1 t8 t10) |> bo fun t12 =>
    (ld1 m t12) |> bo fun t13 =>
    (C_slices_Clone_byte_byte [t13] m) |> bo fun r4 =>
    (bslX r4.2 1 1 [.slice none 0 0] [(0, 1, r4.1)]) |> bo fun r5 =>
    (apL r5.2 1 24 t3 r5.1) |> bo fun r6 =>
    (binX .add .no t10 (.int .i64 1)) |> bo fun t19 =>
    cutK k r6.2 [] [t1, t2, r6.1, t8, t9, t19] (L_impl_Line_clone k q 0))
   (
    (fadX 1 t1) |> bo fun t21 =>
    (ld1 m t21) |> bo fun t22 =>
    (C_slices_Clone_byte_byte [t22] m) |> bo fun r10 =>
    (fadX 0 t1) |> bo fun t24 =>
    (stX r10.2 1 t24 t3) |> bo fun m12 =>
    (fadX 1 t1) |> bo fun t25 =>
    (stX m12 1 t25 r10.1) |> bo fun m14 =>
    (ldS m14 4 t1) |> bo fun t26 =>
    (stX m14 4 t2 t26) |> bo fun m16 =>
    (resP (some 4) m16 t2) |> bo fun c17 =>
    retK k m16 [] c17)
 | _, _, _, _ => none
noncomputable def J_impl_Line_clone (k q l : Nat) : List Value → Mem → Option VM := cond (Nat.beq l 3) (L_impl_Line_clone k q 0) (fun _ _ => none)
def LL_impl_Line_clone : List (Nat × List Tmp) := [(3, [1, 2, 3, 8, 9, 10])]
noncomputable def X_impl_Line_clone : List Value → Mem → Option VM
 | [t0], m =>
  (boxX m t0) |> bo fun r1 =>
  (alX r1.2 [.slice none 0 0, .slice none 0 0, .bool false, .int .i64 0]) |> bo fun r2 =>
  (bslX r2.2 0 1 [.slice none 0 0] []) |> bo fun r3 =>
  (fadX 0 r1.1) |> bo fun t7 =>
  (ld1 r3.2 t7) |> bo fun t8 =>
  (lenX t8) |> bo fun t9 =>
  cutK m.length r3.2 [t0] [r1.1, r2.1, r3.1, t8, t9, (.int .i64 0)] (L_impl_Line_clone m.length QQ 0)
 | _, _ => none
noncomputable def C_impl_Line_clone : List Value → Mem → Option VM := fcall X_impl_Line_clone
@[simp] theorem c_impl_Line_clone : C_impl_Line_clone = fcall X_impl_Line_clone := (rfl)
theorem cok_impl_Line_clone : codeOk CT Try.f28 (Try.f28.body.get rfl) = true := by kernel_rfl
theorem xe_impl_Line_clone (t0 : Value) (m : Mem) : ex CT cf_impl_Line_clone Try.f28 1 m.length LL_impl_Line_clone (J_impl_Line_clone m.length QQ) 400 [.code (Try.f28.body.get rfl)] (argsT 0 [t0]) m = X_impl_Line_clone [t0] m := by kernel_rfl
theorem okc_impl_Line_clone : CallOK CT cf_impl_Line_clone := cfc_ok ok_C_slices_Clone_byte_byte cfn_ok
theorem le_impl_Line_clone_0 (k q : Nat) (t1 t2 t3 t8 t9 t10 : Value) (m : Mem) : ex CT cf_impl_Line_clone Try.f28 1 k LL_impl_Line_clone (J_impl_Line_clone k q) 400 (atLoop Try.f28 0) [(1, t1), (2, t2), (3, t3), (8, t8), (9, t9), (10, t10)] m = J_impl_Line_clone k (q + 1) 3 [t1, t2, t3, t8, t9, t10] m := by kernel_rfl
theorem gl_impl_Line_clone (k : Nat) : ∀ q i, i < 1 → GoodL CT k Try.f28 LL_impl_Line_clone (J_impl_Line_clone k q) (atLoop Try.f28 i)
 | 0, 0, _ => goodL_zero (l := 3) (by kernel_rfl) (fun vs m => by kernel_rfl)
 | 0, _ + 1, h => absurd h (by omega)
 | q + 1, 0, _ => goodL_succ (np := 1) (l := 3) (live := [1, 2, 3, 8, 9, 10]) (n := 1) CT_ok rfl okc_impl_Line_clone (c := (Try.f28.body.get rfl)) rfl cok_impl_Line_clone (by kernel_rfl) (gl_impl_Line_clone k q) (by kernel_rfl) rfl (fun vs m r hl h => match vs, hl with
  | [t1, t2, t3, t8, t9, t10], _ => (le_impl_Line_clone_0 k q t1 t2 t3 t8 t9 t10 m).trans h)
 | _ + 1, _ + 1, h => absurd h (by omega)
theorem ok_X_impl_Line_clone : OkX CT 28 X_impl_Line_clone := OkX.of_ex (cf := cf_impl_Line_clone) (np := 1) (LL := LL_impl_Line_clone) (J := (fun k => J_impl_Line_clone k QQ)) CT_ok rfl Try.func28 rfl (Nat.le_of_ble_eq_true rfl) (by decide) cok_impl_Line_clone okc_impl_Line_clone (fun k => allLoops rfl (by kernel_rfl) (gl_impl_Line_clone k QQ)) (fun args m r h => match args, h with
  | [t0], h => ⟨rfl, (xe_impl_Line_clone t0 m).trans h⟩)
theorem ok_C_impl_Line_clone : OkC CT 28 C_impl_Line_clone := fcall_ok rfl ok_X_impl_Line_clone
noncomputable def cf_impl_Way_has : CallF := cfn
noncomputable def X_impl_Way_has : List Value → Mem → Option VM
 | [t0, t1], m =>
  (boxX m t0) |> bo fun r1 =>
  (fadX 0 r1.1) |> bo fun t5 =>
  (ld1 r1.2 t5) |> bo fun t6 =>
  (binX .and .no t6 t1) |> bo fun t8 =>
  (binX .eql .no t8 t1) |> bo fun t10 =>
  retK m.length r1.2 [t0, t1] t10
 | _, _ => none
noncomputable def C_impl_Way_has : List Value → Mem → Option VM := fcall X_impl_Way_has
@[simp] theorem c_impl_Way_has : C_impl_Way_has = fcall X_impl_Way_has := (rfl)
theorem cok_impl_Way_has : codeOk CT Try.f30 (Try.f30.body.get rfl) = true := by kernel_rfl
theorem xe_impl_Way_has (t0 t1 : Value) (m : Mem) : ex CT cf_impl_Way_has Try.f30 2 m.length [] (fun _ _ _ => none) 400 [.code (Try.f30.body.get rfl)] (argsT 0 [t0, t1]) m = X_impl_Way_has [t0, t1] m := by kernel_rfl
theorem okc_impl_Way_has : CallOK CT cf_impl_Way_has := cfn_ok
theorem ok_X_impl_Way_has : OkX CT 30 X_impl_Way_has := OkX.of_ex (cf := cf_impl_Way_has) (np := 2) (LL := []) (J := (fun _ _ _ _ => none)) CT_ok rfl Try.func30 rfl (Nat.le_of_ble_eq_true rfl) (by decide) cok_impl_Way_has okc_impl_Way_has (fun k => noLoops rfl) (fun args m r h => match args, h with
  | [t0, t1], h => ⟨rfl, (xe_impl_Way_has t0 t1 m).trans h⟩)
theorem ok_C_impl_Way_has : OkC CT 30 C_impl_Way_has := fcall_ok rfl ok_X_impl_Way_has
noncomputable def cf_impl_feeder_show : CallF := cfc 30 C_impl_Way_has cfn
noncomputable def X_impl_feeder_show : List Value → Mem → Option VM
 | [t0, t1], m =>
  (nilX t0) |> bo fun t5 =>
  (fadX 0 t5) |> bo fun t6 =>
  (ldS m 7 t6) |> bo fun t7 =>
  (C_impl_Way_has [t7, (.int .i64 2)] m) |> bo fun r4 =>
  brX r4.1
   (
    (nilX t0) |> bo fun t11 =>
    (fadX 11 t11) |> bo fun t12 =>
    (ld1 r4.2 t12) |> bo fun t13 =>
    (apL r4.2 1 1 t13 t1) |> bo fun r8 =>
    (nilX t0) |> bo fun t16 =>
    (fadX 11 t16) |> bo fun t17 =>
    (stX r8.2 1 t17 r8.1) |> bo fun m11 =>
    some ((.tuple #[]), m11))
   (
    some ((.tuple #[]), r4.2))
 | _, _ => none
noncomputable def C_impl_feeder_show : List Value → Mem → Option VM := dcall X_impl_feeder_show
@[simp] theorem c_impl_feeder_show : C_impl_feeder_show = dcall X_impl_feeder_show := (rfl)
theorem cok_impl_feeder_show : codeOk CT Try.f72 (Try.f72.body.get rfl) = true := by kernel_rfl
theorem xe_impl_feeder_show (t0 t1 : Value) (m : Mem) : exD CT cf_impl_feeder_show Try.f72 m.length [] (fun _ _ _ => none) 400 [.code (Try.f72.body.get rfl)] (argsT 0 [t0, t1]) m = X_impl_feeder_show [t0, t1] m := by kernel_rfl
theorem okc_impl_feeder_show : CallOK CT cf_impl_feeder_show := cfc_ok ok_C_impl_Way_has cfn_ok
theorem ok_X_impl_feeder_show : OkX CT 72 X_impl_feeder_show := OkX.of_exD (cf := cf_impl_feeder_show) (np := 2) (LL := []) (J := (fun _ _ _ _ => none)) CT_ok rfl Try.func72 rfl (Nat.le_of_ble_eq_true rfl) (by decide) cok_impl_feeder_show okc_impl_feeder_show (fun k => noLoops rfl) (fun args m r h => match args, h with
  | [t0, t1], h => ⟨rfl, (xe_impl_feeder_show t0 t1 m).trans h⟩)
theorem ok_C_impl_feeder_show : OkC CT 72 C_impl_feeder_show := dcall_ok rfl ok_X_impl_feeder_show
noncomputable def cf_impl_Way_shown : CallF := cfc 30 C_impl_Way_has cfn
noncomputable def X_impl_Way_shown : List Value → Mem → Option VM
 | [t0, t1], m =>
  (boxX m t0) |> bo fun r1 =>
  (ldS r1.2 7 r1.1) |> bo fun t5 =>
  (C_impl_Way_has [t5, (.int .i64 16)] r1.2) |> bo fun r3 =>
  (gd r3.1 true (some (t1, r3.2)) r3.2) |> bo fun r4 =>
  (gd r3.1 true ((binX .lss .no r4.1 (.int .u8 32)) |> bo fun v => some (v, r4.2)) r4.2) |> bo fun r5 =>
  (gd r3.1 true (some (r5.1, r5.2)) r5.2) |> bo fun r6 =>
  (gd r6.1 true (some (t1, r6.2)) r6.2) |> bo fun r7 =>
  (gd r6.1 true ((binX .neq .no r7.1 (.int .u8 9)) |> bo fun v => some (v, r7.2)) r7.2) |> bo fun r8 =>
  (gd r3.1 true ((pickX r6.1 r8.1 (.bool false)) |> bo fun v => some (v, r8.2)) r8.2) |> bo fun r9 =>
  (gd r3.1 true (some (r9.1, r9.2)) r9.2) |> bo fun r10 =>
  (gd r10.1 true (some (t1, r10.2)) r10.2) |> bo fun r11 =>
  (gd r10.1 true ((binX .neq .no r11.1 (.int .u8 10)) |> bo fun v => some (v, r11.2)) r11.2) |> bo fun r12 =>
  (gd r3.1 true ((pickX r10.1 r12.1 (.bool false)) |> bo fun v => some (v, r12.2)) r12.2) |> bo fun r13 =>
  (gd r3.1 true (some (r13.1, r13.2)) r13.2) |> bo fun r14 =>
  (gd r14.1 false (some (t1, r14.2)) r14.2) |> bo fun r15 =>
  (gd r14.1 false ((binX .eql .no r15.1 (.int .u8 127)) |> bo fun v => some (v, r15.2)) r15.2) |> bo fun r16 =>
  (gd r3.1 true ((pickX r14.1 (.bool true) r16.1) |> bo fun v => some (v, r16.2)) r16.2) |> bo fun r17 =>
  (pickX r3.1 r17.1 (.bool false)) |> bo fun t22 =>
  brX t22
   (
    (binX .xor .no t1 (.int .u8 64)) |> bo fun t24 =>
    (bslX r17.2 2 1 [.int .u8 0] [(0, 1, (.int .u8 94)), (1, 1, t24)]) |> bo fun r20 =>
    retK m.length r20.2 [t0, t1] r20.1)
   (
    (bslX r17.2 1 1 [.int .u8 0] [(0, 1, t1)]) |> bo fun r21 =>
    retK m.length r21.2 [t0, t1] r21.1)
 | _, _ => none
noncomputable def C_impl_Way_shown : List Value → Mem → Option VM := fcall X_impl_Way_shown
@[simp] theorem c_impl_Way_shown : C_impl_Way_shown = fcall X_impl_Way_shown := (rfl)
theorem cok_impl_Way_shown : codeOk CT Try.f73 (Try.f73.body.get rfl) = true := by kernel_rfl
theorem xe_impl_Way_shown (t0 t1 : Value) (m : Mem) : ex CT cf_impl_Way_shown Try.f73 2 m.length [] (fun _ _ _ => none) 400 [.code (Try.f73.body.get rfl)] (argsT 0 [t0, t1]) m = X_impl_Way_shown [t0, t1] m := by kernel_rfl
theorem okc_impl_Way_shown : CallOK CT cf_impl_Way_shown := cfc_ok ok_C_impl_Way_has cfn_ok
theorem ok_X_impl_Way_shown : OkX CT 73 X_impl_Way_shown := OkX.of_ex (cf := cf_impl_Way_shown) (np := 2) (LL := []) (J := (fun _ _ _ _ => none)) CT_ok rfl Try.func73 rfl (Nat.le_of_ble_eq_true rfl) (by decide) cok_impl_Way_shown okc_impl_Way_shown (fun k => noLoops rfl) (fun args m r h => match args, h with
  | [t0, t1], h => ⟨rfl, (xe_impl_Way_shown t0 t1 m).trans h⟩)
theorem ok_C_impl_Way_shown : OkC CT 73 C_impl_Way_shown := fcall_ok rfl ok_X_impl_Way_shown
noncomputable def cf_impl_feeder_showByte : CallF := cfc 72 C_impl_feeder_show (cfc 73 C_impl_Way_shown cfn)
noncomputable def X_impl_feeder_showByte : List Value → Mem → Option VM
 | [t0, t1], m =>
  (nilX t0) |> bo fun t6 =>
  (fadX 0 t6) |> bo fun t7 =>
  (ldS m 7 t7) |> bo fun t8 =>
  (C_impl_Way_shown [t8, t1] m) |> bo fun r4 =>
  (C_impl_feeder_show [t0, r4.1] r4.2) |> bo fun r5 =>
  some ((.tuple #[]), r5.2)
 | _, _ => none
noncomputable def C_impl_feeder_showByte : List Value → Mem → Option VM := dcall X_impl_feeder_showByte
@[simp] theorem c_impl_feeder_showByte : C_impl_feeder_showByte = dcall X_impl_feeder_showByte := (rfl)
theorem cok_impl_feeder_showByte : codeOk CT Try.f61 (Try.f61.body.get rfl) = true := by kernel_rfl
theorem xe_impl_feeder_showByte (t0 t1 : Value) (m : Mem) : exD CT cf_impl_feeder_showByte Try.f61 m.length [] (fun _ _ _ => none) 400 [.code (Try.f61.body.get rfl)] (argsT 0 [t0, t1]) m = X_impl_feeder_showByte [t0, t1] m := by kernel_rfl
theorem okc_impl_feeder_showByte : CallOK CT cf_impl_feeder_showByte := cfc_ok ok_C_impl_feeder_show (cfc_ok ok_C_impl_Way_shown cfn_ok)
theorem ok_X_impl_feeder_showByte : OkX CT 61 X_impl_feeder_showByte := OkX.of_exD (cf := cf_impl_feeder_showByte) (np := 2) (LL := []) (J := (fun _ _ _ _ => none)) CT_ok rfl Try.func61 rfl (Nat.le_of_ble_eq_true rfl) (by decide) cok_impl_feeder_showByte okc_impl_feeder_showByte (fun k => noLoops rfl) (fun args m r h => match args, h with
  | [t0, t1], h => ⟨rfl, (xe_impl_feeder_showByte t0 t1 m).trans h⟩)
theorem ok_C_impl_feeder_showByte : OkC CT 61 C_impl_feeder_showByte := dcall_ok rfl ok_X_impl_feeder_showByte
noncomputable def cf_impl_feeder_room : CallF := cfc 31 C_impl_Line_size cfn
noncomputable def X_impl_feeder_room : List Value → Mem → Option VM
 | [t0, t1], m =>
  (nilX t0) |> bo fun t6 =>
  (fadX 7 t6) |> bo fun t7 =>
  (ldS m 4 t7) |> bo fun t8 =>
  (C_impl_Line_size [t8] m) |> bo fun r4 =>
  (binX .add .no r4.1 t1) |> bo fun t11 =>
  (binX .leq .no t11 (.int .i64 40)) |> bo fun t12 =>
  retK m.length r4.2 [t0, t1] t12
 | _, _ => none
noncomputable def C_impl_feeder_room : List Value → Mem → Option VM := fcall X_impl_feeder_room
@[simp] theorem c_impl_feeder_room : C_impl_feeder_room = fcall X_impl_feeder_room := (rfl)
theorem cok_impl_feeder_room : codeOk CT Try.f62 (Try.f62.body.get rfl) = true := by kernel_rfl
theorem xe_impl_feeder_room (t0 t1 : Value) (m : Mem) : ex CT cf_impl_feeder_room Try.f62 2 m.length [] (fun _ _ _ => none) 400 [.code (Try.f62.body.get rfl)] (argsT 0 [t0, t1]) m = X_impl_feeder_room [t0, t1] m := by kernel_rfl
theorem okc_impl_feeder_room : CallOK CT cf_impl_feeder_room := cfc_ok ok_C_impl_Line_size cfn_ok
theorem ok_X_impl_feeder_room : OkX CT 62 X_impl_feeder_room := OkX.of_ex (cf := cf_impl_feeder_room) (np := 2) (LL := []) (J := (fun _ _ _ _ => none)) CT_ok rfl Try.func62 rfl (Nat.le_of_ble_eq_true rfl) (by decide) cok_impl_feeder_room okc_impl_feeder_room (fun k => noLoops rfl) (fun args m r h => match args, h with
  | [t0, t1], h => ⟨rfl, (xe_impl_feeder_room t0 t1 m).trans h⟩)
theorem ok_C_impl_feeder_room : OkC CT 62 C_impl_feeder_room := fcall_ok rfl ok_X_impl_feeder_room
noncomputable def cf_impl_feeder_take : CallF := cfc 61 C_impl_feeder_showByte (cfc 62 C_impl_feeder_room cfn)
noncomputable def X_impl_feeder_take : List Value → Mem → Option VM
 | [t0, t1], m =>
  (C_impl_feeder_room [t0, (.int .i64 2)] m) |> bo fun r1 =>
  brX r1.1
   (
    (nilX t0) |> bo fun t8 =>
    (fadX 7 t8) |> bo fun t9 =>
    (fadX 1 t9) |> bo fun t10 =>
    (ld1 r1.2 t10) |> bo fun t11 =>
    (bslX r1.2 1 1 [.int .u8 0] [(0, 1, t1)]) |> bo fun r6 =>
    (apL r6.2 1 1 t11 r6.1) |> bo fun r7 =>
    (nilX t0) |> bo fun t15 =>
    (fadX 7 t15) |> bo fun t16 =>
    (fadX 1 t16) |> bo fun t17 =>
    (stX r7.2 1 t17 r7.1) |> bo fun m11 =>
    (C_impl_feeder_showByte [t0, t1] m11) |> bo fun r12 =>
    some ((.tuple #[]), r12.2))
   (
    some ((.tuple #[]), r1.2))
 | _, _ => none
noncomputable def C_impl_feeder_take : List Value → Mem → Option VM := dcall X_impl_feeder_take
@[simp] theorem c_impl_feeder_take : C_impl_feeder_take = dcall X_impl_feeder_take := (rfl)
theorem cok_impl_feeder_take : codeOk CT Try.f59 (Try.f59.body.get rfl) = true := by kernel_rfl
theorem xe_impl_feeder_take (t0 t1 : Value) (m : Mem) : exD CT cf_impl_feeder_take Try.f59 m.length [] (fun _ _ _ => none) 400 [.code (Try.f59.body.get rfl)] (argsT 0 [t0, t1]) m = X_impl_feeder_take [t0, t1] m := by kernel_rfl
theorem okc_impl_feeder_take : CallOK CT cf_impl_feeder_take := cfc_ok ok_C_impl_feeder_showByte (cfc_ok ok_C_impl_feeder_room cfn_ok)
theorem ok_X_impl_feeder_take : OkX CT 59 X_impl_feeder_take := OkX.of_exD (cf := cf_impl_feeder_take) (np := 2) (LL := []) (J := (fun _ _ _ _ => none)) CT_ok rfl Try.func59 rfl (Nat.le_of_ble_eq_true rfl) (by decide) cok_impl_feeder_take okc_impl_feeder_take (fun k => noLoops rfl) (fun args m r h => match args, h with
  | [t0, t1], h => ⟨rfl, (xe_impl_feeder_take t0 t1 m).trans h⟩)
theorem ok_C_impl_feeder_take : OkC CT 59 C_impl_feeder_take := dcall_ok rfl ok_X_impl_feeder_take
noncomputable def cf_impl_is : CallF := cfn
noncomputable def X_impl_is : List Value → Mem → Option VM
 | [t0, t1], m =>
  (binX .neq .no t1 (.int .i64 0)) |> bo fun t6 =>
  (gd t6 true (some (t0, m)) m) |> bo fun r2 =>
  (gd t6 true ((cvI .i64 r2.1) |> bo fun v => some (v, r2.2)) r2.2) |> bo fun r3 =>
  (gd t6 true (some (t1, r3.2)) r3.2) |> bo fun r4 =>
  (gd t6 true ((binX .eql .no r3.1 r4.1) |> bo fun v => some (v, r4.2)) r4.2) |> bo fun r5 =>
  (pickX t6 r5.1 (.bool false)) |> bo fun t12 =>
  retK m.length r5.2 [t0, t1] t12
 | _, _ => none
noncomputable def C_impl_is : List Value → Mem → Option VM := fcall X_impl_is
@[simp] theorem c_impl_is : C_impl_is = fcall X_impl_is := (rfl)
theorem cok_impl_is : codeOk CT Try.f60 (Try.f60.body.get rfl) = true := by kernel_rfl
theorem xe_impl_is (t0 t1 : Value) (m : Mem) : ex CT cf_impl_is Try.f60 2 m.length [] (fun _ _ _ => none) 400 [.code (Try.f60.body.get rfl)] (argsT 0 [t0, t1]) m = X_impl_is [t0, t1] m := by kernel_rfl
theorem okc_impl_is : CallOK CT cf_impl_is := cfn_ok
theorem ok_X_impl_is : OkX CT 60 X_impl_is := OkX.of_ex (cf := cf_impl_is) (np := 2) (LL := []) (J := (fun _ _ _ _ => none)) CT_ok rfl Try.func60 rfl (Nat.le_of_ble_eq_true rfl) (by decide) cok_impl_is okc_impl_is (fun k => noLoops rfl) (fun args m r h => match args, h with
  | [t0, t1], h => ⟨rfl, (xe_impl_is t0 t1 m).trans h⟩)
theorem ok_C_impl_is : OkC CT 60 C_impl_is := fcall_ok rfl ok_X_impl_is
noncomputable def cf_impl_feeder_piece : CallF := cfn
noncomputable def X_impl_feeder_piece : List Value → Mem → Option VM
 | [t0], m =>
  (nilX t0) |> bo fun t4 =>
  (fadX 7 t4) |> bo fun t5 =>
  (fadX 0 t5) |> bo fun t6 =>
  (ld1 m t6) |> bo fun t7 =>
  (lenX t7) |> bo fun t8 =>
  (binX .lss .no t8 (.int .i64 40)) |> bo fun t9 =>
  retK m.length m [t0] t9
 | _, _ => none
noncomputable def C_impl_feeder_piece : List Value → Mem → Option VM := fcall X_impl_feeder_piece
@[simp] theorem c_impl_feeder_piece : C_impl_feeder_piece = fcall X_impl_feeder_piece := (rfl)
theorem cok_impl_feeder_piece : codeOk CT Try.f63 (Try.f63.body.get rfl) = true := by kernel_rfl
theorem xe_impl_feeder_piece (t0 : Value) (m : Mem) : ex CT cf_impl_feeder_piece Try.f63 1 m.length [] (fun _ _ _ => none) 400 [.code (Try.f63.body.get rfl)] (argsT 0 [t0]) m = X_impl_feeder_piece [t0] m := by kernel_rfl
theorem okc_impl_feeder_piece : CallOK CT cf_impl_feeder_piece := cfn_ok
theorem ok_X_impl_feeder_piece : OkX CT 63 X_impl_feeder_piece := OkX.of_ex (cf := cf_impl_feeder_piece) (np := 1) (LL := []) (J := (fun _ _ _ _ => none)) CT_ok rfl Try.func63 rfl (Nat.le_of_ble_eq_true rfl) (by decide) cok_impl_feeder_piece okc_impl_feeder_piece (fun k => noLoops rfl) (fun args m r h => match args, h with
  | [t0], h => ⟨rfl, (xe_impl_feeder_piece t0 m).trans h⟩)
theorem ok_C_impl_feeder_piece : OkC CT 63 C_impl_feeder_piece := fcall_ok rfl ok_X_impl_feeder_piece
noncomputable def cf_impl_feeder_dropChar : CallF := cfc 30 C_impl_Way_has (cfc 72 C_impl_feeder_show (cfc 73 C_impl_Way_shown cfn))
noncomputable def L_impl_feeder_dropChar (k : Nat) : Nat → Nat → List Value → Mem → Option VM
 | q + 1, 0, [t0, t2], m =>
  (binX .gtr .no t2 (.int .i64 0)) |> bo fun t12 =>
  (gd t12 true (some (t0, m)) m) |> bo fun r2 =>
  (gd t12 true ((nilX r2.1) |> bo fun v => some (v, r2.2)) r2.2) |> bo fun r3 =>
  (gd t12 true ((fadX 7 r3.1) |> bo fun v => some (v, r3.2)) r3.2) |> bo fun r4 =>
  (gd t12 true ((fadX 1 r4.1) |> bo fun v => some (v, r4.2)) r4.2) |> bo fun r5 =>
  (gd t12 true ((ld1 r5.2 r5.1) |> bo fun v => some (v, r5.2)) r5.2) |> bo fun r6 =>
  (gd t12 true (some (t2, r6.2)) r6.2) |> bo fun r7 =>
  (gd t12 true ((ixaX 1 r6.1 r7.1) |> bo fun v => some (v, r7.2)) r7.2) |> bo fun r8 =>
  (gd t12 true ((ld1 r8.2 r8.1) |> bo fun v => some (v, r8.2)) r8.2) |> bo fun r9 =>
  (gd t12 true ((binX .and .no r9.1 (.int .u8 192)) |> bo fun v => some (v, r9.2)) r9.2) |> bo fun r10 =>
  (gd t12 true ((binX .eql .no r10.1 (.int .u8 128)) |> bo fun v => some (v, r10.2)) r10.2) |> bo fun r11 =>
  (pickX t12 r11.1 (.bool false)) |> bo fun t24 =>
  brX t24
   (
    (binX .sub .no t2 (.int .i64 1)) |> bo fun t26 =>
    (L_impl_feeder_dropChar k q 0) [t0, t26] r11.2)
   (
    (nilX t0) |> bo fun t28 =>
    (fadX 0 t28) |> bo fun t29 =>
    (ldS r11.2 7 t29) |> bo fun t30 =>
    (nilX t0) |> bo fun t32 =>
    (fadX 7 t32) |> bo fun t33 =>
    (fadX 1 t33) |> bo fun t34 =>
    (ld1 r11.2 t34) |> bo fun t35 =>
    (ixaX 1 t35 t2) |> bo fun t37 =>
    (ld1 r11.2 t37) |> bo fun t38 =>
    (C_impl_Way_shown [t30, t38] r11.2) |> bo fun r23 =>
    (lenX r23.1) |> bo fun t40 =>
    (binX .eql .no t40 (.int .i64 2)) |> bo fun t41 =>
    brX t41
     (
      (nilX t0) |> bo fun t44 =>
      (fadX 7 t44) |> bo fun t45 =>
      (fadX 1 t45) |> bo fun t46 =>
      (ld1 r23.2 t46) |> bo fun t47 =>
      (slX r23.2 1 t47 none (some t2)) |> bo fun t49 =>
      (nilX t0) |> bo fun t50 =>
      (fadX 7 t50) |> bo fun t51 =>
      (fadX 1 t51) |> bo fun t52 =>
      (stX r23.2 1 t52 t49) |> bo fun m34 =>
      (L_impl_feeder_dropChar k q 1) [t0, (.int .i64 2)] m34)
     (
      (nilX t0) |> bo fun t44 =>
      (fadX 7 t44) |> bo fun t45 =>
      (fadX 1 t45) |> bo fun t46 =>
      (ld1 r23.2 t46) |> bo fun t47 =>
      (slX r23.2 1 t47 none (some t2)) |> bo fun t49 =>
      (nilX t0) |> bo fun t50 =>
      (fadX 7 t50) |> bo fun t51 =>
      (fadX 1 t51) |> bo fun t52 =>
      (stX r23.2 1 t52 t49) |> bo fun m43 =>
      (L_impl_feeder_dropChar k q 1) [t0, (.int .i64 1)] m43))
 | q + 1, 1, [t0, t3], m =>
  (nilX t0) |> bo fun t54 =>
  (fadX 0 t54) |> bo fun t55 =>
  (ldS m 7 t55) |> bo fun t56 =>
  (C_impl_Way_has [t56, (.int .i64 4)] m) |> bo fun r4 =>
  (gd r4.1 true (some (t3, r4.2)) r4.2) |> bo fun r5 =>
  (gd r4.1 true ((binX .gtr .no r5.1 (.int .i64 0)) |> bo fun v => some (v, r5.2)) r5.2) |> bo fun r6 =>
  (pickX r4.1 r6.1 (.bool false)) |> bo fun t61 =>
  brX t61
   (
    (bslX r6.2 3 1 [.int .u8 0] [(0, 1, (.int .u8 8)), (1, 1, (.int .u8 32)), (2, 1, (.int .u8 8))]) |> bo fun r8 =>
    (C_impl_feeder_show [t0, r8.1] r8.2) |> bo fun r9 =>
    (binX .sub .no t3 (.int .i64 1)) |> bo fun t66 =>
    (L_impl_feeder_dropChar k q 1) [t0, t66] r9.2)
   (
    some ((.tuple #[]), r6.2))
 | _, _, _, _ => none
noncomputable def J_impl_feeder_dropChar (k q l : Nat) : List Value → Mem → Option VM := cond (Nat.beq l 1) (L_impl_feeder_dropChar k q 0) (cond (Nat.beq l 7) (L_impl_feeder_dropChar k q 1) (fun _ _ => none))
def LL_impl_feeder_dropChar : List (Nat × List Tmp) := [(1, [0, 2]), (7, [0, 3])]
noncomputable def X_impl_feeder_dropChar : List Value → Mem → Option VM
 | [t0], m =>
  (nilX t0) |> bo fun t5 =>
  (fadX 7 t5) |> bo fun t6 =>
  (fadX 1 t6) |> bo fun t7 =>
  (ld1 m t7) |> bo fun t8 =>
  (lenX t8) |> bo fun t9 =>
  (binX .sub .no t9 (.int .i64 1)) |> bo fun t10 =>
  (L_impl_feeder_dropChar m.length QQ 0) [t0, t10] m
 | _, _ => none
noncomputable def C_impl_feeder_dropChar : List Value → Mem → Option VM := dcall X_impl_feeder_dropChar
@[simp] theorem c_impl_feeder_dropChar : C_impl_feeder_dropChar = dcall X_impl_feeder_dropChar := (rfl)
theorem cok_impl_feeder_dropChar : codeOk CT Try.f74 (Try.f74.body.get rfl) = true := by kernel_rfl
theorem xe_impl_feeder_dropChar (t0 : Value) (m : Mem) : exD CT cf_impl_feeder_dropChar Try.f74 m.length LL_impl_feeder_dropChar (J_impl_feeder_dropChar m.length QQ) 400 [.code (Try.f74.body.get rfl)] (argsT 0 [t0]) m = X_impl_feeder_dropChar [t0] m := by kernel_rfl
theorem okc_impl_feeder_dropChar : CallOK CT cf_impl_feeder_dropChar := cfc_ok ok_C_impl_Way_has (cfc_ok ok_C_impl_feeder_show (cfc_ok ok_C_impl_Way_shown cfn_ok))
theorem le_impl_feeder_dropChar_0 (k q : Nat) (t0 t2 : Value) (m : Mem) : exD CT cf_impl_feeder_dropChar Try.f74 k LL_impl_feeder_dropChar (J_impl_feeder_dropChar k q) 400 (atLoop Try.f74 0) [(0, t0), (2, t2)] m = J_impl_feeder_dropChar k (q + 1) 1 [t0, t2] m := by kernel_rfl
theorem le_impl_feeder_dropChar_1 (k q : Nat) (t0 t3 : Value) (m : Mem) : exD CT cf_impl_feeder_dropChar Try.f74 k LL_impl_feeder_dropChar (J_impl_feeder_dropChar k q) 400 (atLoop Try.f74 1) [(0, t0), (3, t3)] m = J_impl_feeder_dropChar k (q + 1) 7 [t0, t3] m := by kernel_rfl
theorem gl_impl_feeder_dropChar (k : Nat) : ∀ q i, i < 2 → GoodL CT k Try.f74 LL_impl_feeder_dropChar (J_impl_feeder_dropChar k q) (atLoop Try.f74 i)
 | 0, 0, _ => goodL_zero (l := 1) (by kernel_rfl) (fun vs m => by kernel_rfl)
 | 0, 1, _ => goodL_zero (l := 7) (by kernel_rfl) (fun vs m => by kernel_rfl)
 | 0, _ + 2, h => absurd h (by omega)
 | q + 1, 0, _ => goodD_succ (l := 1) (live := [0, 2]) (n := 2) CT_ok rfl okc_impl_feeder_dropChar (c := (Try.f74.body.get rfl)) rfl cok_impl_feeder_dropChar (by kernel_rfl) (gl_impl_feeder_dropChar k q) (by kernel_rfl) rfl (fun vs m r hl h => match vs, hl with
  | [t0, t2], _ => (le_impl_feeder_dropChar_0 k q t0 t2 m).trans h)
 | q + 1, 1, _ => goodD_succ (l := 7) (live := [0, 3]) (n := 2) CT_ok rfl okc_impl_feeder_dropChar (c := (Try.f74.body.get rfl)) rfl cok_impl_feeder_dropChar (by kernel_rfl) (gl_impl_feeder_dropChar k q) (by kernel_rfl) rfl (fun vs m r hl h => match vs, hl with
  | [t0, t3], _ => (le_impl_feeder_dropChar_1 k q t0 t3 m).trans h)
 | _ + 1, _ + 2, h => absurd h (by omega)
theorem ok_X_impl_feeder_dropChar : OkX CT 74 X_impl_feeder_dropChar := OkX.of_exD (cf := cf_impl_feeder_dropChar) (np := 1) (LL := LL_impl_feeder_dropChar) (J := (fun k => J_impl_feeder_dropChar k QQ)) CT_ok rfl Try.func74 rfl (Nat.le_of_ble_eq_true rfl) (by decide) cok_impl_feeder_dropChar okc_impl_feeder_dropChar (fun k => allLoops rfl (by kernel_rfl) (gl_impl_feeder_dropChar k QQ)) (fun args m r h => match args, h with
  | [t0], h => ⟨rfl, (xe_impl_feeder_dropChar t0 m).trans h⟩)
theorem ok_C_impl_feeder_dropChar : OkC CT 74 C_impl_feeder_dropChar := dcall_ok rfl ok_X_impl_feeder_dropChar
noncomputable def cf_impl_feeder_erase_1 : CallF := cfn
noncomputable def X_impl_feeder_erase_1 : List Value → Mem → Option VM
 | [t0], m =>
  (binX .eql .no t0 (.int .u8 32)) |> bo fun t4 =>
  retK m.length m [t0] t4
 | _, _ => none
noncomputable def C_impl_feeder_erase_1 : List Value → Mem → Option VM := fcall X_impl_feeder_erase_1
@[simp] theorem c_impl_feeder_erase_1 : C_impl_feeder_erase_1 = fcall X_impl_feeder_erase_1 := (rfl)
theorem cok_impl_feeder_erase_1 : codeOk CT Try.f76 (Try.f76.body.get rfl) = true := by kernel_rfl
theorem xe_impl_feeder_erase_1 (t0 : Value) (m : Mem) : ex CT cf_impl_feeder_erase_1 Try.f76 1 m.length [] (fun _ _ _ => none) 400 [.code (Try.f76.body.get rfl)] (argsT 0 [t0]) m = X_impl_feeder_erase_1 [t0] m := by kernel_rfl
theorem okc_impl_feeder_erase_1 : CallOK CT cf_impl_feeder_erase_1 := cfn_ok
theorem ok_X_impl_feeder_erase_1 : OkX CT 76 X_impl_feeder_erase_1 := OkX.of_ex (cf := cf_impl_feeder_erase_1) (np := 1) (LL := []) (J := (fun _ _ _ _ => none)) CT_ok rfl Try.func76 rfl (Nat.le_of_ble_eq_true rfl) (by decide) cok_impl_feeder_erase_1 okc_impl_feeder_erase_1 (fun k => noLoops rfl) (fun args m r h => match args, h with
  | [t0], h => ⟨rfl, (xe_impl_feeder_erase_1 t0 m).trans h⟩)
theorem ok_C_impl_feeder_erase_1 : OkC CT 76 C_impl_feeder_erase_1 := fcall_ok rfl ok_X_impl_feeder_erase_1
noncomputable def cf_impl_feeder_erase_2 : CallF := cfn
noncomputable def X_impl_feeder_erase_2 : List Value → Mem → Option VM
 | [t0], m =>
  (binX .neq .no t0 (.int .u8 32)) |> bo fun t4 =>
  retK m.length m [t0] t4
 | _, _ => none
noncomputable def C_impl_feeder_erase_2 : List Value → Mem → Option VM := fcall X_impl_feeder_erase_2
@[simp] theorem c_impl_feeder_erase_2 : C_impl_feeder_erase_2 = fcall X_impl_feeder_erase_2 := (rfl)
theorem cok_impl_feeder_erase_2 : codeOk CT Try.f77 (Try.f77.body.get rfl) = true := by kernel_rfl
theorem xe_impl_feeder_erase_2 (t0 : Value) (m : Mem) : ex CT cf_impl_feeder_erase_2 Try.f77 1 m.length [] (fun _ _ _ => none) 400 [.code (Try.f77.body.get rfl)] (argsT 0 [t0]) m = X_impl_feeder_erase_2 [t0] m := by kernel_rfl
theorem okc_impl_feeder_erase_2 : CallOK CT cf_impl_feeder_erase_2 := cfn_ok
theorem ok_X_impl_feeder_erase_2 : OkX CT 77 X_impl_feeder_erase_2 := OkX.of_ex (cf := cf_impl_feeder_erase_2) (np := 1) (LL := []) (J := (fun _ _ _ _ => none)) CT_ok rfl Try.func77 rfl (Nat.le_of_ble_eq_true rfl) (by decide) cok_impl_feeder_erase_2 okc_impl_feeder_erase_2 (fun k => noLoops rfl) (fun args m r h => match args, h with
  | [t0], h => ⟨rfl, (xe_impl_feeder_erase_2 t0 m).trans h⟩)
theorem ok_C_impl_feeder_erase_2 : OkC CT 77 C_impl_feeder_erase_2 := fcall_ok rfl ok_X_impl_feeder_erase_2
noncomputable def cf_impl_feeder_erase_3 : CallF := cfn
noncomputable def X_impl_feeder_erase_3 : List Value → Mem → Option VM
 | [t0], m =>
  retK m.length m [t0] (.bool true)
 | _, _ => none
noncomputable def C_impl_feeder_erase_3 : List Value → Mem → Option VM := fcall X_impl_feeder_erase_3
@[simp] theorem c_impl_feeder_erase_3 : C_impl_feeder_erase_3 = fcall X_impl_feeder_erase_3 := (rfl)
theorem cok_impl_feeder_erase_3 : codeOk CT Try.f78 (Try.f78.body.get rfl) = true := by kernel_rfl
theorem xe_impl_feeder_erase_3 (t0 : Value) (m : Mem) : ex CT cf_impl_feeder_erase_3 Try.f78 1 m.length [] (fun _ _ _ => none) 400 [.code (Try.f78.body.get rfl)] (argsT 0 [t0]) m = X_impl_feeder_erase_3 [t0] m := by kernel_rfl
theorem okc_impl_feeder_erase_3 : CallOK CT cf_impl_feeder_erase_3 := cfn_ok
theorem ok_X_impl_feeder_erase_3 : OkX CT 78 X_impl_feeder_erase_3 := OkX.of_ex (cf := cf_impl_feeder_erase_3) (np := 1) (LL := []) (J := (fun _ _ _ _ => none)) CT_ok rfl Try.func78 rfl (Nat.le_of_ble_eq_true rfl) (by decide) cok_impl_feeder_erase_3 okc_impl_feeder_erase_3 (fun k => noLoops rfl) (fun args m r h => match args, h with
  | [t0], h => ⟨rfl, (xe_impl_feeder_erase_3 t0 m).trans h⟩)
theorem ok_C_impl_feeder_erase_3 : OkC CT 78 C_impl_feeder_erase_3 := fcall_ok rfl ok_X_impl_feeder_erase_3
noncomputable def cf_impl_feeder_drop : CallF := cfc 74 C_impl_feeder_dropChar (cfc 76 C_impl_feeder_erase_1 (cfc 77 C_impl_feeder_erase_2 (cfc 78 C_impl_feeder_erase_3 cfn)))
noncomputable def L_impl_feeder_drop (k : Nat) : Nat → Nat → List Value → Mem → Option VM
 | q + 1, 0, [t0, t1, t4], m =>
  (binX .gtr .no t4 (.int .i64 0)) |> bo fun t12 =>
  (gd t12 true (some (t1, m)) m) |> bo fun r2 =>
  (gd t12 true (some (t0, r2.2)) r2.2) |> bo fun r3 =>
  (gd t12 true ((nilX r3.1) |> bo fun v => some (v, r3.2)) r3.2) |> bo fun r4 =>
  (gd t12 true ((fadX 7 r4.1) |> bo fun v => some (v, r4.2)) r4.2) |> bo fun r5 =>
  (gd t12 true ((fadX 1 r5.1) |> bo fun v => some (v, r5.2)) r5.2) |> bo fun r6 =>
  (gd t12 true ((ld1 r6.2 r6.1) |> bo fun v => some (v, r6.2)) r6.2) |> bo fun r7 =>
  (gd t12 true (some (t4, r7.2)) r7.2) |> bo fun r8 =>
  (gd t12 true ((binX .sub .no r8.1 (.int .i64 1)) |> bo fun v => some (v, r8.2)) r8.2) |> bo fun r9 =>
  (gd t12 true ((ixaX 1 r7.1 r9.1) |> bo fun v => some (v, r9.2)) r9.2) |> bo fun r10 =>
  (gd t12 true ((ld1 r10.2 r10.1) |> bo fun v => some (v, r10.2)) r10.2) |> bo fun r11 =>
  (gd t12 true ((callV cf_impl_feeder_drop r2.1 [r11.1] r11.2) |> bo fun r => some (r.1, r.2)) r11.2) |> bo fun r12 =>
  (pickX t12 r12.1 (.bool false)) |> bo fun t25 =>
  brX t25
   (
    (C_impl_feeder_dropChar [t0] r12.2) |> bo fun r14 =>
    (nilX t0) |> bo fun t27 =>
    (fadX 7 t27) |> bo fun t28 =>
    (fadX 1 t28) |> bo fun t29 =>
    (ld1 r14.2 t29) |> bo fun t30 =>
    (lenX t30) |> bo fun t31 =>
    (L_impl_feeder_drop k q 0) [t0, t1, t31] r14.2)
   (
    some ((.tuple #[]), r12.2))
 | _, _, _, _ => none
noncomputable def J_impl_feeder_drop (k q l : Nat) : List Value → Mem → Option VM := cond (Nat.beq l 1) (L_impl_feeder_drop k q 0) (fun _ _ => none)
def LL_impl_feeder_drop : List (Nat × List Tmp) := [(1, [0, 1, 4])]
noncomputable def X_impl_feeder_drop : List Value → Mem → Option VM
 | [t0, t1], m =>
  (nilX t0) |> bo fun t6 =>
  (fadX 7 t6) |> bo fun t7 =>
  (fadX 1 t7) |> bo fun t8 =>
  (ld1 m t8) |> bo fun t9 =>
  (lenX t9) |> bo fun t10 =>
  (L_impl_feeder_drop m.length QQ 0) [t0, t1, t10] m
 | _, _ => none
noncomputable def C_impl_feeder_drop : List Value → Mem → Option VM := dcall X_impl_feeder_drop
@[simp] theorem c_impl_feeder_drop : C_impl_feeder_drop = dcall X_impl_feeder_drop := (rfl)
theorem cok_impl_feeder_drop : codeOk CT Try.f75 (Try.f75.body.get rfl) = true := by kernel_rfl
theorem xe_impl_feeder_drop (t0 t1 : Value) (m : Mem) : exD CT cf_impl_feeder_drop Try.f75 m.length LL_impl_feeder_drop (J_impl_feeder_drop m.length QQ) 400 [.code (Try.f75.body.get rfl)] (argsT 0 [t0, t1]) m = X_impl_feeder_drop [t0, t1] m := by kernel_rfl
theorem okc_impl_feeder_drop : CallOK CT cf_impl_feeder_drop := cfc_ok ok_C_impl_feeder_dropChar (cfc_ok ok_C_impl_feeder_erase_1 (cfc_ok ok_C_impl_feeder_erase_2 (cfc_ok ok_C_impl_feeder_erase_3 cfn_ok)))
theorem le_impl_feeder_drop_0 (k q : Nat) (t0 t1 t4 : Value) (m : Mem) : exD CT cf_impl_feeder_drop Try.f75 k LL_impl_feeder_drop (J_impl_feeder_drop k q) 400 (atLoop Try.f75 0) [(0, t0), (1, t1), (4, t4)] m = J_impl_feeder_drop k (q + 1) 1 [t0, t1, t4] m := by kernel_rfl
theorem gl_impl_feeder_drop (k : Nat) : ∀ q i, i < 1 → GoodL CT k Try.f75 LL_impl_feeder_drop (J_impl_feeder_drop k q) (atLoop Try.f75 i)
 | 0, 0, _ => goodL_zero (l := 1) (by kernel_rfl) (fun vs m => by kernel_rfl)
 | 0, _ + 1, h => absurd h (by omega)
 | q + 1, 0, _ => goodD_succ (l := 1) (live := [0, 1, 4]) (n := 1) CT_ok rfl okc_impl_feeder_drop (c := (Try.f75.body.get rfl)) rfl cok_impl_feeder_drop (by kernel_rfl) (gl_impl_feeder_drop k q) (by kernel_rfl) rfl (fun vs m r hl h => match vs, hl with
  | [t0, t1, t4], _ => (le_impl_feeder_drop_0 k q t0 t1 t4 m).trans h)
 | _ + 1, _ + 1, h => absurd h (by omega)
theorem ok_X_impl_feeder_drop : OkX CT 75 X_impl_feeder_drop := OkX.of_exD (cf := cf_impl_feeder_drop) (np := 2) (LL := LL_impl_feeder_drop) (J := (fun k => J_impl_feeder_drop k QQ)) CT_ok rfl Try.func75 rfl (Nat.le_of_ble_eq_true rfl) (by decide) cok_impl_feeder_drop okc_impl_feeder_drop (fun k => allLoops rfl (by kernel_rfl) (gl_impl_feeder_drop k QQ)) (fun args m r h => match args, h with
  | [t0, t1], h => ⟨rfl, (xe_impl_feeder_drop t0 t1 m).trans h⟩)
theorem ok_C_impl_feeder_drop : OkC CT 75 C_impl_feeder_drop := dcall_ok rfl ok_X_impl_feeder_drop
noncomputable def cf_impl_feeder_erase : CallF := cfc 30 C_impl_Way_has (cfc 60 C_impl_is (cfc 61 C_impl_feeder_showByte (cfc 72 C_impl_feeder_show (cfc 74 C_impl_feeder_dropChar (cfc 75 C_impl_feeder_drop cfn)))))
noncomputable def X_impl_feeder_erase : List Value → Mem → Option VM
 | [t0, t1], m =>
  (nilX t0) |> bo fun t8 =>
  (fadX 0 t8) |> bo fun t9 =>
  (fadX 2 t9) |> bo fun t10 =>
  (ld1 m t10) |> bo fun t11 =>
  (C_impl_is [t1, t11] m) |> bo fun r5 =>
  (nilX t0) |> bo fun t16 =>
  (fadX 0 t16) |> bo fun t17 =>
  (fadX 1 t17) |> bo fun t18 =>
  (ld1 r5.2 t18) |> bo fun t19 =>
  (C_impl_is [t1, t19] r5.2) |> bo fun r10 =>
  brX r10.1
   (
    (nilX t0) |> bo fun t22 =>
    (fadX 7 t22) |> bo fun t23 =>
    (fadX 1 t23) |> bo fun t24 =>
    (ld1 r10.2 t24) |> bo fun t25 =>
    (lenX t25) |> bo fun t26 =>
    (binX .gtr .no t26 (.int .i64 0)) |> bo fun t27 =>
    brX t27
     (
      (C_impl_feeder_dropChar [t0] r10.2) |> bo fun r17 =>
      (nilX t0) |> bo fun t47 =>
      (fadX 0 t47) |> bo fun t48 =>
      (ldS r17.2 7 t48) |> bo fun t49 =>
      (C_impl_Way_has [t49, (.int .i64 4)] r17.2) |> bo fun r21 =>
      (uop .not r21.1) |> bo fun t51 =>
      brX t51
       (
        (C_impl_feeder_showByte [t0, t1] r21.2) |> bo fun r23 =>
        (gd (.bool false) true (some (t0, r23.2)) r23.2) |> bo fun r24 =>
        (gd (.bool false) true ((nilX r24.1) |> bo fun v => some (v, r24.2)) r24.2) |> bo fun r25 =>
        (gd (.bool false) true ((fadX 0 r25.1) |> bo fun v => some (v, r25.2)) r25.2) |> bo fun r26 =>
        (gd (.bool false) true ((ldS r26.2 7 r26.1) |> bo fun v => some (v, r26.2)) r26.2) |> bo fun r27 =>
        (gd (.bool false) true ((C_impl_Way_has [r27.1, (.int .i64 8)] r27.2) |> bo fun r => some (r.1, r.2)) r27.2) |> bo fun r28 =>
        (pickX (.bool false) r28.1 (.bool false)) |> bo fun t62 =>
        brX t62
         (
          (bslX r28.2 1 1 [.int .u8 0] [(0, 1, (.int .u8 10))]) |> bo fun r30 =>
          (C_impl_feeder_show [t0, r30.1] r30.2) |> bo fun r31 =>
          some ((.bool true), r31.2))
         (
          some ((.bool true), r28.2)))
       (
        some ((.bool true), r21.2)))
     (
      (nilX t0) |> bo fun t47 =>
      (fadX 0 t47) |> bo fun t48 =>
      (ldS r10.2 7 t48) |> bo fun t49 =>
      (C_impl_Way_has [t49, (.int .i64 4)] r10.2) |> bo fun r35 =>
      (uop .not r35.1) |> bo fun t51 =>
      brX t51
       (
        (C_impl_feeder_showByte [t0, t1] r35.2) |> bo fun r37 =>
        (gd (.bool false) true (some (t0, r37.2)) r37.2) |> bo fun r38 =>
        (gd (.bool false) true ((nilX r38.1) |> bo fun v => some (v, r38.2)) r38.2) |> bo fun r39 =>
        (gd (.bool false) true ((fadX 0 r39.1) |> bo fun v => some (v, r39.2)) r39.2) |> bo fun r40 =>
        (gd (.bool false) true ((ldS r40.2 7 r40.1) |> bo fun v => some (v, r40.2)) r40.2) |> bo fun r41 =>
        (gd (.bool false) true ((C_impl_Way_has [r41.1, (.int .i64 8)] r41.2) |> bo fun r => some (r.1, r.2)) r41.2) |> bo fun r42 =>
        (pickX (.bool false) r42.1 (.bool false)) |> bo fun t62 =>
        brX t62
         (
          (bslX r42.2 1 1 [.int .u8 0] [(0, 1, (.int .u8 10))]) |> bo fun r44 =>
          (C_impl_feeder_show [t0, r44.1] r44.2) |> bo fun r45 =>
          some ((.bool true), r45.2))
         (
          some ((.bool true), r42.2)))
       (
        some ((.bool true), r35.2))))
   (
    (nilX t0) |> bo fun t33 =>
    (fadX 0 t33) |> bo fun t34 =>
    (fadX 3 t34) |> bo fun t35 =>
    (ld1 r10.2 t35) |> bo fun t36 =>
    (C_impl_is [t1, t36] r10.2) |> bo fun r50 =>
    brX r50.1
     (
      (C_impl_feeder_drop [t0, (.func (.func 76) #[] #[])] r50.2) |> bo fun r51 =>
      (C_impl_feeder_drop [t0, (.func (.func 77) #[] #[])] r51.2) |> bo fun r52 =>
      (nilX t0) |> bo fun t47 =>
      (fadX 0 t47) |> bo fun t48 =>
      (ldS r52.2 7 t48) |> bo fun t49 =>
      (C_impl_Way_has [t49, (.int .i64 4)] r52.2) |> bo fun r56 =>
      (uop .not r56.1) |> bo fun t51 =>
      brX t51
       (
        (C_impl_feeder_showByte [t0, t1] r56.2) |> bo fun r58 =>
        (gd (.bool false) true (some (t0, r58.2)) r58.2) |> bo fun r59 =>
        (gd (.bool false) true ((nilX r59.1) |> bo fun v => some (v, r59.2)) r59.2) |> bo fun r60 =>
        (gd (.bool false) true ((fadX 0 r60.1) |> bo fun v => some (v, r60.2)) r60.2) |> bo fun r61 =>
        (gd (.bool false) true ((ldS r61.2 7 r61.1) |> bo fun v => some (v, r61.2)) r61.2) |> bo fun r62 =>
        (gd (.bool false) true ((C_impl_Way_has [r62.1, (.int .i64 8)] r62.2) |> bo fun r => some (r.1, r.2)) r62.2) |> bo fun r63 =>
        (pickX (.bool false) r63.1 (.bool false)) |> bo fun t62 =>
        brX t62
         (
          (bslX r63.2 1 1 [.int .u8 0] [(0, 1, (.int .u8 10))]) |> bo fun r65 =>
          (C_impl_feeder_show [t0, r65.1] r65.2) |> bo fun r66 =>
          some ((.bool true), r66.2))
         (
          some ((.bool true), r63.2)))
       (
        some ((.bool true), r56.2)))
     (
      brX r5.1
       (
        (C_impl_feeder_drop [t0, (.func (.func 78) #[] #[])] r50.2) |> bo fun r67 =>
        (nilX t0) |> bo fun t47 =>
        (fadX 0 t47) |> bo fun t48 =>
        (ldS r67.2 7 t48) |> bo fun t49 =>
        (C_impl_Way_has [t49, (.int .i64 4)] r67.2) |> bo fun r71 =>
        (uop .not r71.1) |> bo fun t51 =>
        brX t51
         (
          (C_impl_feeder_showByte [t0, t1] r71.2) |> bo fun r73 =>
          (gd r5.1 true (some (t0, r73.2)) r73.2) |> bo fun r74 =>
          (gd r5.1 true ((nilX r74.1) |> bo fun v => some (v, r74.2)) r74.2) |> bo fun r75 =>
          (gd r5.1 true ((fadX 0 r75.1) |> bo fun v => some (v, r75.2)) r75.2) |> bo fun r76 =>
          (gd r5.1 true ((ldS r76.2 7 r76.1) |> bo fun v => some (v, r76.2)) r76.2) |> bo fun r77 =>
          (gd r5.1 true ((C_impl_Way_has [r77.1, (.int .i64 8)] r77.2) |> bo fun r => some (r.1, r.2)) r77.2) |> bo fun r78 =>
          (pickX r5.1 r78.1 (.bool false)) |> bo fun t62 =>
          brX t62
           (
            (bslX r78.2 1 1 [.int .u8 0] [(0, 1, (.int .u8 10))]) |> bo fun r80 =>
            (C_impl_feeder_show [t0, r80.1] r80.2) |> bo fun r81 =>
            some ((.bool true), r81.2))
           (
            some ((.bool true), r78.2)))
         (
          some ((.bool true), r71.2)))
       (
        some ((.bool false), r50.2))))
 | _, _ => none
noncomputable def C_impl_feeder_erase : List Value → Mem → Option VM := dcall X_impl_feeder_erase
@[simp] theorem c_impl_feeder_erase : C_impl_feeder_erase = dcall X_impl_feeder_erase := (rfl)
theorem cok_impl_feeder_erase : codeOk CT Try.f64 (Try.f64.body.get rfl) = true := by kernel_rfl
theorem xe_impl_feeder_erase (t0 t1 : Value) (m : Mem) : exD CT cf_impl_feeder_erase Try.f64 m.length [] (fun _ _ _ => none) 400 [.code (Try.f64.body.get rfl)] (argsT 0 [t0, t1]) m = X_impl_feeder_erase [t0, t1] m := by kernel_rfl
theorem okc_impl_feeder_erase : CallOK CT cf_impl_feeder_erase := cfc_ok ok_C_impl_Way_has (cfc_ok ok_C_impl_is (cfc_ok ok_C_impl_feeder_showByte (cfc_ok ok_C_impl_feeder_show (cfc_ok ok_C_impl_feeder_dropChar (cfc_ok ok_C_impl_feeder_drop cfn_ok)))))
theorem ok_X_impl_feeder_erase : OkX CT 64 X_impl_feeder_erase := OkX.of_exD (cf := cf_impl_feeder_erase) (np := 2) (LL := []) (J := (fun _ _ _ _ => none)) CT_ok rfl Try.func64 rfl (Nat.le_of_ble_eq_true rfl) (by decide) cok_impl_feeder_erase okc_impl_feeder_erase (fun k => noLoops rfl) (fun args m r h => match args, h with
  | [t0, t1], h => ⟨rfl, (xe_impl_feeder_erase t0 t1 m).trans h⟩)
theorem ok_C_impl_feeder_erase : OkC CT 64 C_impl_feeder_erase := dcall_ok rfl ok_X_impl_feeder_erase
noncomputable def cf_impl_feeder_end : CallF := cfn
noncomputable def X_impl_feeder_end : List Value → Mem → Option VM
 | [t0], m =>
  (nilX t0) |> bo fun t4 =>
  (fadX 7 t4) |> bo fun t5 =>
  (fadX 0 t5) |> bo fun t6 =>
  (ld1 m t6) |> bo fun t7 =>
  (nilX t0) |> bo fun t9 =>
  (fadX 7 t9) |> bo fun t10 =>
  (fadX 1 t10) |> bo fun t11 =>
  (ld1 m t11) |> bo fun t12 =>
  (bslX m 1 1 [.slice none 0 0] [(0, 1, t12)]) |> bo fun r9 =>
  (apL r9.2 1 24 t7 r9.1) |> bo fun r10 =>
  (nilX t0) |> bo fun t15 =>
  (fadX 7 t15) |> bo fun t16 =>
  (fadX 0 t16) |> bo fun t17 =>
  (stX r10.2 1 t17 r10.1) |> bo fun m14 =>
  (nilX t0) |> bo fun t19 =>
  (fadX 7 t19) |> bo fun t20 =>
  (fadX 1 t20) |> bo fun t21 =>
  (stX m14 1 t21 (.slice none 0 0)) |> bo fun m18 =>
  some ((.tuple #[]), m18)
 | _, _ => none
noncomputable def C_impl_feeder_end : List Value → Mem → Option VM := dcall X_impl_feeder_end
@[simp] theorem c_impl_feeder_end : C_impl_feeder_end = dcall X_impl_feeder_end := (rfl)
theorem cok_impl_feeder_end : codeOk CT Try.f65 (Try.f65.body.get rfl) = true := by kernel_rfl
theorem xe_impl_feeder_end (t0 : Value) (m : Mem) : exD CT cf_impl_feeder_end Try.f65 m.length [] (fun _ _ _ => none) 400 [.code (Try.f65.body.get rfl)] (argsT 0 [t0]) m = X_impl_feeder_end [t0] m := by kernel_rfl
theorem okc_impl_feeder_end : CallOK CT cf_impl_feeder_end := cfn_ok
theorem ok_X_impl_feeder_end : OkX CT 65 X_impl_feeder_end := OkX.of_exD (cf := cf_impl_feeder_end) (np := 1) (LL := []) (J := (fun _ _ _ _ => none)) CT_ok rfl Try.func65 rfl (Nat.le_of_ble_eq_true rfl) (by decide) cok_impl_feeder_end okc_impl_feeder_end (fun k => noLoops rfl) (fun args m r h => match args, h with
  | [t0], h => ⟨rfl, (xe_impl_feeder_end t0 m).trans h⟩)
theorem ok_C_impl_feeder_end : OkC CT 65 C_impl_feeder_end := dcall_ok rfl ok_X_impl_feeder_end
noncomputable def cf_impl_feeder_hear : CallF := cfc 30 C_impl_Way_has (cfc 59 C_impl_feeder_take (cfc 60 C_impl_is (cfc 61 C_impl_feeder_showByte (cfc 62 C_impl_feeder_room (cfc 63 C_impl_feeder_piece (cfc 64 C_impl_feeder_erase (cfc 65 C_impl_feeder_end cfn)))))))
noncomputable def X_impl_feeder_hear : List Value → Mem → Option VM
 | [t0, t1], m =>
  (nilX t0) |> bo fun t5 =>
  (fadX 0 t5) |> bo fun t6 =>
  (ldS m 7 t6) |> bo fun t7 =>
  (C_impl_Way_has [t7, (.int .i64 64)] m) |> bo fun r4 =>
  (gd r4.1 true (some (t1, r4.2)) r4.2) |> bo fun r5 =>
  (gd r4.1 true ((binX .eql .no r5.1 (.int .u8 13)) |> bo fun v => some (v, r5.2)) r5.2) |> bo fun r6 =>
  (pickX r4.1 r6.1 (.bool false)) |> bo fun t12 =>
  (gd t12 true (some (t0, r6.2)) r6.2) |> bo fun r8 =>
  (gd t12 true ((nilX r8.1) |> bo fun v => some (v, r8.2)) r8.2) |> bo fun r9 =>
  (gd t12 true ((fadX 7 r9.1) |> bo fun v => some (v, r9.2)) r9.2) |> bo fun r10 =>
  (gd t12 true ((fadX 2 r10.1) |> bo fun v => some (v, r10.2)) r10.2) |> bo fun r11 =>
  (gd t12 true ((ld1 r11.2 r11.1) |> bo fun v => some (v, r11.2)) r11.2) |> bo fun r12 =>
  (gd t12 true ((uop .not r12.1) |> bo fun v => some (v, r12.2)) r12.2) |> bo fun r13 =>
  (pickX t12 r13.1 (.bool false)) |> bo fun t20 =>
  brX t20
   (
    (nilX t0) |> bo fun t26 =>
    (fadX 7 t26) |> bo fun t27 =>
    (fadX 2 t27) |> bo fun t28 =>
    (ld1 r13.2 t28) |> bo fun t29 =>
    brX t29
     (
      (C_impl_feeder_take [t0, (.int .u8 10)] r13.2) |> bo fun r19 =>
      (nilX t0) |> bo fun t34 =>
      (fadX 7 t34) |> bo fun t35 =>
      (fadX 2 t35) |> bo fun t36 =>
      (stX r19.2 1 t36 (.bool false)) |> bo fun m23 =>
      some ((.tuple #[]), m23))
     (
      (nilX t0) |> bo fun t39 =>
      (fadX 0 t39) |> bo fun t40 =>
      (ldS r13.2 7 t40) |> bo fun t41 =>
      (C_impl_Way_has [t41, (.int .i64 32)] r13.2) |> bo fun r27 =>
      (gd r27.1 true (some ((.int .u8 10), r27.2)) r27.2) |> bo fun r28 =>
      (gd r27.1 true (some (t0, r28.2)) r28.2) |> bo fun r29 =>
      (gd r27.1 true ((nilX r29.1) |> bo fun v => some (v, r29.2)) r29.2) |> bo fun r30 =>
      (gd r27.1 true ((fadX 0 r30.1) |> bo fun v => some (v, r30.2)) r30.2) |> bo fun r31 =>
      (gd r27.1 true ((fadX 5 r31.1) |> bo fun v => some (v, r31.2)) r31.2) |> bo fun r32 =>
      (gd r27.1 true ((ld1 r32.2 r32.1) |> bo fun v => some (v, r32.2)) r32.2) |> bo fun r33 =>
      (gd r27.1 true ((C_impl_is [r28.1, r33.1] r33.2) |> bo fun r => some (r.1, r.2)) r33.2) |> bo fun r34 =>
      (pickX r27.1 r34.1 (.bool false)) |> bo fun t51 =>
      brX t51
       (
        (nilX t0) |> bo fun t55 =>
        (fadX 7 t55) |> bo fun t56 =>
        (fadX 3 t56) |> bo fun t57 =>
        (ld1 r34.2 t57) |> bo fun t58 =>
        (binX .add .no t58 (.int .i64 1)) |> bo fun t59 =>
        (minMax false t59 [(.int .i64 999)]) |> bo fun t60 =>
        (nilX t0) |> bo fun t61 =>
        (fadX 7 t61) |> bo fun t62 =>
        (fadX 3 t62) |> bo fun t63 =>
        (stX r34.2 1 t63 t60) |> bo fun m45 =>
        (nilX t0) |> bo fun t64 =>
        (fadX 7 t64) |> bo fun t65 =>
        (fadX 1 t65) |> bo fun t66 =>
        (stX m45 1 t66 (.slice none 0 0)) |> bo fun m49 =>
        (C_impl_feeder_showByte [t0, (.int .u8 10)] m49) |> bo fun r50 =>
        some ((.tuple #[]), r50.2))
       (
        (nilX t0) |> bo fun t72 =>
        (fadX 0 t72) |> bo fun t73 =>
        (ldS r34.2 7 t73) |> bo fun t74 =>
        (C_impl_Way_has [t74, (.int .i64 1)] r34.2) |> bo fun r54 =>
        (uop .not r54.1) |> bo fun t76 =>
        brX t76
         (
          (C_impl_feeder_room [t0, (.int .i64 1)] r54.2) |> bo fun r56 =>
          (gd r56.1 true (some (t0, r56.2)) r56.2) |> bo fun r57 =>
          (gd r56.1 true ((C_impl_feeder_piece [r57.1] r57.2) |> bo fun r => some (r.1, r.2)) r57.2) |> bo fun r58 =>
          (pickX r56.1 r58.1 (.bool false)) |> bo fun t82 =>
          brX t82
           (
            (nilX t0) |> bo fun t85 =>
            (fadX 7 t85) |> bo fun t86 =>
            (fadX 0 t86) |> bo fun t87 =>
            (ld1 r58.2 t87) |> bo fun t88 =>
            (bslX r58.2 1 1 [.int .u8 0] [(0, 1, (.int .u8 10))]) |> bo fun r64 =>
            (bslX r64.2 1 1 [.slice none 0 0] [(0, 1, r64.1)]) |> bo fun r65 =>
            (apL r65.2 1 24 t88 r65.1) |> bo fun r66 =>
            (nilX t0) |> bo fun t93 =>
            (fadX 7 t93) |> bo fun t94 =>
            (fadX 0 t94) |> bo fun t95 =>
            (stX r66.2 1 t95 r66.1) |> bo fun m70 =>
            (C_impl_feeder_showByte [t0, (.int .u8 10)] m70) |> bo fun r71 =>
            some ((.tuple #[]), r71.2))
           (
            some ((.tuple #[]), r58.2)))
         (
          (nilX t0) |> bo fun t102 =>
          (fadX 0 t102) |> bo fun t103 =>
          (fadX 6 t103) |> bo fun t104 =>
          (ld1 r54.2 t104) |> bo fun t105 =>
          (C_impl_is [(.int .u8 10), t105] r54.2) |> bo fun r76 =>
          brX r76.1
           (
            (nilX t0) |> bo fun t108 =>
            (fadX 7 t108) |> bo fun t109 =>
            (fadX 2 t109) |> bo fun t110 =>
            (stX r76.2 1 t110 (.bool true)) |> bo fun m80 =>
            some ((.tuple #[]), m80))
           (
            (C_impl_feeder_erase [t0, (.int .u8 10)] r76.2) |> bo fun r81 =>
            brX r81.1
             (
              some ((.tuple #[]), r81.2))
             (
              (nilX t0) |> bo fun t118 =>
              (fadX 0 t118) |> bo fun t119 =>
              (fadX 4 t119) |> bo fun t120 =>
              (ld1 r81.2 t120) |> bo fun t121 =>
              (C_impl_is [(.int .u8 10), t121] r81.2) |> bo fun r86 =>
              brX r86.1
               (
                (C_impl_feeder_piece [t0] r86.2) |> bo fun r87 =>
                brX r87.1
                 (
                  (C_impl_feeder_end [t0] r87.2) |> bo fun r88 =>
                  some ((.tuple #[]), r88.2))
                 (
                  some ((.tuple #[]), r87.2)))
               (
                (binX .eql .no (.int .u8 10) (.int .u8 10)) |> bo fun t129 =>
                brX t129
                 (
                  (C_impl_feeder_room [t0, (.int .i64 1)] r86.2) |> bo fun r90 =>
                  (gd r90.1 true (some (t0, r90.2)) r90.2) |> bo fun r91 =>
                  (gd r90.1 true ((C_impl_feeder_piece [r91.1] r91.2) |> bo fun r => some (r.1, r.2)) r91.2) |> bo fun r92 =>
                  (pickX r90.1 r92.1 (.bool false)) |> bo fun t135 =>
                  brX t135
                   (
                    (nilX t0) |> bo fun t138 =>
                    (fadX 7 t138) |> bo fun t139 =>
                    (fadX 1 t139) |> bo fun t140 =>
                    (ld1 r92.2 t140) |> bo fun t141 =>
                    (bslX r92.2 1 1 [.int .u8 0] [(0, 1, (.int .u8 10))]) |> bo fun r98 =>
                    (apL r98.2 1 1 t141 r98.1) |> bo fun r99 =>
                    (nilX t0) |> bo fun t145 =>
                    (fadX 7 t145) |> bo fun t146 =>
                    (fadX 1 t146) |> bo fun t147 =>
                    (stX r99.2 1 t147 r99.1) |> bo fun m103 =>
                    (C_impl_feeder_end [t0] m103) |> bo fun r104 =>
                    (C_impl_feeder_showByte [t0, (.int .u8 10)] r104.2) |> bo fun r105 =>
                    some ((.tuple #[]), r105.2))
                   (
                    some ((.tuple #[]), r92.2)))
                 (
                  (C_impl_feeder_take [t0, (.int .u8 10)] r86.2) |> bo fun r106 =>
                  some ((.tuple #[]), r106.2)))))))))
   (
    (nilX t0) |> bo fun t26 =>
    (fadX 7 t26) |> bo fun t27 =>
    (fadX 2 t27) |> bo fun t28 =>
    (ld1 r13.2 t28) |> bo fun t29 =>
    brX t29
     (
      (C_impl_feeder_take [t0, t1] r13.2) |> bo fun r111 =>
      (nilX t0) |> bo fun t34 =>
      (fadX 7 t34) |> bo fun t35 =>
      (fadX 2 t35) |> bo fun t36 =>
      (stX r111.2 1 t36 (.bool false)) |> bo fun m115 =>
      some ((.tuple #[]), m115))
     (
      (nilX t0) |> bo fun t39 =>
      (fadX 0 t39) |> bo fun t40 =>
      (ldS r13.2 7 t40) |> bo fun t41 =>
      (C_impl_Way_has [t41, (.int .i64 32)] r13.2) |> bo fun r119 =>
      (gd r119.1 true (some (t1, r119.2)) r119.2) |> bo fun r120 =>
      (gd r119.1 true (some (t0, r120.2)) r120.2) |> bo fun r121 =>
      (gd r119.1 true ((nilX r121.1) |> bo fun v => some (v, r121.2)) r121.2) |> bo fun r122 =>
      (gd r119.1 true ((fadX 0 r122.1) |> bo fun v => some (v, r122.2)) r122.2) |> bo fun r123 =>
      (gd r119.1 true ((fadX 5 r123.1) |> bo fun v => some (v, r123.2)) r123.2) |> bo fun r124 =>
      (gd r119.1 true ((ld1 r124.2 r124.1) |> bo fun v => some (v, r124.2)) r124.2) |> bo fun r125 =>
      (gd r119.1 true ((C_impl_is [r120.1, r125.1] r125.2) |> bo fun r => some (r.1, r.2)) r125.2) |> bo fun r126 =>
      (pickX r119.1 r126.1 (.bool false)) |> bo fun t51 =>
      brX t51
       (
        (nilX t0) |> bo fun t55 =>
        (fadX 7 t55) |> bo fun t56 =>
        (fadX 3 t56) |> bo fun t57 =>
        (ld1 r126.2 t57) |> bo fun t58 =>
        (binX .add .no t58 (.int .i64 1)) |> bo fun t59 =>
        (minMax false t59 [(.int .i64 999)]) |> bo fun t60 =>
        (nilX t0) |> bo fun t61 =>
        (fadX 7 t61) |> bo fun t62 =>
        (fadX 3 t62) |> bo fun t63 =>
        (stX r126.2 1 t63 t60) |> bo fun m137 =>
        (nilX t0) |> bo fun t64 =>
        (fadX 7 t64) |> bo fun t65 =>
        (fadX 1 t65) |> bo fun t66 =>
        (stX m137 1 t66 (.slice none 0 0)) |> bo fun m141 =>
        (C_impl_feeder_showByte [t0, t1] m141) |> bo fun r142 =>
        some ((.tuple #[]), r142.2))
       (
        (nilX t0) |> bo fun t72 =>
        (fadX 0 t72) |> bo fun t73 =>
        (ldS r126.2 7 t73) |> bo fun t74 =>
        (C_impl_Way_has [t74, (.int .i64 1)] r126.2) |> bo fun r146 =>
        (uop .not r146.1) |> bo fun t76 =>
        brX t76
         (
          (C_impl_feeder_room [t0, (.int .i64 1)] r146.2) |> bo fun r148 =>
          (gd r148.1 true (some (t0, r148.2)) r148.2) |> bo fun r149 =>
          (gd r148.1 true ((C_impl_feeder_piece [r149.1] r149.2) |> bo fun r => some (r.1, r.2)) r149.2) |> bo fun r150 =>
          (pickX r148.1 r150.1 (.bool false)) |> bo fun t82 =>
          brX t82
           (
            (nilX t0) |> bo fun t85 =>
            (fadX 7 t85) |> bo fun t86 =>
            (fadX 0 t86) |> bo fun t87 =>
            (ld1 r150.2 t87) |> bo fun t88 =>
            (bslX r150.2 1 1 [.int .u8 0] [(0, 1, t1)]) |> bo fun r156 =>
            (bslX r156.2 1 1 [.slice none 0 0] [(0, 1, r156.1)]) |> bo fun r157 =>
            (apL r157.2 1 24 t88 r157.1) |> bo fun r158 =>
            (nilX t0) |> bo fun t93 =>
            (fadX 7 t93) |> bo fun t94 =>
            (fadX 0 t94) |> bo fun t95 =>
            (stX r158.2 1 t95 r158.1) |> bo fun m162 =>
            (C_impl_feeder_showByte [t0, t1] m162) |> bo fun r163 =>
            some ((.tuple #[]), r163.2))
           (
            some ((.tuple #[]), r150.2)))
         (
          (nilX t0) |> bo fun t102 =>
          (fadX 0 t102) |> bo fun t103 =>
          (fadX 6 t103) |> bo fun t104 =>
          (ld1 r146.2 t104) |> bo fun t105 =>
          (C_impl_is [t1, t105] r146.2) |> bo fun r168 =>
          brX r168.1
           (
            (nilX t0) |> bo fun t108 =>
            (fadX 7 t108) |> bo fun t109 =>
            (fadX 2 t109) |> bo fun t110 =>
            (stX r168.2 1 t110 (.bool true)) |> bo fun m172 =>
            some ((.tuple #[]), m172))
           (
            (C_impl_feeder_erase [t0, t1] r168.2) |> bo fun r173 =>
            brX r173.1
             (
              some ((.tuple #[]), r173.2))
             (
              (nilX t0) |> bo fun t118 =>
              (fadX 0 t118) |> bo fun t119 =>
              (fadX 4 t119) |> bo fun t120 =>
              (ld1 r173.2 t120) |> bo fun t121 =>
              (C_impl_is [t1, t121] r173.2) |> bo fun r178 =>
              brX r178.1
               (
                (C_impl_feeder_piece [t0] r178.2) |> bo fun r179 =>
                brX r179.1
                 (
                  (C_impl_feeder_end [t0] r179.2) |> bo fun r180 =>
                  some ((.tuple #[]), r180.2))
                 (
                  some ((.tuple #[]), r179.2)))
               (
                (binX .eql .no t1 (.int .u8 10)) |> bo fun t129 =>
                brX t129
                 (
                  (C_impl_feeder_room [t0, (.int .i64 1)] r178.2) |> bo fun r182 =>
                  (gd r182.1 true (some (t0, r182.2)) r182.2) |> bo fun r183 =>
                  (gd r182.1 true ((C_impl_feeder_piece [r183.1] r183.2) |> bo fun r => some (r.1, r.2)) r183.2) |> bo fun r184 =>
                  (pickX r182.1 r184.1 (.bool false)) |> bo fun t135 =>
                  brX t135
                   (
                    (nilX t0) |> bo fun t138 =>
                    (fadX 7 t138) |> bo fun t139 =>
                    (fadX 1 t139) |> bo fun t140 =>
                    (ld1 r184.2 t140) |> bo fun t141 =>
                    (bslX r184.2 1 1 [.int .u8 0] [(0, 1, t1)]) |> bo fun r190 =>
                    (apL r190.2 1 1 t141 r190.1) |> bo fun r191 =>
                    (nilX t0) |> bo fun t145 =>
                    (fadX 7 t145) |> bo fun t146 =>
                    (fadX 1 t146) |> bo fun t147 =>
                    (stX r191.2 1 t147 r191.1) |> bo fun m195 =>
                    (C_impl_feeder_end [t0] m195) |> bo fun r196 =>
                    (C_impl_feeder_showByte [t0, t1] r196.2) |> bo fun r197 =>
                    some ((.tuple #[]), r197.2))
                   (
                    some ((.tuple #[]), r184.2)))
                 (
                  (C_impl_feeder_take [t0, t1] r178.2) |> bo fun r198 =>
                  some ((.tuple #[]), r198.2)))))))))
 | _, _ => none
noncomputable def C_impl_feeder_hear : List Value → Mem → Option VM := dcall X_impl_feeder_hear
@[simp] theorem c_impl_feeder_hear : C_impl_feeder_hear = dcall X_impl_feeder_hear := (rfl)
theorem cok_impl_feeder_hear : codeOk CT Try.f46 (Try.f46.body.get rfl) = true := by kernel_rfl
theorem xe_impl_feeder_hear (t0 t1 : Value) (m : Mem) : exD CT cf_impl_feeder_hear Try.f46 m.length [] (fun _ _ _ => none) 400 [.code (Try.f46.body.get rfl)] (argsT 0 [t0, t1]) m = X_impl_feeder_hear [t0, t1] m := by kernel_rfl
theorem okc_impl_feeder_hear : CallOK CT cf_impl_feeder_hear := cfc_ok ok_C_impl_Way_has (cfc_ok ok_C_impl_feeder_take (cfc_ok ok_C_impl_is (cfc_ok ok_C_impl_feeder_showByte (cfc_ok ok_C_impl_feeder_room (cfc_ok ok_C_impl_feeder_piece (cfc_ok ok_C_impl_feeder_erase (cfc_ok ok_C_impl_feeder_end cfn_ok)))))))
theorem ok_X_impl_feeder_hear : OkX CT 46 X_impl_feeder_hear := OkX.of_exD (cf := cf_impl_feeder_hear) (np := 2) (LL := []) (J := (fun _ _ _ _ => none)) CT_ok rfl Try.func46 rfl (Nat.le_of_ble_eq_true rfl) (by decide) cok_impl_feeder_hear okc_impl_feeder_hear (fun k => noLoops rfl) (fun args m r h => match args, h with
  | [t0, t1], h => ⟨rfl, (xe_impl_feeder_hear t0 t1 m).trans h⟩)
theorem ok_C_impl_feeder_hear : OkC CT 46 C_impl_feeder_hear := dcall_ok rfl ok_X_impl_feeder_hear
noncomputable def cf_impl_fed : CallF := cfc 28 C_impl_Line_clone (cfc 46 C_impl_feeder_hear cfn)
noncomputable def L_impl_fed (k : Nat) : Nat → Nat → List Value → Mem → Option VM
 | q + 1, 0, [t6, t7, t14, t15, t16], m =>
  (binX .lss .no t16 t15) |> bo fun t17 =>
  brX t17
   (
    (ixaX 1 t14 t16) |> bo fun t18 =>
    (ld1 m t18) |> bo fun t19 =>
    (C_impl_feeder_hear [t7, t19] m) |> bo fun r4 =>
    (binX .add .no t16 (.int .i64 1)) |> bo fun t22 =>
    (L_impl_fed k q 0) [t6, t7, t14, t15, t22] r4.2)
   (
    (fadX 11 t7) |> bo fun t23 =>
    (ld1 m t23) |> bo fun t24 =>
    (fadX 7 t7) |> bo fun t25 =>
    (ldS m 4 t25) |> bo fun t26 =>
    (bldX [.int .i64 0, .bool false, .slice none 0 0, .slice none 0 0, .slice none 0 0, .slice none 0 0, .bool false, .int .i64 0] [(3, 1, t24), (4, 4, t26)]) |> bo fun t27 =>
    (stX m 8 t6 t27) |> bo fun m11 =>
    (resP (some 8) m11 t6) |> bo fun c12 =>
    some (c12, m11))
 | _, _, _, _ => none
noncomputable def J_impl_fed (k q l : Nat) : List Value → Mem → Option VM := cond (Nat.beq l 3) (L_impl_fed k q 0) (fun _ _ => none)
def LL_impl_fed : List (Nat × List Tmp) := [(3, [6, 7, 14, 15, 16])]
noncomputable def X_impl_fed : List Value → Mem → Option VM
 | [t0, t1, t2], m =>
  (boxX m t0) |> bo fun r1 =>
  (boxX r1.2 t1) |> bo fun r2 =>
  (alX r2.2 [.int .i64 0, .bool false, .slice none 0 0, .slice none 0 0, .slice none 0 0, .slice none 0 0, .bool false, .int .i64 0]) |> bo fun r3 =>
  (ldS r3.2 7 r1.1) |> bo fun t10 =>
  (ldS r3.2 4 r2.1) |> bo fun t11 =>
  (C_impl_Line_clone [t11] r3.2) |> bo fun r6 =>
  (bldX [.int .i64 0, .int .i64 0, .int .i64 0, .int .i64 0, .int .i64 0, .int .i64 0, .int .i64 0, .slice none 0 0, .slice none 0 0, .bool false, .int .i64 0, .slice none 0 0] [(0, 7, t10), (7, 4, r6.1)]) |> bo fun t13 =>
  (alX r6.2 [.int .i64 0, .int .i64 0, .int .i64 0, .int .i64 0, .int .i64 0, .int .i64 0, .int .i64 0, .slice none 0 0, .slice none 0 0, .bool false, .int .i64 0, .slice none 0 0]) |> bo fun r8 =>
  (stX r8.2 12 r8.1 t13) |> bo fun m9 =>
  gP (stbL [((rdN r1.1), r3.2, r6.2)])
   (
    (lenX t2) |> bo fun t15 =>
    (L_impl_fed m.length QQ 0) [r3.1, r8.1, t2, t15, (.int .i64 0)] m9)
 | _, _ => none
noncomputable def C_impl_fed : List Value → Mem → Option VM := dcall X_impl_fed
@[simp] theorem c_impl_fed : C_impl_fed = dcall X_impl_fed := (rfl)
theorem cok_impl_fed : codeOk CT Try.f26 (Try.f26.body.get rfl) = true := by kernel_rfl
theorem xe_impl_fed (t0 t1 t2 : Value) (m : Mem) : exD CT cf_impl_fed Try.f26 m.length LL_impl_fed (J_impl_fed m.length QQ) 400 [.code (Try.f26.body.get rfl)] (argsT 0 [t0, t1, t2]) m = X_impl_fed [t0, t1, t2] m := by kernel_rfl
theorem okc_impl_fed : CallOK CT cf_impl_fed := cfc_ok ok_C_impl_Line_clone (cfc_ok ok_C_impl_feeder_hear cfn_ok)
theorem le_impl_fed_0 (k q : Nat) (t6 t7 t14 t15 t16 : Value) (m : Mem) : exD CT cf_impl_fed Try.f26 k LL_impl_fed (J_impl_fed k q) 400 (atLoop Try.f26 0) [(6, t6), (7, t7), (14, t14), (15, t15), (16, t16)] m = J_impl_fed k (q + 1) 3 [t6, t7, t14, t15, t16] m := by kernel_rfl
theorem gl_impl_fed (k : Nat) : ∀ q i, i < 1 → GoodL CT k Try.f26 LL_impl_fed (J_impl_fed k q) (atLoop Try.f26 i)
 | 0, 0, _ => goodL_zero (l := 3) (by kernel_rfl) (fun vs m => by kernel_rfl)
 | 0, _ + 1, h => absurd h (by omega)
 | q + 1, 0, _ => goodD_succ (l := 3) (live := [6, 7, 14, 15, 16]) (n := 1) CT_ok rfl okc_impl_fed (c := (Try.f26.body.get rfl)) rfl cok_impl_fed (by kernel_rfl) (gl_impl_fed k q) (by kernel_rfl) rfl (fun vs m r hl h => match vs, hl with
  | [t6, t7, t14, t15, t16], _ => (le_impl_fed_0 k q t6 t7 t14 t15 t16 m).trans h)
 | _ + 1, _ + 1, h => absurd h (by omega)
theorem ok_X_impl_fed : OkX CT 26 X_impl_fed := OkX.of_exD (cf := cf_impl_fed) (np := 3) (LL := LL_impl_fed) (J := (fun k => J_impl_fed k QQ)) CT_ok rfl Try.func26 rfl (Nat.le_of_ble_eq_true rfl) (by decide) cok_impl_fed okc_impl_fed (fun k => allLoops rfl (by kernel_rfl) (gl_impl_fed k QQ)) (fun args m r h => match args, h with
  | [t0, t1, t2], h => ⟨rfl, (xe_impl_fed t0 t1 t2 m).trans h⟩)
theorem ok_C_impl_fed : OkC CT 26 C_impl_fed := dcall_ok rfl ok_X_impl_fed
noncomputable def cf_impl_FeedLine : CallF := cfc 23 C_impl_first (cfc 24 C_impl_WayFault (cfc 25 C_impl_LineFault (cfc 26 C_impl_fed cfn)))
noncomputable def X_impl_FeedLine : List Value → Mem → Option VM
 | [t0, t1, t2], m =>
  (boxX m t0) |> bo fun r1 =>
  (boxX r1.2 t1) |> bo fun r2 =>
  (alX r2.2 [.int .i64 0, .bool false, .slice none 0 0, .slice none 0 0, .slice none 0 0, .slice none 0 0, .bool false, .int .i64 0]) |> bo fun r3 =>
  (ldS r3.2 7 r1.1) |> bo fun t8 =>
  (C_impl_WayFault [t8] r3.2) |> bo fun r5 =>
  (ldS r5.2 4 r2.1) |> bo fun t10 =>
  (C_impl_LineFault [t10] r5.2) |> bo fun r7 =>
  (bslX r7.2 2 1 [.int .i64 0] [(0, 1, r5.1), (1, 1, r7.1)]) |> bo fun r8 =>
  (C_impl_first [r8.1] r8.2) |> bo fun r9 =>
  gP (stbL [((rdN r2.1), r3.2, r5.2)])
   (
    (binX .neq .no r9.1 (.int .i64 0)) |> bo fun t15 =>
    brX t15
     (
      (bldX [.int .i64 0, .bool false, .slice none 0 0, .slice none 0 0, .slice none 0 0, .slice none 0 0, .bool false, .int .i64 0] [(0, 1, r9.1)]) |> bo fun t17 =>
      (stX r9.2 8 r3.1 t17) |> bo fun m12 =>
      (resP (some 8) m12 r3.1) |> bo fun c13 =>
      retK m.length m12 [t0, t1, t2] c13)
     (
      (ldS r9.2 7 r1.1) |> bo fun t18 =>
      (ldS r9.2 4 r2.1) |> bo fun t19 =>
      (bslX r9.2 1 1 [.int .u8 0] [(0, 1, t2)]) |> bo fun r16 =>
      (C_impl_fed [t18, t19, r16.1] r16.2) |> bo fun r17 =>
      (stX r17.2 8 r3.1 r17.1) |> bo fun m18 =>
      (resP (some 8) m18 r3.1) |> bo fun c19 =>
      retK m.length m18 [t0, t1, t2] c19))
 | _, _ => none
noncomputable def C_impl_FeedLine : List Value → Mem → Option VM := fcall X_impl_FeedLine
@[simp] theorem c_impl_FeedLine : C_impl_FeedLine = fcall X_impl_FeedLine := (rfl)
theorem cok_impl_FeedLine : codeOk CT Try.f8 (Try.f8.body.get rfl) = true := by kernel_rfl
theorem xe_impl_FeedLine (t0 t1 t2 : Value) (m : Mem) : ex CT cf_impl_FeedLine Try.f8 3 m.length [] (fun _ _ _ => none) 400 [.code (Try.f8.body.get rfl)] (argsT 0 [t0, t1, t2]) m = X_impl_FeedLine [t0, t1, t2] m := by kernel_rfl
theorem okc_impl_FeedLine : CallOK CT cf_impl_FeedLine := cfc_ok ok_C_impl_first (cfc_ok ok_C_impl_WayFault (cfc_ok ok_C_impl_LineFault (cfc_ok ok_C_impl_fed cfn_ok)))
theorem ok_X_impl_FeedLine : OkX CT 8 X_impl_FeedLine := OkX.of_ex (cf := cf_impl_FeedLine) (np := 3) (LL := []) (J := (fun _ _ _ _ => none)) CT_ok rfl Try.func8 rfl (Nat.le_of_ble_eq_true rfl) (by decide) cok_impl_FeedLine okc_impl_FeedLine (fun k => noLoops rfl) (fun args m r h => match args, h with
  | [t0, t1, t2], h => ⟨rfl, (xe_impl_FeedLine t0 t1 t2 m).trans h⟩)
theorem ok_C_impl_FeedLine : OkC CT 8 C_impl_FeedLine := fcall_ok rfl ok_X_impl_FeedLine
noncomputable def Ci_impl_FeedLine : List Value → Mem → Option VM := icall X_impl_FeedLine
@[simp] theorem cCi_impl_FeedLine : Ci_impl_FeedLine = icall X_impl_FeedLine := (rfl)
theorem ok_Ci_impl_FeedLine : OkC CT 8 Ci_impl_FeedLine := icall_ok rfl ok_X_impl_FeedLine
noncomputable def Cn_impl_FeedLine : List Value → Mem → Option VM := ncall X_impl_FeedLine
@[simp] theorem cCn_impl_FeedLine : Cn_impl_FeedLine = ncall X_impl_FeedLine := (rfl)
theorem ok_Cn_impl_FeedLine : OkC CT 8 Cn_impl_FeedLine := ncall_ok rfl ok_X_impl_FeedLine
noncomputable def cf_impl_Line_next : CallF := cfn
noncomputable def X_impl_Line_next : List Value → Mem → Option VM
 | [t0, t1], m =>
  (nilX t0) |> bo fun t7 =>
  (fadX 0 t7) |> bo fun t8 =>
  (ld1 m t8) |> bo fun t9 =>
  (ixaX 1 t9 (.int .i64 0)) |> bo fun t10 =>
  (ld1 m t10) |> bo fun t11 =>
  (lenX t11) |> bo fun t14 =>
  (minMax false t1 [t14]) |> bo fun t15 =>
  (nilX t0) |> bo fun t17 =>
  (fadX 0 t17) |> bo fun t18 =>
  (ld1 m t18) |> bo fun t19 =>
  (slX m 1 t11 (some t15) none) |> bo fun t22 =>
  (ixaX 1 t19 (.int .i64 0)) |> bo fun t23 =>
  (stX m 1 t23 t22) |> bo fun m13 =>
  (lenX t11) |> bo fun t26 =>
  (binX .eql .no t15 t26) |> bo fun t27 =>
  brX t27
   (
    (nilX t0) |> bo fun t30 =>
    (fadX 0 t30) |> bo fun t31 =>
    (ld1 m13 t31) |> bo fun t32 =>
    (slX m13 1 t32 (some (.int .i64 1)) none) |> bo fun t33 =>
    (nilX t0) |> bo fun t34 =>
    (fadX 0 t34) |> bo fun t35 =>
    (stX m13 1 t35 t33) |> bo fun m22 =>
    (slX m22 1 t11 none (some t15)) |> bo fun t38 =>
    retK m.length m22 [t0, t15] t38)
   (
    (slX m13 1 t11 none (some t15)) |> bo fun t38 =>
    retK m.length m13 [t0, t15] t38)
 | _, _ => none
noncomputable def C_impl_Line_next : List Value → Mem → Option VM := rcall X_impl_Line_next
@[simp] theorem c_impl_Line_next : C_impl_Line_next = rcall X_impl_Line_next := (rfl)
theorem cok_impl_Line_next : codeOk CT Try.f29 (Try.f29.body.get rfl) = true := by kernel_rfl
theorem xe_impl_Line_next (t0 t1 : Value) (m : Mem) : ex CT cf_impl_Line_next Try.f29 2 m.length [] (fun _ _ _ => none) 400 [.code (Try.f29.body.get rfl)] (argsT 0 [t0, t1]) m = X_impl_Line_next [t0, t1] m := by kernel_rfl
theorem okc_impl_Line_next : CallOK CT cf_impl_Line_next := cfn_ok
theorem ok_X_impl_Line_next : OkX CT 29 X_impl_Line_next := OkX.of_ex (cf := cf_impl_Line_next) (np := 2) (LL := []) (J := (fun _ _ _ _ => none)) CT_ok rfl Try.func29 rfl (Nat.le_of_ble_eq_true rfl) (by decide) cok_impl_Line_next okc_impl_Line_next (fun k => noLoops rfl) (fun args m r h => match args, h with
  | [t0, t1], h => ⟨rfl, (xe_impl_Line_next t0 t1 m).trans h⟩)
theorem ok_C_impl_Line_next : OkC CT 29 C_impl_Line_next := rcall_ok rfl ok_X_impl_Line_next
noncomputable def cf_impl_ReadLine : CallF := cfc 21 C_impl_in (cfc 23 C_impl_first (cfc 24 C_impl_WayFault (cfc 25 C_impl_LineFault (cfc 27 C_impl_unless (cfc 28 C_impl_Line_clone (cfc 29 C_impl_Line_next (cfc 30 C_impl_Way_has cfn)))))))
noncomputable def L_impl_ReadLine (k : Nat) : Nat → Nat → List Value → Mem → Option VM
 | q + 1, 0, [t2, t3, t6, t8, t9], m =>
  (ldS m 7 t3) |> bo fun t36 =>
  (C_impl_Way_has [t36, (.int .i64 1)] m) |> bo fun r2 =>
  (uop .not r2.1) |> bo fun t38 =>
  (gd t38 true ((fadX 0 t8) |> bo fun v => some (v, r2.2)) r2.2) |> bo fun r4 =>
  (gd t38 true ((ld1 r4.2 r4.1) |> bo fun v => some (v, r4.2)) r4.2) |> bo fun r5 =>
  (gd t38 true ((lenX r5.1) |> bo fun v => some (v, r5.2)) r5.2) |> bo fun r6 =>
  (gd t38 true ((binX .gtr .no r6.1 (.int .i64 0)) |> bo fun v => some (v, r6.2)) r6.2) |> bo fun r7 =>
  (pickX t38 r7.1 (.bool false)) |> bo fun t44 =>
  (gd t44 true (some (t9, r7.2)) r7.2) |> bo fun r9 =>
  (gd t44 true ((lenX r9.1) |> bo fun v => some (v, r9.2)) r9.2) |> bo fun r10 =>
  (gd t44 true (some (t2, r10.2)) r10.2) |> bo fun r11 =>
  (gd t44 true ((binX .lss .no r10.1 r11.1) |> bo fun v => some (v, r11.2)) r11.2) |> bo fun r12 =>
  (pickX t44 r12.1 (.bool false)) |> bo fun t50 =>
  brX t50
   (
    (lenX t9) |> bo fun t54 =>
    (binX .sub .no t2 t54) |> bo fun t55 =>
    (C_impl_Line_next [t8, t55] r12.2) |> bo fun r16 =>
    (apL r16.2 1 1 t9 r16.1) |> bo fun r17 =>
    cutK k r17.2 [t2] [t2, t3, t6, t8, r17.1] (L_impl_ReadLine k q 0))
   (
    (ldS r12.2 4 t8) |> bo fun t59 =>
    (C_impl_Line_clone [t59] r12.2) |> bo fun r19 =>
    (bldX [.int .i64 0, .bool false, .slice none 0 0, .slice none 0 0, .slice none 0 0, .slice none 0 0, .bool false, .int .i64 0] [(1, 1, (.bool true)), (2, 1, t9), (4, 4, r19.1)]) |> bo fun t61 =>
    (stX r19.2 8 t6 t61) |> bo fun m21 =>
    (resP (some 8) m21 t6) |> bo fun c22 =>
    retK k m21 [t2] c22)
 | _, _, _, _ => none
noncomputable def J_impl_ReadLine (k q l : Nat) : List Value → Mem → Option VM := cond (Nat.beq l 8) (L_impl_ReadLine k q 0) (fun _ _ => none)
def LL_impl_ReadLine : List (Nat × List Tmp) := [(8, [2, 3, 6, 8, 9])]
noncomputable def X_impl_ReadLine : List Value → Mem → Option VM
 | [t0, t1, t2], m =>
  (boxX m t0) |> bo fun r1 =>
  (boxX r1.2 t1) |> bo fun r2 =>
  (alX r2.2 [.int .i64 0, .bool false, .slice none 0 0, .slice none 0 0, .slice none 0 0, .slice none 0 0, .bool false, .int .i64 0]) |> bo fun r3 =>
  (ldS r3.2 7 r1.1) |> bo fun t10 =>
  (C_impl_WayFault [t10] r3.2) |> bo fun r5 =>
  (ldS r5.2 4 r2.1) |> bo fun t12 =>
  (C_impl_LineFault [t12] r5.2) |> bo fun r7 =>
  (C_impl_in [t2, (.int .i64 1), (.int .i64 99)] r7.2) |> bo fun r8 =>
  (C_impl_unless [r8.1, (.int .i64 3)] r8.2) |> bo fun r9 =>
  (bslX r9.2 3 1 [.int .i64 0] [(0, 1, r5.1), (1, 1, r7.1), (2, 1, r9.1)]) |> bo fun r10 =>
  (C_impl_first [r10.1] r10.2) |> bo fun r11 =>
  gP (stbL [((rdN r2.1), r3.2, r5.2)])
   (
    (binX .neq .no r11.1 (.int .i64 0)) |> bo fun t20 =>
    brX t20
     (
      (bldX [.int .i64 0, .bool false, .slice none 0 0, .slice none 0 0, .slice none 0 0, .slice none 0 0, .bool false, .int .i64 0] [(0, 1, r11.1)]) |> bo fun t22 =>
      (stX r11.2 8 r3.1 t22) |> bo fun m14 =>
      (resP (some 8) m14 r3.1) |> bo fun c15 =>
      retK m.length m14 [t0, t1, t2] c15)
     (
      (ldS r11.2 4 r2.1) |> bo fun t23 =>
      (C_impl_Line_clone [t23] r11.2) |> bo fun r17 =>
      (bslX r17.2 0 1 [.int .u8 0] []) |> bo fun r18 =>
      (alX r18.2 [.slice none 0 0, .slice none 0 0, .bool false, .int .i64 0]) |> bo fun r19 =>
      (stX r19.2 4 r19.1 r17.1) |> bo fun m20 =>
      (fadX 0 r19.1) |> bo fun t26 =>
      (ld1 m20 t26) |> bo fun t27 =>
      (lenX t27) |> bo fun t28 =>
      (binX .eql .no t28 (.int .i64 0)) |> bo fun t29 =>
      brX t29
       (
        (ldS m20 4 r19.1) |> bo fun t30 =>
        (bldX [.int .i64 0, .bool false, .slice none 0 0, .slice none 0 0, .slice none 0 0, .slice none 0 0, .bool false, .int .i64 0] [(4, 4, t30)]) |> bo fun t31 =>
        (stX m20 8 r3.1 t31) |> bo fun m27 =>
        (resP (some 8) m27 r3.1) |> bo fun c28 =>
        retK m.length m27 [t0, t1, t2] c28)
       (
        (C_impl_Line_next [r19.1, t2] m20) |> bo fun r29 =>
        (apL r29.2 1 1 r18.1 r29.1) |> bo fun r30 =>
        cutK m.length r30.2 [t0, t1, t2] [t2, r1.1, r3.1, r19.1, r30.1] (L_impl_ReadLine m.length QQ 0))))
 | _, _ => none
noncomputable def C_impl_ReadLine : List Value → Mem → Option VM := fcall X_impl_ReadLine
@[simp] theorem c_impl_ReadLine : C_impl_ReadLine = fcall X_impl_ReadLine := (rfl)
theorem cok_impl_ReadLine : codeOk CT Try.f9 (Try.f9.body.get rfl) = true := by kernel_rfl
theorem xe_impl_ReadLine (t0 t1 t2 : Value) (m : Mem) : ex CT cf_impl_ReadLine Try.f9 3 m.length LL_impl_ReadLine (J_impl_ReadLine m.length QQ) 400 [.code (Try.f9.body.get rfl)] (argsT 0 [t0, t1, t2]) m = X_impl_ReadLine [t0, t1, t2] m := by kernel_rfl
theorem okc_impl_ReadLine : CallOK CT cf_impl_ReadLine := cfc_ok ok_C_impl_in (cfc_ok ok_C_impl_first (cfc_ok ok_C_impl_WayFault (cfc_ok ok_C_impl_LineFault (cfc_ok ok_C_impl_unless (cfc_ok ok_C_impl_Line_clone (cfc_ok ok_C_impl_Line_next (cfc_ok ok_C_impl_Way_has cfn_ok)))))))
theorem le_impl_ReadLine_0 (k q : Nat) (t2 t3 t6 t8 t9 : Value) (m : Mem) : ex CT cf_impl_ReadLine Try.f9 3 k LL_impl_ReadLine (J_impl_ReadLine k q) 400 (atLoop Try.f9 0) [(2, t2), (3, t3), (6, t6), (8, t8), (9, t9)] m = J_impl_ReadLine k (q + 1) 8 [t2, t3, t6, t8, t9] m := by kernel_rfl
theorem gl_impl_ReadLine (k : Nat) : ∀ q i, i < 1 → GoodL CT k Try.f9 LL_impl_ReadLine (J_impl_ReadLine k q) (atLoop Try.f9 i)
 | 0, 0, _ => goodL_zero (l := 8) (by kernel_rfl) (fun vs m => by kernel_rfl)
 | 0, _ + 1, h => absurd h (by omega)
 | q + 1, 0, _ => goodL_succ (np := 3) (l := 8) (live := [2, 3, 6, 8, 9]) (n := 1) CT_ok rfl okc_impl_ReadLine (c := (Try.f9.body.get rfl)) rfl cok_impl_ReadLine (by kernel_rfl) (gl_impl_ReadLine k q) (by kernel_rfl) rfl (fun vs m r hl h => match vs, hl with
  | [t2, t3, t6, t8, t9], _ => (le_impl_ReadLine_0 k q t2 t3 t6 t8 t9 m).trans h)
 | _ + 1, _ + 1, h => absurd h (by omega)
theorem ok_X_impl_ReadLine : OkX CT 9 X_impl_ReadLine := OkX.of_ex (cf := cf_impl_ReadLine) (np := 3) (LL := LL_impl_ReadLine) (J := (fun k => J_impl_ReadLine k QQ)) CT_ok rfl Try.func9 rfl (Nat.le_of_ble_eq_true rfl) (by decide) cok_impl_ReadLine okc_impl_ReadLine (fun k => allLoops rfl (by kernel_rfl) (gl_impl_ReadLine k QQ)) (fun args m r h => match args, h with
  | [t0, t1, t2], h => ⟨rfl, (xe_impl_ReadLine t0 t1 t2 m).trans h⟩)
theorem ok_C_impl_ReadLine : OkC CT 9 C_impl_ReadLine := fcall_ok rfl ok_X_impl_ReadLine
noncomputable def Ci_impl_ReadLine : List Value → Mem → Option VM := icall X_impl_ReadLine
@[simp] theorem cCi_impl_ReadLine : Ci_impl_ReadLine = icall X_impl_ReadLine := (rfl)
theorem ok_Ci_impl_ReadLine : OkC CT 9 Ci_impl_ReadLine := icall_ok rfl ok_X_impl_ReadLine
noncomputable def cf_laws_lwSame : CallF := cfn
noncomputable def X_laws_lwSame : List Value → Mem → Option VM
 | [t0, t1], m =>
  (cvBS m t0) |> bo fun t6 =>
  (cvBS m t1) |> bo fun t8 =>
  (binX .eql .no t6 t8) |> bo fun t9 =>
  retK m.length m [t0, t1] t9
 | _, _ => none
noncomputable def C_laws_lwSame : List Value → Mem → Option VM := fcall X_laws_lwSame
@[simp] theorem c_laws_lwSame : C_laws_lwSame = fcall X_laws_lwSame := (rfl)
theorem cok_laws_lwSame : codeOk CT Try.f10 (Try.f10.body.get rfl) = true := by kernel_rfl
theorem xe_laws_lwSame (t0 t1 : Value) (m : Mem) : ex CT cf_laws_lwSame Try.f10 2 m.length [] (fun _ _ _ => none) 400 [.code (Try.f10.body.get rfl)] (argsT 0 [t0, t1]) m = X_laws_lwSame [t0, t1] m := by kernel_rfl
theorem okc_laws_lwSame : CallOK CT cf_laws_lwSame := cfn_ok
theorem ok_X_laws_lwSame : OkX CT 10 X_laws_lwSame := OkX.of_ex (cf := cf_laws_lwSame) (np := 2) (LL := []) (J := (fun _ _ _ _ => none)) CT_ok rfl Try.func10 rfl (Nat.le_of_ble_eq_true rfl) (by decide) cok_laws_lwSame okc_laws_lwSame (fun k => noLoops rfl) (fun args m r h => match args, h with
  | [t0, t1], h => ⟨rfl, (xe_laws_lwSame t0 t1 m).trans h⟩)
theorem ok_C_laws_lwSame : OkC CT 10 C_laws_lwSame := fcall_ok rfl ok_X_laws_lwSame
noncomputable def cf_impl_QueueSize : CallF := cfc 25 C_impl_LineFault (cfc 31 C_impl_Line_size cfn)
noncomputable def X_impl_QueueSize : List Value → Mem → Option VM
 | [t0], m =>
  (boxX m t0) |> bo fun r1 =>
  (alX r1.2 [.int .i64 0, .int .i64 0]) |> bo fun r2 =>
  (ldS r2.2 4 r1.1) |> bo fun t4 =>
  (C_impl_LineFault [t4] r2.2) |> bo fun r4 =>
  (binX .neq .no r4.1 (.int .i64 0)) |> bo fun t7 =>
  brX t7
   (
    (bldX [.int .i64 0, .int .i64 0] [(0, 1, r4.1)]) |> bo fun t9 =>
    (stX r4.2 2 r2.1 t9) |> bo fun m7 =>
    (resP (some 2) m7 r2.1) |> bo fun c8 =>
    retK m.length m7 [t0] c8)
   (
    (ldS r4.2 4 r1.1) |> bo fun t10 =>
    (C_impl_Line_size [t10] r4.2) |> bo fun r10 =>
    (bldX [.int .i64 0, .int .i64 0] [(0, 1, (.int .i64 0)), (1, 1, r10.1)]) |> bo fun t12 =>
    (stX r10.2 2 r2.1 t12) |> bo fun m12 =>
    (resP (some 2) m12 r2.1) |> bo fun c13 =>
    retK m.length m12 [t0] c13)
 | _, _ => none
noncomputable def C_impl_QueueSize : List Value → Mem → Option VM := fcall X_impl_QueueSize
@[simp] theorem c_impl_QueueSize : C_impl_QueueSize = fcall X_impl_QueueSize := (rfl)
theorem cok_impl_QueueSize : codeOk CT Try.f11 (Try.f11.body.get rfl) = true := by kernel_rfl
theorem xe_impl_QueueSize (t0 : Value) (m : Mem) : ex CT cf_impl_QueueSize Try.f11 1 m.length [] (fun _ _ _ => none) 400 [.code (Try.f11.body.get rfl)] (argsT 0 [t0]) m = X_impl_QueueSize [t0] m := by kernel_rfl
theorem okc_impl_QueueSize : CallOK CT cf_impl_QueueSize := cfc_ok ok_C_impl_LineFault (cfc_ok ok_C_impl_Line_size cfn_ok)
theorem ok_X_impl_QueueSize : OkX CT 11 X_impl_QueueSize := OkX.of_ex (cf := cf_impl_QueueSize) (np := 1) (LL := []) (J := (fun _ _ _ _ => none)) CT_ok rfl Try.func11 rfl (Nat.le_of_ble_eq_true rfl) (by decide) cok_impl_QueueSize okc_impl_QueueSize (fun k => noLoops rfl) (fun args m r h => match args, h with
  | [t0], h => ⟨rfl, (xe_impl_QueueSize t0 m).trans h⟩)
theorem ok_C_impl_QueueSize : OkC CT 11 C_impl_QueueSize := fcall_ok rfl ok_X_impl_QueueSize
noncomputable def cf_laws_FnEnds : CallF := cfc 5 C_laws_lwBig (cfc 6 C_impl_UsualWay (cfc 7 C_laws_lwAt (cfc 8 Cn_impl_FeedLine (cfc 9 Ci_impl_ReadLine (cfc 10 C_laws_lwSame (cfc 11 C_impl_QueueSize cfn))))))
noncomputable def L_laws_FnEnds (k : Nat) : Nat → Nat → List Value → Mem → Option VM
 | q + 1, 0, [t0, t3, t4, t5], m =>
  (binX .lss .no t5 (.int .i64 50)) |> bo fun t19 =>
  brX t19
   (
    (C_laws_lwAt [t0, t5, (.int .i64 26)] m) |> bo fun r2 =>
    (binX .add .no (.int .i64 97) r2.1) |> bo fun t25 =>
    (cvI .u8 t25) |> bo fun t26 =>
    (binX .add .no t5 (.int .i64 7)) |> bo fun t29 =>
    (C_laws_lwAt [t0, t29, (.int .i64 9)] r2.2) |> bo fun r6 =>
    (binX .eql .no r6.1 (.int .i64 0)) |> bo fun t31 =>
    brX t31
     (
      (ldS r6.2 7 t3) |> bo fun t32 =>
      (ldS r6.2 4 t4) |> bo fun t33 =>
      (Cn_impl_FeedLine [t32, t33, (.int .u8 127)] r6.2) |> bo fun r10 =>
      (alX r10.2 [.int .i64 0, .bool false, .slice none 0 0, .slice none 0 0, .slice none 0 0, .slice none 0 0, .bool false, .int .i64 0]) |> bo fun r11 =>
      (stX r11.2 8 r11.1 r10.1) |> bo fun m12 =>
      (fadX 0 r11.1) |> bo fun t36 =>
      (ld1 m12 t36) |> bo fun t37 =>
      (binX .neq .no t37 (.int .i64 0)) |> bo fun t38 =>
      brX t38
       (
        retK k m12 [t0] (.bool false))
       (
        (fadX 4 r11.1) |> bo fun t39 =>
        (ldS m12 4 t39) |> bo fun t40 =>
        (stX m12 4 t4 t40) |> bo fun m18 =>
        (binX .add .no t5 (.int .i64 1)) |> bo fun t21 =>
        cutK k m18 [t0] [t0, t3, t4, t21] (L_laws_FnEnds k q 0)))
     (
      (ldS r6.2 7 t3) |> bo fun t32 =>
      (ldS r6.2 4 t4) |> bo fun t33 =>
      (Cn_impl_FeedLine [t32, t33, t26] r6.2) |> bo fun r22 =>
      (alX r22.2 [.int .i64 0, .bool false, .slice none 0 0, .slice none 0 0, .slice none 0 0, .slice none 0 0, .bool false, .int .i64 0]) |> bo fun r23 =>
      (stX r23.2 8 r23.1 r22.1) |> bo fun m24 =>
      (fadX 0 r23.1) |> bo fun t36 =>
      (ld1 m24 t36) |> bo fun t37 =>
      (binX .neq .no t37 (.int .i64 0)) |> bo fun t38 =>
      brX t38
       (
        retK k m24 [t0] (.bool false))
       (
        (fadX 4 r23.1) |> bo fun t39 =>
        (ldS m24 4 t39) |> bo fun t40 =>
        (stX m24 4 t4 t40) |> bo fun m30 =>
        (binX .add .no t5 (.int .i64 1)) |> bo fun t21 =>
        cutK k m30 [t0] [t0, t3, t4, t21] (L_laws_FnEnds k q 0))))
   (
    (ldS m 7 t3) |> bo fun t41 =>
    (ldS m 4 t4) |> bo fun t42 =>
    (Cn_impl_FeedLine [t41, t42, (.int .u8 10)] m) |> bo fun r34 =>
    (alX r34.2 [.int .i64 0, .bool false, .slice none 0 0, .slice none 0 0, .slice none 0 0, .slice none 0 0, .bool false, .int .i64 0]) |> bo fun r35 =>
    (stX r35.2 8 r35.1 r34.1) |> bo fun m36 =>
    (fadX 4 r35.1) |> bo fun t44 =>
    (fadX 0 t44) |> bo fun t45 =>
    (ld1 m36 t45) |> bo fun t46 =>
    (lenX t46) |> bo fun t47 =>
    (binX .neq .no t47 (.int .i64 1)) |> bo fun t48 =>
    (gd t48 false ((fadX 4 r35.1) |> bo fun v => some (v, m36)) m36) |> bo fun r42 =>
    (gd t48 false ((fadX 1 r42.1) |> bo fun v => some (v, r42.2)) r42.2) |> bo fun r43 =>
    (gd t48 false ((ld1 r43.2 r43.1) |> bo fun v => some (v, r43.2)) r43.2) |> bo fun r44 =>
    (gd t48 false ((lenX r44.1) |> bo fun v => some (v, r44.2)) r44.2) |> bo fun r45 =>
    (gd t48 false ((binX .neq .no r45.1 (.int .i64 0)) |> bo fun v => some (v, r45.2)) r45.2) |> bo fun r46 =>
    (pickX t48 (.bool true) r46.1) |> bo fun t55 =>
    (gd t55 false ((fadX 0 r35.1) |> bo fun v => some (v, r46.2)) r46.2) |> bo fun r48 =>
    (gd t55 false ((ld1 r48.2 r48.1) |> bo fun v => some (v, r48.2)) r48.2) |> bo fun r49 =>
    (gd t55 false ((binX .neq .no r49.1 (.int .i64 0)) |> bo fun v => some (v, r49.2)) r49.2) |> bo fun r50 =>
    (pickX t55 (.bool true) r50.1) |> bo fun t60 =>
    brX t60
     (
      retK k r50.2 [t0] (.bool false))
     (
      (ldS r50.2 7 t3) |> bo fun t61 =>
      (fadX 4 r35.1) |> bo fun t62 =>
      (ldS r50.2 4 t62) |> bo fun t63 =>
      (Ci_impl_ReadLine [t61, t63, (.int .i64 99)] r50.2) |> bo fun r55 =>
      (alX r55.2 [.int .i64 0, .bool false, .slice none 0 0, .slice none 0 0, .slice none 0 0, .slice none 0 0, .bool false, .int .i64 0]) |> bo fun r56 =>
      (stX r56.2 8 r56.1 r55.1) |> bo fun m57 =>
      (ldS m57 7 t3) |> bo fun t65 =>
      (fadX 4 r35.1) |> bo fun t66 =>
      (ldS m57 4 t66) |> bo fun t67 =>
      (C_laws_lwAt [t0, (.int .i64 2), (.int .i64 9)] m57) |> bo fun r61 =>
      (binX .add .no (.int .i64 1) r61.1) |> bo fun t70 =>
      (Ci_impl_ReadLine [t65, t67, t70] r61.2) |> bo fun r63 =>
      (alX r63.2 [.int .i64 0, .bool false, .slice none 0 0, .slice none 0 0, .slice none 0 0, .slice none 0 0, .bool false, .int .i64 0]) |> bo fun r64 =>
      (stX r64.2 8 r64.1 r63.1) |> bo fun m65 =>
      gP (stbL [((rdN t3), m57, r61.2), ((rdN t66), m57, r61.2)])
       (
        (ldS m65 7 t3) |> bo fun t72 =>
        (fadX 4 r64.1) |> bo fun t73 =>
        (ldS m65 4 t73) |> bo fun t74 =>
        (Ci_impl_ReadLine [t72, t74, (.int .i64 99)] m65) |> bo fun r69 =>
        (alX r69.2 [.int .i64 0, .bool false, .slice none 0 0, .slice none 0 0, .slice none 0 0, .slice none 0 0, .bool false, .int .i64 0]) |> bo fun r70 =>
        (stX r70.2 8 r70.1 r69.1) |> bo fun m71 =>
        (bslX m71 0 1 [.int .u8 0] []) |> bo fun r72 =>
        (fadX 2 r64.1) |> bo fun t77 =>
        (ld1 r72.2 t77) |> bo fun t78 =>
        (apL r72.2 1 1 r72.1 t78) |> bo fun r75 =>
        (fadX 2 r70.1) |> bo fun t80 =>
        (ld1 r75.2 t80) |> bo fun t81 =>
        (apL r75.2 1 1 r75.1 t81) |> bo fun r78 =>
        gP (stbL [((rdN t80), r72.2, r75.2)])
         (
          (fadX 0 r56.1) |> bo fun t83 =>
          (ld1 r78.2 t83) |> bo fun t84 =>
          (binX .eql .no t84 (.int .i64 0)) |> bo fun t85 =>
          (gd t85 true ((fadX 1 r56.1) |> bo fun v => some (v, r78.2)) r78.2) |> bo fun r82 =>
          (gd t85 true ((ld1 r82.2 r82.1) |> bo fun v => some (v, r82.2)) r82.2) |> bo fun r83 =>
          (pickX t85 r83.1 (.bool false)) |> bo fun t89 =>
          (gd t89 true ((fadX 2 r56.1) |> bo fun v => some (v, r83.2)) r83.2) |> bo fun r85 =>
          (gd t89 true ((ld1 r85.2 r85.1) |> bo fun v => some (v, r85.2)) r85.2) |> bo fun r86 =>
          (gd t89 true ((bslX r86.2 0 1 [.int .u8 0] []) |> bo fun r => some (r.1, r.2)) r86.2) |> bo fun r87 =>
          (gd t89 true ((fadX 1 t4) |> bo fun v => some (v, r87.2)) r87.2) |> bo fun r88 =>
          (gd t89 true ((ld1 r88.2 r88.1) |> bo fun v => some (v, r88.2)) r88.2) |> bo fun r89 =>
          (gd t89 true ((apL r89.2 1 1 r87.1 r89.1) |> bo fun r => some (r.1, r.2)) r89.2) |> bo fun r90 =>
          (gd t89 true ((bslX r90.2 1 1 [.int .u8 0] [(0, 1, (.int .u8 10))]) |> bo fun r => some (r.1, r.2)) r90.2) |> bo fun r91 =>
          (gd t89 true ((apL r91.2 1 1 r90.1 r91.1) |> bo fun r => some (r.1, r.2)) r91.2) |> bo fun r92 =>
          (gd t89 true ((C_laws_lwSame [r86.1, r92.1] r92.2) |> bo fun r => some (r.1, r.2)) r92.2) |> bo fun r93 =>
          (pickX t89 r93.1 (.bool false)) |> bo fun t100 =>
          (gd t100 true (some (r78.1, r93.2)) r93.2) |> bo fun r95 =>
          (gd t100 true ((fadX 2 r56.1) |> bo fun v => some (v, r95.2)) r95.2) |> bo fun r96 =>
          (gd t100 true ((ld1 r96.2 r96.1) |> bo fun v => some (v, r96.2)) r96.2) |> bo fun r97 =>
          (gd t100 true ((C_laws_lwSame [r95.1, r97.1] r97.2) |> bo fun r => some (r.1, r.2)) r97.2) |> bo fun r98 =>
          (gd t100 true (some (r98.1, r98.2)) r98.2) |> bo fun r99 =>
          (gd r99.1 false ((fadX 4 r64.1) |> bo fun v => some (v, r99.2)) r99.2) |> bo fun r100 =>
          (gd r99.1 false ((fadX 0 r100.1) |> bo fun v => some (v, r100.2)) r100.2) |> bo fun r101 =>
          (gd r99.1 false ((ld1 r101.2 r101.1) |> bo fun v => some (v, r101.2)) r101.2) |> bo fun r102 =>
          (gd r99.1 false ((lenX r102.1) |> bo fun v => some (v, r102.2)) r102.2) |> bo fun r103 =>
          (gd r99.1 false ((binX .eql .no r103.1 (.int .i64 0)) |> bo fun v => some (v, r103.2)) r103.2) |> bo fun r104 =>
          (gd r99.1 false (some (r104.1, r104.2)) r104.2) |> bo fun r105 =>
          (gd r105.1 true ((fadX 2 r64.1) |> bo fun v => some (v, r105.2)) r105.2) |> bo fun r106 =>
          (gd r105.1 true ((ld1 r106.2 r106.1) |> bo fun v => some (v, r106.2)) r106.2) |> bo fun r107 =>
          (gd r105.1 true ((fadX 2 r56.1) |> bo fun v => some (v, r107.2)) r107.2) |> bo fun r108 =>
          (gd r105.1 true ((ld1 r108.2 r108.1) |> bo fun v => some (v, r108.2)) r108.2) |> bo fun r109 =>
          (gd r105.1 true ((C_laws_lwSame [r107.1, r109.1] r109.2) |> bo fun r => some (r.1, r.2)) r109.2) |> bo fun r110 =>
          (gd r99.1 false ((pickX r105.1 r110.1 (.bool false)) |> bo fun v => some (v, r110.2)) r110.2) |> bo fun r111 =>
          (gd t100 true ((pickX r99.1 (.bool true) r111.1) |> bo fun v => some (v, r111.2)) r111.2) |> bo fun r112 =>
          (pickX t100 r112.1 (.bool false)) |> bo fun t120 =>
          (gd t120 true ((fadX 4 r56.1) |> bo fun v => some (v, r112.2)) r112.2) |> bo fun r114 =>
          (gd t120 true ((ldS r114.2 4 r114.1) |> bo fun v => some (v, r114.2)) r114.2) |> bo fun r115 =>
          (gd t120 true ((C_impl_QueueSize [r115.1] r115.2) |> bo fun r => some (r.1, r.2)) r115.2) |> bo fun r116 =>
          (gd t120 true ((fld1 1 r116.1) |> bo fun v => some (v, r116.2)) r116.2) |> bo fun r117 =>
          (gd t120 true ((binX .eql .no r117.1 (.int .i64 0)) |> bo fun v => some (v, r117.2)) r117.2) |> bo fun r118 =>
          (pickX t120 r118.1 (.bool false)) |> bo fun t127 =>
          (gd t127 true ((ldS r118.2 7 t3) |> bo fun v => some (v, r118.2)) r118.2) |> bo fun r120 =>
          (gd t127 true ((fadX 4 r56.1) |> bo fun v => some (v, r120.2)) r120.2) |> bo fun r121 =>
          (gd t127 true ((ldS r121.2 4 r121.1) |> bo fun v => some (v, r121.2)) r121.2) |> bo fun r122 =>
          (gd t127 true ((Ci_impl_ReadLine [r120.1, r122.1, (.int .i64 5)] r122.2) |> bo fun r => some (r.1, r.2)) r122.2) |> bo fun r123 =>
          (gd t127 true ((fld1 2 r123.1) |> bo fun v => some (v, r123.2)) r123.2) |> bo fun r124 =>
          (gd t127 true ((lenX r124.1) |> bo fun v => some (v, r124.2)) r124.2) |> bo fun r125 =>
          (gd t127 true ((binX .eql .no r125.1 (.int .i64 0)) |> bo fun v => some (v, r125.2)) r125.2) |> bo fun r126 =>
          (pickX t127 r126.1 (.bool false)) |> bo fun t136 =>
          (gd t136 true ((ldS r126.2 7 t3) |> bo fun v => some (v, r126.2)) r126.2) |> bo fun r128 =>
          (gd t136 true ((fadX 4 r56.1) |> bo fun v => some (v, r128.2)) r128.2) |> bo fun r129 =>
          (gd t136 true ((ldS r129.2 4 r129.1) |> bo fun v => some (v, r129.2)) r129.2) |> bo fun r130 =>
          (gd t136 true ((Ci_impl_ReadLine [r128.1, r130.1, (.int .i64 5)] r130.2) |> bo fun r => some (r.1, r.2)) r130.2) |> bo fun r131 =>
          (gd t136 true ((fld1 1 r131.1) |> bo fun v => some (v, r131.2)) r131.2) |> bo fun r132 =>
          (gd t136 true ((uop .not r132.1) |> bo fun v => some (v, r132.2)) r132.2) |> bo fun r133 =>
          (pickX t136 r133.1 (.bool false)) |> bo fun t144 =>
          gP (stbL [((gdN t89 true (rdN r85.1)), r89.2, r90.2), ((gdN t89 true (rdN r85.1)), r91.2, r92.2)])
           (
            retK k r133.2 [t0] t144)))))
 | _, _, _, _ => none
noncomputable def J_laws_FnEnds (k q l : Nat) : List Value → Mem → Option VM := cond (Nat.beq l 6) (L_laws_FnEnds k q 0) (fun _ _ => none)
def LL_laws_FnEnds : List (Nat × List Tmp) := [(6, [0, 3, 4, 5])]
noncomputable def X_laws_FnEnds : List Value → Mem → Option VM
 | [t0], m =>
  (C_laws_lwBig [t0] m) |> bo fun r1 =>
  brX r1.1
   (
    retK m.length r1.2 [t0] (.bool true))
   (
    (C_impl_UsualWay [(.int .i64 511)] r1.2) |> bo fun r2 =>
    (fldS 1 7 r2.1) |> bo fun t16 =>
    (alX r2.2 [.int .i64 0, .int .i64 0, .int .i64 0, .int .i64 0, .int .i64 0, .int .i64 0, .int .i64 0]) |> bo fun r4 =>
    (stX r4.2 7 r4.1 t16) |> bo fun m5 =>
    (bldX [.slice none 0 0, .slice none 0 0, .bool false, .int .i64 0] []) |> bo fun t17 =>
    (alX m5 [.slice none 0 0, .slice none 0 0, .bool false, .int .i64 0]) |> bo fun r7 =>
    (stX r7.2 4 r7.1 t17) |> bo fun m8 =>
    cutK m.length m8 [t0] [t0, r4.1, r7.1, (.int .i64 0)] (L_laws_FnEnds m.length QQ 0))
 | _, _ => none
noncomputable def C_laws_FnEnds : List Value → Mem → Option VM := fcall X_laws_FnEnds
@[simp] theorem c_laws_FnEnds : C_laws_FnEnds = fcall X_laws_FnEnds := (rfl)
theorem cok_laws_FnEnds : codeOk CT Try.f3 (Try.f3.body.get rfl) = true := by kernel_rfl
theorem xe_laws_FnEnds (t0 : Value) (m : Mem) : ex CT cf_laws_FnEnds Try.f3 1 m.length LL_laws_FnEnds (J_laws_FnEnds m.length QQ) 400 [.code (Try.f3.body.get rfl)] (argsT 0 [t0]) m = X_laws_FnEnds [t0] m := by kernel_rfl
theorem okc_laws_FnEnds : CallOK CT cf_laws_FnEnds := cfc_ok ok_C_laws_lwBig (cfc_ok ok_C_impl_UsualWay (cfc_ok ok_C_laws_lwAt (cfc_ok ok_Cn_impl_FeedLine (cfc_ok ok_Ci_impl_ReadLine (cfc_ok ok_C_laws_lwSame (cfc_ok ok_C_impl_QueueSize cfn_ok))))))
theorem le_laws_FnEnds_0 (k q : Nat) (t0 t3 t4 t5 : Value) (m : Mem) : ex CT cf_laws_FnEnds Try.f3 1 k LL_laws_FnEnds (J_laws_FnEnds k q) 400 (atLoop Try.f3 0) [(0, t0), (3, t3), (4, t4), (5, t5)] m = J_laws_FnEnds k (q + 1) 6 [t0, t3, t4, t5] m := by kernel_rfl
theorem gl_laws_FnEnds (k : Nat) : ∀ q i, i < 1 → GoodL CT k Try.f3 LL_laws_FnEnds (J_laws_FnEnds k q) (atLoop Try.f3 i)
 | 0, 0, _ => goodL_zero (l := 6) (by kernel_rfl) (fun vs m => by kernel_rfl)
 | 0, _ + 1, h => absurd h (by omega)
 | q + 1, 0, _ => goodL_succ (np := 1) (l := 6) (live := [0, 3, 4, 5]) (n := 1) CT_ok rfl okc_laws_FnEnds (c := (Try.f3.body.get rfl)) rfl cok_laws_FnEnds (by kernel_rfl) (gl_laws_FnEnds k q) (by kernel_rfl) rfl (fun vs m r hl h => match vs, hl with
  | [t0, t3, t4, t5], _ => (le_laws_FnEnds_0 k q t0 t3 t4 t5 m).trans h)
 | _ + 1, _ + 1, h => absurd h (by omega)
theorem ok_X_laws_FnEnds : OkX CT 3 X_laws_FnEnds := OkX.of_ex (cf := cf_laws_FnEnds) (np := 1) (LL := LL_laws_FnEnds) (J := (fun k => J_laws_FnEnds k QQ)) CT_ok rfl Try.func3 rfl (Nat.le_of_ble_eq_true rfl) (by decide) cok_laws_FnEnds okc_laws_FnEnds (fun k => allLoops rfl (by kernel_rfl) (gl_laws_FnEnds k QQ)) (fun args m r h => match args, h with
  | [t0], h => ⟨rfl, (xe_laws_FnEnds t0 m).trans h⟩)
theorem ok_C_laws_FnEnds : OkC CT 3 C_laws_FnEnds := fcall_ok rfl ok_X_laws_FnEnds
end Go.Ab
