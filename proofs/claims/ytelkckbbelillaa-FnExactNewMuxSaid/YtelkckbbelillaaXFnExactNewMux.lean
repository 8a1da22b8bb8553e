/- Plain forms of functions, printed by gen.py. -/
import Derived.Test.YtelkckbbelillaaCf5
import Derived.Test.YtelkckbbelillaaFC
set_option linter.unusedVariables false
set_option linter.unusedSimpArgs false
namespace Go.Ab
open Go.Proofs
set_option maxRecDepth 100000
set_option linter.unusedVariables false
/-! ### spec.l1In -/
noncomputable def cf_spec_l1In : CallF := cfn
noncomputable def X_spec_l1In : List Value → Mem → Option VM
  | [t0, t1, t2], m =>
    (binX .geq .no t0 t1) |> bo fun t9 =>
    (gd t9 true (some (t0, m)) m) |> bo fun r2 =>
    (gd t9 true (some (t2, r2.2)) r2.2) |> bo fun r3 =>
    (gd t9 true ((binX .leq .no r2.1 r3.1) |> bo fun v => some (v, r3.2)) r3.2) |> bo fun r4 =>
    (pickX t9 r4.1 (.bool false)) |> bo fun t14 =>
    retK m.length r4.2 [t0, t1, t2] t14
  | _, _ => none
noncomputable def C_spec_l1In : List Value → Mem → Option VM := fcall X_spec_l1In
@[simp] theorem c_spec_l1In : C_spec_l1In = fcall X_spec_l1In := (rfl)
theorem cok_spec_l1In : codeOk CT Try.f72 (Try.f72.body.get rfl) = true := by kernel_rfl
theorem xe_spec_l1In (t0 t1 t2 : Value) (m : Mem) : ex CT cf_spec_l1In Try.f72 3 m.length [] (fun _ _ _ => none) 400 [.code (Try.f72.body.get rfl)] (argsT 0 [t0, t1, t2]) m = X_spec_l1In [t0, t1, t2] m := by kernel_rfl
theorem okc_spec_l1In : CallOK CT cf_spec_l1In := cfn_ok
theorem ok_X_spec_l1In : OkX CT 72 X_spec_l1In := OkX.of_ex (cf := cf_spec_l1In) (np := 3) (LL := []) (J := (fun _ _ _ _ => none)) CT_ok rfl Try.func72 rfl (Nat.le_of_ble_eq_true rfl) (by decide) cok_spec_l1In okc_spec_l1In (fun k => noLoops rfl) (fun args m r h => match args, h with
    | [t0, t1, t2], h => ⟨rfl, (xe_spec_l1In t0 t1 t2 m).trans h⟩)
theorem ok_C_spec_l1In : OkC CT 72 C_spec_l1In := fcall_ok rfl ok_X_spec_l1In

/-! ### spec.l3Size -/
noncomputable def cf_spec_l3Size : CallF := cfc 72 C_spec_l1In cfn
noncomputable def X_spec_l3Size : List Value → Mem → Option VM
  | [t0, t1], m =>
    (C_spec_l1In [t0, (.int .i64 1), (.int .i64 6)] m) |> bo fun r1 =>
    (gd r1.1 true (some (t1, r1.2)) r1.2) |> bo fun r2 =>
    (gd r1.1 true ((C_spec_l1In [r2.1, (.int .i64 2), (.int .i64 12)] r2.2) |> bo fun r => some (r.1, r.2)) r2.2) |> bo fun r3 =>
    (pickX r1.1 r3.1 (.bool false)) |> bo fun t10 =>
    retK m.length r3.2 [t0, t1] t10
  | _, _ => none
noncomputable def C_spec_l3Size : List Value → Mem → Option VM := fcall X_spec_l3Size
@[simp] theorem c_spec_l3Size : C_spec_l3Size = fcall X_spec_l3Size := (rfl)
theorem cok_spec_l3Size : codeOk CT Try.f26 (Try.f26.body.get rfl) = true := by kernel_rfl
theorem xe_spec_l3Size (t0 t1 : Value) (m : Mem) : ex CT cf_spec_l3Size Try.f26 2 m.length [] (fun _ _ _ => none) 400 [.code (Try.f26.body.get rfl)] (argsT 0 [t0, t1]) m = X_spec_l3Size [t0, t1] m := by kernel_rfl
theorem okc_spec_l3Size : CallOK CT cf_spec_l3Size := cfc_ok ok_C_spec_l1In cfn_ok
theorem ok_X_spec_l3Size : OkX CT 26 X_spec_l3Size := OkX.of_ex (cf := cf_spec_l3Size) (np := 2) (LL := []) (J := (fun _ _ _ _ => none)) CT_ok rfl Try.func26 rfl (Nat.le_of_ble_eq_true rfl) (by decide) cok_spec_l3Size okc_spec_l3Size (fun k => noLoops rfl) (fun args m r h => match args, h with
    | [t0, t1], h => ⟨rfl, (xe_spec_l3Size t0 t1 m).trans h⟩)
theorem ok_C_spec_l3Size : OkC CT 26 C_spec_l3Size := fcall_ok rfl ok_X_spec_l3Size

/-! ### spec.l14Bad -/
noncomputable def cf_spec_l14Bad : CallF := cfn
noncomputable def X_spec_l14Bad : List Value → Mem → Option VM
  | [t0], m =>
    (alX m [.int .i64 0, .bool false, .slice none 0 0, .slice none 0 0, .slice none 0 0, .int .i64 0, .int .i64 0, .int .i64 0, .slice none 0 0, .slice none 0 0, .slice none 0 0, .bool false, .int .i64 0]) |> bo fun r1 =>
    (bldX [.int .i64 0, .bool false, .slice none 0 0, .slice none 0 0, .slice none 0 0, .int .i64 0, .int .i64 0, .int .i64 0, .slice none 0 0, .slice none 0 0, .slice none 0 0, .bool false, .int .i64 0] [(0, 1, t0)]) |> bo fun t4 =>
    (stX r1.2 13 r1.1 t4) |> bo fun m3 =>
    (resP (some 13) m3 r1.1) |> bo fun c4 =>
    retK m.length m3 [t0] c4
  | _, _ => none
noncomputable def C_spec_l14Bad : List Value → Mem → Option VM := fcall X_spec_l14Bad
@[simp] theorem c_spec_l14Bad : C_spec_l14Bad = fcall X_spec_l14Bad := (rfl)
theorem cok_spec_l14Bad : codeOk CT Try.f27 (Try.f27.body.get rfl) = true := by kernel_rfl
theorem xe_spec_l14Bad (t0 : Value) (m : Mem) : ex CT cf_spec_l14Bad Try.f27 1 m.length [] (fun _ _ _ => none) 400 [.code (Try.f27.body.get rfl)] (argsT 0 [t0]) m = X_spec_l14Bad [t0] m := by kernel_rfl
theorem okc_spec_l14Bad : CallOK CT cf_spec_l14Bad := cfn_ok
theorem ok_X_spec_l14Bad : OkX CT 27 X_spec_l14Bad := OkX.of_ex (cf := cf_spec_l14Bad) (np := 1) (LL := []) (J := (fun _ _ _ _ => none)) CT_ok rfl Try.func27 rfl (Nat.le_of_ble_eq_true rfl) (by decide) cok_spec_l14Bad okc_spec_l14Bad (fun k => noLoops rfl) (fun args m r h => match args, h with
    | [t0], h => ⟨rfl, (xe_spec_l14Bad t0 m).trans h⟩)
theorem ok_C_spec_l14Bad : OkC CT 27 C_spec_l14Bad := fcall_ok rfl ok_X_spec_l14Bad

/-! ### spec.l5Tabs -/
noncomputable def cf_spec_l5Tabs : CallF := cfn
noncomputable def L_spec_l5Tabs (k : Nat) : Nat → Nat → List Value → Mem → Option VM
  | q + 1, 0, [t1, t5, t6], m =>
    (binX .lss .no t6 t1) |> bo fun t11 =>
    brX t11
      (
        (binX .gtr .no t6 (.int .i64 0)) |> bo fun t16 =>
        (gd t16 true (some (t6, m)) m) |> bo fun r3 =>
        (gd t16 true ((binX .rem .no r3.1 (.int .i64 8)) |> bo fun v => some (v, r3.2)) r3.2) |> bo fun r4 =>
        (gd t16 true ((binX .eql .no r4.1 (.int .i64 0)) |> bo fun v => some (v, r4.2)) r4.2) |> bo fun r5 =>
        (pickX t16 r5.1 (.bool false)) |> bo fun t21 =>
        (bslX r5.2 1 1 [.bool false] [(0, 1, t21)]) |> bo fun r7 =>
        (apL r7.2 1 1 t5 r7.1) |> bo fun r8 =>
        (binX .add .no t6 (.int .i64 1)) |> bo fun t13 =>
        cutK k r8.2 [t1] [t1, r8.1, t13] (L_spec_l5Tabs k q 0))
      (
        retK k m [t1] t5)
  | _, _, _, _ => none
noncomputable def J_spec_l5Tabs (k q l : Nat) : List Value → Mem → Option VM := cond (Nat.beq l 3) (L_spec_l5Tabs k q 0) (fun _ _ => none)
def LL_spec_l5Tabs : List (Nat × List Tmp) := [(3, [1, 5, 6])]
noncomputable def X_spec_l5Tabs : List Value → Mem → Option VM
  | [t0, t1], m =>
    (bslX m 0 1 [.bool false] []) |> bo fun r1 =>
    cutK m.length r1.2 [t0, t1] [t1, r1.1, t0] (L_spec_l5Tabs m.length QQ 0)
  | _, _ => none
noncomputable def C_spec_l5Tabs : List Value → Mem → Option VM := fcall X_spec_l5Tabs
@[simp] theorem c_spec_l5Tabs : C_spec_l5Tabs = fcall X_spec_l5Tabs := (rfl)
theorem cok_spec_l5Tabs : codeOk CT Try.f56 (Try.f56.body.get rfl) = true := by kernel_rfl
theorem xe_spec_l5Tabs (t0 t1 : Value) (m : Mem) : ex CT cf_spec_l5Tabs Try.f56 2 m.length LL_spec_l5Tabs (J_spec_l5Tabs m.length QQ) 400 [.code (Try.f56.body.get rfl)] (argsT 0 [t0, t1]) m = X_spec_l5Tabs [t0, t1] m := by kernel_rfl
theorem okc_spec_l5Tabs : CallOK CT cf_spec_l5Tabs := cfn_ok
theorem le_spec_l5Tabs_0 (k q : Nat) (t1 t5 t6 : Value) (m : Mem) : ex CT cf_spec_l5Tabs Try.f56 2 k LL_spec_l5Tabs (J_spec_l5Tabs k q) 400 (atLoop Try.f56 0) [(1, t1), (5, t5), (6, t6)] m = J_spec_l5Tabs k (q + 1) 3 [t1, t5, t6] m := by kernel_rfl
theorem gl_spec_l5Tabs (k : Nat) : ∀ q i, i < 1 → GoodL CT k Try.f56 LL_spec_l5Tabs (J_spec_l5Tabs k q) (atLoop Try.f56 i)
  | 0, 0, _ => goodL_zero (l := 3) (by kernel_rfl) (fun vs m => by kernel_rfl)
  | 0, _ + 1, h => absurd h (by omega)
  | q + 1, 0, _ => goodL_succ (np := 2) (l := 3) (live := [1, 5, 6]) (n := 1) CT_ok rfl okc_spec_l5Tabs (c := (Try.f56.body.get rfl)) rfl cok_spec_l5Tabs (by kernel_rfl) (gl_spec_l5Tabs k q) (by kernel_rfl) rfl (fun vs m r hl h => match vs, hl with
    | [t1, t5, t6], _ => (le_spec_l5Tabs_0 k q t1 t5 t6 m).trans h)
  | _ + 1, _ + 1, h => absurd h (by omega)
theorem ok_X_spec_l5Tabs : OkX CT 56 X_spec_l5Tabs := OkX.of_ex (cf := cf_spec_l5Tabs) (np := 2) (LL := LL_spec_l5Tabs) (J := (fun k => J_spec_l5Tabs k QQ)) CT_ok rfl Try.func56 rfl (Nat.le_of_ble_eq_true rfl) (by decide) cok_spec_l5Tabs okc_spec_l5Tabs (fun k => allLoops rfl (by kernel_rfl) (gl_spec_l5Tabs k QQ)) (fun args m r h => match args, h with
    | [t0, t1], h => ⟨rfl, (xe_spec_l5Tabs t0 t1 m).trans h⟩)
theorem ok_C_spec_l5Tabs : OkC CT 56 C_spec_l5Tabs := fcall_ok rfl ok_X_spec_l5Tabs

/-! ### spec.l3Blanks -/
noncomputable def cf_spec_l3Blanks : CallF := cfn
noncomputable def L_spec_l3Blanks (k : Nat) : Nat → Nat → List Value → Mem → Option VM
  | q + 1, 0, [t0, t1, t5], m =>
    (binX .gtr .no t0 (.int .i64 0)) |> bo fun t8 =>
    brX t8
      (
        (bldX [.int .i64 0, .int .i64 0] [(0, 1, (.int .i64 32)), (1, 1, t1)]) |> bo fun t13 =>
        (bslX m 1 2 [.int .i64 0, .int .i64 0] [(0, 2, t13)]) |> bo fun r3 =>
        (apL r3.2 2 16 t5 r3.1) |> bo fun r4 =>
        (binX .sub .no t0 (.int .i64 1)) |> bo fun t10 =>
        cutK k r4.2 [t10, t1] [t10, t1, r4.1] (L_spec_l3Blanks k q 0))
      (
        retK k m [t0, t1] t5)
  | _, _, _, _ => none
noncomputable def J_spec_l3Blanks (k q l : Nat) : List Value → Mem → Option VM := cond (Nat.beq l 2) (L_spec_l3Blanks k q 0) (fun _ _ => none)
def LL_spec_l3Blanks : List (Nat × List Tmp) := [(2, [0, 1, 5])]
noncomputable def X_spec_l3Blanks : List Value → Mem → Option VM
  | [t0, t1], m =>
    (bslX m 0 2 [.int .i64 0, .int .i64 0] []) |> bo fun r1 =>
    cutK m.length r1.2 [t0, t1] [t0, t1, r1.1] (L_spec_l3Blanks m.length QQ 0)
  | _, _ => none
noncomputable def C_spec_l3Blanks : List Value → Mem → Option VM := fcall X_spec_l3Blanks
@[simp] theorem c_spec_l3Blanks : C_spec_l3Blanks = fcall X_spec_l3Blanks := (rfl)
theorem cok_spec_l3Blanks : codeOk CT Try.f139 (Try.f139.body.get rfl) = true := by kernel_rfl
theorem xe_spec_l3Blanks (t0 t1 : Value) (m : Mem) : ex CT cf_spec_l3Blanks Try.f139 2 m.length LL_spec_l3Blanks (J_spec_l3Blanks m.length QQ) 400 [.code (Try.f139.body.get rfl)] (argsT 0 [t0, t1]) m = X_spec_l3Blanks [t0, t1] m := by kernel_rfl
theorem okc_spec_l3Blanks : CallOK CT cf_spec_l3Blanks := cfn_ok
theorem le_spec_l3Blanks_0 (k q : Nat) (t0 t1 t5 : Value) (m : Mem) : ex CT cf_spec_l3Blanks Try.f139 2 k LL_spec_l3Blanks (J_spec_l3Blanks k q) 400 (atLoop Try.f139 0) [(0, t0), (1, t1), (5, t5)] m = J_spec_l3Blanks k (q + 1) 2 [t0, t1, t5] m := by kernel_rfl
theorem gl_spec_l3Blanks (k : Nat) : ∀ q i, i < 1 → GoodL CT k Try.f139 LL_spec_l3Blanks (J_spec_l3Blanks k q) (atLoop Try.f139 i)
  | 0, 0, _ => goodL_zero (l := 2) (by kernel_rfl) (fun vs m => by kernel_rfl)
  | 0, _ + 1, h => absurd h (by omega)
  | q + 1, 0, _ => goodL_succ (np := 2) (l := 2) (live := [0, 1, 5]) (n := 1) CT_ok rfl okc_spec_l3Blanks (c := (Try.f139.body.get rfl)) rfl cok_spec_l3Blanks (by kernel_rfl) (gl_spec_l3Blanks k q) (by kernel_rfl) rfl (fun vs m r hl h => match vs, hl with
    | [t0, t1, t5], _ => (le_spec_l3Blanks_0 k q t0 t1 t5 m).trans h)
  | _ + 1, _ + 1, h => absurd h (by omega)
theorem ok_X_spec_l3Blanks : OkX CT 139 X_spec_l3Blanks := OkX.of_ex (cf := cf_spec_l3Blanks) (np := 2) (LL := LL_spec_l3Blanks) (J := (fun k => J_spec_l3Blanks k QQ)) CT_ok rfl Try.func139 rfl (Nat.le_of_ble_eq_true rfl) (by decide) cok_spec_l3Blanks okc_spec_l3Blanks (fun k => allLoops rfl (by kernel_rfl) (gl_spec_l3Blanks k QQ)) (fun args m r h => match args, h with
    | [t0, t1], h => ⟨rfl, (xe_spec_l3Blanks t0 t1 m).trans h⟩)
theorem ok_C_spec_l3Blanks : OkC CT 139 C_spec_l3Blanks := fcall_ok rfl ok_X_spec_l3Blanks

/-! ### spec.l3New -/
noncomputable def cf_spec_l3New : CallF := cfc 139 C_spec_l3Blanks cfn
noncomputable def X_spec_l3New : List Value → Mem → Option VM
  | [t0, t1], m =>
    (alX m [.int .i64 0, .int .i64 0, .slice none 0 0, .slice none 0 0]) |> bo fun r1 =>
    (binX .mul .no t0 t1) |> bo fun t9 =>
    (C_spec_l3Blanks [t9, (.int .i64 0)] r1.2) |> bo fun r3 =>
    (bldX [.int .i64 0, .int .i64 0, .slice none 0 0, .slice none 0 0] [(0, 1, t0), (1, 1, t1), (2, 1, r3.1)]) |> bo fun t11 =>
    (stX r3.2 4 r1.1 t11) |> bo fun m5 =>
    (resP (some 4) m5 r1.1) |> bo fun c6 =>
    retK m.length m5 [t0, t1] c6
  | _, _ => none
noncomputable def C_spec_l3New : List Value → Mem → Option VM := fcall X_spec_l3New
@[simp] theorem c_spec_l3New : C_spec_l3New = fcall X_spec_l3New := (rfl)
theorem cok_spec_l3New : codeOk CT Try.f103 (Try.f103.body.get rfl) = true := by kernel_rfl
theorem xe_spec_l3New (t0 t1 : Value) (m : Mem) : ex CT cf_spec_l3New Try.f103 2 m.length [] (fun _ _ _ => none) 400 [.code (Try.f103.body.get rfl)] (argsT 0 [t0, t1]) m = X_spec_l3New [t0, t1] m := by kernel_rfl
theorem okc_spec_l3New : CallOK CT cf_spec_l3New := cfc_ok ok_C_spec_l3Blanks cfn_ok
theorem ok_X_spec_l3New : OkX CT 103 X_spec_l3New := OkX.of_ex (cf := cf_spec_l3New) (np := 2) (LL := []) (J := (fun _ _ _ _ => none)) CT_ok rfl Try.func103 rfl (Nat.le_of_ble_eq_true rfl) (by decide) cok_spec_l3New okc_spec_l3New (fun k => noLoops rfl) (fun args m r h => match args, h with
    | [t0, t1], h => ⟨rfl, (xe_spec_l3New t0 t1 m).trans h⟩)
theorem ok_C_spec_l3New : OkC CT 103 C_spec_l3New := fcall_ok rfl ok_X_spec_l3New

/-! ### spec.l5New -/
noncomputable def cf_spec_l5New : CallF := cfc 56 C_spec_l5Tabs (cfc 103 C_spec_l3New cfn)
noncomputable def X_spec_l5New : List Value → Mem → Option VM
  | [t0, t1], m =>
    (alX m [.int .i64 0, .int .i64 0, .slice none 0 0, .slice none 0 0, .int .i64 0, .int .i64 0, .bool false, .int .i64 0, .int .i64 0, .int .i64 0, .bool false, .bool false, .bool false, .slice none 0 0, .int .i64 0, .int .i64 0, .int .i64 0, .slice none 0 0, .int .i64 0, .int .i64 0]) |> bo fun r1 =>
    (C_spec_l3New [t0, t1] r1.2) |> bo fun r2 =>
    (binX .sub .no t0 (.int .i64 1)) |> bo fun t9 =>
    (C_spec_l5Tabs [(.int .i64 0), t1] r2.2) |> bo fun r4 =>
    (bslX r4.2 2 1 [.int .i64 0] [(0, 1, (.int .i64 1)), (1, 1, (.int .i64 1))]) |> bo fun r5 =>
    (bldX [.int .i64 0, .int .i64 0, .slice none 0 0, .slice none 0 0, .int .i64 0, .int .i64 0, .bool false, .int .i64 0, .int .i64 0, .int .i64 0, .bool false, .bool false, .bool false, .slice none 0 0, .int .i64 0, .int .i64 0, .int .i64 0, .slice none 0 0, .int .i64 0, .int .i64 0] [(0, 4, r2.1), (9, 1, t9), (11, 1, (.bool true)), (13, 1, r4.1), (17, 1, r5.1)]) |> bo fun t13 =>
    (stX r5.2 20 r1.1 t13) |> bo fun m7 =>
    (resP (some 20) m7 r1.1) |> bo fun c8 =>
    retK m.length m7 [t0, t1] c8
  | _, _ => none
noncomputable def C_spec_l5New : List Value → Mem → Option VM := fcall X_spec_l5New
@[simp] theorem c_spec_l5New : C_spec_l5New = fcall X_spec_l5New := (rfl)
theorem cok_spec_l5New : codeOk CT Try.f73 (Try.f73.body.get rfl) = true := by kernel_rfl
theorem xe_spec_l5New (t0 t1 : Value) (m : Mem) : ex CT cf_spec_l5New Try.f73 2 m.length [] (fun _ _ _ => none) 400 [.code (Try.f73.body.get rfl)] (argsT 0 [t0, t1]) m = X_spec_l5New [t0, t1] m := by kernel_rfl
theorem okc_spec_l5New : CallOK CT cf_spec_l5New := cfc_ok ok_C_spec_l5Tabs (cfc_ok ok_C_spec_l3New cfn_ok)
theorem ok_X_spec_l5New : OkX CT 73 X_spec_l5New := OkX.of_ex (cf := cf_spec_l5New) (np := 2) (LL := []) (J := (fun _ _ _ _ => none)) CT_ok rfl Try.func73 rfl (Nat.le_of_ble_eq_true rfl) (by decide) cok_spec_l5New okc_spec_l5New (fun k => noLoops rfl) (fun args m r h => match args, h with
    | [t0, t1], h => ⟨rfl, (xe_spec_l5New t0 t1 m).trans h⟩)
theorem ok_C_spec_l5New : OkC CT 73 C_spec_l5New := fcall_ok rfl ok_X_spec_l5New

/-! ### spec.l10Usual -/
noncomputable def cf_spec_l10Usual : CallF := cfn
noncomputable def X_spec_l10Usual : List Value → Mem → Option VM
  | [t0], m =>
    (alX m [.int .i64 0, .int .i64 0, .int .i64 0, .int .i64 0, .int .i64 0, .int .i64 0, .int .i64 0]) |> bo fun r1 =>
    (bldX [.int .i64 0, .int .i64 0, .int .i64 0, .int .i64 0, .int .i64 0, .int .i64 0, .int .i64 0] [(0, 1, t0), (1, 1, (.int .i64 127)), (2, 1, (.int .i64 21)), (3, 1, (.int .i64 23)), (4, 1, (.int .i64 4)), (5, 1, (.int .i64 3)), (6, 1, (.int .i64 22))]) |> bo fun t4 =>
    (stX r1.2 7 r1.1 t4) |> bo fun m3 =>
    (resP (some 7) m3 r1.1) |> bo fun c4 =>
    retK m.length m3 [t0] c4
  | _, _ => none
noncomputable def C_spec_l10Usual : List Value → Mem → Option VM := fcall X_spec_l10Usual
@[simp] theorem c_spec_l10Usual : C_spec_l10Usual = fcall X_spec_l10Usual := (rfl)
theorem cok_spec_l10Usual : codeOk CT Try.f74 (Try.f74.body.get rfl) = true := by kernel_rfl
theorem xe_spec_l10Usual (t0 : Value) (m : Mem) : ex CT cf_spec_l10Usual Try.f74 1 m.length [] (fun _ _ _ => none) 400 [.code (Try.f74.body.get rfl)] (argsT 0 [t0]) m = X_spec_l10Usual [t0] m := by kernel_rfl
theorem okc_spec_l10Usual : CallOK CT cf_spec_l10Usual := cfn_ok
theorem ok_X_spec_l10Usual : OkX CT 74 X_spec_l10Usual := OkX.of_ex (cf := cf_spec_l10Usual) (np := 1) (LL := []) (J := (fun _ _ _ _ => none)) CT_ok rfl Try.func74 rfl (Nat.le_of_ble_eq_true rfl) (by decide) cok_spec_l10Usual okc_spec_l10Usual (fun k => noLoops rfl) (fun args m r h => match args, h with
    | [t0], h => ⟨rfl, (xe_spec_l10Usual t0 m).trans h⟩)
theorem ok_C_spec_l10Usual : OkC CT 74 C_spec_l10Usual := fcall_ok rfl ok_X_spec_l10Usual

/-! ### spec.l13New -/
noncomputable def cf_spec_l13New : CallF := cfc 73 C_spec_l5New (cfc 74 C_spec_l10Usual cfn)
noncomputable def X_spec_l13New : List Value → Mem → Option VM
  | [t0, t1], m =>
    (alX m [.int .i64 0, .int .i64 0, .int .i64 0, .int .i64 0, .int .i64 0, .bool false, .slice none 0 0, .int .i64 0, .int .i64 0, .slice none 0 0, .slice none 0 0, .int .i64 0, .int .i64 0, .bool false, .int .i64 0, .int .i64 0, .int .i64 0, .bool false, .bool false, .bool false, .slice none 0 0, .int .i64 0, .int .i64 0, .int .i64 0, .slice none 0 0, .int .i64 0, .int .i64 0, .int .i64 0, .int .i64 0, .int .i64 0, .int .i64 0, .int .i64 0, .int .i64 0, .int .i64 0, .slice none 0 0, .slice none 0 0, .bool false, .int .i64 0]) |> bo fun r1 =>
    (C_spec_l5New [t0, t1] r1.2) |> bo fun r2 =>
    (bldX [.int .i64 0, .int .i64 0, .int .i64 0, .int .i64 0, .int .i64 0, .bool false, .slice none 0 0, .int .i64 0, .int .i64 0, .slice none 0 0, .slice none 0 0, .int .i64 0, .int .i64 0, .bool false, .int .i64 0, .int .i64 0, .int .i64 0, .bool false, .bool false, .bool false, .slice none 0 0, .int .i64 0, .int .i64 0, .int .i64 0, .slice none 0 0, .int .i64 0, .int .i64 0] [(7, 20, r2.1)]) |> bo fun t8 =>
    (C_spec_l10Usual [(.int .i64 511)] r2.2) |> bo fun r4 =>
    (bldX [.int .i64 0, .int .i64 0, .int .i64 0, .int .i64 0, .int .i64 0, .bool false, .slice none 0 0, .int .i64 0, .int .i64 0, .slice none 0 0, .slice none 0 0, .int .i64 0, .int .i64 0, .bool false, .int .i64 0, .int .i64 0, .int .i64 0, .bool false, .bool false, .bool false, .slice none 0 0, .int .i64 0, .int .i64 0, .int .i64 0, .slice none 0 0, .int .i64 0, .int .i64 0, .int .i64 0, .int .i64 0, .int .i64 0, .int .i64 0, .int .i64 0, .int .i64 0, .int .i64 0, .slice none 0 0, .slice none 0 0, .bool false, .int .i64 0] [(0, 27, t8), (27, 7, r4.1)]) |> bo fun t10 =>
    (stX r4.2 38 r1.1 t10) |> bo fun m6 =>
    (resP (some 38) m6 r1.1) |> bo fun c7 =>
    retK m.length m6 [t0, t1] c7
  | _, _ => none
noncomputable def C_spec_l13New : List Value → Mem → Option VM := fcall X_spec_l13New
@[simp] theorem c_spec_l13New : C_spec_l13New = fcall X_spec_l13New := (rfl)
theorem cok_spec_l13New : codeOk CT Try.f28 (Try.f28.body.get rfl) = true := by kernel_rfl
theorem xe_spec_l13New (t0 t1 : Value) (m : Mem) : ex CT cf_spec_l13New Try.f28 2 m.length [] (fun _ _ _ => none) 400 [.code (Try.f28.body.get rfl)] (argsT 0 [t0, t1]) m = X_spec_l13New [t0, t1] m := by kernel_rfl
theorem okc_spec_l13New : CallOK CT cf_spec_l13New := cfc_ok ok_C_spec_l5New (cfc_ok ok_C_spec_l10Usual cfn_ok)
theorem ok_X_spec_l13New : OkX CT 28 X_spec_l13New := OkX.of_ex (cf := cf_spec_l13New) (np := 2) (LL := []) (J := (fun _ _ _ _ => none)) CT_ok rfl Try.func28 rfl (Nat.le_of_ble_eq_true rfl) (by decide) cok_spec_l13New okc_spec_l13New (fun k => noLoops rfl) (fun args m r h => match args, h with
    | [t0, t1], h => ⟨rfl, (xe_spec_l13New t0 t1 m).trans h⟩)
theorem ok_C_spec_l13New : OkC CT 28 C_spec_l13New := fcall_ok rfl ok_X_spec_l13New

/-! ### spec.NewMux -/
noncomputable def cf_spec_NewMux : CallF := cfc 26 C_spec_l3Size (cfc 27 C_spec_l14Bad (cfc 28 C_spec_l13New cfn))
noncomputable def X_spec_NewMux : List Value → Mem → Option VM
  | [t0, t1], m =>
    (alX m [.int .i64 0, .bool false, .slice none 0 0, .slice none 0 0, .slice none 0 0, .int .i64 0, .int .i64 0, .int .i64 0, .slice none 0 0, .slice none 0 0, .slice none 0 0, .bool false, .int .i64 0]) |> bo fun r1 =>
    (C_spec_l3Size [t0, t1] r1.2) |> bo fun r2 =>
    (uop .not r2.1) |> bo fun t8 =>
    brX t8
      (
        (C_spec_l14Bad [(.int .i64 3)] r2.2) |> bo fun r4 =>
        (stX r4.2 13 r1.1 r4.1) |> bo fun m5 =>
        (resP (some 13) m5 r1.1) |> bo fun c6 =>
        retK m.length m5 [t0, t1] c6)
      (
        (C_spec_l13New [t0, t1] r2.2) |> bo fun r7 =>
        (bslX r7.2 1 38 [.int .i64 0, .int .i64 0, .int .i64 0, .int .i64 0, .int .i64 0, .bool false, .slice none 0 0, .int .i64 0, .int .i64 0, .slice none 0 0, .slice none 0 0, .int .i64 0, .int .i64 0, .bool false, .int .i64 0, .int .i64 0, .int .i64 0, .bool false, .bool false, .bool false, .slice none 0 0, .int .i64 0, .int .i64 0, .int .i64 0, .slice none 0 0, .int .i64 0, .int .i64 0, .int .i64 0, .int .i64 0, .int .i64 0, .int .i64 0, .int .i64 0, .int .i64 0, .int .i64 0, .slice none 0 0, .slice none 0 0, .bool false, .int .i64 0] [(0, 38, r7.1)]) |> bo fun r8 =>
        (bslX r8.2 1 1 [.bool false] [(0, 1, (.bool false))]) |> bo fun r9 =>
        (bldX [.slice none 0 0, .slice none 0 0, .int .i64 0, .int .i64 0, .int .i64 0, .slice none 0 0, .slice none 0 0, .slice none 0 0, .bool false, .int .i64 0] [(0, 1, r8.1), (1, 1, r9.1)]) |> bo fun t15 =>
        (bldX [.int .i64 0, .bool false, .slice none 0 0, .slice none 0 0, .slice none 0 0, .int .i64 0, .int .i64 0, .int .i64 0, .slice none 0 0, .slice none 0 0, .slice none 0 0, .bool false, .int .i64 0] [(3, 10, t15)]) |> bo fun t16 =>
        (stX r9.2 13 r1.1 t16) |> bo fun m12 =>
        (resP (some 13) m12 r1.1) |> bo fun c13 =>
        retK m.length m12 [t0, t1] c13)
  | _, _ => none
noncomputable def C_spec_NewMux : List Value → Mem → Option VM := fcall X_spec_NewMux
@[simp] theorem c_spec_NewMux : C_spec_NewMux = fcall X_spec_NewMux := (rfl)
theorem cok_spec_NewMux : codeOk CT Try.f6 (Try.f6.body.get rfl) = true := by kernel_rfl
theorem xe_spec_NewMux (t0 t1 : Value) (m : Mem) : ex CT cf_spec_NewMux Try.f6 2 m.length [] (fun _ _ _ => none) 400 [.code (Try.f6.body.get rfl)] (argsT 0 [t0, t1]) m = X_spec_NewMux [t0, t1] m := by kernel_rfl
theorem okc_spec_NewMux : CallOK CT cf_spec_NewMux := cfc_ok ok_C_spec_l3Size (cfc_ok ok_C_spec_l14Bad (cfc_ok ok_C_spec_l13New cfn_ok))
theorem ok_X_spec_NewMux : OkX CT 6 X_spec_NewMux := OkX.of_ex (cf := cf_spec_NewMux) (np := 2) (LL := []) (J := (fun _ _ _ _ => none)) CT_ok rfl Try.func6 rfl (Nat.le_of_ble_eq_true rfl) (by decide) cok_spec_NewMux okc_spec_NewMux (fun k => noLoops rfl) (fun args m r h => match args, h with
    | [t0, t1], h => ⟨rfl, (xe_spec_NewMux t0 t1 m).trans h⟩)
theorem ok_C_spec_NewMux : OkC CT 6 C_spec_NewMux := fcall_ok rfl ok_X_spec_NewMux

/-! ### impl.in -/
noncomputable def cf_impl_in : CallF := cfn
noncomputable def X_impl_in : List Value → Mem → Option VM
  | [t0, t1, t2], m =>
    (binX .leq .no t1 t0) |> bo fun t9 =>
    (gd t9 true (some (t0, m)) m) |> bo fun r2 =>
    (gd t9 true (some (t2, r2.2)) r2.2) |> bo fun r3 =>
    (gd t9 true ((binX .leq .no r2.1 r3.1) |> bo fun v => some (v, r3.2)) r3.2) |> bo fun r4 =>
    (pickX t9 r4.1 (.bool false)) |> bo fun t14 =>
    retK m.length r4.2 [t0, t1, t2] t14
  | _, _ => none
noncomputable def C_impl_in : List Value → Mem → Option VM := fcall X_impl_in
@[simp] theorem c_impl_in : C_impl_in = fcall X_impl_in := (rfl)
theorem cok_impl_in : codeOk CT Try.f75 (Try.f75.body.get rfl) = true := by kernel_rfl
theorem xe_impl_in (t0 t1 t2 : Value) (m : Mem) : ex CT cf_impl_in Try.f75 3 m.length [] (fun _ _ _ => none) 400 [.code (Try.f75.body.get rfl)] (argsT 0 [t0, t1, t2]) m = X_impl_in [t0, t1, t2] m := by kernel_rfl
theorem okc_impl_in : CallOK CT cf_impl_in := cfn_ok
theorem ok_X_impl_in : OkX CT 75 X_impl_in := OkX.of_ex (cf := cf_impl_in) (np := 3) (LL := []) (J := (fun _ _ _ _ => none)) CT_ok rfl Try.func75 rfl (Nat.le_of_ble_eq_true rfl) (by decide) cok_impl_in okc_impl_in (fun k => noLoops rfl) (fun args m r h => match args, h with
    | [t0, t1, t2], h => ⟨rfl, (xe_impl_in t0 t1 t2 m).trans h⟩)
theorem ok_C_impl_in : OkC CT 75 C_impl_in := fcall_ok rfl ok_X_impl_in

/-! ### impl.sizeOk -/
noncomputable def cf_impl_sizeOk : CallF := cfc 75 C_impl_in cfn
noncomputable def X_impl_sizeOk : List Value → Mem → Option VM
  | [t0, t1], m =>
    (C_impl_in [t0, (.int .i64 1), (.int .i64 6)] m) |> bo fun r1 =>
    (gd r1.1 true (some (t1, r1.2)) r1.2) |> bo fun r2 =>
    (gd r1.1 true ((C_impl_in [r2.1, (.int .i64 2), (.int .i64 12)] r2.2) |> bo fun r => some (r.1, r.2)) r2.2) |> bo fun r3 =>
    (pickX r1.1 r3.1 (.bool false)) |> bo fun t10 =>
    retK m.length r3.2 [t0, t1] t10
  | _, _ => none
noncomputable def C_impl_sizeOk : List Value → Mem → Option VM := fcall X_impl_sizeOk
@[simp] theorem c_impl_sizeOk : C_impl_sizeOk = fcall X_impl_sizeOk := (rfl)
theorem cok_impl_sizeOk : codeOk CT Try.f29 (Try.f29.body.get rfl) = true := by kernel_rfl
theorem xe_impl_sizeOk (t0 t1 : Value) (m : Mem) : ex CT cf_impl_sizeOk Try.f29 2 m.length [] (fun _ _ _ => none) 400 [.code (Try.f29.body.get rfl)] (argsT 0 [t0, t1]) m = X_impl_sizeOk [t0, t1] m := by kernel_rfl
theorem okc_impl_sizeOk : CallOK CT cf_impl_sizeOk := cfc_ok ok_C_impl_in cfn_ok
theorem ok_X_impl_sizeOk : OkX CT 29 X_impl_sizeOk := OkX.of_ex (cf := cf_impl_sizeOk) (np := 2) (LL := []) (J := (fun _ _ _ _ => none)) CT_ok rfl Try.func29 rfl (Nat.le_of_ble_eq_true rfl) (by decide) cok_impl_sizeOk okc_impl_sizeOk (fun k => noLoops rfl) (fun args m r h => match args, h with
    | [t0, t1], h => ⟨rfl, (xe_impl_sizeOk t0 t1 m).trans h⟩)
theorem ok_C_impl_sizeOk : OkC CT 29 C_impl_sizeOk := fcall_ok rfl ok_X_impl_sizeOk

/-! ### impl.isTab -/
noncomputable def cf_impl_isTab : CallF := cfn
noncomputable def X_impl_isTab : List Value → Mem → Option VM
  | [t0], m =>
    (binX .gtr .no t0 (.int .i64 0)) |> bo fun t4 =>
    (gd t4 true (some (t0, m)) m) |> bo fun r2 =>
    (gd t4 true ((binX .rem .no r2.1 (.int .i64 8)) |> bo fun v => some (v, r2.2)) r2.2) |> bo fun r3 =>
    (gd t4 true ((binX .eql .no r3.1 (.int .i64 0)) |> bo fun v => some (v, r3.2)) r3.2) |> bo fun r4 =>
    (pickX t4 r4.1 (.bool false)) |> bo fun t9 =>
    retK m.length r4.2 [t0] t9
  | _, _ => none
noncomputable def C_impl_isTab : List Value → Mem → Option VM := fcall X_impl_isTab
@[simp] theorem c_impl_isTab : C_impl_isTab = fcall X_impl_isTab := (rfl)
theorem cok_impl_isTab : codeOk CT Try.f114 (Try.f114.body.get rfl) = true := by kernel_rfl
theorem xe_impl_isTab (t0 : Value) (m : Mem) : ex CT cf_impl_isTab Try.f114 1 m.length [] (fun _ _ _ => none) 400 [.code (Try.f114.body.get rfl)] (argsT 0 [t0]) m = X_impl_isTab [t0] m := by kernel_rfl
theorem okc_impl_isTab : CallOK CT cf_impl_isTab := cfn_ok
theorem ok_X_impl_isTab : OkX CT 114 X_impl_isTab := OkX.of_ex (cf := cf_impl_isTab) (np := 1) (LL := []) (J := (fun _ _ _ _ => none)) CT_ok rfl Try.func114 rfl (Nat.le_of_ble_eq_true rfl) (by decide) cok_impl_isTab okc_impl_isTab (fun k => noLoops rfl) (fun args m r h => match args, h with
    | [t0], h => ⟨rfl, (xe_impl_isTab t0 m).trans h⟩)
theorem ok_C_impl_isTab : OkC CT 114 C_impl_isTab := fcall_ok rfl ok_X_impl_isTab

/-! ### math/bits.Mul32 -/
noncomputable def cf_math_bits_Mul32 : CallF := cfn
noncomputable def X_math_bits_Mul32 : List Value → Mem → Option VM
  | [t0, t1], m =>
    (cvI .u64 t0) |> bo fun t8 =>
    (cvI .u64 t1) |> bo fun t10 =>
    (binX .mul .no t8 t10) |> bo fun t11 =>
    (binX .shr .no t11 (.int .u64 32)) |> bo fun t13 =>
    (cvI .u32 t13) |> bo fun t14 =>
    (cvI .u32 t11) |> bo fun t16 =>
    retK m.length m [t0, t1] (.tuple #[t14, t16])
  | _, _ => none
noncomputable def C_math_bits_Mul32 : List Value → Mem → Option VM := fcall X_math_bits_Mul32
@[simp] theorem c_math_bits_Mul32 : C_math_bits_Mul32 = fcall X_math_bits_Mul32 := (rfl)
theorem cok_math_bits_Mul32 : codeOk CT Try.f174 (Try.f174.body.get rfl) = true := by kernel_rfl
theorem xe_math_bits_Mul32 (t0 t1 : Value) (m : Mem) : ex CT cf_math_bits_Mul32 Try.f174 2 m.length [] (fun _ _ _ => none) 400 [.code (Try.f174.body.get rfl)] (argsT 0 [t0, t1]) m = X_math_bits_Mul32 [t0, t1] m := by kernel_rfl
theorem okc_math_bits_Mul32 : CallOK CT cf_math_bits_Mul32 := cfn_ok
theorem ok_X_math_bits_Mul32 : OkX CT 174 X_math_bits_Mul32 := OkX.of_ex (cf := cf_math_bits_Mul32) (np := 2) (LL := []) (J := (fun _ _ _ _ => none)) CT_ok rfl Try.func174 rfl (Nat.le_of_ble_eq_true rfl) (by decide) cok_math_bits_Mul32 okc_math_bits_Mul32 (fun k => noLoops rfl) (fun args m r h => match args, h with
    | [t0, t1], h => ⟨rfl, (xe_math_bits_Mul32 t0 t1 m).trans h⟩)
theorem ok_C_math_bits_Mul32 : OkC CT 174 C_math_bits_Mul32 := fcall_ok rfl ok_X_math_bits_Mul32

/-! ### math/bits.Mul64 -/
noncomputable def cf_math_bits_Mul64 : CallF := cfn
noncomputable def X_math_bits_Mul64 : List Value → Mem → Option VM
  | [t0, t1], m =>
    (binX .and .no t0 (.int .u64 4294967295)) |> bo fun t15 =>
    (binX .shr .no t0 (.int .u64 32)) |> bo fun t17 =>
    (binX .and .no t1 (.int .u64 4294967295)) |> bo fun t19 =>
    (binX .shr .no t1 (.int .u64 32)) |> bo fun t21 =>
    (binX .mul .no t15 t19) |> bo fun t24 =>
    (binX .mul .no t17 t19) |> bo fun t27 =>
    (binX .shr .no t24 (.int .u64 32)) |> bo fun t29 =>
    (binX .add .no t27 t29) |> bo fun t30 =>
    (binX .and .no t30 (.int .u64 4294967295)) |> bo fun t32 =>
    (binX .shr .no t30 (.int .u64 32)) |> bo fun t34 =>
    (binX .mul .no t15 t21) |> bo fun t38 =>
    (binX .add .no t32 t38) |> bo fun t39 =>
    (binX .mul .no t17 t21) |> bo fun t42 =>
    (binX .add .no t42 t34) |> bo fun t44 =>
    (binX .shr .no t39 (.int .u64 32)) |> bo fun t46 =>
    (binX .add .no t44 t46) |> bo fun t47 =>
    (binX .mul .no t0 t1) |> bo fun t50 =>
    retK m.length m [t0, t1] (.tuple #[t47, t50])
  | _, _ => none
noncomputable def C_math_bits_Mul64 : List Value → Mem → Option VM := fcall X_math_bits_Mul64
@[simp] theorem c_math_bits_Mul64 : C_math_bits_Mul64 = fcall X_math_bits_Mul64 := (rfl)
theorem cok_math_bits_Mul64 : codeOk CT Try.f175 (Try.f175.body.get rfl) = true := by kernel_rfl
theorem xe_math_bits_Mul64 (t0 t1 : Value) (m : Mem) : ex CT cf_math_bits_Mul64 Try.f175 2 m.length [] (fun _ _ _ => none) 400 [.code (Try.f175.body.get rfl)] (argsT 0 [t0, t1]) m = X_math_bits_Mul64 [t0, t1] m := by kernel_rfl
theorem okc_math_bits_Mul64 : CallOK CT cf_math_bits_Mul64 := cfn_ok
theorem ok_X_math_bits_Mul64 : OkX CT 175 X_math_bits_Mul64 := OkX.of_ex (cf := cf_math_bits_Mul64) (np := 2) (LL := []) (J := (fun _ _ _ _ => none)) CT_ok rfl Try.func175 rfl (Nat.le_of_ble_eq_true rfl) (by decide) cok_math_bits_Mul64 okc_math_bits_Mul64 (fun k => noLoops rfl) (fun args m r h => match args, h with
    | [t0, t1], h => ⟨rfl, (xe_math_bits_Mul64 t0 t1 m).trans h⟩)
theorem ok_C_math_bits_Mul64 : OkC CT 175 C_math_bits_Mul64 := fcall_ok rfl ok_X_math_bits_Mul64

/-! ### math/bits.Mul -/
noncomputable def cf_math_bits_Mul : CallF := cfc 174 C_math_bits_Mul32 (cfc 175 C_math_bits_Mul64 cfn)
noncomputable def X_math_bits_Mul : List Value → Mem → Option VM
  | [t0, t1], m =>
    brX (.bool false)
      (
        (cvI .u32 t0) |> bo fun t12 =>
        (cvI .u32 t1) |> bo fun t14 =>
        (C_math_bits_Mul32 [t12, t14] m) |> bo fun r3 =>
        (extX 0 r3.1) |> bo fun t16 =>
        (extX 1 r3.1) |> bo fun t17 =>
        (cvI .u64 t16) |> bo fun t19 =>
        (cvI .u64 t17) |> bo fun t21 =>
        retK m.length r3.2 [t0, t1] (.tuple #[t19, t21]))
      (
        (C_math_bits_Mul64 [t0, t1] m) |> bo fun r8 =>
        (extX 0 r8.1) |> bo fun t26 =>
        (extX 1 r8.1) |> bo fun t27 =>
        retK m.length r8.2 [t0, t1] (.tuple #[t26, t27]))
  | _, _ => none
noncomputable def C_math_bits_Mul : List Value → Mem → Option VM := fcall X_math_bits_Mul
@[simp] theorem c_math_bits_Mul : C_math_bits_Mul = fcall X_math_bits_Mul := (rfl)
theorem cok_math_bits_Mul : codeOk CT Try.f173 (Try.f173.body.get rfl) = true := by kernel_rfl
theorem xe_math_bits_Mul (t0 t1 : Value) (m : Mem) : ex CT cf_math_bits_Mul Try.f173 2 m.length [] (fun _ _ _ => none) 400 [.code (Try.f173.body.get rfl)] (argsT 0 [t0, t1]) m = X_math_bits_Mul [t0, t1] m := by kernel_rfl
theorem okc_math_bits_Mul : CallOK CT cf_math_bits_Mul := cfc_ok ok_C_math_bits_Mul32 (cfc_ok ok_C_math_bits_Mul64 cfn_ok)
theorem ok_X_math_bits_Mul : OkX CT 173 X_math_bits_Mul := OkX.of_ex (cf := cf_math_bits_Mul) (np := 2) (LL := []) (J := (fun _ _ _ _ => none)) CT_ok rfl Try.func173 rfl (Nat.le_of_ble_eq_true rfl) (by decide) cok_math_bits_Mul okc_math_bits_Mul (fun k => noLoops rfl) (fun args m r h => match args, h with
    | [t0, t1], h => ⟨rfl, (xe_math_bits_Mul t0 t1 m).trans h⟩)
theorem ok_C_math_bits_Mul : OkC CT 173 C_math_bits_Mul := fcall_ok rfl ok_X_math_bits_Mul

/-! ### slices.Repeat[[]impl.Cell,impl.Cell] -/
noncomputable def cf_slices_Repeat_impl_Cell_impl_Cell : CallF := cfc 173 C_math_bits_Mul cfn
noncomputable def L_slices_Repeat_impl_Cell_impl_Cell (k : Nat) : Nat → Nat → List Value → Mem → Option VM
  | q + 1, 0, [t7, t8], m =>
    (lenX t7) |> bo fun t36 =>
    (binX .lss .no t8 t36) |> bo fun t37 =>
    brX t37
      (
        (slX m 2 t7 (some t8) none) |> bo fun t41 =>
        (slX m 2 t7 none (some t8)) |> bo fun t44 =>
        (cpL m 2 t41 t44) |> bo fun r5 =>
        (binX .add .no t8 r5.1) |> bo fun t46 =>
        cutK k r5.2 [] [t7, t46] (L_slices_Repeat_impl_Cell_impl_Cell k q 0))
      (
        retK k m [] t7)
  | _, _, _, _ => none
noncomputable def J_slices_Repeat_impl_Cell_impl_Cell (k q l : Nat) : List Value → Mem → Option VM := cond (Nat.beq l 8) (L_slices_Repeat_impl_Cell_impl_Cell k q 0) (fun _ _ => none)
def LL_slices_Repeat_impl_Cell_impl_Cell : List (Nat × List Tmp) := [(8, [7, 8])]
noncomputable def X_slices_Repeat_impl_Cell_impl_Cell : List Value → Mem → Option VM
  | [t0, t1], m =>
    (binX .lss .no t1 (.int .i64 0)) |> bo fun t10 =>
    brX t10
      (
        none)
      (
        (lenX t0) |> bo fun t14 =>
        (cvI .u64 t14) |> bo fun t15 =>
        (cvI .u64 t1) |> bo fun t17 =>
        (C_math_bits_Mul [t15, t17] m) |> bo fun r5 =>
        (extX 0 r5.1) |> bo fun t19 =>
        (extX 1 r5.1) |> bo fun t20 =>
        (binX .gtr .no t19 (.int .u64 0)) |> bo fun t22 =>
        (gd t22 false (some (t20, r5.2)) r5.2) |> bo fun r9 =>
        (gd t22 false ((binX .gtr .no r9.1 (.int .u64 9223372036854775807)) |> bo fun v => some (v, r9.2)) r9.2) |> bo fun r10 =>
        (pickX t22 (.bool true) r10.1) |> bo fun t26 =>
        brX t26
          (
            none)
          (
            (cvI .i64 t20) |> bo fun t29 =>
            (mkX r10.2 2 16 [.int .i64 0, .int .i64 0] t29 t29) |> bo fun r13 =>
            (cpL r13.2 2 r13.1 t0) |> bo fun r14 =>
            cutK m.length r14.2 [t0, t1] [r13.1, r14.1] (L_slices_Repeat_impl_Cell_impl_Cell m.length QQ 0)))
  | _, _ => none
noncomputable def C_slices_Repeat_impl_Cell_impl_Cell : List Value → Mem → Option VM := fcall X_slices_Repeat_impl_Cell_impl_Cell
@[simp] theorem c_slices_Repeat_impl_Cell_impl_Cell : C_slices_Repeat_impl_Cell_impl_Cell = fcall X_slices_Repeat_impl_Cell_impl_Cell := (rfl)
theorem cok_slices_Repeat_impl_Cell_impl_Cell : codeOk CT Try.f169 (Try.f169.body.get rfl) = true := by kernel_rfl
theorem xe_slices_Repeat_impl_Cell_impl_Cell (t0 t1 : Value) (m : Mem) : ex CT cf_slices_Repeat_impl_Cell_impl_Cell Try.f169 2 m.length LL_slices_Repeat_impl_Cell_impl_Cell (J_slices_Repeat_impl_Cell_impl_Cell m.length QQ) 400 [.code (Try.f169.body.get rfl)] (argsT 0 [t0, t1]) m = X_slices_Repeat_impl_Cell_impl_Cell [t0, t1] m := by kernel_rfl
theorem okc_slices_Repeat_impl_Cell_impl_Cell : CallOK CT cf_slices_Repeat_impl_Cell_impl_Cell := cfc_ok ok_C_math_bits_Mul cfn_ok
theorem le_slices_Repeat_impl_Cell_impl_Cell_0 (k q : Nat) (t7 t8 : Value) (m : Mem) : ex CT cf_slices_Repeat_impl_Cell_impl_Cell Try.f169 2 k LL_slices_Repeat_impl_Cell_impl_Cell (J_slices_Repeat_impl_Cell_impl_Cell k q) 400 (atLoop Try.f169 0) [(7, t7), (8, t8)] m = J_slices_Repeat_impl_Cell_impl_Cell k (q + 1) 8 [t7, t8] m := by kernel_rfl
theorem gl_slices_Repeat_impl_Cell_impl_Cell (k : Nat) : ∀ q i, i < 1 → GoodL CT k Try.f169 LL_slices_Repeat_impl_Cell_impl_Cell (J_slices_Repeat_impl_Cell_impl_Cell k q) (atLoop Try.f169 i)
  | 0, 0, _ => goodL_zero (l := 8) (by kernel_rfl) (fun vs m => by kernel_rfl)
  | 0, _ + 1, h => absurd h (by omega)
  | q + 1, 0, _ => goodL_succ (np := 2) (l := 8) (live := [7, 8]) (n := 1) CT_ok rfl okc_slices_Repeat_impl_Cell_impl_Cell (c := (Try.f169.body.get rfl)) rfl cok_slices_Repeat_impl_Cell_impl_Cell (by kernel_rfl) (gl_slices_Repeat_impl_Cell_impl_Cell k q) (by kernel_rfl) rfl (fun vs m r hl h => match vs, hl with
    | [t7, t8], _ => (le_slices_Repeat_impl_Cell_impl_Cell_0 k q t7 t8 m).trans h)
  | _ + 1, _ + 1, h => absurd h (by omega)
theorem ok_X_slices_Repeat_impl_Cell_impl_Cell : OkX CT 169 X_slices_Repeat_impl_Cell_impl_Cell := OkX.of_ex (cf := cf_slices_Repeat_impl_Cell_impl_Cell) (np := 2) (LL := LL_slices_Repeat_impl_Cell_impl_Cell) (J := (fun k => J_slices_Repeat_impl_Cell_impl_Cell k QQ)) CT_ok rfl Try.func169 rfl (Nat.le_of_ble_eq_true rfl) (by decide) cok_slices_Repeat_impl_Cell_impl_Cell okc_slices_Repeat_impl_Cell_impl_Cell (fun k => allLoops rfl (by kernel_rfl) (gl_slices_Repeat_impl_Cell_impl_Cell k QQ)) (fun args m r h => match args, h with
    | [t0, t1], h => ⟨rfl, (xe_slices_Repeat_impl_Cell_impl_Cell t0 t1 m).trans h⟩)
theorem ok_C_slices_Repeat_impl_Cell_impl_Cell : OkC CT 169 C_slices_Repeat_impl_Cell_impl_Cell := fcall_ok rfl ok_X_slices_Repeat_impl_Cell_impl_Cell

/-! ### impl.blanks -/
noncomputable def cf_impl_blanks : CallF := cfc 169 C_slices_Repeat_impl_Cell_impl_Cell cfn
noncomputable def X_impl_blanks : List Value → Mem → Option VM
  | [t0, t1], m =>
    (bldX [.int .i64 0, .int .i64 0] [(0, 1, (.int .i64 32)), (1, 1, t1)]) |> bo fun t6 =>
    (bslX m 1 2 [.int .i64 0, .int .i64 0] [(0, 2, t6)]) |> bo fun r2 =>
    (C_slices_Repeat_impl_Cell_impl_Cell [r2.1, t0] r2.2) |> bo fun r3 =>
    retK m.length r3.2 [t0, t1] r3.1
  | _, _ => none
noncomputable def C_impl_blanks : List Value → Mem → Option VM := fcall X_impl_blanks
@[simp] theorem c_impl_blanks : C_impl_blanks = fcall X_impl_blanks := (rfl)
theorem cok_impl_blanks : codeOk CT Try.f156 (Try.f156.body.get rfl) = true := by kernel_rfl
theorem xe_impl_blanks (t0 t1 : Value) (m : Mem) : ex CT cf_impl_blanks Try.f156 2 m.length [] (fun _ _ _ => none) 400 [.code (Try.f156.body.get rfl)] (argsT 0 [t0, t1]) m = X_impl_blanks [t0, t1] m := by kernel_rfl
theorem okc_impl_blanks : CallOK CT cf_impl_blanks := cfc_ok ok_C_slices_Repeat_impl_Cell_impl_Cell cfn_ok
theorem ok_X_impl_blanks : OkX CT 156 X_impl_blanks := OkX.of_ex (cf := cf_impl_blanks) (np := 2) (LL := []) (J := (fun _ _ _ _ => none)) CT_ok rfl Try.func156 rfl (Nat.le_of_ble_eq_true rfl) (by decide) cok_impl_blanks okc_impl_blanks (fun k => noLoops rfl) (fun args m r h => match args, h with
    | [t0, t1], h => ⟨rfl, (xe_impl_blanks t0 t1 m).trans h⟩)
theorem ok_C_impl_blanks : OkC CT 156 C_impl_blanks := fcall_ok rfl ok_X_impl_blanks

/-! ### impl.newGrid -/
noncomputable def cf_impl_newGrid : CallF := cfc 156 C_impl_blanks cfn
noncomputable def X_impl_newGrid : List Value → Mem → Option VM
  | [t0, t1], m =>
    (alX m [.int .i64 0, .int .i64 0, .slice none 0 0, .slice none 0 0]) |> bo fun r1 =>
    (binX .mul .no t0 t1) |> bo fun t9 =>
    (C_impl_blanks [t9, (.int .i64 0)] r1.2) |> bo fun r3 =>
    (bldX [.int .i64 0, .int .i64 0, .slice none 0 0, .slice none 0 0] [(0, 1, t0), (1, 1, t1), (2, 1, r3.1)]) |> bo fun t11 =>
    (stX r3.2 4 r1.1 t11) |> bo fun m5 =>
    (resP (some 4) m5 r1.1) |> bo fun c6 =>
    retK m.length m5 [t0, t1] c6
  | _, _ => none
noncomputable def C_impl_newGrid : List Value → Mem → Option VM := fcall X_impl_newGrid
@[simp] theorem c_impl_newGrid : C_impl_newGrid = fcall X_impl_newGrid := (rfl)
theorem cok_impl_newGrid : codeOk CT Try.f119 (Try.f119.body.get rfl) = true := by kernel_rfl
theorem xe_impl_newGrid (t0 t1 : Value) (m : Mem) : ex CT cf_impl_newGrid Try.f119 2 m.length [] (fun _ _ _ => none) 400 [.code (Try.f119.body.get rfl)] (argsT 0 [t0, t1]) m = X_impl_newGrid [t0, t1] m := by kernel_rfl
theorem okc_impl_newGrid : CallOK CT cf_impl_newGrid := cfc_ok ok_C_impl_blanks cfn_ok
theorem ok_X_impl_newGrid : OkX CT 119 X_impl_newGrid := OkX.of_ex (cf := cf_impl_newGrid) (np := 2) (LL := []) (J := (fun _ _ _ _ => none)) CT_ok rfl Try.func119 rfl (Nat.le_of_ble_eq_true rfl) (by decide) cok_impl_newGrid okc_impl_newGrid (fun k => noLoops rfl) (fun args m r h => match args, h with
    | [t0, t1], h => ⟨rfl, (xe_impl_newGrid t0 t1 m).trans h⟩)
theorem ok_C_impl_newGrid : OkC CT 119 C_impl_newGrid := fcall_ok rfl ok_X_impl_newGrid

/-! ### impl.newScreen -/
noncomputable def cf_impl_newScreen : CallF := cfc 114 C_impl_isTab (cfc 119 C_impl_newGrid cfn)
noncomputable def L_impl_newScreen (k : Nat) : Nat → Nat → List Value → Mem → Option VM
  | q + 1, 0, [t4, t5, t14, t15], m =>
    (binX .lss .no t15 t14) |> bo fun t16 =>
    brX t16
      (
        (fadX 13 t5) |> bo fun t18 =>
        (ld1 m t18) |> bo fun t19 =>
        (C_impl_isTab [t15] m) |> bo fun r4 =>
        (bslX r4.2 1 1 [.bool false] [(0, 1, r4.1)]) |> bo fun r5 =>
        (apL r5.2 1 1 t19 r5.1) |> bo fun r6 =>
        (fadX 13 t5) |> bo fun t24 =>
        (stX r6.2 1 t24 r6.1) |> bo fun m8 =>
        gP (stbL [((rdN t18), m, r4.2)])
          (
            (binX .add .no t15 (.int .i64 1)) |> bo fun t25 =>
            cutK k m8 [] [t4, t5, t14, t25] (L_impl_newScreen k q 0)))
      (
        (ldS m 20 t5) |> bo fun t26 =>
        (stX m 20 t4 t26) |> bo fun m11 =>
        (resP (some 20) m11 t4) |> bo fun c12 =>
        retK k m11 [] c12)
  | _, _, _, _ => none
noncomputable def J_impl_newScreen (k q l : Nat) : List Value → Mem → Option VM := cond (Nat.beq l 3) (L_impl_newScreen k q 0) (fun _ _ => none)
def LL_impl_newScreen : List (Nat × List Tmp) := [(3, [4, 5, 14, 15])]
noncomputable def X_impl_newScreen : List Value → Mem → Option VM
  | [t0, t1], m =>
    (alX m [.int .i64 0, .int .i64 0, .slice none 0 0, .slice none 0 0, .int .i64 0, .int .i64 0, .bool false, .int .i64 0, .int .i64 0, .int .i64 0, .bool false, .bool false, .bool false, .slice none 0 0, .int .i64 0, .int .i64 0, .int .i64 0, .slice none 0 0, .int .i64 0, .int .i64 0]) |> bo fun r1 =>
    (C_impl_newGrid [t0, t1] r1.2) |> bo fun r2 =>
    (binX .sub .no t0 (.int .i64 1)) |> bo fun t11 =>
    (bslX r2.2 2 1 [.int .i64 0] [(0, 1, (.int .i64 1)), (1, 1, (.int .i64 1))]) |> bo fun r4 =>
    (bldX [.int .i64 0, .int .i64 0, .slice none 0 0, .slice none 0 0, .int .i64 0, .int .i64 0, .bool false, .int .i64 0, .int .i64 0, .int .i64 0, .bool false, .bool false, .bool false, .slice none 0 0, .int .i64 0, .int .i64 0, .int .i64 0, .slice none 0 0, .int .i64 0, .int .i64 0] [(0, 4, r2.1), (9, 1, t11), (11, 1, (.bool true)), (17, 1, r4.1)]) |> bo fun t13 =>
    (alX r4.2 [.int .i64 0, .int .i64 0, .slice none 0 0, .slice none 0 0, .int .i64 0, .int .i64 0, .bool false, .int .i64 0, .int .i64 0, .int .i64 0, .bool false, .bool false, .bool false, .slice none 0 0, .int .i64 0, .int .i64 0, .int .i64 0, .slice none 0 0, .int .i64 0, .int .i64 0]) |> bo fun r6 =>
    (stX r6.2 20 r6.1 t13) |> bo fun m7 =>
    cutK m.length m7 [t0, t1] [r1.1, r6.1, t1, (.int .i64 0)] (L_impl_newScreen m.length QQ 0)
  | _, _ => none
noncomputable def C_impl_newScreen : List Value → Mem → Option VM := fcall X_impl_newScreen
@[simp] theorem c_impl_newScreen : C_impl_newScreen = fcall X_impl_newScreen := (rfl)
theorem cok_impl_newScreen : codeOk CT Try.f76 (Try.f76.body.get rfl) = true := by kernel_rfl
theorem xe_impl_newScreen (t0 t1 : Value) (m : Mem) : ex CT cf_impl_newScreen Try.f76 2 m.length LL_impl_newScreen (J_impl_newScreen m.length QQ) 400 [.code (Try.f76.body.get rfl)] (argsT 0 [t0, t1]) m = X_impl_newScreen [t0, t1] m := by kernel_rfl
theorem okc_impl_newScreen : CallOK CT cf_impl_newScreen := cfc_ok ok_C_impl_isTab (cfc_ok ok_C_impl_newGrid cfn_ok)
theorem le_impl_newScreen_0 (k q : Nat) (t4 t5 t14 t15 : Value) (m : Mem) : ex CT cf_impl_newScreen Try.f76 2 k LL_impl_newScreen (J_impl_newScreen k q) 400 (atLoop Try.f76 0) [(4, t4), (5, t5), (14, t14), (15, t15)] m = J_impl_newScreen k (q + 1) 3 [t4, t5, t14, t15] m := by kernel_rfl
theorem gl_impl_newScreen (k : Nat) : ∀ q i, i < 1 → GoodL CT k Try.f76 LL_impl_newScreen (J_impl_newScreen k q) (atLoop Try.f76 i)
  | 0, 0, _ => goodL_zero (l := 3) (by kernel_rfl) (fun vs m => by kernel_rfl)
  | 0, _ + 1, h => absurd h (by omega)
  | q + 1, 0, _ => goodL_succ (np := 2) (l := 3) (live := [4, 5, 14, 15]) (n := 1) CT_ok rfl okc_impl_newScreen (c := (Try.f76.body.get rfl)) rfl cok_impl_newScreen (by kernel_rfl) (gl_impl_newScreen k q) (by kernel_rfl) rfl (fun vs m r hl h => match vs, hl with
    | [t4, t5, t14, t15], _ => (le_impl_newScreen_0 k q t4 t5 t14 t15 m).trans h)
  | _ + 1, _ + 1, h => absurd h (by omega)
theorem ok_X_impl_newScreen : OkX CT 76 X_impl_newScreen := OkX.of_ex (cf := cf_impl_newScreen) (np := 2) (LL := LL_impl_newScreen) (J := (fun k => J_impl_newScreen k QQ)) CT_ok rfl Try.func76 rfl (Nat.le_of_ble_eq_true rfl) (by decide) cok_impl_newScreen okc_impl_newScreen (fun k => allLoops rfl (by kernel_rfl) (gl_impl_newScreen k QQ)) (fun args m r h => match args, h with
    | [t0, t1], h => ⟨rfl, (xe_impl_newScreen t0 t1 m).trans h⟩)
theorem ok_C_impl_newScreen : OkC CT 76 C_impl_newScreen := fcall_ok rfl ok_X_impl_newScreen

/-! ### impl.usual -/
noncomputable def cf_impl_usual : CallF := cfn
noncomputable def X_impl_usual : List Value → Mem → Option VM
  | [t0], m =>
    (alX m [.int .i64 0, .int .i64 0, .int .i64 0, .int .i64 0, .int .i64 0, .int .i64 0, .int .i64 0]) |> bo fun r1 =>
    (bldX [.int .i64 0, .int .i64 0, .int .i64 0, .int .i64 0, .int .i64 0, .int .i64 0, .int .i64 0] [(0, 1, t0), (1, 1, (.int .i64 127)), (2, 1, (.int .i64 21)), (3, 1, (.int .i64 23)), (4, 1, (.int .i64 4)), (5, 1, (.int .i64 3)), (6, 1, (.int .i64 22))]) |> bo fun t4 =>
    (stX r1.2 7 r1.1 t4) |> bo fun m3 =>
    (resP (some 7) m3 r1.1) |> bo fun c4 =>
    retK m.length m3 [t0] c4
  | _, _ => none
noncomputable def C_impl_usual : List Value → Mem → Option VM := fcall X_impl_usual
@[simp] theorem c_impl_usual : C_impl_usual = fcall X_impl_usual := (rfl)
theorem cok_impl_usual : codeOk CT Try.f77 (Try.f77.body.get rfl) = true := by kernel_rfl
theorem xe_impl_usual (t0 : Value) (m : Mem) : ex CT cf_impl_usual Try.f77 1 m.length [] (fun _ _ _ => none) 400 [.code (Try.f77.body.get rfl)] (argsT 0 [t0]) m = X_impl_usual [t0] m := by kernel_rfl
theorem okc_impl_usual : CallOK CT cf_impl_usual := cfn_ok
theorem ok_X_impl_usual : OkX CT 77 X_impl_usual := OkX.of_ex (cf := cf_impl_usual) (np := 1) (LL := []) (J := (fun _ _ _ _ => none)) CT_ok rfl Try.func77 rfl (Nat.le_of_ble_eq_true rfl) (by decide) cok_impl_usual okc_impl_usual (fun k => noLoops rfl) (fun args m r h => match args, h with
    | [t0], h => ⟨rfl, (xe_impl_usual t0 m).trans h⟩)
theorem ok_C_impl_usual : OkC CT 77 C_impl_usual := fcall_ok rfl ok_X_impl_usual

/-! ### impl.newConsole -/
noncomputable def cf_impl_newConsole : CallF := cfc 76 C_impl_newScreen (cfc 77 C_impl_usual cfn)
noncomputable def X_impl_newConsole : List Value → Mem → Option VM
  | [t0, t1], m =>
    (alX m [.int .i64 0, .int .i64 0, .int .i64 0, .int .i64 0, .int .i64 0, .bool false, .slice none 0 0, .int .i64 0, .int .i64 0, .slice none 0 0, .slice none 0 0, .int .i64 0, .int .i64 0, .bool false, .int .i64 0, .int .i64 0, .int .i64 0, .bool false, .bool false, .bool false, .slice none 0 0, .int .i64 0, .int .i64 0, .int .i64 0, .slice none 0 0, .int .i64 0, .int .i64 0, .int .i64 0, .int .i64 0, .int .i64 0, .int .i64 0, .int .i64 0, .int .i64 0, .int .i64 0, .slice none 0 0, .slice none 0 0, .bool false, .int .i64 0]) |> bo fun r1 =>
    (C_impl_newScreen [t0, t1] r1.2) |> bo fun r2 =>
    (bldX [.int .i64 0, .int .i64 0, .int .i64 0, .int .i64 0, .int .i64 0, .bool false, .slice none 0 0, .int .i64 0, .int .i64 0, .slice none 0 0, .slice none 0 0, .int .i64 0, .int .i64 0, .bool false, .int .i64 0, .int .i64 0, .int .i64 0, .bool false, .bool false, .bool false, .slice none 0 0, .int .i64 0, .int .i64 0, .int .i64 0, .slice none 0 0, .int .i64 0, .int .i64 0] [(7, 20, r2.1)]) |> bo fun t8 =>
    (C_impl_usual [(.int .i64 511)] r2.2) |> bo fun r4 =>
    (bldX [.int .i64 0, .int .i64 0, .int .i64 0, .int .i64 0, .int .i64 0, .bool false, .slice none 0 0, .int .i64 0, .int .i64 0, .slice none 0 0, .slice none 0 0, .int .i64 0, .int .i64 0, .bool false, .int .i64 0, .int .i64 0, .int .i64 0, .bool false, .bool false, .bool false, .slice none 0 0, .int .i64 0, .int .i64 0, .int .i64 0, .slice none 0 0, .int .i64 0, .int .i64 0, .int .i64 0, .int .i64 0, .int .i64 0, .int .i64 0, .int .i64 0, .int .i64 0, .int .i64 0, .slice none 0 0, .slice none 0 0, .bool false, .int .i64 0] [(0, 27, t8), (27, 7, r4.1)]) |> bo fun t10 =>
    (stX r4.2 38 r1.1 t10) |> bo fun m6 =>
    (resP (some 38) m6 r1.1) |> bo fun c7 =>
    retK m.length m6 [t0, t1] c7
  | _, _ => none
noncomputable def C_impl_newConsole : List Value → Mem → Option VM := fcall X_impl_newConsole
@[simp] theorem c_impl_newConsole : C_impl_newConsole = fcall X_impl_newConsole := (rfl)
theorem cok_impl_newConsole : codeOk CT Try.f30 (Try.f30.body.get rfl) = true := by kernel_rfl
theorem xe_impl_newConsole (t0 t1 : Value) (m : Mem) : ex CT cf_impl_newConsole Try.f30 2 m.length [] (fun _ _ _ => none) 400 [.code (Try.f30.body.get rfl)] (argsT 0 [t0, t1]) m = X_impl_newConsole [t0, t1] m := by kernel_rfl
theorem okc_impl_newConsole : CallOK CT cf_impl_newConsole := cfc_ok ok_C_impl_newScreen (cfc_ok ok_C_impl_usual cfn_ok)
theorem ok_X_impl_newConsole : OkX CT 30 X_impl_newConsole := OkX.of_ex (cf := cf_impl_newConsole) (np := 2) (LL := []) (J := (fun _ _ _ _ => none)) CT_ok rfl Try.func30 rfl (Nat.le_of_ble_eq_true rfl) (by decide) cok_impl_newConsole okc_impl_newConsole (fun k => noLoops rfl) (fun args m r h => match args, h with
    | [t0, t1], h => ⟨rfl, (xe_impl_newConsole t0 t1 m).trans h⟩)
theorem ok_C_impl_newConsole : OkC CT 30 C_impl_newConsole := fcall_ok rfl ok_X_impl_newConsole

/-! ### impl.NewMux -/
noncomputable def cf_impl_NewMux : CallF := cfc 29 C_impl_sizeOk (cfc 30 C_impl_newConsole cfn)
noncomputable def X_impl_NewMux : List Value → Mem → Option VM
  | [t0, t1], m =>
    (alX m [.int .i64 0, .bool false, .slice none 0 0, .slice none 0 0, .slice none 0 0, .int .i64 0, .int .i64 0, .int .i64 0, .slice none 0 0, .slice none 0 0, .slice none 0 0, .bool false, .int .i64 0]) |> bo fun r1 =>
    (C_impl_sizeOk [t0, t1] r1.2) |> bo fun r2 =>
    (uop .not r2.1) |> bo fun t8 =>
    brX t8
      (
        (bldX [.int .i64 0, .bool false, .slice none 0 0, .slice none 0 0, .slice none 0 0, .int .i64 0, .int .i64 0, .int .i64 0, .slice none 0 0, .slice none 0 0, .slice none 0 0, .bool false, .int .i64 0] [(0, 1, (.int .i64 3))]) |> bo fun t9 =>
        (stX r2.2 13 r1.1 t9) |> bo fun m5 =>
        (resP (some 13) m5 r1.1) |> bo fun c6 =>
        retK m.length m5 [t0, t1] c6)
      (
        (C_impl_newConsole [t0, t1] r2.2) |> bo fun r7 =>
        (bslX r7.2 1 38 [.int .i64 0, .int .i64 0, .int .i64 0, .int .i64 0, .int .i64 0, .bool false, .slice none 0 0, .int .i64 0, .int .i64 0, .slice none 0 0, .slice none 0 0, .int .i64 0, .int .i64 0, .bool false, .int .i64 0, .int .i64 0, .int .i64 0, .bool false, .bool false, .bool false, .slice none 0 0, .int .i64 0, .int .i64 0, .int .i64 0, .slice none 0 0, .int .i64 0, .int .i64 0, .int .i64 0, .int .i64 0, .int .i64 0, .int .i64 0, .int .i64 0, .int .i64 0, .int .i64 0, .slice none 0 0, .slice none 0 0, .bool false, .int .i64 0] [(0, 38, r7.1)]) |> bo fun r8 =>
        (bslX r8.2 1 1 [.bool false] [(0, 1, (.bool false))]) |> bo fun r9 =>
        (bldX [.slice none 0 0, .slice none 0 0, .int .i64 0, .int .i64 0, .int .i64 0, .slice none 0 0, .slice none 0 0, .slice none 0 0, .bool false, .int .i64 0] [(0, 1, r8.1), (1, 1, r9.1)]) |> bo fun t15 =>
        (bldX [.int .i64 0, .bool false, .slice none 0 0, .slice none 0 0, .slice none 0 0, .int .i64 0, .int .i64 0, .int .i64 0, .slice none 0 0, .slice none 0 0, .slice none 0 0, .bool false, .int .i64 0] [(3, 10, t15)]) |> bo fun t16 =>
        (stX r9.2 13 r1.1 t16) |> bo fun m12 =>
        (resP (some 13) m12 r1.1) |> bo fun c13 =>
        retK m.length m12 [t0, t1] c13)
  | _, _ => none
noncomputable def C_impl_NewMux : List Value → Mem → Option VM := fcall X_impl_NewMux
@[simp] theorem c_impl_NewMux : C_impl_NewMux = fcall X_impl_NewMux := (rfl)
theorem cok_impl_NewMux : codeOk CT Try.f7 (Try.f7.body.get rfl) = true := by kernel_rfl
theorem xe_impl_NewMux (t0 t1 : Value) (m : Mem) : ex CT cf_impl_NewMux Try.f7 2 m.length [] (fun _ _ _ => none) 400 [.code (Try.f7.body.get rfl)] (argsT 0 [t0, t1]) m = X_impl_NewMux [t0, t1] m := by kernel_rfl
theorem okc_impl_NewMux : CallOK CT cf_impl_NewMux := cfc_ok ok_C_impl_sizeOk (cfc_ok ok_C_impl_newConsole cfn_ok)
theorem ok_X_impl_NewMux : OkX CT 7 X_impl_NewMux := OkX.of_ex (cf := cf_impl_NewMux) (np := 2) (LL := []) (J := (fun _ _ _ _ => none)) CT_ok rfl Try.func7 rfl (Nat.le_of_ble_eq_true rfl) (by decide) cok_impl_NewMux okc_impl_NewMux (fun k => noLoops rfl) (fun args m r h => match args, h with
    | [t0, t1], h => ⟨rfl, (xe_impl_NewMux t0 t1 m).trans h⟩)
theorem ok_C_impl_NewMux : OkC CT 7 C_impl_NewMux := fcall_ok rfl ok_X_impl_NewMux

/-! ### laws.eqByteS -/
noncomputable def cf_laws_eqByteS : CallF := cfn
noncomputable def L_laws_eqByteS (k : Nat) : Nat → Nat → List Value → Mem → Option VM
  | q + 1, 0, [t0, t1, t5], m =>
    (lenX t0) |> bo fun t13 =>
    (binX .lss .no t5 t13) |> bo fun t14 =>
    brX t14
      (
        (ixaX 1 t0 t5) |> bo fun t19 =>
        (ld1 m t19) |> bo fun t20 =>
        (ixaX 1 t1 t5) |> bo fun t23 =>
        (ld1 m t23) |> bo fun t24 =>
        (binX .neq .no t20 t24) |> bo fun t25 =>
        brX t25
          (
            retK k m [t0, t1] (.bool false))
          (
            (binX .add .no t5 (.int .i64 1)) |> bo fun t16 =>
            cutK k m [t0, t1] [t0, t1, t16] (L_laws_eqByteS k q 0)))
      (
        retK k m [t0, t1] (.bool true))
  | _, _, _, _ => none
noncomputable def J_laws_eqByteS (k q l : Nat) : List Value → Mem → Option VM := cond (Nat.beq l 4) (L_laws_eqByteS k q 0) (fun _ _ => none)
def LL_laws_eqByteS : List (Nat × List Tmp) := [(4, [0, 1, 5])]
noncomputable def X_laws_eqByteS : List Value → Mem → Option VM
  | [t0, t1], m =>
    (lenX t0) |> bo fun t7 =>
    (lenX t1) |> bo fun t9 =>
    (binX .neq .no t7 t9) |> bo fun t10 =>
    brX t10
      (
        retK m.length m [t0, t1] (.bool false))
      (
        cutK m.length m [t0, t1] [t0, t1, (.int .i64 0)] (L_laws_eqByteS m.length QQ 0))
  | _, _ => none
noncomputable def C_laws_eqByteS : List Value → Mem → Option VM := fcall X_laws_eqByteS
@[simp] theorem c_laws_eqByteS : C_laws_eqByteS = fcall X_laws_eqByteS := (rfl)
theorem cok_laws_eqByteS : codeOk CT Try.f31 (Try.f31.body.get rfl) = true := by kernel_rfl
theorem xe_laws_eqByteS (t0 t1 : Value) (m : Mem) : ex CT cf_laws_eqByteS Try.f31 2 m.length LL_laws_eqByteS (J_laws_eqByteS m.length QQ) 400 [.code (Try.f31.body.get rfl)] (argsT 0 [t0, t1]) m = X_laws_eqByteS [t0, t1] m := by kernel_rfl
theorem okc_laws_eqByteS : CallOK CT cf_laws_eqByteS := cfn_ok
theorem le_laws_eqByteS_0 (k q : Nat) (t0 t1 t5 : Value) (m : Mem) : ex CT cf_laws_eqByteS Try.f31 2 k LL_laws_eqByteS (J_laws_eqByteS k q) 400 (atLoop Try.f31 0) [(0, t0), (1, t1), (5, t5)] m = J_laws_eqByteS k (q + 1) 4 [t0, t1, t5] m := by kernel_rfl
theorem gl_laws_eqByteS (k : Nat) : ∀ q i, i < 1 → GoodL CT k Try.f31 LL_laws_eqByteS (J_laws_eqByteS k q) (atLoop Try.f31 i)
  | 0, 0, _ => goodL_zero (l := 4) (by kernel_rfl) (fun vs m => by kernel_rfl)
  | 0, _ + 1, h => absurd h (by omega)
  | q + 1, 0, _ => goodL_succ (np := 2) (l := 4) (live := [0, 1, 5]) (n := 1) CT_ok rfl okc_laws_eqByteS (c := (Try.f31.body.get rfl)) rfl cok_laws_eqByteS (by kernel_rfl) (gl_laws_eqByteS k q) (by kernel_rfl) rfl (fun vs m r hl h => match vs, hl with
    | [t0, t1, t5], _ => (le_laws_eqByteS_0 k q t0 t1 t5 m).trans h)
  | _ + 1, _ + 1, h => absurd h (by omega)
theorem ok_X_laws_eqByteS : OkX CT 31 X_laws_eqByteS := OkX.of_ex (cf := cf_laws_eqByteS) (np := 2) (LL := LL_laws_eqByteS) (J := (fun k => J_laws_eqByteS k QQ)) CT_ok rfl Try.func31 rfl (Nat.le_of_ble_eq_true rfl) (by decide) cok_laws_eqByteS okc_laws_eqByteS (fun k => allLoops rfl (by kernel_rfl) (gl_laws_eqByteS k QQ)) (fun args m r h => match args, h with
    | [t0, t1], h => ⟨rfl, (xe_laws_eqByteS t0 t1 m).trans h⟩)
theorem ok_C_laws_eqByteS : OkC CT 31 C_laws_eqByteS := fcall_ok rfl ok_X_laws_eqByteS

/-! ### laws.eqBoolS -/
noncomputable def cf_laws_eqBoolS : CallF := cfn
noncomputable def L_laws_eqBoolS (k : Nat) : Nat → Nat → List Value → Mem → Option VM
  | q + 1, 0, [t0, t1, t5], m =>
    (lenX t0) |> bo fun t13 =>
    (binX .lss .no t5 t13) |> bo fun t14 =>
    brX t14
      (
        (ixaX 1 t0 t5) |> bo fun t19 =>
        (ld1 m t19) |> bo fun t20 =>
        (ixaX 1 t1 t5) |> bo fun t23 =>
        (ld1 m t23) |> bo fun t24 =>
        (binX .neq .bool t20 t24) |> bo fun t25 =>
        brX t25
          (
            retK k m [t0, t1] (.bool false))
          (
            (binX .add .no t5 (.int .i64 1)) |> bo fun t16 =>
            cutK k m [t0, t1] [t0, t1, t16] (L_laws_eqBoolS k q 0)))
      (
        retK k m [t0, t1] (.bool true))
  | _, _, _, _ => none
noncomputable def J_laws_eqBoolS (k q l : Nat) : List Value → Mem → Option VM := cond (Nat.beq l 4) (L_laws_eqBoolS k q 0) (fun _ _ => none)
def LL_laws_eqBoolS : List (Nat × List Tmp) := [(4, [0, 1, 5])]
noncomputable def X_laws_eqBoolS : List Value → Mem → Option VM
  | [t0, t1], m =>
    (lenX t0) |> bo fun t7 =>
    (lenX t1) |> bo fun t9 =>
    (binX .neq .no t7 t9) |> bo fun t10 =>
    brX t10
      (
        retK m.length m [t0, t1] (.bool false))
      (
        cutK m.length m [t0, t1] [t0, t1, (.int .i64 0)] (L_laws_eqBoolS m.length QQ 0))
  | _, _ => none
noncomputable def C_laws_eqBoolS : List Value → Mem → Option VM := fcall X_laws_eqBoolS
@[simp] theorem c_laws_eqBoolS : C_laws_eqBoolS = fcall X_laws_eqBoolS := (rfl)
theorem cok_laws_eqBoolS : codeOk CT Try.f66 (Try.f66.body.get rfl) = true := by kernel_rfl
theorem xe_laws_eqBoolS (t0 t1 : Value) (m : Mem) : ex CT cf_laws_eqBoolS Try.f66 2 m.length LL_laws_eqBoolS (J_laws_eqBoolS m.length QQ) 400 [.code (Try.f66.body.get rfl)] (argsT 0 [t0, t1]) m = X_laws_eqBoolS [t0, t1] m := by kernel_rfl
theorem okc_laws_eqBoolS : CallOK CT cf_laws_eqBoolS := cfn_ok
theorem le_laws_eqBoolS_0 (k q : Nat) (t0 t1 t5 : Value) (m : Mem) : ex CT cf_laws_eqBoolS Try.f66 2 k LL_laws_eqBoolS (J_laws_eqBoolS k q) 400 (atLoop Try.f66 0) [(0, t0), (1, t1), (5, t5)] m = J_laws_eqBoolS k (q + 1) 4 [t0, t1, t5] m := by kernel_rfl
theorem gl_laws_eqBoolS (k : Nat) : ∀ q i, i < 1 → GoodL CT k Try.f66 LL_laws_eqBoolS (J_laws_eqBoolS k q) (atLoop Try.f66 i)
  | 0, 0, _ => goodL_zero (l := 4) (by kernel_rfl) (fun vs m => by kernel_rfl)
  | 0, _ + 1, h => absurd h (by omega)
  | q + 1, 0, _ => goodL_succ (np := 2) (l := 4) (live := [0, 1, 5]) (n := 1) CT_ok rfl okc_laws_eqBoolS (c := (Try.f66.body.get rfl)) rfl cok_laws_eqBoolS (by kernel_rfl) (gl_laws_eqBoolS k q) (by kernel_rfl) rfl (fun vs m r hl h => match vs, hl with
    | [t0, t1, t5], _ => (le_laws_eqBoolS_0 k q t0 t1 t5 m).trans h)
  | _ + 1, _ + 1, h => absurd h (by omega)
theorem ok_X_laws_eqBoolS : OkX CT 66 X_laws_eqBoolS := OkX.of_ex (cf := cf_laws_eqBoolS) (np := 2) (LL := LL_laws_eqBoolS) (J := (fun k => J_laws_eqBoolS k QQ)) CT_ok rfl Try.func66 rfl (Nat.le_of_ble_eq_true rfl) (by decide) cok_laws_eqBoolS okc_laws_eqBoolS (fun k => allLoops rfl (by kernel_rfl) (gl_laws_eqBoolS k QQ)) (fun args m r h => match args, h with
    | [t0, t1], h => ⟨rfl, (xe_laws_eqBoolS t0 t1 m).trans h⟩)
theorem ok_C_laws_eqBoolS : OkC CT 66 C_laws_eqBoolS := fcall_ok rfl ok_X_laws_eqBoolS

/-! ### laws.eqCell -/
noncomputable def cf_laws_eqCell : CallF := cfn
noncomputable def X_laws_eqCell : List Value → Mem → Option VM
  | [t0, t1], m =>
    (boxX m t0) |> bo fun r1 =>
    (boxX r1.2 t1) |> bo fun r2 =>
    (fadX 0 r1.1) |> bo fun t5 =>
    (ld1 r2.2 t5) |> bo fun t6 =>
    (fadX 0 r2.1) |> bo fun t7 =>
    (ld1 r2.2 t7) |> bo fun t8 =>
    (binX .neq .no t6 t8) |> bo fun t9 =>
    brX t9
      (
        retK m.length r2.2 [t0, t1] (.bool false))
      (
        (fadX 1 r1.1) |> bo fun t10 =>
        (ld1 r2.2 t10) |> bo fun t11 =>
        (fadX 1 r2.1) |> bo fun t12 =>
        (ld1 r2.2 t12) |> bo fun t13 =>
        (binX .neq .no t11 t13) |> bo fun t14 =>
        brX t14
          (
            retK m.length r2.2 [t0, t1] (.bool false))
          (
            retK m.length r2.2 [t0, t1] (.bool true)))
  | _, _ => none
noncomputable def C_laws_eqCell : List Value → Mem → Option VM := fcall X_laws_eqCell
@[simp] theorem c_laws_eqCell : C_laws_eqCell = fcall X_laws_eqCell := (rfl)
theorem cok_laws_eqCell : codeOk CT Try.f157 (Try.f157.body.get rfl) = true := by kernel_rfl
theorem xe_laws_eqCell (t0 t1 : Value) (m : Mem) : ex CT cf_laws_eqCell Try.f157 2 m.length [] (fun _ _ _ => none) 400 [.code (Try.f157.body.get rfl)] (argsT 0 [t0, t1]) m = X_laws_eqCell [t0, t1] m := by kernel_rfl
theorem okc_laws_eqCell : CallOK CT cf_laws_eqCell := cfn_ok
theorem ok_X_laws_eqCell : OkX CT 157 X_laws_eqCell := OkX.of_ex (cf := cf_laws_eqCell) (np := 2) (LL := []) (J := (fun _ _ _ _ => none)) CT_ok rfl Try.func157 rfl (Nat.le_of_ble_eq_true rfl) (by decide) cok_laws_eqCell okc_laws_eqCell (fun k => noLoops rfl) (fun args m r h => match args, h with
    | [t0, t1], h => ⟨rfl, (xe_laws_eqCell t0 t1 m).trans h⟩)
theorem ok_C_laws_eqCell : OkC CT 157 C_laws_eqCell := fcall_ok rfl ok_X_laws_eqCell

/-! ### laws.eqCellS -/
noncomputable def cf_laws_eqCellS : CallF := cfc 157 C_laws_eqCell cfn
noncomputable def L_laws_eqCellS (k : Nat) : Nat → Nat → List Value → Mem → Option VM
  | q + 1, 0, [t0, t1, t5], m =>
    (lenX t0) |> bo fun t13 =>
    (binX .lss .no t5 t13) |> bo fun t14 =>
    brX t14
      (
        (ixaX 2 t0 t5) |> bo fun t19 =>
        (ldS m 2 t19) |> bo fun t20 =>
        (ixaX 2 t1 t5) |> bo fun t23 =>
        (ldS m 2 t23) |> bo fun t24 =>
        (C_laws_eqCell [t20, t24] m) |> bo fun r7 =>
        (uop .not r7.1) |> bo fun t26 =>
        brX t26
          (
            retK k r7.2 [t0, t1] (.bool false))
          (
            (binX .add .no t5 (.int .i64 1)) |> bo fun t16 =>
            cutK k r7.2 [t0, t1] [t0, t1, t16] (L_laws_eqCellS k q 0)))
      (
        retK k m [t0, t1] (.bool true))
  | _, _, _, _ => none
noncomputable def J_laws_eqCellS (k q l : Nat) : List Value → Mem → Option VM := cond (Nat.beq l 4) (L_laws_eqCellS k q 0) (fun _ _ => none)
def LL_laws_eqCellS : List (Nat × List Tmp) := [(4, [0, 1, 5])]
noncomputable def X_laws_eqCellS : List Value → Mem → Option VM
  | [t0, t1], m =>
    (lenX t0) |> bo fun t7 =>
    (lenX t1) |> bo fun t9 =>
    (binX .neq .no t7 t9) |> bo fun t10 =>
    brX t10
      (
        retK m.length m [t0, t1] (.bool false))
      (
        cutK m.length m [t0, t1] [t0, t1, (.int .i64 0)] (L_laws_eqCellS m.length QQ 0))
  | _, _ => none
noncomputable def C_laws_eqCellS : List Value → Mem → Option VM := fcall X_laws_eqCellS
@[simp] theorem c_laws_eqCellS : C_laws_eqCellS = fcall X_laws_eqCellS := (rfl)
theorem cok_laws_eqCellS : codeOk CT Try.f115 (Try.f115.body.get rfl) = true := by kernel_rfl
theorem xe_laws_eqCellS (t0 t1 : Value) (m : Mem) : ex CT cf_laws_eqCellS Try.f115 2 m.length LL_laws_eqCellS (J_laws_eqCellS m.length QQ) 400 [.code (Try.f115.body.get rfl)] (argsT 0 [t0, t1]) m = X_laws_eqCellS [t0, t1] m := by kernel_rfl
theorem okc_laws_eqCellS : CallOK CT cf_laws_eqCellS := cfc_ok ok_C_laws_eqCell cfn_ok
theorem le_laws_eqCellS_0 (k q : Nat) (t0 t1 t5 : Value) (m : Mem) : ex CT cf_laws_eqCellS Try.f115 2 k LL_laws_eqCellS (J_laws_eqCellS k q) 400 (atLoop Try.f115 0) [(0, t0), (1, t1), (5, t5)] m = J_laws_eqCellS k (q + 1) 4 [t0, t1, t5] m := by kernel_rfl
theorem gl_laws_eqCellS (k : Nat) : ∀ q i, i < 1 → GoodL CT k Try.f115 LL_laws_eqCellS (J_laws_eqCellS k q) (atLoop Try.f115 i)
  | 0, 0, _ => goodL_zero (l := 4) (by kernel_rfl) (fun vs m => by kernel_rfl)
  | 0, _ + 1, h => absurd h (by omega)
  | q + 1, 0, _ => goodL_succ (np := 2) (l := 4) (live := [0, 1, 5]) (n := 1) CT_ok rfl okc_laws_eqCellS (c := (Try.f115.body.get rfl)) rfl cok_laws_eqCellS (by kernel_rfl) (gl_laws_eqCellS k q) (by kernel_rfl) rfl (fun vs m r hl h => match vs, hl with
    | [t0, t1, t5], _ => (le_laws_eqCellS_0 k q t0 t1 t5 m).trans h)
  | _ + 1, _ + 1, h => absurd h (by omega)
theorem ok_X_laws_eqCellS : OkX CT 115 X_laws_eqCellS := OkX.of_ex (cf := cf_laws_eqCellS) (np := 2) (LL := LL_laws_eqCellS) (J := (fun k => J_laws_eqCellS k QQ)) CT_ok rfl Try.func115 rfl (Nat.le_of_ble_eq_true rfl) (by decide) cok_laws_eqCellS okc_laws_eqCellS (fun k => allLoops rfl (by kernel_rfl) (gl_laws_eqCellS k QQ)) (fun args m r h => match args, h with
    | [t0, t1], h => ⟨rfl, (xe_laws_eqCellS t0 t1 m).trans h⟩)
theorem ok_C_laws_eqCellS : OkC CT 115 C_laws_eqCellS := fcall_ok rfl ok_X_laws_eqCellS

/-! ### laws.eqGrid -/
noncomputable def cf_laws_eqGrid : CallF := cfc 115 C_laws_eqCellS cfn
noncomputable def X_laws_eqGrid : List Value → Mem → Option VM
  | [t0, t1], m =>
    (boxX m t0) |> bo fun r1 =>
    (boxX r1.2 t1) |> bo fun r2 =>
    (fadX 0 r1.1) |> bo fun t5 =>
    (ld1 r2.2 t5) |> bo fun t6 =>
    (fadX 0 r2.1) |> bo fun t7 =>
    (ld1 r2.2 t7) |> bo fun t8 =>
    (binX .neq .no t6 t8) |> bo fun t9 =>
    brX t9
      (
        retK m.length r2.2 [t0, t1] (.bool false))
      (
        (fadX 1 r1.1) |> bo fun t10 =>
        (ld1 r2.2 t10) |> bo fun t11 =>
        (fadX 1 r2.1) |> bo fun t12 =>
        (ld1 r2.2 t12) |> bo fun t13 =>
        (binX .neq .no t11 t13) |> bo fun t14 =>
        brX t14
          (
            retK m.length r2.2 [t0, t1] (.bool false))
          (
            (fadX 2 r1.1) |> bo fun t15 =>
            (ld1 r2.2 t15) |> bo fun t16 =>
            (fadX 2 r2.1) |> bo fun t17 =>
            (ld1 r2.2 t17) |> bo fun t18 =>
            (C_laws_eqCellS [t16, t18] r2.2) |> bo fun r17 =>
            (uop .not r17.1) |> bo fun t20 =>
            brX t20
              (
                retK m.length r17.2 [t0, t1] (.bool false))
              (
                (fadX 3 r1.1) |> bo fun t21 =>
                (ld1 r17.2 t21) |> bo fun t22 =>
                (fadX 3 r2.1) |> bo fun t23 =>
                (ld1 r17.2 t23) |> bo fun t24 =>
                (C_laws_eqCellS [t22, t24] r17.2) |> bo fun r23 =>
                (uop .not r23.1) |> bo fun t26 =>
                brX t26
                  (
                    retK m.length r23.2 [t0, t1] (.bool false))
                  (
                    retK m.length r23.2 [t0, t1] (.bool true)))))
  | _, _ => none
noncomputable def C_laws_eqGrid : List Value → Mem → Option VM := fcall X_laws_eqGrid
@[simp] theorem c_laws_eqGrid : C_laws_eqGrid = fcall X_laws_eqGrid := (rfl)
theorem cok_laws_eqGrid : codeOk CT Try.f65 (Try.f65.body.get rfl) = true := by kernel_rfl
theorem xe_laws_eqGrid (t0 t1 : Value) (m : Mem) : ex CT cf_laws_eqGrid Try.f65 2 m.length [] (fun _ _ _ => none) 400 [.code (Try.f65.body.get rfl)] (argsT 0 [t0, t1]) m = X_laws_eqGrid [t0, t1] m := by kernel_rfl
theorem okc_laws_eqGrid : CallOK CT cf_laws_eqGrid := cfc_ok ok_C_laws_eqCellS cfn_ok
theorem ok_X_laws_eqGrid : OkX CT 65 X_laws_eqGrid := OkX.of_ex (cf := cf_laws_eqGrid) (np := 2) (LL := []) (J := (fun _ _ _ _ => none)) CT_ok rfl Try.func65 rfl (Nat.le_of_ble_eq_true rfl) (by decide) cok_laws_eqGrid okc_laws_eqGrid (fun k => noLoops rfl) (fun args m r h => match args, h with
    | [t0, t1], h => ⟨rfl, (xe_laws_eqGrid t0 t1 m).trans h⟩)
theorem ok_C_laws_eqGrid : OkC CT 65 C_laws_eqGrid := fcall_ok rfl ok_X_laws_eqGrid

/-! ### laws.eqInt64S -/
noncomputable def cf_laws_eqInt64S : CallF := cfn
noncomputable def L_laws_eqInt64S (k : Nat) : Nat → Nat → List Value → Mem → Option VM
  | q + 1, 0, [t0, t1, t5], m =>
    (lenX t0) |> bo fun t13 =>
    (binX .lss .no t5 t13) |> bo fun t14 =>
    brX t14
      (
        (ixaX 1 t0 t5) |> bo fun t19 =>
        (ld1 m t19) |> bo fun t20 =>
        (ixaX 1 t1 t5) |> bo fun t23 =>
        (ld1 m t23) |> bo fun t24 =>
        (binX .neq .no t20 t24) |> bo fun t25 =>
        brX t25
          (
            retK k m [t0, t1] (.bool false))
          (
            (binX .add .no t5 (.int .i64 1)) |> bo fun t16 =>
            cutK k m [t0, t1] [t0, t1, t16] (L_laws_eqInt64S k q 0)))
      (
        retK k m [t0, t1] (.bool true))
  | _, _, _, _ => none
noncomputable def J_laws_eqInt64S (k q l : Nat) : List Value → Mem → Option VM := cond (Nat.beq l 4) (L_laws_eqInt64S k q 0) (fun _ _ => none)
def LL_laws_eqInt64S : List (Nat × List Tmp) := [(4, [0, 1, 5])]
noncomputable def X_laws_eqInt64S : List Value → Mem → Option VM
  | [t0, t1], m =>
    (lenX t0) |> bo fun t7 =>
    (lenX t1) |> bo fun t9 =>
    (binX .neq .no t7 t9) |> bo fun t10 =>
    brX t10
      (
        retK m.length m [t0, t1] (.bool false))
      (
        cutK m.length m [t0, t1] [t0, t1, (.int .i64 0)] (L_laws_eqInt64S m.length QQ 0))
  | _, _ => none
noncomputable def C_laws_eqInt64S : List Value → Mem → Option VM := fcall X_laws_eqInt64S
@[simp] theorem c_laws_eqInt64S : C_laws_eqInt64S = fcall X_laws_eqInt64S := (rfl)
theorem cok_laws_eqInt64S : codeOk CT Try.f67 (Try.f67.body.get rfl) = true := by kernel_rfl
theorem xe_laws_eqInt64S (t0 t1 : Value) (m : Mem) : ex CT cf_laws_eqInt64S Try.f67 2 m.length LL_laws_eqInt64S (J_laws_eqInt64S m.length QQ) 400 [.code (Try.f67.body.get rfl)] (argsT 0 [t0, t1]) m = X_laws_eqInt64S [t0, t1] m := by kernel_rfl
theorem okc_laws_eqInt64S : CallOK CT cf_laws_eqInt64S := cfn_ok
theorem le_laws_eqInt64S_0 (k q : Nat) (t0 t1 t5 : Value) (m : Mem) : ex CT cf_laws_eqInt64S Try.f67 2 k LL_laws_eqInt64S (J_laws_eqInt64S k q) 400 (atLoop Try.f67 0) [(0, t0), (1, t1), (5, t5)] m = J_laws_eqInt64S k (q + 1) 4 [t0, t1, t5] m := by kernel_rfl
theorem gl_laws_eqInt64S (k : Nat) : ∀ q i, i < 1 → GoodL CT k Try.f67 LL_laws_eqInt64S (J_laws_eqInt64S k q) (atLoop Try.f67 i)
  | 0, 0, _ => goodL_zero (l := 4) (by kernel_rfl) (fun vs m => by kernel_rfl)
  | 0, _ + 1, h => absurd h (by omega)
  | q + 1, 0, _ => goodL_succ (np := 2) (l := 4) (live := [0, 1, 5]) (n := 1) CT_ok rfl okc_laws_eqInt64S (c := (Try.f67.body.get rfl)) rfl cok_laws_eqInt64S (by kernel_rfl) (gl_laws_eqInt64S k q) (by kernel_rfl) rfl (fun vs m r hl h => match vs, hl with
    | [t0, t1, t5], _ => (le_laws_eqInt64S_0 k q t0 t1 t5 m).trans h)
  | _ + 1, _ + 1, h => absurd h (by omega)
theorem ok_X_laws_eqInt64S : OkX CT 67 X_laws_eqInt64S := OkX.of_ex (cf := cf_laws_eqInt64S) (np := 2) (LL := LL_laws_eqInt64S) (J := (fun k => J_laws_eqInt64S k QQ)) CT_ok rfl Try.func67 rfl (Nat.le_of_ble_eq_true rfl) (by decide) cok_laws_eqInt64S okc_laws_eqInt64S (fun k => allLoops rfl (by kernel_rfl) (gl_laws_eqInt64S k QQ)) (fun args m r h => match args, h with
    | [t0, t1], h => ⟨rfl, (xe_laws_eqInt64S t0 t1 m).trans h⟩)
theorem ok_C_laws_eqInt64S : OkC CT 67 C_laws_eqInt64S := fcall_ok rfl ok_X_laws_eqInt64S

/-! ### laws.eqScreen -/
noncomputable def cf_laws_eqScreen : CallF := cfc 65 C_laws_eqGrid (cfc 66 C_laws_eqBoolS (cfc 67 C_laws_eqInt64S cfn))
noncomputable def X_laws_eqScreen : List Value → Mem → Option VM
  | [t0, t1], m =>
    (boxX m t0) |> bo fun r1 =>
    (boxX r1.2 t1) |> bo fun r2 =>
    (fadX 0 r1.1) |> bo fun t5 =>
    (ldS r2.2 4 t5) |> bo fun t6 =>
    (fadX 0 r2.1) |> bo fun t7 =>
    (ldS r2.2 4 t7) |> bo fun t8 =>
    (C_laws_eqGrid [t6, t8] r2.2) |> bo fun r7 =>
    (uop .not r7.1) |> bo fun t10 =>
    brX t10
      (
        retK m.length r7.2 [t0, t1] (.bool false))
      (
        (fadX 4 r1.1) |> bo fun t11 =>
        (ld1 r7.2 t11) |> bo fun t12 =>
        (fadX 4 r2.1) |> bo fun t13 =>
        (ld1 r7.2 t13) |> bo fun t14 =>
        (binX .neq .no t12 t14) |> bo fun t15 =>
        brX t15
          (
            retK m.length r7.2 [t0, t1] (.bool false))
          (
            (fadX 5 r1.1) |> bo fun t16 =>
            (ld1 r7.2 t16) |> bo fun t17 =>
            (fadX 5 r2.1) |> bo fun t18 =>
            (ld1 r7.2 t18) |> bo fun t19 =>
            (binX .neq .no t17 t19) |> bo fun t20 =>
            brX t20
              (
                retK m.length r7.2 [t0, t1] (.bool false))
              (
                (fadX 6 r1.1) |> bo fun t21 =>
                (ld1 r7.2 t21) |> bo fun t22 =>
                (fadX 6 r2.1) |> bo fun t23 =>
                (ld1 r7.2 t23) |> bo fun t24 =>
                (binX .neq .bool t22 t24) |> bo fun t25 =>
                brX t25
                  (
                    retK m.length r7.2 [t0, t1] (.bool false))
                  (
                    (fadX 7 r1.1) |> bo fun t26 =>
                    (ld1 r7.2 t26) |> bo fun t27 =>
                    (fadX 7 r2.1) |> bo fun t28 =>
                    (ld1 r7.2 t28) |> bo fun t29 =>
                    (binX .neq .no t27 t29) |> bo fun t30 =>
                    brX t30
                      (
                        retK m.length r7.2 [t0, t1] (.bool false))
                      (
                        (fadX 8 r1.1) |> bo fun t31 =>
                        (ld1 r7.2 t31) |> bo fun t32 =>
                        (fadX 8 r2.1) |> bo fun t33 =>
                        (ld1 r7.2 t33) |> bo fun t34 =>
                        (binX .neq .no t32 t34) |> bo fun t35 =>
                        brX t35
                          (
                            retK m.length r7.2 [t0, t1] (.bool false))
                          (
                            (fadX 9 r1.1) |> bo fun t36 =>
                            (ld1 r7.2 t36) |> bo fun t37 =>
                            (fadX 9 r2.1) |> bo fun t38 =>
                            (ld1 r7.2 t38) |> bo fun t39 =>
                            (binX .neq .no t37 t39) |> bo fun t40 =>
                            brX t40
                              (
                                retK m.length r7.2 [t0, t1] (.bool false))
                              (
                                (fadX 10 r1.1) |> bo fun t41 =>
                                (ld1 r7.2 t41) |> bo fun t42 =>
                                (fadX 10 r2.1) |> bo fun t43 =>
                                (ld1 r7.2 t43) |> bo fun t44 =>
                                (binX .neq .bool t42 t44) |> bo fun t45 =>
                                brX t45
                                  (
                                    retK m.length r7.2 [t0, t1] (.bool false))
                                  (
                                    (fadX 11 r1.1) |> bo fun t46 =>
                                    (ld1 r7.2 t46) |> bo fun t47 =>
                                    (fadX 11 r2.1) |> bo fun t48 =>
                                    (ld1 r7.2 t48) |> bo fun t49 =>
                                    (binX .neq .bool t47 t49) |> bo fun t50 =>
                                    brX t50
                                      (
                                        retK m.length r7.2 [t0, t1] (.bool false))
                                      (
                                        (fadX 12 r1.1) |> bo fun t51 =>
                                        (ld1 r7.2 t51) |> bo fun t52 =>
                                        (fadX 12 r2.1) |> bo fun t53 =>
                                        (ld1 r7.2 t53) |> bo fun t54 =>
                                        (binX .neq .bool t52 t54) |> bo fun t55 =>
                                        brX t55
                                          (
                                            retK m.length r7.2 [t0, t1] (.bool false))
                                          (
                                            (fadX 13 r1.1) |> bo fun t56 =>
                                            (ld1 r7.2 t56) |> bo fun t57 =>
                                            (fadX 13 r2.1) |> bo fun t58 =>
                                            (ld1 r7.2 t58) |> bo fun t59 =>
                                            (C_laws_eqBoolS [t57, t59] r7.2) |> bo fun r58 =>
                                            (uop .not r58.1) |> bo fun t61 =>
                                            brX t61
                                              (
                                                retK m.length r58.2 [t0, t1] (.bool false))
                                              (
                                                (fadX 14 r1.1) |> bo fun t62 =>
                                                (ld1 r58.2 t62) |> bo fun t63 =>
                                                (fadX 14 r2.1) |> bo fun t64 =>
                                                (ld1 r58.2 t64) |> bo fun t65 =>
                                                (binX .neq .no t63 t65) |> bo fun t66 =>
                                                brX t66
                                                  (
                                                    retK m.length r58.2 [t0, t1] (.bool false))
                                                  (
                                                    (fadX 15 r1.1) |> bo fun t67 =>
                                                    (ld1 r58.2 t67) |> bo fun t68 =>
                                                    (fadX 15 r2.1) |> bo fun t69 =>
                                                    (ld1 r58.2 t69) |> bo fun t70 =>
                                                    (binX .neq .no t68 t70) |> bo fun t71 =>
                                                    brX t71
                                                      (
                                                        retK m.length r58.2 [t0, t1] (.bool false))
                                                      (
                                                        (fadX 16 r1.1) |> bo fun t72 =>
                                                        (ld1 r58.2 t72) |> bo fun t73 =>
                                                        (fadX 16 r2.1) |> bo fun t74 =>
                                                        (ld1 r58.2 t74) |> bo fun t75 =>
                                                        (binX .neq .no t73 t75) |> bo fun t76 =>
                                                        brX t76
                                                          (
                                                            retK m.length r58.2 [t0, t1] (.bool false))
                                                          (
                                                            (fadX 17 r1.1) |> bo fun t77 =>
                                                            (ld1 r58.2 t77) |> bo fun t78 =>
                                                            (fadX 17 r2.1) |> bo fun t79 =>
                                                            (ld1 r58.2 t79) |> bo fun t80 =>
                                                            (C_laws_eqInt64S [t78, t80] r58.2) |> bo fun r79 =>
                                                            (uop .not r79.1) |> bo fun t82 =>
                                                            brX t82
                                                              (
                                                                retK m.length r79.2 [t0, t1] (.bool false))
                                                              (
                                                                (fadX 18 r1.1) |> bo fun t83 =>
                                                                (ld1 r79.2 t83) |> bo fun t84 =>
                                                                (fadX 18 r2.1) |> bo fun t85 =>
                                                                (ld1 r79.2 t85) |> bo fun t86 =>
                                                                (binX .neq .no t84 t86) |> bo fun t87 =>
                                                                brX t87
                                                                  (
                                                                    retK m.length r79.2 [t0, t1] (.bool false))
                                                                  (
                                                                    (fadX 19 r1.1) |> bo fun t88 =>
                                                                    (ld1 r79.2 t88) |> bo fun t89 =>
                                                                    (fadX 19 r2.1) |> bo fun t90 =>
                                                                    (ld1 r79.2 t90) |> bo fun t91 =>
                                                                    (binX .neq .no t89 t91) |> bo fun t92 =>
                                                                    brX t92
                                                                      (
                                                                        retK m.length r79.2 [t0, t1] (.bool false))
                                                                      (
                                                                        retK m.length r79.2 [t0, t1] (.bool true))))))))))))))))))
  | _, _ => none
noncomputable def C_laws_eqScreen : List Value → Mem → Option VM := fcall X_laws_eqScreen
@[simp] theorem c_laws_eqScreen : C_laws_eqScreen = fcall X_laws_eqScreen := (rfl)
theorem cok_laws_eqScreen : codeOk CT Try.f22 (Try.f22.body.get rfl) = true := by kernel_rfl
theorem xe_laws_eqScreen (t0 t1 : Value) (m : Mem) : ex CT cf_laws_eqScreen Try.f22 2 m.length [] (fun _ _ _ => none) 400 [.code (Try.f22.body.get rfl)] (argsT 0 [t0, t1]) m = X_laws_eqScreen [t0, t1] m := by kernel_rfl
theorem okc_laws_eqScreen : CallOK CT cf_laws_eqScreen := cfc_ok ok_C_laws_eqGrid (cfc_ok ok_C_laws_eqBoolS (cfc_ok ok_C_laws_eqInt64S cfn_ok))
theorem ok_X_laws_eqScreen : OkX CT 22 X_laws_eqScreen := OkX.of_ex (cf := cf_laws_eqScreen) (np := 2) (LL := []) (J := (fun _ _ _ _ => none)) CT_ok rfl Try.func22 rfl (Nat.le_of_ble_eq_true rfl) (by decide) cok_laws_eqScreen okc_laws_eqScreen (fun k => noLoops rfl) (fun args m r h => match args, h with
    | [t0, t1], h => ⟨rfl, (xe_laws_eqScreen t0 t1 m).trans h⟩)
theorem ok_C_laws_eqScreen : OkC CT 22 C_laws_eqScreen := fcall_ok rfl ok_X_laws_eqScreen

/-! ### laws.eqDecoder -/
noncomputable def cf_laws_eqDecoder : CallF := cfn
noncomputable def X_laws_eqDecoder : List Value → Mem → Option VM
  | [t0, t1], m =>
    (boxX m t0) |> bo fun r1 =>
    (boxX r1.2 t1) |> bo fun r2 =>
    (fadX 0 r1.1) |> bo fun t5 =>
    (ld1 r2.2 t5) |> bo fun t6 =>
    (fadX 0 r2.1) |> bo fun t7 =>
    (ld1 r2.2 t7) |> bo fun t8 =>
    (binX .neq .no t6 t8) |> bo fun t9 =>
    brX t9
      (
        retK m.length r2.2 [t0, t1] (.bool false))
      (
        (fadX 1 r1.1) |> bo fun t10 =>
        (ld1 r2.2 t10) |> bo fun t11 =>
        (fadX 1 r2.1) |> bo fun t12 =>
        (ld1 r2.2 t12) |> bo fun t13 =>
        (binX .neq .no t11 t13) |> bo fun t14 =>
        brX t14
          (
            retK m.length r2.2 [t0, t1] (.bool false))
          (
            (fadX 2 r1.1) |> bo fun t15 =>
            (ld1 r2.2 t15) |> bo fun t16 =>
            (fadX 2 r2.1) |> bo fun t17 =>
            (ld1 r2.2 t17) |> bo fun t18 =>
            (binX .neq .no t16 t18) |> bo fun t19 =>
            brX t19
              (
                retK m.length r2.2 [t0, t1] (.bool false))
              (
                retK m.length r2.2 [t0, t1] (.bool true))))
  | _, _ => none
noncomputable def C_laws_eqDecoder : List Value → Mem → Option VM := fcall X_laws_eqDecoder
@[simp] theorem c_laws_eqDecoder : C_laws_eqDecoder = fcall X_laws_eqDecoder := (rfl)
theorem cok_laws_eqDecoder : codeOk CT Try.f46 (Try.f46.body.get rfl) = true := by kernel_rfl
theorem xe_laws_eqDecoder (t0 t1 : Value) (m : Mem) : ex CT cf_laws_eqDecoder Try.f46 2 m.length [] (fun _ _ _ => none) 400 [.code (Try.f46.body.get rfl)] (argsT 0 [t0, t1]) m = X_laws_eqDecoder [t0, t1] m := by kernel_rfl
theorem okc_laws_eqDecoder : CallOK CT cf_laws_eqDecoder := cfn_ok
theorem ok_X_laws_eqDecoder : OkX CT 46 X_laws_eqDecoder := OkX.of_ex (cf := cf_laws_eqDecoder) (np := 2) (LL := []) (J := (fun _ _ _ _ => none)) CT_ok rfl Try.func46 rfl (Nat.le_of_ble_eq_true rfl) (by decide) cok_laws_eqDecoder okc_laws_eqDecoder (fun k => noLoops rfl) (fun args m r h => match args, h with
    | [t0, t1], h => ⟨rfl, (xe_laws_eqDecoder t0 t1 m).trans h⟩)
theorem ok_C_laws_eqDecoder : OkC CT 46 C_laws_eqDecoder := fcall_ok rfl ok_X_laws_eqDecoder

/-! ### laws.eqParser -/
noncomputable def cf_laws_eqParser : CallF := cfc 67 C_laws_eqInt64S cfn
noncomputable def X_laws_eqParser : List Value → Mem → Option VM
  | [t0, t1], m =>
    (boxX m t0) |> bo fun r1 =>
    (boxX r1.2 t1) |> bo fun r2 =>
    (fadX 0 r1.1) |> bo fun t5 =>
    (ld1 r2.2 t5) |> bo fun t6 =>
    (fadX 0 r2.1) |> bo fun t7 =>
    (ld1 r2.2 t7) |> bo fun t8 =>
    (binX .neq .no t6 t8) |> bo fun t9 =>
    brX t9
      (
        retK m.length r2.2 [t0, t1] (.bool false))
      (
        (fadX 1 r1.1) |> bo fun t10 =>
        (ld1 r2.2 t10) |> bo fun t11 =>
        (fadX 1 r2.1) |> bo fun t12 =>
        (ld1 r2.2 t12) |> bo fun t13 =>
        (binX .neq .no t11 t13) |> bo fun t14 =>
        brX t14
          (
            retK m.length r2.2 [t0, t1] (.bool false))
          (
            (fadX 2 r1.1) |> bo fun t15 =>
            (ld1 r2.2 t15) |> bo fun t16 =>
            (fadX 2 r2.1) |> bo fun t17 =>
            (ld1 r2.2 t17) |> bo fun t18 =>
            (binX .neq .bool t16 t18) |> bo fun t19 =>
            brX t19
              (
                retK m.length r2.2 [t0, t1] (.bool false))
              (
                (fadX 3 r1.1) |> bo fun t20 =>
                (ld1 r2.2 t20) |> bo fun t21 =>
                (fadX 3 r2.1) |> bo fun t22 =>
                (ld1 r2.2 t22) |> bo fun t23 =>
                (C_laws_eqInt64S [t21, t23] r2.2) |> bo fun r22 =>
                (uop .not r22.1) |> bo fun t25 =>
                brX t25
                  (
                    retK m.length r22.2 [t0, t1] (.bool false))
                  (
                    retK m.length r22.2 [t0, t1] (.bool true)))))
  | _, _ => none
noncomputable def C_laws_eqParser : List Value → Mem → Option VM := fcall X_laws_eqParser
@[simp] theorem c_laws_eqParser : C_laws_eqParser = fcall X_laws_eqParser := (rfl)
theorem cok_laws_eqParser : codeOk CT Try.f47 (Try.f47.body.get rfl) = true := by kernel_rfl
theorem xe_laws_eqParser (t0 t1 : Value) (m : Mem) : ex CT cf_laws_eqParser Try.f47 2 m.length [] (fun _ _ _ => none) 400 [.code (Try.f47.body.get rfl)] (argsT 0 [t0, t1]) m = X_laws_eqParser [t0, t1] m := by kernel_rfl
theorem okc_laws_eqParser : CallOK CT cf_laws_eqParser := cfc_ok ok_C_laws_eqInt64S cfn_ok
theorem ok_X_laws_eqParser : OkX CT 47 X_laws_eqParser := OkX.of_ex (cf := cf_laws_eqParser) (np := 2) (LL := []) (J := (fun _ _ _ _ => none)) CT_ok rfl Try.func47 rfl (Nat.le_of_ble_eq_true rfl) (by decide) cok_laws_eqParser okc_laws_eqParser (fun k => noLoops rfl) (fun args m r h => match args, h with
    | [t0, t1], h => ⟨rfl, (xe_laws_eqParser t0 t1 m).trans h⟩)
theorem ok_C_laws_eqParser : OkC CT 47 C_laws_eqParser := fcall_ok rfl ok_X_laws_eqParser

/-! ### laws.eqVt -/
noncomputable def cf_laws_eqVt : CallF := cfc 22 C_laws_eqScreen (cfc 46 C_laws_eqDecoder (cfc 47 C_laws_eqParser cfn))
noncomputable def X_laws_eqVt : List Value → Mem → Option VM
  | [t0, t1], m =>
    (boxX m t0) |> bo fun r1 =>
    (boxX r1.2 t1) |> bo fun r2 =>
    (fadX 0 r1.1) |> bo fun t5 =>
    (ldS r2.2 3 t5) |> bo fun t6 =>
    (fadX 0 r2.1) |> bo fun t7 =>
    (ldS r2.2 3 t7) |> bo fun t8 =>
    (C_laws_eqDecoder [t6, t8] r2.2) |> bo fun r7 =>
    (uop .not r7.1) |> bo fun t10 =>
    brX t10
      (
        retK m.length r7.2 [t0, t1] (.bool false))
      (
        (fadX 3 r1.1) |> bo fun t11 =>
        (ldS r7.2 4 t11) |> bo fun t12 =>
        (fadX 3 r2.1) |> bo fun t13 =>
        (ldS r7.2 4 t13) |> bo fun t14 =>
        (C_laws_eqParser [t12, t14] r7.2) |> bo fun r13 =>
        (uop .not r13.1) |> bo fun t16 =>
        brX t16
          (
            retK m.length r13.2 [t0, t1] (.bool false))
          (
            (fadX 7 r1.1) |> bo fun t17 =>
            (ldS r13.2 20 t17) |> bo fun t18 =>
            (fadX 7 r2.1) |> bo fun t19 =>
            (ldS r13.2 20 t19) |> bo fun t20 =>
            (C_laws_eqScreen [t18, t20] r13.2) |> bo fun r19 =>
            (uop .not r19.1) |> bo fun t22 =>
            brX t22
              (
                retK m.length r19.2 [t0, t1] (.bool false))
              (
                retK m.length r19.2 [t0, t1] (.bool true))))
  | _, _ => none
noncomputable def C_laws_eqVt : List Value → Mem → Option VM := fcall X_laws_eqVt
@[simp] theorem c_laws_eqVt : C_laws_eqVt = fcall X_laws_eqVt := (rfl)
theorem cok_laws_eqVt : codeOk CT Try.f16 (Try.f16.body.get rfl) = true := by kernel_rfl
theorem xe_laws_eqVt (t0 t1 : Value) (m : Mem) : ex CT cf_laws_eqVt Try.f16 2 m.length [] (fun _ _ _ => none) 400 [.code (Try.f16.body.get rfl)] (argsT 0 [t0, t1]) m = X_laws_eqVt [t0, t1] m := by kernel_rfl
theorem okc_laws_eqVt : CallOK CT cf_laws_eqVt := cfc_ok ok_C_laws_eqScreen (cfc_ok ok_C_laws_eqDecoder (cfc_ok ok_C_laws_eqParser cfn_ok))
theorem ok_X_laws_eqVt : OkX CT 16 X_laws_eqVt := OkX.of_ex (cf := cf_laws_eqVt) (np := 2) (LL := []) (J := (fun _ _ _ _ => none)) CT_ok rfl Try.func16 rfl (Nat.le_of_ble_eq_true rfl) (by decide) cok_laws_eqVt okc_laws_eqVt (fun k => noLoops rfl) (fun args m r h => match args, h with
    | [t0, t1], h => ⟨rfl, (xe_laws_eqVt t0 t1 m).trans h⟩)
theorem ok_C_laws_eqVt : OkC CT 16 C_laws_eqVt := fcall_ok rfl ok_X_laws_eqVt

/-! ### laws.eqWay -/
noncomputable def cf_laws_eqWay : CallF := cfn
noncomputable def X_laws_eqWay : List Value → Mem → Option VM
  | [t0, t1], m =>
    (boxX m t0) |> bo fun r1 =>
    (boxX r1.2 t1) |> bo fun r2 =>
    (fadX 0 r1.1) |> bo fun t5 =>
    (ld1 r2.2 t5) |> bo fun t6 =>
    (fadX 0 r2.1) |> bo fun t7 =>
    (ld1 r2.2 t7) |> bo fun t8 =>
    (binX .neq .no t6 t8) |> bo fun t9 =>
    brX t9
      (
        retK m.length r2.2 [t0, t1] (.bool false))
      (
        (fadX 1 r1.1) |> bo fun t10 =>
        (ld1 r2.2 t10) |> bo fun t11 =>
        (fadX 1 r2.1) |> bo fun t12 =>
        (ld1 r2.2 t12) |> bo fun t13 =>
        (binX .neq .no t11 t13) |> bo fun t14 =>
        brX t14
          (
            retK m.length r2.2 [t0, t1] (.bool false))
          (
            (fadX 2 r1.1) |> bo fun t15 =>
            (ld1 r2.2 t15) |> bo fun t16 =>
            (fadX 2 r2.1) |> bo fun t17 =>
            (ld1 r2.2 t17) |> bo fun t18 =>
            (binX .neq .no t16 t18) |> bo fun t19 =>
            brX t19
              (
                retK m.length r2.2 [t0, t1] (.bool false))
              (
                (fadX 3 r1.1) |> bo fun t20 =>
                (ld1 r2.2 t20) |> bo fun t21 =>
                (fadX 3 r2.1) |> bo fun t22 =>
                (ld1 r2.2 t22) |> bo fun t23 =>
                (binX .neq .no t21 t23) |> bo fun t24 =>
                brX t24
                  (
                    retK m.length r2.2 [t0, t1] (.bool false))
                  (
                    (fadX 4 r1.1) |> bo fun t25 =>
                    (ld1 r2.2 t25) |> bo fun t26 =>
                    (fadX 4 r2.1) |> bo fun t27 =>
                    (ld1 r2.2 t27) |> bo fun t28 =>
                    (binX .neq .no t26 t28) |> bo fun t29 =>
                    brX t29
                      (
                        retK m.length r2.2 [t0, t1] (.bool false))
                      (
                        (fadX 5 r1.1) |> bo fun t30 =>
                        (ld1 r2.2 t30) |> bo fun t31 =>
                        (fadX 5 r2.1) |> bo fun t32 =>
                        (ld1 r2.2 t32) |> bo fun t33 =>
                        (binX .neq .no t31 t33) |> bo fun t34 =>
                        brX t34
                          (
                            retK m.length r2.2 [t0, t1] (.bool false))
                          (
                            (fadX 6 r1.1) |> bo fun t35 =>
                            (ld1 r2.2 t35) |> bo fun t36 =>
                            (fadX 6 r2.1) |> bo fun t37 =>
                            (ld1 r2.2 t37) |> bo fun t38 =>
                            (binX .neq .no t36 t38) |> bo fun t39 =>
                            brX t39
                              (
                                retK m.length r2.2 [t0, t1] (.bool false))
                              (
                                retK m.length r2.2 [t0, t1] (.bool true))))))))
  | _, _ => none
noncomputable def C_laws_eqWay : List Value → Mem → Option VM := fcall X_laws_eqWay
@[simp] theorem c_laws_eqWay : C_laws_eqWay = fcall X_laws_eqWay := (rfl)
theorem cok_laws_eqWay : codeOk CT Try.f158 (Try.f158.body.get rfl) = true := by kernel_rfl
theorem xe_laws_eqWay (t0 t1 : Value) (m : Mem) : ex CT cf_laws_eqWay Try.f158 2 m.length [] (fun _ _ _ => none) 400 [.code (Try.f158.body.get rfl)] (argsT 0 [t0, t1]) m = X_laws_eqWay [t0, t1] m := by kernel_rfl
theorem okc_laws_eqWay : CallOK CT cf_laws_eqWay := cfn_ok
theorem ok_X_laws_eqWay : OkX CT 158 X_laws_eqWay := OkX.of_ex (cf := cf_laws_eqWay) (np := 2) (LL := []) (J := (fun _ _ _ _ => none)) CT_ok rfl Try.func158 rfl (Nat.le_of_ble_eq_true rfl) (by decide) cok_laws_eqWay okc_laws_eqWay (fun k => noLoops rfl) (fun args m r h => match args, h with
    | [t0, t1], h => ⟨rfl, (xe_laws_eqWay t0 t1 m).trans h⟩)
theorem ok_C_laws_eqWay : OkC CT 158 C_laws_eqWay := fcall_ok rfl ok_X_laws_eqWay

/-! ### laws.eqByteSS -/
noncomputable def cf_laws_eqByteSS : CallF := cfc 31 C_laws_eqByteS cfn
noncomputable def L_laws_eqByteSS (k : Nat) : Nat → Nat → List Value → Mem → Option VM
  | q + 1, 0, [t0, t1, t5], m =>
    (lenX t0) |> bo fun t13 =>
    (binX .lss .no t5 t13) |> bo fun t14 =>
    brX t14
      (
        (ixaX 1 t0 t5) |> bo fun t19 =>
        (ld1 m t19) |> bo fun t20 =>
        (ixaX 1 t1 t5) |> bo fun t23 =>
        (ld1 m t23) |> bo fun t24 =>
        (C_laws_eqByteS [t20, t24] m) |> bo fun r7 =>
        (uop .not r7.1) |> bo fun t26 =>
        brX t26
          (
            retK k r7.2 [t0, t1] (.bool false))
          (
            (binX .add .no t5 (.int .i64 1)) |> bo fun t16 =>
            cutK k r7.2 [t0, t1] [t0, t1, t16] (L_laws_eqByteSS k q 0)))
      (
        retK k m [t0, t1] (.bool true))
  | _, _, _, _ => none
noncomputable def J_laws_eqByteSS (k q l : Nat) : List Value → Mem → Option VM := cond (Nat.beq l 4) (L_laws_eqByteSS k q 0) (fun _ _ => none)
def LL_laws_eqByteSS : List (Nat × List Tmp) := [(4, [0, 1, 5])]
noncomputable def X_laws_eqByteSS : List Value → Mem → Option VM
  | [t0, t1], m =>
    (lenX t0) |> bo fun t7 =>
    (lenX t1) |> bo fun t9 =>
    (binX .neq .no t7 t9) |> bo fun t10 =>
    brX t10
      (
        retK m.length m [t0, t1] (.bool false))
      (
        cutK m.length m [t0, t1] [t0, t1, (.int .i64 0)] (L_laws_eqByteSS m.length QQ 0))
  | _, _ => none
noncomputable def C_laws_eqByteSS : List Value → Mem → Option VM := fcall X_laws_eqByteSS
@[simp] theorem c_laws_eqByteSS : C_laws_eqByteSS = fcall X_laws_eqByteSS := (rfl)
theorem cok_laws_eqByteSS : codeOk CT Try.f170 (Try.f170.body.get rfl) = true := by kernel_rfl
theorem xe_laws_eqByteSS (t0 t1 : Value) (m : Mem) : ex CT cf_laws_eqByteSS Try.f170 2 m.length LL_laws_eqByteSS (J_laws_eqByteSS m.length QQ) 400 [.code (Try.f170.body.get rfl)] (argsT 0 [t0, t1]) m = X_laws_eqByteSS [t0, t1] m := by kernel_rfl
theorem okc_laws_eqByteSS : CallOK CT cf_laws_eqByteSS := cfc_ok ok_C_laws_eqByteS cfn_ok
theorem le_laws_eqByteSS_0 (k q : Nat) (t0 t1 t5 : Value) (m : Mem) : ex CT cf_laws_eqByteSS Try.f170 2 k LL_laws_eqByteSS (J_laws_eqByteSS k q) 400 (atLoop Try.f170 0) [(0, t0), (1, t1), (5, t5)] m = J_laws_eqByteSS k (q + 1) 4 [t0, t1, t5] m := by kernel_rfl
theorem gl_laws_eqByteSS (k : Nat) : ∀ q i, i < 1 → GoodL CT k Try.f170 LL_laws_eqByteSS (J_laws_eqByteSS k q) (atLoop Try.f170 i)
  | 0, 0, _ => goodL_zero (l := 4) (by kernel_rfl) (fun vs m => by kernel_rfl)
  | 0, _ + 1, h => absurd h (by omega)
  | q + 1, 0, _ => goodL_succ (np := 2) (l := 4) (live := [0, 1, 5]) (n := 1) CT_ok rfl okc_laws_eqByteSS (c := (Try.f170.body.get rfl)) rfl cok_laws_eqByteSS (by kernel_rfl) (gl_laws_eqByteSS k q) (by kernel_rfl) rfl (fun vs m r hl h => match vs, hl with
    | [t0, t1, t5], _ => (le_laws_eqByteSS_0 k q t0 t1 t5 m).trans h)
  | _ + 1, _ + 1, h => absurd h (by omega)
theorem ok_X_laws_eqByteSS : OkX CT 170 X_laws_eqByteSS := OkX.of_ex (cf := cf_laws_eqByteSS) (np := 2) (LL := LL_laws_eqByteSS) (J := (fun k => J_laws_eqByteSS k QQ)) CT_ok rfl Try.func170 rfl (Nat.le_of_ble_eq_true rfl) (by decide) cok_laws_eqByteSS okc_laws_eqByteSS (fun k => allLoops rfl (by kernel_rfl) (gl_laws_eqByteSS k QQ)) (fun args m r h => match args, h with
    | [t0, t1], h => ⟨rfl, (xe_laws_eqByteSS t0 t1 m).trans h⟩)
theorem ok_C_laws_eqByteSS : OkC CT 170 C_laws_eqByteSS := fcall_ok rfl ok_X_laws_eqByteSS

/-! ### laws.eqLine -/
noncomputable def cf_laws_eqLine : CallF := cfc 31 C_laws_eqByteS (cfc 170 C_laws_eqByteSS cfn)
noncomputable def X_laws_eqLine : List Value → Mem → Option VM
  | [t0, t1], m =>
    (boxX m t0) |> bo fun r1 =>
    (boxX r1.2 t1) |> bo fun r2 =>
    (fadX 0 r1.1) |> bo fun t5 =>
    (ld1 r2.2 t5) |> bo fun t6 =>
    (fadX 0 r2.1) |> bo fun t7 =>
    (ld1 r2.2 t7) |> bo fun t8 =>
    (C_laws_eqByteSS [t6, t8] r2.2) |> bo fun r7 =>
    (uop .not r7.1) |> bo fun t10 =>
    brX t10
      (
        retK m.length r7.2 [t0, t1] (.bool false))
      (
        (fadX 1 r1.1) |> bo fun t11 =>
        (ld1 r7.2 t11) |> bo fun t12 =>
        (fadX 1 r2.1) |> bo fun t13 =>
        (ld1 r7.2 t13) |> bo fun t14 =>
        (C_laws_eqByteS [t12, t14] r7.2) |> bo fun r13 =>
        (uop .not r13.1) |> bo fun t16 =>
        brX t16
          (
            retK m.length r13.2 [t0, t1] (.bool false))
          (
            (fadX 2 r1.1) |> bo fun t17 =>
            (ld1 r13.2 t17) |> bo fun t18 =>
            (fadX 2 r2.1) |> bo fun t19 =>
            (ld1 r13.2 t19) |> bo fun t20 =>
            (binX .neq .bool t18 t20) |> bo fun t21 =>
            brX t21
              (
                retK m.length r13.2 [t0, t1] (.bool false))
              (
                (fadX 3 r1.1) |> bo fun t22 =>
                (ld1 r13.2 t22) |> bo fun t23 =>
                (fadX 3 r2.1) |> bo fun t24 =>
                (ld1 r13.2 t24) |> bo fun t25 =>
                (binX .neq .no t23 t25) |> bo fun t26 =>
                brX t26
                  (
                    retK m.length r13.2 [t0, t1] (.bool false))
                  (
                    retK m.length r13.2 [t0, t1] (.bool true)))))
  | _, _ => none
noncomputable def C_laws_eqLine : List Value → Mem → Option VM := fcall X_laws_eqLine
@[simp] theorem c_laws_eqLine : C_laws_eqLine = fcall X_laws_eqLine := (rfl)
theorem cok_laws_eqLine : codeOk CT Try.f159 (Try.f159.body.get rfl) = true := by kernel_rfl
theorem xe_laws_eqLine (t0 t1 : Value) (m : Mem) : ex CT cf_laws_eqLine Try.f159 2 m.length [] (fun _ _ _ => none) 400 [.code (Try.f159.body.get rfl)] (argsT 0 [t0, t1]) m = X_laws_eqLine [t0, t1] m := by kernel_rfl
theorem okc_laws_eqLine : CallOK CT cf_laws_eqLine := cfc_ok ok_C_laws_eqByteS (cfc_ok ok_C_laws_eqByteSS cfn_ok)
theorem ok_X_laws_eqLine : OkX CT 159 X_laws_eqLine := OkX.of_ex (cf := cf_laws_eqLine) (np := 2) (LL := []) (J := (fun _ _ _ _ => none)) CT_ok rfl Try.func159 rfl (Nat.le_of_ble_eq_true rfl) (by decide) cok_laws_eqLine okc_laws_eqLine (fun k => noLoops rfl) (fun args m r h => match args, h with
    | [t0, t1], h => ⟨rfl, (xe_laws_eqLine t0 t1 m).trans h⟩)
theorem ok_C_laws_eqLine : OkC CT 159 C_laws_eqLine := fcall_ok rfl ok_X_laws_eqLine

/-! ### laws.eqConsole -/
noncomputable def cf_laws_eqConsole : CallF := cfc 16 C_laws_eqVt (cfc 158 C_laws_eqWay (cfc 159 C_laws_eqLine cfn))
noncomputable def X_laws_eqConsole : List Value → Mem → Option VM
  | [t0, t1], m =>
    (boxX m t0) |> bo fun r1 =>
    (boxX r1.2 t1) |> bo fun r2 =>
    (fadX 0 r1.1) |> bo fun t5 =>
    (ldS r2.2 27 t5) |> bo fun t6 =>
    (fadX 0 r2.1) |> bo fun t7 =>
    (ldS r2.2 27 t7) |> bo fun t8 =>
    (C_laws_eqVt [t6, t8] r2.2) |> bo fun r7 =>
    (uop .not r7.1) |> bo fun t10 =>
    brX t10
      (
        retK m.length r7.2 [t0, t1] (.bool false))
      (
        (fadX 27 r1.1) |> bo fun t11 =>
        (ldS r7.2 7 t11) |> bo fun t12 =>
        (fadX 27 r2.1) |> bo fun t13 =>
        (ldS r7.2 7 t13) |> bo fun t14 =>
        (C_laws_eqWay [t12, t14] r7.2) |> bo fun r13 =>
        (uop .not r13.1) |> bo fun t16 =>
        brX t16
          (
            retK m.length r13.2 [t0, t1] (.bool false))
          (
            (fadX 34 r1.1) |> bo fun t17 =>
            (ldS r13.2 4 t17) |> bo fun t18 =>
            (fadX 34 r2.1) |> bo fun t19 =>
            (ldS r13.2 4 t19) |> bo fun t20 =>
            (C_laws_eqLine [t18, t20] r13.2) |> bo fun r19 =>
            (uop .not r19.1) |> bo fun t22 =>
            brX t22
              (
                retK m.length r19.2 [t0, t1] (.bool false))
              (
                retK m.length r19.2 [t0, t1] (.bool true))))
  | _, _ => none
noncomputable def C_laws_eqConsole : List Value → Mem → Option VM := fcall X_laws_eqConsole
@[simp] theorem c_laws_eqConsole : C_laws_eqConsole = fcall X_laws_eqConsole := (rfl)
theorem cok_laws_eqConsole : codeOk CT Try.f120 (Try.f120.body.get rfl) = true := by kernel_rfl
theorem xe_laws_eqConsole (t0 t1 : Value) (m : Mem) : ex CT cf_laws_eqConsole Try.f120 2 m.length [] (fun _ _ _ => none) 400 [.code (Try.f120.body.get rfl)] (argsT 0 [t0, t1]) m = X_laws_eqConsole [t0, t1] m := by kernel_rfl
theorem okc_laws_eqConsole : CallOK CT cf_laws_eqConsole := cfc_ok ok_C_laws_eqVt (cfc_ok ok_C_laws_eqWay (cfc_ok ok_C_laws_eqLine cfn_ok))
theorem ok_X_laws_eqConsole : OkX CT 120 X_laws_eqConsole := OkX.of_ex (cf := cf_laws_eqConsole) (np := 2) (LL := []) (J := (fun _ _ _ _ => none)) CT_ok rfl Try.func120 rfl (Nat.le_of_ble_eq_true rfl) (by decide) cok_laws_eqConsole okc_laws_eqConsole (fun k => noLoops rfl) (fun args m r h => match args, h with
    | [t0, t1], h => ⟨rfl, (xe_laws_eqConsole t0 t1 m).trans h⟩)
theorem ok_C_laws_eqConsole : OkC CT 120 C_laws_eqConsole := fcall_ok rfl ok_X_laws_eqConsole

/-! ### laws.eqConsoleS -/
noncomputable def cf_laws_eqConsoleS : CallF := cfc 120 C_laws_eqConsole cfn
noncomputable def L_laws_eqConsoleS (k : Nat) : Nat → Nat → List Value → Mem → Option VM
  | q + 1, 0, [t0, t1, t5], m =>
    (lenX t0) |> bo fun t13 =>
    (binX .lss .no t5 t13) |> bo fun t14 =>
    brX t14
      (
        (ixaX 38 t0 t5) |> bo fun t19 =>
        (ldS m 38 t19) |> bo fun t20 =>
        (ixaX 38 t1 t5) |> bo fun t23 =>
        (ldS m 38 t23) |> bo fun t24 =>
        (C_laws_eqConsole [t20, t24] m) |> bo fun r7 =>
        (uop .not r7.1) |> bo fun t26 =>
        brX t26
          (
            retK k r7.2 [t0, t1] (.bool false))
          (
            (binX .add .no t5 (.int .i64 1)) |> bo fun t16 =>
            cutK k r7.2 [t0, t1] [t0, t1, t16] (L_laws_eqConsoleS k q 0)))
      (
        retK k m [t0, t1] (.bool true))
  | _, _, _, _ => none
noncomputable def J_laws_eqConsoleS (k q l : Nat) : List Value → Mem → Option VM := cond (Nat.beq l 4) (L_laws_eqConsoleS k q 0) (fun _ _ => none)
def LL_laws_eqConsoleS : List (Nat × List Tmp) := [(4, [0, 1, 5])]
noncomputable def X_laws_eqConsoleS : List Value → Mem → Option VM
  | [t0, t1], m =>
    (lenX t0) |> bo fun t7 =>
    (lenX t1) |> bo fun t9 =>
    (binX .neq .no t7 t9) |> bo fun t10 =>
    brX t10
      (
        retK m.length m [t0, t1] (.bool false))
      (
        cutK m.length m [t0, t1] [t0, t1, (.int .i64 0)] (L_laws_eqConsoleS m.length QQ 0))
  | _, _ => none
noncomputable def C_laws_eqConsoleS : List Value → Mem → Option VM := fcall X_laws_eqConsoleS
@[simp] theorem c_laws_eqConsoleS : C_laws_eqConsoleS = fcall X_laws_eqConsoleS := (rfl)
theorem cok_laws_eqConsoleS : codeOk CT Try.f78 (Try.f78.body.get rfl) = true := by kernel_rfl
theorem xe_laws_eqConsoleS (t0 t1 : Value) (m : Mem) : ex CT cf_laws_eqConsoleS Try.f78 2 m.length LL_laws_eqConsoleS (J_laws_eqConsoleS m.length QQ) 400 [.code (Try.f78.body.get rfl)] (argsT 0 [t0, t1]) m = X_laws_eqConsoleS [t0, t1] m := by kernel_rfl
theorem okc_laws_eqConsoleS : CallOK CT cf_laws_eqConsoleS := cfc_ok ok_C_laws_eqConsole cfn_ok
theorem le_laws_eqConsoleS_0 (k q : Nat) (t0 t1 t5 : Value) (m : Mem) : ex CT cf_laws_eqConsoleS Try.f78 2 k LL_laws_eqConsoleS (J_laws_eqConsoleS k q) 400 (atLoop Try.f78 0) [(0, t0), (1, t1), (5, t5)] m = J_laws_eqConsoleS k (q + 1) 4 [t0, t1, t5] m := by kernel_rfl
theorem gl_laws_eqConsoleS (k : Nat) : ∀ q i, i < 1 → GoodL CT k Try.f78 LL_laws_eqConsoleS (J_laws_eqConsoleS k q) (atLoop Try.f78 i)
  | 0, 0, _ => goodL_zero (l := 4) (by kernel_rfl) (fun vs m => by kernel_rfl)
  | 0, _ + 1, h => absurd h (by omega)
  | q + 1, 0, _ => goodL_succ (np := 2) (l := 4) (live := [0, 1, 5]) (n := 1) CT_ok rfl okc_laws_eqConsoleS (c := (Try.f78.body.get rfl)) rfl cok_laws_eqConsoleS (by kernel_rfl) (gl_laws_eqConsoleS k q) (by kernel_rfl) rfl (fun vs m r hl h => match vs, hl with
    | [t0, t1, t5], _ => (le_laws_eqConsoleS_0 k q t0 t1 t5 m).trans h)
  | _ + 1, _ + 1, h => absurd h (by omega)
theorem ok_X_laws_eqConsoleS : OkX CT 78 X_laws_eqConsoleS := OkX.of_ex (cf := cf_laws_eqConsoleS) (np := 2) (LL := LL_laws_eqConsoleS) (J := (fun k => J_laws_eqConsoleS k QQ)) CT_ok rfl Try.func78 rfl (Nat.le_of_ble_eq_true rfl) (by decide) cok_laws_eqConsoleS okc_laws_eqConsoleS (fun k => allLoops rfl (by kernel_rfl) (gl_laws_eqConsoleS k QQ)) (fun args m r h => match args, h with
    | [t0, t1], h => ⟨rfl, (xe_laws_eqConsoleS t0 t1 m).trans h⟩)
theorem ok_C_laws_eqConsoleS : OkC CT 78 C_laws_eqConsoleS := fcall_ok rfl ok_X_laws_eqConsoleS

/-! ### laws.eqSym -/
noncomputable def cf_laws_eqSym : CallF := cfn
noncomputable def X_laws_eqSym : List Value → Mem → Option VM
  | [t0, t1], m =>
    (boxX m t0) |> bo fun r1 =>
    (boxX r1.2 t1) |> bo fun r2 =>
    (fadX 0 r1.1) |> bo fun t5 =>
    (ld1 r2.2 t5) |> bo fun t6 =>
    (fadX 0 r2.1) |> bo fun t7 =>
    (ld1 r2.2 t7) |> bo fun t8 =>
    (binX .neq .no t6 t8) |> bo fun t9 =>
    brX t9
      (
        retK m.length r2.2 [t0, t1] (.bool false))
      (
        (fadX 1 r1.1) |> bo fun t10 =>
        (ld1 r2.2 t10) |> bo fun t11 =>
        (fadX 1 r2.1) |> bo fun t12 =>
        (ld1 r2.2 t12) |> bo fun t13 =>
        (binX .neq .no t11 t13) |> bo fun t14 =>
        brX t14
          (
            retK m.length r2.2 [t0, t1] (.bool false))
          (
            retK m.length r2.2 [t0, t1] (.bool true)))
  | _, _ => none
noncomputable def C_laws_eqSym : List Value → Mem → Option VM := fcall X_laws_eqSym
@[simp] theorem c_laws_eqSym : C_laws_eqSym = fcall X_laws_eqSym := (rfl)
theorem cok_laws_eqSym : codeOk CT Try.f160 (Try.f160.body.get rfl) = true := by kernel_rfl
theorem xe_laws_eqSym (t0 t1 : Value) (m : Mem) : ex CT cf_laws_eqSym Try.f160 2 m.length [] (fun _ _ _ => none) 400 [.code (Try.f160.body.get rfl)] (argsT 0 [t0, t1]) m = X_laws_eqSym [t0, t1] m := by kernel_rfl
theorem okc_laws_eqSym : CallOK CT cf_laws_eqSym := cfn_ok
theorem ok_X_laws_eqSym : OkX CT 160 X_laws_eqSym := OkX.of_ex (cf := cf_laws_eqSym) (np := 2) (LL := []) (J := (fun _ _ _ _ => none)) CT_ok rfl Try.func160 rfl (Nat.le_of_ble_eq_true rfl) (by decide) cok_laws_eqSym okc_laws_eqSym (fun k => noLoops rfl) (fun args m r h => match args, h with
    | [t0, t1], h => ⟨rfl, (xe_laws_eqSym t0 t1 m).trans h⟩)
theorem ok_C_laws_eqSym : OkC CT 160 C_laws_eqSym := fcall_ok rfl ok_X_laws_eqSym

/-! ### laws.eqBind -/
noncomputable def cf_laws_eqBind : CallF := cfc 160 C_laws_eqSym cfn
noncomputable def X_laws_eqBind : List Value → Mem → Option VM
  | [t0, t1], m =>
    (boxX m t0) |> bo fun r1 =>
    (boxX r1.2 t1) |> bo fun r2 =>
    (fadX 0 r1.1) |> bo fun t5 =>
    (ld1 r2.2 t5) |> bo fun t6 =>
    (fadX 0 r2.1) |> bo fun t7 =>
    (ld1 r2.2 t7) |> bo fun t8 =>
    (binX .neq .no t6 t8) |> bo fun t9 =>
    brX t9
      (
        retK m.length r2.2 [t0, t1] (.bool false))
      (
        (fadX 1 r1.1) |> bo fun t10 =>
        (ld1 r2.2 t10) |> bo fun t11 =>
        (fadX 1 r2.1) |> bo fun t12 =>
        (ld1 r2.2 t12) |> bo fun t13 =>
        (binX .neq .no t11 t13) |> bo fun t14 =>
        brX t14
          (
            retK m.length r2.2 [t0, t1] (.bool false))
          (
            (fadX 2 r1.1) |> bo fun t15 =>
            (ldS r2.2 2 t15) |> bo fun t16 =>
            (fadX 2 r2.1) |> bo fun t17 =>
            (ldS r2.2 2 t17) |> bo fun t18 =>
            (C_laws_eqSym [t16, t18] r2.2) |> bo fun r17 =>
            (uop .not r17.1) |> bo fun t20 =>
            brX t20
              (
                retK m.length r17.2 [t0, t1] (.bool false))
              (
                retK m.length r17.2 [t0, t1] (.bool true))))
  | _, _ => none
noncomputable def C_laws_eqBind : List Value → Mem → Option VM := fcall X_laws_eqBind
@[simp] theorem c_laws_eqBind : C_laws_eqBind = fcall X_laws_eqBind := (rfl)
theorem cok_laws_eqBind : codeOk CT Try.f121 (Try.f121.body.get rfl) = true := by kernel_rfl
theorem xe_laws_eqBind (t0 t1 : Value) (m : Mem) : ex CT cf_laws_eqBind Try.f121 2 m.length [] (fun _ _ _ => none) 400 [.code (Try.f121.body.get rfl)] (argsT 0 [t0, t1]) m = X_laws_eqBind [t0, t1] m := by kernel_rfl
theorem okc_laws_eqBind : CallOK CT cf_laws_eqBind := cfc_ok ok_C_laws_eqSym cfn_ok
theorem ok_X_laws_eqBind : OkX CT 121 X_laws_eqBind := OkX.of_ex (cf := cf_laws_eqBind) (np := 2) (LL := []) (J := (fun _ _ _ _ => none)) CT_ok rfl Try.func121 rfl (Nat.le_of_ble_eq_true rfl) (by decide) cok_laws_eqBind okc_laws_eqBind (fun k => noLoops rfl) (fun args m r h => match args, h with
    | [t0, t1], h => ⟨rfl, (xe_laws_eqBind t0 t1 m).trans h⟩)
theorem ok_C_laws_eqBind : OkC CT 121 C_laws_eqBind := fcall_ok rfl ok_X_laws_eqBind

/-! ### laws.eqBindS -/
noncomputable def cf_laws_eqBindS : CallF := cfc 121 C_laws_eqBind cfn
noncomputable def L_laws_eqBindS (k : Nat) : Nat → Nat → List Value → Mem → Option VM
  | q + 1, 0, [t0, t1, t5], m =>
    (lenX t0) |> bo fun t13 =>
    (binX .lss .no t5 t13) |> bo fun t14 =>
    brX t14
      (
        (ixaX 4 t0 t5) |> bo fun t19 =>
        (ldS m 4 t19) |> bo fun t20 =>
        (ixaX 4 t1 t5) |> bo fun t23 =>
        (ldS m 4 t23) |> bo fun t24 =>
        (C_laws_eqBind [t20, t24] m) |> bo fun r7 =>
        (uop .not r7.1) |> bo fun t26 =>
        brX t26
          (
            retK k r7.2 [t0, t1] (.bool false))
          (
            (binX .add .no t5 (.int .i64 1)) |> bo fun t16 =>
            cutK k r7.2 [t0, t1] [t0, t1, t16] (L_laws_eqBindS k q 0)))
      (
        retK k m [t0, t1] (.bool true))
  | _, _, _, _ => none
noncomputable def J_laws_eqBindS (k q l : Nat) : List Value → Mem → Option VM := cond (Nat.beq l 4) (L_laws_eqBindS k q 0) (fun _ _ => none)
def LL_laws_eqBindS : List (Nat × List Tmp) := [(4, [0, 1, 5])]
noncomputable def X_laws_eqBindS : List Value → Mem → Option VM
  | [t0, t1], m =>
    (lenX t0) |> bo fun t7 =>
    (lenX t1) |> bo fun t9 =>
    (binX .neq .no t7 t9) |> bo fun t10 =>
    brX t10
      (
        retK m.length m [t0, t1] (.bool false))
      (
        cutK m.length m [t0, t1] [t0, t1, (.int .i64 0)] (L_laws_eqBindS m.length QQ 0))
  | _, _ => none
noncomputable def C_laws_eqBindS : List Value → Mem → Option VM := fcall X_laws_eqBindS
@[simp] theorem c_laws_eqBindS : C_laws_eqBindS = fcall X_laws_eqBindS := (rfl)
theorem cok_laws_eqBindS : codeOk CT Try.f79 (Try.f79.body.get rfl) = true := by kernel_rfl
theorem xe_laws_eqBindS (t0 t1 : Value) (m : Mem) : ex CT cf_laws_eqBindS Try.f79 2 m.length LL_laws_eqBindS (J_laws_eqBindS m.length QQ) 400 [.code (Try.f79.body.get rfl)] (argsT 0 [t0, t1]) m = X_laws_eqBindS [t0, t1] m := by kernel_rfl
theorem okc_laws_eqBindS : CallOK CT cf_laws_eqBindS := cfc_ok ok_C_laws_eqBind cfn_ok
theorem le_laws_eqBindS_0 (k q : Nat) (t0 t1 t5 : Value) (m : Mem) : ex CT cf_laws_eqBindS Try.f79 2 k LL_laws_eqBindS (J_laws_eqBindS k q) 400 (atLoop Try.f79 0) [(0, t0), (1, t1), (5, t5)] m = J_laws_eqBindS k (q + 1) 4 [t0, t1, t5] m := by kernel_rfl
theorem gl_laws_eqBindS (k : Nat) : ∀ q i, i < 1 → GoodL CT k Try.f79 LL_laws_eqBindS (J_laws_eqBindS k q) (atLoop Try.f79 i)
  | 0, 0, _ => goodL_zero (l := 4) (by kernel_rfl) (fun vs m => by kernel_rfl)
  | 0, _ + 1, h => absurd h (by omega)
  | q + 1, 0, _ => goodL_succ (np := 2) (l := 4) (live := [0, 1, 5]) (n := 1) CT_ok rfl okc_laws_eqBindS (c := (Try.f79.body.get rfl)) rfl cok_laws_eqBindS (by kernel_rfl) (gl_laws_eqBindS k q) (by kernel_rfl) rfl (fun vs m r hl h => match vs, hl with
    | [t0, t1, t5], _ => (le_laws_eqBindS_0 k q t0 t1 t5 m).trans h)
  | _ + 1, _ + 1, h => absurd h (by omega)
theorem ok_X_laws_eqBindS : OkX CT 79 X_laws_eqBindS := OkX.of_ex (cf := cf_laws_eqBindS) (np := 2) (LL := LL_laws_eqBindS) (J := (fun k => J_laws_eqBindS k QQ)) CT_ok rfl Try.func79 rfl (Nat.le_of_ble_eq_true rfl) (by decide) cok_laws_eqBindS okc_laws_eqBindS (fun k => allLoops rfl (by kernel_rfl) (gl_laws_eqBindS k QQ)) (fun args m r h => match args, h with
    | [t0, t1], h => ⟨rfl, (xe_laws_eqBindS t0 t1 m).trans h⟩)
theorem ok_C_laws_eqBindS : OkC CT 79 C_laws_eqBindS := fcall_ok rfl ok_X_laws_eqBindS

/-! ### laws.eqStringS -/
noncomputable def cf_laws_eqStringS : CallF := cfn
noncomputable def L_laws_eqStringS (k : Nat) : Nat → Nat → List Value → Mem → Option VM
  | q + 1, 0, [t0, t1, t5], m =>
    (lenX t0) |> bo fun t13 =>
    (binX .lss .no t5 t13) |> bo fun t14 =>
    brX t14
      (
        (ixaX 1 t0 t5) |> bo fun t19 =>
        (ld1 m t19) |> bo fun t20 =>
        (ixaX 1 t1 t5) |> bo fun t23 =>
        (ld1 m t23) |> bo fun t24 =>
        (binX .neq .no t20 t24) |> bo fun t25 =>
        brX t25
          (
            retK k m [t0, t1] (.bool false))
          (
            (binX .add .no t5 (.int .i64 1)) |> bo fun t16 =>
            cutK k m [t0, t1] [t0, t1, t16] (L_laws_eqStringS k q 0)))
      (
        retK k m [t0, t1] (.bool true))
  | _, _, _, _ => none
noncomputable def J_laws_eqStringS (k q l : Nat) : List Value → Mem → Option VM := cond (Nat.beq l 4) (L_laws_eqStringS k q 0) (fun _ _ => none)
def LL_laws_eqStringS : List (Nat × List Tmp) := [(4, [0, 1, 5])]
noncomputable def X_laws_eqStringS : List Value → Mem → Option VM
  | [t0, t1], m =>
    (lenX t0) |> bo fun t7 =>
    (lenX t1) |> bo fun t9 =>
    (binX .neq .no t7 t9) |> bo fun t10 =>
    brX t10
      (
        retK m.length m [t0, t1] (.bool false))
      (
        cutK m.length m [t0, t1] [t0, t1, (.int .i64 0)] (L_laws_eqStringS m.length QQ 0))
  | _, _ => none
noncomputable def C_laws_eqStringS : List Value → Mem → Option VM := fcall X_laws_eqStringS
@[simp] theorem c_laws_eqStringS : C_laws_eqStringS = fcall X_laws_eqStringS := (rfl)
theorem cok_laws_eqStringS : codeOk CT Try.f80 (Try.f80.body.get rfl) = true := by kernel_rfl
theorem xe_laws_eqStringS (t0 t1 : Value) (m : Mem) : ex CT cf_laws_eqStringS Try.f80 2 m.length LL_laws_eqStringS (J_laws_eqStringS m.length QQ) 400 [.code (Try.f80.body.get rfl)] (argsT 0 [t0, t1]) m = X_laws_eqStringS [t0, t1] m := by kernel_rfl
theorem okc_laws_eqStringS : CallOK CT cf_laws_eqStringS := cfn_ok
theorem le_laws_eqStringS_0 (k q : Nat) (t0 t1 t5 : Value) (m : Mem) : ex CT cf_laws_eqStringS Try.f80 2 k LL_laws_eqStringS (J_laws_eqStringS k q) 400 (atLoop Try.f80 0) [(0, t0), (1, t1), (5, t5)] m = J_laws_eqStringS k (q + 1) 4 [t0, t1, t5] m := by kernel_rfl
theorem gl_laws_eqStringS (k : Nat) : ∀ q i, i < 1 → GoodL CT k Try.f80 LL_laws_eqStringS (J_laws_eqStringS k q) (atLoop Try.f80 i)
  | 0, 0, _ => goodL_zero (l := 4) (by kernel_rfl) (fun vs m => by kernel_rfl)
  | 0, _ + 1, h => absurd h (by omega)
  | q + 1, 0, _ => goodL_succ (np := 2) (l := 4) (live := [0, 1, 5]) (n := 1) CT_ok rfl okc_laws_eqStringS (c := (Try.f80.body.get rfl)) rfl cok_laws_eqStringS (by kernel_rfl) (gl_laws_eqStringS k q) (by kernel_rfl) rfl (fun vs m r hl h => match vs, hl with
    | [t0, t1, t5], _ => (le_laws_eqStringS_0 k q t0 t1 t5 m).trans h)
  | _ + 1, _ + 1, h => absurd h (by omega)
theorem ok_X_laws_eqStringS : OkX CT 80 X_laws_eqStringS := OkX.of_ex (cf := cf_laws_eqStringS) (np := 2) (LL := LL_laws_eqStringS) (J := (fun k => J_laws_eqStringS k QQ)) CT_ok rfl Try.func80 rfl (Nat.le_of_ble_eq_true rfl) (by decide) cok_laws_eqStringS okc_laws_eqStringS (fun k => allLoops rfl (by kernel_rfl) (gl_laws_eqStringS k QQ)) (fun args m r h => match args, h with
    | [t0, t1], h => ⟨rfl, (xe_laws_eqStringS t0 t1 m).trans h⟩)
theorem ok_C_laws_eqStringS : OkC CT 80 C_laws_eqStringS := fcall_ok rfl ok_X_laws_eqStringS

/-! ### laws.eqHold -/
noncomputable def cf_laws_eqHold : CallF := cfn
noncomputable def X_laws_eqHold : List Value → Mem → Option VM
  | [t0, t1], m =>
    (boxX m t0) |> bo fun r1 =>
    (boxX r1.2 t1) |> bo fun r2 =>
    (fadX 0 r1.1) |> bo fun t5 =>
    (ld1 r2.2 t5) |> bo fun t6 =>
    (fadX 0 r2.1) |> bo fun t7 =>
    (ld1 r2.2 t7) |> bo fun t8 =>
    (binX .neq .no t6 t8) |> bo fun t9 =>
    brX t9
      (
        retK m.length r2.2 [t0, t1] (.bool false))
      (
        (fadX 1 r1.1) |> bo fun t10 =>
        (ld1 r2.2 t10) |> bo fun t11 =>
        (fadX 1 r2.1) |> bo fun t12 =>
        (ld1 r2.2 t12) |> bo fun t13 =>
        (binX .neq .no t11 t13) |> bo fun t14 =>
        brX t14
          (
            retK m.length r2.2 [t0, t1] (.bool false))
          (
            retK m.length r2.2 [t0, t1] (.bool true)))
  | _, _ => none
noncomputable def C_laws_eqHold : List Value → Mem → Option VM := fcall X_laws_eqHold
@[simp] theorem c_laws_eqHold : C_laws_eqHold = fcall X_laws_eqHold := (rfl)
theorem cok_laws_eqHold : codeOk CT Try.f161 (Try.f161.body.get rfl) = true := by kernel_rfl
theorem xe_laws_eqHold (t0 t1 : Value) (m : Mem) : ex CT cf_laws_eqHold Try.f161 2 m.length [] (fun _ _ _ => none) 400 [.code (Try.f161.body.get rfl)] (argsT 0 [t0, t1]) m = X_laws_eqHold [t0, t1] m := by kernel_rfl
theorem okc_laws_eqHold : CallOK CT cf_laws_eqHold := cfn_ok
theorem ok_X_laws_eqHold : OkX CT 161 X_laws_eqHold := OkX.of_ex (cf := cf_laws_eqHold) (np := 2) (LL := []) (J := (fun _ _ _ _ => none)) CT_ok rfl Try.func161 rfl (Nat.le_of_ble_eq_true rfl) (by decide) cok_laws_eqHold okc_laws_eqHold (fun k => noLoops rfl) (fun args m r h => match args, h with
    | [t0, t1], h => ⟨rfl, (xe_laws_eqHold t0 t1 m).trans h⟩)
theorem ok_C_laws_eqHold : OkC CT 161 C_laws_eqHold := fcall_ok rfl ok_X_laws_eqHold

/-! ### laws.eqHoldS -/
noncomputable def cf_laws_eqHoldS : CallF := cfc 161 C_laws_eqHold cfn
noncomputable def L_laws_eqHoldS (k : Nat) : Nat → Nat → List Value → Mem → Option VM
  | q + 1, 0, [t0, t1, t5], m =>
    (lenX t0) |> bo fun t13 =>
    (binX .lss .no t5 t13) |> bo fun t14 =>
    brX t14
      (
        (ixaX 2 t0 t5) |> bo fun t19 =>
        (ldS m 2 t19) |> bo fun t20 =>
        (ixaX 2 t1 t5) |> bo fun t23 =>
        (ldS m 2 t23) |> bo fun t24 =>
        (C_laws_eqHold [t20, t24] m) |> bo fun r7 =>
        (uop .not r7.1) |> bo fun t26 =>
        brX t26
          (
            retK k r7.2 [t0, t1] (.bool false))
          (
            (binX .add .no t5 (.int .i64 1)) |> bo fun t16 =>
            cutK k r7.2 [t0, t1] [t0, t1, t16] (L_laws_eqHoldS k q 0)))
      (
        retK k m [t0, t1] (.bool true))
  | _, _, _, _ => none
noncomputable def J_laws_eqHoldS (k q l : Nat) : List Value → Mem → Option VM := cond (Nat.beq l 4) (L_laws_eqHoldS k q 0) (fun _ _ => none)
def LL_laws_eqHoldS : List (Nat × List Tmp) := [(4, [0, 1, 5])]
noncomputable def X_laws_eqHoldS : List Value → Mem → Option VM
  | [t0, t1], m =>
    (lenX t0) |> bo fun t7 =>
    (lenX t1) |> bo fun t9 =>
    (binX .neq .no t7 t9) |> bo fun t10 =>
    brX t10
      (
        retK m.length m [t0, t1] (.bool false))
      (
        cutK m.length m [t0, t1] [t0, t1, (.int .i64 0)] (L_laws_eqHoldS m.length QQ 0))
  | _, _ => none
noncomputable def C_laws_eqHoldS : List Value → Mem → Option VM := fcall X_laws_eqHoldS
@[simp] theorem c_laws_eqHoldS : C_laws_eqHoldS = fcall X_laws_eqHoldS := (rfl)
theorem cok_laws_eqHoldS : codeOk CT Try.f122 (Try.f122.body.get rfl) = true := by kernel_rfl
theorem xe_laws_eqHoldS (t0 t1 : Value) (m : Mem) : ex CT cf_laws_eqHoldS Try.f122 2 m.length LL_laws_eqHoldS (J_laws_eqHoldS m.length QQ) 400 [.code (Try.f122.body.get rfl)] (argsT 0 [t0, t1]) m = X_laws_eqHoldS [t0, t1] m := by kernel_rfl
theorem okc_laws_eqHoldS : CallOK CT cf_laws_eqHoldS := cfc_ok ok_C_laws_eqHold cfn_ok
theorem le_laws_eqHoldS_0 (k q : Nat) (t0 t1 t5 : Value) (m : Mem) : ex CT cf_laws_eqHoldS Try.f122 2 k LL_laws_eqHoldS (J_laws_eqHoldS k q) 400 (atLoop Try.f122 0) [(0, t0), (1, t1), (5, t5)] m = J_laws_eqHoldS k (q + 1) 4 [t0, t1, t5] m := by kernel_rfl
theorem gl_laws_eqHoldS (k : Nat) : ∀ q i, i < 1 → GoodL CT k Try.f122 LL_laws_eqHoldS (J_laws_eqHoldS k q) (atLoop Try.f122 i)
  | 0, 0, _ => goodL_zero (l := 4) (by kernel_rfl) (fun vs m => by kernel_rfl)
  | 0, _ + 1, h => absurd h (by omega)
  | q + 1, 0, _ => goodL_succ (np := 2) (l := 4) (live := [0, 1, 5]) (n := 1) CT_ok rfl okc_laws_eqHoldS (c := (Try.f122.body.get rfl)) rfl cok_laws_eqHoldS (by kernel_rfl) (gl_laws_eqHoldS k q) (by kernel_rfl) rfl (fun vs m r hl h => match vs, hl with
    | [t0, t1, t5], _ => (le_laws_eqHoldS_0 k q t0 t1 t5 m).trans h)
  | _ + 1, _ + 1, h => absurd h (by omega)
theorem ok_X_laws_eqHoldS : OkX CT 122 X_laws_eqHoldS := OkX.of_ex (cf := cf_laws_eqHoldS) (np := 2) (LL := LL_laws_eqHoldS) (J := (fun k => J_laws_eqHoldS k QQ)) CT_ok rfl Try.func122 rfl (Nat.le_of_ble_eq_true rfl) (by decide) cok_laws_eqHoldS okc_laws_eqHoldS (fun k => allLoops rfl (by kernel_rfl) (gl_laws_eqHoldS k QQ)) (fun args m r h => match args, h with
    | [t0, t1], h => ⟨rfl, (xe_laws_eqHoldS t0 t1 m).trans h⟩)
theorem ok_C_laws_eqHoldS : OkC CT 122 C_laws_eqHoldS := fcall_ok rfl ok_X_laws_eqHoldS

/-! ### laws.eqKeyboard -/
noncomputable def cf_laws_eqKeyboard : CallF := cfc 122 C_laws_eqHoldS cfn
noncomputable def X_laws_eqKeyboard : List Value → Mem → Option VM
  | [t0, t1], m =>
    (boxX m t0) |> bo fun r1 =>
    (boxX r1.2 t1) |> bo fun r2 =>
    (fadX 0 r1.1) |> bo fun t5 =>
    (ld1 r2.2 t5) |> bo fun t6 =>
    (fadX 0 r2.1) |> bo fun t7 =>
    (ld1 r2.2 t7) |> bo fun t8 =>
    (C_laws_eqHoldS [t6, t8] r2.2) |> bo fun r7 =>
    (uop .not r7.1) |> bo fun t10 =>
    brX t10
      (
        retK m.length r7.2 [t0, t1] (.bool false))
      (
        (fadX 1 r1.1) |> bo fun t11 =>
        (ld1 r7.2 t11) |> bo fun t12 =>
        (fadX 1 r2.1) |> bo fun t13 =>
        (ld1 r7.2 t13) |> bo fun t14 =>
        (binX .neq .bool t12 t14) |> bo fun t15 =>
        brX t15
          (
            retK m.length r7.2 [t0, t1] (.bool false))
          (
            (fadX 2 r1.1) |> bo fun t16 =>
            (ld1 r7.2 t16) |> bo fun t17 =>
            (fadX 2 r2.1) |> bo fun t18 =>
            (ld1 r7.2 t18) |> bo fun t19 =>
            (binX .neq .no t17 t19) |> bo fun t20 =>
            brX t20
              (
                retK m.length r7.2 [t0, t1] (.bool false))
              (
                retK m.length r7.2 [t0, t1] (.bool true))))
  | _, _ => none
noncomputable def C_laws_eqKeyboard : List Value → Mem → Option VM := fcall X_laws_eqKeyboard
@[simp] theorem c_laws_eqKeyboard : C_laws_eqKeyboard = fcall X_laws_eqKeyboard := (rfl)
theorem cok_laws_eqKeyboard : codeOk CT Try.f81 (Try.f81.body.get rfl) = true := by kernel_rfl
theorem xe_laws_eqKeyboard (t0 t1 : Value) (m : Mem) : ex CT cf_laws_eqKeyboard Try.f81 2 m.length [] (fun _ _ _ => none) 400 [.code (Try.f81.body.get rfl)] (argsT 0 [t0, t1]) m = X_laws_eqKeyboard [t0, t1] m := by kernel_rfl
theorem okc_laws_eqKeyboard : CallOK CT cf_laws_eqKeyboard := cfc_ok ok_C_laws_eqHoldS cfn_ok
theorem ok_X_laws_eqKeyboard : OkX CT 81 X_laws_eqKeyboard := OkX.of_ex (cf := cf_laws_eqKeyboard) (np := 2) (LL := []) (J := (fun _ _ _ _ => none)) CT_ok rfl Try.func81 rfl (Nat.le_of_ble_eq_true rfl) (by decide) cok_laws_eqKeyboard okc_laws_eqKeyboard (fun k => noLoops rfl) (fun args m r h => match args, h with
    | [t0, t1], h => ⟨rfl, (xe_laws_eqKeyboard t0 t1 m).trans h⟩)
theorem ok_C_laws_eqKeyboard : OkC CT 81 C_laws_eqKeyboard := fcall_ok rfl ok_X_laws_eqKeyboard

/-! ### laws.eqMux -/
noncomputable def cf_laws_eqMux : CallF := cfc 66 C_laws_eqBoolS (cfc 78 C_laws_eqConsoleS (cfc 79 C_laws_eqBindS (cfc 80 C_laws_eqStringS (cfc 81 C_laws_eqKeyboard cfn))))
noncomputable def X_laws_eqMux : List Value → Mem → Option VM
  | [t0, t1], m =>
    (boxX m t0) |> bo fun r1 =>
    (boxX r1.2 t1) |> bo fun r2 =>
    (fadX 0 r1.1) |> bo fun t5 =>
    (ld1 r2.2 t5) |> bo fun t6 =>
    (fadX 0 r2.1) |> bo fun t7 =>
    (ld1 r2.2 t7) |> bo fun t8 =>
    (C_laws_eqConsoleS [t6, t8] r2.2) |> bo fun r7 =>
    (uop .not r7.1) |> bo fun t10 =>
    brX t10
      (
        retK m.length r7.2 [t0, t1] (.bool false))
      (
        (fadX 1 r1.1) |> bo fun t11 =>
        (ld1 r7.2 t11) |> bo fun t12 =>
        (fadX 1 r2.1) |> bo fun t13 =>
        (ld1 r7.2 t13) |> bo fun t14 =>
        (C_laws_eqBoolS [t12, t14] r7.2) |> bo fun r13 =>
        (uop .not r13.1) |> bo fun t16 =>
        brX t16
          (
            retK m.length r13.2 [t0, t1] (.bool false))
          (
            (fadX 2 r1.1) |> bo fun t17 =>
            (ld1 r13.2 t17) |> bo fun t18 =>
            (fadX 2 r2.1) |> bo fun t19 =>
            (ld1 r13.2 t19) |> bo fun t20 =>
            (binX .neq .no t18 t20) |> bo fun t21 =>
            brX t21
              (
                retK m.length r13.2 [t0, t1] (.bool false))
              (
                (fadX 3 r1.1) |> bo fun t22 =>
                (ld1 r13.2 t22) |> bo fun t23 =>
                (fadX 3 r2.1) |> bo fun t24 =>
                (ld1 r13.2 t24) |> bo fun t25 =>
                (binX .neq .no t23 t25) |> bo fun t26 =>
                brX t26
                  (
                    retK m.length r13.2 [t0, t1] (.bool false))
                  (
                    (fadX 4 r1.1) |> bo fun t27 =>
                    (ld1 r13.2 t27) |> bo fun t28 =>
                    (fadX 4 r2.1) |> bo fun t29 =>
                    (ld1 r13.2 t29) |> bo fun t30 =>
                    (binX .neq .no t28 t30) |> bo fun t31 =>
                    brX t31
                      (
                        retK m.length r13.2 [t0, t1] (.bool false))
                      (
                        (fadX 5 r1.1) |> bo fun t32 =>
                        (ld1 r13.2 t32) |> bo fun t33 =>
                        (fadX 5 r2.1) |> bo fun t34 =>
                        (ld1 r13.2 t34) |> bo fun t35 =>
                        (C_laws_eqBindS [t33, t35] r13.2) |> bo fun r34 =>
                        (uop .not r34.1) |> bo fun t37 =>
                        brX t37
                          (
                            retK m.length r34.2 [t0, t1] (.bool false))
                          (
                            (fadX 6 r1.1) |> bo fun t38 =>
                            (ld1 r34.2 t38) |> bo fun t39 =>
                            (fadX 6 r2.1) |> bo fun t40 =>
                            (ld1 r34.2 t40) |> bo fun t41 =>
                            (C_laws_eqStringS [t39, t41] r34.2) |> bo fun r40 =>
                            (uop .not r40.1) |> bo fun t43 =>
                            brX t43
                              (
                                retK m.length r40.2 [t0, t1] (.bool false))
                              (
                                (fadX 7 r1.1) |> bo fun t44 =>
                                (ldS r40.2 3 t44) |> bo fun t45 =>
                                (fadX 7 r2.1) |> bo fun t46 =>
                                (ldS r40.2 3 t46) |> bo fun t47 =>
                                (C_laws_eqKeyboard [t45, t47] r40.2) |> bo fun r46 =>
                                (uop .not r46.1) |> bo fun t49 =>
                                brX t49
                                  (
                                    retK m.length r46.2 [t0, t1] (.bool false))
                                  (
                                    retK m.length r46.2 [t0, t1] (.bool true)))))))))
  | _, _ => none
noncomputable def C_laws_eqMux : List Value → Mem → Option VM := fcall X_laws_eqMux
@[simp] theorem c_laws_eqMux : C_laws_eqMux = fcall X_laws_eqMux := (rfl)
theorem cok_laws_eqMux : codeOk CT Try.f32 (Try.f32.body.get rfl) = true := by kernel_rfl
theorem xe_laws_eqMux (t0 t1 : Value) (m : Mem) : ex CT cf_laws_eqMux Try.f32 2 m.length [] (fun _ _ _ => none) 400 [.code (Try.f32.body.get rfl)] (argsT 0 [t0, t1]) m = X_laws_eqMux [t0, t1] m := by kernel_rfl
theorem okc_laws_eqMux : CallOK CT cf_laws_eqMux := cfc_ok ok_C_laws_eqBoolS (cfc_ok ok_C_laws_eqConsoleS (cfc_ok ok_C_laws_eqBindS (cfc_ok ok_C_laws_eqStringS (cfc_ok ok_C_laws_eqKeyboard cfn_ok))))
theorem ok_X_laws_eqMux : OkX CT 32 X_laws_eqMux := OkX.of_ex (cf := cf_laws_eqMux) (np := 2) (LL := []) (J := (fun _ _ _ _ => none)) CT_ok rfl Try.func32 rfl (Nat.le_of_ble_eq_true rfl) (by decide) cok_laws_eqMux okc_laws_eqMux (fun k => noLoops rfl) (fun args m r h => match args, h with
    | [t0, t1], h => ⟨rfl, (xe_laws_eqMux t0 t1 m).trans h⟩)
theorem ok_C_laws_eqMux : OkC CT 32 C_laws_eqMux := fcall_ok rfl ok_X_laws_eqMux

/-! ### laws.eqMuxResult -/
noncomputable def cf_laws_eqMuxResult : CallF := cfc 31 C_laws_eqByteS (cfc 32 C_laws_eqMux cfn)
noncomputable def X_laws_eqMuxResult : List Value → Mem → Option VM
  | [t0, t1], m =>
    (boxX m t0) |> bo fun r1 =>
    (boxX r1.2 t1) |> bo fun r2 =>
    (fadX 0 r1.1) |> bo fun t5 =>
    (ld1 r2.2 t5) |> bo fun t6 =>
    (fadX 0 r2.1) |> bo fun t7 =>
    (ld1 r2.2 t7) |> bo fun t8 =>
    (binX .neq .no t6 t8) |> bo fun t9 =>
    brX t9
      (
        retK m.length r2.2 [t0, t1] (.bool false))
      (
        (fadX 1 r1.1) |> bo fun t10 =>
        (ld1 r2.2 t10) |> bo fun t11 =>
        (fadX 1 r2.1) |> bo fun t12 =>
        (ld1 r2.2 t12) |> bo fun t13 =>
        (binX .neq .bool t11 t13) |> bo fun t14 =>
        brX t14
          (
            retK m.length r2.2 [t0, t1] (.bool false))
          (
            (fadX 2 r1.1) |> bo fun t15 =>
            (ld1 r2.2 t15) |> bo fun t16 =>
            (fadX 2 r2.1) |> bo fun t17 =>
            (ld1 r2.2 t17) |> bo fun t18 =>
            (C_laws_eqByteS [t16, t18] r2.2) |> bo fun r17 =>
            (uop .not r17.1) |> bo fun t20 =>
            brX t20
              (
                retK m.length r17.2 [t0, t1] (.bool false))
              (
                (fadX 3 r1.1) |> bo fun t21 =>
                (ldS r17.2 10 t21) |> bo fun t22 =>
                (fadX 3 r2.1) |> bo fun t23 =>
                (ldS r17.2 10 t23) |> bo fun t24 =>
                (C_laws_eqMux [t22, t24] r17.2) |> bo fun r23 =>
                (uop .not r23.1) |> bo fun t26 =>
                brX t26
                  (
                    retK m.length r23.2 [t0, t1] (.bool false))
                  (
                    retK m.length r23.2 [t0, t1] (.bool true)))))
  | _, _ => none
noncomputable def C_laws_eqMuxResult : List Value → Mem → Option VM := fcall X_laws_eqMuxResult
@[simp] theorem c_laws_eqMuxResult : C_laws_eqMuxResult = fcall X_laws_eqMuxResult := (rfl)
theorem cok_laws_eqMuxResult : codeOk CT Try.f8 (Try.f8.body.get rfl) = true := by kernel_rfl
theorem xe_laws_eqMuxResult (t0 t1 : Value) (m : Mem) : ex CT cf_laws_eqMuxResult Try.f8 2 m.length [] (fun _ _ _ => none) 400 [.code (Try.f8.body.get rfl)] (argsT 0 [t0, t1]) m = X_laws_eqMuxResult [t0, t1] m := by kernel_rfl
theorem okc_laws_eqMuxResult : CallOK CT cf_laws_eqMuxResult := cfc_ok ok_C_laws_eqByteS (cfc_ok ok_C_laws_eqMux cfn_ok)
theorem ok_X_laws_eqMuxResult : OkX CT 8 X_laws_eqMuxResult := OkX.of_ex (cf := cf_laws_eqMuxResult) (np := 2) (LL := []) (J := (fun _ _ _ _ => none)) CT_ok rfl Try.func8 rfl (Nat.le_of_ble_eq_true rfl) (by decide) cok_laws_eqMuxResult okc_laws_eqMuxResult (fun k => noLoops rfl) (fun args m r h => match args, h with
    | [t0, t1], h => ⟨rfl, (xe_laws_eqMuxResult t0 t1 m).trans h⟩)
theorem ok_C_laws_eqMuxResult : OkC CT 8 C_laws_eqMuxResult := fcall_ok rfl ok_X_laws_eqMuxResult

/-! ### laws.markByteS -/
noncomputable def cf_laws_markByteS : CallF := cfn
noncomputable def L_laws_markByteS (k : Nat) : Nat → Nat → List Value → Mem → Option VM
  | q + 1, 0, [t0, t1, t5], m =>
    (lenX t0) |> bo fun t8 =>
    (binX .lss .no t5 t8) |> bo fun t9 =>
    brX t9
      (
        (cvI .u8 t1) |> bo fun t15 =>
        (ixaX 1 t0 t5) |> bo fun t16 =>
        (stX m 1 t16 t15) |> bo fun m5 =>
        (binX .add .no t1 (.int .i64 1)) |> bo fun t18 =>
        (binX .add .no t5 (.int .i64 1)) |> bo fun t11 =>
        cutK k m5 [t0, t18] [t0, t18, t11] (L_laws_markByteS k q 0))
      (
        retK k m [t0, t1] t1)
  | _, _, _, _ => none
noncomputable def J_laws_markByteS (k q l : Nat) : List Value → Mem → Option VM := cond (Nat.beq l 2) (L_laws_markByteS k q 0) (fun _ _ => none)
def LL_laws_markByteS : List (Nat × List Tmp) := [(2, [0, 1, 5])]
noncomputable def X_laws_markByteS : List Value → Mem → Option VM
  | [t0, t1], m =>
    cutK m.length m [t0, t1] [t0, t1, (.int .i64 0)] (L_laws_markByteS m.length QQ 0)
  | _, _ => none
noncomputable def C_laws_markByteS : List Value → Mem → Option VM := rcall X_laws_markByteS
@[simp] theorem c_laws_markByteS : C_laws_markByteS = rcall X_laws_markByteS := (rfl)
theorem cok_laws_markByteS : codeOk CT Try.f33 (Try.f33.body.get rfl) = true := by kernel_rfl
theorem xe_laws_markByteS (t0 t1 : Value) (m : Mem) : ex CT cf_laws_markByteS Try.f33 2 m.length LL_laws_markByteS (J_laws_markByteS m.length QQ) 400 [.code (Try.f33.body.get rfl)] (argsT 0 [t0, t1]) m = X_laws_markByteS [t0, t1] m := by kernel_rfl
theorem okc_laws_markByteS : CallOK CT cf_laws_markByteS := cfn_ok
theorem le_laws_markByteS_0 (k q : Nat) (t0 t1 t5 : Value) (m : Mem) : ex CT cf_laws_markByteS Try.f33 2 k LL_laws_markByteS (J_laws_markByteS k q) 400 (atLoop Try.f33 0) [(0, t0), (1, t1), (5, t5)] m = J_laws_markByteS k (q + 1) 2 [t0, t1, t5] m := by kernel_rfl
theorem gl_laws_markByteS (k : Nat) : ∀ q i, i < 1 → GoodL CT k Try.f33 LL_laws_markByteS (J_laws_markByteS k q) (atLoop Try.f33 i)
  | 0, 0, _ => goodL_zero (l := 2) (by kernel_rfl) (fun vs m => by kernel_rfl)
  | 0, _ + 1, h => absurd h (by omega)
  | q + 1, 0, _ => goodL_succ (np := 2) (l := 2) (live := [0, 1, 5]) (n := 1) CT_ok rfl okc_laws_markByteS (c := (Try.f33.body.get rfl)) rfl cok_laws_markByteS (by kernel_rfl) (gl_laws_markByteS k q) (by kernel_rfl) rfl (fun vs m r hl h => match vs, hl with
    | [t0, t1, t5], _ => (le_laws_markByteS_0 k q t0 t1 t5 m).trans h)
  | _ + 1, _ + 1, h => absurd h (by omega)
theorem ok_X_laws_markByteS : OkX CT 33 X_laws_markByteS := OkX.of_ex (cf := cf_laws_markByteS) (np := 2) (LL := LL_laws_markByteS) (J := (fun k => J_laws_markByteS k QQ)) CT_ok rfl Try.func33 rfl (Nat.le_of_ble_eq_true rfl) (by decide) cok_laws_markByteS okc_laws_markByteS (fun k => allLoops rfl (by kernel_rfl) (gl_laws_markByteS k QQ)) (fun args m r h => match args, h with
    | [t0, t1], h => ⟨rfl, (xe_laws_markByteS t0 t1 m).trans h⟩)
theorem ok_C_laws_markByteS : OkC CT 33 C_laws_markByteS := rcall_ok rfl ok_X_laws_markByteS

/-! ### laws.markBoolS -/
noncomputable def cf_laws_markBoolS : CallF := cfn
noncomputable def L_laws_markBoolS (k : Nat) : Nat → Nat → List Value → Mem → Option VM
  | q + 1, 0, [t0, t1, t5], m =>
    (lenX t0) |> bo fun t8 =>
    (binX .lss .no t5 t8) |> bo fun t9 =>
    brX t9
      (
        (binX .rem .no t1 (.int .i64 3)) |> bo fun t15 =>
        (binX .eql .no t15 (.int .i64 0)) |> bo fun t16 =>
        (ixaX 1 t0 t5) |> bo fun t17 =>
        (stX m 1 t17 t16) |> bo fun m6 =>
        (binX .add .no t1 (.int .i64 1)) |> bo fun t19 =>
        (binX .add .no t5 (.int .i64 1)) |> bo fun t11 =>
        cutK k m6 [t0, t19] [t0, t19, t11] (L_laws_markBoolS k q 0))
      (
        retK k m [t0, t1] t1)
  | _, _, _, _ => none
noncomputable def J_laws_markBoolS (k q l : Nat) : List Value → Mem → Option VM := cond (Nat.beq l 2) (L_laws_markBoolS k q 0) (fun _ _ => none)
def LL_laws_markBoolS : List (Nat × List Tmp) := [(2, [0, 1, 5])]
noncomputable def X_laws_markBoolS : List Value → Mem → Option VM
  | [t0, t1], m =>
    cutK m.length m [t0, t1] [t0, t1, (.int .i64 0)] (L_laws_markBoolS m.length QQ 0)
  | _, _ => none
noncomputable def C_laws_markBoolS : List Value → Mem → Option VM := rcall X_laws_markBoolS
@[simp] theorem c_laws_markBoolS : C_laws_markBoolS = rcall X_laws_markBoolS := (rfl)
theorem cok_laws_markBoolS : codeOk CT Try.f69 (Try.f69.body.get rfl) = true := by kernel_rfl
theorem xe_laws_markBoolS (t0 t1 : Value) (m : Mem) : ex CT cf_laws_markBoolS Try.f69 2 m.length LL_laws_markBoolS (J_laws_markBoolS m.length QQ) 400 [.code (Try.f69.body.get rfl)] (argsT 0 [t0, t1]) m = X_laws_markBoolS [t0, t1] m := by kernel_rfl
theorem okc_laws_markBoolS : CallOK CT cf_laws_markBoolS := cfn_ok
theorem le_laws_markBoolS_0 (k q : Nat) (t0 t1 t5 : Value) (m : Mem) : ex CT cf_laws_markBoolS Try.f69 2 k LL_laws_markBoolS (J_laws_markBoolS k q) 400 (atLoop Try.f69 0) [(0, t0), (1, t1), (5, t5)] m = J_laws_markBoolS k (q + 1) 2 [t0, t1, t5] m := by kernel_rfl
theorem gl_laws_markBoolS (k : Nat) : ∀ q i, i < 1 → GoodL CT k Try.f69 LL_laws_markBoolS (J_laws_markBoolS k q) (atLoop Try.f69 i)
  | 0, 0, _ => goodL_zero (l := 2) (by kernel_rfl) (fun vs m => by kernel_rfl)
  | 0, _ + 1, h => absurd h (by omega)
  | q + 1, 0, _ => goodL_succ (np := 2) (l := 2) (live := [0, 1, 5]) (n := 1) CT_ok rfl okc_laws_markBoolS (c := (Try.f69.body.get rfl)) rfl cok_laws_markBoolS (by kernel_rfl) (gl_laws_markBoolS k q) (by kernel_rfl) rfl (fun vs m r hl h => match vs, hl with
    | [t0, t1, t5], _ => (le_laws_markBoolS_0 k q t0 t1 t5 m).trans h)
  | _ + 1, _ + 1, h => absurd h (by omega)
theorem ok_X_laws_markBoolS : OkX CT 69 X_laws_markBoolS := OkX.of_ex (cf := cf_laws_markBoolS) (np := 2) (LL := LL_laws_markBoolS) (J := (fun k => J_laws_markBoolS k QQ)) CT_ok rfl Try.func69 rfl (Nat.le_of_ble_eq_true rfl) (by decide) cok_laws_markBoolS okc_laws_markBoolS (fun k => allLoops rfl (by kernel_rfl) (gl_laws_markBoolS k QQ)) (fun args m r h => match args, h with
    | [t0, t1], h => ⟨rfl, (xe_laws_markBoolS t0 t1 m).trans h⟩)
theorem ok_C_laws_markBoolS : OkC CT 69 C_laws_markBoolS := rcall_ok rfl ok_X_laws_markBoolS

/-! ### laws.markInt64S -/
noncomputable def cf_laws_markInt64S : CallF := cfn
noncomputable def L_laws_markInt64S (k : Nat) : Nat → Nat → List Value → Mem → Option VM
  | q + 1, 0, [t0, t1, t5], m =>
    (lenX t0) |> bo fun t8 =>
    (binX .lss .no t5 t8) |> bo fun t9 =>
    brX t9
      (
        (ixaX 1 t0 t5) |> bo fun t15 =>
        (stX m 1 t15 t1) |> bo fun m4 =>
        (binX .add .no t1 (.int .i64 1)) |> bo fun t17 =>
        (binX .add .no t5 (.int .i64 1)) |> bo fun t11 =>
        cutK k m4 [t0, t17] [t0, t17, t11] (L_laws_markInt64S k q 0))
      (
        retK k m [t0, t1] t1)
  | _, _, _, _ => none
noncomputable def J_laws_markInt64S (k q l : Nat) : List Value → Mem → Option VM := cond (Nat.beq l 2) (L_laws_markInt64S k q 0) (fun _ _ => none)
def LL_laws_markInt64S : List (Nat × List Tmp) := [(2, [0, 1, 5])]
noncomputable def X_laws_markInt64S : List Value → Mem → Option VM
  | [t0, t1], m =>
    cutK m.length m [t0, t1] [t0, t1, (.int .i64 0)] (L_laws_markInt64S m.length QQ 0)
  | _, _ => none
noncomputable def C_laws_markInt64S : List Value → Mem → Option VM := rcall X_laws_markInt64S
@[simp] theorem c_laws_markInt64S : C_laws_markInt64S = rcall X_laws_markInt64S := (rfl)
theorem cok_laws_markInt64S : codeOk CT Try.f70 (Try.f70.body.get rfl) = true := by kernel_rfl
theorem xe_laws_markInt64S (t0 t1 : Value) (m : Mem) : ex CT cf_laws_markInt64S Try.f70 2 m.length LL_laws_markInt64S (J_laws_markInt64S m.length QQ) 400 [.code (Try.f70.body.get rfl)] (argsT 0 [t0, t1]) m = X_laws_markInt64S [t0, t1] m := by kernel_rfl
theorem okc_laws_markInt64S : CallOK CT cf_laws_markInt64S := cfn_ok
theorem le_laws_markInt64S_0 (k q : Nat) (t0 t1 t5 : Value) (m : Mem) : ex CT cf_laws_markInt64S Try.f70 2 k LL_laws_markInt64S (J_laws_markInt64S k q) 400 (atLoop Try.f70 0) [(0, t0), (1, t1), (5, t5)] m = J_laws_markInt64S k (q + 1) 2 [t0, t1, t5] m := by kernel_rfl
theorem gl_laws_markInt64S (k : Nat) : ∀ q i, i < 1 → GoodL CT k Try.f70 LL_laws_markInt64S (J_laws_markInt64S k q) (atLoop Try.f70 i)
  | 0, 0, _ => goodL_zero (l := 2) (by kernel_rfl) (fun vs m => by kernel_rfl)
  | 0, _ + 1, h => absurd h (by omega)
  | q + 1, 0, _ => goodL_succ (np := 2) (l := 2) (live := [0, 1, 5]) (n := 1) CT_ok rfl okc_laws_markInt64S (c := (Try.f70.body.get rfl)) rfl cok_laws_markInt64S (by kernel_rfl) (gl_laws_markInt64S k q) (by kernel_rfl) rfl (fun vs m r hl h => match vs, hl with
    | [t0, t1, t5], _ => (le_laws_markInt64S_0 k q t0 t1 t5 m).trans h)
  | _ + 1, _ + 1, h => absurd h (by omega)
theorem ok_X_laws_markInt64S : OkX CT 70 X_laws_markInt64S := OkX.of_ex (cf := cf_laws_markInt64S) (np := 2) (LL := LL_laws_markInt64S) (J := (fun k => J_laws_markInt64S k QQ)) CT_ok rfl Try.func70 rfl (Nat.le_of_ble_eq_true rfl) (by decide) cok_laws_markInt64S okc_laws_markInt64S (fun k => allLoops rfl (by kernel_rfl) (gl_laws_markInt64S k QQ)) (fun args m r h => match args, h with
    | [t0, t1], h => ⟨rfl, (xe_laws_markInt64S t0 t1 m).trans h⟩)
theorem ok_C_laws_markInt64S : OkC CT 70 C_laws_markInt64S := rcall_ok rfl ok_X_laws_markInt64S

/-! ### laws.markCellS -/
noncomputable def cf_laws_markCellS : CallF := cfn
noncomputable def L_laws_markCellS (k : Nat) : Nat → Nat → List Value → Mem → Option VM
  | q + 1, 0, [t0, t1, t5], m =>
    (lenX t0) |> bo fun t8 =>
    (binX .lss .no t5 t8) |> bo fun t9 =>
    brX t9
      (
        (ixaX 2 t0 t5) |> bo fun t15 =>
        (fadX 0 t15) |> bo fun t16 =>
        (stX m 1 t16 t1) |> bo fun m5 =>
        (binX .add .no t1 (.int .i64 1)) |> bo fun t18 =>
        (ixaX 2 t0 t5) |> bo fun t22 =>
        (fadX 1 t22) |> bo fun t23 =>
        (stX m5 1 t23 t18) |> bo fun m9 =>
        (binX .add .no t18 (.int .i64 1)) |> bo fun t25 =>
        (binX .add .no t5 (.int .i64 1)) |> bo fun t11 =>
        cutK k m9 [t0, t25] [t0, t25, t11] (L_laws_markCellS k q 0))
      (
        retK k m [t0, t1] t1)
  | _, _, _, _ => none
noncomputable def J_laws_markCellS (k q l : Nat) : List Value → Mem → Option VM := cond (Nat.beq l 2) (L_laws_markCellS k q 0) (fun _ _ => none)
def LL_laws_markCellS : List (Nat × List Tmp) := [(2, [0, 1, 5])]
noncomputable def X_laws_markCellS : List Value → Mem → Option VM
  | [t0, t1], m =>
    cutK m.length m [t0, t1] [t0, t1, (.int .i64 0)] (L_laws_markCellS m.length QQ 0)
  | _, _ => none
noncomputable def C_laws_markCellS : List Value → Mem → Option VM := rcall X_laws_markCellS
@[simp] theorem c_laws_markCellS : C_laws_markCellS = rcall X_laws_markCellS := (rfl)
theorem cok_laws_markCellS : codeOk CT Try.f116 (Try.f116.body.get rfl) = true := by kernel_rfl
theorem xe_laws_markCellS (t0 t1 : Value) (m : Mem) : ex CT cf_laws_markCellS Try.f116 2 m.length LL_laws_markCellS (J_laws_markCellS m.length QQ) 400 [.code (Try.f116.body.get rfl)] (argsT 0 [t0, t1]) m = X_laws_markCellS [t0, t1] m := by kernel_rfl
theorem okc_laws_markCellS : CallOK CT cf_laws_markCellS := cfn_ok
theorem le_laws_markCellS_0 (k q : Nat) (t0 t1 t5 : Value) (m : Mem) : ex CT cf_laws_markCellS Try.f116 2 k LL_laws_markCellS (J_laws_markCellS k q) 400 (atLoop Try.f116 0) [(0, t0), (1, t1), (5, t5)] m = J_laws_markCellS k (q + 1) 2 [t0, t1, t5] m := by kernel_rfl
theorem gl_laws_markCellS (k : Nat) : ∀ q i, i < 1 → GoodL CT k Try.f116 LL_laws_markCellS (J_laws_markCellS k q) (atLoop Try.f116 i)
  | 0, 0, _ => goodL_zero (l := 2) (by kernel_rfl) (fun vs m => by kernel_rfl)
  | 0, _ + 1, h => absurd h (by omega)
  | q + 1, 0, _ => goodL_succ (np := 2) (l := 2) (live := [0, 1, 5]) (n := 1) CT_ok rfl okc_laws_markCellS (c := (Try.f116.body.get rfl)) rfl cok_laws_markCellS (by kernel_rfl) (gl_laws_markCellS k q) (by kernel_rfl) rfl (fun vs m r hl h => match vs, hl with
    | [t0, t1, t5], _ => (le_laws_markCellS_0 k q t0 t1 t5 m).trans h)
  | _ + 1, _ + 1, h => absurd h (by omega)
theorem ok_X_laws_markCellS : OkX CT 116 X_laws_markCellS := OkX.of_ex (cf := cf_laws_markCellS) (np := 2) (LL := LL_laws_markCellS) (J := (fun k => J_laws_markCellS k QQ)) CT_ok rfl Try.func116 rfl (Nat.le_of_ble_eq_true rfl) (by decide) cok_laws_markCellS okc_laws_markCellS (fun k => allLoops rfl (by kernel_rfl) (gl_laws_markCellS k QQ)) (fun args m r h => match args, h with
    | [t0, t1], h => ⟨rfl, (xe_laws_markCellS t0 t1 m).trans h⟩)
theorem ok_C_laws_markCellS : OkC CT 116 C_laws_markCellS := rcall_ok rfl ok_X_laws_markCellS

/-! ### laws.markByteSS -/
noncomputable def cf_laws_markByteSS : CallF := cfc 33 C_laws_markByteS cfn
noncomputable def L_laws_markByteSS (k : Nat) : Nat → Nat → List Value → Mem → Option VM
  | q + 1, 0, [t0, t1, t5], m =>
    (lenX t0) |> bo fun t8 =>
    (binX .lss .no t5 t8) |> bo fun t9 =>
    brX t9
      (
        (ixaX 1 t0 t5) |> bo fun t14 =>
        (ld1 m t14) |> bo fun t15 =>
        (C_laws_markByteS [t15, t1] m) |> bo fun r5 =>
        (binX .add .no t5 (.int .i64 1)) |> bo fun t11 =>
        cutK k r5.2 [t0, r5.1] [t0, r5.1, t11] (L_laws_markByteSS k q 0))
      (
        retK k m [t0, t1] t1)
  | _, _, _, _ => none
noncomputable def J_laws_markByteSS (k q l : Nat) : List Value → Mem → Option VM := cond (Nat.beq l 2) (L_laws_markByteSS k q 0) (fun _ _ => none)
def LL_laws_markByteSS : List (Nat × List Tmp) := [(2, [0, 1, 5])]
noncomputable def X_laws_markByteSS : List Value → Mem → Option VM
  | [t0, t1], m =>
    cutK m.length m [t0, t1] [t0, t1, (.int .i64 0)] (L_laws_markByteSS m.length QQ 0)
  | _, _ => none
noncomputable def C_laws_markByteSS : List Value → Mem → Option VM := rcall X_laws_markByteSS
@[simp] theorem c_laws_markByteSS : C_laws_markByteSS = rcall X_laws_markByteSS := (rfl)
theorem cok_laws_markByteSS : codeOk CT Try.f123 (Try.f123.body.get rfl) = true := by kernel_rfl
theorem xe_laws_markByteSS (t0 t1 : Value) (m : Mem) : ex CT cf_laws_markByteSS Try.f123 2 m.length LL_laws_markByteSS (J_laws_markByteSS m.length QQ) 400 [.code (Try.f123.body.get rfl)] (argsT 0 [t0, t1]) m = X_laws_markByteSS [t0, t1] m := by kernel_rfl
theorem okc_laws_markByteSS : CallOK CT cf_laws_markByteSS := cfc_ok ok_C_laws_markByteS cfn_ok
theorem le_laws_markByteSS_0 (k q : Nat) (t0 t1 t5 : Value) (m : Mem) : ex CT cf_laws_markByteSS Try.f123 2 k LL_laws_markByteSS (J_laws_markByteSS k q) 400 (atLoop Try.f123 0) [(0, t0), (1, t1), (5, t5)] m = J_laws_markByteSS k (q + 1) 2 [t0, t1, t5] m := by kernel_rfl
theorem gl_laws_markByteSS (k : Nat) : ∀ q i, i < 1 → GoodL CT k Try.f123 LL_laws_markByteSS (J_laws_markByteSS k q) (atLoop Try.f123 i)
  | 0, 0, _ => goodL_zero (l := 2) (by kernel_rfl) (fun vs m => by kernel_rfl)
  | 0, _ + 1, h => absurd h (by omega)
  | q + 1, 0, _ => goodL_succ (np := 2) (l := 2) (live := [0, 1, 5]) (n := 1) CT_ok rfl okc_laws_markByteSS (c := (Try.f123.body.get rfl)) rfl cok_laws_markByteSS (by kernel_rfl) (gl_laws_markByteSS k q) (by kernel_rfl) rfl (fun vs m r hl h => match vs, hl with
    | [t0, t1, t5], _ => (le_laws_markByteSS_0 k q t0 t1 t5 m).trans h)
  | _ + 1, _ + 1, h => absurd h (by omega)
theorem ok_X_laws_markByteSS : OkX CT 123 X_laws_markByteSS := OkX.of_ex (cf := cf_laws_markByteSS) (np := 2) (LL := LL_laws_markByteSS) (J := (fun k => J_laws_markByteSS k QQ)) CT_ok rfl Try.func123 rfl (Nat.le_of_ble_eq_true rfl) (by decide) cok_laws_markByteSS okc_laws_markByteSS (fun k => allLoops rfl (by kernel_rfl) (gl_laws_markByteSS k QQ)) (fun args m r h => match args, h with
    | [t0, t1], h => ⟨rfl, (xe_laws_markByteSS t0 t1 m).trans h⟩)
theorem ok_C_laws_markByteSS : OkC CT 123 C_laws_markByteSS := rcall_ok rfl ok_X_laws_markByteSS

/-! ### laws.markConsoleS -/
noncomputable def cf_laws_markConsoleS : CallF := cfc 33 C_laws_markByteS (cfc 69 C_laws_markBoolS (cfc 70 C_laws_markInt64S (cfc 116 C_laws_markCellS (cfc 123 C_laws_markByteSS cfn))))
noncomputable def L_laws_markConsoleS (k : Nat) : Nat → Nat → List Value → Mem → Option VM
  | q + 1, 0, [t0, t1, t5], m =>
    (lenX t0) |> bo fun t8 =>
    (binX .lss .no t5 t8) |> bo fun t9 =>
    brX t9
      (
        (ixaX 38 t0 t5) |> bo fun t15 =>
        (fadX 0 t15) |> bo fun t16 =>
        (fadX 0 t16) |> bo fun t17 =>
        (fadX 0 t17) |> bo fun t18 =>
        (stX m 1 t18 t1) |> bo fun m7 =>
        (binX .add .no t1 (.int .i64 1)) |> bo fun t20 =>
        (ixaX 38 t0 t5) |> bo fun t24 =>
        (fadX 0 t24) |> bo fun t25 =>
        (fadX 0 t25) |> bo fun t26 =>
        (fadX 1 t26) |> bo fun t27 =>
        (stX m7 1 t27 t20) |> bo fun m13 =>
        (binX .add .no t20 (.int .i64 1)) |> bo fun t29 =>
        (ixaX 38 t0 t5) |> bo fun t33 =>
        (fadX 0 t33) |> bo fun t34 =>
        (fadX 0 t34) |> bo fun t35 =>
        (fadX 2 t35) |> bo fun t36 =>
        (stX m13 1 t36 t29) |> bo fun m19 =>
        (binX .add .no t29 (.int .i64 1)) |> bo fun t38 =>
        (ixaX 38 t0 t5) |> bo fun t42 =>
        (fadX 0 t42) |> bo fun t43 =>
        (fadX 3 t43) |> bo fun t44 =>
        (fadX 0 t44) |> bo fun t45 =>
        (stX m19 1 t45 t38) |> bo fun m25 =>
        (binX .add .no t38 (.int .i64 1)) |> bo fun t47 =>
        (ixaX 38 t0 t5) |> bo fun t51 =>
        (fadX 0 t51) |> bo fun t52 =>
        (fadX 3 t52) |> bo fun t53 =>
        (fadX 1 t53) |> bo fun t54 =>
        (stX m25 1 t54 t47) |> bo fun m31 =>
        (binX .add .no t47 (.int .i64 1)) |> bo fun t56 =>
        (binX .rem .no t56 (.int .i64 3)) |> bo fun t60 =>
        (binX .eql .no t60 (.int .i64 0)) |> bo fun t61 =>
        (ixaX 38 t0 t5) |> bo fun t62 =>
        (fadX 0 t62) |> bo fun t63 =>
        (fadX 3 t63) |> bo fun t64 =>
        (fadX 2 t64) |> bo fun t65 =>
        (stX m31 1 t65 t61) |> bo fun m39 =>
        (binX .add .no t56 (.int .i64 1)) |> bo fun t67 =>
        (ixaX 38 t0 t5) |> bo fun t70 =>
        (fadX 0 t70) |> bo fun t71 =>
        (fadX 3 t71) |> bo fun t72 =>
        (fadX 3 t72) |> bo fun t73 =>
        (ld1 m39 t73) |> bo fun t74 =>
        (C_laws_markInt64S [t74, t67] m39) |> bo fun r46 =>
        (ixaX 38 t0 t5) |> bo fun t80 =>
        (fadX 0 t80) |> bo fun t81 =>
        (fadX 7 t81) |> bo fun t82 =>
        (fadX 0 t82) |> bo fun t83 =>
        (fadX 0 t83) |> bo fun t84 =>
        (stX r46.2 1 t84 r46.1) |> bo fun m52 =>
        (binX .add .no r46.1 (.int .i64 1)) |> bo fun t86 =>
        (ixaX 38 t0 t5) |> bo fun t90 =>
        (fadX 0 t90) |> bo fun t91 =>
        (fadX 7 t91) |> bo fun t92 =>
        (fadX 0 t92) |> bo fun t93 =>
        (fadX 1 t93) |> bo fun t94 =>
        (stX m52 1 t94 t86) |> bo fun m59 =>
        (binX .add .no t86 (.int .i64 1)) |> bo fun t96 =>
        (ixaX 38 t0 t5) |> bo fun t99 =>
        (fadX 0 t99) |> bo fun t100 =>
        (fadX 7 t100) |> bo fun t101 =>
        (fadX 0 t101) |> bo fun t102 =>
        (fadX 2 t102) |> bo fun t103 =>
        (ld1 m59 t103) |> bo fun t104 =>
        (C_laws_markCellS [t104, t96] m59) |> bo fun r67 =>
        (ixaX 38 t0 t5) |> bo fun t109 =>
        (fadX 0 t109) |> bo fun t110 =>
        (fadX 7 t110) |> bo fun t111 =>
        (fadX 0 t111) |> bo fun t112 =>
        (fadX 3 t112) |> bo fun t113 =>
        (ld1 r67.2 t113) |> bo fun t114 =>
        (C_laws_markCellS [t114, r67.1] r67.2) |> bo fun r74 =>
        (ixaX 38 t0 t5) |> bo fun t120 =>
        (fadX 0 t120) |> bo fun t121 =>
        (fadX 7 t121) |> bo fun t122 =>
        (fadX 4 t122) |> bo fun t123 =>
        (stX r74.2 1 t123 r74.1) |> bo fun m79 =>
        (binX .add .no r74.1 (.int .i64 1)) |> bo fun t125 =>
        (ixaX 38 t0 t5) |> bo fun t129 =>
        (fadX 0 t129) |> bo fun t130 =>
        (fadX 7 t130) |> bo fun t131 =>
        (fadX 5 t131) |> bo fun t132 =>
        (stX m79 1 t132 t125) |> bo fun m85 =>
        (binX .add .no t125 (.int .i64 1)) |> bo fun t134 =>
        (binX .rem .no t134 (.int .i64 3)) |> bo fun t138 =>
        (binX .eql .no t138 (.int .i64 0)) |> bo fun t139 =>
        (ixaX 38 t0 t5) |> bo fun t140 =>
        (fadX 0 t140) |> bo fun t141 =>
        (fadX 7 t141) |> bo fun t142 =>
        (fadX 6 t142) |> bo fun t143 =>
        (stX m85 1 t143 t139) |> bo fun m93 =>
        (binX .add .no t134 (.int .i64 1)) |> bo fun t145 =>
        (ixaX 38 t0 t5) |> bo fun t149 =>
        (fadX 0 t149) |> bo fun t150 =>
        (fadX 7 t150) |> bo fun t151 =>
        (fadX 7 t151) |> bo fun t152 =>
        (stX m93 1 t152 t145) |> bo fun m99 =>
        (binX .add .no t145 (.int .i64 1)) |> bo fun t154 =>
        (ixaX 38 t0 t5) |> bo fun t158 =>
        (fadX 0 t158) |> bo fun t159 =>
        (fadX 7 t159) |> bo fun t160 =>
        (fadX 8 t160) |> bo fun t161 =>
        (stX m99 1 t161 t154) |> bo fun m105 =>
        (binX .add .no t154 (.int .i64 1)) |> bo fun t163 =>
        (ixaX 38 t0 t5) |> bo fun t167 =>
        (fadX 0 t167) |> bo fun t168 =>
        (fadX 7 t168) |> bo fun t169 =>
        (fadX 9 t169) |> bo fun t170 =>
        (stX m105 1 t170 t163) |> bo fun m111 =>
        (binX .add .no t163 (.int .i64 1)) |> bo fun t172 =>
        (binX .rem .no t172 (.int .i64 3)) |> bo fun t176 =>
        (binX .eql .no t176 (.int .i64 0)) |> bo fun t177 =>
        (ixaX 38 t0 t5) |> bo fun t178 =>
        (fadX 0 t178) |> bo fun t179 =>
        (fadX 7 t179) |> bo fun t180 =>
        (fadX 10 t180) |> bo fun t181 =>
        (stX m111 1 t181 t177) |> bo fun m119 =>
        (binX .add .no t172 (.int .i64 1)) |> bo fun t183 =>
        (binX .rem .no t183 (.int .i64 3)) |> bo fun t187 =>
        (binX .eql .no t187 (.int .i64 0)) |> bo fun t188 =>
        (ixaX 38 t0 t5) |> bo fun t189 =>
        (fadX 0 t189) |> bo fun t190 =>
        (fadX 7 t190) |> bo fun t191 =>
        (fadX 11 t191) |> bo fun t192 =>
        (stX m119 1 t192 t188) |> bo fun m127 =>
        (binX .add .no t183 (.int .i64 1)) |> bo fun t194 =>
        (binX .rem .no t194 (.int .i64 3)) |> bo fun t198 =>
        (binX .eql .no t198 (.int .i64 0)) |> bo fun t199 =>
        (ixaX 38 t0 t5) |> bo fun t200 =>
        (fadX 0 t200) |> bo fun t201 =>
        (fadX 7 t201) |> bo fun t202 =>
        (fadX 12 t202) |> bo fun t203 =>
        (stX m127 1 t203 t199) |> bo fun m135 =>
        (binX .add .no t194 (.int .i64 1)) |> bo fun t205 =>
        (ixaX 38 t0 t5) |> bo fun t208 =>
        (fadX 0 t208) |> bo fun t209 =>
        (fadX 7 t209) |> bo fun t210 =>
        (fadX 13 t210) |> bo fun t211 =>
        (ld1 m135 t211) |> bo fun t212 =>
        (C_laws_markBoolS [t212, t205] m135) |> bo fun r142 =>
        (ixaX 38 t0 t5) |> bo fun t218 =>
        (fadX 0 t218) |> bo fun t219 =>
        (fadX 7 t219) |> bo fun t220 =>
        (fadX 14 t220) |> bo fun t221 =>
        (stX r142.2 1 t221 r142.1) |> bo fun m147 =>
        (binX .add .no r142.1 (.int .i64 1)) |> bo fun t223 =>
        (ixaX 38 t0 t5) |> bo fun t227 =>
        (fadX 0 t227) |> bo fun t228 =>
        (fadX 7 t228) |> bo fun t229 =>
        (fadX 15 t229) |> bo fun t230 =>
        (stX m147 1 t230 t223) |> bo fun m153 =>
        (binX .add .no t223 (.int .i64 1)) |> bo fun t232 =>
        (ixaX 38 t0 t5) |> bo fun t236 =>
        (fadX 0 t236) |> bo fun t237 =>
        (fadX 7 t237) |> bo fun t238 =>
        (fadX 16 t238) |> bo fun t239 =>
        (stX m153 1 t239 t232) |> bo fun m159 =>
        (binX .add .no t232 (.int .i64 1)) |> bo fun t241 =>
        (ixaX 38 t0 t5) |> bo fun t244 =>
        (fadX 0 t244) |> bo fun t245 =>
        (fadX 7 t245) |> bo fun t246 =>
        (fadX 17 t246) |> bo fun t247 =>
        (ld1 m159 t247) |> bo fun t248 =>
        (C_laws_markInt64S [t248, t241] m159) |> bo fun r166 =>
        (ixaX 38 t0 t5) |> bo fun t254 =>
        (fadX 0 t254) |> bo fun t255 =>
        (fadX 7 t255) |> bo fun t256 =>
        (fadX 18 t256) |> bo fun t257 =>
        (stX r166.2 1 t257 r166.1) |> bo fun m171 =>
        (binX .add .no r166.1 (.int .i64 1)) |> bo fun t259 =>
        (ixaX 38 t0 t5) |> bo fun t263 =>
        (fadX 0 t263) |> bo fun t264 =>
        (fadX 7 t264) |> bo fun t265 =>
        (fadX 19 t265) |> bo fun t266 =>
        (stX m171 1 t266 t259) |> bo fun m177 =>
        (binX .add .no t259 (.int .i64 1)) |> bo fun t268 =>
        (ixaX 38 t0 t5) |> bo fun t272 =>
        (fadX 27 t272) |> bo fun t273 =>
        (fadX 0 t273) |> bo fun t274 =>
        (stX m177 1 t274 t268) |> bo fun m182 =>
        (binX .add .no t268 (.int .i64 1)) |> bo fun t276 =>
        (ixaX 38 t0 t5) |> bo fun t280 =>
        (fadX 27 t280) |> bo fun t281 =>
        (fadX 1 t281) |> bo fun t282 =>
        (stX m182 1 t282 t276) |> bo fun m187 =>
        (binX .add .no t276 (.int .i64 1)) |> bo fun t284 =>
        (ixaX 38 t0 t5) |> bo fun t288 =>
        (fadX 27 t288) |> bo fun t289 =>
        (fadX 2 t289) |> bo fun t290 =>
        (stX m187 1 t290 t284) |> bo fun m192 =>
        (binX .add .no t284 (.int .i64 1)) |> bo fun t292 =>
        (ixaX 38 t0 t5) |> bo fun t296 =>
        (fadX 27 t296) |> bo fun t297 =>
        (fadX 3 t297) |> bo fun t298 =>
        (stX m192 1 t298 t292) |> bo fun m197 =>
        (binX .add .no t292 (.int .i64 1)) |> bo fun t300 =>
        (ixaX 38 t0 t5) |> bo fun t304 =>
        (fadX 27 t304) |> bo fun t305 =>
        (fadX 4 t305) |> bo fun t306 =>
        (stX m197 1 t306 t300) |> bo fun m202 =>
        (binX .add .no t300 (.int .i64 1)) |> bo fun t308 =>
        (ixaX 38 t0 t5) |> bo fun t312 =>
        (fadX 27 t312) |> bo fun t313 =>
        (fadX 5 t313) |> bo fun t314 =>
        (stX m202 1 t314 t308) |> bo fun m207 =>
        (binX .add .no t308 (.int .i64 1)) |> bo fun t316 =>
        (ixaX 38 t0 t5) |> bo fun t320 =>
        (fadX 27 t320) |> bo fun t321 =>
        (fadX 6 t321) |> bo fun t322 =>
        (stX m207 1 t322 t316) |> bo fun m212 =>
        (binX .add .no t316 (.int .i64 1)) |> bo fun t324 =>
        (ixaX 38 t0 t5) |> bo fun t327 =>
        (fadX 34 t327) |> bo fun t328 =>
        (fadX 0 t328) |> bo fun t329 =>
        (ld1 m212 t329) |> bo fun t330 =>
        (C_laws_markByteSS [t330, t324] m212) |> bo fun r218 =>
        (ixaX 38 t0 t5) |> bo fun t335 =>
        (fadX 34 t335) |> bo fun t336 =>
        (fadX 1 t336) |> bo fun t337 =>
        (ld1 r218.2 t337) |> bo fun t338 =>
        (C_laws_markByteS [t338, r218.1] r218.2) |> bo fun r223 =>
        (binX .rem .no r223.1 (.int .i64 3)) |> bo fun t344 =>
        (binX .eql .no t344 (.int .i64 0)) |> bo fun t345 =>
        (ixaX 38 t0 t5) |> bo fun t346 =>
        (fadX 34 t346) |> bo fun t347 =>
        (fadX 2 t347) |> bo fun t348 =>
        (stX r223.2 1 t348 t345) |> bo fun m229 =>
        (binX .add .no r223.1 (.int .i64 1)) |> bo fun t350 =>
        (ixaX 38 t0 t5) |> bo fun t354 =>
        (fadX 34 t354) |> bo fun t355 =>
        (fadX 3 t355) |> bo fun t356 =>
        (stX m229 1 t356 t350) |> bo fun m234 =>
        (binX .add .no t350 (.int .i64 1)) |> bo fun t358 =>
        (binX .add .no t5 (.int .i64 1)) |> bo fun t11 =>
        cutK k m234 [t0, t358] [t0, t358, t11] (L_laws_markConsoleS k q 0))
      (
        retK k m [t0, t1] t1)
  | _, _, _, _ => none
noncomputable def J_laws_markConsoleS (k q l : Nat) : List Value → Mem → Option VM := cond (Nat.beq l 2) (L_laws_markConsoleS k q 0) (fun _ _ => none)
def LL_laws_markConsoleS : List (Nat × List Tmp) := [(2, [0, 1, 5])]
noncomputable def X_laws_markConsoleS : List Value → Mem → Option VM
  | [t0, t1], m =>
    cutK m.length m [t0, t1] [t0, t1, (.int .i64 0)] (L_laws_markConsoleS m.length QQ 0)
  | _, _ => none
noncomputable def C_laws_markConsoleS : List Value → Mem → Option VM := rcall X_laws_markConsoleS
@[simp] theorem c_laws_markConsoleS : C_laws_markConsoleS = rcall X_laws_markConsoleS := (rfl)
theorem cok_laws_markConsoleS : codeOk CT Try.f82 (Try.f82.body.get rfl) = true := by kernel_rfl
theorem xe_laws_markConsoleS (t0 t1 : Value) (m : Mem) : ex CT cf_laws_markConsoleS Try.f82 2 m.length LL_laws_markConsoleS (J_laws_markConsoleS m.length QQ) 400 [.code (Try.f82.body.get rfl)] (argsT 0 [t0, t1]) m = X_laws_markConsoleS [t0, t1] m := by kernel_rfl
theorem okc_laws_markConsoleS : CallOK CT cf_laws_markConsoleS := cfc_ok ok_C_laws_markByteS (cfc_ok ok_C_laws_markBoolS (cfc_ok ok_C_laws_markInt64S (cfc_ok ok_C_laws_markCellS (cfc_ok ok_C_laws_markByteSS cfn_ok))))
theorem le_laws_markConsoleS_0 (k q : Nat) (t0 t1 t5 : Value) (m : Mem) : ex CT cf_laws_markConsoleS Try.f82 2 k LL_laws_markConsoleS (J_laws_markConsoleS k q) 400 (atLoop Try.f82 0) [(0, t0), (1, t1), (5, t5)] m = J_laws_markConsoleS k (q + 1) 2 [t0, t1, t5] m := by kernel_rfl
theorem gl_laws_markConsoleS (k : Nat) : ∀ q i, i < 1 → GoodL CT k Try.f82 LL_laws_markConsoleS (J_laws_markConsoleS k q) (atLoop Try.f82 i)
  | 0, 0, _ => goodL_zero (l := 2) (by kernel_rfl) (fun vs m => by kernel_rfl)
  | 0, _ + 1, h => absurd h (by omega)
  | q + 1, 0, _ => goodL_succ (np := 2) (l := 2) (live := [0, 1, 5]) (n := 1) CT_ok rfl okc_laws_markConsoleS (c := (Try.f82.body.get rfl)) rfl cok_laws_markConsoleS (by kernel_rfl) (gl_laws_markConsoleS k q) (by kernel_rfl) rfl (fun vs m r hl h => match vs, hl with
    | [t0, t1, t5], _ => (le_laws_markConsoleS_0 k q t0 t1 t5 m).trans h)
  | _ + 1, _ + 1, h => absurd h (by omega)
theorem ok_X_laws_markConsoleS : OkX CT 82 X_laws_markConsoleS := OkX.of_ex (cf := cf_laws_markConsoleS) (np := 2) (LL := LL_laws_markConsoleS) (J := (fun k => J_laws_markConsoleS k QQ)) CT_ok rfl Try.func82 rfl (Nat.le_of_ble_eq_true rfl) (by decide) cok_laws_markConsoleS okc_laws_markConsoleS (fun k => allLoops rfl (by kernel_rfl) (gl_laws_markConsoleS k QQ)) (fun args m r h => match args, h with
    | [t0, t1], h => ⟨rfl, (xe_laws_markConsoleS t0 t1 m).trans h⟩)
theorem ok_C_laws_markConsoleS : OkC CT 82 C_laws_markConsoleS := rcall_ok rfl ok_X_laws_markConsoleS

/-! ### laws.markBindS -/
noncomputable def cf_laws_markBindS : CallF := cfn
noncomputable def L_laws_markBindS (k : Nat) : Nat → Nat → List Value → Mem → Option VM
  | q + 1, 0, [t0, t1, t5], m =>
    (lenX t0) |> bo fun t8 =>
    (binX .lss .no t5 t8) |> bo fun t9 =>
    brX t9
      (
        (ixaX 4 t0 t5) |> bo fun t15 =>
        (fadX 0 t15) |> bo fun t16 =>
        (stX m 1 t16 t1) |> bo fun m5 =>
        (binX .add .no t1 (.int .i64 1)) |> bo fun t18 =>
        (ixaX 4 t0 t5) |> bo fun t22 =>
        (fadX 1 t22) |> bo fun t23 =>
        (stX m5 1 t23 t18) |> bo fun m9 =>
        (binX .add .no t18 (.int .i64 1)) |> bo fun t25 =>
        (ixaX 4 t0 t5) |> bo fun t29 =>
        (fadX 2 t29) |> bo fun t30 =>
        (fadX 0 t30) |> bo fun t31 =>
        (stX m9 1 t31 t25) |> bo fun m14 =>
        (binX .add .no t25 (.int .i64 1)) |> bo fun t33 =>
        (ixaX 4 t0 t5) |> bo fun t37 =>
        (fadX 2 t37) |> bo fun t38 =>
        (fadX 1 t38) |> bo fun t39 =>
        (stX m14 1 t39 t33) |> bo fun m19 =>
        (binX .add .no t33 (.int .i64 1)) |> bo fun t41 =>
        (binX .add .no t5 (.int .i64 1)) |> bo fun t11 =>
        cutK k m19 [t0, t41] [t0, t41, t11] (L_laws_markBindS k q 0))
      (
        retK k m [t0, t1] t1)
  | _, _, _, _ => none
noncomputable def J_laws_markBindS (k q l : Nat) : List Value → Mem → Option VM := cond (Nat.beq l 2) (L_laws_markBindS k q 0) (fun _ _ => none)
def LL_laws_markBindS : List (Nat × List Tmp) := [(2, [0, 1, 5])]
noncomputable def X_laws_markBindS : List Value → Mem → Option VM
  | [t0, t1], m =>
    cutK m.length m [t0, t1] [t0, t1, (.int .i64 0)] (L_laws_markBindS m.length QQ 0)
  | _, _ => none
noncomputable def C_laws_markBindS : List Value → Mem → Option VM := rcall X_laws_markBindS
@[simp] theorem c_laws_markBindS : C_laws_markBindS = rcall X_laws_markBindS := (rfl)
theorem cok_laws_markBindS : codeOk CT Try.f83 (Try.f83.body.get rfl) = true := by kernel_rfl
theorem xe_laws_markBindS (t0 t1 : Value) (m : Mem) : ex CT cf_laws_markBindS Try.f83 2 m.length LL_laws_markBindS (J_laws_markBindS m.length QQ) 400 [.code (Try.f83.body.get rfl)] (argsT 0 [t0, t1]) m = X_laws_markBindS [t0, t1] m := by kernel_rfl
theorem okc_laws_markBindS : CallOK CT cf_laws_markBindS := cfn_ok
theorem le_laws_markBindS_0 (k q : Nat) (t0 t1 t5 : Value) (m : Mem) : ex CT cf_laws_markBindS Try.f83 2 k LL_laws_markBindS (J_laws_markBindS k q) 400 (atLoop Try.f83 0) [(0, t0), (1, t1), (5, t5)] m = J_laws_markBindS k (q + 1) 2 [t0, t1, t5] m := by kernel_rfl
theorem gl_laws_markBindS (k : Nat) : ∀ q i, i < 1 → GoodL CT k Try.f83 LL_laws_markBindS (J_laws_markBindS k q) (atLoop Try.f83 i)
  | 0, 0, _ => goodL_zero (l := 2) (by kernel_rfl) (fun vs m => by kernel_rfl)
  | 0, _ + 1, h => absurd h (by omega)
  | q + 1, 0, _ => goodL_succ (np := 2) (l := 2) (live := [0, 1, 5]) (n := 1) CT_ok rfl okc_laws_markBindS (c := (Try.f83.body.get rfl)) rfl cok_laws_markBindS (by kernel_rfl) (gl_laws_markBindS k q) (by kernel_rfl) rfl (fun vs m r hl h => match vs, hl with
    | [t0, t1, t5], _ => (le_laws_markBindS_0 k q t0 t1 t5 m).trans h)
  | _ + 1, _ + 1, h => absurd h (by omega)
theorem ok_X_laws_markBindS : OkX CT 83 X_laws_markBindS := OkX.of_ex (cf := cf_laws_markBindS) (np := 2) (LL := LL_laws_markBindS) (J := (fun k => J_laws_markBindS k QQ)) CT_ok rfl Try.func83 rfl (Nat.le_of_ble_eq_true rfl) (by decide) cok_laws_markBindS okc_laws_markBindS (fun k => allLoops rfl (by kernel_rfl) (gl_laws_markBindS k QQ)) (fun args m r h => match args, h with
    | [t0, t1], h => ⟨rfl, (xe_laws_markBindS t0 t1 m).trans h⟩)
theorem ok_C_laws_markBindS : OkC CT 83 C_laws_markBindS := rcall_ok rfl ok_X_laws_markBindS

/-! ### laws.markText -/
noncomputable def cf_laws_markText : CallF := cfn
noncomputable def L_laws_markText (k : Nat) : Nat → Nat → List Value → Mem → Option VM
  | q + 1, 0, [t0, t3], m =>
    (binX .gtr .no t0 (.int .i64 0)) |> bo fun t7 =>
    brX t7
      (
        (binX .rem .no t0 (.int .i64 10)) |> bo fun t9 =>
        (binX .add .no (.int .i64 48) t9) |> bo fun t10 =>
        (cvI .u8 t10) |> bo fun t11 =>
        (bslX m 1 1 [.int .u8 0] [(0, 1, t11)]) |> bo fun r5 =>
        (cvBS r5.2 r5.1) |> bo fun t13 =>
        (binX .add .no t13 t3) |> bo fun t15 =>
        (binX .quo .no t0 (.int .i64 10)) |> bo fun t17 =>
        cutK k r5.2 [t17] [t17, t15] (L_laws_markText k q 0))
      (
        (binX .add .no (.string ⟨#[109]⟩) t3) |> bo fun t19 =>
        retK k m [t0] t19)
  | _, _, _, _ => none
noncomputable def J_laws_markText (k q l : Nat) : List Value → Mem → Option VM := cond (Nat.beq l 4) (L_laws_markText k q 0) (fun _ _ => none)
def LL_laws_markText : List (Nat × List Tmp) := [(4, [0, 3])]
noncomputable def X_laws_markText : List Value → Mem → Option VM
  | [t0], m =>
    (binX .leq .no t0 (.int .i64 0)) |> bo fun t5 =>
    brX t5
      (
        retK m.length m [t0] (.string ⟨#[109, 48]⟩))
      (
        cutK m.length m [t0] [t0, (.string ⟨#[]⟩)] (L_laws_markText m.length QQ 0))
  | _, _ => none
noncomputable def C_laws_markText : List Value → Mem → Option VM := fcall X_laws_markText
@[simp] theorem c_laws_markText : C_laws_markText = fcall X_laws_markText := (rfl)
theorem cok_laws_markText : codeOk CT Try.f124 (Try.f124.body.get rfl) = true := by kernel_rfl
theorem xe_laws_markText (t0 : Value) (m : Mem) : ex CT cf_laws_markText Try.f124 1 m.length LL_laws_markText (J_laws_markText m.length QQ) 400 [.code (Try.f124.body.get rfl)] (argsT 0 [t0]) m = X_laws_markText [t0] m := by kernel_rfl
theorem okc_laws_markText : CallOK CT cf_laws_markText := cfn_ok
theorem le_laws_markText_0 (k q : Nat) (t0 t3 : Value) (m : Mem) : ex CT cf_laws_markText Try.f124 1 k LL_laws_markText (J_laws_markText k q) 400 (atLoop Try.f124 0) [(0, t0), (3, t3)] m = J_laws_markText k (q + 1) 4 [t0, t3] m := by kernel_rfl
theorem gl_laws_markText (k : Nat) : ∀ q i, i < 1 → GoodL CT k Try.f124 LL_laws_markText (J_laws_markText k q) (atLoop Try.f124 i)
  | 0, 0, _ => goodL_zero (l := 4) (by kernel_rfl) (fun vs m => by kernel_rfl)
  | 0, _ + 1, h => absurd h (by omega)
  | q + 1, 0, _ => goodL_succ (np := 1) (l := 4) (live := [0, 3]) (n := 1) CT_ok rfl okc_laws_markText (c := (Try.f124.body.get rfl)) rfl cok_laws_markText (by kernel_rfl) (gl_laws_markText k q) (by kernel_rfl) rfl (fun vs m r hl h => match vs, hl with
    | [t0, t3], _ => (le_laws_markText_0 k q t0 t3 m).trans h)
  | _ + 1, _ + 1, h => absurd h (by omega)
theorem ok_X_laws_markText : OkX CT 124 X_laws_markText := OkX.of_ex (cf := cf_laws_markText) (np := 1) (LL := LL_laws_markText) (J := (fun k => J_laws_markText k QQ)) CT_ok rfl Try.func124 rfl (Nat.le_of_ble_eq_true rfl) (by decide) cok_laws_markText okc_laws_markText (fun k => allLoops rfl (by kernel_rfl) (gl_laws_markText k QQ)) (fun args m r h => match args, h with
    | [t0], h => ⟨rfl, (xe_laws_markText t0 m).trans h⟩)
theorem ok_C_laws_markText : OkC CT 124 C_laws_markText := fcall_ok rfl ok_X_laws_markText

/-! ### laws.markStringS -/
noncomputable def cf_laws_markStringS : CallF := cfc 124 C_laws_markText cfn
noncomputable def L_laws_markStringS (k : Nat) : Nat → Nat → List Value → Mem → Option VM
  | q + 1, 0, [t0, t1, t5], m =>
    (lenX t0) |> bo fun t8 =>
    (binX .lss .no t5 t8) |> bo fun t9 =>
    brX t9
      (
        (C_laws_markText [t1] m) |> bo fun r3 =>
        (ixaX 1 t0 t5) |> bo fun t16 =>
        (stX r3.2 1 t16 r3.1) |> bo fun m5 =>
        (binX .add .no t1 (.int .i64 1)) |> bo fun t18 =>
        (binX .add .no t5 (.int .i64 1)) |> bo fun t11 =>
        cutK k m5 [t0, t18] [t0, t18, t11] (L_laws_markStringS k q 0))
      (
        retK k m [t0, t1] t1)
  | _, _, _, _ => none
noncomputable def J_laws_markStringS (k q l : Nat) : List Value → Mem → Option VM := cond (Nat.beq l 2) (L_laws_markStringS k q 0) (fun _ _ => none)
def LL_laws_markStringS : List (Nat × List Tmp) := [(2, [0, 1, 5])]
noncomputable def X_laws_markStringS : List Value → Mem → Option VM
  | [t0, t1], m =>
    cutK m.length m [t0, t1] [t0, t1, (.int .i64 0)] (L_laws_markStringS m.length QQ 0)
  | _, _ => none
noncomputable def C_laws_markStringS : List Value → Mem → Option VM := rcall X_laws_markStringS
@[simp] theorem c_laws_markStringS : C_laws_markStringS = rcall X_laws_markStringS := (rfl)
theorem cok_laws_markStringS : codeOk CT Try.f84 (Try.f84.body.get rfl) = true := by kernel_rfl
theorem xe_laws_markStringS (t0 t1 : Value) (m : Mem) : ex CT cf_laws_markStringS Try.f84 2 m.length LL_laws_markStringS (J_laws_markStringS m.length QQ) 400 [.code (Try.f84.body.get rfl)] (argsT 0 [t0, t1]) m = X_laws_markStringS [t0, t1] m := by kernel_rfl
theorem okc_laws_markStringS : CallOK CT cf_laws_markStringS := cfc_ok ok_C_laws_markText cfn_ok
theorem le_laws_markStringS_0 (k q : Nat) (t0 t1 t5 : Value) (m : Mem) : ex CT cf_laws_markStringS Try.f84 2 k LL_laws_markStringS (J_laws_markStringS k q) 400 (atLoop Try.f84 0) [(0, t0), (1, t1), (5, t5)] m = J_laws_markStringS k (q + 1) 2 [t0, t1, t5] m := by kernel_rfl
theorem gl_laws_markStringS (k : Nat) : ∀ q i, i < 1 → GoodL CT k Try.f84 LL_laws_markStringS (J_laws_markStringS k q) (atLoop Try.f84 i)
  | 0, 0, _ => goodL_zero (l := 2) (by kernel_rfl) (fun vs m => by kernel_rfl)
  | 0, _ + 1, h => absurd h (by omega)
  | q + 1, 0, _ => goodL_succ (np := 2) (l := 2) (live := [0, 1, 5]) (n := 1) CT_ok rfl okc_laws_markStringS (c := (Try.f84.body.get rfl)) rfl cok_laws_markStringS (by kernel_rfl) (gl_laws_markStringS k q) (by kernel_rfl) rfl (fun vs m r hl h => match vs, hl with
    | [t0, t1, t5], _ => (le_laws_markStringS_0 k q t0 t1 t5 m).trans h)
  | _ + 1, _ + 1, h => absurd h (by omega)
theorem ok_X_laws_markStringS : OkX CT 84 X_laws_markStringS := OkX.of_ex (cf := cf_laws_markStringS) (np := 2) (LL := LL_laws_markStringS) (J := (fun k => J_laws_markStringS k QQ)) CT_ok rfl Try.func84 rfl (Nat.le_of_ble_eq_true rfl) (by decide) cok_laws_markStringS okc_laws_markStringS (fun k => allLoops rfl (by kernel_rfl) (gl_laws_markStringS k QQ)) (fun args m r h => match args, h with
    | [t0, t1], h => ⟨rfl, (xe_laws_markStringS t0 t1 m).trans h⟩)
theorem ok_C_laws_markStringS : OkC CT 84 C_laws_markStringS := rcall_ok rfl ok_X_laws_markStringS

/-! ### laws.markHoldS -/
noncomputable def cf_laws_markHoldS : CallF := cfn
noncomputable def L_laws_markHoldS (k : Nat) : Nat → Nat → List Value → Mem → Option VM
  | q + 1, 0, [t0, t1, t5], m =>
    (lenX t0) |> bo fun t8 =>
    (binX .lss .no t5 t8) |> bo fun t9 =>
    brX t9
      (
        (ixaX 2 t0 t5) |> bo fun t15 =>
        (fadX 0 t15) |> bo fun t16 =>
        (stX m 1 t16 t1) |> bo fun m5 =>
        (binX .add .no t1 (.int .i64 1)) |> bo fun t18 =>
        (ixaX 2 t0 t5) |> bo fun t22 =>
        (fadX 1 t22) |> bo fun t23 =>
        (stX m5 1 t23 t18) |> bo fun m9 =>
        (binX .add .no t18 (.int .i64 1)) |> bo fun t25 =>
        (binX .add .no t5 (.int .i64 1)) |> bo fun t11 =>
        cutK k m9 [t0, t25] [t0, t25, t11] (L_laws_markHoldS k q 0))
      (
        retK k m [t0, t1] t1)
  | _, _, _, _ => none
noncomputable def J_laws_markHoldS (k q l : Nat) : List Value → Mem → Option VM := cond (Nat.beq l 2) (L_laws_markHoldS k q 0) (fun _ _ => none)
def LL_laws_markHoldS : List (Nat × List Tmp) := [(2, [0, 1, 5])]
noncomputable def X_laws_markHoldS : List Value → Mem → Option VM
  | [t0, t1], m =>
    cutK m.length m [t0, t1] [t0, t1, (.int .i64 0)] (L_laws_markHoldS m.length QQ 0)
  | _, _ => none
noncomputable def C_laws_markHoldS : List Value → Mem → Option VM := rcall X_laws_markHoldS
@[simp] theorem c_laws_markHoldS : C_laws_markHoldS = rcall X_laws_markHoldS := (rfl)
theorem cok_laws_markHoldS : codeOk CT Try.f125 (Try.f125.body.get rfl) = true := by kernel_rfl
theorem xe_laws_markHoldS (t0 t1 : Value) (m : Mem) : ex CT cf_laws_markHoldS Try.f125 2 m.length LL_laws_markHoldS (J_laws_markHoldS m.length QQ) 400 [.code (Try.f125.body.get rfl)] (argsT 0 [t0, t1]) m = X_laws_markHoldS [t0, t1] m := by kernel_rfl
theorem okc_laws_markHoldS : CallOK CT cf_laws_markHoldS := cfn_ok
theorem le_laws_markHoldS_0 (k q : Nat) (t0 t1 t5 : Value) (m : Mem) : ex CT cf_laws_markHoldS Try.f125 2 k LL_laws_markHoldS (J_laws_markHoldS k q) 400 (atLoop Try.f125 0) [(0, t0), (1, t1), (5, t5)] m = J_laws_markHoldS k (q + 1) 2 [t0, t1, t5] m := by kernel_rfl
theorem gl_laws_markHoldS (k : Nat) : ∀ q i, i < 1 → GoodL CT k Try.f125 LL_laws_markHoldS (J_laws_markHoldS k q) (atLoop Try.f125 i)
  | 0, 0, _ => goodL_zero (l := 2) (by kernel_rfl) (fun vs m => by kernel_rfl)
  | 0, _ + 1, h => absurd h (by omega)
  | q + 1, 0, _ => goodL_succ (np := 2) (l := 2) (live := [0, 1, 5]) (n := 1) CT_ok rfl okc_laws_markHoldS (c := (Try.f125.body.get rfl)) rfl cok_laws_markHoldS (by kernel_rfl) (gl_laws_markHoldS k q) (by kernel_rfl) rfl (fun vs m r hl h => match vs, hl with
    | [t0, t1, t5], _ => (le_laws_markHoldS_0 k q t0 t1 t5 m).trans h)
  | _ + 1, _ + 1, h => absurd h (by omega)
theorem ok_X_laws_markHoldS : OkX CT 125 X_laws_markHoldS := OkX.of_ex (cf := cf_laws_markHoldS) (np := 2) (LL := LL_laws_markHoldS) (J := (fun k => J_laws_markHoldS k QQ)) CT_ok rfl Try.func125 rfl (Nat.le_of_ble_eq_true rfl) (by decide) cok_laws_markHoldS okc_laws_markHoldS (fun k => allLoops rfl (by kernel_rfl) (gl_laws_markHoldS k QQ)) (fun args m r h => match args, h with
    | [t0, t1], h => ⟨rfl, (xe_laws_markHoldS t0 t1 m).trans h⟩)
theorem ok_C_laws_markHoldS : OkC CT 125 C_laws_markHoldS := rcall_ok rfl ok_X_laws_markHoldS

/-! ### laws.markKeyboard -/
noncomputable def cf_laws_markKeyboard : CallF := cfc 125 C_laws_markHoldS cfn
noncomputable def X_laws_markKeyboard : List Value → Mem → Option VM
  | [t0, t1], m =>
    (boxX m t0) |> bo fun r1 =>
    (fadX 0 r1.1) |> bo fun t5 =>
    (ld1 r1.2 t5) |> bo fun t6 =>
    (C_laws_markHoldS [t6, t1] r1.2) |> bo fun r4 =>
    retK m.length r4.2 [t0, r4.1] r4.1
  | _, _ => none
noncomputable def C_laws_markKeyboard : List Value → Mem → Option VM := rcall X_laws_markKeyboard
@[simp] theorem c_laws_markKeyboard : C_laws_markKeyboard = rcall X_laws_markKeyboard := (rfl)
theorem cok_laws_markKeyboard : codeOk CT Try.f85 (Try.f85.body.get rfl) = true := by kernel_rfl
theorem xe_laws_markKeyboard (t0 t1 : Value) (m : Mem) : ex CT cf_laws_markKeyboard Try.f85 2 m.length [] (fun _ _ _ => none) 400 [.code (Try.f85.body.get rfl)] (argsT 0 [t0, t1]) m = X_laws_markKeyboard [t0, t1] m := by kernel_rfl
theorem okc_laws_markKeyboard : CallOK CT cf_laws_markKeyboard := cfc_ok ok_C_laws_markHoldS cfn_ok
theorem ok_X_laws_markKeyboard : OkX CT 85 X_laws_markKeyboard := OkX.of_ex (cf := cf_laws_markKeyboard) (np := 2) (LL := []) (J := (fun _ _ _ _ => none)) CT_ok rfl Try.func85 rfl (Nat.le_of_ble_eq_true rfl) (by decide) cok_laws_markKeyboard okc_laws_markKeyboard (fun k => noLoops rfl) (fun args m r h => match args, h with
    | [t0, t1], h => ⟨rfl, (xe_laws_markKeyboard t0 t1 m).trans h⟩)
theorem ok_C_laws_markKeyboard : OkC CT 85 C_laws_markKeyboard := rcall_ok rfl ok_X_laws_markKeyboard

/-! ### laws.markMux -/
noncomputable def cf_laws_markMux : CallF := cfc 69 C_laws_markBoolS (cfc 82 C_laws_markConsoleS (cfc 83 C_laws_markBindS (cfc 84 C_laws_markStringS (cfc 85 C_laws_markKeyboard cfn))))
noncomputable def X_laws_markMux : List Value → Mem → Option VM
  | [t0, t1], m =>
    (boxX m t0) |> bo fun r1 =>
    (fadX 0 r1.1) |> bo fun t5 =>
    (ld1 r1.2 t5) |> bo fun t6 =>
    (C_laws_markConsoleS [t6, t1] r1.2) |> bo fun r4 =>
    (fadX 1 r1.1) |> bo fun t9 =>
    (ld1 r4.2 t9) |> bo fun t10 =>
    (C_laws_markBoolS [t10, r4.1] r4.2) |> bo fun r7 =>
    (fadX 5 r1.1) |> bo fun t13 =>
    (ld1 r7.2 t13) |> bo fun t14 =>
    (C_laws_markBindS [t14, r7.1] r7.2) |> bo fun r10 =>
    (fadX 6 r1.1) |> bo fun t17 =>
    (ld1 r10.2 t17) |> bo fun t18 =>
    (C_laws_markStringS [t18, r10.1] r10.2) |> bo fun r13 =>
    (fadX 7 r1.1) |> bo fun t21 =>
    (ldS r13.2 3 t21) |> bo fun t22 =>
    (C_laws_markKeyboard [t22, r13.1] r13.2) |> bo fun r16 =>
    retK m.length r16.2 [t0, r16.1] r16.1
  | _, _ => none
noncomputable def C_laws_markMux : List Value → Mem → Option VM := rcall X_laws_markMux
@[simp] theorem c_laws_markMux : C_laws_markMux = rcall X_laws_markMux := (rfl)
theorem cok_laws_markMux : codeOk CT Try.f34 (Try.f34.body.get rfl) = true := by kernel_rfl
theorem xe_laws_markMux (t0 t1 : Value) (m : Mem) : ex CT cf_laws_markMux Try.f34 2 m.length [] (fun _ _ _ => none) 400 [.code (Try.f34.body.get rfl)] (argsT 0 [t0, t1]) m = X_laws_markMux [t0, t1] m := by kernel_rfl
theorem okc_laws_markMux : CallOK CT cf_laws_markMux := cfc_ok ok_C_laws_markBoolS (cfc_ok ok_C_laws_markConsoleS (cfc_ok ok_C_laws_markBindS (cfc_ok ok_C_laws_markStringS (cfc_ok ok_C_laws_markKeyboard cfn_ok))))
theorem ok_X_laws_markMux : OkX CT 34 X_laws_markMux := OkX.of_ex (cf := cf_laws_markMux) (np := 2) (LL := []) (J := (fun _ _ _ _ => none)) CT_ok rfl Try.func34 rfl (Nat.le_of_ble_eq_true rfl) (by decide) cok_laws_markMux okc_laws_markMux (fun k => noLoops rfl) (fun args m r h => match args, h with
    | [t0, t1], h => ⟨rfl, (xe_laws_markMux t0 t1 m).trans h⟩)
theorem ok_C_laws_markMux : OkC CT 34 C_laws_markMux := rcall_ok rfl ok_X_laws_markMux

/-! ### laws.markMuxResult -/
noncomputable def cf_laws_markMuxResult : CallF := cfc 33 C_laws_markByteS (cfc 34 C_laws_markMux cfn)
noncomputable def X_laws_markMuxResult : List Value → Mem → Option VM
  | [t0, t1], m =>
    (boxX m t0) |> bo fun r1 =>
    (fadX 2 r1.1) |> bo fun t5 =>
    (ld1 r1.2 t5) |> bo fun t6 =>
    (C_laws_markByteS [t6, t1] r1.2) |> bo fun r4 =>
    (fadX 3 r1.1) |> bo fun t9 =>
    (ldS r4.2 10 t9) |> bo fun t10 =>
    (C_laws_markMux [t10, r4.1] r4.2) |> bo fun r7 =>
    retK m.length r7.2 [t0, r7.1] r7.1
  | _, _ => none
noncomputable def C_laws_markMuxResult : List Value → Mem → Option VM := rcall X_laws_markMuxResult
@[simp] theorem c_laws_markMuxResult : C_laws_markMuxResult = rcall X_laws_markMuxResult := (rfl)
theorem cok_laws_markMuxResult : codeOk CT Try.f9 (Try.f9.body.get rfl) = true := by kernel_rfl
theorem xe_laws_markMuxResult (t0 t1 : Value) (m : Mem) : ex CT cf_laws_markMuxResult Try.f9 2 m.length [] (fun _ _ _ => none) 400 [.code (Try.f9.body.get rfl)] (argsT 0 [t0, t1]) m = X_laws_markMuxResult [t0, t1] m := by kernel_rfl
theorem okc_laws_markMuxResult : CallOK CT cf_laws_markMuxResult := cfc_ok ok_C_laws_markByteS (cfc_ok ok_C_laws_markMux cfn_ok)
theorem ok_X_laws_markMuxResult : OkX CT 9 X_laws_markMuxResult := OkX.of_ex (cf := cf_laws_markMuxResult) (np := 2) (LL := []) (J := (fun _ _ _ _ => none)) CT_ok rfl Try.func9 rfl (Nat.le_of_ble_eq_true rfl) (by decide) cok_laws_markMuxResult okc_laws_markMuxResult (fun k => noLoops rfl) (fun args m r h => match args, h with
    | [t0, t1], h => ⟨rfl, (xe_laws_markMuxResult t0 t1 m).trans h⟩)
theorem ok_C_laws_markMuxResult : OkC CT 9 C_laws_markMuxResult := rcall_ok rfl ok_X_laws_markMuxResult

/-! ### laws.heldByteS -/
noncomputable def cf_laws_heldByteS : CallF := cfn
noncomputable def L_laws_heldByteS (k : Nat) : Nat → Nat → List Value → Mem → Option VM
  | q + 1, 0, [t0, t1, t5], m =>
    (lenX t0) |> bo fun t8 =>
    (binX .lss .no t5 t8) |> bo fun t9 =>
    brX t9
      (
        (ixaX 1 t0 t5) |> bo fun t14 =>
        (ld1 m t14) |> bo fun t15 =>
        (cvI .u8 t1) |> bo fun t17 =>
        (binX .neq .no t15 t17) |> bo fun t18 =>
        brX t18
          (
            retK k m [t0, t1] (.int .i64 (-1)))
          (
            (binX .add .no t1 (.int .i64 1)) |> bo fun t20 =>
            (binX .add .no t5 (.int .i64 1)) |> bo fun t11 =>
            cutK k m [t0, t20] [t0, t20, t11] (L_laws_heldByteS k q 0)))
      (
        retK k m [t0, t1] t1)
  | _, _, _, _ => none
noncomputable def J_laws_heldByteS (k q l : Nat) : List Value → Mem → Option VM := cond (Nat.beq l 2) (L_laws_heldByteS k q 0) (fun _ _ => none)
def LL_laws_heldByteS : List (Nat × List Tmp) := [(2, [0, 1, 5])]
noncomputable def X_laws_heldByteS : List Value → Mem → Option VM
  | [t0, t1], m =>
    cutK m.length m [t0, t1] [t0, t1, (.int .i64 0)] (L_laws_heldByteS m.length QQ 0)
  | _, _ => none
noncomputable def C_laws_heldByteS : List Value → Mem → Option VM := fcall X_laws_heldByteS
@[simp] theorem c_laws_heldByteS : C_laws_heldByteS = fcall X_laws_heldByteS := (rfl)
theorem cok_laws_heldByteS : codeOk CT Try.f35 (Try.f35.body.get rfl) = true := by kernel_rfl
theorem xe_laws_heldByteS (t0 t1 : Value) (m : Mem) : ex CT cf_laws_heldByteS Try.f35 2 m.length LL_laws_heldByteS (J_laws_heldByteS m.length QQ) 400 [.code (Try.f35.body.get rfl)] (argsT 0 [t0, t1]) m = X_laws_heldByteS [t0, t1] m := by kernel_rfl
theorem okc_laws_heldByteS : CallOK CT cf_laws_heldByteS := cfn_ok
theorem le_laws_heldByteS_0 (k q : Nat) (t0 t1 t5 : Value) (m : Mem) : ex CT cf_laws_heldByteS Try.f35 2 k LL_laws_heldByteS (J_laws_heldByteS k q) 400 (atLoop Try.f35 0) [(0, t0), (1, t1), (5, t5)] m = J_laws_heldByteS k (q + 1) 2 [t0, t1, t5] m := by kernel_rfl
theorem gl_laws_heldByteS (k : Nat) : ∀ q i, i < 1 → GoodL CT k Try.f35 LL_laws_heldByteS (J_laws_heldByteS k q) (atLoop Try.f35 i)
  | 0, 0, _ => goodL_zero (l := 2) (by kernel_rfl) (fun vs m => by kernel_rfl)
  | 0, _ + 1, h => absurd h (by omega)
  | q + 1, 0, _ => goodL_succ (np := 2) (l := 2) (live := [0, 1, 5]) (n := 1) CT_ok rfl okc_laws_heldByteS (c := (Try.f35.body.get rfl)) rfl cok_laws_heldByteS (by kernel_rfl) (gl_laws_heldByteS k q) (by kernel_rfl) rfl (fun vs m r hl h => match vs, hl with
    | [t0, t1, t5], _ => (le_laws_heldByteS_0 k q t0 t1 t5 m).trans h)
  | _ + 1, _ + 1, h => absurd h (by omega)
theorem ok_X_laws_heldByteS : OkX CT 35 X_laws_heldByteS := OkX.of_ex (cf := cf_laws_heldByteS) (np := 2) (LL := LL_laws_heldByteS) (J := (fun k => J_laws_heldByteS k QQ)) CT_ok rfl Try.func35 rfl (Nat.le_of_ble_eq_true rfl) (by decide) cok_laws_heldByteS okc_laws_heldByteS (fun k => allLoops rfl (by kernel_rfl) (gl_laws_heldByteS k QQ)) (fun args m r h => match args, h with
    | [t0, t1], h => ⟨rfl, (xe_laws_heldByteS t0 t1 m).trans h⟩)
theorem ok_C_laws_heldByteS : OkC CT 35 C_laws_heldByteS := fcall_ok rfl ok_X_laws_heldByteS

/-! ### laws.heldBoolS -/
noncomputable def cf_laws_heldBoolS : CallF := cfn
noncomputable def L_laws_heldBoolS (k : Nat) : Nat → Nat → List Value → Mem → Option VM
  | q + 1, 0, [t0, t1, t5], m =>
    (lenX t0) |> bo fun t8 =>
    (binX .lss .no t5 t8) |> bo fun t9 =>
    brX t9
      (
        (ixaX 1 t0 t5) |> bo fun t14 =>
        (ld1 m t14) |> bo fun t15 =>
        (binX .rem .no t1 (.int .i64 3)) |> bo fun t17 =>
        (binX .eql .no t17 (.int .i64 0)) |> bo fun t18 =>
        (binX .neq .bool t15 t18) |> bo fun t19 =>
        brX t19
          (
            retK k m [t0, t1] (.int .i64 (-1)))
          (
            (binX .add .no t1 (.int .i64 1)) |> bo fun t21 =>
            (binX .add .no t5 (.int .i64 1)) |> bo fun t11 =>
            cutK k m [t0, t21] [t0, t21, t11] (L_laws_heldBoolS k q 0)))
      (
        retK k m [t0, t1] t1)
  | _, _, _, _ => none
noncomputable def J_laws_heldBoolS (k q l : Nat) : List Value → Mem → Option VM := cond (Nat.beq l 2) (L_laws_heldBoolS k q 0) (fun _ _ => none)
def LL_laws_heldBoolS : List (Nat × List Tmp) := [(2, [0, 1, 5])]
noncomputable def X_laws_heldBoolS : List Value → Mem → Option VM
  | [t0, t1], m =>
    cutK m.length m [t0, t1] [t0, t1, (.int .i64 0)] (L_laws_heldBoolS m.length QQ 0)
  | _, _ => none
noncomputable def C_laws_heldBoolS : List Value → Mem → Option VM := fcall X_laws_heldBoolS
@[simp] theorem c_laws_heldBoolS : C_laws_heldBoolS = fcall X_laws_heldBoolS := (rfl)
theorem cok_laws_heldBoolS : codeOk CT Try.f87 (Try.f87.body.get rfl) = true := by kernel_rfl
theorem xe_laws_heldBoolS (t0 t1 : Value) (m : Mem) : ex CT cf_laws_heldBoolS Try.f87 2 m.length LL_laws_heldBoolS (J_laws_heldBoolS m.length QQ) 400 [.code (Try.f87.body.get rfl)] (argsT 0 [t0, t1]) m = X_laws_heldBoolS [t0, t1] m := by kernel_rfl
theorem okc_laws_heldBoolS : CallOK CT cf_laws_heldBoolS := cfn_ok
theorem le_laws_heldBoolS_0 (k q : Nat) (t0 t1 t5 : Value) (m : Mem) : ex CT cf_laws_heldBoolS Try.f87 2 k LL_laws_heldBoolS (J_laws_heldBoolS k q) 400 (atLoop Try.f87 0) [(0, t0), (1, t1), (5, t5)] m = J_laws_heldBoolS k (q + 1) 2 [t0, t1, t5] m := by kernel_rfl
theorem gl_laws_heldBoolS (k : Nat) : ∀ q i, i < 1 → GoodL CT k Try.f87 LL_laws_heldBoolS (J_laws_heldBoolS k q) (atLoop Try.f87 i)
  | 0, 0, _ => goodL_zero (l := 2) (by kernel_rfl) (fun vs m => by kernel_rfl)
  | 0, _ + 1, h => absurd h (by omega)
  | q + 1, 0, _ => goodL_succ (np := 2) (l := 2) (live := [0, 1, 5]) (n := 1) CT_ok rfl okc_laws_heldBoolS (c := (Try.f87.body.get rfl)) rfl cok_laws_heldBoolS (by kernel_rfl) (gl_laws_heldBoolS k q) (by kernel_rfl) rfl (fun vs m r hl h => match vs, hl with
    | [t0, t1, t5], _ => (le_laws_heldBoolS_0 k q t0 t1 t5 m).trans h)
  | _ + 1, _ + 1, h => absurd h (by omega)
theorem ok_X_laws_heldBoolS : OkX CT 87 X_laws_heldBoolS := OkX.of_ex (cf := cf_laws_heldBoolS) (np := 2) (LL := LL_laws_heldBoolS) (J := (fun k => J_laws_heldBoolS k QQ)) CT_ok rfl Try.func87 rfl (Nat.le_of_ble_eq_true rfl) (by decide) cok_laws_heldBoolS okc_laws_heldBoolS (fun k => allLoops rfl (by kernel_rfl) (gl_laws_heldBoolS k QQ)) (fun args m r h => match args, h with
    | [t0, t1], h => ⟨rfl, (xe_laws_heldBoolS t0 t1 m).trans h⟩)
theorem ok_C_laws_heldBoolS : OkC CT 87 C_laws_heldBoolS := fcall_ok rfl ok_X_laws_heldBoolS

/-! ### laws.heldInt64S -/
noncomputable def cf_laws_heldInt64S : CallF := cfn
noncomputable def L_laws_heldInt64S (k : Nat) : Nat → Nat → List Value → Mem → Option VM
  | q + 1, 0, [t0, t1, t5], m =>
    (lenX t0) |> bo fun t8 =>
    (binX .lss .no t5 t8) |> bo fun t9 =>
    brX t9
      (
        (ixaX 1 t0 t5) |> bo fun t14 =>
        (ld1 m t14) |> bo fun t15 =>
        (binX .neq .no t15 t1) |> bo fun t17 =>
        brX t17
          (
            retK k m [t0, t1] (.int .i64 (-1)))
          (
            (binX .add .no t1 (.int .i64 1)) |> bo fun t19 =>
            (binX .add .no t5 (.int .i64 1)) |> bo fun t11 =>
            cutK k m [t0, t19] [t0, t19, t11] (L_laws_heldInt64S k q 0)))
      (
        retK k m [t0, t1] t1)
  | _, _, _, _ => none
noncomputable def J_laws_heldInt64S (k q l : Nat) : List Value → Mem → Option VM := cond (Nat.beq l 2) (L_laws_heldInt64S k q 0) (fun _ _ => none)
def LL_laws_heldInt64S : List (Nat × List Tmp) := [(2, [0, 1, 5])]
noncomputable def X_laws_heldInt64S : List Value → Mem → Option VM
  | [t0, t1], m =>
    cutK m.length m [t0, t1] [t0, t1, (.int .i64 0)] (L_laws_heldInt64S m.length QQ 0)
  | _, _ => none
noncomputable def C_laws_heldInt64S : List Value → Mem → Option VM := fcall X_laws_heldInt64S
@[simp] theorem c_laws_heldInt64S : C_laws_heldInt64S = fcall X_laws_heldInt64S := (rfl)
theorem cok_laws_heldInt64S : codeOk CT Try.f118 (Try.f118.body.get rfl) = true := by kernel_rfl
theorem xe_laws_heldInt64S (t0 t1 : Value) (m : Mem) : ex CT cf_laws_heldInt64S Try.f118 2 m.length LL_laws_heldInt64S (J_laws_heldInt64S m.length QQ) 400 [.code (Try.f118.body.get rfl)] (argsT 0 [t0, t1]) m = X_laws_heldInt64S [t0, t1] m := by kernel_rfl
theorem okc_laws_heldInt64S : CallOK CT cf_laws_heldInt64S := cfn_ok
theorem le_laws_heldInt64S_0 (k q : Nat) (t0 t1 t5 : Value) (m : Mem) : ex CT cf_laws_heldInt64S Try.f118 2 k LL_laws_heldInt64S (J_laws_heldInt64S k q) 400 (atLoop Try.f118 0) [(0, t0), (1, t1), (5, t5)] m = J_laws_heldInt64S k (q + 1) 2 [t0, t1, t5] m := by kernel_rfl
theorem gl_laws_heldInt64S (k : Nat) : ∀ q i, i < 1 → GoodL CT k Try.f118 LL_laws_heldInt64S (J_laws_heldInt64S k q) (atLoop Try.f118 i)
  | 0, 0, _ => goodL_zero (l := 2) (by kernel_rfl) (fun vs m => by kernel_rfl)
  | 0, _ + 1, h => absurd h (by omega)
  | q + 1, 0, _ => goodL_succ (np := 2) (l := 2) (live := [0, 1, 5]) (n := 1) CT_ok rfl okc_laws_heldInt64S (c := (Try.f118.body.get rfl)) rfl cok_laws_heldInt64S (by kernel_rfl) (gl_laws_heldInt64S k q) (by kernel_rfl) rfl (fun vs m r hl h => match vs, hl with
    | [t0, t1, t5], _ => (le_laws_heldInt64S_0 k q t0 t1 t5 m).trans h)
  | _ + 1, _ + 1, h => absurd h (by omega)
theorem ok_X_laws_heldInt64S : OkX CT 118 X_laws_heldInt64S := OkX.of_ex (cf := cf_laws_heldInt64S) (np := 2) (LL := LL_laws_heldInt64S) (J := (fun k => J_laws_heldInt64S k QQ)) CT_ok rfl Try.func118 rfl (Nat.le_of_ble_eq_true rfl) (by decide) cok_laws_heldInt64S okc_laws_heldInt64S (fun k => allLoops rfl (by kernel_rfl) (gl_laws_heldInt64S k QQ)) (fun args m r h => match args, h with
    | [t0, t1], h => ⟨rfl, (xe_laws_heldInt64S t0 t1 m).trans h⟩)
theorem ok_C_laws_heldInt64S : OkC CT 118 C_laws_heldInt64S := fcall_ok rfl ok_X_laws_heldInt64S

/-! ### laws.heldCellS -/
noncomputable def cf_laws_heldCellS : CallF := cfn
noncomputable def L_laws_heldCellS (k : Nat) : Nat → Nat → List Value → Mem → Option VM
  | q + 1, 0, [t0, t1, t5], m =>
    (lenX t0) |> bo fun t8 =>
    (binX .lss .no t5 t8) |> bo fun t9 =>
    brX t9
      (
        (ixaX 2 t0 t5) |> bo fun t14 =>
        (fadX 0 t14) |> bo fun t15 =>
        (ld1 m t15) |> bo fun t16 =>
        (binX .neq .no t16 t1) |> bo fun t18 =>
        brX t18
          (
            retK k m [t0, t1] (.int .i64 (-1)))
          (
            (binX .add .no t1 (.int .i64 1)) |> bo fun t20 =>
            (ixaX 2 t0 t5) |> bo fun t23 =>
            (fadX 1 t23) |> bo fun t24 =>
            (ld1 m t24) |> bo fun t25 =>
            (binX .neq .no t25 t20) |> bo fun t27 =>
            brX t27
              (
                retK k m [t0, t20] (.int .i64 (-1)))
              (
                (binX .add .no t20 (.int .i64 1)) |> bo fun t29 =>
                (binX .add .no t5 (.int .i64 1)) |> bo fun t11 =>
                cutK k m [t0, t29] [t0, t29, t11] (L_laws_heldCellS k q 0))))
      (
        retK k m [t0, t1] t1)
  | _, _, _, _ => none
noncomputable def J_laws_heldCellS (k q l : Nat) : List Value → Mem → Option VM := cond (Nat.beq l 2) (L_laws_heldCellS k q 0) (fun _ _ => none)
def LL_laws_heldCellS : List (Nat × List Tmp) := [(2, [0, 1, 5])]
noncomputable def X_laws_heldCellS : List Value → Mem → Option VM
  | [t0, t1], m =>
    cutK m.length m [t0, t1] [t0, t1, (.int .i64 0)] (L_laws_heldCellS m.length QQ 0)
  | _, _ => none
noncomputable def C_laws_heldCellS : List Value → Mem → Option VM := fcall X_laws_heldCellS
@[simp] theorem c_laws_heldCellS : C_laws_heldCellS = fcall X_laws_heldCellS := (rfl)
theorem cok_laws_heldCellS : codeOk CT Try.f126 (Try.f126.body.get rfl) = true := by kernel_rfl
theorem xe_laws_heldCellS (t0 t1 : Value) (m : Mem) : ex CT cf_laws_heldCellS Try.f126 2 m.length LL_laws_heldCellS (J_laws_heldCellS m.length QQ) 400 [.code (Try.f126.body.get rfl)] (argsT 0 [t0, t1]) m = X_laws_heldCellS [t0, t1] m := by kernel_rfl
theorem okc_laws_heldCellS : CallOK CT cf_laws_heldCellS := cfn_ok
theorem le_laws_heldCellS_0 (k q : Nat) (t0 t1 t5 : Value) (m : Mem) : ex CT cf_laws_heldCellS Try.f126 2 k LL_laws_heldCellS (J_laws_heldCellS k q) 400 (atLoop Try.f126 0) [(0, t0), (1, t1), (5, t5)] m = J_laws_heldCellS k (q + 1) 2 [t0, t1, t5] m := by kernel_rfl
theorem gl_laws_heldCellS (k : Nat) : ∀ q i, i < 1 → GoodL CT k Try.f126 LL_laws_heldCellS (J_laws_heldCellS k q) (atLoop Try.f126 i)
  | 0, 0, _ => goodL_zero (l := 2) (by kernel_rfl) (fun vs m => by kernel_rfl)
  | 0, _ + 1, h => absurd h (by omega)
  | q + 1, 0, _ => goodL_succ (np := 2) (l := 2) (live := [0, 1, 5]) (n := 1) CT_ok rfl okc_laws_heldCellS (c := (Try.f126.body.get rfl)) rfl cok_laws_heldCellS (by kernel_rfl) (gl_laws_heldCellS k q) (by kernel_rfl) rfl (fun vs m r hl h => match vs, hl with
    | [t0, t1, t5], _ => (le_laws_heldCellS_0 k q t0 t1 t5 m).trans h)
  | _ + 1, _ + 1, h => absurd h (by omega)
theorem ok_X_laws_heldCellS : OkX CT 126 X_laws_heldCellS := OkX.of_ex (cf := cf_laws_heldCellS) (np := 2) (LL := LL_laws_heldCellS) (J := (fun k => J_laws_heldCellS k QQ)) CT_ok rfl Try.func126 rfl (Nat.le_of_ble_eq_true rfl) (by decide) cok_laws_heldCellS okc_laws_heldCellS (fun k => allLoops rfl (by kernel_rfl) (gl_laws_heldCellS k QQ)) (fun args m r h => match args, h with
    | [t0, t1], h => ⟨rfl, (xe_laws_heldCellS t0 t1 m).trans h⟩)
theorem ok_C_laws_heldCellS : OkC CT 126 C_laws_heldCellS := fcall_ok rfl ok_X_laws_heldCellS

/-! ### laws.heldByteSS -/
noncomputable def cf_laws_heldByteSS : CallF := cfc 35 C_laws_heldByteS cfn
noncomputable def L_laws_heldByteSS (k : Nat) : Nat → Nat → List Value → Mem → Option VM
  | q + 1, 0, [t0, t1, t5], m =>
    (lenX t0) |> bo fun t8 =>
    (binX .lss .no t5 t8) |> bo fun t9 =>
    brX t9
      (
        (ixaX 1 t0 t5) |> bo fun t14 =>
        (ld1 m t14) |> bo fun t15 =>
        (C_laws_heldByteS [t15, t1] m) |> bo fun r5 =>
        (binX .lss .no r5.1 (.int .i64 0)) |> bo fun t19 =>
        brX t19
          (
            retK k r5.2 [t0, r5.1] (.int .i64 (-1)))
          (
            (binX .add .no t5 (.int .i64 1)) |> bo fun t11 =>
            cutK k r5.2 [t0, r5.1] [t0, r5.1, t11] (L_laws_heldByteSS k q 0)))
      (
        retK k m [t0, t1] t1)
  | _, _, _, _ => none
noncomputable def J_laws_heldByteSS (k q l : Nat) : List Value → Mem → Option VM := cond (Nat.beq l 2) (L_laws_heldByteSS k q 0) (fun _ _ => none)
def LL_laws_heldByteSS : List (Nat × List Tmp) := [(2, [0, 1, 5])]
noncomputable def X_laws_heldByteSS : List Value → Mem → Option VM
  | [t0, t1], m =>
    cutK m.length m [t0, t1] [t0, t1, (.int .i64 0)] (L_laws_heldByteSS m.length QQ 0)
  | _, _ => none
noncomputable def C_laws_heldByteSS : List Value → Mem → Option VM := fcall X_laws_heldByteSS
@[simp] theorem c_laws_heldByteSS : C_laws_heldByteSS = fcall X_laws_heldByteSS := (rfl)
theorem cok_laws_heldByteSS : codeOk CT Try.f127 (Try.f127.body.get rfl) = true := by kernel_rfl
theorem xe_laws_heldByteSS (t0 t1 : Value) (m : Mem) : ex CT cf_laws_heldByteSS Try.f127 2 m.length LL_laws_heldByteSS (J_laws_heldByteSS m.length QQ) 400 [.code (Try.f127.body.get rfl)] (argsT 0 [t0, t1]) m = X_laws_heldByteSS [t0, t1] m := by kernel_rfl
theorem okc_laws_heldByteSS : CallOK CT cf_laws_heldByteSS := cfc_ok ok_C_laws_heldByteS cfn_ok
theorem le_laws_heldByteSS_0 (k q : Nat) (t0 t1 t5 : Value) (m : Mem) : ex CT cf_laws_heldByteSS Try.f127 2 k LL_laws_heldByteSS (J_laws_heldByteSS k q) 400 (atLoop Try.f127 0) [(0, t0), (1, t1), (5, t5)] m = J_laws_heldByteSS k (q + 1) 2 [t0, t1, t5] m := by kernel_rfl
theorem gl_laws_heldByteSS (k : Nat) : ∀ q i, i < 1 → GoodL CT k Try.f127 LL_laws_heldByteSS (J_laws_heldByteSS k q) (atLoop Try.f127 i)
  | 0, 0, _ => goodL_zero (l := 2) (by kernel_rfl) (fun vs m => by kernel_rfl)
  | 0, _ + 1, h => absurd h (by omega)
  | q + 1, 0, _ => goodL_succ (np := 2) (l := 2) (live := [0, 1, 5]) (n := 1) CT_ok rfl okc_laws_heldByteSS (c := (Try.f127.body.get rfl)) rfl cok_laws_heldByteSS (by kernel_rfl) (gl_laws_heldByteSS k q) (by kernel_rfl) rfl (fun vs m r hl h => match vs, hl with
    | [t0, t1, t5], _ => (le_laws_heldByteSS_0 k q t0 t1 t5 m).trans h)
  | _ + 1, _ + 1, h => absurd h (by omega)
theorem ok_X_laws_heldByteSS : OkX CT 127 X_laws_heldByteSS := OkX.of_ex (cf := cf_laws_heldByteSS) (np := 2) (LL := LL_laws_heldByteSS) (J := (fun k => J_laws_heldByteSS k QQ)) CT_ok rfl Try.func127 rfl (Nat.le_of_ble_eq_true rfl) (by decide) cok_laws_heldByteSS okc_laws_heldByteSS (fun k => allLoops rfl (by kernel_rfl) (gl_laws_heldByteSS k QQ)) (fun args m r h => match args, h with
    | [t0, t1], h => ⟨rfl, (xe_laws_heldByteSS t0 t1 m).trans h⟩)
theorem ok_C_laws_heldByteSS : OkC CT 127 C_laws_heldByteSS := fcall_ok rfl ok_X_laws_heldByteSS

/-! ### laws.heldConsoleS -/
noncomputable def cf_laws_heldConsoleS : CallF := cfc 35 C_laws_heldByteS (cfc 87 C_laws_heldBoolS (cfc 118 C_laws_heldInt64S (cfc 126 C_laws_heldCellS (cfc 127 C_laws_heldByteSS cfn))))
noncomputable def L_laws_heldConsoleS (k : Nat) : Nat → Nat → List Value → Mem → Option VM
  | q + 1, 0, [t0, t1, t5], m =>
    (lenX t0) |> bo fun t8 =>
    (binX .lss .no t5 t8) |> bo fun t9 =>
    brX t9
      (
        (ixaX 38 t0 t5) |> bo fun t14 =>
        (fadX 0 t14) |> bo fun t15 =>
        (fadX 0 t15) |> bo fun t16 =>
        (fadX 0 t16) |> bo fun t17 =>
        (ld1 m t17) |> bo fun t18 =>
        (binX .neq .no t18 t1) |> bo fun t20 =>
        brX t20
          (
            retK k m [t0, t1] (.int .i64 (-1)))
          (
            (binX .add .no t1 (.int .i64 1)) |> bo fun t22 =>
            (ixaX 38 t0 t5) |> bo fun t25 =>
            (fadX 0 t25) |> bo fun t26 =>
            (fadX 0 t26) |> bo fun t27 =>
            (fadX 1 t27) |> bo fun t28 =>
            (ld1 m t28) |> bo fun t29 =>
            (binX .neq .no t29 t22) |> bo fun t31 =>
            brX t31
              (
                retK k m [t0, t22] (.int .i64 (-1)))
              (
                (binX .add .no t22 (.int .i64 1)) |> bo fun t33 =>
                (ixaX 38 t0 t5) |> bo fun t36 =>
                (fadX 0 t36) |> bo fun t37 =>
                (fadX 0 t37) |> bo fun t38 =>
                (fadX 2 t38) |> bo fun t39 =>
                (ld1 m t39) |> bo fun t40 =>
                (binX .neq .no t40 t33) |> bo fun t42 =>
                brX t42
                  (
                    retK k m [t0, t33] (.int .i64 (-1)))
                  (
                    (binX .add .no t33 (.int .i64 1)) |> bo fun t44 =>
                    (ixaX 38 t0 t5) |> bo fun t47 =>
                    (fadX 0 t47) |> bo fun t48 =>
                    (fadX 3 t48) |> bo fun t49 =>
                    (fadX 0 t49) |> bo fun t50 =>
                    (ld1 m t50) |> bo fun t51 =>
                    (binX .neq .no t51 t44) |> bo fun t53 =>
                    brX t53
                      (
                        retK k m [t0, t44] (.int .i64 (-1)))
                      (
                        (binX .add .no t44 (.int .i64 1)) |> bo fun t55 =>
                        (ixaX 38 t0 t5) |> bo fun t58 =>
                        (fadX 0 t58) |> bo fun t59 =>
                        (fadX 3 t59) |> bo fun t60 =>
                        (fadX 1 t60) |> bo fun t61 =>
                        (ld1 m t61) |> bo fun t62 =>
                        (binX .neq .no t62 t55) |> bo fun t64 =>
                        brX t64
                          (
                            retK k m [t0, t55] (.int .i64 (-1)))
                          (
                            (binX .add .no t55 (.int .i64 1)) |> bo fun t66 =>
                            (ixaX 38 t0 t5) |> bo fun t69 =>
                            (fadX 0 t69) |> bo fun t70 =>
                            (fadX 3 t70) |> bo fun t71 =>
                            (fadX 2 t71) |> bo fun t72 =>
                            (ld1 m t72) |> bo fun t73 =>
                            (binX .rem .no t66 (.int .i64 3)) |> bo fun t75 =>
                            (binX .eql .no t75 (.int .i64 0)) |> bo fun t76 =>
                            (binX .neq .bool t73 t76) |> bo fun t77 =>
                            brX t77
                              (
                                retK k m [t0, t66] (.int .i64 (-1)))
                              (
                                (binX .add .no t66 (.int .i64 1)) |> bo fun t79 =>
                                (ixaX 38 t0 t5) |> bo fun t82 =>
                                (fadX 0 t82) |> bo fun t83 =>
                                (fadX 3 t83) |> bo fun t84 =>
                                (fadX 3 t84) |> bo fun t85 =>
                                (ld1 m t85) |> bo fun t86 =>
                                (C_laws_heldInt64S [t86, t79] m) |> bo fun r52 =>
                                (binX .lss .no r52.1 (.int .i64 0)) |> bo fun t90 =>
                                brX t90
                                  (
                                    retK k r52.2 [t0, r52.1] (.int .i64 (-1)))
                                  (
                                    (ixaX 38 t0 t5) |> bo fun t93 =>
                                    (fadX 0 t93) |> bo fun t94 =>
                                    (fadX 7 t94) |> bo fun t95 =>
                                    (fadX 0 t95) |> bo fun t96 =>
                                    (fadX 0 t96) |> bo fun t97 =>
                                    (ld1 r52.2 t97) |> bo fun t98 =>
                                    (binX .neq .no t98 r52.1) |> bo fun t100 =>
                                    brX t100
                                      (
                                        retK k r52.2 [t0, r52.1] (.int .i64 (-1)))
                                      (
                                        (binX .add .no r52.1 (.int .i64 1)) |> bo fun t102 =>
                                        (ixaX 38 t0 t5) |> bo fun t105 =>
                                        (fadX 0 t105) |> bo fun t106 =>
                                        (fadX 7 t106) |> bo fun t107 =>
                                        (fadX 0 t107) |> bo fun t108 =>
                                        (fadX 1 t108) |> bo fun t109 =>
                                        (ld1 r52.2 t109) |> bo fun t110 =>
                                        (binX .neq .no t110 t102) |> bo fun t112 =>
                                        brX t112
                                          (
                                            retK k r52.2 [t0, t102] (.int .i64 (-1)))
                                          (
                                            (binX .add .no t102 (.int .i64 1)) |> bo fun t114 =>
                                            (ixaX 38 t0 t5) |> bo fun t117 =>
                                            (fadX 0 t117) |> bo fun t118 =>
                                            (fadX 7 t118) |> bo fun t119 =>
                                            (fadX 0 t119) |> bo fun t120 =>
                                            (fadX 2 t120) |> bo fun t121 =>
                                            (ld1 r52.2 t121) |> bo fun t122 =>
                                            (C_laws_heldCellS [t122, t114] r52.2) |> bo fun r76 =>
                                            (binX .lss .no r76.1 (.int .i64 0)) |> bo fun t126 =>
                                            brX t126
                                              (
                                                retK k r76.2 [t0, r76.1] (.int .i64 (-1)))
                                              (
                                                (ixaX 38 t0 t5) |> bo fun t129 =>
                                                (fadX 0 t129) |> bo fun t130 =>
                                                (fadX 7 t130) |> bo fun t131 =>
                                                (fadX 0 t131) |> bo fun t132 =>
                                                (fadX 3 t132) |> bo fun t133 =>
                                                (ld1 r76.2 t133) |> bo fun t134 =>
                                                (C_laws_heldCellS [t134, r76.1] r76.2) |> bo fun r84 =>
                                                (binX .lss .no r84.1 (.int .i64 0)) |> bo fun t138 =>
                                                brX t138
                                                  (
                                                    retK k r84.2 [t0, r84.1] (.int .i64 (-1)))
                                                  (
                                                    (ixaX 38 t0 t5) |> bo fun t141 =>
                                                    (fadX 0 t141) |> bo fun t142 =>
                                                    (fadX 7 t142) |> bo fun t143 =>
                                                    (fadX 4 t143) |> bo fun t144 =>
                                                    (ld1 r84.2 t144) |> bo fun t145 =>
                                                    (binX .neq .no t145 r84.1) |> bo fun t147 =>
                                                    brX t147
                                                      (
                                                        retK k r84.2 [t0, r84.1] (.int .i64 (-1)))
                                                      (
                                                        (binX .add .no r84.1 (.int .i64 1)) |> bo fun t149 =>
                                                        (ixaX 38 t0 t5) |> bo fun t152 =>
                                                        (fadX 0 t152) |> bo fun t153 =>
                                                        (fadX 7 t153) |> bo fun t154 =>
                                                        (fadX 5 t154) |> bo fun t155 =>
                                                        (ld1 r84.2 t155) |> bo fun t156 =>
                                                        (binX .neq .no t156 t149) |> bo fun t158 =>
                                                        brX t158
                                                          (
                                                            retK k r84.2 [t0, t149] (.int .i64 (-1)))
                                                          (
                                                            (binX .add .no t149 (.int .i64 1)) |> bo fun t160 =>
                                                            (ixaX 38 t0 t5) |> bo fun t163 =>
                                                            (fadX 0 t163) |> bo fun t164 =>
                                                            (fadX 7 t164) |> bo fun t165 =>
                                                            (fadX 6 t165) |> bo fun t166 =>
                                                            (ld1 r84.2 t166) |> bo fun t167 =>
                                                            (binX .rem .no t160 (.int .i64 3)) |> bo fun t169 =>
                                                            (binX .eql .no t169 (.int .i64 0)) |> bo fun t170 =>
                                                            (binX .neq .bool t167 t170) |> bo fun t171 =>
                                                            brX t171
                                                              (
                                                                retK k r84.2 [t0, t160] (.int .i64 (-1)))
                                                              (
                                                                (binX .add .no t160 (.int .i64 1)) |> bo fun t173 =>
                                                                (ixaX 38 t0 t5) |> bo fun t176 =>
                                                                (fadX 0 t176) |> bo fun t177 =>
                                                                (fadX 7 t177) |> bo fun t178 =>
                                                                (fadX 7 t178) |> bo fun t179 =>
                                                                (ld1 r84.2 t179) |> bo fun t180 =>
                                                                (binX .neq .no t180 t173) |> bo fun t182 =>
                                                                brX t182
                                                                  (
                                                                    retK k r84.2 [t0, t173] (.int .i64 (-1)))
                                                                  (
                                                                    (binX .add .no t173 (.int .i64 1)) |> bo fun t184 =>
                                                                    (ixaX 38 t0 t5) |> bo fun t187 =>
                                                                    (fadX 0 t187) |> bo fun t188 =>
                                                                    (fadX 7 t188) |> bo fun t189 =>
                                                                    (fadX 8 t189) |> bo fun t190 =>
                                                                    (ld1 r84.2 t190) |> bo fun t191 =>
                                                                    (binX .neq .no t191 t184) |> bo fun t193 =>
                                                                    brX t193
                                                                      (
                                                                        retK k r84.2 [t0, t184] (.int .i64 (-1)))
                                                                      (
                                                                        (binX .add .no t184 (.int .i64 1)) |> bo fun t195 =>
                                                                        (ixaX 38 t0 t5) |> bo fun t198 =>
                                                                        (fadX 0 t198) |> bo fun t199 =>
                                                                        (fadX 7 t199) |> bo fun t200 =>
                                                                        (fadX 9 t200) |> bo fun t201 =>
                                                                        (ld1 r84.2 t201) |> bo fun t202 =>
                                                                        (binX .neq .no t202 t195) |> bo fun t204 =>
                                                                        brX t204
                                                                          (
                                                                            retK k r84.2 [t0, t195] (.int .i64 (-1)))
                                                                          (
                                                                            (binX .add .no t195 (.int .i64 1)) |> bo fun t206 =>
                                                                            (ixaX 38 t0 t5) |> bo fun t209 =>
                                                                            (fadX 0 t209) |> bo fun t210 =>
                                                                            (fadX 7 t210) |> bo fun t211 =>
                                                                            (fadX 10 t211) |> bo fun t212 =>
                                                                            (ld1 r84.2 t212) |> bo fun t213 =>
                                                                            (binX .rem .no t206 (.int .i64 3)) |> bo fun t215 =>
                                                                            (binX .eql .no t215 (.int .i64 0)) |> bo fun t216 =>
                                                                            (binX .neq .bool t213 t216) |> bo fun t217 =>
                                                                            brX t217
                                                                              (
                                                                                retK k r84.2 [t0, t206] (.int .i64 (-1)))
                                                                              (
                                                                                (binX .add .no t206 (.int .i64 1)) |> bo fun t219 =>
                                                                                (ixaX 38 t0 t5) |> bo fun t222 =>
                                                                                (fadX 0 t222) |> bo fun t223 =>
                                                                                (fadX 7 t223) |> bo fun t224 =>
                                                                                (fadX 11 t224) |> bo fun t225 =>
                                                                                (ld1 r84.2 t225) |> bo fun t226 =>
                                                                                (binX .rem .no t219 (.int .i64 3)) |> bo fun t228 =>
                                                                                (binX .eql .no t228 (.int .i64 0)) |> bo fun t229 =>
                                                                                (binX .neq .bool t226 t229) |> bo fun t230 =>
                                                                                brX t230
                                                                                  (
                                                                                    retK k r84.2 [t0, t219] (.int .i64 (-1)))
                                                                                  (
                                                                                    (binX .add .no t219 (.int .i64 1)) |> bo fun t232 =>
                                                                                    (ixaX 38 t0 t5) |> bo fun t235 =>
                                                                                    (fadX 0 t235) |> bo fun t236 =>
                                                                                    (fadX 7 t236) |> bo fun t237 =>
                                                                                    (fadX 12 t237) |> bo fun t238 =>
                                                                                    (ld1 r84.2 t238) |> bo fun t239 =>
                                                                                    (binX .rem .no t232 (.int .i64 3)) |> bo fun t241 =>
                                                                                    (binX .eql .no t241 (.int .i64 0)) |> bo fun t242 =>
                                                                                    (binX .neq .bool t239 t242) |> bo fun t243 =>
                                                                                    brX t243
                                                                                      (
                                                                                        retK k r84.2 [t0, t232] (.int .i64 (-1)))
                                                                                      (
                                                                                        (binX .add .no t232 (.int .i64 1)) |> bo fun t245 =>
                                                                                        (ixaX 38 t0 t5) |> bo fun t248 =>
                                                                                        (fadX 0 t248) |> bo fun t249 =>
                                                                                        (fadX 7 t249) |> bo fun t250 =>
                                                                                        (fadX 13 t250) |> bo fun t251 =>
                                                                                        (ld1 r84.2 t251) |> bo fun t252 =>
                                                                                        (C_laws_heldBoolS [t252, t245] r84.2) |> bo fun r162 =>
                                                                                        (binX .lss .no r162.1 (.int .i64 0)) |> bo fun t256 =>
                                                                                        brX t256
                                                                                          (
                                                                                            retK k r162.2 [t0, r162.1] (.int .i64 (-1)))
                                                                                          (
                                                                                            (ixaX 38 t0 t5) |> bo fun t259 =>
                                                                                            (fadX 0 t259) |> bo fun t260 =>
                                                                                            (fadX 7 t260) |> bo fun t261 =>
                                                                                            (fadX 14 t261) |> bo fun t262 =>
                                                                                            (ld1 r162.2 t262) |> bo fun t263 =>
                                                                                            (binX .neq .no t263 r162.1) |> bo fun t265 =>
                                                                                            brX t265
                                                                                              (
                                                                                                retK k r162.2 [t0, r162.1] (.int .i64 (-1)))
                                                                                              (
                                                                                                (binX .add .no r162.1 (.int .i64 1)) |> bo fun t267 =>
                                                                                                (ixaX 38 t0 t5) |> bo fun t270 =>
                                                                                                (fadX 0 t270) |> bo fun t271 =>
                                                                                                (fadX 7 t271) |> bo fun t272 =>
                                                                                                (fadX 15 t272) |> bo fun t273 =>
                                                                                                (ld1 r162.2 t273) |> bo fun t274 =>
                                                                                                (binX .neq .no t274 t267) |> bo fun t276 =>
                                                                                                brX t276
                                                                                                  (
                                                                                                    retK k r162.2 [t0, t267] (.int .i64 (-1)))
                                                                                                  (
                                                                                                    (binX .add .no t267 (.int .i64 1)) |> bo fun t278 =>
                                                                                                    (ixaX 38 t0 t5) |> bo fun t281 =>
                                                                                                    (fadX 0 t281) |> bo fun t282 =>
                                                                                                    (fadX 7 t282) |> bo fun t283 =>
                                                                                                    (fadX 16 t283) |> bo fun t284 =>
                                                                                                    (ld1 r162.2 t284) |> bo fun t285 =>
                                                                                                    (binX .neq .no t285 t278) |> bo fun t287 =>
                                                                                                    brX t287
                                                                                                      (
                                                                                                        retK k r162.2 [t0, t278] (.int .i64 (-1)))
                                                                                                      (
                                                                                                        (binX .add .no t278 (.int .i64 1)) |> bo fun t289 =>
                                                                                                        (ixaX 38 t0 t5) |> bo fun t292 =>
                                                                                                        (fadX 0 t292) |> bo fun t293 =>
                                                                                                        (fadX 7 t293) |> bo fun t294 =>
                                                                                                        (fadX 17 t294) |> bo fun t295 =>
                                                                                                        (ld1 r162.2 t295) |> bo fun t296 =>
                                                                                                        (C_laws_heldInt64S [t296, t289] r162.2) |> bo fun r190 =>
                                                                                                        (binX .lss .no r190.1 (.int .i64 0)) |> bo fun t300 =>
                                                                                                        brX t300
                                                                                                          (
                                                                                                            retK k r190.2 [t0, r190.1] (.int .i64 (-1)))
                                                                                                          (
                                                                                                            (ixaX 38 t0 t5) |> bo fun t303 =>
                                                                                                            (fadX 0 t303) |> bo fun t304 =>
                                                                                                            (fadX 7 t304) |> bo fun t305 =>
                                                                                                            (fadX 18 t305) |> bo fun t306 =>
                                                                                                            (ld1 r190.2 t306) |> bo fun t307 =>
                                                                                                            (binX .neq .no t307 r190.1) |> bo fun t309 =>
                                                                                                            brX t309
                                                                                                              (
                                                                                                                retK k r190.2 [t0, r190.1] (.int .i64 (-1)))
                                                                                                              (
                                                                                                                (binX .add .no r190.1 (.int .i64 1)) |> bo fun t311 =>
                                                                                                                (ixaX 38 t0 t5) |> bo fun t314 =>
                                                                                                                (fadX 0 t314) |> bo fun t315 =>
                                                                                                                (fadX 7 t315) |> bo fun t316 =>
                                                                                                                (fadX 19 t316) |> bo fun t317 =>
                                                                                                                (ld1 r190.2 t317) |> bo fun t318 =>
                                                                                                                (binX .neq .no t318 t311) |> bo fun t320 =>
                                                                                                                brX t320
                                                                                                                  (
                                                                                                                    retK k r190.2 [t0, t311] (.int .i64 (-1)))
                                                                                                                  (
                                                                                                                    (binX .add .no t311 (.int .i64 1)) |> bo fun t322 =>
                                                                                                                    (ixaX 38 t0 t5) |> bo fun t325 =>
                                                                                                                    (fadX 27 t325) |> bo fun t326 =>
                                                                                                                    (fadX 0 t326) |> bo fun t327 =>
                                                                                                                    (ld1 r190.2 t327) |> bo fun t328 =>
                                                                                                                    (binX .neq .no t328 t322) |> bo fun t330 =>
                                                                                                                    brX t330
                                                                                                                      (
                                                                                                                        retK k r190.2 [t0, t322] (.int .i64 (-1)))
                                                                                                                      (
                                                                                                                        (binX .add .no t322 (.int .i64 1)) |> bo fun t332 =>
                                                                                                                        (ixaX 38 t0 t5) |> bo fun t335 =>
                                                                                                                        (fadX 27 t335) |> bo fun t336 =>
                                                                                                                        (fadX 1 t336) |> bo fun t337 =>
                                                                                                                        (ld1 r190.2 t337) |> bo fun t338 =>
                                                                                                                        (binX .neq .no t338 t332) |> bo fun t340 =>
                                                                                                                        brX t340
                                                                                                                          (
                                                                                                                            retK k r190.2 [t0, t332] (.int .i64 (-1)))
                                                                                                                          (
                                                                                                                            (binX .add .no t332 (.int .i64 1)) |> bo fun t342 =>
                                                                                                                            (ixaX 38 t0 t5) |> bo fun t345 =>
                                                                                                                            (fadX 27 t345) |> bo fun t346 =>
                                                                                                                            (fadX 2 t346) |> bo fun t347 =>
                                                                                                                            (ld1 r190.2 t347) |> bo fun t348 =>
                                                                                                                            (binX .neq .no t348 t342) |> bo fun t350 =>
                                                                                                                            brX t350
                                                                                                                              (
                                                                                                                                retK k r190.2 [t0, t342] (.int .i64 (-1)))
                                                                                                                              (
                                                                                                                                (binX .add .no t342 (.int .i64 1)) |> bo fun t352 =>
                                                                                                                                (ixaX 38 t0 t5) |> bo fun t355 =>
                                                                                                                                (fadX 27 t355) |> bo fun t356 =>
                                                                                                                                (fadX 3 t356) |> bo fun t357 =>
                                                                                                                                (ld1 r190.2 t357) |> bo fun t358 =>
                                                                                                                                (binX .neq .no t358 t352) |> bo fun t360 =>
                                                                                                                                brX t360
                                                                                                                                  (
                                                                                                                                    retK k r190.2 [t0, t352] (.int .i64 (-1)))
                                                                                                                                  (
                                                                                                                                    (binX .add .no t352 (.int .i64 1)) |> bo fun t362 =>
                                                                                                                                    (ixaX 38 t0 t5) |> bo fun t365 =>
                                                                                                                                    (fadX 27 t365) |> bo fun t366 =>
                                                                                                                                    (fadX 4 t366) |> bo fun t367 =>
                                                                                                                                    (ld1 r190.2 t367) |> bo fun t368 =>
                                                                                                                                    (binX .neq .no t368 t362) |> bo fun t370 =>
                                                                                                                                    brX t370
                                                                                                                                      (
                                                                                                                                        retK k r190.2 [t0, t362] (.int .i64 (-1)))
                                                                                                                                      (
                                                                                                                                        (binX .add .no t362 (.int .i64 1)) |> bo fun t372 =>
                                                                                                                                        (ixaX 38 t0 t5) |> bo fun t375 =>
                                                                                                                                        (fadX 27 t375) |> bo fun t376 =>
                                                                                                                                        (fadX 5 t376) |> bo fun t377 =>
                                                                                                                                        (ld1 r190.2 t377) |> bo fun t378 =>
                                                                                                                                        (binX .neq .no t378 t372) |> bo fun t380 =>
                                                                                                                                        brX t380
                                                                                                                                          (
                                                                                                                                            retK k r190.2 [t0, t372] (.int .i64 (-1)))
                                                                                                                                          (
                                                                                                                                            (binX .add .no t372 (.int .i64 1)) |> bo fun t382 =>
                                                                                                                                            (ixaX 38 t0 t5) |> bo fun t385 =>
                                                                                                                                            (fadX 27 t385) |> bo fun t386 =>
                                                                                                                                            (fadX 6 t386) |> bo fun t387 =>
                                                                                                                                            (ld1 r190.2 t387) |> bo fun t388 =>
                                                                                                                                            (binX .neq .no t388 t382) |> bo fun t390 =>
                                                                                                                                            brX t390
                                                                                                                                              (
                                                                                                                                                retK k r190.2 [t0, t382] (.int .i64 (-1)))
                                                                                                                                              (
                                                                                                                                                (binX .add .no t382 (.int .i64 1)) |> bo fun t392 =>
                                                                                                                                                (ixaX 38 t0 t5) |> bo fun t395 =>
                                                                                                                                                (fadX 34 t395) |> bo fun t396 =>
                                                                                                                                                (fadX 0 t396) |> bo fun t397 =>
                                                                                                                                                (ld1 r190.2 t397) |> bo fun t398 =>
                                                                                                                                                (C_laws_heldByteSS [t398, t392] r190.2) |> bo fun r252 =>
                                                                                                                                                (binX .lss .no r252.1 (.int .i64 0)) |> bo fun t402 =>
                                                                                                                                                brX t402
                                                                                                                                                  (
                                                                                                                                                    retK k r252.2 [t0, r252.1] (.int .i64 (-1)))
                                                                                                                                                  (
                                                                                                                                                    (ixaX 38 t0 t5) |> bo fun t405 =>
                                                                                                                                                    (fadX 34 t405) |> bo fun t406 =>
                                                                                                                                                    (fadX 1 t406) |> bo fun t407 =>
                                                                                                                                                    (ld1 r252.2 t407) |> bo fun t408 =>
                                                                                                                                                    (C_laws_heldByteS [t408, r252.1] r252.2) |> bo fun r258 =>
                                                                                                                                                    (binX .lss .no r258.1 (.int .i64 0)) |> bo fun t412 =>
                                                                                                                                                    brX t412
                                                                                                                                                      (
                                                                                                                                                        retK k r258.2 [t0, r258.1] (.int .i64 (-1)))
                                                                                                                                                      (
                                                                                                                                                        (ixaX 38 t0 t5) |> bo fun t415 =>
                                                                                                                                                        (fadX 34 t415) |> bo fun t416 =>
                                                                                                                                                        (fadX 2 t416) |> bo fun t417 =>
                                                                                                                                                        (ld1 r258.2 t417) |> bo fun t418 =>
                                                                                                                                                        (binX .rem .no r258.1 (.int .i64 3)) |> bo fun t420 =>
                                                                                                                                                        (binX .eql .no t420 (.int .i64 0)) |> bo fun t421 =>
                                                                                                                                                        (binX .neq .bool t418 t421) |> bo fun t422 =>
                                                                                                                                                        brX t422
                                                                                                                                                          (
                                                                                                                                                            retK k r258.2 [t0, r258.1] (.int .i64 (-1)))
                                                                                                                                                          (
                                                                                                                                                            (binX .add .no r258.1 (.int .i64 1)) |> bo fun t424 =>
                                                                                                                                                            (ixaX 38 t0 t5) |> bo fun t427 =>
                                                                                                                                                            (fadX 34 t427) |> bo fun t428 =>
                                                                                                                                                            (fadX 3 t428) |> bo fun t429 =>
                                                                                                                                                            (ld1 r258.2 t429) |> bo fun t430 =>
                                                                                                                                                            (binX .neq .no t430 t424) |> bo fun t432 =>
                                                                                                                                                            brX t432
                                                                                                                                                              (
                                                                                                                                                                retK k r258.2 [t0, t424] (.int .i64 (-1)))
                                                                                                                                                              (
                                                                                                                                                                (binX .add .no t424 (.int .i64 1)) |> bo fun t434 =>
                                                                                                                                                                (binX .add .no t5 (.int .i64 1)) |> bo fun t11 =>
                                                                                                                                                                cutK k r258.2 [t0, t434] [t0, t434, t11] (L_laws_heldConsoleS k q 0))))))))))))))))))))))))))))))))))))))))
      (
        retK k m [t0, t1] t1)
  | _, _, _, _ => none
noncomputable def J_laws_heldConsoleS (k q l : Nat) : List Value → Mem → Option VM := cond (Nat.beq l 2) (L_laws_heldConsoleS k q 0) (fun _ _ => none)
def LL_laws_heldConsoleS : List (Nat × List Tmp) := [(2, [0, 1, 5])]
noncomputable def X_laws_heldConsoleS : List Value → Mem → Option VM
  | [t0, t1], m =>
    cutK m.length m [t0, t1] [t0, t1, (.int .i64 0)] (L_laws_heldConsoleS m.length QQ 0)
  | _, _ => none
noncomputable def C_laws_heldConsoleS : List Value → Mem → Option VM := fcall X_laws_heldConsoleS
@[simp] theorem c_laws_heldConsoleS : C_laws_heldConsoleS = fcall X_laws_heldConsoleS := (rfl)
theorem cok_laws_heldConsoleS : codeOk CT Try.f86 (Try.f86.body.get rfl) = true := by kernel_rfl
theorem xe_laws_heldConsoleS (t0 t1 : Value) (m : Mem) : ex CT cf_laws_heldConsoleS Try.f86 2 m.length LL_laws_heldConsoleS (J_laws_heldConsoleS m.length QQ) 400 [.code (Try.f86.body.get rfl)] (argsT 0 [t0, t1]) m = X_laws_heldConsoleS [t0, t1] m := by kernel_rfl
theorem okc_laws_heldConsoleS : CallOK CT cf_laws_heldConsoleS := cfc_ok ok_C_laws_heldByteS (cfc_ok ok_C_laws_heldBoolS (cfc_ok ok_C_laws_heldInt64S (cfc_ok ok_C_laws_heldCellS (cfc_ok ok_C_laws_heldByteSS cfn_ok))))
theorem le_laws_heldConsoleS_0 (k q : Nat) (t0 t1 t5 : Value) (m : Mem) : ex CT cf_laws_heldConsoleS Try.f86 2 k LL_laws_heldConsoleS (J_laws_heldConsoleS k q) 400 (atLoop Try.f86 0) [(0, t0), (1, t1), (5, t5)] m = J_laws_heldConsoleS k (q + 1) 2 [t0, t1, t5] m := by kernel_rfl
theorem gl_laws_heldConsoleS (k : Nat) : ∀ q i, i < 1 → GoodL CT k Try.f86 LL_laws_heldConsoleS (J_laws_heldConsoleS k q) (atLoop Try.f86 i)
  | 0, 0, _ => goodL_zero (l := 2) (by kernel_rfl) (fun vs m => by kernel_rfl)
  | 0, _ + 1, h => absurd h (by omega)
  | q + 1, 0, _ => goodL_succ (np := 2) (l := 2) (live := [0, 1, 5]) (n := 1) CT_ok rfl okc_laws_heldConsoleS (c := (Try.f86.body.get rfl)) rfl cok_laws_heldConsoleS (by kernel_rfl) (gl_laws_heldConsoleS k q) (by kernel_rfl) rfl (fun vs m r hl h => match vs, hl with
    | [t0, t1, t5], _ => (le_laws_heldConsoleS_0 k q t0 t1 t5 m).trans h)
  | _ + 1, _ + 1, h => absurd h (by omega)
theorem ok_X_laws_heldConsoleS : OkX CT 86 X_laws_heldConsoleS := OkX.of_ex (cf := cf_laws_heldConsoleS) (np := 2) (LL := LL_laws_heldConsoleS) (J := (fun k => J_laws_heldConsoleS k QQ)) CT_ok rfl Try.func86 rfl (Nat.le_of_ble_eq_true rfl) (by decide) cok_laws_heldConsoleS okc_laws_heldConsoleS (fun k => allLoops rfl (by kernel_rfl) (gl_laws_heldConsoleS k QQ)) (fun args m r h => match args, h with
    | [t0, t1], h => ⟨rfl, (xe_laws_heldConsoleS t0 t1 m).trans h⟩)
theorem ok_C_laws_heldConsoleS : OkC CT 86 C_laws_heldConsoleS := fcall_ok rfl ok_X_laws_heldConsoleS

/-! ### laws.heldBindS -/
noncomputable def cf_laws_heldBindS : CallF := cfn
noncomputable def L_laws_heldBindS (k : Nat) : Nat → Nat → List Value → Mem → Option VM
  | q + 1, 0, [t0, t1, t5], m =>
    (lenX t0) |> bo fun t8 =>
    (binX .lss .no t5 t8) |> bo fun t9 =>
    brX t9
      (
        (ixaX 4 t0 t5) |> bo fun t14 =>
        (fadX 0 t14) |> bo fun t15 =>
        (ld1 m t15) |> bo fun t16 =>
        (binX .neq .no t16 t1) |> bo fun t18 =>
        brX t18
          (
            retK k m [t0, t1] (.int .i64 (-1)))
          (
            (binX .add .no t1 (.int .i64 1)) |> bo fun t20 =>
            (ixaX 4 t0 t5) |> bo fun t23 =>
            (fadX 1 t23) |> bo fun t24 =>
            (ld1 m t24) |> bo fun t25 =>
            (binX .neq .no t25 t20) |> bo fun t27 =>
            brX t27
              (
                retK k m [t0, t20] (.int .i64 (-1)))
              (
                (binX .add .no t20 (.int .i64 1)) |> bo fun t29 =>
                (ixaX 4 t0 t5) |> bo fun t32 =>
                (fadX 2 t32) |> bo fun t33 =>
                (fadX 0 t33) |> bo fun t34 =>
                (ld1 m t34) |> bo fun t35 =>
                (binX .neq .no t35 t29) |> bo fun t37 =>
                brX t37
                  (
                    retK k m [t0, t29] (.int .i64 (-1)))
                  (
                    (binX .add .no t29 (.int .i64 1)) |> bo fun t39 =>
                    (ixaX 4 t0 t5) |> bo fun t42 =>
                    (fadX 2 t42) |> bo fun t43 =>
                    (fadX 1 t43) |> bo fun t44 =>
                    (ld1 m t44) |> bo fun t45 =>
                    (binX .neq .no t45 t39) |> bo fun t47 =>
                    brX t47
                      (
                        retK k m [t0, t39] (.int .i64 (-1)))
                      (
                        (binX .add .no t39 (.int .i64 1)) |> bo fun t49 =>
                        (binX .add .no t5 (.int .i64 1)) |> bo fun t11 =>
                        cutK k m [t0, t49] [t0, t49, t11] (L_laws_heldBindS k q 0))))))
      (
        retK k m [t0, t1] t1)
  | _, _, _, _ => none
noncomputable def J_laws_heldBindS (k q l : Nat) : List Value → Mem → Option VM := cond (Nat.beq l 2) (L_laws_heldBindS k q 0) (fun _ _ => none)
def LL_laws_heldBindS : List (Nat × List Tmp) := [(2, [0, 1, 5])]
noncomputable def X_laws_heldBindS : List Value → Mem → Option VM
  | [t0, t1], m =>
    cutK m.length m [t0, t1] [t0, t1, (.int .i64 0)] (L_laws_heldBindS m.length QQ 0)
  | _, _ => none
noncomputable def C_laws_heldBindS : List Value → Mem → Option VM := fcall X_laws_heldBindS
@[simp] theorem c_laws_heldBindS : C_laws_heldBindS = fcall X_laws_heldBindS := (rfl)
theorem cok_laws_heldBindS : codeOk CT Try.f88 (Try.f88.body.get rfl) = true := by kernel_rfl
theorem xe_laws_heldBindS (t0 t1 : Value) (m : Mem) : ex CT cf_laws_heldBindS Try.f88 2 m.length LL_laws_heldBindS (J_laws_heldBindS m.length QQ) 400 [.code (Try.f88.body.get rfl)] (argsT 0 [t0, t1]) m = X_laws_heldBindS [t0, t1] m := by kernel_rfl
theorem okc_laws_heldBindS : CallOK CT cf_laws_heldBindS := cfn_ok
theorem le_laws_heldBindS_0 (k q : Nat) (t0 t1 t5 : Value) (m : Mem) : ex CT cf_laws_heldBindS Try.f88 2 k LL_laws_heldBindS (J_laws_heldBindS k q) 400 (atLoop Try.f88 0) [(0, t0), (1, t1), (5, t5)] m = J_laws_heldBindS k (q + 1) 2 [t0, t1, t5] m := by kernel_rfl
theorem gl_laws_heldBindS (k : Nat) : ∀ q i, i < 1 → GoodL CT k Try.f88 LL_laws_heldBindS (J_laws_heldBindS k q) (atLoop Try.f88 i)
  | 0, 0, _ => goodL_zero (l := 2) (by kernel_rfl) (fun vs m => by kernel_rfl)
  | 0, _ + 1, h => absurd h (by omega)
  | q + 1, 0, _ => goodL_succ (np := 2) (l := 2) (live := [0, 1, 5]) (n := 1) CT_ok rfl okc_laws_heldBindS (c := (Try.f88.body.get rfl)) rfl cok_laws_heldBindS (by kernel_rfl) (gl_laws_heldBindS k q) (by kernel_rfl) rfl (fun vs m r hl h => match vs, hl with
    | [t0, t1, t5], _ => (le_laws_heldBindS_0 k q t0 t1 t5 m).trans h)
  | _ + 1, _ + 1, h => absurd h (by omega)
theorem ok_X_laws_heldBindS : OkX CT 88 X_laws_heldBindS := OkX.of_ex (cf := cf_laws_heldBindS) (np := 2) (LL := LL_laws_heldBindS) (J := (fun k => J_laws_heldBindS k QQ)) CT_ok rfl Try.func88 rfl (Nat.le_of_ble_eq_true rfl) (by decide) cok_laws_heldBindS okc_laws_heldBindS (fun k => allLoops rfl (by kernel_rfl) (gl_laws_heldBindS k QQ)) (fun args m r h => match args, h with
    | [t0, t1], h => ⟨rfl, (xe_laws_heldBindS t0 t1 m).trans h⟩)
theorem ok_C_laws_heldBindS : OkC CT 88 C_laws_heldBindS := fcall_ok rfl ok_X_laws_heldBindS

/-! ### laws.heldStringS -/
noncomputable def cf_laws_heldStringS : CallF := cfc 124 C_laws_markText cfn
noncomputable def L_laws_heldStringS (k : Nat) : Nat → Nat → List Value → Mem → Option VM
  | q + 1, 0, [t0, t1, t5], m =>
    (lenX t0) |> bo fun t8 =>
    (binX .lss .no t5 t8) |> bo fun t9 =>
    brX t9
      (
        (ixaX 1 t0 t5) |> bo fun t14 =>
        (ld1 m t14) |> bo fun t15 =>
        (C_laws_markText [t1] m) |> bo fun r5 =>
        (binX .neq .no t15 r5.1) |> bo fun t18 =>
        gP (stbL [((rdN t14), m, r5.2)])
          (
            brX t18
              (
                retK k r5.2 [t0, t1] (.int .i64 (-1)))
              (
                (binX .add .no t1 (.int .i64 1)) |> bo fun t20 =>
                (binX .add .no t5 (.int .i64 1)) |> bo fun t11 =>
                cutK k r5.2 [t0, t20] [t0, t20, t11] (L_laws_heldStringS k q 0))))
      (
        retK k m [t0, t1] t1)
  | _, _, _, _ => none
noncomputable def J_laws_heldStringS (k q l : Nat) : List Value → Mem → Option VM := cond (Nat.beq l 2) (L_laws_heldStringS k q 0) (fun _ _ => none)
def LL_laws_heldStringS : List (Nat × List Tmp) := [(2, [0, 1, 5])]
noncomputable def X_laws_heldStringS : List Value → Mem → Option VM
  | [t0, t1], m =>
    cutK m.length m [t0, t1] [t0, t1, (.int .i64 0)] (L_laws_heldStringS m.length QQ 0)
  | _, _ => none
noncomputable def C_laws_heldStringS : List Value → Mem → Option VM := fcall X_laws_heldStringS
@[simp] theorem c_laws_heldStringS : C_laws_heldStringS = fcall X_laws_heldStringS := (rfl)
theorem cok_laws_heldStringS : codeOk CT Try.f89 (Try.f89.body.get rfl) = true := by kernel_rfl
theorem xe_laws_heldStringS (t0 t1 : Value) (m : Mem) : ex CT cf_laws_heldStringS Try.f89 2 m.length LL_laws_heldStringS (J_laws_heldStringS m.length QQ) 400 [.code (Try.f89.body.get rfl)] (argsT 0 [t0, t1]) m = X_laws_heldStringS [t0, t1] m := by kernel_rfl
theorem okc_laws_heldStringS : CallOK CT cf_laws_heldStringS := cfc_ok ok_C_laws_markText cfn_ok
theorem le_laws_heldStringS_0 (k q : Nat) (t0 t1 t5 : Value) (m : Mem) : ex CT cf_laws_heldStringS Try.f89 2 k LL_laws_heldStringS (J_laws_heldStringS k q) 400 (atLoop Try.f89 0) [(0, t0), (1, t1), (5, t5)] m = J_laws_heldStringS k (q + 1) 2 [t0, t1, t5] m := by kernel_rfl
theorem gl_laws_heldStringS (k : Nat) : ∀ q i, i < 1 → GoodL CT k Try.f89 LL_laws_heldStringS (J_laws_heldStringS k q) (atLoop Try.f89 i)
  | 0, 0, _ => goodL_zero (l := 2) (by kernel_rfl) (fun vs m => by kernel_rfl)
  | 0, _ + 1, h => absurd h (by omega)
  | q + 1, 0, _ => goodL_succ (np := 2) (l := 2) (live := [0, 1, 5]) (n := 1) CT_ok rfl okc_laws_heldStringS (c := (Try.f89.body.get rfl)) rfl cok_laws_heldStringS (by kernel_rfl) (gl_laws_heldStringS k q) (by kernel_rfl) rfl (fun vs m r hl h => match vs, hl with
    | [t0, t1, t5], _ => (le_laws_heldStringS_0 k q t0 t1 t5 m).trans h)
  | _ + 1, _ + 1, h => absurd h (by omega)
theorem ok_X_laws_heldStringS : OkX CT 89 X_laws_heldStringS := OkX.of_ex (cf := cf_laws_heldStringS) (np := 2) (LL := LL_laws_heldStringS) (J := (fun k => J_laws_heldStringS k QQ)) CT_ok rfl Try.func89 rfl (Nat.le_of_ble_eq_true rfl) (by decide) cok_laws_heldStringS okc_laws_heldStringS (fun k => allLoops rfl (by kernel_rfl) (gl_laws_heldStringS k QQ)) (fun args m r h => match args, h with
    | [t0, t1], h => ⟨rfl, (xe_laws_heldStringS t0 t1 m).trans h⟩)
theorem ok_C_laws_heldStringS : OkC CT 89 C_laws_heldStringS := fcall_ok rfl ok_X_laws_heldStringS

/-! ### laws.heldHoldS -/
noncomputable def cf_laws_heldHoldS : CallF := cfn
noncomputable def L_laws_heldHoldS (k : Nat) : Nat → Nat → List Value → Mem → Option VM
  | q + 1, 0, [t0, t1, t5], m =>
    (lenX t0) |> bo fun t8 =>
    (binX .lss .no t5 t8) |> bo fun t9 =>
    brX t9
      (
        (ixaX 2 t0 t5) |> bo fun t14 =>
        (fadX 0 t14) |> bo fun t15 =>
        (ld1 m t15) |> bo fun t16 =>
        (binX .neq .no t16 t1) |> bo fun t18 =>
        brX t18
          (
            retK k m [t0, t1] (.int .i64 (-1)))
          (
            (binX .add .no t1 (.int .i64 1)) |> bo fun t20 =>
            (ixaX 2 t0 t5) |> bo fun t23 =>
            (fadX 1 t23) |> bo fun t24 =>
            (ld1 m t24) |> bo fun t25 =>
            (binX .neq .no t25 t20) |> bo fun t27 =>
            brX t27
              (
                retK k m [t0, t20] (.int .i64 (-1)))
              (
                (binX .add .no t20 (.int .i64 1)) |> bo fun t29 =>
                (binX .add .no t5 (.int .i64 1)) |> bo fun t11 =>
                cutK k m [t0, t29] [t0, t29, t11] (L_laws_heldHoldS k q 0))))
      (
        retK k m [t0, t1] t1)
  | _, _, _, _ => none
noncomputable def J_laws_heldHoldS (k q l : Nat) : List Value → Mem → Option VM := cond (Nat.beq l 2) (L_laws_heldHoldS k q 0) (fun _ _ => none)
def LL_laws_heldHoldS : List (Nat × List Tmp) := [(2, [0, 1, 5])]
noncomputable def X_laws_heldHoldS : List Value → Mem → Option VM
  | [t0, t1], m =>
    cutK m.length m [t0, t1] [t0, t1, (.int .i64 0)] (L_laws_heldHoldS m.length QQ 0)
  | _, _ => none
noncomputable def C_laws_heldHoldS : List Value → Mem → Option VM := fcall X_laws_heldHoldS
@[simp] theorem c_laws_heldHoldS : C_laws_heldHoldS = fcall X_laws_heldHoldS := (rfl)
theorem cok_laws_heldHoldS : codeOk CT Try.f128 (Try.f128.body.get rfl) = true := by kernel_rfl
theorem xe_laws_heldHoldS (t0 t1 : Value) (m : Mem) : ex CT cf_laws_heldHoldS Try.f128 2 m.length LL_laws_heldHoldS (J_laws_heldHoldS m.length QQ) 400 [.code (Try.f128.body.get rfl)] (argsT 0 [t0, t1]) m = X_laws_heldHoldS [t0, t1] m := by kernel_rfl
theorem okc_laws_heldHoldS : CallOK CT cf_laws_heldHoldS := cfn_ok
theorem le_laws_heldHoldS_0 (k q : Nat) (t0 t1 t5 : Value) (m : Mem) : ex CT cf_laws_heldHoldS Try.f128 2 k LL_laws_heldHoldS (J_laws_heldHoldS k q) 400 (atLoop Try.f128 0) [(0, t0), (1, t1), (5, t5)] m = J_laws_heldHoldS k (q + 1) 2 [t0, t1, t5] m := by kernel_rfl
theorem gl_laws_heldHoldS (k : Nat) : ∀ q i, i < 1 → GoodL CT k Try.f128 LL_laws_heldHoldS (J_laws_heldHoldS k q) (atLoop Try.f128 i)
  | 0, 0, _ => goodL_zero (l := 2) (by kernel_rfl) (fun vs m => by kernel_rfl)
  | 0, _ + 1, h => absurd h (by omega)
  | q + 1, 0, _ => goodL_succ (np := 2) (l := 2) (live := [0, 1, 5]) (n := 1) CT_ok rfl okc_laws_heldHoldS (c := (Try.f128.body.get rfl)) rfl cok_laws_heldHoldS (by kernel_rfl) (gl_laws_heldHoldS k q) (by kernel_rfl) rfl (fun vs m r hl h => match vs, hl with
    | [t0, t1, t5], _ => (le_laws_heldHoldS_0 k q t0 t1 t5 m).trans h)
  | _ + 1, _ + 1, h => absurd h (by omega)
theorem ok_X_laws_heldHoldS : OkX CT 128 X_laws_heldHoldS := OkX.of_ex (cf := cf_laws_heldHoldS) (np := 2) (LL := LL_laws_heldHoldS) (J := (fun k => J_laws_heldHoldS k QQ)) CT_ok rfl Try.func128 rfl (Nat.le_of_ble_eq_true rfl) (by decide) cok_laws_heldHoldS okc_laws_heldHoldS (fun k => allLoops rfl (by kernel_rfl) (gl_laws_heldHoldS k QQ)) (fun args m r h => match args, h with
    | [t0, t1], h => ⟨rfl, (xe_laws_heldHoldS t0 t1 m).trans h⟩)
theorem ok_C_laws_heldHoldS : OkC CT 128 C_laws_heldHoldS := fcall_ok rfl ok_X_laws_heldHoldS

/-! ### laws.heldKeyboard -/
noncomputable def cf_laws_heldKeyboard : CallF := cfc 128 C_laws_heldHoldS cfn
noncomputable def X_laws_heldKeyboard : List Value → Mem → Option VM
  | [t0, t1], m =>
    (boxX m t0) |> bo fun r1 =>
    (fadX 0 r1.1) |> bo fun t5 =>
    (ld1 r1.2 t5) |> bo fun t6 =>
    (C_laws_heldHoldS [t6, t1] r1.2) |> bo fun r4 =>
    (binX .lss .no r4.1 (.int .i64 0)) |> bo fun t10 =>
    brX t10
      (
        retK m.length r4.2 [t0, r4.1] (.int .i64 (-1)))
      (
        retK m.length r4.2 [t0, r4.1] r4.1)
  | _, _ => none
noncomputable def C_laws_heldKeyboard : List Value → Mem → Option VM := fcall X_laws_heldKeyboard
@[simp] theorem c_laws_heldKeyboard : C_laws_heldKeyboard = fcall X_laws_heldKeyboard := (rfl)
theorem cok_laws_heldKeyboard : codeOk CT Try.f90 (Try.f90.body.get rfl) = true := by kernel_rfl
theorem xe_laws_heldKeyboard (t0 t1 : Value) (m : Mem) : ex CT cf_laws_heldKeyboard Try.f90 2 m.length [] (fun _ _ _ => none) 400 [.code (Try.f90.body.get rfl)] (argsT 0 [t0, t1]) m = X_laws_heldKeyboard [t0, t1] m := by kernel_rfl
theorem okc_laws_heldKeyboard : CallOK CT cf_laws_heldKeyboard := cfc_ok ok_C_laws_heldHoldS cfn_ok
theorem ok_X_laws_heldKeyboard : OkX CT 90 X_laws_heldKeyboard := OkX.of_ex (cf := cf_laws_heldKeyboard) (np := 2) (LL := []) (J := (fun _ _ _ _ => none)) CT_ok rfl Try.func90 rfl (Nat.le_of_ble_eq_true rfl) (by decide) cok_laws_heldKeyboard okc_laws_heldKeyboard (fun k => noLoops rfl) (fun args m r h => match args, h with
    | [t0, t1], h => ⟨rfl, (xe_laws_heldKeyboard t0 t1 m).trans h⟩)
theorem ok_C_laws_heldKeyboard : OkC CT 90 C_laws_heldKeyboard := fcall_ok rfl ok_X_laws_heldKeyboard

/-! ### laws.heldMux -/
noncomputable def cf_laws_heldMux : CallF := cfc 86 C_laws_heldConsoleS (cfc 87 C_laws_heldBoolS (cfc 88 C_laws_heldBindS (cfc 89 C_laws_heldStringS (cfc 90 C_laws_heldKeyboard cfn))))
noncomputable def X_laws_heldMux : List Value → Mem → Option VM
  | [t0, t1], m =>
    (boxX m t0) |> bo fun r1 =>
    (fadX 0 r1.1) |> bo fun t5 =>
    (ld1 r1.2 t5) |> bo fun t6 =>
    (C_laws_heldConsoleS [t6, t1] r1.2) |> bo fun r4 =>
    (binX .lss .no r4.1 (.int .i64 0)) |> bo fun t10 =>
    brX t10
      (
        retK m.length r4.2 [t0, r4.1] (.int .i64 (-1)))
      (
        (fadX 1 r1.1) |> bo fun t11 =>
        (ld1 r4.2 t11) |> bo fun t12 =>
        (C_laws_heldBoolS [t12, r4.1] r4.2) |> bo fun r8 =>
        (binX .lss .no r8.1 (.int .i64 0)) |> bo fun t16 =>
        brX t16
          (
            retK m.length r8.2 [t0, r8.1] (.int .i64 (-1)))
          (
            (fadX 5 r1.1) |> bo fun t17 =>
            (ld1 r8.2 t17) |> bo fun t18 =>
            (C_laws_heldBindS [t18, r8.1] r8.2) |> bo fun r12 =>
            (binX .lss .no r12.1 (.int .i64 0)) |> bo fun t22 =>
            brX t22
              (
                retK m.length r12.2 [t0, r12.1] (.int .i64 (-1)))
              (
                (fadX 6 r1.1) |> bo fun t23 =>
                (ld1 r12.2 t23) |> bo fun t24 =>
                (C_laws_heldStringS [t24, r12.1] r12.2) |> bo fun r16 =>
                (binX .lss .no r16.1 (.int .i64 0)) |> bo fun t28 =>
                brX t28
                  (
                    retK m.length r16.2 [t0, r16.1] (.int .i64 (-1)))
                  (
                    (fadX 7 r1.1) |> bo fun t29 =>
                    (ldS r16.2 3 t29) |> bo fun t30 =>
                    (C_laws_heldKeyboard [t30, r16.1] r16.2) |> bo fun r20 =>
                    (binX .lss .no r20.1 (.int .i64 0)) |> bo fun t34 =>
                    brX t34
                      (
                        retK m.length r20.2 [t0, r20.1] (.int .i64 (-1)))
                      (
                        retK m.length r20.2 [t0, r20.1] r20.1)))))
  | _, _ => none
noncomputable def C_laws_heldMux : List Value → Mem → Option VM := fcall X_laws_heldMux
@[simp] theorem c_laws_heldMux : C_laws_heldMux = fcall X_laws_heldMux := (rfl)
theorem cok_laws_heldMux : codeOk CT Try.f36 (Try.f36.body.get rfl) = true := by kernel_rfl
theorem xe_laws_heldMux (t0 t1 : Value) (m : Mem) : ex CT cf_laws_heldMux Try.f36 2 m.length [] (fun _ _ _ => none) 400 [.code (Try.f36.body.get rfl)] (argsT 0 [t0, t1]) m = X_laws_heldMux [t0, t1] m := by kernel_rfl
theorem okc_laws_heldMux : CallOK CT cf_laws_heldMux := cfc_ok ok_C_laws_heldConsoleS (cfc_ok ok_C_laws_heldBoolS (cfc_ok ok_C_laws_heldBindS (cfc_ok ok_C_laws_heldStringS (cfc_ok ok_C_laws_heldKeyboard cfn_ok))))
theorem ok_X_laws_heldMux : OkX CT 36 X_laws_heldMux := OkX.of_ex (cf := cf_laws_heldMux) (np := 2) (LL := []) (J := (fun _ _ _ _ => none)) CT_ok rfl Try.func36 rfl (Nat.le_of_ble_eq_true rfl) (by decide) cok_laws_heldMux okc_laws_heldMux (fun k => noLoops rfl) (fun args m r h => match args, h with
    | [t0, t1], h => ⟨rfl, (xe_laws_heldMux t0 t1 m).trans h⟩)
theorem ok_C_laws_heldMux : OkC CT 36 C_laws_heldMux := fcall_ok rfl ok_X_laws_heldMux

/-! ### laws.heldMuxResult -/
noncomputable def cf_laws_heldMuxResult : CallF := cfc 35 C_laws_heldByteS (cfc 36 C_laws_heldMux cfn)
noncomputable def X_laws_heldMuxResult : List Value → Mem → Option VM
  | [t0, t1], m =>
    (boxX m t0) |> bo fun r1 =>
    (fadX 2 r1.1) |> bo fun t5 =>
    (ld1 r1.2 t5) |> bo fun t6 =>
    (C_laws_heldByteS [t6, t1] r1.2) |> bo fun r4 =>
    (binX .lss .no r4.1 (.int .i64 0)) |> bo fun t10 =>
    brX t10
      (
        retK m.length r4.2 [t0, r4.1] (.int .i64 (-1)))
      (
        (fadX 3 r1.1) |> bo fun t11 =>
        (ldS r4.2 10 t11) |> bo fun t12 =>
        (C_laws_heldMux [t12, r4.1] r4.2) |> bo fun r8 =>
        (binX .lss .no r8.1 (.int .i64 0)) |> bo fun t16 =>
        brX t16
          (
            retK m.length r8.2 [t0, r8.1] (.int .i64 (-1)))
          (
            retK m.length r8.2 [t0, r8.1] r8.1))
  | _, _ => none
noncomputable def C_laws_heldMuxResult : List Value → Mem → Option VM := fcall X_laws_heldMuxResult
@[simp] theorem c_laws_heldMuxResult : C_laws_heldMuxResult = fcall X_laws_heldMuxResult := (rfl)
theorem cok_laws_heldMuxResult : codeOk CT Try.f10 (Try.f10.body.get rfl) = true := by kernel_rfl
theorem xe_laws_heldMuxResult (t0 t1 : Value) (m : Mem) : ex CT cf_laws_heldMuxResult Try.f10 2 m.length [] (fun _ _ _ => none) 400 [.code (Try.f10.body.get rfl)] (argsT 0 [t0, t1]) m = X_laws_heldMuxResult [t0, t1] m := by kernel_rfl
theorem okc_laws_heldMuxResult : CallOK CT cf_laws_heldMuxResult := cfc_ok ok_C_laws_heldByteS (cfc_ok ok_C_laws_heldMux cfn_ok)
theorem ok_X_laws_heldMuxResult : OkX CT 10 X_laws_heldMuxResult := OkX.of_ex (cf := cf_laws_heldMuxResult) (np := 2) (LL := []) (J := (fun _ _ _ _ => none)) CT_ok rfl Try.func10 rfl (Nat.le_of_ble_eq_true rfl) (by decide) cok_laws_heldMuxResult okc_laws_heldMuxResult (fun k => noLoops rfl) (fun args m r h => match args, h with
    | [t0, t1], h => ⟨rfl, (xe_laws_heldMuxResult t0 t1 m).trans h⟩)
theorem ok_C_laws_heldMuxResult : OkC CT 10 C_laws_heldMuxResult := fcall_ok rfl ok_X_laws_heldMuxResult

/-! ### laws.FnExactNewMux -/
noncomputable def cf_laws_FnExactNewMux : CallF := cfc 6 C_spec_NewMux (cfc 7 C_impl_NewMux (cfc 8 C_laws_eqMuxResult (cfc 9 C_laws_markMuxResult (cfc 10 C_laws_heldMuxResult cfn))))
noncomputable def X_laws_FnExactNewMux : List Value → Mem → Option VM
  | [t0, t1], m =>
    (C_spec_NewMux [t0, t1] m) |> bo fun r1 =>
    (alX r1.2 [.int .i64 0, .bool false, .slice none 0 0, .slice none 0 0, .slice none 0 0, .int .i64 0, .int .i64 0, .int .i64 0, .slice none 0 0, .slice none 0 0, .slice none 0 0, .bool false, .int .i64 0]) |> bo fun r2 =>
    (stX r2.2 13 r2.1 r1.1) |> bo fun m3 =>
    (C_impl_NewMux [t0, t1] m3) |> bo fun r4 =>
    (alX r4.2 [.int .i64 0, .bool false, .slice none 0 0, .slice none 0 0, .slice none 0 0, .int .i64 0, .int .i64 0, .int .i64 0, .slice none 0 0, .slice none 0 0, .slice none 0 0, .bool false, .int .i64 0]) |> bo fun r5 =>
    (stX r5.2 13 r5.1 r4.1) |> bo fun m6 =>
    (ldS m6 13 r5.1) |> bo fun t16 =>
    (ldS m6 13 r2.1) |> bo fun t17 =>
    (C_laws_eqMuxResult [t16, t17] m6) |> bo fun r9 =>
    (uop .not r9.1) |> bo fun t19 =>
    brX t19
      (
        retK m.length r9.2 [t0, t1] (.bool false))
      (
        (ldS r9.2 13 r5.1) |> bo fun t20 =>
        (C_laws_markMuxResult [t20, (.int .i64 1)] r9.2) |> bo fun r12 =>
        (ldS r12.2 13 r5.1) |> bo fun t23 =>
        (C_laws_heldMuxResult [t23, (.int .i64 1)] r12.2) |> bo fun r14 =>
        (binX .lss .no r14.1 (.int .i64 0)) |> bo fun t27 =>
        brX t27
          (
            retK m.length r14.2 [t0, t1] (.bool false))
          (
            (binX .neq .no r14.1 r12.1) |> bo fun t30 =>
            brX t30
              (
                retK m.length r14.2 [t0, t1] (.bool false))
              (
                (C_impl_NewMux [t0, t1] r14.2) |> bo fun r17 =>
                (alX r17.2 [.int .i64 0, .bool false, .slice none 0 0, .slice none 0 0, .slice none 0 0, .int .i64 0, .int .i64 0, .int .i64 0, .slice none 0 0, .slice none 0 0, .slice none 0 0, .bool false, .int .i64 0]) |> bo fun r18 =>
                (stX r18.2 13 r18.1 r17.1) |> bo fun m19 =>
                (ldS m19 13 r18.1) |> bo fun t34 =>
                (ldS m19 13 r2.1) |> bo fun t35 =>
                (C_laws_eqMuxResult [t34, t35] m19) |> bo fun r22 =>
                (uop .not r22.1) |> bo fun t37 =>
                brX t37
                  (
                    retK m.length r22.2 [t0, t1] (.bool false))
                  (
                    (ldS r22.2 13 r5.1) |> bo fun t38 =>
                    (C_laws_heldMuxResult [t38, (.int .i64 1)] r22.2) |> bo fun r25 =>
                    (binX .lss .no r25.1 (.int .i64 0)) |> bo fun t42 =>
                    brX t42
                      (
                        retK m.length r25.2 [t0, t1] (.bool false))
                      (
                        (binX .neq .no r25.1 r12.1) |> bo fun t45 =>
                        brX t45
                          (
                            retK m.length r25.2 [t0, t1] (.bool false))
                          (
                            retK m.length r25.2 [t0, t1] (.bool true)))))))
  | _, _ => none
noncomputable def C_laws_FnExactNewMux : List Value → Mem → Option VM := fcall X_laws_FnExactNewMux
@[simp] theorem c_laws_FnExactNewMux : C_laws_FnExactNewMux = fcall X_laws_FnExactNewMux := (rfl)
theorem cok_laws_FnExactNewMux : codeOk CT Try.f3 (Try.f3.body.get rfl) = true := by kernel_rfl
theorem xe_laws_FnExactNewMux (t0 t1 : Value) (m : Mem) : ex CT cf_laws_FnExactNewMux Try.f3 2 m.length [] (fun _ _ _ => none) 400 [.code (Try.f3.body.get rfl)] (argsT 0 [t0, t1]) m = X_laws_FnExactNewMux [t0, t1] m := by kernel_rfl
theorem okc_laws_FnExactNewMux : CallOK CT cf_laws_FnExactNewMux := cfc_ok ok_C_spec_NewMux (cfc_ok ok_C_impl_NewMux (cfc_ok ok_C_laws_eqMuxResult (cfc_ok ok_C_laws_markMuxResult (cfc_ok ok_C_laws_heldMuxResult cfn_ok))))
theorem ok_X_laws_FnExactNewMux : OkX CT 3 X_laws_FnExactNewMux := OkX.of_ex (cf := cf_laws_FnExactNewMux) (np := 2) (LL := []) (J := (fun _ _ _ _ => none)) CT_ok rfl Try.func3 rfl (Nat.le_of_ble_eq_true rfl) (by decide) cok_laws_FnExactNewMux okc_laws_FnExactNewMux (fun k => noLoops rfl) (fun args m r h => match args, h with
    | [t0, t1], h => ⟨rfl, (xe_laws_FnExactNewMux t0 t1 m).trans h⟩)
theorem ok_C_laws_FnExactNewMux : OkC CT 3 C_laws_FnExactNewMux := fcall_ok rfl ok_X_laws_FnExactNewMux

end Go.Ab
