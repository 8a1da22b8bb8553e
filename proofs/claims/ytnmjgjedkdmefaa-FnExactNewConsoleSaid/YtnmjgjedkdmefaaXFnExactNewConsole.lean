/- Plain forms of functions, printed by gen.py. -/
import Derived.Test.YtnmjgjedkdmefaaCf4
import Derived.Test.YtnmjgjedkdmefaaFC
set_option linter.unusedVariables false
set_option linter.unusedSimpArgs false
namespace Go.Ab
open Go.Proofs
set_option maxRecDepth 100000
set_option linter.unusedVariables false
/-! ### spec.l1In -/
noncomputable def cf_spec_l1In : CallF := cfn
noncomputable def X_spec_l1In : List Value → Mem → Option VM
  | [t0, t1, t2], m =>
    (binX .geq .no t0 t1) |> bo fun t9 =>
    (gd t9 true (some (t0, m)) m) |> bo fun r2 =>
    (gd t9 true (some (t2, r2.2)) r2.2) |> bo fun r3 =>
    (gd t9 true ((binX .leq .no r2.1 r3.1) |> bo fun v => some (v, r3.2)) r3.2) |> bo fun r4 =>
    (pickX t9 r4.1 (.bool false)) |> bo fun t14 =>
    retK m.length r4.2 [t0, t1, t2] t14
  | _, _ => none
noncomputable def C_spec_l1In : List Value → Mem → Option VM := fcall X_spec_l1In
@[simp] theorem c_spec_l1In : C_spec_l1In = fcall X_spec_l1In := (rfl)
theorem cok_spec_l1In : codeOk CT Try.f127 (Try.f127.body.get rfl) = true := by kernel_rfl
theorem xe_spec_l1In (t0 t1 t2 : Value) (m : Mem) : ex CT cf_spec_l1In Try.f127 3 m.length [] (fun _ _ _ => none) 400 [.code (Try.f127.body.get rfl)] (argsT 0 [t0, t1, t2]) m = X_spec_l1In [t0, t1, t2] m := by kernel_rfl
theorem okc_spec_l1In : CallOK CT cf_spec_l1In := cfn_ok
theorem ok_X_spec_l1In : OkX CT 127 X_spec_l1In := OkX.of_ex (cf := cf_spec_l1In) (np := 3) (LL := []) (J := (fun _ _ _ _ => none)) CT_ok rfl Try.func127 rfl (Nat.le_of_ble_eq_true rfl) (by decide) cok_spec_l1In okc_spec_l1In (fun k => noLoops rfl) (fun args m r h => match args, h with
    | [t0, t1, t2], h => ⟨rfl, (xe_spec_l1In t0 t1 t2 m).trans h⟩)
theorem ok_C_spec_l1In : OkC CT 127 C_spec_l1In := fcall_ok rfl ok_X_spec_l1In

/-! ### spec.l3Size -/
noncomputable def cf_spec_l3Size : CallF := cfc 127 C_spec_l1In cfn
noncomputable def X_spec_l3Size : List Value → Mem → Option VM
  | [t0, t1], m =>
    (C_spec_l1In [t0, (.int .i64 1), (.int .i64 6)] m) |> bo fun r1 =>
    (gd r1.1 true (some (t1, r1.2)) r1.2) |> bo fun r2 =>
    (gd r1.1 true ((C_spec_l1In [r2.1, (.int .i64 2), (.int .i64 12)] r2.2) |> bo fun r => some (r.1, r.2)) r2.2) |> bo fun r3 =>
    (pickX r1.1 r3.1 (.bool false)) |> bo fun t10 =>
    retK m.length r3.2 [t0, t1] t10
  | _, _ => none
noncomputable def C_spec_l3Size : List Value → Mem → Option VM := fcall X_spec_l3Size
@[simp] theorem c_spec_l3Size : C_spec_l3Size = fcall X_spec_l3Size := (rfl)
theorem cok_spec_l3Size : codeOk CT Try.f82 (Try.f82.body.get rfl) = true := by kernel_rfl
theorem xe_spec_l3Size (t0 t1 : Value) (m : Mem) : ex CT cf_spec_l3Size Try.f82 2 m.length [] (fun _ _ _ => none) 400 [.code (Try.f82.body.get rfl)] (argsT 0 [t0, t1]) m = X_spec_l3Size [t0, t1] m := by kernel_rfl
theorem okc_spec_l3Size : CallOK CT cf_spec_l3Size := cfc_ok ok_C_spec_l1In cfn_ok
theorem ok_X_spec_l3Size : OkX CT 82 X_spec_l3Size := OkX.of_ex (cf := cf_spec_l3Size) (np := 2) (LL := []) (J := (fun _ _ _ _ => none)) CT_ok rfl Try.func82 rfl (Nat.le_of_ble_eq_true rfl) (by decide) cok_spec_l3Size okc_spec_l3Size (fun k => noLoops rfl) (fun args m r h => match args, h with
    | [t0, t1], h => ⟨rfl, (xe_spec_l3Size t0 t1 m).trans h⟩)
theorem ok_C_spec_l3Size : OkC CT 82 C_spec_l3Size := fcall_ok rfl ok_X_spec_l3Size

/-! ### spec.l13Bad -/
noncomputable def cf_spec_l13Bad : CallF := cfn
noncomputable def X_spec_l13Bad : List Value → Mem → Option VM
  | [t0], m =>
    (alX m [.int .i64 0, .bool false, .slice none 0 0, .int .i64 0, .int .i64 0, .int .i64 0, .int .i64 0, .int .i64 0, .bool false, .slice none 0 0, .int .i64 0, .int .i64 0, .slice none 0 0, .slice none 0 0, .int .i64 0, .int .i64 0, .bool false, .int .i64 0, .int .i64 0, .int .i64 0, .bool false, .bool false, .bool false, .slice none 0 0, .int .i64 0, .int .i64 0, .int .i64 0, .slice none 0 0, .int .i64 0, .int .i64 0, .int .i64 0, .int .i64 0, .int .i64 0, .int .i64 0, .int .i64 0, .int .i64 0, .int .i64 0, .slice none 0 0, .slice none 0 0, .bool false, .int .i64 0]) |> bo fun r1 =>
    (bldX [.int .i64 0, .bool false, .slice none 0 0, .int .i64 0, .int .i64 0, .int .i64 0, .int .i64 0, .int .i64 0, .bool false, .slice none 0 0, .int .i64 0, .int .i64 0, .slice none 0 0, .slice none 0 0, .int .i64 0, .int .i64 0, .bool false, .int .i64 0, .int .i64 0, .int .i64 0, .bool false, .bool false, .bool false, .slice none 0 0, .int .i64 0, .int .i64 0, .int .i64 0, .slice none 0 0, .int .i64 0, .int .i64 0, .int .i64 0, .int .i64 0, .int .i64 0, .int .i64 0, .int .i64 0, .int .i64 0, .int .i64 0, .slice none 0 0, .slice none 0 0, .bool false, .int .i64 0] [(0, 1, t0)]) |> bo fun t4 =>
    (stX r1.2 41 r1.1 t4) |> bo fun m3 =>
    (resP (some 41) m3 r1.1) |> bo fun c4 =>
    retK m.length m3 [t0] c4
  | _, _ => none
noncomputable def C_spec_l13Bad : List Value → Mem → Option VM := fcall X_spec_l13Bad
@[simp] theorem c_spec_l13Bad : C_spec_l13Bad = fcall X_spec_l13Bad := (rfl)
theorem cok_spec_l13Bad : codeOk CT Try.f83 (Try.f83.body.get rfl) = true := by kernel_rfl
theorem xe_spec_l13Bad (t0 : Value) (m : Mem) : ex CT cf_spec_l13Bad Try.f83 1 m.length [] (fun _ _ _ => none) 400 [.code (Try.f83.body.get rfl)] (argsT 0 [t0]) m = X_spec_l13Bad [t0] m := by kernel_rfl
theorem okc_spec_l13Bad : CallOK CT cf_spec_l13Bad := cfn_ok
theorem ok_X_spec_l13Bad : OkX CT 83 X_spec_l13Bad := OkX.of_ex (cf := cf_spec_l13Bad) (np := 1) (LL := []) (J := (fun _ _ _ _ => none)) CT_ok rfl Try.func83 rfl (Nat.le_of_ble_eq_true rfl) (by decide) cok_spec_l13Bad okc_spec_l13Bad (fun k => noLoops rfl) (fun args m r h => match args, h with
    | [t0], h => ⟨rfl, (xe_spec_l13Bad t0 m).trans h⟩)
theorem ok_C_spec_l13Bad : OkC CT 83 C_spec_l13Bad := fcall_ok rfl ok_X_spec_l13Bad

/-! ### spec.l3Blanks -/
noncomputable def cf_spec_l3Blanks : CallF := cfn
noncomputable def L_spec_l3Blanks (k : Nat) : Nat → Nat → List Value → Mem → Option VM
  | q + 1, 0, [t0, t1, t5], m =>
    (binX .gtr .no t0 (.int .i64 0)) |> bo fun t8 =>
    brX t8
      (
        (bldX [.int .i64 0, .int .i64 0] [(0, 1, (.int .i64 32)), (1, 1, t1)]) |> bo fun t13 =>
        (bslX m 1 2 [.int .i64 0, .int .i64 0] [(0, 2, t13)]) |> bo fun r3 =>
        (apL r3.2 2 16 t5 r3.1) |> bo fun r4 =>
        (binX .sub .no t0 (.int .i64 1)) |> bo fun t10 =>
        cutK k r4.2 [t10, t1] [t10, t1, r4.1] (L_spec_l3Blanks k q 0))
      (
        retK k m [t0, t1] t5)
  | _, _, _, _ => none
noncomputable def J_spec_l3Blanks (k q l : Nat) : List Value → Mem → Option VM := cond (Nat.beq l 2) (L_spec_l3Blanks k q 0) (fun _ _ => none)
def LL_spec_l3Blanks : List (Nat × List Tmp) := [(2, [0, 1, 5])]
noncomputable def X_spec_l3Blanks : List Value → Mem → Option VM
  | [t0, t1], m =>
    (bslX m 0 2 [.int .i64 0, .int .i64 0] []) |> bo fun r1 =>
    cutK m.length r1.2 [t0, t1] [t0, t1, r1.1] (L_spec_l3Blanks m.length QQ 0)
  | _, _ => none
noncomputable def C_spec_l3Blanks : List Value → Mem → Option VM := fcall X_spec_l3Blanks
@[simp] theorem c_spec_l3Blanks : C_spec_l3Blanks = fcall X_spec_l3Blanks := (rfl)
theorem cok_spec_l3Blanks : codeOk CT Try.f205 (Try.f205.body.get rfl) = true := by kernel_rfl
theorem xe_spec_l3Blanks (t0 t1 : Value) (m : Mem) : ex CT cf_spec_l3Blanks Try.f205 2 m.length LL_spec_l3Blanks (J_spec_l3Blanks m.length QQ) 400 [.code (Try.f205.body.get rfl)] (argsT 0 [t0, t1]) m = X_spec_l3Blanks [t0, t1] m := by kernel_rfl
theorem okc_spec_l3Blanks : CallOK CT cf_spec_l3Blanks := cfn_ok
theorem le_spec_l3Blanks_0 (k q : Nat) (t0 t1 t5 : Value) (m : Mem) : ex CT cf_spec_l3Blanks Try.f205 2 k LL_spec_l3Blanks (J_spec_l3Blanks k q) 400 (atLoop Try.f205 0) [(0, t0), (1, t1), (5, t5)] m = J_spec_l3Blanks k (q + 1) 2 [t0, t1, t5] m := by kernel_rfl
theorem gl_spec_l3Blanks (k : Nat) : ∀ q i, i < 1 → GoodL CT k Try.f205 LL_spec_l3Blanks (J_spec_l3Blanks k q) (atLoop Try.f205 i)
  | 0, 0, _ => goodL_zero (l := 2) (by kernel_rfl) (fun vs m => by kernel_rfl)
  | 0, _ + 1, h => absurd h (by omega)
  | q + 1, 0, _ => goodL_succ (np := 2) (l := 2) (live := [0, 1, 5]) (n := 1) CT_ok rfl okc_spec_l3Blanks (c := (Try.f205.body.get rfl)) rfl cok_spec_l3Blanks (by kernel_rfl) (gl_spec_l3Blanks k q) (by kernel_rfl) rfl (fun vs m r hl h => match vs, hl with
    | [t0, t1, t5], _ => (le_spec_l3Blanks_0 k q t0 t1 t5 m).trans h)
  | _ + 1, _ + 1, h => absurd h (by omega)
theorem ok_X_spec_l3Blanks : OkX CT 205 X_spec_l3Blanks := OkX.of_ex (cf := cf_spec_l3Blanks) (np := 2) (LL := LL_spec_l3Blanks) (J := (fun k => J_spec_l3Blanks k QQ)) CT_ok rfl Try.func205 rfl (Nat.le_of_ble_eq_true rfl) (by decide) cok_spec_l3Blanks okc_spec_l3Blanks (fun k => allLoops rfl (by kernel_rfl) (gl_spec_l3Blanks k QQ)) (fun args m r h => match args, h with
    | [t0, t1], h => ⟨rfl, (xe_spec_l3Blanks t0 t1 m).trans h⟩)
theorem ok_C_spec_l3Blanks : OkC CT 205 C_spec_l3Blanks := fcall_ok rfl ok_X_spec_l3Blanks

/-! ### spec.l3New -/
noncomputable def cf_spec_l3New : CallF := cfc 205 C_spec_l3Blanks cfn
noncomputable def X_spec_l3New : List Value → Mem → Option VM
  | [t0, t1], m =>
    (alX m [.int .i64 0, .int .i64 0, .slice none 0 0, .slice none 0 0]) |> bo fun r1 =>
    (binX .mul .no t0 t1) |> bo fun t9 =>
    (C_spec_l3Blanks [t9, (.int .i64 0)] r1.2) |> bo fun r3 =>
    (bldX [.int .i64 0, .int .i64 0, .slice none 0 0, .slice none 0 0] [(0, 1, t0), (1, 1, t1), (2, 1, r3.1)]) |> bo fun t11 =>
    (stX r3.2 4 r1.1 t11) |> bo fun m5 =>
    (resP (some 4) m5 r1.1) |> bo fun c6 =>
    retK m.length m5 [t0, t1] c6
  | _, _ => none
noncomputable def C_spec_l3New : List Value → Mem → Option VM := fcall X_spec_l3New
@[simp] theorem c_spec_l3New : C_spec_l3New = fcall X_spec_l3New := (rfl)
theorem cok_spec_l3New : codeOk CT Try.f171 (Try.f171.body.get rfl) = true := by kernel_rfl
theorem xe_spec_l3New (t0 t1 : Value) (m : Mem) : ex CT cf_spec_l3New Try.f171 2 m.length [] (fun _ _ _ => none) 400 [.code (Try.f171.body.get rfl)] (argsT 0 [t0, t1]) m = X_spec_l3New [t0, t1] m := by kernel_rfl
theorem okc_spec_l3New : CallOK CT cf_spec_l3New := cfc_ok ok_C_spec_l3Blanks cfn_ok
theorem ok_X_spec_l3New : OkX CT 171 X_spec_l3New := OkX.of_ex (cf := cf_spec_l3New) (np := 2) (LL := []) (J := (fun _ _ _ _ => none)) CT_ok rfl Try.func171 rfl (Nat.le_of_ble_eq_true rfl) (by decide) cok_spec_l3New okc_spec_l3New (fun k => noLoops rfl) (fun args m r h => match args, h with
    | [t0, t1], h => ⟨rfl, (xe_spec_l3New t0 t1 m).trans h⟩)
theorem ok_C_spec_l3New : OkC CT 171 C_spec_l3New := fcall_ok rfl ok_X_spec_l3New

/-! ### spec.l5Tabs -/
noncomputable def cf_spec_l5Tabs : CallF := cfn
noncomputable def L_spec_l5Tabs (k : Nat) : Nat → Nat → List Value → Mem → Option VM
  | q + 1, 0, [t1, t5, t6], m =>
    (binX .lss .no t6 t1) |> bo fun t11 =>
    brX t11
      (
        (binX .gtr .no t6 (.int .i64 0)) |> bo fun t16 =>
        (gd t16 true (some (t6, m)) m) |> bo fun r3 =>
        (gd t16 true ((binX .rem .no r3.1 (.int .i64 8)) |> bo fun v => some (v, r3.2)) r3.2) |> bo fun r4 =>
        (gd t16 true ((binX .eql .no r4.1 (.int .i64 0)) |> bo fun v => some (v, r4.2)) r4.2) |> bo fun r5 =>
        (pickX t16 r5.1 (.bool false)) |> bo fun t21 =>
        (bslX r5.2 1 1 [.bool false] [(0, 1, t21)]) |> bo fun r7 =>
        (apL r7.2 1 1 t5 r7.1) |> bo fun r8 =>
        (binX .add .no t6 (.int .i64 1)) |> bo fun t13 =>
        cutK k r8.2 [t1] [t1, r8.1, t13] (L_spec_l5Tabs k q 0))
      (
        retK k m [t1] t5)
  | _, _, _, _ => none
noncomputable def J_spec_l5Tabs (k q l : Nat) : List Value → Mem → Option VM := cond (Nat.beq l 3) (L_spec_l5Tabs k q 0) (fun _ _ => none)
def LL_spec_l5Tabs : List (Nat × List Tmp) := [(3, [1, 5, 6])]
noncomputable def X_spec_l5Tabs : List Value → Mem → Option VM
  | [t0, t1], m =>
    (bslX m 0 1 [.bool false] []) |> bo fun r1 =>
    cutK m.length r1.2 [t0, t1] [t1, r1.1, t0] (L_spec_l5Tabs m.length QQ 0)
  | _, _ => none
noncomputable def C_spec_l5Tabs : List Value → Mem → Option VM := fcall X_spec_l5Tabs
@[simp] theorem c_spec_l5Tabs : C_spec_l5Tabs = fcall X_spec_l5Tabs := (rfl)
theorem cok_spec_l5Tabs : codeOk CT Try.f172 (Try.f172.body.get rfl) = true := by kernel_rfl
theorem xe_spec_l5Tabs (t0 t1 : Value) (m : Mem) : ex CT cf_spec_l5Tabs Try.f172 2 m.length LL_spec_l5Tabs (J_spec_l5Tabs m.length QQ) 400 [.code (Try.f172.body.get rfl)] (argsT 0 [t0, t1]) m = X_spec_l5Tabs [t0, t1] m := by kernel_rfl
theorem okc_spec_l5Tabs : CallOK CT cf_spec_l5Tabs := cfn_ok
theorem le_spec_l5Tabs_0 (k q : Nat) (t1 t5 t6 : Value) (m : Mem) : ex CT cf_spec_l5Tabs Try.f172 2 k LL_spec_l5Tabs (J_spec_l5Tabs k q) 400 (atLoop Try.f172 0) [(1, t1), (5, t5), (6, t6)] m = J_spec_l5Tabs k (q + 1) 3 [t1, t5, t6] m := by kernel_rfl
theorem gl_spec_l5Tabs (k : Nat) : ∀ q i, i < 1 → GoodL CT k Try.f172 LL_spec_l5Tabs (J_spec_l5Tabs k q) (atLoop Try.f172 i)
  | 0, 0, _ => goodL_zero (l := 3) (by kernel_rfl) (fun vs m => by kernel_rfl)
  | 0, _ + 1, h => absurd h (by omega)
  | q + 1, 0, _ => goodL_succ (np := 2) (l := 3) (live := [1, 5, 6]) (n := 1) CT_ok rfl okc_spec_l5Tabs (c := (Try.f172.body.get rfl)) rfl cok_spec_l5Tabs (by kernel_rfl) (gl_spec_l5Tabs k q) (by kernel_rfl) rfl (fun vs m r hl h => match vs, hl with
    | [t1, t5, t6], _ => (le_spec_l5Tabs_0 k q t1 t5 t6 m).trans h)
  | _ + 1, _ + 1, h => absurd h (by omega)
theorem ok_X_spec_l5Tabs : OkX CT 172 X_spec_l5Tabs := OkX.of_ex (cf := cf_spec_l5Tabs) (np := 2) (LL := LL_spec_l5Tabs) (J := (fun k => J_spec_l5Tabs k QQ)) CT_ok rfl Try.func172 rfl (Nat.le_of_ble_eq_true rfl) (by decide) cok_spec_l5Tabs okc_spec_l5Tabs (fun k => allLoops rfl (by kernel_rfl) (gl_spec_l5Tabs k QQ)) (fun args m r h => match args, h with
    | [t0, t1], h => ⟨rfl, (xe_spec_l5Tabs t0 t1 m).trans h⟩)
theorem ok_C_spec_l5Tabs : OkC CT 172 C_spec_l5Tabs := fcall_ok rfl ok_X_spec_l5Tabs

/-! ### spec.l5New -/
noncomputable def cf_spec_l5New : CallF := cfc 171 C_spec_l3New (cfc 172 C_spec_l5Tabs cfn)
noncomputable def X_spec_l5New : List Value → Mem → Option VM
  | [t0, t1], m =>
    (alX m [.int .i64 0, .int .i64 0, .slice none 0 0, .slice none 0 0, .int .i64 0, .int .i64 0, .bool false, .int .i64 0, .int .i64 0, .int .i64 0, .bool false, .bool false, .bool false, .slice none 0 0, .int .i64 0, .int .i64 0, .int .i64 0, .slice none 0 0, .int .i64 0, .int .i64 0]) |> bo fun r1 =>
    (C_spec_l3New [t0, t1] r1.2) |> bo fun r2 =>
    (binX .sub .no t0 (.int .i64 1)) |> bo fun t9 =>
    (C_spec_l5Tabs [(.int .i64 0), t1] r2.2) |> bo fun r4 =>
    (bslX r4.2 2 1 [.int .i64 0] [(0, 1, (.int .i64 1)), (1, 1, (.int .i64 1))]) |> bo fun r5 =>
    (bldX [.int .i64 0, .int .i64 0, .slice none 0 0, .slice none 0 0, .int .i64 0, .int .i64 0, .bool false, .int .i64 0, .int .i64 0, .int .i64 0, .bool false, .bool false, .bool false, .slice none 0 0, .int .i64 0, .int .i64 0, .int .i64 0, .slice none 0 0, .int .i64 0, .int .i64 0] [(0, 4, r2.1), (9, 1, t9), (11, 1, (.bool true)), (13, 1, r4.1), (17, 1, r5.1)]) |> bo fun t13 =>
    (stX r5.2 20 r1.1 t13) |> bo fun m7 =>
    (resP (some 20) m7 r1.1) |> bo fun c8 =>
    retK m.length m7 [t0, t1] c8
  | _, _ => none
noncomputable def C_spec_l5New : List Value → Mem → Option VM := fcall X_spec_l5New
@[simp] theorem c_spec_l5New : C_spec_l5New = fcall X_spec_l5New := (rfl)
theorem cok_spec_l5New : codeOk CT Try.f128 (Try.f128.body.get rfl) = true := by kernel_rfl
theorem xe_spec_l5New (t0 t1 : Value) (m : Mem) : ex CT cf_spec_l5New Try.f128 2 m.length [] (fun _ _ _ => none) 400 [.code (Try.f128.body.get rfl)] (argsT 0 [t0, t1]) m = X_spec_l5New [t0, t1] m := by kernel_rfl
theorem okc_spec_l5New : CallOK CT cf_spec_l5New := cfc_ok ok_C_spec_l3New (cfc_ok ok_C_spec_l5Tabs cfn_ok)
theorem ok_X_spec_l5New : OkX CT 128 X_spec_l5New := OkX.of_ex (cf := cf_spec_l5New) (np := 2) (LL := []) (J := (fun _ _ _ _ => none)) CT_ok rfl Try.func128 rfl (Nat.le_of_ble_eq_true rfl) (by decide) cok_spec_l5New okc_spec_l5New (fun k => noLoops rfl) (fun args m r h => match args, h with
    | [t0, t1], h => ⟨rfl, (xe_spec_l5New t0 t1 m).trans h⟩)
theorem ok_C_spec_l5New : OkC CT 128 C_spec_l5New := fcall_ok rfl ok_X_spec_l5New

/-! ### spec.l10Usual -/
noncomputable def cf_spec_l10Usual : CallF := cfn
noncomputable def X_spec_l10Usual : List Value → Mem → Option VM
  | [t0], m =>
    (alX m [.int .i64 0, .int .i64 0, .int .i64 0, .int .i64 0, .int .i64 0, .int .i64 0, .int .i64 0]) |> bo fun r1 =>
    (bldX [.int .i64 0, .int .i64 0, .int .i64 0, .int .i64 0, .int .i64 0, .int .i64 0, .int .i64 0] [(0, 1, t0), (1, 1, (.int .i64 127)), (2, 1, (.int .i64 21)), (3, 1, (.int .i64 23)), (4, 1, (.int .i64 4)), (5, 1, (.int .i64 3)), (6, 1, (.int .i64 22))]) |> bo fun t4 =>
    (stX r1.2 7 r1.1 t4) |> bo fun m3 =>
    (resP (some 7) m3 r1.1) |> bo fun c4 =>
    retK m.length m3 [t0] c4
  | _, _ => none
noncomputable def C_spec_l10Usual : List Value → Mem → Option VM := fcall X_spec_l10Usual
@[simp] theorem c_spec_l10Usual : C_spec_l10Usual = fcall X_spec_l10Usual := (rfl)
theorem cok_spec_l10Usual : codeOk CT Try.f129 (Try.f129.body.get rfl) = true := by kernel_rfl
theorem xe_spec_l10Usual (t0 : Value) (m : Mem) : ex CT cf_spec_l10Usual Try.f129 1 m.length [] (fun _ _ _ => none) 400 [.code (Try.f129.body.get rfl)] (argsT 0 [t0]) m = X_spec_l10Usual [t0] m := by kernel_rfl
theorem okc_spec_l10Usual : CallOK CT cf_spec_l10Usual := cfn_ok
theorem ok_X_spec_l10Usual : OkX CT 129 X_spec_l10Usual := OkX.of_ex (cf := cf_spec_l10Usual) (np := 1) (LL := []) (J := (fun _ _ _ _ => none)) CT_ok rfl Try.func129 rfl (Nat.le_of_ble_eq_true rfl) (by decide) cok_spec_l10Usual okc_spec_l10Usual (fun k => noLoops rfl) (fun args m r h => match args, h with
    | [t0], h => ⟨rfl, (xe_spec_l10Usual t0 m).trans h⟩)
theorem ok_C_spec_l10Usual : OkC CT 129 C_spec_l10Usual := fcall_ok rfl ok_X_spec_l10Usual

/-! ### spec.l13New -/
noncomputable def cf_spec_l13New : CallF := cfc 128 C_spec_l5New (cfc 129 C_spec_l10Usual cfn)
noncomputable def X_spec_l13New : List Value → Mem → Option VM
  | [t0, t1], m =>
    (alX m [.int .i64 0, .int .i64 0, .int .i64 0, .int .i64 0, .int .i64 0, .bool false, .slice none 0 0, .int .i64 0, .int .i64 0, .slice none 0 0, .slice none 0 0, .int .i64 0, .int .i64 0, .bool false, .int .i64 0, .int .i64 0, .int .i64 0, .bool false, .bool false, .bool false, .slice none 0 0, .int .i64 0, .int .i64 0, .int .i64 0, .slice none 0 0, .int .i64 0, .int .i64 0, .int .i64 0, .int .i64 0, .int .i64 0, .int .i64 0, .int .i64 0, .int .i64 0, .int .i64 0, .slice none 0 0, .slice none 0 0, .bool false, .int .i64 0]) |> bo fun r1 =>
    (C_spec_l5New [t0, t1] r1.2) |> bo fun r2 =>
    (bldX [.int .i64 0, .int .i64 0, .int .i64 0, .int .i64 0, .int .i64 0, .bool false, .slice none 0 0, .int .i64 0, .int .i64 0, .slice none 0 0, .slice none 0 0, .int .i64 0, .int .i64 0, .bool false, .int .i64 0, .int .i64 0, .int .i64 0, .bool false, .bool false, .bool false, .slice none 0 0, .int .i64 0, .int .i64 0, .int .i64 0, .slice none 0 0, .int .i64 0, .int .i64 0] [(7, 20, r2.1)]) |> bo fun t8 =>
    (C_spec_l10Usual [(.int .i64 511)] r2.2) |> bo fun r4 =>
    (bldX [.int .i64 0, .int .i64 0, .int .i64 0, .int .i64 0, .int .i64 0, .bool false, .slice none 0 0, .int .i64 0, .int .i64 0, .slice none 0 0, .slice none 0 0, .int .i64 0, .int .i64 0, .bool false, .int .i64 0, .int .i64 0, .int .i64 0, .bool false, .bool false, .bool false, .slice none 0 0, .int .i64 0, .int .i64 0, .int .i64 0, .slice none 0 0, .int .i64 0, .int .i64 0, .int .i64 0, .int .i64 0, .int .i64 0, .int .i64 0, .int .i64 0, .int .i64 0, .int .i64 0, .slice none 0 0, .slice none 0 0, .bool false, .int .i64 0] [(0, 27, t8), (27, 7, r4.1)]) |> bo fun t10 =>
    (stX r4.2 38 r1.1 t10) |> bo fun m6 =>
    (resP (some 38) m6 r1.1) |> bo fun c7 =>
    retK m.length m6 [t0, t1] c7
  | _, _ => none
noncomputable def C_spec_l13New : List Value → Mem → Option VM := fcall X_spec_l13New
@[simp] theorem c_spec_l13New : C_spec_l13New = fcall X_spec_l13New := (rfl)
theorem cok_spec_l13New : codeOk CT Try.f84 (Try.f84.body.get rfl) = true := by kernel_rfl
theorem xe_spec_l13New (t0 t1 : Value) (m : Mem) : ex CT cf_spec_l13New Try.f84 2 m.length [] (fun _ _ _ => none) 400 [.code (Try.f84.body.get rfl)] (argsT 0 [t0, t1]) m = X_spec_l13New [t0, t1] m := by kernel_rfl
theorem okc_spec_l13New : CallOK CT cf_spec_l13New := cfc_ok ok_C_spec_l5New (cfc_ok ok_C_spec_l10Usual cfn_ok)
theorem ok_X_spec_l13New : OkX CT 84 X_spec_l13New := OkX.of_ex (cf := cf_spec_l13New) (np := 2) (LL := []) (J := (fun _ _ _ _ => none)) CT_ok rfl Try.func84 rfl (Nat.le_of_ble_eq_true rfl) (by decide) cok_spec_l13New okc_spec_l13New (fun k => noLoops rfl) (fun args m r h => match args, h with
    | [t0, t1], h => ⟨rfl, (xe_spec_l13New t0 t1 m).trans h⟩)
theorem ok_C_spec_l13New : OkC CT 84 C_spec_l13New := fcall_ok rfl ok_X_spec_l13New

/-! ### spec.NewConsole -/
noncomputable def cf_spec_NewConsole : CallF := cfc 82 C_spec_l3Size (cfc 83 C_spec_l13Bad (cfc 84 C_spec_l13New cfn))
noncomputable def X_spec_NewConsole : List Value → Mem → Option VM
  | [t0, t1], m =>
    (alX m [.int .i64 0, .bool false, .slice none 0 0, .int .i64 0, .int .i64 0, .int .i64 0, .int .i64 0, .int .i64 0, .bool false, .slice none 0 0, .int .i64 0, .int .i64 0, .slice none 0 0, .slice none 0 0, .int .i64 0, .int .i64 0, .bool false, .int .i64 0, .int .i64 0, .int .i64 0, .bool false, .bool false, .bool false, .slice none 0 0, .int .i64 0, .int .i64 0, .int .i64 0, .slice none 0 0, .int .i64 0, .int .i64 0, .int .i64 0, .int .i64 0, .int .i64 0, .int .i64 0, .int .i64 0, .int .i64 0, .int .i64 0, .slice none 0 0, .slice none 0 0, .bool false, .int .i64 0]) |> bo fun r1 =>
    (C_spec_l3Size [t0, t1] r1.2) |> bo fun r2 =>
    (uop .not r2.1) |> bo fun t8 =>
    brX t8
      (
        (C_spec_l13Bad [(.int .i64 3)] r2.2) |> bo fun r4 =>
        (stX r4.2 41 r1.1 r4.1) |> bo fun m5 =>
        (resP (some 41) m5 r1.1) |> bo fun c6 =>
        retK m.length m5 [t0, t1] c6)
      (
        (C_spec_l13New [t0, t1] r2.2) |> bo fun r7 =>
        (bldX [.int .i64 0, .bool false, .slice none 0 0, .int .i64 0, .int .i64 0, .int .i64 0, .int .i64 0, .int .i64 0, .bool false, .slice none 0 0, .int .i64 0, .int .i64 0, .slice none 0 0, .slice none 0 0, .int .i64 0, .int .i64 0, .bool false, .int .i64 0, .int .i64 0, .int .i64 0, .bool false, .bool false, .bool false, .slice none 0 0, .int .i64 0, .int .i64 0, .int .i64 0, .slice none 0 0, .int .i64 0, .int .i64 0, .int .i64 0, .int .i64 0, .int .i64 0, .int .i64 0, .int .i64 0, .int .i64 0, .int .i64 0, .slice none 0 0, .slice none 0 0, .bool false, .int .i64 0] [(3, 38, r7.1)]) |> bo fun t13 =>
        (stX r7.2 41 r1.1 t13) |> bo fun m9 =>
        (resP (some 41) m9 r1.1) |> bo fun c10 =>
        retK m.length m9 [t0, t1] c10)
  | _, _ => none
noncomputable def C_spec_NewConsole : List Value → Mem → Option VM := fcall X_spec_NewConsole
@[simp] theorem c_spec_NewConsole : C_spec_NewConsole = fcall X_spec_NewConsole := (rfl)
theorem cok_spec_NewConsole : codeOk CT Try.f37 (Try.f37.body.get rfl) = true := by kernel_rfl
theorem xe_spec_NewConsole (t0 t1 : Value) (m : Mem) : ex CT cf_spec_NewConsole Try.f37 2 m.length [] (fun _ _ _ => none) 400 [.code (Try.f37.body.get rfl)] (argsT 0 [t0, t1]) m = X_spec_NewConsole [t0, t1] m := by kernel_rfl
theorem okc_spec_NewConsole : CallOK CT cf_spec_NewConsole := cfc_ok ok_C_spec_l3Size (cfc_ok ok_C_spec_l13Bad (cfc_ok ok_C_spec_l13New cfn_ok))
theorem ok_X_spec_NewConsole : OkX CT 37 X_spec_NewConsole := OkX.of_ex (cf := cf_spec_NewConsole) (np := 2) (LL := []) (J := (fun _ _ _ _ => none)) CT_ok rfl Try.func37 rfl (Nat.le_of_ble_eq_true rfl) (by decide) cok_spec_NewConsole okc_spec_NewConsole (fun k => noLoops rfl) (fun args m r h => match args, h with
    | [t0, t1], h => ⟨rfl, (xe_spec_NewConsole t0 t1 m).trans h⟩)
theorem ok_C_spec_NewConsole : OkC CT 37 C_spec_NewConsole := fcall_ok rfl ok_X_spec_NewConsole

/-! ### impl.in -/
noncomputable def cf_impl_in : CallF := cfn
noncomputable def X_impl_in : List Value → Mem → Option VM
  | [t0, t1, t2], m =>
    (binX .leq .no t1 t0) |> bo fun t9 =>
    (gd t9 true (some (t0, m)) m) |> bo fun r2 =>
    (gd t9 true (some (t2, r2.2)) r2.2) |> bo fun r3 =>
    (gd t9 true ((binX .leq .no r2.1 r3.1) |> bo fun v => some (v, r3.2)) r3.2) |> bo fun r4 =>
    (pickX t9 r4.1 (.bool false)) |> bo fun t14 =>
    retK m.length r4.2 [t0, t1, t2] t14
  | _, _ => none
noncomputable def C_impl_in : List Value → Mem → Option VM := fcall X_impl_in
@[simp] theorem c_impl_in : C_impl_in = fcall X_impl_in := (rfl)
theorem cok_impl_in : codeOk CT Try.f69 (Try.f69.body.get rfl) = true := by kernel_rfl
theorem xe_impl_in (t0 t1 t2 : Value) (m : Mem) : ex CT cf_impl_in Try.f69 3 m.length [] (fun _ _ _ => none) 400 [.code (Try.f69.body.get rfl)] (argsT 0 [t0, t1, t2]) m = X_impl_in [t0, t1, t2] m := by kernel_rfl
theorem okc_impl_in : CallOK CT cf_impl_in := cfn_ok
theorem ok_X_impl_in : OkX CT 69 X_impl_in := OkX.of_ex (cf := cf_impl_in) (np := 3) (LL := []) (J := (fun _ _ _ _ => none)) CT_ok rfl Try.func69 rfl (Nat.le_of_ble_eq_true rfl) (by decide) cok_impl_in okc_impl_in (fun k => noLoops rfl) (fun args m r h => match args, h with
    | [t0, t1, t2], h => ⟨rfl, (xe_impl_in t0 t1 t2 m).trans h⟩)
theorem ok_C_impl_in : OkC CT 69 C_impl_in := fcall_ok rfl ok_X_impl_in

/-! ### impl.sizeOk -/
noncomputable def cf_impl_sizeOk : CallF := cfc 69 C_impl_in cfn
noncomputable def X_impl_sizeOk : List Value → Mem → Option VM
  | [t0, t1], m =>
    (C_impl_in [t0, (.int .i64 1), (.int .i64 6)] m) |> bo fun r1 =>
    (gd r1.1 true (some (t1, r1.2)) r1.2) |> bo fun r2 =>
    (gd r1.1 true ((C_impl_in [r2.1, (.int .i64 2), (.int .i64 12)] r2.2) |> bo fun r => some (r.1, r.2)) r2.2) |> bo fun r3 =>
    (pickX r1.1 r3.1 (.bool false)) |> bo fun t10 =>
    retK m.length r3.2 [t0, t1] t10
  | _, _ => none
noncomputable def C_impl_sizeOk : List Value → Mem → Option VM := fcall X_impl_sizeOk
@[simp] theorem c_impl_sizeOk : C_impl_sizeOk = fcall X_impl_sizeOk := (rfl)
theorem cok_impl_sizeOk : codeOk CT Try.f85 (Try.f85.body.get rfl) = true := by kernel_rfl
theorem xe_impl_sizeOk (t0 t1 : Value) (m : Mem) : ex CT cf_impl_sizeOk Try.f85 2 m.length [] (fun _ _ _ => none) 400 [.code (Try.f85.body.get rfl)] (argsT 0 [t0, t1]) m = X_impl_sizeOk [t0, t1] m := by kernel_rfl
theorem okc_impl_sizeOk : CallOK CT cf_impl_sizeOk := cfc_ok ok_C_impl_in cfn_ok
theorem ok_X_impl_sizeOk : OkX CT 85 X_impl_sizeOk := OkX.of_ex (cf := cf_impl_sizeOk) (np := 2) (LL := []) (J := (fun _ _ _ _ => none)) CT_ok rfl Try.func85 rfl (Nat.le_of_ble_eq_true rfl) (by decide) cok_impl_sizeOk okc_impl_sizeOk (fun k => noLoops rfl) (fun args m r h => match args, h with
    | [t0, t1], h => ⟨rfl, (xe_impl_sizeOk t0 t1 m).trans h⟩)
theorem ok_C_impl_sizeOk : OkC CT 85 C_impl_sizeOk := fcall_ok rfl ok_X_impl_sizeOk

/-! ### math/bits.Mul32 -/
noncomputable def cf_math_bits_Mul32 : CallF := cfn
noncomputable def X_math_bits_Mul32 : List Value → Mem → Option VM
  | [t0, t1], m =>
    (cvI .u64 t0) |> bo fun t8 =>
    (cvI .u64 t1) |> bo fun t10 =>
    (binX .mul .no t8 t10) |> bo fun t11 =>
    (binX .shr .no t11 (.int .u64 32)) |> bo fun t13 =>
    (cvI .u32 t13) |> bo fun t14 =>
    (cvI .u32 t11) |> bo fun t16 =>
    retK m.length m [t0, t1] (.tuple #[t14, t16])
  | _, _ => none
noncomputable def C_math_bits_Mul32 : List Value → Mem → Option VM := fcall X_math_bits_Mul32
@[simp] theorem c_math_bits_Mul32 : C_math_bits_Mul32 = fcall X_math_bits_Mul32 := (rfl)
theorem cok_math_bits_Mul32 : codeOk CT Try.f225 (Try.f225.body.get rfl) = true := by kernel_rfl
theorem xe_math_bits_Mul32 (t0 t1 : Value) (m : Mem) : ex CT cf_math_bits_Mul32 Try.f225 2 m.length [] (fun _ _ _ => none) 400 [.code (Try.f225.body.get rfl)] (argsT 0 [t0, t1]) m = X_math_bits_Mul32 [t0, t1] m := by kernel_rfl
theorem okc_math_bits_Mul32 : CallOK CT cf_math_bits_Mul32 := cfn_ok
theorem ok_X_math_bits_Mul32 : OkX CT 225 X_math_bits_Mul32 := OkX.of_ex (cf := cf_math_bits_Mul32) (np := 2) (LL := []) (J := (fun _ _ _ _ => none)) CT_ok rfl Try.func225 rfl (Nat.le_of_ble_eq_true rfl) (by decide) cok_math_bits_Mul32 okc_math_bits_Mul32 (fun k => noLoops rfl) (fun args m r h => match args, h with
    | [t0, t1], h => ⟨rfl, (xe_math_bits_Mul32 t0 t1 m).trans h⟩)
theorem ok_C_math_bits_Mul32 : OkC CT 225 C_math_bits_Mul32 := fcall_ok rfl ok_X_math_bits_Mul32

/-! ### math/bits.Mul64 -/
noncomputable def cf_math_bits_Mul64 : CallF := cfn
noncomputable def X_math_bits_Mul64 : List Value → Mem → Option VM
  | [t0, t1], m =>
    (binX .and .no t0 (.int .u64 4294967295)) |> bo fun t15 =>
    (binX .shr .no t0 (.int .u64 32)) |> bo fun t17 =>
    (binX .and .no t1 (.int .u64 4294967295)) |> bo fun t19 =>
    (binX .shr .no t1 (.int .u64 32)) |> bo fun t21 =>
    (binX .mul .no t15 t19) |> bo fun t24 =>
    (binX .mul .no t17 t19) |> bo fun t27 =>
    (binX .shr .no t24 (.int .u64 32)) |> bo fun t29 =>
    (binX .add .no t27 t29) |> bo fun t30 =>
    (binX .and .no t30 (.int .u64 4294967295)) |> bo fun t32 =>
    (binX .shr .no t30 (.int .u64 32)) |> bo fun t34 =>
    (binX .mul .no t15 t21) |> bo fun t38 =>
    (binX .add .no t32 t38) |> bo fun t39 =>
    (binX .mul .no t17 t21) |> bo fun t42 =>
    (binX .add .no t42 t34) |> bo fun t44 =>
    (binX .shr .no t39 (.int .u64 32)) |> bo fun t46 =>
    (binX .add .no t44 t46) |> bo fun t47 =>
    (binX .mul .no t0 t1) |> bo fun t50 =>
    retK m.length m [t0, t1] (.tuple #[t47, t50])
  | _, _ => none
noncomputable def C_math_bits_Mul64 : List Value → Mem → Option VM := fcall X_math_bits_Mul64
@[simp] theorem c_math_bits_Mul64 : C_math_bits_Mul64 = fcall X_math_bits_Mul64 := (rfl)
theorem cok_math_bits_Mul64 : codeOk CT Try.f226 (Try.f226.body.get rfl) = true := by kernel_rfl
theorem xe_math_bits_Mul64 (t0 t1 : Value) (m : Mem) : ex CT cf_math_bits_Mul64 Try.f226 2 m.length [] (fun _ _ _ => none) 400 [.code (Try.f226.body.get rfl)] (argsT 0 [t0, t1]) m = X_math_bits_Mul64 [t0, t1] m := by kernel_rfl
theorem okc_math_bits_Mul64 : CallOK CT cf_math_bits_Mul64 := cfn_ok
theorem ok_X_math_bits_Mul64 : OkX CT 226 X_math_bits_Mul64 := OkX.of_ex (cf := cf_math_bits_Mul64) (np := 2) (LL := []) (J := (fun _ _ _ _ => none)) CT_ok rfl Try.func226 rfl (Nat.le_of_ble_eq_true rfl) (by decide) cok_math_bits_Mul64 okc_math_bits_Mul64 (fun k => noLoops rfl) (fun args m r h => match args, h with
    | [t0, t1], h => ⟨rfl, (xe_math_bits_Mul64 t0 t1 m).trans h⟩)
theorem ok_C_math_bits_Mul64 : OkC CT 226 C_math_bits_Mul64 := fcall_ok rfl ok_X_math_bits_Mul64

/-! ### math/bits.Mul -/
noncomputable def cf_math_bits_Mul : CallF := cfc 225 C_math_bits_Mul32 (cfc 226 C_math_bits_Mul64 cfn)
noncomputable def X_math_bits_Mul : List Value → Mem → Option VM
  | [t0, t1], m =>
    brX (.bool false)
      (
        (cvI .u32 t0) |> bo fun t12 =>
        (cvI .u32 t1) |> bo fun t14 =>
        (C_math_bits_Mul32 [t12, t14] m) |> bo fun r3 =>
        (extX 0 r3.1) |> bo fun t16 =>
        (extX 1 r3.1) |> bo fun t17 =>
        (cvI .u64 t16) |> bo fun t19 =>
        (cvI .u64 t17) |> bo fun t21 =>
        retK m.length r3.2 [t0, t1] (.tuple #[t19, t21]))
      (
        (C_math_bits_Mul64 [t0, t1] m) |> bo fun r8 =>
        (extX 0 r8.1) |> bo fun t26 =>
        (extX 1 r8.1) |> bo fun t27 =>
        retK m.length r8.2 [t0, t1] (.tuple #[t26, t27]))
  | _, _ => none
noncomputable def C_math_bits_Mul : List Value → Mem → Option VM := fcall X_math_bits_Mul
@[simp] theorem c_math_bits_Mul : C_math_bits_Mul = fcall X_math_bits_Mul := (rfl)
theorem cok_math_bits_Mul : codeOk CT Try.f224 (Try.f224.body.get rfl) = true := by kernel_rfl
theorem xe_math_bits_Mul (t0 t1 : Value) (m : Mem) : ex CT cf_math_bits_Mul Try.f224 2 m.length [] (fun _ _ _ => none) 400 [.code (Try.f224.body.get rfl)] (argsT 0 [t0, t1]) m = X_math_bits_Mul [t0, t1] m := by kernel_rfl
theorem okc_math_bits_Mul : CallOK CT cf_math_bits_Mul := cfc_ok ok_C_math_bits_Mul32 (cfc_ok ok_C_math_bits_Mul64 cfn_ok)
theorem ok_X_math_bits_Mul : OkX CT 224 X_math_bits_Mul := OkX.of_ex (cf := cf_math_bits_Mul) (np := 2) (LL := []) (J := (fun _ _ _ _ => none)) CT_ok rfl Try.func224 rfl (Nat.le_of_ble_eq_true rfl) (by decide) cok_math_bits_Mul okc_math_bits_Mul (fun k => noLoops rfl) (fun args m r h => match args, h with
    | [t0, t1], h => ⟨rfl, (xe_math_bits_Mul t0 t1 m).trans h⟩)
theorem ok_C_math_bits_Mul : OkC CT 224 C_math_bits_Mul := fcall_ok rfl ok_X_math_bits_Mul

/-! ### slices.Repeat[[]impl.Cell,impl.Cell] -/
noncomputable def cf_slices_Repeat_impl_Cell_impl_Cell : CallF := cfc 224 C_math_bits_Mul cfn
noncomputable def L_slices_Repeat_impl_Cell_impl_Cell (k : Nat) : Nat → Nat → List Value → Mem → Option VM
  | q + 1, 0, [t7, t8], m =>
    (lenX t7) |> bo fun t36 =>
    (binX .lss .no t8 t36) |> bo fun t37 =>
    brX t37
      (
        (slX m 2 t7 (some t8) none) |> bo fun t41 =>
        (slX m 2 t7 none (some t8)) |> bo fun t44 =>
        (cpL m 2 t41 t44) |> bo fun r5 =>
        (binX .add .no t8 r5.1) |> bo fun t46 =>
        cutK k r5.2 [] [t7, t46] (L_slices_Repeat_impl_Cell_impl_Cell k q 0))
      (
        retK k m [] t7)
  | _, _, _, _ => none
noncomputable def J_slices_Repeat_impl_Cell_impl_Cell (k q l : Nat) : List Value → Mem → Option VM := cond (Nat.beq l 8) (L_slices_Repeat_impl_Cell_impl_Cell k q 0) (fun _ _ => none)
def LL_slices_Repeat_impl_Cell_impl_Cell : List (Nat × List Tmp) := [(8, [7, 8])]
noncomputable def X_slices_Repeat_impl_Cell_impl_Cell : List Value → Mem → Option VM
  | [t0, t1], m =>
    (binX .lss .no t1 (.int .i64 0)) |> bo fun t10 =>
    brX t10
      (
        none)
      (
        (lenX t0) |> bo fun t14 =>
        (cvI .u64 t14) |> bo fun t15 =>
        (cvI .u64 t1) |> bo fun t17 =>
        (C_math_bits_Mul [t15, t17] m) |> bo fun r5 =>
        (extX 0 r5.1) |> bo fun t19 =>
        (extX 1 r5.1) |> bo fun t20 =>
        (binX .gtr .no t19 (.int .u64 0)) |> bo fun t22 =>
        (gd t22 false (some (t20, r5.2)) r5.2) |> bo fun r9 =>
        (gd t22 false ((binX .gtr .no r9.1 (.int .u64 9223372036854775807)) |> bo fun v => some (v, r9.2)) r9.2) |> bo fun r10 =>
        (pickX t22 (.bool true) r10.1) |> bo fun t26 =>
        brX t26
          (
            none)
          (
            (cvI .i64 t20) |> bo fun t29 =>
            (mkX r10.2 2 16 [.int .i64 0, .int .i64 0] t29 t29) |> bo fun r13 =>
            (cpL r13.2 2 r13.1 t0) |> bo fun r14 =>
            cutK m.length r14.2 [t0, t1] [r13.1, r14.1] (L_slices_Repeat_impl_Cell_impl_Cell m.length QQ 0)))
  | _, _ => none
noncomputable def C_slices_Repeat_impl_Cell_impl_Cell : List Value → Mem → Option VM := fcall X_slices_Repeat_impl_Cell_impl_Cell
@[simp] theorem c_slices_Repeat_impl_Cell_impl_Cell : C_slices_Repeat_impl_Cell_impl_Cell = fcall X_slices_Repeat_impl_Cell_impl_Cell := (rfl)
theorem cok_slices_Repeat_impl_Cell_impl_Cell : codeOk CT Try.f220 (Try.f220.body.get rfl) = true := by kernel_rfl
theorem xe_slices_Repeat_impl_Cell_impl_Cell (t0 t1 : Value) (m : Mem) : ex CT cf_slices_Repeat_impl_Cell_impl_Cell Try.f220 2 m.length LL_slices_Repeat_impl_Cell_impl_Cell (J_slices_Repeat_impl_Cell_impl_Cell m.length QQ) 400 [.code (Try.f220.body.get rfl)] (argsT 0 [t0, t1]) m = X_slices_Repeat_impl_Cell_impl_Cell [t0, t1] m := by kernel_rfl
theorem okc_slices_Repeat_impl_Cell_impl_Cell : CallOK CT cf_slices_Repeat_impl_Cell_impl_Cell := cfc_ok ok_C_math_bits_Mul cfn_ok
theorem le_slices_Repeat_impl_Cell_impl_Cell_0 (k q : Nat) (t7 t8 : Value) (m : Mem) : ex CT cf_slices_Repeat_impl_Cell_impl_Cell Try.f220 2 k LL_slices_Repeat_impl_Cell_impl_Cell (J_slices_Repeat_impl_Cell_impl_Cell k q) 400 (atLoop Try.f220 0) [(7, t7), (8, t8)] m = J_slices_Repeat_impl_Cell_impl_Cell k (q + 1) 8 [t7, t8] m := by kernel_rfl
theorem gl_slices_Repeat_impl_Cell_impl_Cell (k : Nat) : ∀ q i, i < 1 → GoodL CT k Try.f220 LL_slices_Repeat_impl_Cell_impl_Cell (J_slices_Repeat_impl_Cell_impl_Cell k q) (atLoop Try.f220 i)
  | 0, 0, _ => goodL_zero (l := 8) (by kernel_rfl) (fun vs m => by kernel_rfl)
  | 0, _ + 1, h => absurd h (by omega)
  | q + 1, 0, _ => goodL_succ (np := 2) (l := 8) (live := [7, 8]) (n := 1) CT_ok rfl okc_slices_Repeat_impl_Cell_impl_Cell (c := (Try.f220.body.get rfl)) rfl cok_slices_Repeat_impl_Cell_impl_Cell (by kernel_rfl) (gl_slices_Repeat_impl_Cell_impl_Cell k q) (by kernel_rfl) rfl (fun vs m r hl h => match vs, hl with
    | [t7, t8], _ => (le_slices_Repeat_impl_Cell_impl_Cell_0 k q t7 t8 m).trans h)
  | _ + 1, _ + 1, h => absurd h (by omega)
theorem ok_X_slices_Repeat_impl_Cell_impl_Cell : OkX CT 220 X_slices_Repeat_impl_Cell_impl_Cell := OkX.of_ex (cf := cf_slices_Repeat_impl_Cell_impl_Cell) (np := 2) (LL := LL_slices_Repeat_impl_Cell_impl_Cell) (J := (fun k => J_slices_Repeat_impl_Cell_impl_Cell k QQ)) CT_ok rfl Try.func220 rfl (Nat.le_of_ble_eq_true rfl) (by decide) cok_slices_Repeat_impl_Cell_impl_Cell okc_slices_Repeat_impl_Cell_impl_Cell (fun k => allLoops rfl (by kernel_rfl) (gl_slices_Repeat_impl_Cell_impl_Cell k QQ)) (fun args m r h => match args, h with
    | [t0, t1], h => ⟨rfl, (xe_slices_Repeat_impl_Cell_impl_Cell t0 t1 m).trans h⟩)
theorem ok_C_slices_Repeat_impl_Cell_impl_Cell : OkC CT 220 C_slices_Repeat_impl_Cell_impl_Cell := fcall_ok rfl ok_X_slices_Repeat_impl_Cell_impl_Cell

/-! ### impl.blanks -/
noncomputable def cf_impl_blanks : CallF := cfc 220 C_slices_Repeat_impl_Cell_impl_Cell cfn
noncomputable def X_impl_blanks : List Value → Mem → Option VM
  | [t0, t1], m =>
    (bldX [.int .i64 0, .int .i64 0] [(0, 1, (.int .i64 32)), (1, 1, t1)]) |> bo fun t6 =>
    (bslX m 1 2 [.int .i64 0, .int .i64 0] [(0, 2, t6)]) |> bo fun r2 =>
    (C_slices_Repeat_impl_Cell_impl_Cell [r2.1, t0] r2.2) |> bo fun r3 =>
    retK m.length r3.2 [t0, t1] r3.1
  | _, _ => none
noncomputable def C_impl_blanks : List Value → Mem → Option VM := fcall X_impl_blanks
@[simp] theorem c_impl_blanks : C_impl_blanks = fcall X_impl_blanks := (rfl)
theorem cok_impl_blanks : codeOk CT Try.f206 (Try.f206.body.get rfl) = true := by kernel_rfl
theorem xe_impl_blanks (t0 t1 : Value) (m : Mem) : ex CT cf_impl_blanks Try.f206 2 m.length [] (fun _ _ _ => none) 400 [.code (Try.f206.body.get rfl)] (argsT 0 [t0, t1]) m = X_impl_blanks [t0, t1] m := by kernel_rfl
theorem okc_impl_blanks : CallOK CT cf_impl_blanks := cfc_ok ok_C_slices_Repeat_impl_Cell_impl_Cell cfn_ok
theorem ok_X_impl_blanks : OkX CT 206 X_impl_blanks := OkX.of_ex (cf := cf_impl_blanks) (np := 2) (LL := []) (J := (fun _ _ _ _ => none)) CT_ok rfl Try.func206 rfl (Nat.le_of_ble_eq_true rfl) (by decide) cok_impl_blanks okc_impl_blanks (fun k => noLoops rfl) (fun args m r h => match args, h with
    | [t0, t1], h => ⟨rfl, (xe_impl_blanks t0 t1 m).trans h⟩)
theorem ok_C_impl_blanks : OkC CT 206 C_impl_blanks := fcall_ok rfl ok_X_impl_blanks

/-! ### impl.newGrid -/
noncomputable def cf_impl_newGrid : CallF := cfc 206 C_impl_blanks cfn
noncomputable def X_impl_newGrid : List Value → Mem → Option VM
  | [t0, t1], m =>
    (alX m [.int .i64 0, .int .i64 0, .slice none 0 0, .slice none 0 0]) |> bo fun r1 =>
    (binX .mul .no t0 t1) |> bo fun t9 =>
    (C_impl_blanks [t9, (.int .i64 0)] r1.2) |> bo fun r3 =>
    (bldX [.int .i64 0, .int .i64 0, .slice none 0 0, .slice none 0 0] [(0, 1, t0), (1, 1, t1), (2, 1, r3.1)]) |> bo fun t11 =>
    (stX r3.2 4 r1.1 t11) |> bo fun m5 =>
    (resP (some 4) m5 r1.1) |> bo fun c6 =>
    retK m.length m5 [t0, t1] c6
  | _, _ => none
noncomputable def C_impl_newGrid : List Value → Mem → Option VM := fcall X_impl_newGrid
@[simp] theorem c_impl_newGrid : C_impl_newGrid = fcall X_impl_newGrid := (rfl)
theorem cok_impl_newGrid : codeOk CT Try.f173 (Try.f173.body.get rfl) = true := by kernel_rfl
theorem xe_impl_newGrid (t0 t1 : Value) (m : Mem) : ex CT cf_impl_newGrid Try.f173 2 m.length [] (fun _ _ _ => none) 400 [.code (Try.f173.body.get rfl)] (argsT 0 [t0, t1]) m = X_impl_newGrid [t0, t1] m := by kernel_rfl
theorem okc_impl_newGrid : CallOK CT cf_impl_newGrid := cfc_ok ok_C_impl_blanks cfn_ok
theorem ok_X_impl_newGrid : OkX CT 173 X_impl_newGrid := OkX.of_ex (cf := cf_impl_newGrid) (np := 2) (LL := []) (J := (fun _ _ _ _ => none)) CT_ok rfl Try.func173 rfl (Nat.le_of_ble_eq_true rfl) (by decide) cok_impl_newGrid okc_impl_newGrid (fun k => noLoops rfl) (fun args m r h => match args, h with
    | [t0, t1], h => ⟨rfl, (xe_impl_newGrid t0 t1 m).trans h⟩)
theorem ok_C_impl_newGrid : OkC CT 173 C_impl_newGrid := fcall_ok rfl ok_X_impl_newGrid

/-! ### impl.isTab -/
noncomputable def cf_impl_isTab : CallF := cfn
noncomputable def X_impl_isTab : List Value → Mem → Option VM
  | [t0], m =>
    (binX .gtr .no t0 (.int .i64 0)) |> bo fun t4 =>
    (gd t4 true (some (t0, m)) m) |> bo fun r2 =>
    (gd t4 true ((binX .rem .no r2.1 (.int .i64 8)) |> bo fun v => some (v, r2.2)) r2.2) |> bo fun r3 =>
    (gd t4 true ((binX .eql .no r3.1 (.int .i64 0)) |> bo fun v => some (v, r3.2)) r3.2) |> bo fun r4 =>
    (pickX t4 r4.1 (.bool false)) |> bo fun t9 =>
    retK m.length r4.2 [t0] t9
  | _, _ => none
noncomputable def C_impl_isTab : List Value → Mem → Option VM := fcall X_impl_isTab
@[simp] theorem c_impl_isTab : C_impl_isTab = fcall X_impl_isTab := (rfl)
theorem cok_impl_isTab : codeOk CT Try.f174 (Try.f174.body.get rfl) = true := by kernel_rfl
theorem xe_impl_isTab (t0 : Value) (m : Mem) : ex CT cf_impl_isTab Try.f174 1 m.length [] (fun _ _ _ => none) 400 [.code (Try.f174.body.get rfl)] (argsT 0 [t0]) m = X_impl_isTab [t0] m := by kernel_rfl
theorem okc_impl_isTab : CallOK CT cf_impl_isTab := cfn_ok
theorem ok_X_impl_isTab : OkX CT 174 X_impl_isTab := OkX.of_ex (cf := cf_impl_isTab) (np := 1) (LL := []) (J := (fun _ _ _ _ => none)) CT_ok rfl Try.func174 rfl (Nat.le_of_ble_eq_true rfl) (by decide) cok_impl_isTab okc_impl_isTab (fun k => noLoops rfl) (fun args m r h => match args, h with
    | [t0], h => ⟨rfl, (xe_impl_isTab t0 m).trans h⟩)
theorem ok_C_impl_isTab : OkC CT 174 C_impl_isTab := fcall_ok rfl ok_X_impl_isTab

/-! ### impl.newScreen -/
noncomputable def cf_impl_newScreen : CallF := cfc 173 C_impl_newGrid (cfc 174 C_impl_isTab cfn)
noncomputable def L_impl_newScreen (k : Nat) : Nat → Nat → List Value → Mem → Option VM
  | q + 1, 0, [t4, t5, t14, t15], m =>
    (binX .lss .no t15 t14) |> bo fun t16 =>
    brX t16
      (
        (fadX 13 t5) |> bo fun t18 =>
        (ld1 m t18) |> bo fun t19 =>
        (C_impl_isTab [t15] m) |> bo fun r4 =>
        (bslX r4.2 1 1 [.bool false] [(0, 1, r4.1)]) |> bo fun r5 =>
        (apL r5.2 1 1 t19 r5.1) |> bo fun r6 =>
        (fadX 13 t5) |> bo fun t24 =>
        (stX r6.2 1 t24 r6.1) |> bo fun m8 =>
        gP (stbL [((rdN t18), m, r4.2)])
          (
            (binX .add .no t15 (.int .i64 1)) |> bo fun t25 =>
            cutK k m8 [] [t4, t5, t14, t25] (L_impl_newScreen k q 0)))
      (
        (ldS m 20 t5) |> bo fun t26 =>
        (stX m 20 t4 t26) |> bo fun m11 =>
        (resP (some 20) m11 t4) |> bo fun c12 =>
        retK k m11 [] c12)
  | _, _, _, _ => none
noncomputable def J_impl_newScreen (k q l : Nat) : List Value → Mem → Option VM := cond (Nat.beq l 3) (L_impl_newScreen k q 0) (fun _ _ => none)
def LL_impl_newScreen : List (Nat × List Tmp) := [(3, [4, 5, 14, 15])]
noncomputable def X_impl_newScreen : List Value → Mem → Option VM
  | [t0, t1], m =>
    (alX m [.int .i64 0, .int .i64 0, .slice none 0 0, .slice none 0 0, .int .i64 0, .int .i64 0, .bool false, .int .i64 0, .int .i64 0, .int .i64 0, .bool false, .bool false, .bool false, .slice none 0 0, .int .i64 0, .int .i64 0, .int .i64 0, .slice none 0 0, .int .i64 0, .int .i64 0]) |> bo fun r1 =>
    (C_impl_newGrid [t0, t1] r1.2) |> bo fun r2 =>
    (binX .sub .no t0 (.int .i64 1)) |> bo fun t11 =>
    (bslX r2.2 2 1 [.int .i64 0] [(0, 1, (.int .i64 1)), (1, 1, (.int .i64 1))]) |> bo fun r4 =>
    (bldX [.int .i64 0, .int .i64 0, .slice none 0 0, .slice none 0 0, .int .i64 0, .int .i64 0, .bool false, .int .i64 0, .int .i64 0, .int .i64 0, .bool false, .bool false, .bool false, .slice none 0 0, .int .i64 0, .int .i64 0, .int .i64 0, .slice none 0 0, .int .i64 0, .int .i64 0] [(0, 4, r2.1), (9, 1, t11), (11, 1, (.bool true)), (17, 1, r4.1)]) |> bo fun t13 =>
    (alX r4.2 [.int .i64 0, .int .i64 0, .slice none 0 0, .slice none 0 0, .int .i64 0, .int .i64 0, .bool false, .int .i64 0, .int .i64 0, .int .i64 0, .bool false, .bool false, .bool false, .slice none 0 0, .int .i64 0, .int .i64 0, .int .i64 0, .slice none 0 0, .int .i64 0, .int .i64 0]) |> bo fun r6 =>
    (stX r6.2 20 r6.1 t13) |> bo fun m7 =>
    cutK m.length m7 [t0, t1] [r1.1, r6.1, t1, (.int .i64 0)] (L_impl_newScreen m.length QQ 0)
  | _, _ => none
noncomputable def C_impl_newScreen : List Value → Mem → Option VM := fcall X_impl_newScreen
@[simp] theorem c_impl_newScreen : C_impl_newScreen = fcall X_impl_newScreen := (rfl)
theorem cok_impl_newScreen : codeOk CT Try.f130 (Try.f130.body.get rfl) = true := by kernel_rfl
theorem xe_impl_newScreen (t0 t1 : Value) (m : Mem) : ex CT cf_impl_newScreen Try.f130 2 m.length LL_impl_newScreen (J_impl_newScreen m.length QQ) 400 [.code (Try.f130.body.get rfl)] (argsT 0 [t0, t1]) m = X_impl_newScreen [t0, t1] m := by kernel_rfl
theorem okc_impl_newScreen : CallOK CT cf_impl_newScreen := cfc_ok ok_C_impl_newGrid (cfc_ok ok_C_impl_isTab cfn_ok)
theorem le_impl_newScreen_0 (k q : Nat) (t4 t5 t14 t15 : Value) (m : Mem) : ex CT cf_impl_newScreen Try.f130 2 k LL_impl_newScreen (J_impl_newScreen k q) 400 (atLoop Try.f130 0) [(4, t4), (5, t5), (14, t14), (15, t15)] m = J_impl_newScreen k (q + 1) 3 [t4, t5, t14, t15] m := by kernel_rfl
theorem gl_impl_newScreen (k : Nat) : ∀ q i, i < 1 → GoodL CT k Try.f130 LL_impl_newScreen (J_impl_newScreen k q) (atLoop Try.f130 i)
  | 0, 0, _ => goodL_zero (l := 3) (by kernel_rfl) (fun vs m => by kernel_rfl)
  | 0, _ + 1, h => absurd h (by omega)
  | q + 1, 0, _ => goodL_succ (np := 2) (l := 3) (live := [4, 5, 14, 15]) (n := 1) CT_ok rfl okc_impl_newScreen (c := (Try.f130.body.get rfl)) rfl cok_impl_newScreen (by kernel_rfl) (gl_impl_newScreen k q) (by kernel_rfl) rfl (fun vs m r hl h => match vs, hl with
    | [t4, t5, t14, t15], _ => (le_impl_newScreen_0 k q t4 t5 t14 t15 m).trans h)
  | _ + 1, _ + 1, h => absurd h (by omega)
theorem ok_X_impl_newScreen : OkX CT 130 X_impl_newScreen := OkX.of_ex (cf := cf_impl_newScreen) (np := 2) (LL := LL_impl_newScreen) (J := (fun k => J_impl_newScreen k QQ)) CT_ok rfl Try.func130 rfl (Nat.le_of_ble_eq_true rfl) (by decide) cok_impl_newScreen okc_impl_newScreen (fun k => allLoops rfl (by kernel_rfl) (gl_impl_newScreen k QQ)) (fun args m r h => match args, h with
    | [t0, t1], h => ⟨rfl, (xe_impl_newScreen t0 t1 m).trans h⟩)
theorem ok_C_impl_newScreen : OkC CT 130 C_impl_newScreen := fcall_ok rfl ok_X_impl_newScreen

/-! ### impl.usual -/
noncomputable def cf_impl_usual : CallF := cfn
noncomputable def X_impl_usual : List Value → Mem → Option VM
  | [t0], m =>
    (alX m [.int .i64 0, .int .i64 0, .int .i64 0, .int .i64 0, .int .i64 0, .int .i64 0, .int .i64 0]) |> bo fun r1 =>
    (bldX [.int .i64 0, .int .i64 0, .int .i64 0, .int .i64 0, .int .i64 0, .int .i64 0, .int .i64 0] [(0, 1, t0), (1, 1, (.int .i64 127)), (2, 1, (.int .i64 21)), (3, 1, (.int .i64 23)), (4, 1, (.int .i64 4)), (5, 1, (.int .i64 3)), (6, 1, (.int .i64 22))]) |> bo fun t4 =>
    (stX r1.2 7 r1.1 t4) |> bo fun m3 =>
    (resP (some 7) m3 r1.1) |> bo fun c4 =>
    retK m.length m3 [t0] c4
  | _, _ => none
noncomputable def C_impl_usual : List Value → Mem → Option VM := fcall X_impl_usual
@[simp] theorem c_impl_usual : C_impl_usual = fcall X_impl_usual := (rfl)
theorem cok_impl_usual : codeOk CT Try.f131 (Try.f131.body.get rfl) = true := by kernel_rfl
theorem xe_impl_usual (t0 : Value) (m : Mem) : ex CT cf_impl_usual Try.f131 1 m.length [] (fun _ _ _ => none) 400 [.code (Try.f131.body.get rfl)] (argsT 0 [t0]) m = X_impl_usual [t0] m := by kernel_rfl
theorem okc_impl_usual : CallOK CT cf_impl_usual := cfn_ok
theorem ok_X_impl_usual : OkX CT 131 X_impl_usual := OkX.of_ex (cf := cf_impl_usual) (np := 1) (LL := []) (J := (fun _ _ _ _ => none)) CT_ok rfl Try.func131 rfl (Nat.le_of_ble_eq_true rfl) (by decide) cok_impl_usual okc_impl_usual (fun k => noLoops rfl) (fun args m r h => match args, h with
    | [t0], h => ⟨rfl, (xe_impl_usual t0 m).trans h⟩)
theorem ok_C_impl_usual : OkC CT 131 C_impl_usual := fcall_ok rfl ok_X_impl_usual

/-! ### impl.newConsole -/
noncomputable def cf_impl_newConsole : CallF := cfc 130 C_impl_newScreen (cfc 131 C_impl_usual cfn)
noncomputable def X_impl_newConsole : List Value → Mem → Option VM
  | [t0, t1], m =>
    (alX m [.int .i64 0, .int .i64 0, .int .i64 0, .int .i64 0, .int .i64 0, .bool false, .slice none 0 0, .int .i64 0, .int .i64 0, .slice none 0 0, .slice none 0 0, .int .i64 0, .int .i64 0, .bool false, .int .i64 0, .int .i64 0, .int .i64 0, .bool false, .bool false, .bool false, .slice none 0 0, .int .i64 0, .int .i64 0, .int .i64 0, .slice none 0 0, .int .i64 0, .int .i64 0, .int .i64 0, .int .i64 0, .int .i64 0, .int .i64 0, .int .i64 0, .int .i64 0, .int .i64 0, .slice none 0 0, .slice none 0 0, .bool false, .int .i64 0]) |> bo fun r1 =>
    (C_impl_newScreen [t0, t1] r1.2) |> bo fun r2 =>
    (bldX [.int .i64 0, .int .i64 0, .int .i64 0, .int .i64 0, .int .i64 0, .bool false, .slice none 0 0, .int .i64 0, .int .i64 0, .slice none 0 0, .slice none 0 0, .int .i64 0, .int .i64 0, .bool false, .int .i64 0, .int .i64 0, .int .i64 0, .bool false, .bool false, .bool false, .slice none 0 0, .int .i64 0, .int .i64 0, .int .i64 0, .slice none 0 0, .int .i64 0, .int .i64 0] [(7, 20, r2.1)]) |> bo fun t8 =>
    (C_impl_usual [(.int .i64 511)] r2.2) |> bo fun r4 =>
    (bldX [.int .i64 0, .int .i64 0, .int .i64 0, .int .i64 0, .int .i64 0, .bool false, .slice none 0 0, .int .i64 0, .int .i64 0, .slice none 0 0, .slice none 0 0, .int .i64 0, .int .i64 0, .bool false, .int .i64 0, .int .i64 0, .int .i64 0, .bool false, .bool false, .bool false, .slice none 0 0, .int .i64 0, .int .i64 0, .int .i64 0, .slice none 0 0, .int .i64 0, .int .i64 0, .int .i64 0, .int .i64 0, .int .i64 0, .int .i64 0, .int .i64 0, .int .i64 0, .int .i64 0, .slice none 0 0, .slice none 0 0, .bool false, .int .i64 0] [(0, 27, t8), (27, 7, r4.1)]) |> bo fun t10 =>
    (stX r4.2 38 r1.1 t10) |> bo fun m6 =>
    (resP (some 38) m6 r1.1) |> bo fun c7 =>
    retK m.length m6 [t0, t1] c7
  | _, _ => none
noncomputable def C_impl_newConsole : List Value → Mem → Option VM := fcall X_impl_newConsole
@[simp] theorem c_impl_newConsole : C_impl_newConsole = fcall X_impl_newConsole := (rfl)
theorem cok_impl_newConsole : codeOk CT Try.f86 (Try.f86.body.get rfl) = true := by kernel_rfl
theorem xe_impl_newConsole (t0 t1 : Value) (m : Mem) : ex CT cf_impl_newConsole Try.f86 2 m.length [] (fun _ _ _ => none) 400 [.code (Try.f86.body.get rfl)] (argsT 0 [t0, t1]) m = X_impl_newConsole [t0, t1] m := by kernel_rfl
theorem okc_impl_newConsole : CallOK CT cf_impl_newConsole := cfc_ok ok_C_impl_newScreen (cfc_ok ok_C_impl_usual cfn_ok)
theorem ok_X_impl_newConsole : OkX CT 86 X_impl_newConsole := OkX.of_ex (cf := cf_impl_newConsole) (np := 2) (LL := []) (J := (fun _ _ _ _ => none)) CT_ok rfl Try.func86 rfl (Nat.le_of_ble_eq_true rfl) (by decide) cok_impl_newConsole okc_impl_newConsole (fun k => noLoops rfl) (fun args m r h => match args, h with
    | [t0, t1], h => ⟨rfl, (xe_impl_newConsole t0 t1 m).trans h⟩)
theorem ok_C_impl_newConsole : OkC CT 86 C_impl_newConsole := fcall_ok rfl ok_X_impl_newConsole

/-! ### impl.NewConsole -/
noncomputable def cf_impl_NewConsole : CallF := cfc 85 C_impl_sizeOk (cfc 86 C_impl_newConsole cfn)
noncomputable def X_impl_NewConsole : List Value → Mem → Option VM
  | [t0, t1], m =>
    (alX m [.int .i64 0, .bool false, .slice none 0 0, .int .i64 0, .int .i64 0, .int .i64 0, .int .i64 0, .int .i64 0, .bool false, .slice none 0 0, .int .i64 0, .int .i64 0, .slice none 0 0, .slice none 0 0, .int .i64 0, .int .i64 0, .bool false, .int .i64 0, .int .i64 0, .int .i64 0, .bool false, .bool false, .bool false, .slice none 0 0, .int .i64 0, .int .i64 0, .int .i64 0, .slice none 0 0, .int .i64 0, .int .i64 0, .int .i64 0, .int .i64 0, .int .i64 0, .int .i64 0, .int .i64 0, .int .i64 0, .int .i64 0, .slice none 0 0, .slice none 0 0, .bool false, .int .i64 0]) |> bo fun r1 =>
    (C_impl_sizeOk [t0, t1] r1.2) |> bo fun r2 =>
    (uop .not r2.1) |> bo fun t8 =>
    brX t8
      (
        (bldX [.int .i64 0, .bool false, .slice none 0 0, .int .i64 0, .int .i64 0, .int .i64 0, .int .i64 0, .int .i64 0, .bool false, .slice none 0 0, .int .i64 0, .int .i64 0, .slice none 0 0, .slice none 0 0, .int .i64 0, .int .i64 0, .bool false, .int .i64 0, .int .i64 0, .int .i64 0, .bool false, .bool false, .bool false, .slice none 0 0, .int .i64 0, .int .i64 0, .int .i64 0, .slice none 0 0, .int .i64 0, .int .i64 0, .int .i64 0, .int .i64 0, .int .i64 0, .int .i64 0, .int .i64 0, .int .i64 0, .int .i64 0, .slice none 0 0, .slice none 0 0, .bool false, .int .i64 0] [(0, 1, (.int .i64 3))]) |> bo fun t9 =>
        (stX r2.2 41 r1.1 t9) |> bo fun m5 =>
        (resP (some 41) m5 r1.1) |> bo fun c6 =>
        retK m.length m5 [t0, t1] c6)
      (
        (C_impl_newConsole [t0, t1] r2.2) |> bo fun r7 =>
        (bldX [.int .i64 0, .bool false, .slice none 0 0, .int .i64 0, .int .i64 0, .int .i64 0, .int .i64 0, .int .i64 0, .bool false, .slice none 0 0, .int .i64 0, .int .i64 0, .slice none 0 0, .slice none 0 0, .int .i64 0, .int .i64 0, .bool false, .int .i64 0, .int .i64 0, .int .i64 0, .bool false, .bool false, .bool false, .slice none 0 0, .int .i64 0, .int .i64 0, .int .i64 0, .slice none 0 0, .int .i64 0, .int .i64 0, .int .i64 0, .int .i64 0, .int .i64 0, .int .i64 0, .int .i64 0, .int .i64 0, .int .i64 0, .slice none 0 0, .slice none 0 0, .bool false, .int .i64 0] [(3, 38, r7.1)]) |> bo fun t13 =>
        (stX r7.2 41 r1.1 t13) |> bo fun m9 =>
        (resP (some 41) m9 r1.1) |> bo fun c10 =>
        retK m.length m9 [t0, t1] c10)
  | _, _ => none
noncomputable def C_impl_NewConsole : List Value → Mem → Option VM := fcall X_impl_NewConsole
@[simp] theorem c_impl_NewConsole : C_impl_NewConsole = fcall X_impl_NewConsole := (rfl)
theorem cok_impl_NewConsole : codeOk CT Try.f38 (Try.f38.body.get rfl) = true := by kernel_rfl
theorem xe_impl_NewConsole (t0 t1 : Value) (m : Mem) : ex CT cf_impl_NewConsole Try.f38 2 m.length [] (fun _ _ _ => none) 400 [.code (Try.f38.body.get rfl)] (argsT 0 [t0, t1]) m = X_impl_NewConsole [t0, t1] m := by kernel_rfl
theorem okc_impl_NewConsole : CallOK CT cf_impl_NewConsole := cfc_ok ok_C_impl_sizeOk (cfc_ok ok_C_impl_newConsole cfn_ok)
theorem ok_X_impl_NewConsole : OkX CT 38 X_impl_NewConsole := OkX.of_ex (cf := cf_impl_NewConsole) (np := 2) (LL := []) (J := (fun _ _ _ _ => none)) CT_ok rfl Try.func38 rfl (Nat.le_of_ble_eq_true rfl) (by decide) cok_impl_NewConsole okc_impl_NewConsole (fun k => noLoops rfl) (fun args m r h => match args, h with
    | [t0, t1], h => ⟨rfl, (xe_impl_NewConsole t0 t1 m).trans h⟩)
theorem ok_C_impl_NewConsole : OkC CT 38 C_impl_NewConsole := fcall_ok rfl ok_X_impl_NewConsole

/-! ### laws.eqByteS -/
noncomputable def cf_laws_eqByteS : CallF := cfn
noncomputable def L_laws_eqByteS (k : Nat) : Nat → Nat → List Value → Mem → Option VM
  | q + 1, 0, [t0, t1, t5], m =>
    (lenX t0) |> bo fun t13 =>
    (binX .lss .no t5 t13) |> bo fun t14 =>
    brX t14
      (
        (ixaX 1 t0 t5) |> bo fun t19 =>
        (ld1 m t19) |> bo fun t20 =>
        (ixaX 1 t1 t5) |> bo fun t23 =>
        (ld1 m t23) |> bo fun t24 =>
        (binX .neq .no t20 t24) |> bo fun t25 =>
        brX t25
          (
            retK k m [t0, t1] (.bool false))
          (
            (binX .add .no t5 (.int .i64 1)) |> bo fun t16 =>
            cutK k m [t0, t1] [t0, t1, t16] (L_laws_eqByteS k q 0)))
      (
        retK k m [t0, t1] (.bool true))
  | _, _, _, _ => none
noncomputable def J_laws_eqByteS (k q l : Nat) : List Value → Mem → Option VM := cond (Nat.beq l 4) (L_laws_eqByteS k q 0) (fun _ _ => none)
def LL_laws_eqByteS : List (Nat × List Tmp) := [(4, [0, 1, 5])]
noncomputable def X_laws_eqByteS : List Value → Mem → Option VM
  | [t0, t1], m =>
    (lenX t0) |> bo fun t7 =>
    (lenX t1) |> bo fun t9 =>
    (binX .neq .no t7 t9) |> bo fun t10 =>
    brX t10
      (
        retK m.length m [t0, t1] (.bool false))
      (
        cutK m.length m [t0, t1] [t0, t1, (.int .i64 0)] (L_laws_eqByteS m.length QQ 0))
  | _, _ => none
noncomputable def C_laws_eqByteS : List Value → Mem → Option VM := fcall X_laws_eqByteS
@[simp] theorem c_laws_eqByteS : C_laws_eqByteS = fcall X_laws_eqByteS := (rfl)
theorem cok_laws_eqByteS : codeOk CT Try.f22 (Try.f22.body.get rfl) = true := by kernel_rfl
theorem xe_laws_eqByteS (t0 t1 : Value) (m : Mem) : ex CT cf_laws_eqByteS Try.f22 2 m.length LL_laws_eqByteS (J_laws_eqByteS m.length QQ) 400 [.code (Try.f22.body.get rfl)] (argsT 0 [t0, t1]) m = X_laws_eqByteS [t0, t1] m := by kernel_rfl
theorem okc_laws_eqByteS : CallOK CT cf_laws_eqByteS := cfn_ok
theorem le_laws_eqByteS_0 (k q : Nat) (t0 t1 t5 : Value) (m : Mem) : ex CT cf_laws_eqByteS Try.f22 2 k LL_laws_eqByteS (J_laws_eqByteS k q) 400 (atLoop Try.f22 0) [(0, t0), (1, t1), (5, t5)] m = J_laws_eqByteS k (q + 1) 4 [t0, t1, t5] m := by kernel_rfl
theorem gl_laws_eqByteS (k : Nat) : ∀ q i, i < 1 → GoodL CT k Try.f22 LL_laws_eqByteS (J_laws_eqByteS k q) (atLoop Try.f22 i)
  | 0, 0, _ => goodL_zero (l := 4) (by kernel_rfl) (fun vs m => by kernel_rfl)
  | 0, _ + 1, h => absurd h (by omega)
  | q + 1, 0, _ => goodL_succ (np := 2) (l := 4) (live := [0, 1, 5]) (n := 1) CT_ok rfl okc_laws_eqByteS (c := (Try.f22.body.get rfl)) rfl cok_laws_eqByteS (by kernel_rfl) (gl_laws_eqByteS k q) (by kernel_rfl) rfl (fun vs m r hl h => match vs, hl with
    | [t0, t1, t5], _ => (le_laws_eqByteS_0 k q t0 t1 t5 m).trans h)
  | _ + 1, _ + 1, h => absurd h (by omega)
theorem ok_X_laws_eqByteS : OkX CT 22 X_laws_eqByteS := OkX.of_ex (cf := cf_laws_eqByteS) (np := 2) (LL := LL_laws_eqByteS) (J := (fun k => J_laws_eqByteS k QQ)) CT_ok rfl Try.func22 rfl (Nat.le_of_ble_eq_true rfl) (by decide) cok_laws_eqByteS okc_laws_eqByteS (fun k => allLoops rfl (by kernel_rfl) (gl_laws_eqByteS k QQ)) (fun args m r h => match args, h with
    | [t0, t1], h => ⟨rfl, (xe_laws_eqByteS t0 t1 m).trans h⟩)
theorem ok_C_laws_eqByteS : OkC CT 22 C_laws_eqByteS := fcall_ok rfl ok_X_laws_eqByteS

/-! ### laws.eqByteSS -/
noncomputable def cf_laws_eqByteSS : CallF := cfc 22 C_laws_eqByteS cfn
noncomputable def L_laws_eqByteSS (k : Nat) : Nat → Nat → List Value → Mem → Option VM
  | q + 1, 0, [t0, t1, t5], m =>
    (lenX t0) |> bo fun t13 =>
    (binX .lss .no t5 t13) |> bo fun t14 =>
    brX t14
      (
        (ixaX 1 t0 t5) |> bo fun t19 =>
        (ld1 m t19) |> bo fun t20 =>
        (ixaX 1 t1 t5) |> bo fun t23 =>
        (ld1 m t23) |> bo fun t24 =>
        (C_laws_eqByteS [t20, t24] m) |> bo fun r7 =>
        (uop .not r7.1) |> bo fun t26 =>
        brX t26
          (
            retK k r7.2 [t0, t1] (.bool false))
          (
            (binX .add .no t5 (.int .i64 1)) |> bo fun t16 =>
            cutK k r7.2 [t0, t1] [t0, t1, t16] (L_laws_eqByteSS k q 0)))
      (
        retK k m [t0, t1] (.bool true))
  | _, _, _, _ => none
noncomputable def J_laws_eqByteSS (k q l : Nat) : List Value → Mem → Option VM := cond (Nat.beq l 4) (L_laws_eqByteSS k q 0) (fun _ _ => none)
def LL_laws_eqByteSS : List (Nat × List Tmp) := [(4, [0, 1, 5])]
noncomputable def X_laws_eqByteSS : List Value → Mem → Option VM
  | [t0, t1], m =>
    (lenX t0) |> bo fun t7 =>
    (lenX t1) |> bo fun t9 =>
    (binX .neq .no t7 t9) |> bo fun t10 =>
    brX t10
      (
        retK m.length m [t0, t1] (.bool false))
      (
        cutK m.length m [t0, t1] [t0, t1, (.int .i64 0)] (L_laws_eqByteSS m.length QQ 0))
  | _, _ => none
noncomputable def C_laws_eqByteSS : List Value → Mem → Option VM := fcall X_laws_eqByteSS
@[simp] theorem c_laws_eqByteSS : C_laws_eqByteSS = fcall X_laws_eqByteSS := (rfl)
theorem cok_laws_eqByteSS : codeOk CT Try.f56 (Try.f56.body.get rfl) = true := by kernel_rfl
theorem xe_laws_eqByteSS (t0 t1 : Value) (m : Mem) : ex CT cf_laws_eqByteSS Try.f56 2 m.length LL_laws_eqByteSS (J_laws_eqByteSS m.length QQ) 400 [.code (Try.f56.body.get rfl)] (argsT 0 [t0, t1]) m = X_laws_eqByteSS [t0, t1] m := by kernel_rfl
theorem okc_laws_eqByteSS : CallOK CT cf_laws_eqByteSS := cfc_ok ok_C_laws_eqByteS cfn_ok
theorem le_laws_eqByteSS_0 (k q : Nat) (t0 t1 t5 : Value) (m : Mem) : ex CT cf_laws_eqByteSS Try.f56 2 k LL_laws_eqByteSS (J_laws_eqByteSS k q) 400 (atLoop Try.f56 0) [(0, t0), (1, t1), (5, t5)] m = J_laws_eqByteSS k (q + 1) 4 [t0, t1, t5] m := by kernel_rfl
theorem gl_laws_eqByteSS (k : Nat) : ∀ q i, i < 1 → GoodL CT k Try.f56 LL_laws_eqByteSS (J_laws_eqByteSS k q) (atLoop Try.f56 i)
  | 0, 0, _ => goodL_zero (l := 4) (by kernel_rfl) (fun vs m => by kernel_rfl)
  | 0, _ + 1, h => absurd h (by omega)
  | q + 1, 0, _ => goodL_succ (np := 2) (l := 4) (live := [0, 1, 5]) (n := 1) CT_ok rfl okc_laws_eqByteSS (c := (Try.f56.body.get rfl)) rfl cok_laws_eqByteSS (by kernel_rfl) (gl_laws_eqByteSS k q) (by kernel_rfl) rfl (fun vs m r hl h => match vs, hl with
    | [t0, t1, t5], _ => (le_laws_eqByteSS_0 k q t0 t1 t5 m).trans h)
  | _ + 1, _ + 1, h => absurd h (by omega)
theorem ok_X_laws_eqByteSS : OkX CT 56 X_laws_eqByteSS := OkX.of_ex (cf := cf_laws_eqByteSS) (np := 2) (LL := LL_laws_eqByteSS) (J := (fun k => J_laws_eqByteSS k QQ)) CT_ok rfl Try.func56 rfl (Nat.le_of_ble_eq_true rfl) (by decide) cok_laws_eqByteSS okc_laws_eqByteSS (fun k => allLoops rfl (by kernel_rfl) (gl_laws_eqByteSS k QQ)) (fun args m r h => match args, h with
    | [t0, t1], h => ⟨rfl, (xe_laws_eqByteSS t0 t1 m).trans h⟩)
theorem ok_C_laws_eqByteSS : OkC CT 56 C_laws_eqByteSS := fcall_ok rfl ok_X_laws_eqByteSS

/-! ### laws.eqLine -/
noncomputable def cf_laws_eqLine : CallF := cfc 22 C_laws_eqByteS (cfc 56 C_laws_eqByteSS cfn)
noncomputable def X_laws_eqLine : List Value → Mem → Option VM
  | [t0, t1], m =>
    (boxX m t0) |> bo fun r1 =>
    (boxX r1.2 t1) |> bo fun r2 =>
    (fadX 0 r1.1) |> bo fun t5 =>
    (ld1 r2.2 t5) |> bo fun t6 =>
    (fadX 0 r2.1) |> bo fun t7 =>
    (ld1 r2.2 t7) |> bo fun t8 =>
    (C_laws_eqByteSS [t6, t8] r2.2) |> bo fun r7 =>
    (uop .not r7.1) |> bo fun t10 =>
    brX t10
      (
        retK m.length r7.2 [t0, t1] (.bool false))
      (
        (fadX 1 r1.1) |> bo fun t11 =>
        (ld1 r7.2 t11) |> bo fun t12 =>
        (fadX 1 r2.1) |> bo fun t13 =>
        (ld1 r7.2 t13) |> bo fun t14 =>
        (C_laws_eqByteS [t12, t14] r7.2) |> bo fun r13 =>
        (uop .not r13.1) |> bo fun t16 =>
        brX t16
          (
            retK m.length r13.2 [t0, t1] (.bool false))
          (
            (fadX 2 r1.1) |> bo fun t17 =>
            (ld1 r13.2 t17) |> bo fun t18 =>
            (fadX 2 r2.1) |> bo fun t19 =>
            (ld1 r13.2 t19) |> bo fun t20 =>
            (binX .neq .bool t18 t20) |> bo fun t21 =>
            brX t21
              (
                retK m.length r13.2 [t0, t1] (.bool false))
              (
                (fadX 3 r1.1) |> bo fun t22 =>
                (ld1 r13.2 t22) |> bo fun t23 =>
                (fadX 3 r2.1) |> bo fun t24 =>
                (ld1 r13.2 t24) |> bo fun t25 =>
                (binX .neq .no t23 t25) |> bo fun t26 =>
                brX t26
                  (
                    retK m.length r13.2 [t0, t1] (.bool false))
                  (
                    retK m.length r13.2 [t0, t1] (.bool true)))))
  | _, _ => none
noncomputable def C_laws_eqLine : List Value → Mem → Option VM := fcall X_laws_eqLine
@[simp] theorem c_laws_eqLine : C_laws_eqLine = fcall X_laws_eqLine := (rfl)
theorem cok_laws_eqLine : codeOk CT Try.f15 (Try.f15.body.get rfl) = true := by kernel_rfl
theorem xe_laws_eqLine (t0 t1 : Value) (m : Mem) : ex CT cf_laws_eqLine Try.f15 2 m.length [] (fun _ _ _ => none) 400 [.code (Try.f15.body.get rfl)] (argsT 0 [t0, t1]) m = X_laws_eqLine [t0, t1] m := by kernel_rfl
theorem okc_laws_eqLine : CallOK CT cf_laws_eqLine := cfc_ok ok_C_laws_eqByteS (cfc_ok ok_C_laws_eqByteSS cfn_ok)
theorem ok_X_laws_eqLine : OkX CT 15 X_laws_eqLine := OkX.of_ex (cf := cf_laws_eqLine) (np := 2) (LL := []) (J := (fun _ _ _ _ => none)) CT_ok rfl Try.func15 rfl (Nat.le_of_ble_eq_true rfl) (by decide) cok_laws_eqLine okc_laws_eqLine (fun k => noLoops rfl) (fun args m r h => match args, h with
    | [t0, t1], h => ⟨rfl, (xe_laws_eqLine t0 t1 m).trans h⟩)
theorem ok_C_laws_eqLine : OkC CT 15 C_laws_eqLine := fcall_ok rfl ok_X_laws_eqLine

/-! ### laws.eqDecoder -/
noncomputable def cf_laws_eqDecoder : CallF := cfn
noncomputable def X_laws_eqDecoder : List Value → Mem → Option VM
  | [t0, t1], m =>
    (boxX m t0) |> bo fun r1 =>
    (boxX r1.2 t1) |> bo fun r2 =>
    (fadX 0 r1.1) |> bo fun t5 =>
    (ld1 r2.2 t5) |> bo fun t6 =>
    (fadX 0 r2.1) |> bo fun t7 =>
    (ld1 r2.2 t7) |> bo fun t8 =>
    (binX .neq .no t6 t8) |> bo fun t9 =>
    brX t9
      (
        retK m.length r2.2 [t0, t1] (.bool false))
      (
        (fadX 1 r1.1) |> bo fun t10 =>
        (ld1 r2.2 t10) |> bo fun t11 =>
        (fadX 1 r2.1) |> bo fun t12 =>
        (ld1 r2.2 t12) |> bo fun t13 =>
        (binX .neq .no t11 t13) |> bo fun t14 =>
        brX t14
          (
            retK m.length r2.2 [t0, t1] (.bool false))
          (
            (fadX 2 r1.1) |> bo fun t15 =>
            (ld1 r2.2 t15) |> bo fun t16 =>
            (fadX 2 r2.1) |> bo fun t17 =>
            (ld1 r2.2 t17) |> bo fun t18 =>
            (binX .neq .no t16 t18) |> bo fun t19 =>
            brX t19
              (
                retK m.length r2.2 [t0, t1] (.bool false))
              (
                retK m.length r2.2 [t0, t1] (.bool true))))
  | _, _ => none
noncomputable def C_laws_eqDecoder : List Value → Mem → Option VM := fcall X_laws_eqDecoder
@[simp] theorem c_laws_eqDecoder : C_laws_eqDecoder = fcall X_laws_eqDecoder := (rfl)
theorem cok_laws_eqDecoder : codeOk CT Try.f79 (Try.f79.body.get rfl) = true := by kernel_rfl
theorem xe_laws_eqDecoder (t0 t1 : Value) (m : Mem) : ex CT cf_laws_eqDecoder Try.f79 2 m.length [] (fun _ _ _ => none) 400 [.code (Try.f79.body.get rfl)] (argsT 0 [t0, t1]) m = X_laws_eqDecoder [t0, t1] m := by kernel_rfl
theorem okc_laws_eqDecoder : CallOK CT cf_laws_eqDecoder := cfn_ok
theorem ok_X_laws_eqDecoder : OkX CT 79 X_laws_eqDecoder := OkX.of_ex (cf := cf_laws_eqDecoder) (np := 2) (LL := []) (J := (fun _ _ _ _ => none)) CT_ok rfl Try.func79 rfl (Nat.le_of_ble_eq_true rfl) (by decide) cok_laws_eqDecoder okc_laws_eqDecoder (fun k => noLoops rfl) (fun args m r h => match args, h with
    | [t0, t1], h => ⟨rfl, (xe_laws_eqDecoder t0 t1 m).trans h⟩)
theorem ok_C_laws_eqDecoder : OkC CT 79 C_laws_eqDecoder := fcall_ok rfl ok_X_laws_eqDecoder

/-! ### laws.eqInt64S -/
noncomputable def cf_laws_eqInt64S : CallF := cfn
noncomputable def L_laws_eqInt64S (k : Nat) : Nat → Nat → List Value → Mem → Option VM
  | q + 1, 0, [t0, t1, t5], m =>
    (lenX t0) |> bo fun t13 =>
    (binX .lss .no t5 t13) |> bo fun t14 =>
    brX t14
      (
        (ixaX 1 t0 t5) |> bo fun t19 =>
        (ld1 m t19) |> bo fun t20 =>
        (ixaX 1 t1 t5) |> bo fun t23 =>
        (ld1 m t23) |> bo fun t24 =>
        (binX .neq .no t20 t24) |> bo fun t25 =>
        brX t25
          (
            retK k m [t0, t1] (.bool false))
          (
            (binX .add .no t5 (.int .i64 1)) |> bo fun t16 =>
            cutK k m [t0, t1] [t0, t1, t16] (L_laws_eqInt64S k q 0)))
      (
        retK k m [t0, t1] (.bool true))
  | _, _, _, _ => none
noncomputable def J_laws_eqInt64S (k q l : Nat) : List Value → Mem → Option VM := cond (Nat.beq l 4) (L_laws_eqInt64S k q 0) (fun _ _ => none)
def LL_laws_eqInt64S : List (Nat × List Tmp) := [(4, [0, 1, 5])]
noncomputable def X_laws_eqInt64S : List Value → Mem → Option VM
  | [t0, t1], m =>
    (lenX t0) |> bo fun t7 =>
    (lenX t1) |> bo fun t9 =>
    (binX .neq .no t7 t9) |> bo fun t10 =>
    brX t10
      (
        retK m.length m [t0, t1] (.bool false))
      (
        cutK m.length m [t0, t1] [t0, t1, (.int .i64 0)] (L_laws_eqInt64S m.length QQ 0))
  | _, _ => none
noncomputable def C_laws_eqInt64S : List Value → Mem → Option VM := fcall X_laws_eqInt64S
@[simp] theorem c_laws_eqInt64S : C_laws_eqInt64S = fcall X_laws_eqInt64S := (rfl)
theorem cok_laws_eqInt64S : codeOk CT Try.f124 (Try.f124.body.get rfl) = true := by kernel_rfl
theorem xe_laws_eqInt64S (t0 t1 : Value) (m : Mem) : ex CT cf_laws_eqInt64S Try.f124 2 m.length LL_laws_eqInt64S (J_laws_eqInt64S m.length QQ) 400 [.code (Try.f124.body.get rfl)] (argsT 0 [t0, t1]) m = X_laws_eqInt64S [t0, t1] m := by kernel_rfl
theorem okc_laws_eqInt64S : CallOK CT cf_laws_eqInt64S := cfn_ok
theorem le_laws_eqInt64S_0 (k q : Nat) (t0 t1 t5 : Value) (m : Mem) : ex CT cf_laws_eqInt64S Try.f124 2 k LL_laws_eqInt64S (J_laws_eqInt64S k q) 400 (atLoop Try.f124 0) [(0, t0), (1, t1), (5, t5)] m = J_laws_eqInt64S k (q + 1) 4 [t0, t1, t5] m := by kernel_rfl
theorem gl_laws_eqInt64S (k : Nat) : ∀ q i, i < 1 → GoodL CT k Try.f124 LL_laws_eqInt64S (J_laws_eqInt64S k q) (atLoop Try.f124 i)
  | 0, 0, _ => goodL_zero (l := 4) (by kernel_rfl) (fun vs m => by kernel_rfl)
  | 0, _ + 1, h => absurd h (by omega)
  | q + 1, 0, _ => goodL_succ (np := 2) (l := 4) (live := [0, 1, 5]) (n := 1) CT_ok rfl okc_laws_eqInt64S (c := (Try.f124.body.get rfl)) rfl cok_laws_eqInt64S (by kernel_rfl) (gl_laws_eqInt64S k q) (by kernel_rfl) rfl (fun vs m r hl h => match vs, hl with
    | [t0, t1, t5], _ => (le_laws_eqInt64S_0 k q t0 t1 t5 m).trans h)
  | _ + 1, _ + 1, h => absurd h (by omega)
theorem ok_X_laws_eqInt64S : OkX CT 124 X_laws_eqInt64S := OkX.of_ex (cf := cf_laws_eqInt64S) (np := 2) (LL := LL_laws_eqInt64S) (J := (fun k => J_laws_eqInt64S k QQ)) CT_ok rfl Try.func124 rfl (Nat.le_of_ble_eq_true rfl) (by decide) cok_laws_eqInt64S okc_laws_eqInt64S (fun k => allLoops rfl (by kernel_rfl) (gl_laws_eqInt64S k QQ)) (fun args m r h => match args, h with
    | [t0, t1], h => ⟨rfl, (xe_laws_eqInt64S t0 t1 m).trans h⟩)
theorem ok_C_laws_eqInt64S : OkC CT 124 C_laws_eqInt64S := fcall_ok rfl ok_X_laws_eqInt64S

/-! ### laws.eqParser -/
noncomputable def cf_laws_eqParser : CallF := cfc 124 C_laws_eqInt64S cfn
noncomputable def X_laws_eqParser : List Value → Mem → Option VM
  | [t0, t1], m =>
    (boxX m t0) |> bo fun r1 =>
    (boxX r1.2 t1) |> bo fun r2 =>
    (fadX 0 r1.1) |> bo fun t5 =>
    (ld1 r2.2 t5) |> bo fun t6 =>
    (fadX 0 r2.1) |> bo fun t7 =>
    (ld1 r2.2 t7) |> bo fun t8 =>
    (binX .neq .no t6 t8) |> bo fun t9 =>
    brX t9
      (
        retK m.length r2.2 [t0, t1] (.bool false))
      (
        (fadX 1 r1.1) |> bo fun t10 =>
        (ld1 r2.2 t10) |> bo fun t11 =>
        (fadX 1 r2.1) |> bo fun t12 =>
        (ld1 r2.2 t12) |> bo fun t13 =>
        (binX .neq .no t11 t13) |> bo fun t14 =>
        brX t14
          (
            retK m.length r2.2 [t0, t1] (.bool false))
          (
            (fadX 2 r1.1) |> bo fun t15 =>
            (ld1 r2.2 t15) |> bo fun t16 =>
            (fadX 2 r2.1) |> bo fun t17 =>
            (ld1 r2.2 t17) |> bo fun t18 =>
            (binX .neq .bool t16 t18) |> bo fun t19 =>
            brX t19
              (
                retK m.length r2.2 [t0, t1] (.bool false))
              (
                (fadX 3 r1.1) |> bo fun t20 =>
                (ld1 r2.2 t20) |> bo fun t21 =>
                (fadX 3 r2.1) |> bo fun t22 =>
                (ld1 r2.2 t22) |> bo fun t23 =>
                (C_laws_eqInt64S [t21, t23] r2.2) |> bo fun r22 =>
                (uop .not r22.1) |> bo fun t25 =>
                brX t25
                  (
                    retK m.length r22.2 [t0, t1] (.bool false))
                  (
                    retK m.length r22.2 [t0, t1] (.bool true)))))
  | _, _ => none
noncomputable def C_laws_eqParser : List Value → Mem → Option VM := fcall X_laws_eqParser
@[simp] theorem c_laws_eqParser : C_laws_eqParser = fcall X_laws_eqParser := (rfl)
theorem cok_laws_eqParser : codeOk CT Try.f80 (Try.f80.body.get rfl) = true := by kernel_rfl
theorem xe_laws_eqParser (t0 t1 : Value) (m : Mem) : ex CT cf_laws_eqParser Try.f80 2 m.length [] (fun _ _ _ => none) 400 [.code (Try.f80.body.get rfl)] (argsT 0 [t0, t1]) m = X_laws_eqParser [t0, t1] m := by kernel_rfl
theorem okc_laws_eqParser : CallOK CT cf_laws_eqParser := cfc_ok ok_C_laws_eqInt64S cfn_ok
theorem ok_X_laws_eqParser : OkX CT 80 X_laws_eqParser := OkX.of_ex (cf := cf_laws_eqParser) (np := 2) (LL := []) (J := (fun _ _ _ _ => none)) CT_ok rfl Try.func80 rfl (Nat.le_of_ble_eq_true rfl) (by decide) cok_laws_eqParser okc_laws_eqParser (fun k => noLoops rfl) (fun args m r h => match args, h with
    | [t0, t1], h => ⟨rfl, (xe_laws_eqParser t0 t1 m).trans h⟩)
theorem ok_C_laws_eqParser : OkC CT 80 C_laws_eqParser := fcall_ok rfl ok_X_laws_eqParser

/-! ### laws.eqCell -/
noncomputable def cf_laws_eqCell : CallF := cfn
noncomputable def X_laws_eqCell : List Value → Mem → Option VM
  | [t0, t1], m =>
    (boxX m t0) |> bo fun r1 =>
    (boxX r1.2 t1) |> bo fun r2 =>
    (fadX 0 r1.1) |> bo fun t5 =>
    (ld1 r2.2 t5) |> bo fun t6 =>
    (fadX 0 r2.1) |> bo fun t7 =>
    (ld1 r2.2 t7) |> bo fun t8 =>
    (binX .neq .no t6 t8) |> bo fun t9 =>
    brX t9
      (
        retK m.length r2.2 [t0, t1] (.bool false))
      (
        (fadX 1 r1.1) |> bo fun t10 =>
        (ld1 r2.2 t10) |> bo fun t11 =>
        (fadX 1 r2.1) |> bo fun t12 =>
        (ld1 r2.2 t12) |> bo fun t13 =>
        (binX .neq .no t11 t13) |> bo fun t14 =>
        brX t14
          (
            retK m.length r2.2 [t0, t1] (.bool false))
          (
            retK m.length r2.2 [t0, t1] (.bool true)))
  | _, _ => none
noncomputable def C_laws_eqCell : List Value → Mem → Option VM := fcall X_laws_eqCell
@[simp] theorem c_laws_eqCell : C_laws_eqCell = fcall X_laws_eqCell := (rfl)
theorem cok_laws_eqCell : codeOk CT Try.f204 (Try.f204.body.get rfl) = true := by kernel_rfl
theorem xe_laws_eqCell (t0 t1 : Value) (m : Mem) : ex CT cf_laws_eqCell Try.f204 2 m.length [] (fun _ _ _ => none) 400 [.code (Try.f204.body.get rfl)] (argsT 0 [t0, t1]) m = X_laws_eqCell [t0, t1] m := by kernel_rfl
theorem okc_laws_eqCell : CallOK CT cf_laws_eqCell := cfn_ok
theorem ok_X_laws_eqCell : OkX CT 204 X_laws_eqCell := OkX.of_ex (cf := cf_laws_eqCell) (np := 2) (LL := []) (J := (fun _ _ _ _ => none)) CT_ok rfl Try.func204 rfl (Nat.le_of_ble_eq_true rfl) (by decide) cok_laws_eqCell okc_laws_eqCell (fun k => noLoops rfl) (fun args m r h => match args, h with
    | [t0, t1], h => ⟨rfl, (xe_laws_eqCell t0 t1 m).trans h⟩)
theorem ok_C_laws_eqCell : OkC CT 204 C_laws_eqCell := fcall_ok rfl ok_X_laws_eqCell

/-! ### laws.eqCellS -/
noncomputable def cf_laws_eqCellS : CallF := cfc 204 C_laws_eqCell cfn
noncomputable def L_laws_eqCellS (k : Nat) : Nat → Nat → List Value → Mem → Option VM
  | q + 1, 0, [t0, t1, t5], m =>
    (lenX t0) |> bo fun t13 =>
    (binX .lss .no t5 t13) |> bo fun t14 =>
    brX t14
      (
        (ixaX 2 t0 t5) |> bo fun t19 =>
        (ldS m 2 t19) |> bo fun t20 =>
        (ixaX 2 t1 t5) |> bo fun t23 =>
        (ldS m 2 t23) |> bo fun t24 =>
        (C_laws_eqCell [t20, t24] m) |> bo fun r7 =>
        (uop .not r7.1) |> bo fun t26 =>
        brX t26
          (
            retK k r7.2 [t0, t1] (.bool false))
          (
            (binX .add .no t5 (.int .i64 1)) |> bo fun t16 =>
            cutK k r7.2 [t0, t1] [t0, t1, t16] (L_laws_eqCellS k q 0)))
      (
        retK k m [t0, t1] (.bool true))
  | _, _, _, _ => none
noncomputable def J_laws_eqCellS (k q l : Nat) : List Value → Mem → Option VM := cond (Nat.beq l 4) (L_laws_eqCellS k q 0) (fun _ _ => none)
def LL_laws_eqCellS : List (Nat × List Tmp) := [(4, [0, 1, 5])]
noncomputable def X_laws_eqCellS : List Value → Mem → Option VM
  | [t0, t1], m =>
    (lenX t0) |> bo fun t7 =>
    (lenX t1) |> bo fun t9 =>
    (binX .neq .no t7 t9) |> bo fun t10 =>
    brX t10
      (
        retK m.length m [t0, t1] (.bool false))
      (
        cutK m.length m [t0, t1] [t0, t1, (.int .i64 0)] (L_laws_eqCellS m.length QQ 0))
  | _, _ => none
noncomputable def C_laws_eqCellS : List Value → Mem → Option VM := fcall X_laws_eqCellS
@[simp] theorem c_laws_eqCellS : C_laws_eqCellS = fcall X_laws_eqCellS := (rfl)
theorem cok_laws_eqCellS : codeOk CT Try.f170 (Try.f170.body.get rfl) = true := by kernel_rfl
theorem xe_laws_eqCellS (t0 t1 : Value) (m : Mem) : ex CT cf_laws_eqCellS Try.f170 2 m.length LL_laws_eqCellS (J_laws_eqCellS m.length QQ) 400 [.code (Try.f170.body.get rfl)] (argsT 0 [t0, t1]) m = X_laws_eqCellS [t0, t1] m := by kernel_rfl
theorem okc_laws_eqCellS : CallOK CT cf_laws_eqCellS := cfc_ok ok_C_laws_eqCell cfn_ok
theorem le_laws_eqCellS_0 (k q : Nat) (t0 t1 t5 : Value) (m : Mem) : ex CT cf_laws_eqCellS Try.f170 2 k LL_laws_eqCellS (J_laws_eqCellS k q) 400 (atLoop Try.f170 0) [(0, t0), (1, t1), (5, t5)] m = J_laws_eqCellS k (q + 1) 4 [t0, t1, t5] m := by kernel_rfl
theorem gl_laws_eqCellS (k : Nat) : ∀ q i, i < 1 → GoodL CT k Try.f170 LL_laws_eqCellS (J_laws_eqCellS k q) (atLoop Try.f170 i)
  | 0, 0, _ => goodL_zero (l := 4) (by kernel_rfl) (fun vs m => by kernel_rfl)
  | 0, _ + 1, h => absurd h (by omega)
  | q + 1, 0, _ => goodL_succ (np := 2) (l := 4) (live := [0, 1, 5]) (n := 1) CT_ok rfl okc_laws_eqCellS (c := (Try.f170.body.get rfl)) rfl cok_laws_eqCellS (by kernel_rfl) (gl_laws_eqCellS k q) (by kernel_rfl) rfl (fun vs m r hl h => match vs, hl with
    | [t0, t1, t5], _ => (le_laws_eqCellS_0 k q t0 t1 t5 m).trans h)
  | _ + 1, _ + 1, h => absurd h (by omega)
theorem ok_X_laws_eqCellS : OkX CT 170 X_laws_eqCellS := OkX.of_ex (cf := cf_laws_eqCellS) (np := 2) (LL := LL_laws_eqCellS) (J := (fun k => J_laws_eqCellS k QQ)) CT_ok rfl Try.func170 rfl (Nat.le_of_ble_eq_true rfl) (by decide) cok_laws_eqCellS okc_laws_eqCellS (fun k => allLoops rfl (by kernel_rfl) (gl_laws_eqCellS k QQ)) (fun args m r h => match args, h with
    | [t0, t1], h => ⟨rfl, (xe_laws_eqCellS t0 t1 m).trans h⟩)
theorem ok_C_laws_eqCellS : OkC CT 170 C_laws_eqCellS := fcall_ok rfl ok_X_laws_eqCellS

/-! ### laws.eqGrid -/
noncomputable def cf_laws_eqGrid : CallF := cfc 170 C_laws_eqCellS cfn
noncomputable def X_laws_eqGrid : List Value → Mem → Option VM
  | [t0, t1], m =>
    (boxX m t0) |> bo fun r1 =>
    (boxX r1.2 t1) |> bo fun r2 =>
    (fadX 0 r1.1) |> bo fun t5 =>
    (ld1 r2.2 t5) |> bo fun t6 =>
    (fadX 0 r2.1) |> bo fun t7 =>
    (ld1 r2.2 t7) |> bo fun t8 =>
    (binX .neq .no t6 t8) |> bo fun t9 =>
    brX t9
      (
        retK m.length r2.2 [t0, t1] (.bool false))
      (
        (fadX 1 r1.1) |> bo fun t10 =>
        (ld1 r2.2 t10) |> bo fun t11 =>
        (fadX 1 r2.1) |> bo fun t12 =>
        (ld1 r2.2 t12) |> bo fun t13 =>
        (binX .neq .no t11 t13) |> bo fun t14 =>
        brX t14
          (
            retK m.length r2.2 [t0, t1] (.bool false))
          (
            (fadX 2 r1.1) |> bo fun t15 =>
            (ld1 r2.2 t15) |> bo fun t16 =>
            (fadX 2 r2.1) |> bo fun t17 =>
            (ld1 r2.2 t17) |> bo fun t18 =>
            (C_laws_eqCellS [t16, t18] r2.2) |> bo fun r17 =>
            (uop .not r17.1) |> bo fun t20 =>
            brX t20
              (
                retK m.length r17.2 [t0, t1] (.bool false))
              (
                (fadX 3 r1.1) |> bo fun t21 =>
                (ld1 r17.2 t21) |> bo fun t22 =>
                (fadX 3 r2.1) |> bo fun t23 =>
                (ld1 r17.2 t23) |> bo fun t24 =>
                (C_laws_eqCellS [t22, t24] r17.2) |> bo fun r23 =>
                (uop .not r23.1) |> bo fun t26 =>
                brX t26
                  (
                    retK m.length r23.2 [t0, t1] (.bool false))
                  (
                    retK m.length r23.2 [t0, t1] (.bool true)))))
  | _, _ => none
noncomputable def C_laws_eqGrid : List Value → Mem → Option VM := fcall X_laws_eqGrid
@[simp] theorem c_laws_eqGrid : C_laws_eqGrid = fcall X_laws_eqGrid := (rfl)
theorem cok_laws_eqGrid : codeOk CT Try.f125 (Try.f125.body.get rfl) = true := by kernel_rfl
theorem xe_laws_eqGrid (t0 t1 : Value) (m : Mem) : ex CT cf_laws_eqGrid Try.f125 2 m.length [] (fun _ _ _ => none) 400 [.code (Try.f125.body.get rfl)] (argsT 0 [t0, t1]) m = X_laws_eqGrid [t0, t1] m := by kernel_rfl
theorem okc_laws_eqGrid : CallOK CT cf_laws_eqGrid := cfc_ok ok_C_laws_eqCellS cfn_ok
theorem ok_X_laws_eqGrid : OkX CT 125 X_laws_eqGrid := OkX.of_ex (cf := cf_laws_eqGrid) (np := 2) (LL := []) (J := (fun _ _ _ _ => none)) CT_ok rfl Try.func125 rfl (Nat.le_of_ble_eq_true rfl) (by decide) cok_laws_eqGrid okc_laws_eqGrid (fun k => noLoops rfl) (fun args m r h => match args, h with
    | [t0, t1], h => ⟨rfl, (xe_laws_eqGrid t0 t1 m).trans h⟩)
theorem ok_C_laws_eqGrid : OkC CT 125 C_laws_eqGrid := fcall_ok rfl ok_X_laws_eqGrid

/-! ### laws.eqBoolS -/
noncomputable def cf_laws_eqBoolS : CallF := cfn
noncomputable def L_laws_eqBoolS (k : Nat) : Nat → Nat → List Value → Mem → Option VM
  | q + 1, 0, [t0, t1, t5], m =>
    (lenX t0) |> bo fun t13 =>
    (binX .lss .no t5 t13) |> bo fun t14 =>
    brX t14
      (
        (ixaX 1 t0 t5) |> bo fun t19 =>
        (ld1 m t19) |> bo fun t20 =>
        (ixaX 1 t1 t5) |> bo fun t23 =>
        (ld1 m t23) |> bo fun t24 =>
        (binX .neq .bool t20 t24) |> bo fun t25 =>
        brX t25
          (
            retK k m [t0, t1] (.bool false))
          (
            (binX .add .no t5 (.int .i64 1)) |> bo fun t16 =>
            cutK k m [t0, t1] [t0, t1, t16] (L_laws_eqBoolS k q 0)))
      (
        retK k m [t0, t1] (.bool true))
  | _, _, _, _ => none
noncomputable def J_laws_eqBoolS (k q l : Nat) : List Value → Mem → Option VM := cond (Nat.beq l 4) (L_laws_eqBoolS k q 0) (fun _ _ => none)
def LL_laws_eqBoolS : List (Nat × List Tmp) := [(4, [0, 1, 5])]
noncomputable def X_laws_eqBoolS : List Value → Mem → Option VM
  | [t0, t1], m =>
    (lenX t0) |> bo fun t7 =>
    (lenX t1) |> bo fun t9 =>
    (binX .neq .no t7 t9) |> bo fun t10 =>
    brX t10
      (
        retK m.length m [t0, t1] (.bool false))
      (
        cutK m.length m [t0, t1] [t0, t1, (.int .i64 0)] (L_laws_eqBoolS m.length QQ 0))
  | _, _ => none
noncomputable def C_laws_eqBoolS : List Value → Mem → Option VM := fcall X_laws_eqBoolS
@[simp] theorem c_laws_eqBoolS : C_laws_eqBoolS = fcall X_laws_eqBoolS := (rfl)
theorem cok_laws_eqBoolS : codeOk CT Try.f126 (Try.f126.body.get rfl) = true := by kernel_rfl
theorem xe_laws_eqBoolS (t0 t1 : Value) (m : Mem) : ex CT cf_laws_eqBoolS Try.f126 2 m.length LL_laws_eqBoolS (J_laws_eqBoolS m.length QQ) 400 [.code (Try.f126.body.get rfl)] (argsT 0 [t0, t1]) m = X_laws_eqBoolS [t0, t1] m := by kernel_rfl
theorem okc_laws_eqBoolS : CallOK CT cf_laws_eqBoolS := cfn_ok
theorem le_laws_eqBoolS_0 (k q : Nat) (t0 t1 t5 : Value) (m : Mem) : ex CT cf_laws_eqBoolS Try.f126 2 k LL_laws_eqBoolS (J_laws_eqBoolS k q) 400 (atLoop Try.f126 0) [(0, t0), (1, t1), (5, t5)] m = J_laws_eqBoolS k (q + 1) 4 [t0, t1, t5] m := by kernel_rfl
theorem gl_laws_eqBoolS (k : Nat) : ∀ q i, i < 1 → GoodL CT k Try.f126 LL_laws_eqBoolS (J_laws_eqBoolS k q) (atLoop Try.f126 i)
  | 0, 0, _ => goodL_zero (l := 4) (by kernel_rfl) (fun vs m => by kernel_rfl)
  | 0, _ + 1, h => absurd h (by omega)
  | q + 1, 0, _ => goodL_succ (np := 2) (l := 4) (live := [0, 1, 5]) (n := 1) CT_ok rfl okc_laws_eqBoolS (c := (Try.f126.body.get rfl)) rfl cok_laws_eqBoolS (by kernel_rfl) (gl_laws_eqBoolS k q) (by kernel_rfl) rfl (fun vs m r hl h => match vs, hl with
    | [t0, t1, t5], _ => (le_laws_eqBoolS_0 k q t0 t1 t5 m).trans h)
  | _ + 1, _ + 1, h => absurd h (by omega)
theorem ok_X_laws_eqBoolS : OkX CT 126 X_laws_eqBoolS := OkX.of_ex (cf := cf_laws_eqBoolS) (np := 2) (LL := LL_laws_eqBoolS) (J := (fun k => J_laws_eqBoolS k QQ)) CT_ok rfl Try.func126 rfl (Nat.le_of_ble_eq_true rfl) (by decide) cok_laws_eqBoolS okc_laws_eqBoolS (fun k => allLoops rfl (by kernel_rfl) (gl_laws_eqBoolS k QQ)) (fun args m r h => match args, h with
    | [t0, t1], h => ⟨rfl, (xe_laws_eqBoolS t0 t1 m).trans h⟩)
theorem ok_C_laws_eqBoolS : OkC CT 126 C_laws_eqBoolS := fcall_ok rfl ok_X_laws_eqBoolS

/-! ### laws.eqScreen -/
noncomputable def cf_laws_eqScreen : CallF := cfc 124 C_laws_eqInt64S (cfc 125 C_laws_eqGrid (cfc 126 C_laws_eqBoolS cfn))
noncomputable def X_laws_eqScreen : List Value → Mem → Option VM
  | [t0, t1], m =>
    (boxX m t0) |> bo fun r1 =>
    (boxX r1.2 t1) |> bo fun r2 =>
    (fadX 0 r1.1) |> bo fun t5 =>
    (ldS r2.2 4 t5) |> bo fun t6 =>
    (fadX 0 r2.1) |> bo fun t7 =>
    (ldS r2.2 4 t7) |> bo fun t8 =>
    (C_laws_eqGrid [t6, t8] r2.2) |> bo fun r7 =>
    (uop .not r7.1) |> bo fun t10 =>
    brX t10
      (
        retK m.length r7.2 [t0, t1] (.bool false))
      (
        (fadX 4 r1.1) |> bo fun t11 =>
        (ld1 r7.2 t11) |> bo fun t12 =>
        (fadX 4 r2.1) |> bo fun t13 =>
        (ld1 r7.2 t13) |> bo fun t14 =>
        (binX .neq .no t12 t14) |> bo fun t15 =>
        brX t15
          (
            retK m.length r7.2 [t0, t1] (.bool false))
          (
            (fadX 5 r1.1) |> bo fun t16 =>
            (ld1 r7.2 t16) |> bo fun t17 =>
            (fadX 5 r2.1) |> bo fun t18 =>
            (ld1 r7.2 t18) |> bo fun t19 =>
            (binX .neq .no t17 t19) |> bo fun t20 =>
            brX t20
              (
                retK m.length r7.2 [t0, t1] (.bool false))
              (
                (fadX 6 r1.1) |> bo fun t21 =>
                (ld1 r7.2 t21) |> bo fun t22 =>
                (fadX 6 r2.1) |> bo fun t23 =>
                (ld1 r7.2 t23) |> bo fun t24 =>
                (binX .neq .bool t22 t24) |> bo fun t25 =>
                brX t25
                  (
                    retK m.length r7.2 [t0, t1] (.bool false))
                  (
                    (fadX 7 r1.1) |> bo fun t26 =>
                    (ld1 r7.2 t26) |> bo fun t27 =>
                    (fadX 7 r2.1) |> bo fun t28 =>
                    (ld1 r7.2 t28) |> bo fun t29 =>
                    (binX .neq .no t27 t29) |> bo fun t30 =>
                    brX t30
                      (
                        retK m.length r7.2 [t0, t1] (.bool false))
                      (
                        (fadX 8 r1.1) |> bo fun t31 =>
                        (ld1 r7.2 t31) |> bo fun t32 =>
                        (fadX 8 r2.1) |> bo fun t33 =>
                        (ld1 r7.2 t33) |> bo fun t34 =>
                        (binX .neq .no t32 t34) |> bo fun t35 =>
                        brX t35
                          (
                            retK m.length r7.2 [t0, t1] (.bool false))
                          (
                            (fadX 9 r1.1) |> bo fun t36 =>
                            (ld1 r7.2 t36) |> bo fun t37 =>
                            (fadX 9 r2.1) |> bo fun t38 =>
                            (ld1 r7.2 t38) |> bo fun t39 =>
                            (binX .neq .no t37 t39) |> bo fun t40 =>
                            brX t40
                              (
                                retK m.length r7.2 [t0, t1] (.bool false))
                              (
                                (fadX 10 r1.1) |> bo fun t41 =>
                                (ld1 r7.2 t41) |> bo fun t42 =>
                                (fadX 10 r2.1) |> bo fun t43 =>
                                (ld1 r7.2 t43) |> bo fun t44 =>
                                (binX .neq .bool t42 t44) |> bo fun t45 =>
                                brX t45
                                  (
                                    retK m.length r7.2 [t0, t1] (.bool false))
                                  (
                                    (fadX 11 r1.1) |> bo fun t46 =>
                                    (ld1 r7.2 t46) |> bo fun t47 =>
                                    (fadX 11 r2.1) |> bo fun t48 =>
                                    (ld1 r7.2 t48) |> bo fun t49 =>
                                    (binX .neq .bool t47 t49) |> bo fun t50 =>
                                    brX t50
                                      (
                                        retK m.length r7.2 [t0, t1] (.bool false))
                                      (
                                        (fadX 12 r1.1) |> bo fun t51 =>
                                        (ld1 r7.2 t51) |> bo fun t52 =>
                                        (fadX 12 r2.1) |> bo fun t53 =>
                                        (ld1 r7.2 t53) |> bo fun t54 =>
                                        (binX .neq .bool t52 t54) |> bo fun t55 =>
                                        brX t55
                                          (
                                            retK m.length r7.2 [t0, t1] (.bool false))
                                          (
                                            (fadX 13 r1.1) |> bo fun t56 =>
                                            (ld1 r7.2 t56) |> bo fun t57 =>
                                            (fadX 13 r2.1) |> bo fun t58 =>
                                            (ld1 r7.2 t58) |> bo fun t59 =>
                                            (C_laws_eqBoolS [t57, t59] r7.2) |> bo fun r58 =>
                                            (uop .not r58.1) |> bo fun t61 =>
                                            brX t61
                                              (
                                                retK m.length r58.2 [t0, t1] (.bool false))
                                              (
                                                (fadX 14 r1.1) |> bo fun t62 =>
                                                (ld1 r58.2 t62) |> bo fun t63 =>
                                                (fadX 14 r2.1) |> bo fun t64 =>
                                                (ld1 r58.2 t64) |> bo fun t65 =>
                                                (binX .neq .no t63 t65) |> bo fun t66 =>
                                                brX t66
                                                  (
                                                    retK m.length r58.2 [t0, t1] (.bool false))
                                                  (
                                                    (fadX 15 r1.1) |> bo fun t67 =>
                                                    (ld1 r58.2 t67) |> bo fun t68 =>
                                                    (fadX 15 r2.1) |> bo fun t69 =>
                                                    (ld1 r58.2 t69) |> bo fun t70 =>
                                                    (binX .neq .no t68 t70) |> bo fun t71 =>
                                                    brX t71
                                                      (
                                                        retK m.length r58.2 [t0, t1] (.bool false))
                                                      (
                                                        (fadX 16 r1.1) |> bo fun t72 =>
                                                        (ld1 r58.2 t72) |> bo fun t73 =>
                                                        (fadX 16 r2.1) |> bo fun t74 =>
                                                        (ld1 r58.2 t74) |> bo fun t75 =>
                                                        (binX .neq .no t73 t75) |> bo fun t76 =>
                                                        brX t76
                                                          (
                                                            retK m.length r58.2 [t0, t1] (.bool false))
                                                          (
                                                            (fadX 17 r1.1) |> bo fun t77 =>
                                                            (ld1 r58.2 t77) |> bo fun t78 =>
                                                            (fadX 17 r2.1) |> bo fun t79 =>
                                                            (ld1 r58.2 t79) |> bo fun t80 =>
                                                            (C_laws_eqInt64S [t78, t80] r58.2) |> bo fun r79 =>
                                                            (uop .not r79.1) |> bo fun t82 =>
                                                            brX t82
                                                              (
                                                                retK m.length r79.2 [t0, t1] (.bool false))
                                                              (
                                                                (fadX 18 r1.1) |> bo fun t83 =>
                                                                (ld1 r79.2 t83) |> bo fun t84 =>
                                                                (fadX 18 r2.1) |> bo fun t85 =>
                                                                (ld1 r79.2 t85) |> bo fun t86 =>
                                                                (binX .neq .no t84 t86) |> bo fun t87 =>
                                                                brX t87
                                                                  (
                                                                    retK m.length r79.2 [t0, t1] (.bool false))
                                                                  (
                                                                    (fadX 19 r1.1) |> bo fun t88 =>
                                                                    (ld1 r79.2 t88) |> bo fun t89 =>
                                                                    (fadX 19 r2.1) |> bo fun t90 =>
                                                                    (ld1 r79.2 t90) |> bo fun t91 =>
                                                                    (binX .neq .no t89 t91) |> bo fun t92 =>
                                                                    brX t92
                                                                      (
                                                                        retK m.length r79.2 [t0, t1] (.bool false))
                                                                      (
                                                                        retK m.length r79.2 [t0, t1] (.bool true))))))))))))))))))
  | _, _ => none
noncomputable def C_laws_eqScreen : List Value → Mem → Option VM := fcall X_laws_eqScreen
@[simp] theorem c_laws_eqScreen : C_laws_eqScreen = fcall X_laws_eqScreen := (rfl)
theorem cok_laws_eqScreen : codeOk CT Try.f81 (Try.f81.body.get rfl) = true := by kernel_rfl
theorem xe_laws_eqScreen (t0 t1 : Value) (m : Mem) : ex CT cf_laws_eqScreen Try.f81 2 m.length [] (fun _ _ _ => none) 400 [.code (Try.f81.body.get rfl)] (argsT 0 [t0, t1]) m = X_laws_eqScreen [t0, t1] m := by kernel_rfl
theorem okc_laws_eqScreen : CallOK CT cf_laws_eqScreen := cfc_ok ok_C_laws_eqInt64S (cfc_ok ok_C_laws_eqGrid (cfc_ok ok_C_laws_eqBoolS cfn_ok))
theorem ok_X_laws_eqScreen : OkX CT 81 X_laws_eqScreen := OkX.of_ex (cf := cf_laws_eqScreen) (np := 2) (LL := []) (J := (fun _ _ _ _ => none)) CT_ok rfl Try.func81 rfl (Nat.le_of_ble_eq_true rfl) (by decide) cok_laws_eqScreen okc_laws_eqScreen (fun k => noLoops rfl) (fun args m r h => match args, h with
    | [t0, t1], h => ⟨rfl, (xe_laws_eqScreen t0 t1 m).trans h⟩)
theorem ok_C_laws_eqScreen : OkC CT 81 C_laws_eqScreen := fcall_ok rfl ok_X_laws_eqScreen

/-! ### laws.eqVt -/
noncomputable def cf_laws_eqVt : CallF := cfc 79 C_laws_eqDecoder (cfc 80 C_laws_eqParser (cfc 81 C_laws_eqScreen cfn))
noncomputable def X_laws_eqVt : List Value → Mem → Option VM
  | [t0, t1], m =>
    (boxX m t0) |> bo fun r1 =>
    (boxX r1.2 t1) |> bo fun r2 =>
    (fadX 0 r1.1) |> bo fun t5 =>
    (ldS r2.2 3 t5) |> bo fun t6 =>
    (fadX 0 r2.1) |> bo fun t7 =>
    (ldS r2.2 3 t7) |> bo fun t8 =>
    (C_laws_eqDecoder [t6, t8] r2.2) |> bo fun r7 =>
    (uop .not r7.1) |> bo fun t10 =>
    brX t10
      (
        retK m.length r7.2 [t0, t1] (.bool false))
      (
        (fadX 3 r1.1) |> bo fun t11 =>
        (ldS r7.2 4 t11) |> bo fun t12 =>
        (fadX 3 r2.1) |> bo fun t13 =>
        (ldS r7.2 4 t13) |> bo fun t14 =>
        (C_laws_eqParser [t12, t14] r7.2) |> bo fun r13 =>
        (uop .not r13.1) |> bo fun t16 =>
        brX t16
          (
            retK m.length r13.2 [t0, t1] (.bool false))
          (
            (fadX 7 r1.1) |> bo fun t17 =>
            (ldS r13.2 20 t17) |> bo fun t18 =>
            (fadX 7 r2.1) |> bo fun t19 =>
            (ldS r13.2 20 t19) |> bo fun t20 =>
            (C_laws_eqScreen [t18, t20] r13.2) |> bo fun r19 =>
            (uop .not r19.1) |> bo fun t22 =>
            brX t22
              (
                retK m.length r19.2 [t0, t1] (.bool false))
              (
                retK m.length r19.2 [t0, t1] (.bool true))))
  | _, _ => none
noncomputable def C_laws_eqVt : List Value → Mem → Option VM := fcall X_laws_eqVt
@[simp] theorem c_laws_eqVt : C_laws_eqVt = fcall X_laws_eqVt := (rfl)
theorem cok_laws_eqVt : codeOk CT Try.f36 (Try.f36.body.get rfl) = true := by kernel_rfl
theorem xe_laws_eqVt (t0 t1 : Value) (m : Mem) : ex CT cf_laws_eqVt Try.f36 2 m.length [] (fun _ _ _ => none) 400 [.code (Try.f36.body.get rfl)] (argsT 0 [t0, t1]) m = X_laws_eqVt [t0, t1] m := by kernel_rfl
theorem okc_laws_eqVt : CallOK CT cf_laws_eqVt := cfc_ok ok_C_laws_eqDecoder (cfc_ok ok_C_laws_eqParser (cfc_ok ok_C_laws_eqScreen cfn_ok))
theorem ok_X_laws_eqVt : OkX CT 36 X_laws_eqVt := OkX.of_ex (cf := cf_laws_eqVt) (np := 2) (LL := []) (J := (fun _ _ _ _ => none)) CT_ok rfl Try.func36 rfl (Nat.le_of_ble_eq_true rfl) (by decide) cok_laws_eqVt okc_laws_eqVt (fun k => noLoops rfl) (fun args m r h => match args, h with
    | [t0, t1], h => ⟨rfl, (xe_laws_eqVt t0 t1 m).trans h⟩)
theorem ok_C_laws_eqVt : OkC CT 36 C_laws_eqVt := fcall_ok rfl ok_X_laws_eqVt

/-! ### laws.eqWay -/
noncomputable def cf_laws_eqWay : CallF := cfn
noncomputable def X_laws_eqWay : List Value → Mem → Option VM
  | [t0, t1], m =>
    (boxX m t0) |> bo fun r1 =>
    (boxX r1.2 t1) |> bo fun r2 =>
    (fadX 0 r1.1) |> bo fun t5 =>
    (ld1 r2.2 t5) |> bo fun t6 =>
    (fadX 0 r2.1) |> bo fun t7 =>
    (ld1 r2.2 t7) |> bo fun t8 =>
    (binX .neq .no t6 t8) |> bo fun t9 =>
    brX t9
      (
        retK m.length r2.2 [t0, t1] (.bool false))
      (
        (fadX 1 r1.1) |> bo fun t10 =>
        (ld1 r2.2 t10) |> bo fun t11 =>
        (fadX 1 r2.1) |> bo fun t12 =>
        (ld1 r2.2 t12) |> bo fun t13 =>
        (binX .neq .no t11 t13) |> bo fun t14 =>
        brX t14
          (
            retK m.length r2.2 [t0, t1] (.bool false))
          (
            (fadX 2 r1.1) |> bo fun t15 =>
            (ld1 r2.2 t15) |> bo fun t16 =>
            (fadX 2 r2.1) |> bo fun t17 =>
            (ld1 r2.2 t17) |> bo fun t18 =>
            (binX .neq .no t16 t18) |> bo fun t19 =>
            brX t19
              (
                retK m.length r2.2 [t0, t1] (.bool false))
              (
                (fadX 3 r1.1) |> bo fun t20 =>
                (ld1 r2.2 t20) |> bo fun t21 =>
                (fadX 3 r2.1) |> bo fun t22 =>
                (ld1 r2.2 t22) |> bo fun t23 =>
                (binX .neq .no t21 t23) |> bo fun t24 =>
                brX t24
                  (
                    retK m.length r2.2 [t0, t1] (.bool false))
                  (
                    (fadX 4 r1.1) |> bo fun t25 =>
                    (ld1 r2.2 t25) |> bo fun t26 =>
                    (fadX 4 r2.1) |> bo fun t27 =>
                    (ld1 r2.2 t27) |> bo fun t28 =>
                    (binX .neq .no t26 t28) |> bo fun t29 =>
                    brX t29
                      (
                        retK m.length r2.2 [t0, t1] (.bool false))
                      (
                        (fadX 5 r1.1) |> bo fun t30 =>
                        (ld1 r2.2 t30) |> bo fun t31 =>
                        (fadX 5 r2.1) |> bo fun t32 =>
                        (ld1 r2.2 t32) |> bo fun t33 =>
                        (binX .neq .no t31 t33) |> bo fun t34 =>
                        brX t34
                          (
                            retK m.length r2.2 [t0, t1] (.bool false))
                          (
                            (fadX 6 r1.1) |> bo fun t35 =>
                            (ld1 r2.2 t35) |> bo fun t36 =>
                            (fadX 6 r2.1) |> bo fun t37 =>
                            (ld1 r2.2 t37) |> bo fun t38 =>
                            (binX .neq .no t36 t38) |> bo fun t39 =>
                            brX t39
                              (
                                retK m.length r2.2 [t0, t1] (.bool false))
                              (
                                retK m.length r2.2 [t0, t1] (.bool true))))))))
  | _, _ => none
noncomputable def C_laws_eqWay : List Value → Mem → Option VM := fcall X_laws_eqWay
@[simp] theorem c_laws_eqWay : C_laws_eqWay = fcall X_laws_eqWay := (rfl)
theorem cok_laws_eqWay : codeOk CT Try.f91 (Try.f91.body.get rfl) = true := by kernel_rfl
theorem xe_laws_eqWay (t0 t1 : Value) (m : Mem) : ex CT cf_laws_eqWay Try.f91 2 m.length [] (fun _ _ _ => none) 400 [.code (Try.f91.body.get rfl)] (argsT 0 [t0, t1]) m = X_laws_eqWay [t0, t1] m := by kernel_rfl
theorem okc_laws_eqWay : CallOK CT cf_laws_eqWay := cfn_ok
theorem ok_X_laws_eqWay : OkX CT 91 X_laws_eqWay := OkX.of_ex (cf := cf_laws_eqWay) (np := 2) (LL := []) (J := (fun _ _ _ _ => none)) CT_ok rfl Try.func91 rfl (Nat.le_of_ble_eq_true rfl) (by decide) cok_laws_eqWay okc_laws_eqWay (fun k => noLoops rfl) (fun args m r h => match args, h with
    | [t0, t1], h => ⟨rfl, (xe_laws_eqWay t0 t1 m).trans h⟩)
theorem ok_C_laws_eqWay : OkC CT 91 C_laws_eqWay := fcall_ok rfl ok_X_laws_eqWay

/-! ### laws.eqConsole -/
noncomputable def cf_laws_eqConsole : CallF := cfc 15 C_laws_eqLine (cfc 36 C_laws_eqVt (cfc 91 C_laws_eqWay cfn))
noncomputable def X_laws_eqConsole : List Value → Mem → Option VM
  | [t0, t1], m =>
    (boxX m t0) |> bo fun r1 =>
    (boxX r1.2 t1) |> bo fun r2 =>
    (fadX 0 r1.1) |> bo fun t5 =>
    (ldS r2.2 27 t5) |> bo fun t6 =>
    (fadX 0 r2.1) |> bo fun t7 =>
    (ldS r2.2 27 t7) |> bo fun t8 =>
    (C_laws_eqVt [t6, t8] r2.2) |> bo fun r7 =>
    (uop .not r7.1) |> bo fun t10 =>
    brX t10
      (
        retK m.length r7.2 [t0, t1] (.bool false))
      (
        (fadX 27 r1.1) |> bo fun t11 =>
        (ldS r7.2 7 t11) |> bo fun t12 =>
        (fadX 27 r2.1) |> bo fun t13 =>
        (ldS r7.2 7 t13) |> bo fun t14 =>
        (C_laws_eqWay [t12, t14] r7.2) |> bo fun r13 =>
        (uop .not r13.1) |> bo fun t16 =>
        brX t16
          (
            retK m.length r13.2 [t0, t1] (.bool false))
          (
            (fadX 34 r1.1) |> bo fun t17 =>
            (ldS r13.2 4 t17) |> bo fun t18 =>
            (fadX 34 r2.1) |> bo fun t19 =>
            (ldS r13.2 4 t19) |> bo fun t20 =>
            (C_laws_eqLine [t18, t20] r13.2) |> bo fun r19 =>
            (uop .not r19.1) |> bo fun t22 =>
            brX t22
              (
                retK m.length r19.2 [t0, t1] (.bool false))
              (
                retK m.length r19.2 [t0, t1] (.bool true))))
  | _, _ => none
noncomputable def C_laws_eqConsole : List Value → Mem → Option VM := fcall X_laws_eqConsole
@[simp] theorem c_laws_eqConsole : C_laws_eqConsole = fcall X_laws_eqConsole := (rfl)
theorem cok_laws_eqConsole : codeOk CT Try.f46 (Try.f46.body.get rfl) = true := by kernel_rfl
theorem xe_laws_eqConsole (t0 t1 : Value) (m : Mem) : ex CT cf_laws_eqConsole Try.f46 2 m.length [] (fun _ _ _ => none) 400 [.code (Try.f46.body.get rfl)] (argsT 0 [t0, t1]) m = X_laws_eqConsole [t0, t1] m := by kernel_rfl
theorem okc_laws_eqConsole : CallOK CT cf_laws_eqConsole := cfc_ok ok_C_laws_eqLine (cfc_ok ok_C_laws_eqVt (cfc_ok ok_C_laws_eqWay cfn_ok))
theorem ok_X_laws_eqConsole : OkX CT 46 X_laws_eqConsole := OkX.of_ex (cf := cf_laws_eqConsole) (np := 2) (LL := []) (J := (fun _ _ _ _ => none)) CT_ok rfl Try.func46 rfl (Nat.le_of_ble_eq_true rfl) (by decide) cok_laws_eqConsole okc_laws_eqConsole (fun k => noLoops rfl) (fun args m r h => match args, h with
    | [t0, t1], h => ⟨rfl, (xe_laws_eqConsole t0 t1 m).trans h⟩)
theorem ok_C_laws_eqConsole : OkC CT 46 C_laws_eqConsole := fcall_ok rfl ok_X_laws_eqConsole

/-! ### laws.eqConsoleResult -/
noncomputable def cf_laws_eqConsoleResult : CallF := cfc 22 C_laws_eqByteS (cfc 46 C_laws_eqConsole cfn)
noncomputable def X_laws_eqConsoleResult : List Value → Mem → Option VM
  | [t0, t1], m =>
    (boxX m t0) |> bo fun r1 =>
    (boxX r1.2 t1) |> bo fun r2 =>
    (fadX 0 r1.1) |> bo fun t5 =>
    (ld1 r2.2 t5) |> bo fun t6 =>
    (fadX 0 r2.1) |> bo fun t7 =>
    (ld1 r2.2 t7) |> bo fun t8 =>
    (binX .neq .no t6 t8) |> bo fun t9 =>
    brX t9
      (
        retK m.length r2.2 [t0, t1] (.bool false))
      (
        (fadX 1 r1.1) |> bo fun t10 =>
        (ld1 r2.2 t10) |> bo fun t11 =>
        (fadX 1 r2.1) |> bo fun t12 =>
        (ld1 r2.2 t12) |> bo fun t13 =>
        (binX .neq .bool t11 t13) |> bo fun t14 =>
        brX t14
          (
            retK m.length r2.2 [t0, t1] (.bool false))
          (
            (fadX 2 r1.1) |> bo fun t15 =>
            (ld1 r2.2 t15) |> bo fun t16 =>
            (fadX 2 r2.1) |> bo fun t17 =>
            (ld1 r2.2 t17) |> bo fun t18 =>
            (C_laws_eqByteS [t16, t18] r2.2) |> bo fun r17 =>
            (uop .not r17.1) |> bo fun t20 =>
            brX t20
              (
                retK m.length r17.2 [t0, t1] (.bool false))
              (
                (fadX 3 r1.1) |> bo fun t21 =>
                (ldS r17.2 38 t21) |> bo fun t22 =>
                (fadX 3 r2.1) |> bo fun t23 =>
                (ldS r17.2 38 t23) |> bo fun t24 =>
                (C_laws_eqConsole [t22, t24] r17.2) |> bo fun r23 =>
                (uop .not r23.1) |> bo fun t26 =>
                brX t26
                  (
                    retK m.length r23.2 [t0, t1] (.bool false))
                  (
                    retK m.length r23.2 [t0, t1] (.bool true)))))
  | _, _ => none
noncomputable def C_laws_eqConsoleResult : List Value → Mem → Option VM := fcall X_laws_eqConsoleResult
@[simp] theorem c_laws_eqConsoleResult : C_laws_eqConsoleResult = fcall X_laws_eqConsoleResult := (rfl)
theorem cok_laws_eqConsoleResult : codeOk CT Try.f39 (Try.f39.body.get rfl) = true := by kernel_rfl
theorem xe_laws_eqConsoleResult (t0 t1 : Value) (m : Mem) : ex CT cf_laws_eqConsoleResult Try.f39 2 m.length [] (fun _ _ _ => none) 400 [.code (Try.f39.body.get rfl)] (argsT 0 [t0, t1]) m = X_laws_eqConsoleResult [t0, t1] m := by kernel_rfl
theorem okc_laws_eqConsoleResult : CallOK CT cf_laws_eqConsoleResult := cfc_ok ok_C_laws_eqByteS (cfc_ok ok_C_laws_eqConsole cfn_ok)
theorem ok_X_laws_eqConsoleResult : OkX CT 39 X_laws_eqConsoleResult := OkX.of_ex (cf := cf_laws_eqConsoleResult) (np := 2) (LL := []) (J := (fun _ _ _ _ => none)) CT_ok rfl Try.func39 rfl (Nat.le_of_ble_eq_true rfl) (by decide) cok_laws_eqConsoleResult okc_laws_eqConsoleResult (fun k => noLoops rfl) (fun args m r h => match args, h with
    | [t0, t1], h => ⟨rfl, (xe_laws_eqConsoleResult t0 t1 m).trans h⟩)
theorem ok_C_laws_eqConsoleResult : OkC CT 39 C_laws_eqConsoleResult := fcall_ok rfl ok_X_laws_eqConsoleResult

/-! ### laws.markByteS -/
noncomputable def cf_laws_markByteS : CallF := cfn
noncomputable def L_laws_markByteS (k : Nat) : Nat → Nat → List Value → Mem → Option VM
  | q + 1, 0, [t0, t1, t5], m =>
    (lenX t0) |> bo fun t8 =>
    (binX .lss .no t5 t8) |> bo fun t9 =>
    brX t9
      (
        (cvI .u8 t1) |> bo fun t15 =>
        (ixaX 1 t0 t5) |> bo fun t16 =>
        (stX m 1 t16 t15) |> bo fun m5 =>
        (binX .add .no t1 (.int .i64 1)) |> bo fun t18 =>
        (binX .add .no t5 (.int .i64 1)) |> bo fun t11 =>
        cutK k m5 [t0, t18] [t0, t18, t11] (L_laws_markByteS k q 0))
      (
        retK k m [t0, t1] t1)
  | _, _, _, _ => none
noncomputable def J_laws_markByteS (k q l : Nat) : List Value → Mem → Option VM := cond (Nat.beq l 2) (L_laws_markByteS k q 0) (fun _ _ => none)
def LL_laws_markByteS : List (Nat × List Tmp) := [(2, [0, 1, 5])]
noncomputable def X_laws_markByteS : List Value → Mem → Option VM
  | [t0, t1], m =>
    cutK m.length m [t0, t1] [t0, t1, (.int .i64 0)] (L_laws_markByteS m.length QQ 0)
  | _, _ => none
noncomputable def C_laws_markByteS : List Value → Mem → Option VM := rcall X_laws_markByteS
@[simp] theorem c_laws_markByteS : C_laws_markByteS = rcall X_laws_markByteS := (rfl)
theorem cok_laws_markByteS : codeOk CT Try.f23 (Try.f23.body.get rfl) = true := by kernel_rfl
theorem xe_laws_markByteS (t0 t1 : Value) (m : Mem) : ex CT cf_laws_markByteS Try.f23 2 m.length LL_laws_markByteS (J_laws_markByteS m.length QQ) 400 [.code (Try.f23.body.get rfl)] (argsT 0 [t0, t1]) m = X_laws_markByteS [t0, t1] m := by kernel_rfl
theorem okc_laws_markByteS : CallOK CT cf_laws_markByteS := cfn_ok
theorem le_laws_markByteS_0 (k q : Nat) (t0 t1 t5 : Value) (m : Mem) : ex CT cf_laws_markByteS Try.f23 2 k LL_laws_markByteS (J_laws_markByteS k q) 400 (atLoop Try.f23 0) [(0, t0), (1, t1), (5, t5)] m = J_laws_markByteS k (q + 1) 2 [t0, t1, t5] m := by kernel_rfl
theorem gl_laws_markByteS (k : Nat) : ∀ q i, i < 1 → GoodL CT k Try.f23 LL_laws_markByteS (J_laws_markByteS k q) (atLoop Try.f23 i)
  | 0, 0, _ => goodL_zero (l := 2) (by kernel_rfl) (fun vs m => by kernel_rfl)
  | 0, _ + 1, h => absurd h (by omega)
  | q + 1, 0, _ => goodL_succ (np := 2) (l := 2) (live := [0, 1, 5]) (n := 1) CT_ok rfl okc_laws_markByteS (c := (Try.f23.body.get rfl)) rfl cok_laws_markByteS (by kernel_rfl) (gl_laws_markByteS k q) (by kernel_rfl) rfl (fun vs m r hl h => match vs, hl with
    | [t0, t1, t5], _ => (le_laws_markByteS_0 k q t0 t1 t5 m).trans h)
  | _ + 1, _ + 1, h => absurd h (by omega)
theorem ok_X_laws_markByteS : OkX CT 23 X_laws_markByteS := OkX.of_ex (cf := cf_laws_markByteS) (np := 2) (LL := LL_laws_markByteS) (J := (fun k => J_laws_markByteS k QQ)) CT_ok rfl Try.func23 rfl (Nat.le_of_ble_eq_true rfl) (by decide) cok_laws_markByteS okc_laws_markByteS (fun k => allLoops rfl (by kernel_rfl) (gl_laws_markByteS k QQ)) (fun args m r h => match args, h with
    | [t0, t1], h => ⟨rfl, (xe_laws_markByteS t0 t1 m).trans h⟩)
theorem ok_C_laws_markByteS : OkC CT 23 C_laws_markByteS := rcall_ok rfl ok_X_laws_markByteS

/-! ### laws.markByteSS -/
noncomputable def cf_laws_markByteSS : CallF := cfc 23 C_laws_markByteS cfn
noncomputable def L_laws_markByteSS (k : Nat) : Nat → Nat → List Value → Mem → Option VM
  | q + 1, 0, [t0, t1, t5], m =>
    (lenX t0) |> bo fun t8 =>
    (binX .lss .no t5 t8) |> bo fun t9 =>
    brX t9
      (
        (ixaX 1 t0 t5) |> bo fun t14 =>
        (ld1 m t14) |> bo fun t15 =>
        (C_laws_markByteS [t15, t1] m) |> bo fun r5 =>
        (binX .add .no t5 (.int .i64 1)) |> bo fun t11 =>
        cutK k r5.2 [t0, r5.1] [t0, r5.1, t11] (L_laws_markByteSS k q 0))
      (
        retK k m [t0, t1] t1)
  | _, _, _, _ => none
noncomputable def J_laws_markByteSS (k q l : Nat) : List Value → Mem → Option VM := cond (Nat.beq l 2) (L_laws_markByteSS k q 0) (fun _ _ => none)
def LL_laws_markByteSS : List (Nat × List Tmp) := [(2, [0, 1, 5])]
noncomputable def X_laws_markByteSS : List Value → Mem → Option VM
  | [t0, t1], m =>
    cutK m.length m [t0, t1] [t0, t1, (.int .i64 0)] (L_laws_markByteSS m.length QQ 0)
  | _, _ => none
noncomputable def C_laws_markByteSS : List Value → Mem → Option VM := rcall X_laws_markByteSS
@[simp] theorem c_laws_markByteSS : C_laws_markByteSS = rcall X_laws_markByteSS := (rfl)
theorem cok_laws_markByteSS : codeOk CT Try.f57 (Try.f57.body.get rfl) = true := by kernel_rfl
theorem xe_laws_markByteSS (t0 t1 : Value) (m : Mem) : ex CT cf_laws_markByteSS Try.f57 2 m.length LL_laws_markByteSS (J_laws_markByteSS m.length QQ) 400 [.code (Try.f57.body.get rfl)] (argsT 0 [t0, t1]) m = X_laws_markByteSS [t0, t1] m := by kernel_rfl
theorem okc_laws_markByteSS : CallOK CT cf_laws_markByteSS := cfc_ok ok_C_laws_markByteS cfn_ok
theorem le_laws_markByteSS_0 (k q : Nat) (t0 t1 t5 : Value) (m : Mem) : ex CT cf_laws_markByteSS Try.f57 2 k LL_laws_markByteSS (J_laws_markByteSS k q) 400 (atLoop Try.f57 0) [(0, t0), (1, t1), (5, t5)] m = J_laws_markByteSS k (q + 1) 2 [t0, t1, t5] m := by kernel_rfl
theorem gl_laws_markByteSS (k : Nat) : ∀ q i, i < 1 → GoodL CT k Try.f57 LL_laws_markByteSS (J_laws_markByteSS k q) (atLoop Try.f57 i)
  | 0, 0, _ => goodL_zero (l := 2) (by kernel_rfl) (fun vs m => by kernel_rfl)
  | 0, _ + 1, h => absurd h (by omega)
  | q + 1, 0, _ => goodL_succ (np := 2) (l := 2) (live := [0, 1, 5]) (n := 1) CT_ok rfl okc_laws_markByteSS (c := (Try.f57.body.get rfl)) rfl cok_laws_markByteSS (by kernel_rfl) (gl_laws_markByteSS k q) (by kernel_rfl) rfl (fun vs m r hl h => match vs, hl with
    | [t0, t1, t5], _ => (le_laws_markByteSS_0 k q t0 t1 t5 m).trans h)
  | _ + 1, _ + 1, h => absurd h (by omega)
theorem ok_X_laws_markByteSS : OkX CT 57 X_laws_markByteSS := OkX.of_ex (cf := cf_laws_markByteSS) (np := 2) (LL := LL_laws_markByteSS) (J := (fun k => J_laws_markByteSS k QQ)) CT_ok rfl Try.func57 rfl (Nat.le_of_ble_eq_true rfl) (by decide) cok_laws_markByteSS okc_laws_markByteSS (fun k => allLoops rfl (by kernel_rfl) (gl_laws_markByteSS k QQ)) (fun args m r h => match args, h with
    | [t0, t1], h => ⟨rfl, (xe_laws_markByteSS t0 t1 m).trans h⟩)
theorem ok_C_laws_markByteSS : OkC CT 57 C_laws_markByteSS := rcall_ok rfl ok_X_laws_markByteSS

/-! ### laws.markLine -/
noncomputable def cf_laws_markLine : CallF := cfc 23 C_laws_markByteS (cfc 57 C_laws_markByteSS cfn)
noncomputable def X_laws_markLine : List Value → Mem → Option VM
  | [t0, t1], m =>
    (boxX m t0) |> bo fun r1 =>
    (fadX 0 r1.1) |> bo fun t5 =>
    (ld1 r1.2 t5) |> bo fun t6 =>
    (C_laws_markByteSS [t6, t1] r1.2) |> bo fun r4 =>
    (fadX 1 r1.1) |> bo fun t9 =>
    (ld1 r4.2 t9) |> bo fun t10 =>
    (C_laws_markByteS [t10, r4.1] r4.2) |> bo fun r7 =>
    retK m.length r7.2 [t0, r7.1] r7.1
  | _, _ => none
noncomputable def C_laws_markLine : List Value → Mem → Option VM := rcall X_laws_markLine
@[simp] theorem c_laws_markLine : C_laws_markLine = rcall X_laws_markLine := (rfl)
theorem cok_laws_markLine : codeOk CT Try.f16 (Try.f16.body.get rfl) = true := by kernel_rfl
theorem xe_laws_markLine (t0 t1 : Value) (m : Mem) : ex CT cf_laws_markLine Try.f16 2 m.length [] (fun _ _ _ => none) 400 [.code (Try.f16.body.get rfl)] (argsT 0 [t0, t1]) m = X_laws_markLine [t0, t1] m := by kernel_rfl
theorem okc_laws_markLine : CallOK CT cf_laws_markLine := cfc_ok ok_C_laws_markByteS (cfc_ok ok_C_laws_markByteSS cfn_ok)
theorem ok_X_laws_markLine : OkX CT 16 X_laws_markLine := OkX.of_ex (cf := cf_laws_markLine) (np := 2) (LL := []) (J := (fun _ _ _ _ => none)) CT_ok rfl Try.func16 rfl (Nat.le_of_ble_eq_true rfl) (by decide) cok_laws_markLine okc_laws_markLine (fun k => noLoops rfl) (fun args m r h => match args, h with
    | [t0, t1], h => ⟨rfl, (xe_laws_markLine t0 t1 m).trans h⟩)
theorem ok_C_laws_markLine : OkC CT 16 C_laws_markLine := rcall_ok rfl ok_X_laws_markLine

/-! ### laws.markInt64S -/
noncomputable def cf_laws_markInt64S : CallF := cfn
noncomputable def L_laws_markInt64S (k : Nat) : Nat → Nat → List Value → Mem → Option VM
  | q + 1, 0, [t0, t1, t5], m =>
    (lenX t0) |> bo fun t8 =>
    (binX .lss .no t5 t8) |> bo fun t9 =>
    brX t9
      (
        (ixaX 1 t0 t5) |> bo fun t15 =>
        (stX m 1 t15 t1) |> bo fun m4 =>
        (binX .add .no t1 (.int .i64 1)) |> bo fun t17 =>
        (binX .add .no t5 (.int .i64 1)) |> bo fun t11 =>
        cutK k m4 [t0, t17] [t0, t17, t11] (L_laws_markInt64S k q 0))
      (
        retK k m [t0, t1] t1)
  | _, _, _, _ => none
noncomputable def J_laws_markInt64S (k q l : Nat) : List Value → Mem → Option VM := cond (Nat.beq l 2) (L_laws_markInt64S k q 0) (fun _ _ => none)
def LL_laws_markInt64S : List (Nat × List Tmp) := [(2, [0, 1, 5])]
noncomputable def X_laws_markInt64S : List Value → Mem → Option VM
  | [t0, t1], m =>
    cutK m.length m [t0, t1] [t0, t1, (.int .i64 0)] (L_laws_markInt64S m.length QQ 0)
  | _, _ => none
noncomputable def C_laws_markInt64S : List Value → Mem → Option VM := rcall X_laws_markInt64S
@[simp] theorem c_laws_markInt64S : C_laws_markInt64S = rcall X_laws_markInt64S := (rfl)
theorem cok_laws_markInt64S : codeOk CT Try.f207 (Try.f207.body.get rfl) = true := by kernel_rfl
theorem xe_laws_markInt64S (t0 t1 : Value) (m : Mem) : ex CT cf_laws_markInt64S Try.f207 2 m.length LL_laws_markInt64S (J_laws_markInt64S m.length QQ) 400 [.code (Try.f207.body.get rfl)] (argsT 0 [t0, t1]) m = X_laws_markInt64S [t0, t1] m := by kernel_rfl
theorem okc_laws_markInt64S : CallOK CT cf_laws_markInt64S := cfn_ok
theorem le_laws_markInt64S_0 (k q : Nat) (t0 t1 t5 : Value) (m : Mem) : ex CT cf_laws_markInt64S Try.f207 2 k LL_laws_markInt64S (J_laws_markInt64S k q) 400 (atLoop Try.f207 0) [(0, t0), (1, t1), (5, t5)] m = J_laws_markInt64S k (q + 1) 2 [t0, t1, t5] m := by kernel_rfl
theorem gl_laws_markInt64S (k : Nat) : ∀ q i, i < 1 → GoodL CT k Try.f207 LL_laws_markInt64S (J_laws_markInt64S k q) (atLoop Try.f207 i)
  | 0, 0, _ => goodL_zero (l := 2) (by kernel_rfl) (fun vs m => by kernel_rfl)
  | 0, _ + 1, h => absurd h (by omega)
  | q + 1, 0, _ => goodL_succ (np := 2) (l := 2) (live := [0, 1, 5]) (n := 1) CT_ok rfl okc_laws_markInt64S (c := (Try.f207.body.get rfl)) rfl cok_laws_markInt64S (by kernel_rfl) (gl_laws_markInt64S k q) (by kernel_rfl) rfl (fun vs m r hl h => match vs, hl with
    | [t0, t1, t5], _ => (le_laws_markInt64S_0 k q t0 t1 t5 m).trans h)
  | _ + 1, _ + 1, h => absurd h (by omega)
theorem ok_X_laws_markInt64S : OkX CT 207 X_laws_markInt64S := OkX.of_ex (cf := cf_laws_markInt64S) (np := 2) (LL := LL_laws_markInt64S) (J := (fun k => J_laws_markInt64S k QQ)) CT_ok rfl Try.func207 rfl (Nat.le_of_ble_eq_true rfl) (by decide) cok_laws_markInt64S okc_laws_markInt64S (fun k => allLoops rfl (by kernel_rfl) (gl_laws_markInt64S k QQ)) (fun args m r h => match args, h with
    | [t0, t1], h => ⟨rfl, (xe_laws_markInt64S t0 t1 m).trans h⟩)
theorem ok_C_laws_markInt64S : OkC CT 207 C_laws_markInt64S := rcall_ok rfl ok_X_laws_markInt64S

/-! ### laws.markParser -/
noncomputable def cf_laws_markParser : CallF := cfc 207 C_laws_markInt64S cfn
noncomputable def X_laws_markParser : List Value → Mem → Option VM
  | [t0, t1], m =>
    (boxX m t0) |> bo fun r1 =>
    (fadX 3 r1.1) |> bo fun t5 =>
    (ld1 r1.2 t5) |> bo fun t6 =>
    (C_laws_markInt64S [t6, t1] r1.2) |> bo fun r4 =>
    retK m.length r4.2 [t0, r4.1] r4.1
  | _, _ => none
noncomputable def C_laws_markParser : List Value → Mem → Option VM := rcall X_laws_markParser
@[simp] theorem c_laws_markParser : C_laws_markParser = rcall X_laws_markParser := (rfl)
theorem cok_laws_markParser : codeOk CT Try.f175 (Try.f175.body.get rfl) = true := by kernel_rfl
theorem xe_laws_markParser (t0 t1 : Value) (m : Mem) : ex CT cf_laws_markParser Try.f175 2 m.length [] (fun _ _ _ => none) 400 [.code (Try.f175.body.get rfl)] (argsT 0 [t0, t1]) m = X_laws_markParser [t0, t1] m := by kernel_rfl
theorem okc_laws_markParser : CallOK CT cf_laws_markParser := cfc_ok ok_C_laws_markInt64S cfn_ok
theorem ok_X_laws_markParser : OkX CT 175 X_laws_markParser := OkX.of_ex (cf := cf_laws_markParser) (np := 2) (LL := []) (J := (fun _ _ _ _ => none)) CT_ok rfl Try.func175 rfl (Nat.le_of_ble_eq_true rfl) (by decide) cok_laws_markParser okc_laws_markParser (fun k => noLoops rfl) (fun args m r h => match args, h with
    | [t0, t1], h => ⟨rfl, (xe_laws_markParser t0 t1 m).trans h⟩)
theorem ok_C_laws_markParser : OkC CT 175 C_laws_markParser := rcall_ok rfl ok_X_laws_markParser

/-! ### laws.markCellS -/
noncomputable def cf_laws_markCellS : CallF := cfn
noncomputable def L_laws_markCellS (k : Nat) : Nat → Nat → List Value → Mem → Option VM
  | q + 1, 0, [t0, t1, t5], m =>
    (lenX t0) |> bo fun t8 =>
    (binX .lss .no t5 t8) |> bo fun t9 =>
    brX t9
      (
        (ixaX 2 t0 t5) |> bo fun t15 =>
        (fadX 0 t15) |> bo fun t16 =>
        (stX m 1 t16 t1) |> bo fun m5 =>
        (binX .add .no t1 (.int .i64 1)) |> bo fun t18 =>
        (ixaX 2 t0 t5) |> bo fun t22 =>
        (fadX 1 t22) |> bo fun t23 =>
        (stX m5 1 t23 t18) |> bo fun m9 =>
        (binX .add .no t18 (.int .i64 1)) |> bo fun t25 =>
        (binX .add .no t5 (.int .i64 1)) |> bo fun t11 =>
        cutK k m9 [t0, t25] [t0, t25, t11] (L_laws_markCellS k q 0))
      (
        retK k m [t0, t1] t1)
  | _, _, _, _ => none
noncomputable def J_laws_markCellS (k q l : Nat) : List Value → Mem → Option VM := cond (Nat.beq l 2) (L_laws_markCellS k q 0) (fun _ _ => none)
def LL_laws_markCellS : List (Nat × List Tmp) := [(2, [0, 1, 5])]
noncomputable def X_laws_markCellS : List Value → Mem → Option VM
  | [t0, t1], m =>
    cutK m.length m [t0, t1] [t0, t1, (.int .i64 0)] (L_laws_markCellS m.length QQ 0)
  | _, _ => none
noncomputable def C_laws_markCellS : List Value → Mem → Option VM := rcall X_laws_markCellS
@[simp] theorem c_laws_markCellS : C_laws_markCellS = rcall X_laws_markCellS := (rfl)
theorem cok_laws_markCellS : codeOk CT Try.f221 (Try.f221.body.get rfl) = true := by kernel_rfl
theorem xe_laws_markCellS (t0 t1 : Value) (m : Mem) : ex CT cf_laws_markCellS Try.f221 2 m.length LL_laws_markCellS (J_laws_markCellS m.length QQ) 400 [.code (Try.f221.body.get rfl)] (argsT 0 [t0, t1]) m = X_laws_markCellS [t0, t1] m := by kernel_rfl
theorem okc_laws_markCellS : CallOK CT cf_laws_markCellS := cfn_ok
theorem le_laws_markCellS_0 (k q : Nat) (t0 t1 t5 : Value) (m : Mem) : ex CT cf_laws_markCellS Try.f221 2 k LL_laws_markCellS (J_laws_markCellS k q) 400 (atLoop Try.f221 0) [(0, t0), (1, t1), (5, t5)] m = J_laws_markCellS k (q + 1) 2 [t0, t1, t5] m := by kernel_rfl
theorem gl_laws_markCellS (k : Nat) : ∀ q i, i < 1 → GoodL CT k Try.f221 LL_laws_markCellS (J_laws_markCellS k q) (atLoop Try.f221 i)
  | 0, 0, _ => goodL_zero (l := 2) (by kernel_rfl) (fun vs m => by kernel_rfl)
  | 0, _ + 1, h => absurd h (by omega)
  | q + 1, 0, _ => goodL_succ (np := 2) (l := 2) (live := [0, 1, 5]) (n := 1) CT_ok rfl okc_laws_markCellS (c := (Try.f221.body.get rfl)) rfl cok_laws_markCellS (by kernel_rfl) (gl_laws_markCellS k q) (by kernel_rfl) rfl (fun vs m r hl h => match vs, hl with
    | [t0, t1, t5], _ => (le_laws_markCellS_0 k q t0 t1 t5 m).trans h)
  | _ + 1, _ + 1, h => absurd h (by omega)
theorem ok_X_laws_markCellS : OkX CT 221 X_laws_markCellS := OkX.of_ex (cf := cf_laws_markCellS) (np := 2) (LL := LL_laws_markCellS) (J := (fun k => J_laws_markCellS k QQ)) CT_ok rfl Try.func221 rfl (Nat.le_of_ble_eq_true rfl) (by decide) cok_laws_markCellS okc_laws_markCellS (fun k => allLoops rfl (by kernel_rfl) (gl_laws_markCellS k QQ)) (fun args m r h => match args, h with
    | [t0, t1], h => ⟨rfl, (xe_laws_markCellS t0 t1 m).trans h⟩)
theorem ok_C_laws_markCellS : OkC CT 221 C_laws_markCellS := rcall_ok rfl ok_X_laws_markCellS

/-! ### laws.markGrid -/
noncomputable def cf_laws_markGrid : CallF := cfc 221 C_laws_markCellS cfn
noncomputable def X_laws_markGrid : List Value → Mem → Option VM
  | [t0, t1], m =>
    (boxX m t0) |> bo fun r1 =>
    (fadX 2 r1.1) |> bo fun t5 =>
    (ld1 r1.2 t5) |> bo fun t6 =>
    (C_laws_markCellS [t6, t1] r1.2) |> bo fun r4 =>
    (fadX 3 r1.1) |> bo fun t9 =>
    (ld1 r4.2 t9) |> bo fun t10 =>
    (C_laws_markCellS [t10, r4.1] r4.2) |> bo fun r7 =>
    retK m.length r7.2 [t0, r7.1] r7.1
  | _, _ => none
noncomputable def C_laws_markGrid : List Value → Mem → Option VM := rcall X_laws_markGrid
@[simp] theorem c_laws_markGrid : C_laws_markGrid = rcall X_laws_markGrid := (rfl)
theorem cok_laws_markGrid : codeOk CT Try.f208 (Try.f208.body.get rfl) = true := by kernel_rfl
theorem xe_laws_markGrid (t0 t1 : Value) (m : Mem) : ex CT cf_laws_markGrid Try.f208 2 m.length [] (fun _ _ _ => none) 400 [.code (Try.f208.body.get rfl)] (argsT 0 [t0, t1]) m = X_laws_markGrid [t0, t1] m := by kernel_rfl
theorem okc_laws_markGrid : CallOK CT cf_laws_markGrid := cfc_ok ok_C_laws_markCellS cfn_ok
theorem ok_X_laws_markGrid : OkX CT 208 X_laws_markGrid := OkX.of_ex (cf := cf_laws_markGrid) (np := 2) (LL := []) (J := (fun _ _ _ _ => none)) CT_ok rfl Try.func208 rfl (Nat.le_of_ble_eq_true rfl) (by decide) cok_laws_markGrid okc_laws_markGrid (fun k => noLoops rfl) (fun args m r h => match args, h with
    | [t0, t1], h => ⟨rfl, (xe_laws_markGrid t0 t1 m).trans h⟩)
theorem ok_C_laws_markGrid : OkC CT 208 C_laws_markGrid := rcall_ok rfl ok_X_laws_markGrid

/-! ### laws.markBoolS -/
noncomputable def cf_laws_markBoolS : CallF := cfn
noncomputable def L_laws_markBoolS (k : Nat) : Nat → Nat → List Value → Mem → Option VM
  | q + 1, 0, [t0, t1, t5], m =>
    (lenX t0) |> bo fun t8 =>
    (binX .lss .no t5 t8) |> bo fun t9 =>
    brX t9
      (
        (binX .rem .no t1 (.int .i64 3)) |> bo fun t15 =>
        (binX .eql .no t15 (.int .i64 0)) |> bo fun t16 =>
        (ixaX 1 t0 t5) |> bo fun t17 =>
        (stX m 1 t17 t16) |> bo fun m6 =>
        (binX .add .no t1 (.int .i64 1)) |> bo fun t19 =>
        (binX .add .no t5 (.int .i64 1)) |> bo fun t11 =>
        cutK k m6 [t0, t19] [t0, t19, t11] (L_laws_markBoolS k q 0))
      (
        retK k m [t0, t1] t1)
  | _, _, _, _ => none
noncomputable def J_laws_markBoolS (k q l : Nat) : List Value → Mem → Option VM := cond (Nat.beq l 2) (L_laws_markBoolS k q 0) (fun _ _ => none)
def LL_laws_markBoolS : List (Nat × List Tmp) := [(2, [0, 1, 5])]
noncomputable def X_laws_markBoolS : List Value → Mem → Option VM
  | [t0, t1], m =>
    cutK m.length m [t0, t1] [t0, t1, (.int .i64 0)] (L_laws_markBoolS m.length QQ 0)
  | _, _ => none
noncomputable def C_laws_markBoolS : List Value → Mem → Option VM := rcall X_laws_markBoolS
@[simp] theorem c_laws_markBoolS : C_laws_markBoolS = rcall X_laws_markBoolS := (rfl)
theorem cok_laws_markBoolS : codeOk CT Try.f209 (Try.f209.body.get rfl) = true := by kernel_rfl
theorem xe_laws_markBoolS (t0 t1 : Value) (m : Mem) : ex CT cf_laws_markBoolS Try.f209 2 m.length LL_laws_markBoolS (J_laws_markBoolS m.length QQ) 400 [.code (Try.f209.body.get rfl)] (argsT 0 [t0, t1]) m = X_laws_markBoolS [t0, t1] m := by kernel_rfl
theorem okc_laws_markBoolS : CallOK CT cf_laws_markBoolS := cfn_ok
theorem le_laws_markBoolS_0 (k q : Nat) (t0 t1 t5 : Value) (m : Mem) : ex CT cf_laws_markBoolS Try.f209 2 k LL_laws_markBoolS (J_laws_markBoolS k q) 400 (atLoop Try.f209 0) [(0, t0), (1, t1), (5, t5)] m = J_laws_markBoolS k (q + 1) 2 [t0, t1, t5] m := by kernel_rfl
theorem gl_laws_markBoolS (k : Nat) : ∀ q i, i < 1 → GoodL CT k Try.f209 LL_laws_markBoolS (J_laws_markBoolS k q) (atLoop Try.f209 i)
  | 0, 0, _ => goodL_zero (l := 2) (by kernel_rfl) (fun vs m => by kernel_rfl)
  | 0, _ + 1, h => absurd h (by omega)
  | q + 1, 0, _ => goodL_succ (np := 2) (l := 2) (live := [0, 1, 5]) (n := 1) CT_ok rfl okc_laws_markBoolS (c := (Try.f209.body.get rfl)) rfl cok_laws_markBoolS (by kernel_rfl) (gl_laws_markBoolS k q) (by kernel_rfl) rfl (fun vs m r hl h => match vs, hl with
    | [t0, t1, t5], _ => (le_laws_markBoolS_0 k q t0 t1 t5 m).trans h)
  | _ + 1, _ + 1, h => absurd h (by omega)
theorem ok_X_laws_markBoolS : OkX CT 209 X_laws_markBoolS := OkX.of_ex (cf := cf_laws_markBoolS) (np := 2) (LL := LL_laws_markBoolS) (J := (fun k => J_laws_markBoolS k QQ)) CT_ok rfl Try.func209 rfl (Nat.le_of_ble_eq_true rfl) (by decide) cok_laws_markBoolS okc_laws_markBoolS (fun k => allLoops rfl (by kernel_rfl) (gl_laws_markBoolS k QQ)) (fun args m r h => match args, h with
    | [t0, t1], h => ⟨rfl, (xe_laws_markBoolS t0 t1 m).trans h⟩)
theorem ok_C_laws_markBoolS : OkC CT 209 C_laws_markBoolS := rcall_ok rfl ok_X_laws_markBoolS

/-! ### laws.markScreen -/
noncomputable def cf_laws_markScreen : CallF := cfc 207 C_laws_markInt64S (cfc 208 C_laws_markGrid (cfc 209 C_laws_markBoolS cfn))
noncomputable def X_laws_markScreen : List Value → Mem → Option VM
  | [t0, t1], m =>
    (boxX m t0) |> bo fun r1 =>
    (fadX 0 r1.1) |> bo fun t5 =>
    (ldS r1.2 4 t5) |> bo fun t6 =>
    (C_laws_markGrid [t6, t1] r1.2) |> bo fun r4 =>
    (fadX 13 r1.1) |> bo fun t9 =>
    (ld1 r4.2 t9) |> bo fun t10 =>
    (C_laws_markBoolS [t10, r4.1] r4.2) |> bo fun r7 =>
    (fadX 17 r1.1) |> bo fun t13 =>
    (ld1 r7.2 t13) |> bo fun t14 =>
    (C_laws_markInt64S [t14, r7.1] r7.2) |> bo fun r10 =>
    retK m.length r10.2 [t0, r10.1] r10.1
  | _, _ => none
noncomputable def C_laws_markScreen : List Value → Mem → Option VM := rcall X_laws_markScreen
@[simp] theorem c_laws_markScreen : C_laws_markScreen = rcall X_laws_markScreen := (rfl)
theorem cok_laws_markScreen : codeOk CT Try.f176 (Try.f176.body.get rfl) = true := by kernel_rfl
theorem xe_laws_markScreen (t0 t1 : Value) (m : Mem) : ex CT cf_laws_markScreen Try.f176 2 m.length [] (fun _ _ _ => none) 400 [.code (Try.f176.body.get rfl)] (argsT 0 [t0, t1]) m = X_laws_markScreen [t0, t1] m := by kernel_rfl
theorem okc_laws_markScreen : CallOK CT cf_laws_markScreen := cfc_ok ok_C_laws_markInt64S (cfc_ok ok_C_laws_markGrid (cfc_ok ok_C_laws_markBoolS cfn_ok))
theorem ok_X_laws_markScreen : OkX CT 176 X_laws_markScreen := OkX.of_ex (cf := cf_laws_markScreen) (np := 2) (LL := []) (J := (fun _ _ _ _ => none)) CT_ok rfl Try.func176 rfl (Nat.le_of_ble_eq_true rfl) (by decide) cok_laws_markScreen okc_laws_markScreen (fun k => noLoops rfl) (fun args m r h => match args, h with
    | [t0, t1], h => ⟨rfl, (xe_laws_markScreen t0 t1 m).trans h⟩)
theorem ok_C_laws_markScreen : OkC CT 176 C_laws_markScreen := rcall_ok rfl ok_X_laws_markScreen

/-! ### laws.markVt -/
noncomputable def cf_laws_markVt : CallF := cfc 175 C_laws_markParser (cfc 176 C_laws_markScreen cfn)
noncomputable def X_laws_markVt : List Value → Mem → Option VM
  | [t0, t1], m =>
    (boxX m t0) |> bo fun r1 =>
    (fadX 3 r1.1) |> bo fun t5 =>
    (ldS r1.2 4 t5) |> bo fun t6 =>
    (C_laws_markParser [t6, t1] r1.2) |> bo fun r4 =>
    (fadX 7 r1.1) |> bo fun t9 =>
    (ldS r4.2 20 t9) |> bo fun t10 =>
    (C_laws_markScreen [t10, r4.1] r4.2) |> bo fun r7 =>
    retK m.length r7.2 [t0, r7.1] r7.1
  | _, _ => none
noncomputable def C_laws_markVt : List Value → Mem → Option VM := rcall X_laws_markVt
@[simp] theorem c_laws_markVt : C_laws_markVt = rcall X_laws_markVt := (rfl)
theorem cok_laws_markVt : codeOk CT Try.f132 (Try.f132.body.get rfl) = true := by kernel_rfl
theorem xe_laws_markVt (t0 t1 : Value) (m : Mem) : ex CT cf_laws_markVt Try.f132 2 m.length [] (fun _ _ _ => none) 400 [.code (Try.f132.body.get rfl)] (argsT 0 [t0, t1]) m = X_laws_markVt [t0, t1] m := by kernel_rfl
theorem okc_laws_markVt : CallOK CT cf_laws_markVt := cfc_ok ok_C_laws_markParser (cfc_ok ok_C_laws_markScreen cfn_ok)
theorem ok_X_laws_markVt : OkX CT 132 X_laws_markVt := OkX.of_ex (cf := cf_laws_markVt) (np := 2) (LL := []) (J := (fun _ _ _ _ => none)) CT_ok rfl Try.func132 rfl (Nat.le_of_ble_eq_true rfl) (by decide) cok_laws_markVt okc_laws_markVt (fun k => noLoops rfl) (fun args m r h => match args, h with
    | [t0, t1], h => ⟨rfl, (xe_laws_markVt t0 t1 m).trans h⟩)
theorem ok_C_laws_markVt : OkC CT 132 C_laws_markVt := rcall_ok rfl ok_X_laws_markVt

/-! ### laws.markConsole -/
noncomputable def cf_laws_markConsole : CallF := cfc 16 C_laws_markLine (cfc 132 C_laws_markVt cfn)
noncomputable def X_laws_markConsole : List Value → Mem → Option VM
  | [t0, t1], m =>
    (boxX m t0) |> bo fun r1 =>
    (fadX 0 r1.1) |> bo fun t5 =>
    (ldS r1.2 27 t5) |> bo fun t6 =>
    (C_laws_markVt [t6, t1] r1.2) |> bo fun r4 =>
    (fadX 34 r1.1) |> bo fun t9 =>
    (ldS r4.2 4 t9) |> bo fun t10 =>
    (C_laws_markLine [t10, r4.1] r4.2) |> bo fun r7 =>
    retK m.length r7.2 [t0, r7.1] r7.1
  | _, _ => none
noncomputable def C_laws_markConsole : List Value → Mem → Option VM := rcall X_laws_markConsole
@[simp] theorem c_laws_markConsole : C_laws_markConsole = rcall X_laws_markConsole := (rfl)
theorem cok_laws_markConsole : codeOk CT Try.f87 (Try.f87.body.get rfl) = true := by kernel_rfl
theorem xe_laws_markConsole (t0 t1 : Value) (m : Mem) : ex CT cf_laws_markConsole Try.f87 2 m.length [] (fun _ _ _ => none) 400 [.code (Try.f87.body.get rfl)] (argsT 0 [t0, t1]) m = X_laws_markConsole [t0, t1] m := by kernel_rfl
theorem okc_laws_markConsole : CallOK CT cf_laws_markConsole := cfc_ok ok_C_laws_markLine (cfc_ok ok_C_laws_markVt cfn_ok)
theorem ok_X_laws_markConsole : OkX CT 87 X_laws_markConsole := OkX.of_ex (cf := cf_laws_markConsole) (np := 2) (LL := []) (J := (fun _ _ _ _ => none)) CT_ok rfl Try.func87 rfl (Nat.le_of_ble_eq_true rfl) (by decide) cok_laws_markConsole okc_laws_markConsole (fun k => noLoops rfl) (fun args m r h => match args, h with
    | [t0, t1], h => ⟨rfl, (xe_laws_markConsole t0 t1 m).trans h⟩)
theorem ok_C_laws_markConsole : OkC CT 87 C_laws_markConsole := rcall_ok rfl ok_X_laws_markConsole

/-! ### laws.markConsoleResult -/
noncomputable def cf_laws_markConsoleResult : CallF := cfc 23 C_laws_markByteS (cfc 87 C_laws_markConsole cfn)
noncomputable def X_laws_markConsoleResult : List Value → Mem → Option VM
  | [t0, t1], m =>
    (boxX m t0) |> bo fun r1 =>
    (fadX 2 r1.1) |> bo fun t5 =>
    (ld1 r1.2 t5) |> bo fun t6 =>
    (C_laws_markByteS [t6, t1] r1.2) |> bo fun r4 =>
    (fadX 3 r1.1) |> bo fun t9 =>
    (ldS r4.2 38 t9) |> bo fun t10 =>
    (C_laws_markConsole [t10, r4.1] r4.2) |> bo fun r7 =>
    retK m.length r7.2 [t0, r7.1] r7.1
  | _, _ => none
noncomputable def C_laws_markConsoleResult : List Value → Mem → Option VM := rcall X_laws_markConsoleResult
@[simp] theorem c_laws_markConsoleResult : C_laws_markConsoleResult = rcall X_laws_markConsoleResult := (rfl)
theorem cok_laws_markConsoleResult : codeOk CT Try.f40 (Try.f40.body.get rfl) = true := by kernel_rfl
theorem xe_laws_markConsoleResult (t0 t1 : Value) (m : Mem) : ex CT cf_laws_markConsoleResult Try.f40 2 m.length [] (fun _ _ _ => none) 400 [.code (Try.f40.body.get rfl)] (argsT 0 [t0, t1]) m = X_laws_markConsoleResult [t0, t1] m := by kernel_rfl
theorem okc_laws_markConsoleResult : CallOK CT cf_laws_markConsoleResult := cfc_ok ok_C_laws_markByteS (cfc_ok ok_C_laws_markConsole cfn_ok)
theorem ok_X_laws_markConsoleResult : OkX CT 40 X_laws_markConsoleResult := OkX.of_ex (cf := cf_laws_markConsoleResult) (np := 2) (LL := []) (J := (fun _ _ _ _ => none)) CT_ok rfl Try.func40 rfl (Nat.le_of_ble_eq_true rfl) (by decide) cok_laws_markConsoleResult okc_laws_markConsoleResult (fun k => noLoops rfl) (fun args m r h => match args, h with
    | [t0, t1], h => ⟨rfl, (xe_laws_markConsoleResult t0 t1 m).trans h⟩)
theorem ok_C_laws_markConsoleResult : OkC CT 40 C_laws_markConsoleResult := rcall_ok rfl ok_X_laws_markConsoleResult

/-! ### laws.heldByteS -/
noncomputable def cf_laws_heldByteS : CallF := cfn
noncomputable def L_laws_heldByteS (k : Nat) : Nat → Nat → List Value → Mem → Option VM
  | q + 1, 0, [t0, t1, t5], m =>
    (lenX t0) |> bo fun t8 =>
    (binX .lss .no t5 t8) |> bo fun t9 =>
    brX t9
      (
        (ixaX 1 t0 t5) |> bo fun t14 =>
        (ld1 m t14) |> bo fun t15 =>
        (cvI .u8 t1) |> bo fun t17 =>
        (binX .neq .no t15 t17) |> bo fun t18 =>
        brX t18
          (
            retK k m [t0, t1] (.int .i64 (-1)))
          (
            (binX .add .no t1 (.int .i64 1)) |> bo fun t20 =>
            (binX .add .no t5 (.int .i64 1)) |> bo fun t11 =>
            cutK k m [t0, t20] [t0, t20, t11] (L_laws_heldByteS k q 0)))
      (
        retK k m [t0, t1] t1)
  | _, _, _, _ => none
noncomputable def J_laws_heldByteS (k q l : Nat) : List Value → Mem → Option VM := cond (Nat.beq l 2) (L_laws_heldByteS k q 0) (fun _ _ => none)
def LL_laws_heldByteS : List (Nat × List Tmp) := [(2, [0, 1, 5])]
noncomputable def X_laws_heldByteS : List Value → Mem → Option VM
  | [t0, t1], m =>
    cutK m.length m [t0, t1] [t0, t1, (.int .i64 0)] (L_laws_heldByteS m.length QQ 0)
  | _, _ => none
noncomputable def C_laws_heldByteS : List Value → Mem → Option VM := fcall X_laws_heldByteS
@[simp] theorem c_laws_heldByteS : C_laws_heldByteS = fcall X_laws_heldByteS := (rfl)
theorem cok_laws_heldByteS : codeOk CT Try.f58 (Try.f58.body.get rfl) = true := by kernel_rfl
theorem xe_laws_heldByteS (t0 t1 : Value) (m : Mem) : ex CT cf_laws_heldByteS Try.f58 2 m.length LL_laws_heldByteS (J_laws_heldByteS m.length QQ) 400 [.code (Try.f58.body.get rfl)] (argsT 0 [t0, t1]) m = X_laws_heldByteS [t0, t1] m := by kernel_rfl
theorem okc_laws_heldByteS : CallOK CT cf_laws_heldByteS := cfn_ok
theorem le_laws_heldByteS_0 (k q : Nat) (t0 t1 t5 : Value) (m : Mem) : ex CT cf_laws_heldByteS Try.f58 2 k LL_laws_heldByteS (J_laws_heldByteS k q) 400 (atLoop Try.f58 0) [(0, t0), (1, t1), (5, t5)] m = J_laws_heldByteS k (q + 1) 2 [t0, t1, t5] m := by kernel_rfl
theorem gl_laws_heldByteS (k : Nat) : ∀ q i, i < 1 → GoodL CT k Try.f58 LL_laws_heldByteS (J_laws_heldByteS k q) (atLoop Try.f58 i)
  | 0, 0, _ => goodL_zero (l := 2) (by kernel_rfl) (fun vs m => by kernel_rfl)
  | 0, _ + 1, h => absurd h (by omega)
  | q + 1, 0, _ => goodL_succ (np := 2) (l := 2) (live := [0, 1, 5]) (n := 1) CT_ok rfl okc_laws_heldByteS (c := (Try.f58.body.get rfl)) rfl cok_laws_heldByteS (by kernel_rfl) (gl_laws_heldByteS k q) (by kernel_rfl) rfl (fun vs m r hl h => match vs, hl with
    | [t0, t1, t5], _ => (le_laws_heldByteS_0 k q t0 t1 t5 m).trans h)
  | _ + 1, _ + 1, h => absurd h (by omega)
theorem ok_X_laws_heldByteS : OkX CT 58 X_laws_heldByteS := OkX.of_ex (cf := cf_laws_heldByteS) (np := 2) (LL := LL_laws_heldByteS) (J := (fun k => J_laws_heldByteS k QQ)) CT_ok rfl Try.func58 rfl (Nat.le_of_ble_eq_true rfl) (by decide) cok_laws_heldByteS okc_laws_heldByteS (fun k => allLoops rfl (by kernel_rfl) (gl_laws_heldByteS k QQ)) (fun args m r h => match args, h with
    | [t0, t1], h => ⟨rfl, (xe_laws_heldByteS t0 t1 m).trans h⟩)
theorem ok_C_laws_heldByteS : OkC CT 58 C_laws_heldByteS := fcall_ok rfl ok_X_laws_heldByteS

/-! ### laws.heldByteSS -/
noncomputable def cf_laws_heldByteSS : CallF := cfc 58 C_laws_heldByteS cfn
noncomputable def L_laws_heldByteSS (k : Nat) : Nat → Nat → List Value → Mem → Option VM
  | q + 1, 0, [t0, t1, t5], m =>
    (lenX t0) |> bo fun t8 =>
    (binX .lss .no t5 t8) |> bo fun t9 =>
    brX t9
      (
        (ixaX 1 t0 t5) |> bo fun t14 =>
        (ld1 m t14) |> bo fun t15 =>
        (C_laws_heldByteS [t15, t1] m) |> bo fun r5 =>
        (binX .lss .no r5.1 (.int .i64 0)) |> bo fun t19 =>
        brX t19
          (
            retK k r5.2 [t0, r5.1] (.int .i64 (-1)))
          (
            (binX .add .no t5 (.int .i64 1)) |> bo fun t11 =>
            cutK k r5.2 [t0, r5.1] [t0, r5.1, t11] (L_laws_heldByteSS k q 0)))
      (
        retK k m [t0, t1] t1)
  | _, _, _, _ => none
noncomputable def J_laws_heldByteSS (k q l : Nat) : List Value → Mem → Option VM := cond (Nat.beq l 2) (L_laws_heldByteSS k q 0) (fun _ _ => none)
def LL_laws_heldByteSS : List (Nat × List Tmp) := [(2, [0, 1, 5])]
noncomputable def X_laws_heldByteSS : List Value → Mem → Option VM
  | [t0, t1], m =>
    cutK m.length m [t0, t1] [t0, t1, (.int .i64 0)] (L_laws_heldByteSS m.length QQ 0)
  | _, _ => none
noncomputable def C_laws_heldByteSS : List Value → Mem → Option VM := fcall X_laws_heldByteSS
@[simp] theorem c_laws_heldByteSS : C_laws_heldByteSS = fcall X_laws_heldByteSS := (rfl)
theorem cok_laws_heldByteSS : codeOk CT Try.f105 (Try.f105.body.get rfl) = true := by kernel_rfl
theorem xe_laws_heldByteSS (t0 t1 : Value) (m : Mem) : ex CT cf_laws_heldByteSS Try.f105 2 m.length LL_laws_heldByteSS (J_laws_heldByteSS m.length QQ) 400 [.code (Try.f105.body.get rfl)] (argsT 0 [t0, t1]) m = X_laws_heldByteSS [t0, t1] m := by kernel_rfl
theorem okc_laws_heldByteSS : CallOK CT cf_laws_heldByteSS := cfc_ok ok_C_laws_heldByteS cfn_ok
theorem le_laws_heldByteSS_0 (k q : Nat) (t0 t1 t5 : Value) (m : Mem) : ex CT cf_laws_heldByteSS Try.f105 2 k LL_laws_heldByteSS (J_laws_heldByteSS k q) 400 (atLoop Try.f105 0) [(0, t0), (1, t1), (5, t5)] m = J_laws_heldByteSS k (q + 1) 2 [t0, t1, t5] m := by kernel_rfl
theorem gl_laws_heldByteSS (k : Nat) : ∀ q i, i < 1 → GoodL CT k Try.f105 LL_laws_heldByteSS (J_laws_heldByteSS k q) (atLoop Try.f105 i)
  | 0, 0, _ => goodL_zero (l := 2) (by kernel_rfl) (fun vs m => by kernel_rfl)
  | 0, _ + 1, h => absurd h (by omega)
  | q + 1, 0, _ => goodL_succ (np := 2) (l := 2) (live := [0, 1, 5]) (n := 1) CT_ok rfl okc_laws_heldByteSS (c := (Try.f105.body.get rfl)) rfl cok_laws_heldByteSS (by kernel_rfl) (gl_laws_heldByteSS k q) (by kernel_rfl) rfl (fun vs m r hl h => match vs, hl with
    | [t0, t1, t5], _ => (le_laws_heldByteSS_0 k q t0 t1 t5 m).trans h)
  | _ + 1, _ + 1, h => absurd h (by omega)
theorem ok_X_laws_heldByteSS : OkX CT 105 X_laws_heldByteSS := OkX.of_ex (cf := cf_laws_heldByteSS) (np := 2) (LL := LL_laws_heldByteSS) (J := (fun k => J_laws_heldByteSS k QQ)) CT_ok rfl Try.func105 rfl (Nat.le_of_ble_eq_true rfl) (by decide) cok_laws_heldByteSS okc_laws_heldByteSS (fun k => allLoops rfl (by kernel_rfl) (gl_laws_heldByteSS k QQ)) (fun args m r h => match args, h with
    | [t0, t1], h => ⟨rfl, (xe_laws_heldByteSS t0 t1 m).trans h⟩)
theorem ok_C_laws_heldByteSS : OkC CT 105 C_laws_heldByteSS := fcall_ok rfl ok_X_laws_heldByteSS

/-! ### laws.heldLine -/
noncomputable def cf_laws_heldLine : CallF := cfc 58 C_laws_heldByteS (cfc 105 C_laws_heldByteSS cfn)
noncomputable def X_laws_heldLine : List Value → Mem → Option VM
  | [t0, t1], m =>
    (boxX m t0) |> bo fun r1 =>
    (fadX 0 r1.1) |> bo fun t5 =>
    (ld1 r1.2 t5) |> bo fun t6 =>
    (C_laws_heldByteSS [t6, t1] r1.2) |> bo fun r4 =>
    (binX .lss .no r4.1 (.int .i64 0)) |> bo fun t10 =>
    brX t10
      (
        retK m.length r4.2 [t0, r4.1] (.int .i64 (-1)))
      (
        (fadX 1 r1.1) |> bo fun t11 =>
        (ld1 r4.2 t11) |> bo fun t12 =>
        (C_laws_heldByteS [t12, r4.1] r4.2) |> bo fun r8 =>
        (binX .lss .no r8.1 (.int .i64 0)) |> bo fun t16 =>
        brX t16
          (
            retK m.length r8.2 [t0, r8.1] (.int .i64 (-1)))
          (
            retK m.length r8.2 [t0, r8.1] r8.1))
  | _, _ => none
noncomputable def C_laws_heldLine : List Value → Mem → Option VM := fcall X_laws_heldLine
@[simp] theorem c_laws_heldLine : C_laws_heldLine = fcall X_laws_heldLine := (rfl)
theorem cok_laws_heldLine : codeOk CT Try.f59 (Try.f59.body.get rfl) = true := by kernel_rfl
theorem xe_laws_heldLine (t0 t1 : Value) (m : Mem) : ex CT cf_laws_heldLine Try.f59 2 m.length [] (fun _ _ _ => none) 400 [.code (Try.f59.body.get rfl)] (argsT 0 [t0, t1]) m = X_laws_heldLine [t0, t1] m := by kernel_rfl
theorem okc_laws_heldLine : CallOK CT cf_laws_heldLine := cfc_ok ok_C_laws_heldByteS (cfc_ok ok_C_laws_heldByteSS cfn_ok)
theorem ok_X_laws_heldLine : OkX CT 59 X_laws_heldLine := OkX.of_ex (cf := cf_laws_heldLine) (np := 2) (LL := []) (J := (fun _ _ _ _ => none)) CT_ok rfl Try.func59 rfl (Nat.le_of_ble_eq_true rfl) (by decide) cok_laws_heldLine okc_laws_heldLine (fun k => noLoops rfl) (fun args m r h => match args, h with
    | [t0, t1], h => ⟨rfl, (xe_laws_heldLine t0 t1 m).trans h⟩)
theorem ok_C_laws_heldLine : OkC CT 59 C_laws_heldLine := fcall_ok rfl ok_X_laws_heldLine

/-! ### laws.heldInt64S -/
noncomputable def cf_laws_heldInt64S : CallF := cfn
noncomputable def L_laws_heldInt64S (k : Nat) : Nat → Nat → List Value → Mem → Option VM
  | q + 1, 0, [t0, t1, t5], m =>
    (lenX t0) |> bo fun t8 =>
    (binX .lss .no t5 t8) |> bo fun t9 =>
    brX t9
      (
        (ixaX 1 t0 t5) |> bo fun t14 =>
        (ld1 m t14) |> bo fun t15 =>
        (binX .neq .no t15 t1) |> bo fun t17 =>
        brX t17
          (
            retK k m [t0, t1] (.int .i64 (-1)))
          (
            (binX .add .no t1 (.int .i64 1)) |> bo fun t19 =>
            (binX .add .no t5 (.int .i64 1)) |> bo fun t11 =>
            cutK k m [t0, t19] [t0, t19, t11] (L_laws_heldInt64S k q 0)))
      (
        retK k m [t0, t1] t1)
  | _, _, _, _ => none
noncomputable def J_laws_heldInt64S (k q l : Nat) : List Value → Mem → Option VM := cond (Nat.beq l 2) (L_laws_heldInt64S k q 0) (fun _ _ => none)
def LL_laws_heldInt64S : List (Nat × List Tmp) := [(2, [0, 1, 5])]
noncomputable def X_laws_heldInt64S : List Value → Mem → Option VM
  | [t0, t1], m =>
    cutK m.length m [t0, t1] [t0, t1, (.int .i64 0)] (L_laws_heldInt64S m.length QQ 0)
  | _, _ => none
noncomputable def C_laws_heldInt64S : List Value → Mem → Option VM := fcall X_laws_heldInt64S
@[simp] theorem c_laws_heldInt64S : C_laws_heldInt64S = fcall X_laws_heldInt64S := (rfl)
theorem cok_laws_heldInt64S : codeOk CT Try.f210 (Try.f210.body.get rfl) = true := by kernel_rfl
theorem xe_laws_heldInt64S (t0 t1 : Value) (m : Mem) : ex CT cf_laws_heldInt64S Try.f210 2 m.length LL_laws_heldInt64S (J_laws_heldInt64S m.length QQ) 400 [.code (Try.f210.body.get rfl)] (argsT 0 [t0, t1]) m = X_laws_heldInt64S [t0, t1] m := by kernel_rfl
theorem okc_laws_heldInt64S : CallOK CT cf_laws_heldInt64S := cfn_ok
theorem le_laws_heldInt64S_0 (k q : Nat) (t0 t1 t5 : Value) (m : Mem) : ex CT cf_laws_heldInt64S Try.f210 2 k LL_laws_heldInt64S (J_laws_heldInt64S k q) 400 (atLoop Try.f210 0) [(0, t0), (1, t1), (5, t5)] m = J_laws_heldInt64S k (q + 1) 2 [t0, t1, t5] m := by kernel_rfl
theorem gl_laws_heldInt64S (k : Nat) : ∀ q i, i < 1 → GoodL CT k Try.f210 LL_laws_heldInt64S (J_laws_heldInt64S k q) (atLoop Try.f210 i)
  | 0, 0, _ => goodL_zero (l := 2) (by kernel_rfl) (fun vs m => by kernel_rfl)
  | 0, _ + 1, h => absurd h (by omega)
  | q + 1, 0, _ => goodL_succ (np := 2) (l := 2) (live := [0, 1, 5]) (n := 1) CT_ok rfl okc_laws_heldInt64S (c := (Try.f210.body.get rfl)) rfl cok_laws_heldInt64S (by kernel_rfl) (gl_laws_heldInt64S k q) (by kernel_rfl) rfl (fun vs m r hl h => match vs, hl with
    | [t0, t1, t5], _ => (le_laws_heldInt64S_0 k q t0 t1 t5 m).trans h)
  | _ + 1, _ + 1, h => absurd h (by omega)
theorem ok_X_laws_heldInt64S : OkX CT 210 X_laws_heldInt64S := OkX.of_ex (cf := cf_laws_heldInt64S) (np := 2) (LL := LL_laws_heldInt64S) (J := (fun k => J_laws_heldInt64S k QQ)) CT_ok rfl Try.func210 rfl (Nat.le_of_ble_eq_true rfl) (by decide) cok_laws_heldInt64S okc_laws_heldInt64S (fun k => allLoops rfl (by kernel_rfl) (gl_laws_heldInt64S k QQ)) (fun args m r h => match args, h with
    | [t0, t1], h => ⟨rfl, (xe_laws_heldInt64S t0 t1 m).trans h⟩)
theorem ok_C_laws_heldInt64S : OkC CT 210 C_laws_heldInt64S := fcall_ok rfl ok_X_laws_heldInt64S

/-! ### laws.heldParser -/
noncomputable def cf_laws_heldParser : CallF := cfc 210 C_laws_heldInt64S cfn
noncomputable def X_laws_heldParser : List Value → Mem → Option VM
  | [t0, t1], m =>
    (boxX m t0) |> bo fun r1 =>
    (fadX 3 r1.1) |> bo fun t5 =>
    (ld1 r1.2 t5) |> bo fun t6 =>
    (C_laws_heldInt64S [t6, t1] r1.2) |> bo fun r4 =>
    (binX .lss .no r4.1 (.int .i64 0)) |> bo fun t10 =>
    brX t10
      (
        retK m.length r4.2 [t0, r4.1] (.int .i64 (-1)))
      (
        retK m.length r4.2 [t0, r4.1] r4.1)
  | _, _ => none
noncomputable def C_laws_heldParser : List Value → Mem → Option VM := fcall X_laws_heldParser
@[simp] theorem c_laws_heldParser : C_laws_heldParser = fcall X_laws_heldParser := (rfl)
theorem cok_laws_heldParser : codeOk CT Try.f177 (Try.f177.body.get rfl) = true := by kernel_rfl
theorem xe_laws_heldParser (t0 t1 : Value) (m : Mem) : ex CT cf_laws_heldParser Try.f177 2 m.length [] (fun _ _ _ => none) 400 [.code (Try.f177.body.get rfl)] (argsT 0 [t0, t1]) m = X_laws_heldParser [t0, t1] m := by kernel_rfl
theorem okc_laws_heldParser : CallOK CT cf_laws_heldParser := cfc_ok ok_C_laws_heldInt64S cfn_ok
theorem ok_X_laws_heldParser : OkX CT 177 X_laws_heldParser := OkX.of_ex (cf := cf_laws_heldParser) (np := 2) (LL := []) (J := (fun _ _ _ _ => none)) CT_ok rfl Try.func177 rfl (Nat.le_of_ble_eq_true rfl) (by decide) cok_laws_heldParser okc_laws_heldParser (fun k => noLoops rfl) (fun args m r h => match args, h with
    | [t0, t1], h => ⟨rfl, (xe_laws_heldParser t0 t1 m).trans h⟩)
theorem ok_C_laws_heldParser : OkC CT 177 C_laws_heldParser := fcall_ok rfl ok_X_laws_heldParser

/-! ### laws.heldCellS -/
noncomputable def cf_laws_heldCellS : CallF := cfn
noncomputable def L_laws_heldCellS (k : Nat) : Nat → Nat → List Value → Mem → Option VM
  | q + 1, 0, [t0, t1, t5], m =>
    (lenX t0) |> bo fun t8 =>
    (binX .lss .no t5 t8) |> bo fun t9 =>
    brX t9
      (
        (ixaX 2 t0 t5) |> bo fun t14 =>
        (fadX 0 t14) |> bo fun t15 =>
        (ld1 m t15) |> bo fun t16 =>
        (binX .neq .no t16 t1) |> bo fun t18 =>
        brX t18
          (
            retK k m [t0, t1] (.int .i64 (-1)))
          (
            (binX .add .no t1 (.int .i64 1)) |> bo fun t20 =>
            (ixaX 2 t0 t5) |> bo fun t23 =>
            (fadX 1 t23) |> bo fun t24 =>
            (ld1 m t24) |> bo fun t25 =>
            (binX .neq .no t25 t20) |> bo fun t27 =>
            brX t27
              (
                retK k m [t0, t20] (.int .i64 (-1)))
              (
                (binX .add .no t20 (.int .i64 1)) |> bo fun t29 =>
                (binX .add .no t5 (.int .i64 1)) |> bo fun t11 =>
                cutK k m [t0, t29] [t0, t29, t11] (L_laws_heldCellS k q 0))))
      (
        retK k m [t0, t1] t1)
  | _, _, _, _ => none
noncomputable def J_laws_heldCellS (k q l : Nat) : List Value → Mem → Option VM := cond (Nat.beq l 2) (L_laws_heldCellS k q 0) (fun _ _ => none)
def LL_laws_heldCellS : List (Nat × List Tmp) := [(2, [0, 1, 5])]
noncomputable def X_laws_heldCellS : List Value → Mem → Option VM
  | [t0, t1], m =>
    cutK m.length m [t0, t1] [t0, t1, (.int .i64 0)] (L_laws_heldCellS m.length QQ 0)
  | _, _ => none
noncomputable def C_laws_heldCellS : List Value → Mem → Option VM := fcall X_laws_heldCellS
@[simp] theorem c_laws_heldCellS : C_laws_heldCellS = fcall X_laws_heldCellS := (rfl)
theorem cok_laws_heldCellS : codeOk CT Try.f222 (Try.f222.body.get rfl) = true := by kernel_rfl
theorem xe_laws_heldCellS (t0 t1 : Value) (m : Mem) : ex CT cf_laws_heldCellS Try.f222 2 m.length LL_laws_heldCellS (J_laws_heldCellS m.length QQ) 400 [.code (Try.f222.body.get rfl)] (argsT 0 [t0, t1]) m = X_laws_heldCellS [t0, t1] m := by kernel_rfl
theorem okc_laws_heldCellS : CallOK CT cf_laws_heldCellS := cfn_ok
theorem le_laws_heldCellS_0 (k q : Nat) (t0 t1 t5 : Value) (m : Mem) : ex CT cf_laws_heldCellS Try.f222 2 k LL_laws_heldCellS (J_laws_heldCellS k q) 400 (atLoop Try.f222 0) [(0, t0), (1, t1), (5, t5)] m = J_laws_heldCellS k (q + 1) 2 [t0, t1, t5] m := by kernel_rfl
theorem gl_laws_heldCellS (k : Nat) : ∀ q i, i < 1 → GoodL CT k Try.f222 LL_laws_heldCellS (J_laws_heldCellS k q) (atLoop Try.f222 i)
  | 0, 0, _ => goodL_zero (l := 2) (by kernel_rfl) (fun vs m => by kernel_rfl)
  | 0, _ + 1, h => absurd h (by omega)
  | q + 1, 0, _ => goodL_succ (np := 2) (l := 2) (live := [0, 1, 5]) (n := 1) CT_ok rfl okc_laws_heldCellS (c := (Try.f222.body.get rfl)) rfl cok_laws_heldCellS (by kernel_rfl) (gl_laws_heldCellS k q) (by kernel_rfl) rfl (fun vs m r hl h => match vs, hl with
    | [t0, t1, t5], _ => (le_laws_heldCellS_0 k q t0 t1 t5 m).trans h)
  | _ + 1, _ + 1, h => absurd h (by omega)
theorem ok_X_laws_heldCellS : OkX CT 222 X_laws_heldCellS := OkX.of_ex (cf := cf_laws_heldCellS) (np := 2) (LL := LL_laws_heldCellS) (J := (fun k => J_laws_heldCellS k QQ)) CT_ok rfl Try.func222 rfl (Nat.le_of_ble_eq_true rfl) (by decide) cok_laws_heldCellS okc_laws_heldCellS (fun k => allLoops rfl (by kernel_rfl) (gl_laws_heldCellS k QQ)) (fun args m r h => match args, h with
    | [t0, t1], h => ⟨rfl, (xe_laws_heldCellS t0 t1 m).trans h⟩)
theorem ok_C_laws_heldCellS : OkC CT 222 C_laws_heldCellS := fcall_ok rfl ok_X_laws_heldCellS

/-! ### laws.heldGrid -/
noncomputable def cf_laws_heldGrid : CallF := cfc 222 C_laws_heldCellS cfn
noncomputable def X_laws_heldGrid : List Value → Mem → Option VM
  | [t0, t1], m =>
    (boxX m t0) |> bo fun r1 =>
    (fadX 2 r1.1) |> bo fun t5 =>
    (ld1 r1.2 t5) |> bo fun t6 =>
    (C_laws_heldCellS [t6, t1] r1.2) |> bo fun r4 =>
    (binX .lss .no r4.1 (.int .i64 0)) |> bo fun t10 =>
    brX t10
      (
        retK m.length r4.2 [t0, r4.1] (.int .i64 (-1)))
      (
        (fadX 3 r1.1) |> bo fun t11 =>
        (ld1 r4.2 t11) |> bo fun t12 =>
        (C_laws_heldCellS [t12, r4.1] r4.2) |> bo fun r8 =>
        (binX .lss .no r8.1 (.int .i64 0)) |> bo fun t16 =>
        brX t16
          (
            retK m.length r8.2 [t0, r8.1] (.int .i64 (-1)))
          (
            retK m.length r8.2 [t0, r8.1] r8.1))
  | _, _ => none
noncomputable def C_laws_heldGrid : List Value → Mem → Option VM := fcall X_laws_heldGrid
@[simp] theorem c_laws_heldGrid : C_laws_heldGrid = fcall X_laws_heldGrid := (rfl)
theorem cok_laws_heldGrid : codeOk CT Try.f211 (Try.f211.body.get rfl) = true := by kernel_rfl
theorem xe_laws_heldGrid (t0 t1 : Value) (m : Mem) : ex CT cf_laws_heldGrid Try.f211 2 m.length [] (fun _ _ _ => none) 400 [.code (Try.f211.body.get rfl)] (argsT 0 [t0, t1]) m = X_laws_heldGrid [t0, t1] m := by kernel_rfl
theorem okc_laws_heldGrid : CallOK CT cf_laws_heldGrid := cfc_ok ok_C_laws_heldCellS cfn_ok
theorem ok_X_laws_heldGrid : OkX CT 211 X_laws_heldGrid := OkX.of_ex (cf := cf_laws_heldGrid) (np := 2) (LL := []) (J := (fun _ _ _ _ => none)) CT_ok rfl Try.func211 rfl (Nat.le_of_ble_eq_true rfl) (by decide) cok_laws_heldGrid okc_laws_heldGrid (fun k => noLoops rfl) (fun args m r h => match args, h with
    | [t0, t1], h => ⟨rfl, (xe_laws_heldGrid t0 t1 m).trans h⟩)
theorem ok_C_laws_heldGrid : OkC CT 211 C_laws_heldGrid := fcall_ok rfl ok_X_laws_heldGrid

/-! ### laws.heldBoolS -/
noncomputable def cf_laws_heldBoolS : CallF := cfn
noncomputable def L_laws_heldBoolS (k : Nat) : Nat → Nat → List Value → Mem → Option VM
  | q + 1, 0, [t0, t1, t5], m =>
    (lenX t0) |> bo fun t8 =>
    (binX .lss .no t5 t8) |> bo fun t9 =>
    brX t9
      (
        (ixaX 1 t0 t5) |> bo fun t14 =>
        (ld1 m t14) |> bo fun t15 =>
        (binX .rem .no t1 (.int .i64 3)) |> bo fun t17 =>
        (binX .eql .no t17 (.int .i64 0)) |> bo fun t18 =>
        (binX .neq .bool t15 t18) |> bo fun t19 =>
        brX t19
          (
            retK k m [t0, t1] (.int .i64 (-1)))
          (
            (binX .add .no t1 (.int .i64 1)) |> bo fun t21 =>
            (binX .add .no t5 (.int .i64 1)) |> bo fun t11 =>
            cutK k m [t0, t21] [t0, t21, t11] (L_laws_heldBoolS k q 0)))
      (
        retK k m [t0, t1] t1)
  | _, _, _, _ => none
noncomputable def J_laws_heldBoolS (k q l : Nat) : List Value → Mem → Option VM := cond (Nat.beq l 2) (L_laws_heldBoolS k q 0) (fun _ _ => none)
def LL_laws_heldBoolS : List (Nat × List Tmp) := [(2, [0, 1, 5])]
noncomputable def X_laws_heldBoolS : List Value → Mem → Option VM
  | [t0, t1], m =>
    cutK m.length m [t0, t1] [t0, t1, (.int .i64 0)] (L_laws_heldBoolS m.length QQ 0)
  | _, _ => none
noncomputable def C_laws_heldBoolS : List Value → Mem → Option VM := fcall X_laws_heldBoolS
@[simp] theorem c_laws_heldBoolS : C_laws_heldBoolS = fcall X_laws_heldBoolS := (rfl)
theorem cok_laws_heldBoolS : codeOk CT Try.f212 (Try.f212.body.get rfl) = true := by kernel_rfl
theorem xe_laws_heldBoolS (t0 t1 : Value) (m : Mem) : ex CT cf_laws_heldBoolS Try.f212 2 m.length LL_laws_heldBoolS (J_laws_heldBoolS m.length QQ) 400 [.code (Try.f212.body.get rfl)] (argsT 0 [t0, t1]) m = X_laws_heldBoolS [t0, t1] m := by kernel_rfl
theorem okc_laws_heldBoolS : CallOK CT cf_laws_heldBoolS := cfn_ok
theorem le_laws_heldBoolS_0 (k q : Nat) (t0 t1 t5 : Value) (m : Mem) : ex CT cf_laws_heldBoolS Try.f212 2 k LL_laws_heldBoolS (J_laws_heldBoolS k q) 400 (atLoop Try.f212 0) [(0, t0), (1, t1), (5, t5)] m = J_laws_heldBoolS k (q + 1) 2 [t0, t1, t5] m := by kernel_rfl
theorem gl_laws_heldBoolS (k : Nat) : ∀ q i, i < 1 → GoodL CT k Try.f212 LL_laws_heldBoolS (J_laws_heldBoolS k q) (atLoop Try.f212 i)
  | 0, 0, _ => goodL_zero (l := 2) (by kernel_rfl) (fun vs m => by kernel_rfl)
  | 0, _ + 1, h => absurd h (by omega)
  | q + 1, 0, _ => goodL_succ (np := 2) (l := 2) (live := [0, 1, 5]) (n := 1) CT_ok rfl okc_laws_heldBoolS (c := (Try.f212.body.get rfl)) rfl cok_laws_heldBoolS (by kernel_rfl) (gl_laws_heldBoolS k q) (by kernel_rfl) rfl (fun vs m r hl h => match vs, hl with
    | [t0, t1, t5], _ => (le_laws_heldBoolS_0 k q t0 t1 t5 m).trans h)
  | _ + 1, _ + 1, h => absurd h (by omega)
theorem ok_X_laws_heldBoolS : OkX CT 212 X_laws_heldBoolS := OkX.of_ex (cf := cf_laws_heldBoolS) (np := 2) (LL := LL_laws_heldBoolS) (J := (fun k => J_laws_heldBoolS k QQ)) CT_ok rfl Try.func212 rfl (Nat.le_of_ble_eq_true rfl) (by decide) cok_laws_heldBoolS okc_laws_heldBoolS (fun k => allLoops rfl (by kernel_rfl) (gl_laws_heldBoolS k QQ)) (fun args m r h => match args, h with
    | [t0, t1], h => ⟨rfl, (xe_laws_heldBoolS t0 t1 m).trans h⟩)
theorem ok_C_laws_heldBoolS : OkC CT 212 C_laws_heldBoolS := fcall_ok rfl ok_X_laws_heldBoolS

/-! ### laws.heldScreen -/
noncomputable def cf_laws_heldScreen : CallF := cfc 210 C_laws_heldInt64S (cfc 211 C_laws_heldGrid (cfc 212 C_laws_heldBoolS cfn))
noncomputable def X_laws_heldScreen : List Value → Mem → Option VM
  | [t0, t1], m =>
    (boxX m t0) |> bo fun r1 =>
    (fadX 0 r1.1) |> bo fun t5 =>
    (ldS r1.2 4 t5) |> bo fun t6 =>
    (C_laws_heldGrid [t6, t1] r1.2) |> bo fun r4 =>
    (binX .lss .no r4.1 (.int .i64 0)) |> bo fun t10 =>
    brX t10
      (
        retK m.length r4.2 [t0, r4.1] (.int .i64 (-1)))
      (
        (fadX 13 r1.1) |> bo fun t11 =>
        (ld1 r4.2 t11) |> bo fun t12 =>
        (C_laws_heldBoolS [t12, r4.1] r4.2) |> bo fun r8 =>
        (binX .lss .no r8.1 (.int .i64 0)) |> bo fun t16 =>
        brX t16
          (
            retK m.length r8.2 [t0, r8.1] (.int .i64 (-1)))
          (
            (fadX 17 r1.1) |> bo fun t17 =>
            (ld1 r8.2 t17) |> bo fun t18 =>
            (C_laws_heldInt64S [t18, r8.1] r8.2) |> bo fun r12 =>
            (binX .lss .no r12.1 (.int .i64 0)) |> bo fun t22 =>
            brX t22
              (
                retK m.length r12.2 [t0, r12.1] (.int .i64 (-1)))
              (
                retK m.length r12.2 [t0, r12.1] r12.1)))
  | _, _ => none
noncomputable def C_laws_heldScreen : List Value → Mem → Option VM := fcall X_laws_heldScreen
@[simp] theorem c_laws_heldScreen : C_laws_heldScreen = fcall X_laws_heldScreen := (rfl)
theorem cok_laws_heldScreen : codeOk CT Try.f178 (Try.f178.body.get rfl) = true := by kernel_rfl
theorem xe_laws_heldScreen (t0 t1 : Value) (m : Mem) : ex CT cf_laws_heldScreen Try.f178 2 m.length [] (fun _ _ _ => none) 400 [.code (Try.f178.body.get rfl)] (argsT 0 [t0, t1]) m = X_laws_heldScreen [t0, t1] m := by kernel_rfl
theorem okc_laws_heldScreen : CallOK CT cf_laws_heldScreen := cfc_ok ok_C_laws_heldInt64S (cfc_ok ok_C_laws_heldGrid (cfc_ok ok_C_laws_heldBoolS cfn_ok))
theorem ok_X_laws_heldScreen : OkX CT 178 X_laws_heldScreen := OkX.of_ex (cf := cf_laws_heldScreen) (np := 2) (LL := []) (J := (fun _ _ _ _ => none)) CT_ok rfl Try.func178 rfl (Nat.le_of_ble_eq_true rfl) (by decide) cok_laws_heldScreen okc_laws_heldScreen (fun k => noLoops rfl) (fun args m r h => match args, h with
    | [t0, t1], h => ⟨rfl, (xe_laws_heldScreen t0 t1 m).trans h⟩)
theorem ok_C_laws_heldScreen : OkC CT 178 C_laws_heldScreen := fcall_ok rfl ok_X_laws_heldScreen

/-! ### laws.heldVt -/
noncomputable def cf_laws_heldVt : CallF := cfc 177 C_laws_heldParser (cfc 178 C_laws_heldScreen cfn)
noncomputable def X_laws_heldVt : List Value → Mem → Option VM
  | [t0, t1], m =>
    (boxX m t0) |> bo fun r1 =>
    (fadX 3 r1.1) |> bo fun t5 =>
    (ldS r1.2 4 t5) |> bo fun t6 =>
    (C_laws_heldParser [t6, t1] r1.2) |> bo fun r4 =>
    (binX .lss .no r4.1 (.int .i64 0)) |> bo fun t10 =>
    brX t10
      (
        retK m.length r4.2 [t0, r4.1] (.int .i64 (-1)))
      (
        (fadX 7 r1.1) |> bo fun t11 =>
        (ldS r4.2 20 t11) |> bo fun t12 =>
        (C_laws_heldScreen [t12, r4.1] r4.2) |> bo fun r8 =>
        (binX .lss .no r8.1 (.int .i64 0)) |> bo fun t16 =>
        brX t16
          (
            retK m.length r8.2 [t0, r8.1] (.int .i64 (-1)))
          (
            retK m.length r8.2 [t0, r8.1] r8.1))
  | _, _ => none
noncomputable def C_laws_heldVt : List Value → Mem → Option VM := fcall X_laws_heldVt
@[simp] theorem c_laws_heldVt : C_laws_heldVt = fcall X_laws_heldVt := (rfl)
theorem cok_laws_heldVt : codeOk CT Try.f133 (Try.f133.body.get rfl) = true := by kernel_rfl
theorem xe_laws_heldVt (t0 t1 : Value) (m : Mem) : ex CT cf_laws_heldVt Try.f133 2 m.length [] (fun _ _ _ => none) 400 [.code (Try.f133.body.get rfl)] (argsT 0 [t0, t1]) m = X_laws_heldVt [t0, t1] m := by kernel_rfl
theorem okc_laws_heldVt : CallOK CT cf_laws_heldVt := cfc_ok ok_C_laws_heldParser (cfc_ok ok_C_laws_heldScreen cfn_ok)
theorem ok_X_laws_heldVt : OkX CT 133 X_laws_heldVt := OkX.of_ex (cf := cf_laws_heldVt) (np := 2) (LL := []) (J := (fun _ _ _ _ => none)) CT_ok rfl Try.func133 rfl (Nat.le_of_ble_eq_true rfl) (by decide) cok_laws_heldVt okc_laws_heldVt (fun k => noLoops rfl) (fun args m r h => match args, h with
    | [t0, t1], h => ⟨rfl, (xe_laws_heldVt t0 t1 m).trans h⟩)
theorem ok_C_laws_heldVt : OkC CT 133 C_laws_heldVt := fcall_ok rfl ok_X_laws_heldVt

/-! ### laws.heldConsole -/
noncomputable def cf_laws_heldConsole : CallF := cfc 59 C_laws_heldLine (cfc 133 C_laws_heldVt cfn)
noncomputable def X_laws_heldConsole : List Value → Mem → Option VM
  | [t0, t1], m =>
    (boxX m t0) |> bo fun r1 =>
    (fadX 0 r1.1) |> bo fun t5 =>
    (ldS r1.2 27 t5) |> bo fun t6 =>
    (C_laws_heldVt [t6, t1] r1.2) |> bo fun r4 =>
    (binX .lss .no r4.1 (.int .i64 0)) |> bo fun t10 =>
    brX t10
      (
        retK m.length r4.2 [t0, r4.1] (.int .i64 (-1)))
      (
        (fadX 34 r1.1) |> bo fun t11 =>
        (ldS r4.2 4 t11) |> bo fun t12 =>
        (C_laws_heldLine [t12, r4.1] r4.2) |> bo fun r8 =>
        (binX .lss .no r8.1 (.int .i64 0)) |> bo fun t16 =>
        brX t16
          (
            retK m.length r8.2 [t0, r8.1] (.int .i64 (-1)))
          (
            retK m.length r8.2 [t0, r8.1] r8.1))
  | _, _ => none
noncomputable def C_laws_heldConsole : List Value → Mem → Option VM := fcall X_laws_heldConsole
@[simp] theorem c_laws_heldConsole : C_laws_heldConsole = fcall X_laws_heldConsole := (rfl)
theorem cok_laws_heldConsole : codeOk CT Try.f88 (Try.f88.body.get rfl) = true := by kernel_rfl
theorem xe_laws_heldConsole (t0 t1 : Value) (m : Mem) : ex CT cf_laws_heldConsole Try.f88 2 m.length [] (fun _ _ _ => none) 400 [.code (Try.f88.body.get rfl)] (argsT 0 [t0, t1]) m = X_laws_heldConsole [t0, t1] m := by kernel_rfl
theorem okc_laws_heldConsole : CallOK CT cf_laws_heldConsole := cfc_ok ok_C_laws_heldLine (cfc_ok ok_C_laws_heldVt cfn_ok)
theorem ok_X_laws_heldConsole : OkX CT 88 X_laws_heldConsole := OkX.of_ex (cf := cf_laws_heldConsole) (np := 2) (LL := []) (J := (fun _ _ _ _ => none)) CT_ok rfl Try.func88 rfl (Nat.le_of_ble_eq_true rfl) (by decide) cok_laws_heldConsole okc_laws_heldConsole (fun k => noLoops rfl) (fun args m r h => match args, h with
    | [t0, t1], h => ⟨rfl, (xe_laws_heldConsole t0 t1 m).trans h⟩)
theorem ok_C_laws_heldConsole : OkC CT 88 C_laws_heldConsole := fcall_ok rfl ok_X_laws_heldConsole

/-! ### laws.heldConsoleResult -/
noncomputable def cf_laws_heldConsoleResult : CallF := cfc 58 C_laws_heldByteS (cfc 88 C_laws_heldConsole cfn)
noncomputable def X_laws_heldConsoleResult : List Value → Mem → Option VM
  | [t0, t1], m =>
    (boxX m t0) |> bo fun r1 =>
    (fadX 2 r1.1) |> bo fun t5 =>
    (ld1 r1.2 t5) |> bo fun t6 =>
    (C_laws_heldByteS [t6, t1] r1.2) |> bo fun r4 =>
    (binX .lss .no r4.1 (.int .i64 0)) |> bo fun t10 =>
    brX t10
      (
        retK m.length r4.2 [t0, r4.1] (.int .i64 (-1)))
      (
        (fadX 3 r1.1) |> bo fun t11 =>
        (ldS r4.2 38 t11) |> bo fun t12 =>
        (C_laws_heldConsole [t12, r4.1] r4.2) |> bo fun r8 =>
        (binX .lss .no r8.1 (.int .i64 0)) |> bo fun t16 =>
        brX t16
          (
            retK m.length r8.2 [t0, r8.1] (.int .i64 (-1)))
          (
            retK m.length r8.2 [t0, r8.1] r8.1))
  | _, _ => none
noncomputable def C_laws_heldConsoleResult : List Value → Mem → Option VM := fcall X_laws_heldConsoleResult
@[simp] theorem c_laws_heldConsoleResult : C_laws_heldConsoleResult = fcall X_laws_heldConsoleResult := (rfl)
theorem cok_laws_heldConsoleResult : codeOk CT Try.f41 (Try.f41.body.get rfl) = true := by kernel_rfl
theorem xe_laws_heldConsoleResult (t0 t1 : Value) (m : Mem) : ex CT cf_laws_heldConsoleResult Try.f41 2 m.length [] (fun _ _ _ => none) 400 [.code (Try.f41.body.get rfl)] (argsT 0 [t0, t1]) m = X_laws_heldConsoleResult [t0, t1] m := by kernel_rfl
theorem okc_laws_heldConsoleResult : CallOK CT cf_laws_heldConsoleResult := cfc_ok ok_C_laws_heldByteS (cfc_ok ok_C_laws_heldConsole cfn_ok)
theorem ok_X_laws_heldConsoleResult : OkX CT 41 X_laws_heldConsoleResult := OkX.of_ex (cf := cf_laws_heldConsoleResult) (np := 2) (LL := []) (J := (fun _ _ _ _ => none)) CT_ok rfl Try.func41 rfl (Nat.le_of_ble_eq_true rfl) (by decide) cok_laws_heldConsoleResult okc_laws_heldConsoleResult (fun k => noLoops rfl) (fun args m r h => match args, h with
    | [t0, t1], h => ⟨rfl, (xe_laws_heldConsoleResult t0 t1 m).trans h⟩)
theorem ok_C_laws_heldConsoleResult : OkC CT 41 C_laws_heldConsoleResult := fcall_ok rfl ok_X_laws_heldConsoleResult

/-! ### laws.FnExactNewConsole -/
noncomputable def cf_laws_FnExactNewConsole : CallF := cfc 37 C_spec_NewConsole (cfc 38 C_impl_NewConsole (cfc 39 C_laws_eqConsoleResult (cfc 40 C_laws_markConsoleResult (cfc 41 C_laws_heldConsoleResult cfn))))
noncomputable def X_laws_FnExactNewConsole : List Value → Mem → Option VM
  | [t0, t1], m =>
    (C_spec_NewConsole [t0, t1] m) |> bo fun r1 =>
    (alX r1.2 [.int .i64 0, .bool false, .slice none 0 0, .int .i64 0, .int .i64 0, .int .i64 0, .int .i64 0, .int .i64 0, .bool false, .slice none 0 0, .int .i64 0, .int .i64 0, .slice none 0 0, .slice none 0 0, .int .i64 0, .int .i64 0, .bool false, .int .i64 0, .int .i64 0, .int .i64 0, .bool false, .bool false, .bool false, .slice none 0 0, .int .i64 0, .int .i64 0, .int .i64 0, .slice none 0 0, .int .i64 0, .int .i64 0, .int .i64 0, .int .i64 0, .int .i64 0, .int .i64 0, .int .i64 0, .int .i64 0, .int .i64 0, .slice none 0 0, .slice none 0 0, .bool false, .int .i64 0]) |> bo fun r2 =>
    (stX r2.2 41 r2.1 r1.1) |> bo fun m3 =>
    (C_impl_NewConsole [t0, t1] m3) |> bo fun r4 =>
    (alX r4.2 [.int .i64 0, .bool false, .slice none 0 0, .int .i64 0, .int .i64 0, .int .i64 0, .int .i64 0, .int .i64 0, .bool false, .slice none 0 0, .int .i64 0, .int .i64 0, .slice none 0 0, .slice none 0 0, .int .i64 0, .int .i64 0, .bool false, .int .i64 0, .int .i64 0, .int .i64 0, .bool false, .bool false, .bool false, .slice none 0 0, .int .i64 0, .int .i64 0, .int .i64 0, .slice none 0 0, .int .i64 0, .int .i64 0, .int .i64 0, .int .i64 0, .int .i64 0, .int .i64 0, .int .i64 0, .int .i64 0, .int .i64 0, .slice none 0 0, .slice none 0 0, .bool false, .int .i64 0]) |> bo fun r5 =>
    (stX r5.2 41 r5.1 r4.1) |> bo fun m6 =>
    (ldS m6 41 r5.1) |> bo fun t16 =>
    (ldS m6 41 r2.1) |> bo fun t17 =>
    (C_laws_eqConsoleResult [t16, t17] m6) |> bo fun r9 =>
    (uop .not r9.1) |> bo fun t19 =>
    brX t19
      (
        retK m.length r9.2 [t0, t1] (.bool false))
      (
        (ldS r9.2 41 r5.1) |> bo fun t20 =>
        (C_laws_markConsoleResult [t20, (.int .i64 1)] r9.2) |> bo fun r12 =>
        (ldS r12.2 41 r5.1) |> bo fun t23 =>
        (C_laws_heldConsoleResult [t23, (.int .i64 1)] r12.2) |> bo fun r14 =>
        (binX .lss .no r14.1 (.int .i64 0)) |> bo fun t27 =>
        brX t27
          (
            retK m.length r14.2 [t0, t1] (.bool false))
          (
            (binX .neq .no r14.1 r12.1) |> bo fun t30 =>
            brX t30
              (
                retK m.length r14.2 [t0, t1] (.bool false))
              (
                (C_impl_NewConsole [t0, t1] r14.2) |> bo fun r17 =>
                (alX r17.2 [.int .i64 0, .bool false, .slice none 0 0, .int .i64 0, .int .i64 0, .int .i64 0, .int .i64 0, .int .i64 0, .bool false, .slice none 0 0, .int .i64 0, .int .i64 0, .slice none 0 0, .slice none 0 0, .int .i64 0, .int .i64 0, .bool false, .int .i64 0, .int .i64 0, .int .i64 0, .bool false, .bool false, .bool false, .slice none 0 0, .int .i64 0, .int .i64 0, .int .i64 0, .slice none 0 0, .int .i64 0, .int .i64 0, .int .i64 0, .int .i64 0, .int .i64 0, .int .i64 0, .int .i64 0, .int .i64 0, .int .i64 0, .slice none 0 0, .slice none 0 0, .bool false, .int .i64 0]) |> bo fun r18 =>
                (stX r18.2 41 r18.1 r17.1) |> bo fun m19 =>
                (ldS m19 41 r18.1) |> bo fun t34 =>
                (ldS m19 41 r2.1) |> bo fun t35 =>
                (C_laws_eqConsoleResult [t34, t35] m19) |> bo fun r22 =>
                (uop .not r22.1) |> bo fun t37 =>
                brX t37
                  (
                    retK m.length r22.2 [t0, t1] (.bool false))
                  (
                    (ldS r22.2 41 r5.1) |> bo fun t38 =>
                    (C_laws_heldConsoleResult [t38, (.int .i64 1)] r22.2) |> bo fun r25 =>
                    (binX .lss .no r25.1 (.int .i64 0)) |> bo fun t42 =>
                    brX t42
                      (
                        retK m.length r25.2 [t0, t1] (.bool false))
                      (
                        (binX .neq .no r25.1 r12.1) |> bo fun t45 =>
                        brX t45
                          (
                            retK m.length r25.2 [t0, t1] (.bool false))
                          (
                            retK m.length r25.2 [t0, t1] (.bool true)))))))
  | _, _ => none
noncomputable def C_laws_FnExactNewConsole : List Value → Mem → Option VM := fcall X_laws_FnExactNewConsole
@[simp] theorem c_laws_FnExactNewConsole : C_laws_FnExactNewConsole = fcall X_laws_FnExactNewConsole := (rfl)
theorem cok_laws_FnExactNewConsole : codeOk CT Try.f7 (Try.f7.body.get rfl) = true := by kernel_rfl
theorem xe_laws_FnExactNewConsole (t0 t1 : Value) (m : Mem) : ex CT cf_laws_FnExactNewConsole Try.f7 2 m.length [] (fun _ _ _ => none) 400 [.code (Try.f7.body.get rfl)] (argsT 0 [t0, t1]) m = X_laws_FnExactNewConsole [t0, t1] m := by kernel_rfl
theorem okc_laws_FnExactNewConsole : CallOK CT cf_laws_FnExactNewConsole := cfc_ok ok_C_spec_NewConsole (cfc_ok ok_C_impl_NewConsole (cfc_ok ok_C_laws_eqConsoleResult (cfc_ok ok_C_laws_markConsoleResult (cfc_ok ok_C_laws_heldConsoleResult cfn_ok))))
theorem ok_X_laws_FnExactNewConsole : OkX CT 7 X_laws_FnExactNewConsole := OkX.of_ex (cf := cf_laws_FnExactNewConsole) (np := 2) (LL := []) (J := (fun _ _ _ _ => none)) CT_ok rfl Try.func7 rfl (Nat.le_of_ble_eq_true rfl) (by decide) cok_laws_FnExactNewConsole okc_laws_FnExactNewConsole (fun k => noLoops rfl) (fun args m r h => match args, h with
    | [t0, t1], h => ⟨rfl, (xe_laws_FnExactNewConsole t0 t1 m).trans h⟩)
theorem ok_C_laws_FnExactNewConsole : OkC CT 7 C_laws_FnExactNewConsole := fcall_ok rfl ok_X_laws_FnExactNewConsole

end Go.Ab
