/- Plain forms of functions, printed by gen.py. -/
import Derived.Test.YtglkdfidjalkbaaCf2
import Derived.Test.YtglkdfidjalkbaaFC
set_option linter.unusedVariables false
set_option linter.unusedSimpArgs false
namespace Go.Ab
open Go.Proofs
set_option maxRecDepth 100000
set_option linter.unusedVariables false
/-! ### laws.lwBig -/
noncomputable def cf_laws_lwBig : CallF := cfn
noncomputable def X_laws_lwBig : List Value → Mem → Option VM
  | [t0], m =>
    (lenX t0) |> bo fun t4 =>
    (binX .gtr .no t4 (.int .i64 1048576)) |> bo fun t5 =>
    retK m.length m [t0] t5
  | _, _ => none
noncomputable def C_laws_lwBig : List Value → Mem → Option VM := fcall X_laws_lwBig
@[simp] theorem c_laws_lwBig : C_laws_lwBig = fcall X_laws_lwBig := (rfl)
theorem cok_laws_lwBig : codeOk CT Try.f23 (Try.f23.body.get rfl) = true := by kernel_rfl
theorem xe_laws_lwBig (t0 : Value) (m : Mem) : ex CT cf_laws_lwBig Try.f23 1 m.length [] (fun _ _ _ => none) 400 [.code (Try.f23.body.get rfl)] (argsT 0 [t0]) m = X_laws_lwBig [t0] m := by kernel_rfl
theorem okc_laws_lwBig : CallOK CT cf_laws_lwBig := cfn_ok
theorem ok_X_laws_lwBig : OkX CT 23 X_laws_lwBig := OkX.of_ex (cf := cf_laws_lwBig) (np := 1) (LL := []) (J := (fun _ _ _ _ => none)) CT_ok rfl Try.func23 rfl (Nat.le_of_ble_eq_true rfl) (by decide) cok_laws_lwBig okc_laws_lwBig (fun k => noLoops rfl) (fun args m r h => match args, h with
    | [t0], h => ⟨rfl, (xe_laws_lwBig t0 m).trans h⟩)
theorem ok_C_laws_lwBig : OkC CT 23 C_laws_lwBig := fcall_ok rfl ok_X_laws_lwBig

/-! ### laws.lwCell -/
noncomputable def cf_laws_lwCell : CallF := cfn
noncomputable def X_laws_lwCell : List Value → Mem → Option VM
  | [t0, t1, t2], m =>
    (boxX m t0) |> bo fun r1 =>
    (alX r1.2 [.int .i64 0, .int .i64 0]) |> bo fun r2 =>
    (fadX 1 r1.1) |> bo fun t9 =>
    (ld1 r2.2 t9) |> bo fun t10 =>
    (binX .mul .no t1 t10) |> bo fun t11 =>
    (binX .add .no t11 t2) |> bo fun t13 =>
    (binX .lss .no t13 (.int .i64 0)) |> bo fun t15 =>
    (gd t15 false (some (t13, r2.2)) r2.2) |> bo fun r8 =>
    (gd t15 false ((fadX 2 r1.1) |> bo fun v => some (v, r8.2)) r8.2) |> bo fun r9 =>
    (gd t15 false ((ld1 r9.2 r9.1) |> bo fun v => some (v, r9.2)) r9.2) |> bo fun r10 =>
    (gd t15 false ((lenX r10.1) |> bo fun v => some (v, r10.2)) r10.2) |> bo fun r11 =>
    (gd t15 false ((binX .geq .no r8.1 r11.1) |> bo fun v => some (v, r11.2)) r11.2) |> bo fun r12 =>
    (pickX t15 (.bool true) r12.1) |> bo fun t22 =>
    brX t22
      (
        (bldX [.int .i64 0, .int .i64 0] [(0, 1, (.int .i64 (-1)))]) |> bo fun t23 =>
        (stX r12.2 2 r2.1 t23) |> bo fun m15 =>
        (resP (some 2) m15 r2.1) |> bo fun c16 =>
        retK m.length m15 [t0, t1, t2] c16)
      (
        (fadX 2 r1.1) |> bo fun t24 =>
        (ld1 r12.2 t24) |> bo fun t25 =>
        (ixaX 2 t25 t13) |> bo fun t27 =>
        (ldS r12.2 2 t27) |> bo fun t28 =>
        (stX r12.2 2 r2.1 t28) |> bo fun m21 =>
        (resP (some 2) m21 r2.1) |> bo fun c22 =>
        retK m.length m21 [t0, t1, t2] c22)
  | _, _ => none
noncomputable def C_laws_lwCell : List Value → Mem → Option VM := fcall X_laws_lwCell
@[simp] theorem c_laws_lwCell : C_laws_lwCell = fcall X_laws_lwCell := (rfl)
theorem cok_laws_lwCell : codeOk CT Try.f28 (Try.f28.body.get rfl) = true := by kernel_rfl
theorem xe_laws_lwCell (t0 t1 t2 : Value) (m : Mem) : ex CT cf_laws_lwCell Try.f28 3 m.length [] (fun _ _ _ => none) 400 [.code (Try.f28.body.get rfl)] (argsT 0 [t0, t1, t2]) m = X_laws_lwCell [t0, t1, t2] m := by kernel_rfl
theorem okc_laws_lwCell : CallOK CT cf_laws_lwCell := cfn_ok
theorem ok_X_laws_lwCell : OkX CT 28 X_laws_lwCell := OkX.of_ex (cf := cf_laws_lwCell) (np := 3) (LL := []) (J := (fun _ _ _ _ => none)) CT_ok rfl Try.func28 rfl (Nat.le_of_ble_eq_true rfl) (by decide) cok_laws_lwCell okc_laws_lwCell (fun k => noLoops rfl) (fun args m r h => match args, h with
    | [t0, t1, t2], h => ⟨rfl, (xe_laws_lwCell t0 t1 t2 m).trans h⟩)
theorem ok_C_laws_lwCell : OkC CT 28 C_laws_lwCell := fcall_ok rfl ok_X_laws_lwCell

/-! ### impl.in -/
noncomputable def cf_impl_in : CallF := cfn
noncomputable def X_impl_in : List Value → Mem → Option VM
  | [t0, t1, t2], m =>
    (binX .leq .no t1 t0) |> bo fun t9 =>
    (gd t9 true (some (t0, m)) m) |> bo fun r2 =>
    (gd t9 true (some (t2, r2.2)) r2.2) |> bo fun r3 =>
    (gd t9 true ((binX .leq .no r2.1 r3.1) |> bo fun v => some (v, r3.2)) r3.2) |> bo fun r4 =>
    (pickX t9 r4.1 (.bool false)) |> bo fun t14 =>
    retK m.length r4.2 [t0, t1, t2] t14
  | _, _ => none
noncomputable def C_impl_in : List Value → Mem → Option VM := fcall X_impl_in
@[simp] theorem c_impl_in : C_impl_in = fcall X_impl_in := (rfl)
theorem cok_impl_in : codeOk CT Try.f73 (Try.f73.body.get rfl) = true := by kernel_rfl
theorem xe_impl_in (t0 t1 t2 : Value) (m : Mem) : ex CT cf_impl_in Try.f73 3 m.length [] (fun _ _ _ => none) 400 [.code (Try.f73.body.get rfl)] (argsT 0 [t0, t1, t2]) m = X_impl_in [t0, t1, t2] m := by kernel_rfl
theorem okc_impl_in : CallOK CT cf_impl_in := cfn_ok
theorem ok_X_impl_in : OkX CT 73 X_impl_in := OkX.of_ex (cf := cf_impl_in) (np := 3) (LL := []) (J := (fun _ _ _ _ => none)) CT_ok rfl Try.func73 rfl (Nat.le_of_ble_eq_true rfl) (by decide) cok_impl_in okc_impl_in (fun k => noLoops rfl) (fun args m r h => match args, h with
    | [t0, t1, t2], h => ⟨rfl, (xe_impl_in t0 t1 t2 m).trans h⟩)
theorem ok_C_impl_in : OkC CT 73 C_impl_in := fcall_ok rfl ok_X_impl_in

/-! ### impl.sizeOk -/
noncomputable def cf_impl_sizeOk : CallF := cfc 73 C_impl_in cfn
noncomputable def X_impl_sizeOk : List Value → Mem → Option VM
  | [t0, t1], m =>
    (C_impl_in [t0, (.int .i64 1), (.int .i64 6)] m) |> bo fun r1 =>
    (gd r1.1 true (some (t1, r1.2)) r1.2) |> bo fun r2 =>
    (gd r1.1 true ((C_impl_in [r2.1, (.int .i64 2), (.int .i64 12)] r2.2) |> bo fun r => some (r.1, r.2)) r2.2) |> bo fun r3 =>
    (pickX r1.1 r3.1 (.bool false)) |> bo fun t10 =>
    retK m.length r3.2 [t0, t1] t10
  | _, _ => none
noncomputable def C_impl_sizeOk : List Value → Mem → Option VM := fcall X_impl_sizeOk
@[simp] theorem c_impl_sizeOk : C_impl_sizeOk = fcall X_impl_sizeOk := (rfl)
theorem cok_impl_sizeOk : codeOk CT Try.f80 (Try.f80.body.get rfl) = true := by kernel_rfl
theorem xe_impl_sizeOk (t0 t1 : Value) (m : Mem) : ex CT cf_impl_sizeOk Try.f80 2 m.length [] (fun _ _ _ => none) 400 [.code (Try.f80.body.get rfl)] (argsT 0 [t0, t1]) m = X_impl_sizeOk [t0, t1] m := by kernel_rfl
theorem okc_impl_sizeOk : CallOK CT cf_impl_sizeOk := cfc_ok ok_C_impl_in cfn_ok
theorem ok_X_impl_sizeOk : OkX CT 80 X_impl_sizeOk := OkX.of_ex (cf := cf_impl_sizeOk) (np := 2) (LL := []) (J := (fun _ _ _ _ => none)) CT_ok rfl Try.func80 rfl (Nat.le_of_ble_eq_true rfl) (by decide) cok_impl_sizeOk okc_impl_sizeOk (fun k => noLoops rfl) (fun args m r h => match args, h with
    | [t0, t1], h => ⟨rfl, (xe_impl_sizeOk t0 t1 m).trans h⟩)
theorem ok_C_impl_sizeOk : OkC CT 80 C_impl_sizeOk := fcall_ok rfl ok_X_impl_sizeOk

/-! ### impl.unless -/
noncomputable def cf_impl_unless : CallF := cfn
noncomputable def X_impl_unless : List Value → Mem → Option VM
  | [t0, t1], m =>
    brX t0
      (
        retK m.length m [t0, t1] (.int .i64 0))
      (
        retK m.length m [t0, t1] t1)
  | _, _ => none
noncomputable def C_impl_unless : List Value → Mem → Option VM := fcall X_impl_unless
@[simp] theorem c_impl_unless : C_impl_unless = fcall X_impl_unless := (rfl)
theorem cok_impl_unless : codeOk CT Try.f82 (Try.f82.body.get rfl) = true := by kernel_rfl
theorem xe_impl_unless (t0 t1 : Value) (m : Mem) : ex CT cf_impl_unless Try.f82 2 m.length [] (fun _ _ _ => none) 400 [.code (Try.f82.body.get rfl)] (argsT 0 [t0, t1]) m = X_impl_unless [t0, t1] m := by kernel_rfl
theorem okc_impl_unless : CallOK CT cf_impl_unless := cfn_ok
theorem ok_X_impl_unless : OkX CT 82 X_impl_unless := OkX.of_ex (cf := cf_impl_unless) (np := 2) (LL := []) (J := (fun _ _ _ _ => none)) CT_ok rfl Try.func82 rfl (Nat.le_of_ble_eq_true rfl) (by decide) cok_impl_unless okc_impl_unless (fun k => noLoops rfl) (fun args m r h => match args, h with
    | [t0, t1], h => ⟨rfl, (xe_impl_unless t0 t1 m).trans h⟩)
theorem ok_C_impl_unless : OkC CT 82 C_impl_unless := fcall_ok rfl ok_X_impl_unless

/-! ### impl.isAttr -/
noncomputable def cf_impl_isAttr : CallF := cfc 73 C_impl_in cfn
noncomputable def X_impl_isAttr : List Value → Mem → Option VM
  | [t0], m =>
    (C_impl_in [t0, (.int .i64 0), (.int .i64 31)] m) |> bo fun r1 =>
    retK m.length r1.2 [t0] r1.1
  | _, _ => none
noncomputable def C_impl_isAttr : List Value → Mem → Option VM := fcall X_impl_isAttr
@[simp] theorem c_impl_isAttr : C_impl_isAttr = fcall X_impl_isAttr := (rfl)
theorem cok_impl_isAttr : codeOk CT Try.f74 (Try.f74.body.get rfl) = true := by kernel_rfl
theorem xe_impl_isAttr (t0 : Value) (m : Mem) : ex CT cf_impl_isAttr Try.f74 1 m.length [] (fun _ _ _ => none) 400 [.code (Try.f74.body.get rfl)] (argsT 0 [t0]) m = X_impl_isAttr [t0] m := by kernel_rfl
theorem okc_impl_isAttr : CallOK CT cf_impl_isAttr := cfc_ok ok_C_impl_in cfn_ok
theorem ok_X_impl_isAttr : OkX CT 74 X_impl_isAttr := OkX.of_ex (cf := cf_impl_isAttr) (np := 1) (LL := []) (J := (fun _ _ _ _ => none)) CT_ok rfl Try.func74 rfl (Nat.le_of_ble_eq_true rfl) (by decide) cok_impl_isAttr okc_impl_isAttr (fun k => noLoops rfl) (fun args m r h => match args, h with
    | [t0], h => ⟨rfl, (xe_impl_isAttr t0 m).trans h⟩)
theorem ok_C_impl_isAttr : OkC CT 74 C_impl_isAttr := fcall_ok rfl ok_X_impl_isAttr

/-! ### impl.isChar -/
noncomputable def cf_impl_isChar : CallF := cfc 73 C_impl_in cfn
noncomputable def X_impl_isChar : List Value → Mem → Option VM
  | [t0], m =>
    (C_impl_in [t0, (.int .i64 0), (.int .i64 65535)] m) |> bo fun r1 =>
    (gd r1.1 true (some (t0, r1.2)) r1.2) |> bo fun r2 =>
    (gd r1.1 true ((C_impl_in [r2.1, (.int .i64 55296), (.int .i64 57343)] r2.2) |> bo fun r => some (r.1, r.2)) r2.2) |> bo fun r3 =>
    (gd r1.1 true ((uop .not r3.1) |> bo fun v => some (v, r3.2)) r3.2) |> bo fun r4 =>
    (pickX r1.1 r4.1 (.bool false)) |> bo fun t9 =>
    retK m.length r4.2 [t0] t9
  | _, _ => none
noncomputable def C_impl_isChar : List Value → Mem → Option VM := fcall X_impl_isChar
@[simp] theorem c_impl_isChar : C_impl_isChar = fcall X_impl_isChar := (rfl)
theorem cok_impl_isChar : codeOk CT Try.f140 (Try.f140.body.get rfl) = true := by kernel_rfl
theorem xe_impl_isChar (t0 : Value) (m : Mem) : ex CT cf_impl_isChar Try.f140 1 m.length [] (fun _ _ _ => none) 400 [.code (Try.f140.body.get rfl)] (argsT 0 [t0]) m = X_impl_isChar [t0] m := by kernel_rfl
theorem okc_impl_isChar : CallOK CT cf_impl_isChar := cfc_ok ok_C_impl_in cfn_ok
theorem ok_X_impl_isChar : OkX CT 140 X_impl_isChar := OkX.of_ex (cf := cf_impl_isChar) (np := 1) (LL := []) (J := (fun _ _ _ _ => none)) CT_ok rfl Try.func140 rfl (Nat.le_of_ble_eq_true rfl) (by decide) cok_impl_isChar okc_impl_isChar (fun k => noLoops rfl) (fun args m r h => match args, h with
    | [t0], h => ⟨rfl, (xe_impl_isChar t0 m).trans h⟩)
theorem ok_C_impl_isChar : OkC CT 140 C_impl_isChar := fcall_ok rfl ok_X_impl_isChar

/-! ### impl.shows -/
noncomputable def cf_impl_shows : CallF := cfc 140 C_impl_isChar cfn
noncomputable def X_impl_shows : List Value → Mem → Option VM
  | [t0], m =>
    (C_impl_isChar [t0] m) |> bo fun r1 =>
    (gd r1.1 true (some (t0, r1.2)) r1.2) |> bo fun r2 =>
    (gd r1.1 true ((binX .geq .no r2.1 (.int .i64 32)) |> bo fun v => some (v, r2.2)) r2.2) |> bo fun r3 =>
    (pickX r1.1 r3.1 (.bool false)) |> bo fun t8 =>
    (gd t8 true (some (t0, r3.2)) r3.2) |> bo fun r5 =>
    (gd t8 true ((binX .neq .no r5.1 (.int .i64 127)) |> bo fun v => some (v, r5.2)) r5.2) |> bo fun r6 =>
    (pickX t8 r6.1 (.bool false)) |> bo fun t12 =>
    retK m.length r6.2 [t0] t12
  | _, _ => none
noncomputable def C_impl_shows : List Value → Mem → Option VM := fcall X_impl_shows
@[simp] theorem c_impl_shows : C_impl_shows = fcall X_impl_shows := (rfl)
theorem cok_impl_shows : codeOk CT Try.f115 (Try.f115.body.get rfl) = true := by kernel_rfl
theorem xe_impl_shows (t0 : Value) (m : Mem) : ex CT cf_impl_shows Try.f115 1 m.length [] (fun _ _ _ => none) 400 [.code (Try.f115.body.get rfl)] (argsT 0 [t0]) m = X_impl_shows [t0] m := by kernel_rfl
theorem okc_impl_shows : CallOK CT cf_impl_shows := cfc_ok ok_C_impl_isChar cfn_ok
theorem ok_X_impl_shows : OkX CT 115 X_impl_shows := OkX.of_ex (cf := cf_impl_shows) (np := 1) (LL := []) (J := (fun _ _ _ _ => none)) CT_ok rfl Try.func115 rfl (Nat.le_of_ble_eq_true rfl) (by decide) cok_impl_shows okc_impl_shows (fun k => noLoops rfl) (fun args m r h => match args, h with
    | [t0], h => ⟨rfl, (xe_impl_shows t0 m).trans h⟩)
theorem ok_C_impl_shows : OkC CT 115 C_impl_shows := fcall_ok rfl ok_X_impl_shows

/-! ### (impl.Cell).ok -/
noncomputable def cf_impl_Cell_ok : CallF := cfc 74 C_impl_isAttr (cfc 115 C_impl_shows cfn)
noncomputable def X_impl_Cell_ok : List Value → Mem → Option VM
  | [t0], m =>
    (boxX m t0) |> bo fun r1 =>
    (fadX 0 r1.1) |> bo fun t3 =>
    (ld1 r1.2 t3) |> bo fun t4 =>
    (C_impl_shows [t4] r1.2) |> bo fun r4 =>
    (gd r4.1 true ((fadX 1 r1.1) |> bo fun v => some (v, r4.2)) r4.2) |> bo fun r5 =>
    (gd r4.1 true ((ld1 r5.2 r5.1) |> bo fun v => some (v, r5.2)) r5.2) |> bo fun r6 =>
    (gd r4.1 true ((C_impl_isAttr [r6.1] r6.2) |> bo fun r => some (r.1, r.2)) r6.2) |> bo fun r7 =>
    (pickX r4.1 r7.1 (.bool false)) |> bo fun t10 =>
    retK m.length r7.2 [t0] t10
  | _, _ => none
noncomputable def C_impl_Cell_ok : List Value → Mem → Option VM := fcall X_impl_Cell_ok
@[simp] theorem c_impl_Cell_ok : C_impl_Cell_ok = fcall X_impl_Cell_ok := (rfl)
theorem cok_impl_Cell_ok : codeOk CT Try.f61 (Try.f61.body.get rfl) = true := by kernel_rfl
theorem xe_impl_Cell_ok (t0 : Value) (m : Mem) : ex CT cf_impl_Cell_ok Try.f61 1 m.length [] (fun _ _ _ => none) 400 [.code (Try.f61.body.get rfl)] (argsT 0 [t0]) m = X_impl_Cell_ok [t0] m := by kernel_rfl
theorem okc_impl_Cell_ok : CallOK CT cf_impl_Cell_ok := cfc_ok ok_C_impl_isAttr (cfc_ok ok_C_impl_shows cfn_ok)
theorem ok_X_impl_Cell_ok : OkX CT 61 X_impl_Cell_ok := OkX.of_ex (cf := cf_impl_Cell_ok) (np := 1) (LL := []) (J := (fun _ _ _ _ => none)) CT_ok rfl Try.func61 rfl (Nat.le_of_ble_eq_true rfl) (by decide) cok_impl_Cell_ok okc_impl_Cell_ok (fun k => noLoops rfl) (fun args m r h => match args, h with
    | [t0], h => ⟨rfl, (xe_impl_Cell_ok t0 m).trans h⟩)
theorem ok_C_impl_Cell_ok : OkC CT 61 C_impl_Cell_ok := fcall_ok rfl ok_X_impl_Cell_ok

/-! ### impl.GridFault$1 -/
noncomputable def cf_impl_GridFault_1 : CallF := cfc 61 C_impl_Cell_ok cfn
noncomputable def X_impl_GridFault_1 : List Value → Mem → Option VM
  | [t0], m =>
    (boxX m t0) |> bo fun r1 =>
    (ldS r1.2 2 r1.1) |> bo fun t3 =>
    (C_impl_Cell_ok [t3] r1.2) |> bo fun r3 =>
    (uop .not r3.1) |> bo fun t5 =>
    retK m.length r3.2 [t0] t5
  | _, _ => none
noncomputable def C_impl_GridFault_1 : List Value → Mem → Option VM := fcall X_impl_GridFault_1
@[simp] theorem c_impl_GridFault_1 : C_impl_GridFault_1 = fcall X_impl_GridFault_1 := (rfl)
theorem cok_impl_GridFault_1 : codeOk CT Try.f81 (Try.f81.body.get rfl) = true := by kernel_rfl
theorem xe_impl_GridFault_1 (t0 : Value) (m : Mem) : ex CT cf_impl_GridFault_1 Try.f81 1 m.length [] (fun _ _ _ => none) 400 [.code (Try.f81.body.get rfl)] (argsT 0 [t0]) m = X_impl_GridFault_1 [t0] m := by kernel_rfl
theorem okc_impl_GridFault_1 : CallOK CT cf_impl_GridFault_1 := cfc_ok ok_C_impl_Cell_ok cfn_ok
theorem ok_X_impl_GridFault_1 : OkX CT 81 X_impl_GridFault_1 := OkX.of_ex (cf := cf_impl_GridFault_1) (np := 1) (LL := []) (J := (fun _ _ _ _ => none)) CT_ok rfl Try.func81 rfl (Nat.le_of_ble_eq_true rfl) (by decide) cok_impl_GridFault_1 okc_impl_GridFault_1 (fun k => noLoops rfl) (fun args m r h => match args, h with
    | [t0], h => ⟨rfl, (xe_impl_GridFault_1 t0 m).trans h⟩)
theorem ok_C_impl_GridFault_1 : OkC CT 81 C_impl_GridFault_1 := fcall_ok rfl ok_X_impl_GridFault_1

/-! ### slices.IndexFunc[[]impl.Cell,impl.Cell] -/
noncomputable def cf_slices_IndexFunc_impl_Cell_impl_Cell : CallF := cfc 81 C_impl_GridFault_1 cfn
noncomputable def L_slices_IndexFunc_impl_Cell_impl_Cell (k : Nat) : Nat → Nat → List Value → Mem → Option VM
  | q + 1, 0, [t0, t1, t7, t8], m =>
    (binX .lss .no t8 t7) |> bo fun t9 =>
    brX t9
      (
        (ixaX 2 t0 t8) |> bo fun t14 =>
        (ldS m 2 t14) |> bo fun t15 =>
        (callV cf_slices_IndexFunc_impl_Cell_impl_Cell t1 [t15] m) |> bo fun r4 =>
        brX r4.1
          (
            retK k r4.2 [t0, t1] t8)
          (
            (binX .add .no t8 (.int .i64 1)) |> bo fun t18 =>
            cutK k r4.2 [t0, t1] [t0, t1, t7, t18] (L_slices_IndexFunc_impl_Cell_impl_Cell k q 0)))
      (
        retK k m [t0, t1] (.int .i64 (-1)))
  | _, _, _, _ => none
noncomputable def J_slices_IndexFunc_impl_Cell_impl_Cell (k q l : Nat) : List Value → Mem → Option VM := cond (Nat.beq l 2) (L_slices_IndexFunc_impl_Cell_impl_Cell k q 0) (fun _ _ => none)
def LL_slices_IndexFunc_impl_Cell_impl_Cell : List (Nat × List Tmp) := [(2, [0, 1, 7, 8])]
noncomputable def X_slices_IndexFunc_impl_Cell_impl_Cell : List Value → Mem → Option VM
  | [t0, t1], m =>
    (lenX t0) |> bo fun t7 =>
    cutK m.length m [t0, t1] [t0, t1, t7, (.int .i64 0)] (L_slices_IndexFunc_impl_Cell_impl_Cell m.length QQ 0)
  | _, _ => none
noncomputable def C_slices_IndexFunc_impl_Cell_impl_Cell : List Value → Mem → Option VM := fcall X_slices_IndexFunc_impl_Cell_impl_Cell
@[simp] theorem c_slices_IndexFunc_impl_Cell_impl_Cell : C_slices_IndexFunc_impl_Cell_impl_Cell = fcall X_slices_IndexFunc_impl_Cell_impl_Cell := (rfl)
theorem cok_slices_IndexFunc_impl_Cell_impl_Cell : codeOk CT Try.f121 (Try.f121.body.get rfl) = true := by kernel_rfl
theorem xe_slices_IndexFunc_impl_Cell_impl_Cell (t0 t1 : Value) (m : Mem) : ex CT cf_slices_IndexFunc_impl_Cell_impl_Cell Try.f121 2 m.length LL_slices_IndexFunc_impl_Cell_impl_Cell (J_slices_IndexFunc_impl_Cell_impl_Cell m.length QQ) 400 [.code (Try.f121.body.get rfl)] (argsT 0 [t0, t1]) m = X_slices_IndexFunc_impl_Cell_impl_Cell [t0, t1] m := by kernel_rfl
theorem okc_slices_IndexFunc_impl_Cell_impl_Cell : CallOK CT cf_slices_IndexFunc_impl_Cell_impl_Cell := cfc_ok ok_C_impl_GridFault_1 cfn_ok
theorem le_slices_IndexFunc_impl_Cell_impl_Cell_0 (k q : Nat) (t0 t1 t7 t8 : Value) (m : Mem) : ex CT cf_slices_IndexFunc_impl_Cell_impl_Cell Try.f121 2 k LL_slices_IndexFunc_impl_Cell_impl_Cell (J_slices_IndexFunc_impl_Cell_impl_Cell k q) 400 (atLoop Try.f121 0) [(0, t0), (1, t1), (7, t7), (8, t8)] m = J_slices_IndexFunc_impl_Cell_impl_Cell k (q + 1) 2 [t0, t1, t7, t8] m := by kernel_rfl
theorem gl_slices_IndexFunc_impl_Cell_impl_Cell (k : Nat) : ∀ q i, i < 1 → GoodL CT k Try.f121 LL_slices_IndexFunc_impl_Cell_impl_Cell (J_slices_IndexFunc_impl_Cell_impl_Cell k q) (atLoop Try.f121 i)
  | 0, 0, _ => goodL_zero (l := 2) (by kernel_rfl) (fun vs m => by kernel_rfl)
  | 0, _ + 1, h => absurd h (by omega)
  | q + 1, 0, _ => goodL_succ (np := 2) (l := 2) (live := [0, 1, 7, 8]) (n := 1) CT_ok rfl okc_slices_IndexFunc_impl_Cell_impl_Cell (c := (Try.f121.body.get rfl)) rfl cok_slices_IndexFunc_impl_Cell_impl_Cell (by kernel_rfl) (gl_slices_IndexFunc_impl_Cell_impl_Cell k q) (by kernel_rfl) rfl (fun vs m r hl h => match vs, hl with
    | [t0, t1, t7, t8], _ => (le_slices_IndexFunc_impl_Cell_impl_Cell_0 k q t0 t1 t7 t8 m).trans h)
  | _ + 1, _ + 1, h => absurd h (by omega)
theorem ok_X_slices_IndexFunc_impl_Cell_impl_Cell : OkX CT 121 X_slices_IndexFunc_impl_Cell_impl_Cell := OkX.of_ex (cf := cf_slices_IndexFunc_impl_Cell_impl_Cell) (np := 2) (LL := LL_slices_IndexFunc_impl_Cell_impl_Cell) (J := (fun k => J_slices_IndexFunc_impl_Cell_impl_Cell k QQ)) CT_ok rfl Try.func121 rfl (Nat.le_of_ble_eq_true rfl) (by decide) cok_slices_IndexFunc_impl_Cell_impl_Cell okc_slices_IndexFunc_impl_Cell_impl_Cell (fun k => allLoops rfl (by kernel_rfl) (gl_slices_IndexFunc_impl_Cell_impl_Cell k QQ)) (fun args m r h => match args, h with
    | [t0, t1], h => ⟨rfl, (xe_slices_IndexFunc_impl_Cell_impl_Cell t0 t1 m).trans h⟩)
theorem ok_C_slices_IndexFunc_impl_Cell_impl_Cell : OkC CT 121 C_slices_IndexFunc_impl_Cell_impl_Cell := fcall_ok rfl ok_X_slices_IndexFunc_impl_Cell_impl_Cell

/-! ### slices.ContainsFunc[[]impl.Cell,impl.Cell] -/
noncomputable def cf_slices_ContainsFunc_impl_Cell_impl_Cell : CallF := cfc 121 C_slices_IndexFunc_impl_Cell_impl_Cell cfn
noncomputable def X_slices_ContainsFunc_impl_Cell_impl_Cell : List Value → Mem → Option VM
  | [t0, t1], m =>
    (C_slices_IndexFunc_impl_Cell_impl_Cell [t0, t1] m) |> bo fun r1 =>
    (binX .geq .no r1.1 (.int .i64 0)) |> bo fun t8 =>
    retK m.length r1.2 [t0, t1] t8
  | _, _ => none
noncomputable def C_slices_ContainsFunc_impl_Cell_impl_Cell : List Value → Mem → Option VM := fcall X_slices_ContainsFunc_impl_Cell_impl_Cell
@[simp] theorem c_slices_ContainsFunc_impl_Cell_impl_Cell : C_slices_ContainsFunc_impl_Cell_impl_Cell = fcall X_slices_ContainsFunc_impl_Cell_impl_Cell := (rfl)
theorem cok_slices_ContainsFunc_impl_Cell_impl_Cell : codeOk CT Try.f83 (Try.f83.body.get rfl) = true := by kernel_rfl
theorem xe_slices_ContainsFunc_impl_Cell_impl_Cell (t0 t1 : Value) (m : Mem) : ex CT cf_slices_ContainsFunc_impl_Cell_impl_Cell Try.f83 2 m.length [] (fun _ _ _ => none) 400 [.code (Try.f83.body.get rfl)] (argsT 0 [t0, t1]) m = X_slices_ContainsFunc_impl_Cell_impl_Cell [t0, t1] m := by kernel_rfl
theorem okc_slices_ContainsFunc_impl_Cell_impl_Cell : CallOK CT cf_slices_ContainsFunc_impl_Cell_impl_Cell := cfc_ok ok_C_slices_IndexFunc_impl_Cell_impl_Cell cfn_ok
theorem ok_X_slices_ContainsFunc_impl_Cell_impl_Cell : OkX CT 83 X_slices_ContainsFunc_impl_Cell_impl_Cell := OkX.of_ex (cf := cf_slices_ContainsFunc_impl_Cell_impl_Cell) (np := 2) (LL := []) (J := (fun _ _ _ _ => none)) CT_ok rfl Try.func83 rfl (Nat.le_of_ble_eq_true rfl) (by decide) cok_slices_ContainsFunc_impl_Cell_impl_Cell okc_slices_ContainsFunc_impl_Cell_impl_Cell (fun k => noLoops rfl) (fun args m r h => match args, h with
    | [t0, t1], h => ⟨rfl, (xe_slices_ContainsFunc_impl_Cell_impl_Cell t0 t1 m).trans h⟩)
theorem ok_C_slices_ContainsFunc_impl_Cell_impl_Cell : OkC CT 83 C_slices_ContainsFunc_impl_Cell_impl_Cell := fcall_ok rfl ok_X_slices_ContainsFunc_impl_Cell_impl_Cell

/-! ### impl.GridFault -/
noncomputable def cf_impl_GridFault : CallF := cfc 80 C_impl_sizeOk (cfc 82 C_impl_unless (cfc 83 C_slices_ContainsFunc_impl_Cell_impl_Cell cfn))
noncomputable def X_impl_GridFault : List Value → Mem → Option VM
  | [t0], m =>
    (boxX m t0) |> bo fun r1 =>
    (fadX 0 r1.1) |> bo fun t5 =>
    (ld1 r1.2 t5) |> bo fun t6 =>
    (fadX 1 r1.1) |> bo fun t7 =>
    (ld1 r1.2 t7) |> bo fun t8 =>
    (C_impl_sizeOk [t6, t8] r1.2) |> bo fun r6 =>
    (uop .not r6.1) |> bo fun t10 =>
    brX t10
      (
        retK m.length r6.2 [t0] (.int .i64 3))
      (
        (fadX 3 r1.1) |> bo fun t11 =>
        (ld1 r6.2 t11) |> bo fun t12 =>
        (lenX t12) |> bo fun t13 =>
        (fadX 2 r1.1) |> bo fun t14 =>
        (ld1 r6.2 t14) |> bo fun t15 =>
        (lenX t15) |> bo fun t16 =>
        (fadX 0 r1.1) |> bo fun t17 =>
        (ld1 r6.2 t17) |> bo fun t18 =>
        (fadX 1 r1.1) |> bo fun t19 =>
        (ld1 r6.2 t19) |> bo fun t20 =>
        (binX .mul .no t18 t20) |> bo fun t21 =>
        (binX .neq .no t16 t21) |> bo fun t22 =>
        (gd t22 false (some (t13, r6.2)) r6.2) |> bo fun r20 =>
        (gd t22 false ((fadX 1 r1.1) |> bo fun v => some (v, r20.2)) r20.2) |> bo fun r21 =>
        (gd t22 false ((ld1 r21.2 r21.1) |> bo fun v => some (v, r21.2)) r21.2) |> bo fun r22 =>
        (gd t22 false ((binX .mul .no (.int .i64 5) r22.1) |> bo fun v => some (v, r22.2)) r22.2) |> bo fun r23 =>
        (gd t22 false ((binX .gtr .no r20.1 r23.1) |> bo fun v => some (v, r23.2)) r23.2) |> bo fun r24 =>
        (pickX t22 (.bool true) r24.1) |> bo fun t29 =>
        (gd t29 false (some (t13, r24.2)) r24.2) |> bo fun r26 =>
        (gd t29 false ((fadX 1 r1.1) |> bo fun v => some (v, r26.2)) r26.2) |> bo fun r27 =>
        (gd t29 false ((ld1 r27.2 r27.1) |> bo fun v => some (v, r27.2)) r27.2) |> bo fun r28 =>
        (gd t29 false ((binX .rem .no r26.1 r28.1) |> bo fun v => some (v, r28.2)) r28.2) |> bo fun r29 =>
        (gd t29 false ((binX .neq .no r29.1 (.int .i64 0)) |> bo fun v => some (v, r29.2)) r29.2) |> bo fun r30 =>
        (pickX t29 (.bool true) r30.1) |> bo fun t36 =>
        brX t36
          (
            retK m.length r30.2 [t0] (.int .i64 1))
          (
            (fadX 2 r1.1) |> bo fun t37 =>
            (ld1 r30.2 t37) |> bo fun t38 =>
            (C_slices_ContainsFunc_impl_Cell_impl_Cell [t38, (.func (.func 81) #[] #[])] r30.2) |> bo fun r34 =>
            (uop .not r34.1) |> bo fun t41 =>
            (gd t41 true ((fadX 3 r1.1) |> bo fun v => some (v, r34.2)) r34.2) |> bo fun r36 =>
            (gd t41 true ((ld1 r36.2 r36.1) |> bo fun v => some (v, r36.2)) r36.2) |> bo fun r37 =>
            (gd t41 true (some ((.func (.func 81) #[] #[]), r37.2)) r37.2) |> bo fun r38 =>
            (gd t41 true ((C_slices_ContainsFunc_impl_Cell_impl_Cell [r37.1, r38.1] r38.2) |> bo fun r => some (r.1, r.2)) r38.2) |> bo fun r39 =>
            (gd t41 true ((uop .not r39.1) |> bo fun v => some (v, r39.2)) r39.2) |> bo fun r40 =>
            (pickX t41 r40.1 (.bool false)) |> bo fun t48 =>
            (C_impl_unless [t48, (.int .i64 3)] r40.2) |> bo fun r42 =>
            retK m.length r42.2 [t0] r42.1))
  | _, _ => none
noncomputable def C_impl_GridFault : List Value → Mem → Option VM := fcall X_impl_GridFault
@[simp] theorem c_impl_GridFault : C_impl_GridFault = fcall X_impl_GridFault := (rfl)
theorem cok_impl_GridFault : codeOk CT Try.f29 (Try.f29.body.get rfl) = true := by kernel_rfl
theorem xe_impl_GridFault (t0 : Value) (m : Mem) : ex CT cf_impl_GridFault Try.f29 1 m.length [] (fun _ _ _ => none) 400 [.code (Try.f29.body.get rfl)] (argsT 0 [t0]) m = X_impl_GridFault [t0] m := by kernel_rfl
theorem okc_impl_GridFault : CallOK CT cf_impl_GridFault := cfc_ok ok_C_impl_sizeOk (cfc_ok ok_C_impl_unless (cfc_ok ok_C_slices_ContainsFunc_impl_Cell_impl_Cell cfn_ok))
theorem ok_X_impl_GridFault : OkX CT 29 X_impl_GridFault := OkX.of_ex (cf := cf_impl_GridFault) (np := 1) (LL := []) (J := (fun _ _ _ _ => none)) CT_ok rfl Try.func29 rfl (Nat.le_of_ble_eq_true rfl) (by decide) cok_impl_GridFault okc_impl_GridFault (fun k => noLoops rfl) (fun args m r h => match args, h with
    | [t0], h => ⟨rfl, (xe_impl_GridFault t0 m).trans h⟩)
theorem ok_C_impl_GridFault : OkC CT 29 C_impl_GridFault := fcall_ok rfl ok_X_impl_GridFault

/-! ### slices.Equal[[]impl.Cell,impl.Cell] -/
noncomputable def cf_slices_Equal_impl_Cell_impl_Cell : CallF := cfn
noncomputable def L_slices_Equal_impl_Cell_impl_Cell (k : Nat) : Nat → Nat → List Value → Mem → Option VM
  | q + 1, 0, [t0, t1, t12, t13], m =>
    (binX .lss .no t13 t12) |> bo fun t14 =>
    brX t14
      (
        (ixaX 2 t0 t13) |> bo fun t18 =>
        (ldS m 2 t18) |> bo fun t19 =>
        (ixaX 2 t1 t13) |> bo fun t22 =>
        (ldS m 2 t22) |> bo fun t23 =>
        (binX .neq (.st [0, 1]) t19 t23) |> bo fun t24 =>
        brX t24
          (
            retK k m [t0, t1] (.bool false))
          (
            (binX .add .no t13 (.int .i64 1)) |> bo fun t25 =>
            cutK k m [t0, t1] [t0, t1, t12, t25] (L_slices_Equal_impl_Cell_impl_Cell k q 0)))
      (
        retK k m [t0, t1] (.bool true))
  | _, _, _, _ => none
noncomputable def J_slices_Equal_impl_Cell_impl_Cell (k q l : Nat) : List Value → Mem → Option VM := cond (Nat.beq l 4) (L_slices_Equal_impl_Cell_impl_Cell k q 0) (fun _ _ => none)
def LL_slices_Equal_impl_Cell_impl_Cell : List (Nat × List Tmp) := [(4, [0, 1, 12, 13])]
noncomputable def X_slices_Equal_impl_Cell_impl_Cell : List Value → Mem → Option VM
  | [t0, t1], m =>
    (lenX t0) |> bo fun t7 =>
    (lenX t1) |> bo fun t9 =>
    (binX .neq .no t7 t9) |> bo fun t10 =>
    brX t10
      (
        retK m.length m [t0, t1] (.bool false))
      (
        (lenX t0) |> bo fun t12 =>
        cutK m.length m [t0, t1] [t0, t1, t12, (.int .i64 0)] (L_slices_Equal_impl_Cell_impl_Cell m.length QQ 0))
  | _, _ => none
noncomputable def C_slices_Equal_impl_Cell_impl_Cell : List Value → Mem → Option VM := fcall X_slices_Equal_impl_Cell_impl_Cell
@[simp] theorem c_slices_Equal_impl_Cell_impl_Cell : C_slices_Equal_impl_Cell_impl_Cell = fcall X_slices_Equal_impl_Cell_impl_Cell := (rfl)
theorem cok_slices_Equal_impl_Cell_impl_Cell : codeOk CT Try.f88 (Try.f88.body.get rfl) = true := by kernel_rfl
theorem xe_slices_Equal_impl_Cell_impl_Cell (t0 t1 : Value) (m : Mem) : ex CT cf_slices_Equal_impl_Cell_impl_Cell Try.f88 2 m.length LL_slices_Equal_impl_Cell_impl_Cell (J_slices_Equal_impl_Cell_impl_Cell m.length QQ) 400 [.code (Try.f88.body.get rfl)] (argsT 0 [t0, t1]) m = X_slices_Equal_impl_Cell_impl_Cell [t0, t1] m := by kernel_rfl
theorem okc_slices_Equal_impl_Cell_impl_Cell : CallOK CT cf_slices_Equal_impl_Cell_impl_Cell := cfn_ok
theorem le_slices_Equal_impl_Cell_impl_Cell_0 (k q : Nat) (t0 t1 t12 t13 : Value) (m : Mem) : ex CT cf_slices_Equal_impl_Cell_impl_Cell Try.f88 2 k LL_slices_Equal_impl_Cell_impl_Cell (J_slices_Equal_impl_Cell_impl_Cell k q) 400 (atLoop Try.f88 0) [(0, t0), (1, t1), (12, t12), (13, t13)] m = J_slices_Equal_impl_Cell_impl_Cell k (q + 1) 4 [t0, t1, t12, t13] m := by kernel_rfl
theorem gl_slices_Equal_impl_Cell_impl_Cell (k : Nat) : ∀ q i, i < 1 → GoodL CT k Try.f88 LL_slices_Equal_impl_Cell_impl_Cell (J_slices_Equal_impl_Cell_impl_Cell k q) (atLoop Try.f88 i)
  | 0, 0, _ => goodL_zero (l := 4) (by kernel_rfl) (fun vs m => by kernel_rfl)
  | 0, _ + 1, h => absurd h (by omega)
  | q + 1, 0, _ => goodL_succ (np := 2) (l := 4) (live := [0, 1, 12, 13]) (n := 1) CT_ok rfl okc_slices_Equal_impl_Cell_impl_Cell (c := (Try.f88.body.get rfl)) rfl cok_slices_Equal_impl_Cell_impl_Cell (by kernel_rfl) (gl_slices_Equal_impl_Cell_impl_Cell k q) (by kernel_rfl) rfl (fun vs m r hl h => match vs, hl with
    | [t0, t1, t12, t13], _ => (le_slices_Equal_impl_Cell_impl_Cell_0 k q t0 t1 t12 t13 m).trans h)
  | _ + 1, _ + 1, h => absurd h (by omega)
theorem ok_X_slices_Equal_impl_Cell_impl_Cell : OkX CT 88 X_slices_Equal_impl_Cell_impl_Cell := OkX.of_ex (cf := cf_slices_Equal_impl_Cell_impl_Cell) (np := 2) (LL := LL_slices_Equal_impl_Cell_impl_Cell) (J := (fun k => J_slices_Equal_impl_Cell_impl_Cell k QQ)) CT_ok rfl Try.func88 rfl (Nat.le_of_ble_eq_true rfl) (by decide) cok_slices_Equal_impl_Cell_impl_Cell okc_slices_Equal_impl_Cell_impl_Cell (fun k => allLoops rfl (by kernel_rfl) (gl_slices_Equal_impl_Cell_impl_Cell k QQ)) (fun args m r h => match args, h with
    | [t0, t1], h => ⟨rfl, (xe_slices_Equal_impl_Cell_impl_Cell t0 t1 m).trans h⟩)
theorem ok_C_slices_Equal_impl_Cell_impl_Cell : OkC CT 88 C_slices_Equal_impl_Cell_impl_Cell := fcall_ok rfl ok_X_slices_Equal_impl_Cell_impl_Cell

/-! ### impl.SameGrids -/
noncomputable def cf_impl_SameGrids : CallF := cfc 88 C_slices_Equal_impl_Cell_impl_Cell cfn
noncomputable def X_impl_SameGrids : List Value → Mem → Option VM
  | [t0, t1], m =>
    (boxX m t0) |> bo fun r1 =>
    (boxX r1.2 t1) |> bo fun r2 =>
    (fadX 0 r1.1) |> bo fun t5 =>
    (ld1 r2.2 t5) |> bo fun t6 =>
    (fadX 0 r2.1) |> bo fun t7 =>
    (ld1 r2.2 t7) |> bo fun t8 =>
    (binX .eql .no t6 t8) |> bo fun t9 =>
    (gd t9 true ((fadX 1 r1.1) |> bo fun v => some (v, r2.2)) r2.2) |> bo fun r8 =>
    (gd t9 true ((ld1 r8.2 r8.1) |> bo fun v => some (v, r8.2)) r8.2) |> bo fun r9 =>
    (gd t9 true ((fadX 1 r2.1) |> bo fun v => some (v, r9.2)) r9.2) |> bo fun r10 =>
    (gd t9 true ((ld1 r10.2 r10.1) |> bo fun v => some (v, r10.2)) r10.2) |> bo fun r11 =>
    (gd t9 true ((binX .eql .no r9.1 r11.1) |> bo fun v => some (v, r11.2)) r11.2) |> bo fun r12 =>
    (pickX t9 r12.1 (.bool false)) |> bo fun t16 =>
    (gd t16 true ((fadX 2 r1.1) |> bo fun v => some (v, r12.2)) r12.2) |> bo fun r14 =>
    (gd t16 true ((ld1 r14.2 r14.1) |> bo fun v => some (v, r14.2)) r14.2) |> bo fun r15 =>
    (gd t16 true ((fadX 2 r2.1) |> bo fun v => some (v, r15.2)) r15.2) |> bo fun r16 =>
    (gd t16 true ((ld1 r16.2 r16.1) |> bo fun v => some (v, r16.2)) r16.2) |> bo fun r17 =>
    (gd t16 true ((C_slices_Equal_impl_Cell_impl_Cell [r15.1, r17.1] r17.2) |> bo fun r => some (r.1, r.2)) r17.2) |> bo fun r18 =>
    (pickX t16 r18.1 (.bool false)) |> bo fun t23 =>
    (gd t23 true ((fadX 3 r1.1) |> bo fun v => some (v, r18.2)) r18.2) |> bo fun r20 =>
    (gd t23 true ((ld1 r20.2 r20.1) |> bo fun v => some (v, r20.2)) r20.2) |> bo fun r21 =>
    (gd t23 true ((fadX 3 r2.1) |> bo fun v => some (v, r21.2)) r21.2) |> bo fun r22 =>
    (gd t23 true ((ld1 r22.2 r22.1) |> bo fun v => some (v, r22.2)) r22.2) |> bo fun r23 =>
    (gd t23 true ((C_slices_Equal_impl_Cell_impl_Cell [r21.1, r23.1] r23.2) |> bo fun r => some (r.1, r.2)) r23.2) |> bo fun r24 =>
    (pickX t23 r24.1 (.bool false)) |> bo fun t30 =>
    retK m.length r24.2 [t0, t1] t30
  | _, _ => none
noncomputable def C_impl_SameGrids : List Value → Mem → Option VM := fcall X_impl_SameGrids
@[simp] theorem c_impl_SameGrids : C_impl_SameGrids = fcall X_impl_SameGrids := (rfl)
theorem cok_impl_SameGrids : codeOk CT Try.f33 (Try.f33.body.get rfl) = true := by kernel_rfl
theorem xe_impl_SameGrids (t0 t1 : Value) (m : Mem) : ex CT cf_impl_SameGrids Try.f33 2 m.length [] (fun _ _ _ => none) 400 [.code (Try.f33.body.get rfl)] (argsT 0 [t0, t1]) m = X_impl_SameGrids [t0, t1] m := by kernel_rfl
theorem okc_impl_SameGrids : CallOK CT cf_impl_SameGrids := cfc_ok ok_C_slices_Equal_impl_Cell_impl_Cell cfn_ok
theorem ok_X_impl_SameGrids : OkX CT 33 X_impl_SameGrids := OkX.of_ex (cf := cf_impl_SameGrids) (np := 2) (LL := []) (J := (fun _ _ _ _ => none)) CT_ok rfl Try.func33 rfl (Nat.le_of_ble_eq_true rfl) (by decide) cok_impl_SameGrids okc_impl_SameGrids (fun k => noLoops rfl) (fun args m r h => match args, h with
    | [t0, t1], h => ⟨rfl, (xe_impl_SameGrids t0 t1 m).trans h⟩)
theorem ok_C_impl_SameGrids : OkC CT 33 C_impl_SameGrids := fcall_ok rfl ok_X_impl_SameGrids

/-! ### spec.l1In -/
noncomputable def cf_spec_l1In : CallF := cfn
noncomputable def X_spec_l1In : List Value → Mem → Option VM
  | [t0, t1, t2], m =>
    (binX .geq .no t0 t1) |> bo fun t9 =>
    (gd t9 true (some (t0, m)) m) |> bo fun r2 =>
    (gd t9 true (some (t2, r2.2)) r2.2) |> bo fun r3 =>
    (gd t9 true ((binX .leq .no r2.1 r3.1) |> bo fun v => some (v, r3.2)) r3.2) |> bo fun r4 =>
    (pickX t9 r4.1 (.bool false)) |> bo fun t14 =>
    retK m.length r4.2 [t0, t1, t2] t14
  | _, _ => none
noncomputable def C_spec_l1In : List Value → Mem → Option VM := fcall X_spec_l1In
@[simp] theorem c_spec_l1In : C_spec_l1In = fcall X_spec_l1In := (rfl)
theorem cok_spec_l1In : codeOk CT Try.f77 (Try.f77.body.get rfl) = true := by kernel_rfl
theorem xe_spec_l1In (t0 t1 t2 : Value) (m : Mem) : ex CT cf_spec_l1In Try.f77 3 m.length [] (fun _ _ _ => none) 400 [.code (Try.f77.body.get rfl)] (argsT 0 [t0, t1, t2]) m = X_spec_l1In [t0, t1, t2] m := by kernel_rfl
theorem okc_spec_l1In : CallOK CT cf_spec_l1In := cfn_ok
theorem ok_X_spec_l1In : OkX CT 77 X_spec_l1In := OkX.of_ex (cf := cf_spec_l1In) (np := 3) (LL := []) (J := (fun _ _ _ _ => none)) CT_ok rfl Try.func77 rfl (Nat.le_of_ble_eq_true rfl) (by decide) cok_spec_l1In okc_spec_l1In (fun k => noLoops rfl) (fun args m r h => match args, h with
    | [t0, t1, t2], h => ⟨rfl, (xe_spec_l1In t0 t1 t2 m).trans h⟩)
theorem ok_C_spec_l1In : OkC CT 77 C_spec_l1In := fcall_ok rfl ok_X_spec_l1In

/-! ### spec.l3Size -/
noncomputable def cf_spec_l3Size : CallF := cfc 77 C_spec_l1In cfn
noncomputable def X_spec_l3Size : List Value → Mem → Option VM
  | [t0, t1], m =>
    (C_spec_l1In [t0, (.int .i64 1), (.int .i64 6)] m) |> bo fun r1 =>
    (gd r1.1 true (some (t1, r1.2)) r1.2) |> bo fun r2 =>
    (gd r1.1 true ((C_spec_l1In [r2.1, (.int .i64 2), (.int .i64 12)] r2.2) |> bo fun r => some (r.1, r.2)) r2.2) |> bo fun r3 =>
    (pickX r1.1 r3.1 (.bool false)) |> bo fun t10 =>
    retK m.length r3.2 [t0, t1] t10
  | _, _ => none
noncomputable def C_spec_l3Size : List Value → Mem → Option VM := fcall X_spec_l3Size
@[simp] theorem c_spec_l3Size : C_spec_l3Size = fcall X_spec_l3Size := (rfl)
theorem cok_spec_l3Size : codeOk CT Try.f93 (Try.f93.body.get rfl) = true := by kernel_rfl
theorem xe_spec_l3Size (t0 t1 : Value) (m : Mem) : ex CT cf_spec_l3Size Try.f93 2 m.length [] (fun _ _ _ => none) 400 [.code (Try.f93.body.get rfl)] (argsT 0 [t0, t1]) m = X_spec_l3Size [t0, t1] m := by kernel_rfl
theorem okc_spec_l3Size : CallOK CT cf_spec_l3Size := cfc_ok ok_C_spec_l1In cfn_ok
theorem ok_X_spec_l3Size : OkX CT 93 X_spec_l3Size := OkX.of_ex (cf := cf_spec_l3Size) (np := 2) (LL := []) (J := (fun _ _ _ _ => none)) CT_ok rfl Try.func93 rfl (Nat.le_of_ble_eq_true rfl) (by decide) cok_spec_l3Size okc_spec_l3Size (fun k => noLoops rfl) (fun args m r h => match args, h with
    | [t0, t1], h => ⟨rfl, (xe_spec_l3Size t0 t1 m).trans h⟩)
theorem ok_C_spec_l3Size : OkC CT 93 C_spec_l3Size := fcall_ok rfl ok_X_spec_l3Size

/-! ### spec.l1Char -/
noncomputable def cf_spec_l1Char : CallF := cfc 77 C_spec_l1In cfn
noncomputable def X_spec_l1Char : List Value → Mem → Option VM
  | [t0], m =>
    (C_spec_l1In [t0, (.int .i64 0), (.int .i64 55295)] m) |> bo fun r1 =>
    (gd r1.1 false (some (t0, r1.2)) r1.2) |> bo fun r2 =>
    (gd r1.1 false ((C_spec_l1In [r2.1, (.int .i64 57344), (.int .i64 65535)] r2.2) |> bo fun r => some (r.1, r.2)) r2.2) |> bo fun r3 =>
    (pickX r1.1 (.bool true) r3.1) |> bo fun t8 =>
    retK m.length r3.2 [t0] t8
  | _, _ => none
noncomputable def C_spec_l1Char : List Value → Mem → Option VM := fcall X_spec_l1Char
@[simp] theorem c_spec_l1Char : C_spec_l1Char = fcall X_spec_l1Char := (rfl)
theorem cok_spec_l1Char : codeOk CT Try.f113 (Try.f113.body.get rfl) = true := by kernel_rfl
theorem xe_spec_l1Char (t0 : Value) (m : Mem) : ex CT cf_spec_l1Char Try.f113 1 m.length [] (fun _ _ _ => none) 400 [.code (Try.f113.body.get rfl)] (argsT 0 [t0]) m = X_spec_l1Char [t0] m := by kernel_rfl
theorem okc_spec_l1Char : CallOK CT cf_spec_l1Char := cfc_ok ok_C_spec_l1In cfn_ok
theorem ok_X_spec_l1Char : OkX CT 113 X_spec_l1Char := OkX.of_ex (cf := cf_spec_l1Char) (np := 1) (LL := []) (J := (fun _ _ _ _ => none)) CT_ok rfl Try.func113 rfl (Nat.le_of_ble_eq_true rfl) (by decide) cok_spec_l1Char okc_spec_l1Char (fun k => noLoops rfl) (fun args m r h => match args, h with
    | [t0], h => ⟨rfl, (xe_spec_l1Char t0 m).trans h⟩)
theorem ok_C_spec_l1Char : OkC CT 113 C_spec_l1Char := fcall_ok rfl ok_X_spec_l1Char

/-! ### spec.l3Cell -/
noncomputable def cf_spec_l3Cell : CallF := cfc 77 C_spec_l1In (cfc 113 C_spec_l1Char cfn)
noncomputable def X_spec_l3Cell : List Value → Mem → Option VM
  | [t0], m =>
    (nilX t0) |> bo fun t4 =>
    (fadX 0 t4) |> bo fun t5 =>
    (ld1 m t5) |> bo fun t6 =>
    (C_spec_l1Char [t6] m) |> bo fun r4 =>
    (gd r4.1 true (some (t0, r4.2)) r4.2) |> bo fun r5 =>
    (gd r4.1 true ((nilX r5.1) |> bo fun v => some (v, r5.2)) r5.2) |> bo fun r6 =>
    (gd r4.1 true ((fadX 0 r6.1) |> bo fun v => some (v, r6.2)) r6.2) |> bo fun r7 =>
    (gd r4.1 true ((ld1 r7.2 r7.1) |> bo fun v => some (v, r7.2)) r7.2) |> bo fun r8 =>
    (gd r4.1 true ((binX .geq .no r8.1 (.int .i64 32)) |> bo fun v => some (v, r8.2)) r8.2) |> bo fun r9 =>
    (pickX r4.1 r9.1 (.bool false)) |> bo fun t14 =>
    (gd t14 true (some (t0, r9.2)) r9.2) |> bo fun r11 =>
    (gd t14 true ((nilX r11.1) |> bo fun v => some (v, r11.2)) r11.2) |> bo fun r12 =>
    (gd t14 true ((fadX 0 r12.1) |> bo fun v => some (v, r12.2)) r12.2) |> bo fun r13 =>
    (gd t14 true ((ld1 r13.2 r13.1) |> bo fun v => some (v, r13.2)) r13.2) |> bo fun r14 =>
    (gd t14 true ((binX .neq .no r14.1 (.int .i64 127)) |> bo fun v => some (v, r14.2)) r14.2) |> bo fun r15 =>
    (pickX t14 r15.1 (.bool false)) |> bo fun t21 =>
    (gd t21 true (some (t0, r15.2)) r15.2) |> bo fun r17 =>
    (gd t21 true ((nilX r17.1) |> bo fun v => some (v, r17.2)) r17.2) |> bo fun r18 =>
    (gd t21 true ((fadX 1 r18.1) |> bo fun v => some (v, r18.2)) r18.2) |> bo fun r19 =>
    (gd t21 true ((ld1 r19.2 r19.1) |> bo fun v => some (v, r19.2)) r19.2) |> bo fun r20 =>
    (gd t21 true ((C_spec_l1In [r20.1, (.int .i64 0), (.int .i64 31)] r20.2) |> bo fun r => some (r.1, r.2)) r20.2) |> bo fun r21 =>
    (pickX t21 r21.1 (.bool false)) |> bo fun t28 =>
    retK m.length r21.2 [t0] t28
  | _, _ => none
noncomputable def C_spec_l3Cell : List Value → Mem → Option VM := fcall X_spec_l3Cell
@[simp] theorem c_spec_l3Cell : C_spec_l3Cell = fcall X_spec_l3Cell := (rfl)
theorem cok_spec_l3Cell : codeOk CT Try.f55 (Try.f55.body.get rfl) = true := by kernel_rfl
theorem xe_spec_l3Cell (t0 : Value) (m : Mem) : ex CT cf_spec_l3Cell Try.f55 1 m.length [] (fun _ _ _ => none) 400 [.code (Try.f55.body.get rfl)] (argsT 0 [t0]) m = X_spec_l3Cell [t0] m := by kernel_rfl
theorem okc_spec_l3Cell : CallOK CT cf_spec_l3Cell := cfc_ok ok_C_spec_l1In (cfc_ok ok_C_spec_l1Char cfn_ok)
theorem ok_X_spec_l3Cell : OkX CT 55 X_spec_l3Cell := OkX.of_ex (cf := cf_spec_l3Cell) (np := 1) (LL := []) (J := (fun _ _ _ _ => none)) CT_ok rfl Try.func55 rfl (Nat.le_of_ble_eq_true rfl) (by decide) cok_spec_l3Cell okc_spec_l3Cell (fun k => noLoops rfl) (fun args m r h => match args, h with
    | [t0], h => ⟨rfl, (xe_spec_l3Cell t0 m).trans h⟩)
theorem ok_C_spec_l3Cell : OkC CT 55 C_spec_l3Cell := fcall_ok rfl ok_X_spec_l3Cell

/-! ### spec.l3Cells -/
noncomputable def cf_spec_l3Cells : CallF := cfc 55 C_spec_l3Cell cfn
noncomputable def L_spec_l3Cells (k : Nat) : Nat → Nat → List Value → Mem → Option VM
  | q + 1, 0, [t0, t3], m =>
    (lenX t0) |> bo fun t6 =>
    (binX .lss .no t3 t6) |> bo fun t7 =>
    brX t7
      (
        (ixaX 2 t0 t3) |> bo fun t12 =>
        (C_spec_l3Cell [t12] m) |> bo fun r4 =>
        (uop .not r4.1) |> bo fun t14 =>
        brX t14
          (
            retK k r4.2 [t0] (.bool false))
          (
            (binX .add .no t3 (.int .i64 1)) |> bo fun t9 =>
            cutK k r4.2 [t0] [t0, t9] (L_spec_l3Cells k q 0)))
      (
        retK k m [t0] (.bool true))
  | _, _, _, _ => none
noncomputable def J_spec_l3Cells (k q l : Nat) : List Value → Mem → Option VM := cond (Nat.beq l 2) (L_spec_l3Cells k q 0) (fun _ _ => none)
def LL_spec_l3Cells : List (Nat × List Tmp) := [(2, [0, 3])]
noncomputable def X_spec_l3Cells : List Value → Mem → Option VM
  | [t0], m =>
    cutK m.length m [t0] [t0, (.int .i64 0)] (L_spec_l3Cells m.length QQ 0)
  | _, _ => none
noncomputable def C_spec_l3Cells : List Value → Mem → Option VM := fcall X_spec_l3Cells
@[simp] theorem c_spec_l3Cells : C_spec_l3Cells = fcall X_spec_l3Cells := (rfl)
theorem cok_spec_l3Cells : codeOk CT Try.f112 (Try.f112.body.get rfl) = true := by kernel_rfl
theorem xe_spec_l3Cells (t0 : Value) (m : Mem) : ex CT cf_spec_l3Cells Try.f112 1 m.length LL_spec_l3Cells (J_spec_l3Cells m.length QQ) 400 [.code (Try.f112.body.get rfl)] (argsT 0 [t0]) m = X_spec_l3Cells [t0] m := by kernel_rfl
theorem okc_spec_l3Cells : CallOK CT cf_spec_l3Cells := cfc_ok ok_C_spec_l3Cell cfn_ok
theorem le_spec_l3Cells_0 (k q : Nat) (t0 t3 : Value) (m : Mem) : ex CT cf_spec_l3Cells Try.f112 1 k LL_spec_l3Cells (J_spec_l3Cells k q) 400 (atLoop Try.f112 0) [(0, t0), (3, t3)] m = J_spec_l3Cells k (q + 1) 2 [t0, t3] m := by kernel_rfl
theorem gl_spec_l3Cells (k : Nat) : ∀ q i, i < 1 → GoodL CT k Try.f112 LL_spec_l3Cells (J_spec_l3Cells k q) (atLoop Try.f112 i)
  | 0, 0, _ => goodL_zero (l := 2) (by kernel_rfl) (fun vs m => by kernel_rfl)
  | 0, _ + 1, h => absurd h (by omega)
  | q + 1, 0, _ => goodL_succ (np := 1) (l := 2) (live := [0, 3]) (n := 1) CT_ok rfl okc_spec_l3Cells (c := (Try.f112.body.get rfl)) rfl cok_spec_l3Cells (by kernel_rfl) (gl_spec_l3Cells k q) (by kernel_rfl) rfl (fun vs m r hl h => match vs, hl with
    | [t0, t3], _ => (le_spec_l3Cells_0 k q t0 t3 m).trans h)
  | _ + 1, _ + 1, h => absurd h (by omega)
theorem ok_X_spec_l3Cells : OkX CT 112 X_spec_l3Cells := OkX.of_ex (cf := cf_spec_l3Cells) (np := 1) (LL := LL_spec_l3Cells) (J := (fun k => J_spec_l3Cells k QQ)) CT_ok rfl Try.func112 rfl (Nat.le_of_ble_eq_true rfl) (by decide) cok_spec_l3Cells okc_spec_l3Cells (fun k => allLoops rfl (by kernel_rfl) (gl_spec_l3Cells k QQ)) (fun args m r h => match args, h with
    | [t0], h => ⟨rfl, (xe_spec_l3Cells t0 m).trans h⟩)
theorem ok_C_spec_l3Cells : OkC CT 112 C_spec_l3Cells := fcall_ok rfl ok_X_spec_l3Cells

/-! ### spec.l3Fault -/
noncomputable def cf_spec_l3Fault : CallF := cfc 93 C_spec_l3Size (cfc 112 C_spec_l3Cells cfn)
noncomputable def X_spec_l3Fault : List Value → Mem → Option VM
  | [t0], m =>
    (nilX t0) |> bo fun t5 =>
    (fadX 0 t5) |> bo fun t6 =>
    (ld1 m t6) |> bo fun t7 =>
    (nilX t0) |> bo fun t9 =>
    (fadX 1 t9) |> bo fun t10 =>
    (ld1 m t10) |> bo fun t11 =>
    (C_spec_l3Size [t7, t11] m) |> bo fun r7 =>
    (uop .not r7.1) |> bo fun t13 =>
    brX t13
      (
        retK m.length r7.2 [t0] (.int .i64 3))
      (
        (nilX t0) |> bo fun t15 =>
        (fadX 3 t15) |> bo fun t16 =>
        (ld1 r7.2 t16) |> bo fun t17 =>
        (lenX t17) |> bo fun t18 =>
        (nilX t0) |> bo fun t20 =>
        (fadX 2 t20) |> bo fun t21 =>
        (ld1 r7.2 t21) |> bo fun t22 =>
        (lenX t22) |> bo fun t23 =>
        (nilX t0) |> bo fun t25 =>
        (fadX 0 t25) |> bo fun t26 =>
        (ld1 r7.2 t26) |> bo fun t27 =>
        (nilX t0) |> bo fun t29 =>
        (fadX 1 t29) |> bo fun t30 =>
        (ld1 r7.2 t30) |> bo fun t31 =>
        (binX .mul .no t27 t31) |> bo fun t32 =>
        (binX .neq .no t23 t32) |> bo fun t33 =>
        (gd t33 false (some (t18, r7.2)) r7.2) |> bo fun r25 =>
        (gd t33 false (some (t0, r25.2)) r25.2) |> bo fun r26 =>
        (gd t33 false ((nilX r26.1) |> bo fun v => some (v, r26.2)) r26.2) |> bo fun r27 =>
        (gd t33 false ((fadX 1 r27.1) |> bo fun v => some (v, r27.2)) r27.2) |> bo fun r28 =>
        (gd t33 false ((ld1 r28.2 r28.1) |> bo fun v => some (v, r28.2)) r28.2) |> bo fun r29 =>
        (gd t33 false ((binX .mul .no (.int .i64 5) r29.1) |> bo fun v => some (v, r29.2)) r29.2) |> bo fun r30 =>
        (gd t33 false ((binX .gtr .no r25.1 r30.1) |> bo fun v => some (v, r30.2)) r30.2) |> bo fun r31 =>
        (pickX t33 (.bool true) r31.1) |> bo fun t42 =>
        (gd t42 false (some (t18, r31.2)) r31.2) |> bo fun r33 =>
        (gd t42 false (some (t0, r33.2)) r33.2) |> bo fun r34 =>
        (gd t42 false ((nilX r34.1) |> bo fun v => some (v, r34.2)) r34.2) |> bo fun r35 =>
        (gd t42 false ((fadX 1 r35.1) |> bo fun v => some (v, r35.2)) r35.2) |> bo fun r36 =>
        (gd t42 false ((ld1 r36.2 r36.1) |> bo fun v => some (v, r36.2)) r36.2) |> bo fun r37 =>
        (gd t42 false ((binX .rem .no r33.1 r37.1) |> bo fun v => some (v, r37.2)) r37.2) |> bo fun r38 =>
        (gd t42 false ((binX .neq .no r38.1 (.int .i64 0)) |> bo fun v => some (v, r38.2)) r38.2) |> bo fun r39 =>
        (pickX t42 (.bool true) r39.1) |> bo fun t51 =>
        brX t51
          (
            retK m.length r39.2 [t0] (.int .i64 1))
          (
            (nilX t0) |> bo fun t53 =>
            (fadX 2 t53) |> bo fun t54 =>
            (ld1 r39.2 t54) |> bo fun t55 =>
            (C_spec_l3Cells [t55] r39.2) |> bo fun r44 =>
            (uop .not r44.1) |> bo fun t57 =>
            (gd t57 false (some (t0, r44.2)) r44.2) |> bo fun r46 =>
            (gd t57 false ((nilX r46.1) |> bo fun v => some (v, r46.2)) r46.2) |> bo fun r47 =>
            (gd t57 false ((fadX 3 r47.1) |> bo fun v => some (v, r47.2)) r47.2) |> bo fun r48 =>
            (gd t57 false ((ld1 r48.2 r48.1) |> bo fun v => some (v, r48.2)) r48.2) |> bo fun r49 =>
            (gd t57 false ((C_spec_l3Cells [r49.1] r49.2) |> bo fun r => some (r.1, r.2)) r49.2) |> bo fun r50 =>
            (gd t57 false ((uop .not r50.1) |> bo fun v => some (v, r50.2)) r50.2) |> bo fun r51 =>
            (pickX t57 (.bool true) r51.1) |> bo fun t65 =>
            brX t65
              (
                retK m.length r51.2 [t0] (.int .i64 3))
              (
                retK m.length r51.2 [t0] (.int .i64 0))))
  | _, _ => none
noncomputable def C_spec_l3Fault : List Value → Mem → Option VM := fcall X_spec_l3Fault
@[simp] theorem c_spec_l3Fault : C_spec_l3Fault = fcall X_spec_l3Fault := (rfl)
theorem cok_spec_l3Fault : codeOk CT Try.f52 (Try.f52.body.get rfl) = true := by kernel_rfl
theorem xe_spec_l3Fault (t0 : Value) (m : Mem) : ex CT cf_spec_l3Fault Try.f52 1 m.length [] (fun _ _ _ => none) 400 [.code (Try.f52.body.get rfl)] (argsT 0 [t0]) m = X_spec_l3Fault [t0] m := by kernel_rfl
theorem okc_spec_l3Fault : CallOK CT cf_spec_l3Fault := cfc_ok ok_C_spec_l3Size (cfc_ok ok_C_spec_l3Cells cfn_ok)
theorem ok_X_spec_l3Fault : OkX CT 52 X_spec_l3Fault := OkX.of_ex (cf := cf_spec_l3Fault) (np := 1) (LL := []) (J := (fun _ _ _ _ => none)) CT_ok rfl Try.func52 rfl (Nat.le_of_ble_eq_true rfl) (by decide) cok_spec_l3Fault okc_spec_l3Fault (fun k => noLoops rfl) (fun args m r h => match args, h with
    | [t0], h => ⟨rfl, (xe_spec_l3Fault t0 m).trans h⟩)
theorem ok_C_spec_l3Fault : OkC CT 52 C_spec_l3Fault := fcall_ok rfl ok_X_spec_l3Fault

/-! ### spec.l3Bad -/
noncomputable def cf_spec_l3Bad : CallF := cfn
noncomputable def X_spec_l3Bad : List Value → Mem → Option VM
  | [t0], m =>
    (alX m [.int .i64 0, .int .i64 0, .int .i64 0, .slice none 0 0, .slice none 0 0]) |> bo fun r1 =>
    (bldX [.int .i64 0, .int .i64 0, .int .i64 0, .slice none 0 0, .slice none 0 0] [(0, 1, t0)]) |> bo fun t4 =>
    (stX r1.2 5 r1.1 t4) |> bo fun m3 =>
    (resP (some 5) m3 r1.1) |> bo fun c4 =>
    retK m.length m3 [t0] c4
  | _, _ => none
noncomputable def C_spec_l3Bad : List Value → Mem → Option VM := fcall X_spec_l3Bad
@[simp] theorem c_spec_l3Bad : C_spec_l3Bad = fcall X_spec_l3Bad := (rfl)
theorem cok_spec_l3Bad : codeOk CT Try.f53 (Try.f53.body.get rfl) = true := by kernel_rfl
theorem xe_spec_l3Bad (t0 : Value) (m : Mem) : ex CT cf_spec_l3Bad Try.f53 1 m.length [] (fun _ _ _ => none) 400 [.code (Try.f53.body.get rfl)] (argsT 0 [t0]) m = X_spec_l3Bad [t0] m := by kernel_rfl
theorem okc_spec_l3Bad : CallOK CT cf_spec_l3Bad := cfn_ok
theorem ok_X_spec_l3Bad : OkX CT 53 X_spec_l3Bad := OkX.of_ex (cf := cf_spec_l3Bad) (np := 1) (LL := []) (J := (fun _ _ _ _ => none)) CT_ok rfl Try.func53 rfl (Nat.le_of_ble_eq_true rfl) (by decide) cok_spec_l3Bad okc_spec_l3Bad (fun k => noLoops rfl) (fun args m r h => match args, h with
    | [t0], h => ⟨rfl, (xe_spec_l3Bad t0 m).trans h⟩)
theorem ok_C_spec_l3Bad : OkC CT 53 C_spec_l3Bad := fcall_ok rfl ok_X_spec_l3Bad

/-! ### spec.l3Place -/
noncomputable def cf_spec_l3Place : CallF := cfc 77 C_spec_l1In cfn
noncomputable def X_spec_l3Place : List Value → Mem → Option VM
  | [t0, t1, t2], m =>
    (nilX t0) |> bo fun t9 =>
    (fadX 0 t9) |> bo fun t10 =>
    (ld1 m t10) |> bo fun t11 =>
    (binX .sub .no t11 (.int .i64 1)) |> bo fun t12 =>
    (C_spec_l1In [t1, (.int .i64 0), t12] m) |> bo fun r5 =>
    (gd r5.1 true (some (t2, r5.2)) r5.2) |> bo fun r6 =>
    (gd r5.1 true (some (t0, r6.2)) r6.2) |> bo fun r7 =>
    (gd r5.1 true ((nilX r7.1) |> bo fun v => some (v, r7.2)) r7.2) |> bo fun r8 =>
    (gd r5.1 true ((fadX 1 r8.1) |> bo fun v => some (v, r8.2)) r8.2) |> bo fun r9 =>
    (gd r5.1 true ((ld1 r9.2 r9.1) |> bo fun v => some (v, r9.2)) r9.2) |> bo fun r10 =>
    (gd r5.1 true ((binX .sub .no r10.1 (.int .i64 1)) |> bo fun v => some (v, r10.2)) r10.2) |> bo fun r11 =>
    (gd r5.1 true ((C_spec_l1In [r6.1, (.int .i64 0), r11.1] r11.2) |> bo fun r => some (r.1, r.2)) r11.2) |> bo fun r12 =>
    (pickX r5.1 r12.1 (.bool false)) |> bo fun t22 =>
    retK m.length r12.2 [t0, t1, t2] t22
  | _, _ => none
noncomputable def C_spec_l3Place : List Value → Mem → Option VM := fcall X_spec_l3Place
@[simp] theorem c_spec_l3Place : C_spec_l3Place = fcall X_spec_l3Place := (rfl)
theorem cok_spec_l3Place : codeOk CT Try.f54 (Try.f54.body.get rfl) = true := by kernel_rfl
theorem xe_spec_l3Place (t0 t1 t2 : Value) (m : Mem) : ex CT cf_spec_l3Place Try.f54 3 m.length [] (fun _ _ _ => none) 400 [.code (Try.f54.body.get rfl)] (argsT 0 [t0, t1, t2]) m = X_spec_l3Place [t0, t1, t2] m := by kernel_rfl
theorem okc_spec_l3Place : CallOK CT cf_spec_l3Place := cfc_ok ok_C_spec_l1In cfn_ok
theorem ok_X_spec_l3Place : OkX CT 54 X_spec_l3Place := OkX.of_ex (cf := cf_spec_l3Place) (np := 3) (LL := []) (J := (fun _ _ _ _ => none)) CT_ok rfl Try.func54 rfl (Nat.le_of_ble_eq_true rfl) (by decide) cok_spec_l3Place okc_spec_l3Place (fun k => noLoops rfl) (fun args m r h => match args, h with
    | [t0, t1, t2], h => ⟨rfl, (xe_spec_l3Place t0 t1 t2 m).trans h⟩)
theorem ok_C_spec_l3Place : OkC CT 54 C_spec_l3Place := fcall_ok rfl ok_X_spec_l3Place

/-! ### spec.l3Copy -/
noncomputable def cf_spec_l3Copy : CallF := cfn
noncomputable def X_spec_l3Copy : List Value → Mem → Option VM
  | [t0], m =>
    (boxX m t0) |> bo fun r1 =>
    (alX r1.2 [.int .i64 0, .int .i64 0, .slice none 0 0, .slice none 0 0]) |> bo fun r2 =>
    (bslX r2.2 0 2 [.int .i64 0, .int .i64 0] []) |> bo fun r3 =>
    (fadX 2 r1.1) |> bo fun t4 =>
    (ld1 r3.2 t4) |> bo fun t5 =>
    (apL r3.2 2 16 r3.1 t5) |> bo fun r6 =>
    (fadX 2 r1.1) |> bo fun t7 =>
    (stX r6.2 1 t7 r6.1) |> bo fun m8 =>
    (bslX m8 0 2 [.int .i64 0, .int .i64 0] []) |> bo fun r9 =>
    (fadX 3 r1.1) |> bo fun t9 =>
    (ld1 r9.2 t9) |> bo fun t10 =>
    (apL r9.2 2 16 r9.1 t10) |> bo fun r12 =>
    (fadX 3 r1.1) |> bo fun t12 =>
    (stX r12.2 1 t12 r12.1) |> bo fun m14 =>
    (ldS m14 4 r1.1) |> bo fun t13 =>
    (stX m14 4 r2.1 t13) |> bo fun m16 =>
    (resP (some 4) m16 r2.1) |> bo fun c17 =>
    retK m.length m16 [t0] c17
  | _, _ => none
noncomputable def C_spec_l3Copy : List Value → Mem → Option VM := fcall X_spec_l3Copy
@[simp] theorem c_spec_l3Copy : C_spec_l3Copy = fcall X_spec_l3Copy := (rfl)
theorem cok_spec_l3Copy : codeOk CT Try.f56 (Try.f56.body.get rfl) = true := by kernel_rfl
theorem xe_spec_l3Copy (t0 : Value) (m : Mem) : ex CT cf_spec_l3Copy Try.f56 1 m.length [] (fun _ _ _ => none) 400 [.code (Try.f56.body.get rfl)] (argsT 0 [t0]) m = X_spec_l3Copy [t0] m := by kernel_rfl
theorem okc_spec_l3Copy : CallOK CT cf_spec_l3Copy := cfn_ok
theorem ok_X_spec_l3Copy : OkX CT 56 X_spec_l3Copy := OkX.of_ex (cf := cf_spec_l3Copy) (np := 1) (LL := []) (J := (fun _ _ _ _ => none)) CT_ok rfl Try.func56 rfl (Nat.le_of_ble_eq_true rfl) (by decide) cok_spec_l3Copy okc_spec_l3Copy (fun k => noLoops rfl) (fun args m r h => match args, h with
    | [t0], h => ⟨rfl, (xe_spec_l3Copy t0 m).trans h⟩)
theorem ok_C_spec_l3Copy : OkC CT 56 C_spec_l3Copy := fcall_ok rfl ok_X_spec_l3Copy

/-! ### spec.l3Attr -/
noncomputable def cf_spec_l3Attr : CallF := cfc 77 C_spec_l1In cfn
noncomputable def X_spec_l3Attr : List Value → Mem → Option VM
  | [t0], m =>
    (C_spec_l1In [t0, (.int .i64 0), (.int .i64 31)] m) |> bo fun r1 =>
    retK m.length r1.2 [t0] r1.1
  | _, _ => none
noncomputable def C_spec_l3Attr : List Value → Mem → Option VM := fcall X_spec_l3Attr
@[simp] theorem c_spec_l3Attr : C_spec_l3Attr = fcall X_spec_l3Attr := (rfl)
theorem cok_spec_l3Attr : codeOk CT Try.f78 (Try.f78.body.get rfl) = true := by kernel_rfl
theorem xe_spec_l3Attr (t0 : Value) (m : Mem) : ex CT cf_spec_l3Attr Try.f78 1 m.length [] (fun _ _ _ => none) 400 [.code (Try.f78.body.get rfl)] (argsT 0 [t0]) m = X_spec_l3Attr [t0] m := by kernel_rfl
theorem okc_spec_l3Attr : CallOK CT cf_spec_l3Attr := cfc_ok ok_C_spec_l1In cfn_ok
theorem ok_X_spec_l3Attr : OkX CT 78 X_spec_l3Attr := OkX.of_ex (cf := cf_spec_l3Attr) (np := 1) (LL := []) (J := (fun _ _ _ _ => none)) CT_ok rfl Try.func78 rfl (Nat.le_of_ble_eq_true rfl) (by decide) cok_spec_l3Attr okc_spec_l3Attr (fun k => noLoops rfl) (fun args m r h => match args, h with
    | [t0], h => ⟨rfl, (xe_spec_l3Attr t0 m).trans h⟩)
theorem ok_C_spec_l3Attr : OkC CT 78 C_spec_l3Attr := fcall_ok rfl ok_X_spec_l3Attr

/-! ### spec.l3RowOf -/
noncomputable def cf_spec_l3RowOf : CallF := cfn
noncomputable def X_spec_l3RowOf : List Value → Mem → Option VM
  | [t0, t1], m =>
    (bslX m 0 2 [.int .i64 0, .int .i64 0] []) |> bo fun r1 =>
    (nilX t0) |> bo fun t7 =>
    (fadX 2 t7) |> bo fun t8 =>
    (ld1 r1.2 t8) |> bo fun t9 =>
    (nilX t0) |> bo fun t12 =>
    (fadX 1 t12) |> bo fun t13 =>
    (ld1 r1.2 t13) |> bo fun t14 =>
    (binX .mul .no t1 t14) |> bo fun t15 =>
    (binX .add .no t1 (.int .i64 1)) |> bo fun t17 =>
    (nilX t0) |> bo fun t19 =>
    (fadX 1 t19) |> bo fun t20 =>
    (ld1 r1.2 t20) |> bo fun t21 =>
    (binX .mul .no t17 t21) |> bo fun t22 =>
    (slX r1.2 2 t9 (some t15) (some t22)) |> bo fun t23 =>
    (apL r1.2 2 16 r1.1 t23) |> bo fun r15 =>
    retK m.length r15.2 [t0, t1] r15.1
  | _, _ => none
noncomputable def C_spec_l3RowOf : List Value → Mem → Option VM := fcall X_spec_l3RowOf
@[simp] theorem c_spec_l3RowOf : C_spec_l3RowOf = fcall X_spec_l3RowOf := (rfl)
theorem cok_spec_l3RowOf : codeOk CT Try.f126 (Try.f126.body.get rfl) = true := by kernel_rfl
theorem xe_spec_l3RowOf (t0 t1 : Value) (m : Mem) : ex CT cf_spec_l3RowOf Try.f126 2 m.length [] (fun _ _ _ => none) 400 [.code (Try.f126.body.get rfl)] (argsT 0 [t0, t1]) m = X_spec_l3RowOf [t0, t1] m := by kernel_rfl
theorem okc_spec_l3RowOf : CallOK CT cf_spec_l3RowOf := cfn_ok
theorem ok_X_spec_l3RowOf : OkX CT 126 X_spec_l3RowOf := OkX.of_ex (cf := cf_spec_l3RowOf) (np := 2) (LL := []) (J := (fun _ _ _ _ => none)) CT_ok rfl Try.func126 rfl (Nat.le_of_ble_eq_true rfl) (by decide) cok_spec_l3RowOf okc_spec_l3RowOf (fun k => noLoops rfl) (fun args m r h => match args, h with
    | [t0, t1], h => ⟨rfl, (xe_spec_l3RowOf t0 t1 m).trans h⟩)
theorem ok_C_spec_l3RowOf : OkC CT 126 C_spec_l3RowOf := fcall_ok rfl ok_X_spec_l3RowOf

/-! ### spec.l3Row -/
noncomputable def cf_spec_l3Row : CallF := cfn
noncomputable def X_spec_l3Row : List Value → Mem → Option VM
  | [t0, t1, t2], m =>
    (nilX t0) |> bo fun t7 =>
    (fadX 2 t7) |> bo fun t8 =>
    (ld1 m t8) |> bo fun t9 =>
    (nilX t0) |> bo fun t12 =>
    (fadX 1 t12) |> bo fun t13 =>
    (ld1 m t13) |> bo fun t14 =>
    (binX .mul .no t1 t14) |> bo fun t15 =>
    (binX .add .no t1 (.int .i64 1)) |> bo fun t17 =>
    (nilX t0) |> bo fun t19 =>
    (fadX 1 t19) |> bo fun t20 =>
    (ld1 m t20) |> bo fun t21 =>
    (binX .mul .no t17 t21) |> bo fun t22 =>
    (slX m 2 t9 (some t15) (some t22)) |> bo fun t23 =>
    (cpL m 2 t23 t2) |> bo fun r14 =>
    retK m.length r14.2 [t0, t1, t2] (.tuple #[])
  | _, _ => none
noncomputable def C_spec_l3Row : List Value → Mem → Option VM := rcall X_spec_l3Row
@[simp] theorem c_spec_l3Row : C_spec_l3Row = rcall X_spec_l3Row := (rfl)
theorem cok_spec_l3Row : codeOk CT Try.f127 (Try.f127.body.get rfl) = true := by kernel_rfl
theorem xe_spec_l3Row (t0 t1 t2 : Value) (m : Mem) : ex CT cf_spec_l3Row Try.f127 3 m.length [] (fun _ _ _ => none) 400 [.code (Try.f127.body.get rfl)] (argsT 0 [t0, t1, t2]) m = X_spec_l3Row [t0, t1, t2] m := by kernel_rfl
theorem okc_spec_l3Row : CallOK CT cf_spec_l3Row := cfn_ok
theorem ok_X_spec_l3Row : OkX CT 127 X_spec_l3Row := OkX.of_ex (cf := cf_spec_l3Row) (np := 3) (LL := []) (J := (fun _ _ _ _ => none)) CT_ok rfl Try.func127 rfl (Nat.le_of_ble_eq_true rfl) (by decide) cok_spec_l3Row okc_spec_l3Row (fun k => noLoops rfl) (fun args m r h => match args, h with
    | [t0, t1, t2], h => ⟨rfl, (xe_spec_l3Row t0 t1 t2 m).trans h⟩)
theorem ok_C_spec_l3Row : OkC CT 127 C_spec_l3Row := rcall_ok rfl ok_X_spec_l3Row

/-! ### spec.l3Shift -/
noncomputable def cf_spec_l3Shift : CallF := cfc 77 C_spec_l1In (cfc 126 C_spec_l3RowOf (cfc 127 C_spec_l3Row cfn))
noncomputable def L_spec_l3Shift (k : Nat) : Nat → Nat → List Value → Mem → Option VM
  | q + 1, 0, [t0, t1, t2, t3, t4, t10, t11, t12], m =>
    (nilX t0) |> bo fun t23 =>
    (fadX 1 t23) |> bo fun t24 =>
    (ld1 m t24) |> bo fun t25 =>
    (binX .lss .no t12 t25) |> bo fun t26 =>
    brX t26
      (
        (binX .sub .no t12 t3) |> bo fun t31 =>
        (nilX t0) |> bo fun t35 =>
        (fadX 1 t35) |> bo fun t36 =>
        (ld1 m t36) |> bo fun t37 =>
        (binX .sub .no t37 (.int .i64 1)) |> bo fun t38 =>
        (C_spec_l1In [t31, t2, t38] m) |> bo fun r10 =>
        brX r10.1
          (
            (ixaX 2 t10 t31) |> bo fun t44 =>
            (ldS r10.2 2 t44) |> bo fun t45 =>
            (ixaX 2 t11 t12) |> bo fun t46 =>
            (stX r10.2 2 t46 t45) |> bo fun m14 =>
            (binX .add .no t12 (.int .i64 1)) |> bo fun t28 =>
            cutK k m14 [t0, t1, t2, t3, t4] [t0, t1, t2, t3, t4, t10, t11, t28] (L_spec_l3Shift k q 0))
          (
            (bldX [.int .i64 0, .int .i64 0] [(0, 1, (.int .i64 32)), (1, 1, t4)]) |> bo fun t50 =>
            (ixaX 2 t11 t12) |> bo fun t51 =>
            (stX r10.2 2 t51 t50) |> bo fun m18 =>
            (binX .add .no t12 (.int .i64 1)) |> bo fun t28 =>
            cutK k m18 [t0, t1, t2, t3, t4] [t0, t1, t2, t3, t4, t10, t11, t28] (L_spec_l3Shift k q 0)))
      (
        (C_spec_l3Row [t0, t1, t11] m) |> bo fun r20 =>
        retK k r20.2 [t0, t1, t2, t3, t4] (.tuple #[]))
  | _, _, _, _ => none
noncomputable def J_spec_l3Shift (k q l : Nat) : List Value → Mem → Option VM := cond (Nat.beq l 3) (L_spec_l3Shift k q 0) (fun _ _ => none)
def LL_spec_l3Shift : List (Nat × List Tmp) := [(3, [0, 1, 2, 3, 4, 10, 11, 12])]
noncomputable def X_spec_l3Shift : List Value → Mem → Option VM
  | [t0, t1, t2, t3, t4], m =>
    (C_spec_l3RowOf [t0, t1] m) |> bo fun r1 =>
    (bslX r1.2 0 2 [.int .i64 0, .int .i64 0] []) |> bo fun r2 =>
    (apL r2.2 2 16 r2.1 r1.1) |> bo fun r3 =>
    cutK m.length r3.2 [t0, t1, t2, t3, t4] [t0, t1, t2, t3, t4, r1.1, r3.1, t2] (L_spec_l3Shift m.length QQ 0)
  | _, _ => none
noncomputable def C_spec_l3Shift : List Value → Mem → Option VM := rcall X_spec_l3Shift
@[simp] theorem c_spec_l3Shift : C_spec_l3Shift = rcall X_spec_l3Shift := (rfl)
theorem cok_spec_l3Shift : codeOk CT Try.f89 (Try.f89.body.get rfl) = true := by kernel_rfl
theorem xe_spec_l3Shift (t0 t1 t2 t3 t4 : Value) (m : Mem) : ex CT cf_spec_l3Shift Try.f89 5 m.length LL_spec_l3Shift (J_spec_l3Shift m.length QQ) 400 [.code (Try.f89.body.get rfl)] (argsT 0 [t0, t1, t2, t3, t4]) m = X_spec_l3Shift [t0, t1, t2, t3, t4] m := by kernel_rfl
theorem okc_spec_l3Shift : CallOK CT cf_spec_l3Shift := cfc_ok ok_C_spec_l1In (cfc_ok ok_C_spec_l3RowOf (cfc_ok ok_C_spec_l3Row cfn_ok))
theorem le_spec_l3Shift_0 (k q : Nat) (t0 t1 t2 t3 t4 t10 t11 t12 : Value) (m : Mem) : ex CT cf_spec_l3Shift Try.f89 5 k LL_spec_l3Shift (J_spec_l3Shift k q) 400 (atLoop Try.f89 0) [(0, t0), (1, t1), (2, t2), (3, t3), (4, t4), (10, t10), (11, t11), (12, t12)] m = J_spec_l3Shift k (q + 1) 3 [t0, t1, t2, t3, t4, t10, t11, t12] m := by kernel_rfl
theorem gl_spec_l3Shift (k : Nat) : ∀ q i, i < 1 → GoodL CT k Try.f89 LL_spec_l3Shift (J_spec_l3Shift k q) (atLoop Try.f89 i)
  | 0, 0, _ => goodL_zero (l := 3) (by kernel_rfl) (fun vs m => by kernel_rfl)
  | 0, _ + 1, h => absurd h (by omega)
  | q + 1, 0, _ => goodL_succ (np := 5) (l := 3) (live := [0, 1, 2, 3, 4, 10, 11, 12]) (n := 1) CT_ok rfl okc_spec_l3Shift (c := (Try.f89.body.get rfl)) rfl cok_spec_l3Shift (by kernel_rfl) (gl_spec_l3Shift k q) (by kernel_rfl) rfl (fun vs m r hl h => match vs, hl with
    | [t0, t1, t2, t3, t4, t10, t11, t12], _ => (le_spec_l3Shift_0 k q t0 t1 t2 t3 t4 t10 t11 t12 m).trans h)
  | _ + 1, _ + 1, h => absurd h (by omega)
theorem ok_X_spec_l3Shift : OkX CT 89 X_spec_l3Shift := OkX.of_ex (cf := cf_spec_l3Shift) (np := 5) (LL := LL_spec_l3Shift) (J := (fun k => J_spec_l3Shift k QQ)) CT_ok rfl Try.func89 rfl (Nat.le_of_ble_eq_true rfl) (by decide) cok_spec_l3Shift okc_spec_l3Shift (fun k => allLoops rfl (by kernel_rfl) (gl_spec_l3Shift k QQ)) (fun args m r h => match args, h with
    | [t0, t1, t2, t3, t4], h => ⟨rfl, (xe_spec_l3Shift t0 t1 t2 t3 t4 m).trans h⟩)
theorem ok_C_spec_l3Shift : OkC CT 89 C_spec_l3Shift := rcall_ok rfl ok_X_spec_l3Shift

/-! ### spec.ShiftCells -/
noncomputable def cf_spec_ShiftCells : CallF := cfc 52 C_spec_l3Fault (cfc 53 C_spec_l3Bad (cfc 54 C_spec_l3Place (cfc 56 C_spec_l3Copy (cfc 77 C_spec_l1In (cfc 78 C_spec_l3Attr (cfc 89 C_spec_l3Shift cfn))))))
noncomputable def X_spec_ShiftCells : List Value → Mem → Option VM
  | [t0, t1, t2, t3, t4], m =>
    (boxX m t0) |> bo fun r1 =>
    (alX r1.2 [.int .i64 0, .int .i64 0, .int .i64 0, .slice none 0 0, .slice none 0 0]) |> bo fun r2 =>
    (C_spec_l3Fault [r1.1] r2.2) |> bo fun r3 =>
    (binX .neq .no r3.1 (.int .i64 0)) |> bo fun t15 =>
    brX t15
      (
        (C_spec_l3Bad [r3.1] r3.2) |> bo fun r5 =>
        (stX r5.2 5 r2.1 r5.1) |> bo fun m6 =>
        (resP (some 5) m6 r2.1) |> bo fun c7 =>
        retK m.length m6 [t0, t1, t2, t3, t4] c7)
      (
        (C_spec_l3Place [r1.1, t1, t2] r3.2) |> bo fun r8 =>
        (uop .not r8.1) |> bo fun t21 =>
        (gd t21 false (some (t3, r8.2)) r8.2) |> bo fun r10 =>
        (gd t21 false ((C_spec_l1In [r10.1, (.int .i64 (-12)), (.int .i64 12)] r10.2) |> bo fun r => some (r.1, r.2)) r10.2) |> bo fun r11 =>
        (gd t21 false ((uop .not r11.1) |> bo fun v => some (v, r11.2)) r11.2) |> bo fun r12 =>
        (pickX t21 (.bool true) r12.1) |> bo fun t26 =>
        (gd t26 false (some (t4, r12.2)) r12.2) |> bo fun r14 =>
        (gd t26 false ((C_spec_l3Attr [r14.1] r14.2) |> bo fun r => some (r.1, r.2)) r14.2) |> bo fun r15 =>
        (gd t26 false ((uop .not r15.1) |> bo fun v => some (v, r15.2)) r15.2) |> bo fun r16 =>
        (pickX t26 (.bool true) r16.1) |> bo fun t31 =>
        brX t31
          (
            (C_spec_l3Bad [(.int .i64 3)] r16.2) |> bo fun r18 =>
            (stX r18.2 5 r2.1 r18.1) |> bo fun m19 =>
            (resP (some 5) m19 r2.1) |> bo fun c20 =>
            retK m.length m19 [t0, t1, t2, t3, t4] c20)
          (
            (ldS r16.2 4 r1.1) |> bo fun t33 =>
            (C_spec_l3Copy [t33] r16.2) |> bo fun r22 =>
            (alX r22.2 [.int .i64 0, .int .i64 0, .slice none 0 0, .slice none 0 0]) |> bo fun r23 =>
            (stX r23.2 4 r23.1 r22.1) |> bo fun m24 =>
            (C_spec_l3Shift [r23.1, t1, t2, t3, t4] m24) |> bo fun r25 =>
            (ldS r25.2 4 r23.1) |> bo fun t40 =>
            (bldX [.int .i64 0, .int .i64 0, .int .i64 0, .slice none 0 0, .slice none 0 0] [(1, 4, t40)]) |> bo fun t41 =>
            (stX r25.2 5 r2.1 t41) |> bo fun m28 =>
            (resP (some 5) m28 r2.1) |> bo fun c29 =>
            retK m.length m28 [t0, t1, t2, t3, t4] c29))
  | _, _ => none
noncomputable def C_spec_ShiftCells : List Value → Mem → Option VM := icall X_spec_ShiftCells
@[simp] theorem c_spec_ShiftCells : C_spec_ShiftCells = icall X_spec_ShiftCells := (rfl)
theorem cok_spec_ShiftCells : codeOk CT Try.f34 (Try.f34.body.get rfl) = true := by kernel_rfl
theorem xe_spec_ShiftCells (t0 t1 t2 t3 t4 : Value) (m : Mem) : ex CT cf_spec_ShiftCells Try.f34 5 m.length [] (fun _ _ _ => none) 400 [.code (Try.f34.body.get rfl)] (argsT 0 [t0, t1, t2, t3, t4]) m = X_spec_ShiftCells [t0, t1, t2, t3, t4] m := by kernel_rfl
theorem okc_spec_ShiftCells : CallOK CT cf_spec_ShiftCells := cfc_ok ok_C_spec_l3Fault (cfc_ok ok_C_spec_l3Bad (cfc_ok ok_C_spec_l3Place (cfc_ok ok_C_spec_l3Copy (cfc_ok ok_C_spec_l1In (cfc_ok ok_C_spec_l3Attr (cfc_ok ok_C_spec_l3Shift cfn_ok))))))
theorem ok_X_spec_ShiftCells : OkX CT 34 X_spec_ShiftCells := OkX.of_ex (cf := cf_spec_ShiftCells) (np := 5) (LL := []) (J := (fun _ _ _ _ => none)) CT_ok rfl Try.func34 rfl (Nat.le_of_ble_eq_true rfl) (by decide) cok_spec_ShiftCells okc_spec_ShiftCells (fun k => noLoops rfl) (fun args m r h => match args, h with
    | [t0, t1, t2, t3, t4], h => ⟨rfl, (xe_spec_ShiftCells t0 t1 t2 t3 t4 m).trans h⟩)
theorem ok_C_spec_ShiftCells : OkC CT 34 C_spec_ShiftCells := icall_ok rfl ok_X_spec_ShiftCells

/-! ### (impl.Grid).isPlace -/
noncomputable def cf_impl_Grid_isPlace : CallF := cfc 73 C_impl_in cfn
noncomputable def X_impl_Grid_isPlace : List Value → Mem → Option VM
  | [t0, t1, t2], m =>
    (boxX m t0) |> bo fun r1 =>
    (fadX 0 r1.1) |> bo fun t8 =>
    (ld1 r1.2 t8) |> bo fun t9 =>
    (binX .sub .no t9 (.int .i64 1)) |> bo fun t10 =>
    (C_impl_in [t1, (.int .i64 0), t10] r1.2) |> bo fun r5 =>
    (gd r5.1 true (some (t2, r5.2)) r5.2) |> bo fun r6 =>
    (gd r5.1 true ((fadX 1 r1.1) |> bo fun v => some (v, r6.2)) r6.2) |> bo fun r7 =>
    (gd r5.1 true ((ld1 r7.2 r7.1) |> bo fun v => some (v, r7.2)) r7.2) |> bo fun r8 =>
    (gd r5.1 true ((binX .sub .no r8.1 (.int .i64 1)) |> bo fun v => some (v, r8.2)) r8.2) |> bo fun r9 =>
    (gd r5.1 true ((C_impl_in [r6.1, (.int .i64 0), r9.1] r9.2) |> bo fun r => some (r.1, r.2)) r9.2) |> bo fun r10 =>
    (pickX r5.1 r10.1 (.bool false)) |> bo fun t18 =>
    retK m.length r10.2 [t0, t1, t2] t18
  | _, _ => none
noncomputable def C_impl_Grid_isPlace : List Value → Mem → Option VM := fcall X_impl_Grid_isPlace
@[simp] theorem c_impl_Grid_isPlace : C_impl_Grid_isPlace = fcall X_impl_Grid_isPlace := (rfl)
theorem cok_impl_Grid_isPlace : codeOk CT Try.f60 (Try.f60.body.get rfl) = true := by kernel_rfl
theorem xe_impl_Grid_isPlace (t0 t1 t2 : Value) (m : Mem) : ex CT cf_impl_Grid_isPlace Try.f60 3 m.length [] (fun _ _ _ => none) 400 [.code (Try.f60.body.get rfl)] (argsT 0 [t0, t1, t2]) m = X_impl_Grid_isPlace [t0, t1, t2] m := by kernel_rfl
theorem okc_impl_Grid_isPlace : CallOK CT cf_impl_Grid_isPlace := cfc_ok ok_C_impl_in cfn_ok
theorem ok_X_impl_Grid_isPlace : OkX CT 60 X_impl_Grid_isPlace := OkX.of_ex (cf := cf_impl_Grid_isPlace) (np := 3) (LL := []) (J := (fun _ _ _ _ => none)) CT_ok rfl Try.func60 rfl (Nat.le_of_ble_eq_true rfl) (by decide) cok_impl_Grid_isPlace okc_impl_Grid_isPlace (fun k => noLoops rfl) (fun args m r h => match args, h with
    | [t0, t1, t2], h => ⟨rfl, (xe_impl_Grid_isPlace t0 t1 t2 m).trans h⟩)
theorem ok_C_impl_Grid_isPlace : OkC CT 60 C_impl_Grid_isPlace := fcall_ok rfl ok_X_impl_Grid_isPlace

/-! ### impl.PutCell$1 -/
noncomputable def cf_impl_PutCell_1 : CallF := cfc 60 C_impl_Grid_isPlace (cfc 61 C_impl_Cell_ok cfn)
noncomputable def X_impl_PutCell_1 : List Value → Mem → Option VM
  | [t0, t1, t2, t3], m =>
    (ldS m 4 t0) |> bo fun t5 =>
    (ld1 m t1) |> bo fun t6 =>
    (ld1 m t2) |> bo fun t7 =>
    (C_impl_Grid_isPlace [t5, t6, t7] m) |> bo fun r4 =>
    (gd r4.1 true ((ldS r4.2 2 t3) |> bo fun v => some (v, r4.2)) r4.2) |> bo fun r5 =>
    (gd r4.1 true ((C_impl_Cell_ok [r5.1] r5.2) |> bo fun r => some (r.1, r.2)) r5.2) |> bo fun r6 =>
    (pickX r4.1 r6.1 (.bool false)) |> bo fun t12 =>
    retK m.length r6.2 [t0, t1, t2, t3] t12
  | _, _ => none
noncomputable def C_impl_PutCell_1 : List Value → Mem → Option VM := fcall X_impl_PutCell_1
@[simp] theorem c_impl_PutCell_1 : C_impl_PutCell_1 = fcall X_impl_PutCell_1 := (rfl)
theorem cok_impl_PutCell_1 : codeOk CT Try.f59 (Try.f59.body.get rfl) = true := by kernel_rfl
theorem xe_impl_PutCell_1 (t0 t1 t2 t3 : Value) (m : Mem) : ex CT cf_impl_PutCell_1 Try.f59 4 m.length [] (fun _ _ _ => none) 400 [.code (Try.f59.body.get rfl)] (argsT 0 [t0, t1, t2, t3]) m = X_impl_PutCell_1 [t0, t1, t2, t3] m := by kernel_rfl
theorem okc_impl_PutCell_1 : CallOK CT cf_impl_PutCell_1 := cfc_ok ok_C_impl_Grid_isPlace (cfc_ok ok_C_impl_Cell_ok cfn_ok)
theorem ok_X_impl_PutCell_1 : OkX CT 59 X_impl_PutCell_1 := OkX.of_ex (cf := cf_impl_PutCell_1) (np := 4) (LL := []) (J := (fun _ _ _ _ => none)) CT_ok rfl Try.func59 rfl (Nat.le_of_ble_eq_true rfl) (by decide) cok_impl_PutCell_1 okc_impl_PutCell_1 (fun k => noLoops rfl) (fun args m r h => match args, h with
    | [t0, t1, t2, t3], h => ⟨rfl, (xe_impl_PutCell_1 t0 t1 t2 t3 m).trans h⟩)
theorem ok_C_impl_PutCell_1 : OkC CT 59 C_impl_PutCell_1 := fcall_ok rfl ok_X_impl_PutCell_1

/-! ### (*impl.Grid).at -/
noncomputable def cf_impl_Grid_at : CallF := cfn
noncomputable def X_impl_Grid_at : List Value → Mem → Option VM
  | [t0, t1, t2], m =>
    (nilX t0) |> bo fun t8 =>
    (fadX 2 t8) |> bo fun t9 =>
    (ld1 m t9) |> bo fun t10 =>
    (nilX t0) |> bo fun t13 =>
    (fadX 1 t13) |> bo fun t14 =>
    (ld1 m t14) |> bo fun t15 =>
    (binX .mul .no t1 t15) |> bo fun t16 =>
    (binX .add .no t16 t2) |> bo fun t18 =>
    (ixaX 2 t10 t18) |> bo fun t19 =>
    retK m.length m [t0, t1, t2] t19
  | _, _ => none
noncomputable def C_impl_Grid_at : List Value → Mem → Option VM := rcall X_impl_Grid_at
@[simp] theorem c_impl_Grid_at : C_impl_Grid_at = rcall X_impl_Grid_at := (rfl)
theorem cok_impl_Grid_at : codeOk CT Try.f63 (Try.f63.body.get rfl) = true := by kernel_rfl
theorem xe_impl_Grid_at (t0 t1 t2 : Value) (m : Mem) : ex CT cf_impl_Grid_at Try.f63 3 m.length [] (fun _ _ _ => none) 400 [.code (Try.f63.body.get rfl)] (argsT 0 [t0, t1, t2]) m = X_impl_Grid_at [t0, t1, t2] m := by kernel_rfl
theorem okc_impl_Grid_at : CallOK CT cf_impl_Grid_at := cfn_ok
theorem ok_X_impl_Grid_at : OkX CT 63 X_impl_Grid_at := OkX.of_ex (cf := cf_impl_Grid_at) (np := 3) (LL := []) (J := (fun _ _ _ _ => none)) CT_ok rfl Try.func63 rfl (Nat.le_of_ble_eq_true rfl) (by decide) cok_impl_Grid_at okc_impl_Grid_at (fun k => noLoops rfl) (fun args m r h => match args, h with
    | [t0, t1, t2], h => ⟨rfl, (xe_impl_Grid_at t0 t1 t2 m).trans h⟩)
theorem ok_C_impl_Grid_at : OkC CT 63 C_impl_Grid_at := rcall_ok rfl ok_X_impl_Grid_at

/-! ### impl.PutCell$2 -/
noncomputable def cf_impl_PutCell_2 : CallF := cfc 63 C_impl_Grid_at cfn
noncomputable def X_impl_PutCell_2 : List Value → Mem → Option VM
  | [t0, t1, t2, t3], m =>
    (ld1 m t2) |> bo fun t6 =>
    (ld1 m t3) |> bo fun t7 =>
    (C_impl_Grid_at [t0, t6, t7] m) |> bo fun r3 =>
    (ldS r3.2 2 t1) |> bo fun t9 =>
    (nilX r3.1) |> bo fun t10 =>
    (stX r3.2 2 t10 t9) |> bo fun m6 =>
    gP (stbL [((rdN t1), m, r3.2)])
      (
        retK m.length m6 [t0, t1, t2, t3] (.tuple #[]))
  | _, _ => none
noncomputable def C_impl_PutCell_2 : List Value → Mem → Option VM := rcall X_impl_PutCell_2
@[simp] theorem c_impl_PutCell_2 : C_impl_PutCell_2 = rcall X_impl_PutCell_2 := (rfl)
theorem cok_impl_PutCell_2 : codeOk CT Try.f62 (Try.f62.body.get rfl) = true := by kernel_rfl
theorem xe_impl_PutCell_2 (t0 t1 t2 t3 : Value) (m : Mem) : ex CT cf_impl_PutCell_2 Try.f62 4 m.length [] (fun _ _ _ => none) 400 [.code (Try.f62.body.get rfl)] (argsT 0 [t0, t1, t2, t3]) m = X_impl_PutCell_2 [t0, t1, t2, t3] m := by kernel_rfl
theorem okc_impl_PutCell_2 : CallOK CT cf_impl_PutCell_2 := cfc_ok ok_C_impl_Grid_at cfn_ok
theorem ok_X_impl_PutCell_2 : OkX CT 62 X_impl_PutCell_2 := OkX.of_ex (cf := cf_impl_PutCell_2) (np := 4) (LL := []) (J := (fun _ _ _ _ => none)) CT_ok rfl Try.func62 rfl (Nat.le_of_ble_eq_true rfl) (by decide) cok_impl_PutCell_2 okc_impl_PutCell_2 (fun k => noLoops rfl) (fun args m r h => match args, h with
    | [t0, t1, t2, t3], h => ⟨rfl, (xe_impl_PutCell_2 t0 t1 t2 t3 m).trans h⟩)
theorem ok_C_impl_PutCell_2 : OkC CT 62 C_impl_PutCell_2 := rcall_ok rfl ok_X_impl_PutCell_2

/-! ### impl.EraseCells$1 -/
noncomputable def cf_impl_EraseCells_1 : CallF := cfc 73 C_impl_in (cfc 74 C_impl_isAttr cfn)
noncomputable def X_impl_EraseCells_1 : List Value → Mem → Option VM
  | [t0, t1, t2, t3], m =>
    (ld1 m t0) |> bo fun t5 =>
    (ld1 m t1) |> bo fun t6 =>
    (C_impl_in [t5, (.int .i64 0), t6] m) |> bo fun r3 =>
    (gd r3.1 true ((ld1 r3.2 t2) |> bo fun v => some (v, r3.2)) r3.2) |> bo fun r4 =>
    (gd r3.1 true ((ld1 r4.2 t0) |> bo fun v => some (v, r4.2)) r4.2) |> bo fun r5 =>
    (gd r3.1 true ((ld1 r5.2 t1) |> bo fun v => some (v, r5.2)) r5.2) |> bo fun r6 =>
    (gd r3.1 true ((C_impl_in [r4.1, r5.1, r6.1] r6.2) |> bo fun r => some (r.1, r.2)) r6.2) |> bo fun r7 =>
    (pickX r3.1 r7.1 (.bool false)) |> bo fun t13 =>
    (gd t13 true ((ld1 r7.2 t3) |> bo fun v => some (v, r7.2)) r7.2) |> bo fun r9 =>
    (gd t13 true ((C_impl_isAttr [r9.1] r9.2) |> bo fun r => some (r.1, r.2)) r9.2) |> bo fun r10 =>
    (pickX t13 r10.1 (.bool false)) |> bo fun t17 =>
    retK m.length r10.2 [t0, t1, t2, t3] t17
  | _, _ => none
noncomputable def C_impl_EraseCells_1 : List Value → Mem → Option VM := fcall X_impl_EraseCells_1
@[simp] theorem c_impl_EraseCells_1 : C_impl_EraseCells_1 = fcall X_impl_EraseCells_1 := (rfl)
theorem cok_impl_EraseCells_1 : codeOk CT Try.f72 (Try.f72.body.get rfl) = true := by kernel_rfl
theorem xe_impl_EraseCells_1 (t0 t1 t2 t3 : Value) (m : Mem) : ex CT cf_impl_EraseCells_1 Try.f72 4 m.length [] (fun _ _ _ => none) 400 [.code (Try.f72.body.get rfl)] (argsT 0 [t0, t1, t2, t3]) m = X_impl_EraseCells_1 [t0, t1, t2, t3] m := by kernel_rfl
theorem okc_impl_EraseCells_1 : CallOK CT cf_impl_EraseCells_1 := cfc_ok ok_C_impl_in (cfc_ok ok_C_impl_isAttr cfn_ok)
theorem ok_X_impl_EraseCells_1 : OkX CT 72 X_impl_EraseCells_1 := OkX.of_ex (cf := cf_impl_EraseCells_1) (np := 4) (LL := []) (J := (fun _ _ _ _ => none)) CT_ok rfl Try.func72 rfl (Nat.le_of_ble_eq_true rfl) (by decide) cok_impl_EraseCells_1 okc_impl_EraseCells_1 (fun k => noLoops rfl) (fun args m r h => match args, h with
    | [t0, t1, t2, t3], h => ⟨rfl, (xe_impl_EraseCells_1 t0 t1 t2 t3 m).trans h⟩)
theorem ok_C_impl_EraseCells_1 : OkC CT 72 C_impl_EraseCells_1 := fcall_ok rfl ok_X_impl_EraseCells_1

/-! ### math/bits.Mul32 -/
noncomputable def cf_math_bits_Mul32 : CallF := cfn
noncomputable def X_math_bits_Mul32 : List Value → Mem → Option VM
  | [t0, t1], m =>
    (cvI .u64 t0) |> bo fun t8 =>
    (cvI .u64 t1) |> bo fun t10 =>
    (binX .mul .no t8 t10) |> bo fun t11 =>
    (binX .shr .no t11 (.int .u64 32)) |> bo fun t13 =>
    (cvI .u32 t13) |> bo fun t14 =>
    (cvI .u32 t11) |> bo fun t16 =>
    retK m.length m [t0, t1] (.tuple #[t14, t16])
  | _, _ => none
noncomputable def C_math_bits_Mul32 : List Value → Mem → Option VM := fcall X_math_bits_Mul32
@[simp] theorem c_math_bits_Mul32 : C_math_bits_Mul32 = fcall X_math_bits_Mul32 := (rfl)
theorem cok_math_bits_Mul32 : codeOk CT Try.f149 (Try.f149.body.get rfl) = true := by kernel_rfl
theorem xe_math_bits_Mul32 (t0 t1 : Value) (m : Mem) : ex CT cf_math_bits_Mul32 Try.f149 2 m.length [] (fun _ _ _ => none) 400 [.code (Try.f149.body.get rfl)] (argsT 0 [t0, t1]) m = X_math_bits_Mul32 [t0, t1] m := by kernel_rfl
theorem okc_math_bits_Mul32 : CallOK CT cf_math_bits_Mul32 := cfn_ok
theorem ok_X_math_bits_Mul32 : OkX CT 149 X_math_bits_Mul32 := OkX.of_ex (cf := cf_math_bits_Mul32) (np := 2) (LL := []) (J := (fun _ _ _ _ => none)) CT_ok rfl Try.func149 rfl (Nat.le_of_ble_eq_true rfl) (by decide) cok_math_bits_Mul32 okc_math_bits_Mul32 (fun k => noLoops rfl) (fun args m r h => match args, h with
    | [t0, t1], h => ⟨rfl, (xe_math_bits_Mul32 t0 t1 m).trans h⟩)
theorem ok_C_math_bits_Mul32 : OkC CT 149 C_math_bits_Mul32 := fcall_ok rfl ok_X_math_bits_Mul32

/-! ### math/bits.Mul64 -/
noncomputable def cf_math_bits_Mul64 : CallF := cfn
noncomputable def X_math_bits_Mul64 : List Value → Mem → Option VM
  | [t0, t1], m =>
    (binX .and .no t0 (.int .u64 4294967295)) |> bo fun t15 =>
    (binX .shr .no t0 (.int .u64 32)) |> bo fun t17 =>
    (binX .and .no t1 (.int .u64 4294967295)) |> bo fun t19 =>
    (binX .shr .no t1 (.int .u64 32)) |> bo fun t21 =>
    (binX .mul .no t15 t19) |> bo fun t24 =>
    (binX .mul .no t17 t19) |> bo fun t27 =>
    (binX .shr .no t24 (.int .u64 32)) |> bo fun t29 =>
    (binX .add .no t27 t29) |> bo fun t30 =>
    (binX .and .no t30 (.int .u64 4294967295)) |> bo fun t32 =>
    (binX .shr .no t30 (.int .u64 32)) |> bo fun t34 =>
    (binX .mul .no t15 t21) |> bo fun t38 =>
    (binX .add .no t32 t38) |> bo fun t39 =>
    (binX .mul .no t17 t21) |> bo fun t42 =>
    (binX .add .no t42 t34) |> bo fun t44 =>
    (binX .shr .no t39 (.int .u64 32)) |> bo fun t46 =>
    (binX .add .no t44 t46) |> bo fun t47 =>
    (binX .mul .no t0 t1) |> bo fun t50 =>
    retK m.length m [t0, t1] (.tuple #[t47, t50])
  | _, _ => none
noncomputable def C_math_bits_Mul64 : List Value → Mem → Option VM := fcall X_math_bits_Mul64
@[simp] theorem c_math_bits_Mul64 : C_math_bits_Mul64 = fcall X_math_bits_Mul64 := (rfl)
theorem cok_math_bits_Mul64 : codeOk CT Try.f150 (Try.f150.body.get rfl) = true := by kernel_rfl
theorem xe_math_bits_Mul64 (t0 t1 : Value) (m : Mem) : ex CT cf_math_bits_Mul64 Try.f150 2 m.length [] (fun _ _ _ => none) 400 [.code (Try.f150.body.get rfl)] (argsT 0 [t0, t1]) m = X_math_bits_Mul64 [t0, t1] m := by kernel_rfl
theorem okc_math_bits_Mul64 : CallOK CT cf_math_bits_Mul64 := cfn_ok
theorem ok_X_math_bits_Mul64 : OkX CT 150 X_math_bits_Mul64 := OkX.of_ex (cf := cf_math_bits_Mul64) (np := 2) (LL := []) (J := (fun _ _ _ _ => none)) CT_ok rfl Try.func150 rfl (Nat.le_of_ble_eq_true rfl) (by decide) cok_math_bits_Mul64 okc_math_bits_Mul64 (fun k => noLoops rfl) (fun args m r h => match args, h with
    | [t0, t1], h => ⟨rfl, (xe_math_bits_Mul64 t0 t1 m).trans h⟩)
theorem ok_C_math_bits_Mul64 : OkC CT 150 C_math_bits_Mul64 := fcall_ok rfl ok_X_math_bits_Mul64

/-! ### math/bits.Mul -/
noncomputable def cf_math_bits_Mul : CallF := cfc 149 C_math_bits_Mul32 (cfc 150 C_math_bits_Mul64 cfn)
noncomputable def X_math_bits_Mul : List Value → Mem → Option VM
  | [t0, t1], m =>
    brX (.bool false)
      (
        (cvI .u32 t0) |> bo fun t12 =>
        (cvI .u32 t1) |> bo fun t14 =>
        (C_math_bits_Mul32 [t12, t14] m) |> bo fun r3 =>
        (extX 0 r3.1) |> bo fun t16 =>
        (extX 1 r3.1) |> bo fun t17 =>
        (cvI .u64 t16) |> bo fun t19 =>
        (cvI .u64 t17) |> bo fun t21 =>
        retK m.length r3.2 [t0, t1] (.tuple #[t19, t21]))
      (
        (C_math_bits_Mul64 [t0, t1] m) |> bo fun r8 =>
        (extX 0 r8.1) |> bo fun t26 =>
        (extX 1 r8.1) |> bo fun t27 =>
        retK m.length r8.2 [t0, t1] (.tuple #[t26, t27]))
  | _, _ => none
noncomputable def C_math_bits_Mul : List Value → Mem → Option VM := fcall X_math_bits_Mul
@[simp] theorem c_math_bits_Mul : C_math_bits_Mul = fcall X_math_bits_Mul := (rfl)
theorem cok_math_bits_Mul : codeOk CT Try.f148 (Try.f148.body.get rfl) = true := by kernel_rfl
theorem xe_math_bits_Mul (t0 t1 : Value) (m : Mem) : ex CT cf_math_bits_Mul Try.f148 2 m.length [] (fun _ _ _ => none) 400 [.code (Try.f148.body.get rfl)] (argsT 0 [t0, t1]) m = X_math_bits_Mul [t0, t1] m := by kernel_rfl
theorem okc_math_bits_Mul : CallOK CT cf_math_bits_Mul := cfc_ok ok_C_math_bits_Mul32 (cfc_ok ok_C_math_bits_Mul64 cfn_ok)
theorem ok_X_math_bits_Mul : OkX CT 148 X_math_bits_Mul := OkX.of_ex (cf := cf_math_bits_Mul) (np := 2) (LL := []) (J := (fun _ _ _ _ => none)) CT_ok rfl Try.func148 rfl (Nat.le_of_ble_eq_true rfl) (by decide) cok_math_bits_Mul okc_math_bits_Mul (fun k => noLoops rfl) (fun args m r h => match args, h with
    | [t0, t1], h => ⟨rfl, (xe_math_bits_Mul t0 t1 m).trans h⟩)
theorem ok_C_math_bits_Mul : OkC CT 148 C_math_bits_Mul := fcall_ok rfl ok_X_math_bits_Mul

/-! ### slices.Repeat[[]impl.Cell,impl.Cell] -/
noncomputable def cf_slices_Repeat_impl_Cell_impl_Cell : CallF := cfc 148 C_math_bits_Mul cfn
noncomputable def L_slices_Repeat_impl_Cell_impl_Cell (k : Nat) : Nat → Nat → List Value → Mem → Option VM
  | q + 1, 0, [t7, t8], m =>
    (lenX t7) |> bo fun t36 =>
    (binX .lss .no t8 t36) |> bo fun t37 =>
    brX t37
      (
        (slX m 2 t7 (some t8) none) |> bo fun t41 =>
        (slX m 2 t7 none (some t8)) |> bo fun t44 =>
        (cpL m 2 t41 t44) |> bo fun r5 =>
        (binX .add .no t8 r5.1) |> bo fun t46 =>
        cutK k r5.2 [] [t7, t46] (L_slices_Repeat_impl_Cell_impl_Cell k q 0))
      (
        retK k m [] t7)
  | _, _, _, _ => none
noncomputable def J_slices_Repeat_impl_Cell_impl_Cell (k q l : Nat) : List Value → Mem → Option VM := cond (Nat.beq l 8) (L_slices_Repeat_impl_Cell_impl_Cell k q 0) (fun _ _ => none)
def LL_slices_Repeat_impl_Cell_impl_Cell : List (Nat × List Tmp) := [(8, [7, 8])]
noncomputable def X_slices_Repeat_impl_Cell_impl_Cell : List Value → Mem → Option VM
  | [t0, t1], m =>
    (binX .lss .no t1 (.int .i64 0)) |> bo fun t10 =>
    brX t10
      (
        none)
      (
        (lenX t0) |> bo fun t14 =>
        (cvI .u64 t14) |> bo fun t15 =>
        (cvI .u64 t1) |> bo fun t17 =>
        (C_math_bits_Mul [t15, t17] m) |> bo fun r5 =>
        (extX 0 r5.1) |> bo fun t19 =>
        (extX 1 r5.1) |> bo fun t20 =>
        (binX .gtr .no t19 (.int .u64 0)) |> bo fun t22 =>
        (gd t22 false (some (t20, r5.2)) r5.2) |> bo fun r9 =>
        (gd t22 false ((binX .gtr .no r9.1 (.int .u64 9223372036854775807)) |> bo fun v => some (v, r9.2)) r9.2) |> bo fun r10 =>
        (pickX t22 (.bool true) r10.1) |> bo fun t26 =>
        brX t26
          (
            none)
          (
            (cvI .i64 t20) |> bo fun t29 =>
            (mkX r10.2 2 16 [.int .i64 0, .int .i64 0] t29 t29) |> bo fun r13 =>
            (cpL r13.2 2 r13.1 t0) |> bo fun r14 =>
            cutK m.length r14.2 [t0, t1] [r13.1, r14.1] (L_slices_Repeat_impl_Cell_impl_Cell m.length QQ 0)))
  | _, _ => none
noncomputable def C_slices_Repeat_impl_Cell_impl_Cell : List Value → Mem → Option VM := fcall X_slices_Repeat_impl_Cell_impl_Cell
@[simp] theorem c_slices_Repeat_impl_Cell_impl_Cell : C_slices_Repeat_impl_Cell_impl_Cell = fcall X_slices_Repeat_impl_Cell_impl_Cell := (rfl)
theorem cok_slices_Repeat_impl_Cell_impl_Cell : codeOk CT Try.f142 (Try.f142.body.get rfl) = true := by kernel_rfl
theorem xe_slices_Repeat_impl_Cell_impl_Cell (t0 t1 : Value) (m : Mem) : ex CT cf_slices_Repeat_impl_Cell_impl_Cell Try.f142 2 m.length LL_slices_Repeat_impl_Cell_impl_Cell (J_slices_Repeat_impl_Cell_impl_Cell m.length QQ) 400 [.code (Try.f142.body.get rfl)] (argsT 0 [t0, t1]) m = X_slices_Repeat_impl_Cell_impl_Cell [t0, t1] m := by kernel_rfl
theorem okc_slices_Repeat_impl_Cell_impl_Cell : CallOK CT cf_slices_Repeat_impl_Cell_impl_Cell := cfc_ok ok_C_math_bits_Mul cfn_ok
theorem le_slices_Repeat_impl_Cell_impl_Cell_0 (k q : Nat) (t7 t8 : Value) (m : Mem) : ex CT cf_slices_Repeat_impl_Cell_impl_Cell Try.f142 2 k LL_slices_Repeat_impl_Cell_impl_Cell (J_slices_Repeat_impl_Cell_impl_Cell k q) 400 (atLoop Try.f142 0) [(7, t7), (8, t8)] m = J_slices_Repeat_impl_Cell_impl_Cell k (q + 1) 8 [t7, t8] m := by kernel_rfl
theorem gl_slices_Repeat_impl_Cell_impl_Cell (k : Nat) : ∀ q i, i < 1 → GoodL CT k Try.f142 LL_slices_Repeat_impl_Cell_impl_Cell (J_slices_Repeat_impl_Cell_impl_Cell k q) (atLoop Try.f142 i)
  | 0, 0, _ => goodL_zero (l := 8) (by kernel_rfl) (fun vs m => by kernel_rfl)
  | 0, _ + 1, h => absurd h (by omega)
  | q + 1, 0, _ => goodL_succ (np := 2) (l := 8) (live := [7, 8]) (n := 1) CT_ok rfl okc_slices_Repeat_impl_Cell_impl_Cell (c := (Try.f142.body.get rfl)) rfl cok_slices_Repeat_impl_Cell_impl_Cell (by kernel_rfl) (gl_slices_Repeat_impl_Cell_impl_Cell k q) (by kernel_rfl) rfl (fun vs m r hl h => match vs, hl with
    | [t7, t8], _ => (le_slices_Repeat_impl_Cell_impl_Cell_0 k q t7 t8 m).trans h)
  | _ + 1, _ + 1, h => absurd h (by omega)
theorem ok_X_slices_Repeat_impl_Cell_impl_Cell : OkX CT 142 X_slices_Repeat_impl_Cell_impl_Cell := OkX.of_ex (cf := cf_slices_Repeat_impl_Cell_impl_Cell) (np := 2) (LL := LL_slices_Repeat_impl_Cell_impl_Cell) (J := (fun k => J_slices_Repeat_impl_Cell_impl_Cell k QQ)) CT_ok rfl Try.func142 rfl (Nat.le_of_ble_eq_true rfl) (by decide) cok_slices_Repeat_impl_Cell_impl_Cell okc_slices_Repeat_impl_Cell_impl_Cell (fun k => allLoops rfl (by kernel_rfl) (gl_slices_Repeat_impl_Cell_impl_Cell k QQ)) (fun args m r h => match args, h with
    | [t0, t1], h => ⟨rfl, (xe_slices_Repeat_impl_Cell_impl_Cell t0 t1 m).trans h⟩)
theorem ok_C_slices_Repeat_impl_Cell_impl_Cell : OkC CT 142 C_slices_Repeat_impl_Cell_impl_Cell := fcall_ok rfl ok_X_slices_Repeat_impl_Cell_impl_Cell

/-! ### impl.blanks -/
noncomputable def cf_impl_blanks : CallF := cfc 142 C_slices_Repeat_impl_Cell_impl_Cell cfn
noncomputable def X_impl_blanks : List Value → Mem → Option VM
  | [t0, t1], m =>
    (bldX [.int .i64 0, .int .i64 0] [(0, 1, (.int .i64 32)), (1, 1, t1)]) |> bo fun t6 =>
    (bslX m 1 2 [.int .i64 0, .int .i64 0] [(0, 2, t6)]) |> bo fun r2 =>
    (C_slices_Repeat_impl_Cell_impl_Cell [r2.1, t0] r2.2) |> bo fun r3 =>
    retK m.length r3.2 [t0, t1] r3.1
  | _, _ => none
noncomputable def C_impl_blanks : List Value → Mem → Option VM := fcall X_impl_blanks
@[simp] theorem c_impl_blanks : C_impl_blanks = fcall X_impl_blanks := (rfl)
theorem cok_impl_blanks : codeOk CT Try.f120 (Try.f120.body.get rfl) = true := by kernel_rfl
theorem xe_impl_blanks (t0 t1 : Value) (m : Mem) : ex CT cf_impl_blanks Try.f120 2 m.length [] (fun _ _ _ => none) 400 [.code (Try.f120.body.get rfl)] (argsT 0 [t0, t1]) m = X_impl_blanks [t0, t1] m := by kernel_rfl
theorem okc_impl_blanks : CallOK CT cf_impl_blanks := cfc_ok ok_C_slices_Repeat_impl_Cell_impl_Cell cfn_ok
theorem ok_X_impl_blanks : OkX CT 120 X_impl_blanks := OkX.of_ex (cf := cf_impl_blanks) (np := 2) (LL := []) (J := (fun _ _ _ _ => none)) CT_ok rfl Try.func120 rfl (Nat.le_of_ble_eq_true rfl) (by decide) cok_impl_blanks okc_impl_blanks (fun k => noLoops rfl) (fun args m r h => match args, h with
    | [t0, t1], h => ⟨rfl, (xe_impl_blanks t0 t1 m).trans h⟩)
theorem ok_C_impl_blanks : OkC CT 120 C_impl_blanks := fcall_ok rfl ok_X_impl_blanks

/-! ### (*impl.Grid).erase -/
noncomputable def cf_impl_Grid_erase : CallF := cfc 120 C_impl_blanks cfn
noncomputable def X_impl_Grid_erase : List Value → Mem → Option VM
  | [t0, t1, t2, t3], m =>
    (nilX t0) |> bo fun t9 =>
    (fadX 2 t9) |> bo fun t10 =>
    (ld1 m t10) |> bo fun t11 =>
    (slX m 2 t11 (some t1) (some t2)) |> bo fun t14 =>
    (binX .sub .no t2 t1) |> bo fun t17 =>
    (C_impl_blanks [t17, t3] m) |> bo fun r6 =>
    (cpL r6.2 2 t14 r6.1) |> bo fun r7 =>
    gP (stbL [((rdN t10), m, r6.2)])
      (
        retK m.length r7.2 [t0, t1, t2, t3] (.tuple #[]))
  | _, _ => none
noncomputable def C_impl_Grid_erase : List Value → Mem → Option VM := rcall X_impl_Grid_erase
@[simp] theorem c_impl_Grid_erase : C_impl_Grid_erase = rcall X_impl_Grid_erase := (rfl)
theorem cok_impl_Grid_erase : codeOk CT Try.f76 (Try.f76.body.get rfl) = true := by kernel_rfl
theorem xe_impl_Grid_erase (t0 t1 t2 t3 : Value) (m : Mem) : ex CT cf_impl_Grid_erase Try.f76 4 m.length [] (fun _ _ _ => none) 400 [.code (Try.f76.body.get rfl)] (argsT 0 [t0, t1, t2, t3]) m = X_impl_Grid_erase [t0, t1, t2, t3] m := by kernel_rfl
theorem okc_impl_Grid_erase : CallOK CT cf_impl_Grid_erase := cfc_ok ok_C_impl_blanks cfn_ok
theorem ok_X_impl_Grid_erase : OkX CT 76 X_impl_Grid_erase := OkX.of_ex (cf := cf_impl_Grid_erase) (np := 4) (LL := []) (J := (fun _ _ _ _ => none)) CT_ok rfl Try.func76 rfl (Nat.le_of_ble_eq_true rfl) (by decide) cok_impl_Grid_erase okc_impl_Grid_erase (fun k => noLoops rfl) (fun args m r h => match args, h with
    | [t0, t1, t2, t3], h => ⟨rfl, (xe_impl_Grid_erase t0 t1 t2 t3 m).trans h⟩)
theorem ok_C_impl_Grid_erase : OkC CT 76 C_impl_Grid_erase := rcall_ok rfl ok_X_impl_Grid_erase

/-! ### impl.EraseCells$2 -/
noncomputable def cf_impl_EraseCells_2 : CallF := cfc 76 C_impl_Grid_erase cfn
noncomputable def X_impl_EraseCells_2 : List Value → Mem → Option VM
  | [t0, t1, t2, t3], m =>
    (ld1 m t1) |> bo fun t6 =>
    (ld1 m t2) |> bo fun t7 =>
    (ld1 m t3) |> bo fun t8 =>
    (C_impl_Grid_erase [t0, t6, t7, t8] m) |> bo fun r4 =>
    retK m.length r4.2 [t0, t1, t2, t3] (.tuple #[])
  | _, _ => none
noncomputable def C_impl_EraseCells_2 : List Value → Mem → Option VM := rcall X_impl_EraseCells_2
@[simp] theorem c_impl_EraseCells_2 : C_impl_EraseCells_2 = rcall X_impl_EraseCells_2 := (rfl)
theorem cok_impl_EraseCells_2 : codeOk CT Try.f75 (Try.f75.body.get rfl) = true := by kernel_rfl
theorem xe_impl_EraseCells_2 (t0 t1 t2 t3 : Value) (m : Mem) : ex CT cf_impl_EraseCells_2 Try.f75 4 m.length [] (fun _ _ _ => none) 400 [.code (Try.f75.body.get rfl)] (argsT 0 [t0, t1, t2, t3]) m = X_impl_EraseCells_2 [t0, t1, t2, t3] m := by kernel_rfl
theorem okc_impl_EraseCells_2 : CallOK CT cf_impl_EraseCells_2 := cfc_ok ok_C_impl_Grid_erase cfn_ok
theorem ok_X_impl_EraseCells_2 : OkX CT 75 X_impl_EraseCells_2 := OkX.of_ex (cf := cf_impl_EraseCells_2) (np := 4) (LL := []) (J := (fun _ _ _ _ => none)) CT_ok rfl Try.func75 rfl (Nat.le_of_ble_eq_true rfl) (by decide) cok_impl_EraseCells_2 okc_impl_EraseCells_2 (fun k => noLoops rfl) (fun args m r h => match args, h with
    | [t0, t1, t2, t3], h => ⟨rfl, (xe_impl_EraseCells_2 t0 t1 t2 t3 m).trans h⟩)
theorem ok_C_impl_EraseCells_2 : OkC CT 75 C_impl_EraseCells_2 := rcall_ok rfl ok_X_impl_EraseCells_2

/-! ### impl.ScrollGrid$1 -/
noncomputable def cf_impl_ScrollGrid_1 : CallF := cfc 73 C_impl_in (cfc 74 C_impl_isAttr cfn)
noncomputable def X_impl_ScrollGrid_1 : List Value → Mem → Option VM
  | [t0, t1, t2, t3, t4], m =>
    (ld1 m t0) |> bo fun t6 =>
    (fadX 0 t1) |> bo fun t7 =>
    (ld1 m t7) |> bo fun t8 =>
    (binX .sub .no t8 (.int .i64 1)) |> bo fun t9 =>
    (C_impl_in [t6, (.int .i64 0), t9] m) |> bo fun r5 =>
    (gd r5.1 true ((ld1 r5.2 t2) |> bo fun v => some (v, r5.2)) r5.2) |> bo fun r6 =>
    (gd r5.1 true ((ld1 r6.2 t0) |> bo fun v => some (v, r6.2)) r6.2) |> bo fun r7 =>
    (gd r5.1 true ((fadX 0 t1) |> bo fun v => some (v, r7.2)) r7.2) |> bo fun r8 =>
    (gd r5.1 true ((ld1 r8.2 r8.1) |> bo fun v => some (v, r8.2)) r8.2) |> bo fun r9 =>
    (gd r5.1 true ((binX .sub .no r9.1 (.int .i64 1)) |> bo fun v => some (v, r9.2)) r9.2) |> bo fun r10 =>
    (gd r5.1 true ((C_impl_in [r6.1, r7.1, r10.1] r10.2) |> bo fun r => some (r.1, r.2)) r10.2) |> bo fun r11 =>
    (pickX r5.1 r11.1 (.bool false)) |> bo fun t18 =>
    (gd t18 true ((ld1 r11.2 t3) |> bo fun v => some (v, r11.2)) r11.2) |> bo fun r13 =>
    (gd t18 true ((C_impl_in [r13.1, (.int .i64 (-9)), (.int .i64 9)] r13.2) |> bo fun r => some (r.1, r.2)) r13.2) |> bo fun r14 =>
    (pickX t18 r14.1 (.bool false)) |> bo fun t22 =>
    (gd t22 true ((ld1 r14.2 t4) |> bo fun v => some (v, r14.2)) r14.2) |> bo fun r16 =>
    (gd t22 true ((C_impl_isAttr [r16.1] r16.2) |> bo fun r => some (r.1, r.2)) r16.2) |> bo fun r17 =>
    (pickX t22 r17.1 (.bool false)) |> bo fun t26 =>
    retK m.length r17.2 [t0, t1, t2, t3, t4] t26
  | _, _ => none
noncomputable def C_impl_ScrollGrid_1 : List Value → Mem → Option VM := fcall X_impl_ScrollGrid_1
@[simp] theorem c_impl_ScrollGrid_1 : C_impl_ScrollGrid_1 = fcall X_impl_ScrollGrid_1 := (rfl)
theorem cok_impl_ScrollGrid_1 : codeOk CT Try.f84 (Try.f84.body.get rfl) = true := by kernel_rfl
theorem xe_impl_ScrollGrid_1 (t0 t1 t2 t3 t4 : Value) (m : Mem) : ex CT cf_impl_ScrollGrid_1 Try.f84 5 m.length [] (fun _ _ _ => none) 400 [.code (Try.f84.body.get rfl)] (argsT 0 [t0, t1, t2, t3, t4]) m = X_impl_ScrollGrid_1 [t0, t1, t2, t3, t4] m := by kernel_rfl
theorem okc_impl_ScrollGrid_1 : CallOK CT cf_impl_ScrollGrid_1 := cfc_ok ok_C_impl_in (cfc_ok ok_C_impl_isAttr cfn_ok)
theorem ok_X_impl_ScrollGrid_1 : OkX CT 84 X_impl_ScrollGrid_1 := OkX.of_ex (cf := cf_impl_ScrollGrid_1) (np := 5) (LL := []) (J := (fun _ _ _ _ => none)) CT_ok rfl Try.func84 rfl (Nat.le_of_ble_eq_true rfl) (by decide) cok_impl_ScrollGrid_1 okc_impl_ScrollGrid_1 (fun k => noLoops rfl) (fun args m r h => match args, h with
    | [t0, t1, t2, t3, t4], h => ⟨rfl, (xe_impl_ScrollGrid_1 t0 t1 t2 t3 t4 m).trans h⟩)
theorem ok_C_impl_ScrollGrid_1 : OkC CT 84 C_impl_ScrollGrid_1 := fcall_ok rfl ok_X_impl_ScrollGrid_1

/-! ### slices.Grow[[]impl.Cell,impl.Cell] -/
noncomputable def cf_slices_Grow_impl_Cell_impl_Cell : CallF := cfn
noncomputable def X_slices_Grow_impl_Cell_impl_Cell : List Value → Mem → Option VM
  | [t0, t1], m =>
    (binX .lss .no t1 (.int .i64 0)) |> bo fun t6 =>
    brX t6
      (
        none)
      (
        (capX t0) |> bo fun t10 =>
        (lenX t0) |> bo fun t12 =>
        (binX .sub .no t10 t12) |> bo fun t13 =>
        (binX .sub .no t1 t13) |> bo fun t14 =>
        (binX .gtr .no t14 (.int .i64 0)) |> bo fun t16 =>
        brX t16
          (
            (capX t0) |> bo fun t19 =>
            (slX m 2 t0 none (some t19)) |> bo fun t20 =>
            (apI m 2 16 [.int .i64 0, .int .i64 0] t20 t14) |> bo fun r9 =>
            (lenX t0) |> bo fun t24 =>
            (slX r9.2 2 r9.1 none (some t24)) |> bo fun t25 =>
            retK m.length r9.2 [t25, t14] t25)
          (
            retK m.length m [t0, t14] t0))
  | _, _ => none
noncomputable def C_slices_Grow_impl_Cell_impl_Cell : List Value → Mem → Option VM := rcall X_slices_Grow_impl_Cell_impl_Cell
@[simp] theorem c_slices_Grow_impl_Cell_impl_Cell : C_slices_Grow_impl_Cell_impl_Cell = rcall X_slices_Grow_impl_Cell_impl_Cell := (rfl)
theorem cok_slices_Grow_impl_Cell_impl_Cell : codeOk CT Try.f143 (Try.f143.body.get rfl) = true := by kernel_rfl
theorem xe_slices_Grow_impl_Cell_impl_Cell (t0 t1 : Value) (m : Mem) : ex CT cf_slices_Grow_impl_Cell_impl_Cell Try.f143 2 m.length [] (fun _ _ _ => none) 400 [.code (Try.f143.body.get rfl)] (argsT 0 [t0, t1]) m = X_slices_Grow_impl_Cell_impl_Cell [t0, t1] m := by kernel_rfl
theorem okc_slices_Grow_impl_Cell_impl_Cell : CallOK CT cf_slices_Grow_impl_Cell_impl_Cell := cfn_ok
theorem ok_X_slices_Grow_impl_Cell_impl_Cell : OkX CT 143 X_slices_Grow_impl_Cell_impl_Cell := OkX.of_ex (cf := cf_slices_Grow_impl_Cell_impl_Cell) (np := 2) (LL := []) (J := (fun _ _ _ _ => none)) CT_ok rfl Try.func143 rfl (Nat.le_of_ble_eq_true rfl) (by decide) cok_slices_Grow_impl_Cell_impl_Cell okc_slices_Grow_impl_Cell_impl_Cell (fun k => noLoops rfl) (fun args m r h => match args, h with
    | [t0, t1], h => ⟨rfl, (xe_slices_Grow_impl_Cell_impl_Cell t0 t1 m).trans h⟩)
theorem ok_C_slices_Grow_impl_Cell_impl_Cell : OkC CT 143 C_slices_Grow_impl_Cell_impl_Cell := rcall_ok rfl ok_X_slices_Grow_impl_Cell_impl_Cell

/-! ### slices.Concat[[]impl.Cell,impl.Cell] -/
noncomputable def cf_slices_Concat_impl_Cell_impl_Cell : CallF := cfc 143 C_slices_Grow_impl_Cell_impl_Cell cfn
noncomputable def L_slices_Concat_impl_Cell_impl_Cell (k : Nat) : Nat → Nat → List Value → Mem → Option VM
  | q + 1, 0, [t0, t3, t9, t10, t11], m =>
    (binX .lss .no t11 t10) |> bo fun t12 =>
    brX t12
      (
        (ixaX 1 t9 t11) |> bo fun t13 =>
        (ld1 m t13) |> bo fun t14 =>
        (lenX t14) |> bo fun t17 =>
        (binX .add .no t3 t17) |> bo fun t18 =>
        (binX .lss .no t18 (.int .i64 0)) |> bo fun t20 =>
        brX t20
          (
            none)
          (
            (binX .add .no t11 (.int .i64 1)) |> bo fun t22 =>
            cutK k m [t0] [t0, t18, t9, t10, t22] (L_slices_Concat_impl_Cell_impl_Cell k q 0)))
      (
        (C_slices_Grow_impl_Cell_impl_Cell [(.slice none 0 0), t3] m) |> bo fun r8 =>
        (lenX t0) |> bo fun t26 =>
        cutK k r8.2 [t0] [r8.1, t0, t26, (.int .i64 0)] (L_slices_Concat_impl_Cell_impl_Cell k q 1))
  | q + 1, 1, [t6, t25, t26, t27], m =>
    (binX .lss .no t27 t26) |> bo fun t28 =>
    brX t28
      (
        (ixaX 1 t25 t27) |> bo fun t29 =>
        (ld1 m t29) |> bo fun t30 =>
        (apL m 2 16 t6 t30) |> bo fun r4 =>
        (binX .add .no t27 (.int .i64 1)) |> bo fun t34 =>
        cutK k r4.2 [] [r4.1, t25, t26, t34] (L_slices_Concat_impl_Cell_impl_Cell k q 1))
      (
        retK k m [] t6)
  | _, _, _, _ => none
noncomputable def J_slices_Concat_impl_Cell_impl_Cell (k q l : Nat) : List Value → Mem → Option VM := cond (Nat.beq l 3) (L_slices_Concat_impl_Cell_impl_Cell k q 0) (cond (Nat.beq l 11) (L_slices_Concat_impl_Cell_impl_Cell k q 1) (fun _ _ => none))
def LL_slices_Concat_impl_Cell_impl_Cell : List (Nat × List Tmp) := [(3, [0, 3, 9, 10, 11]), (11, [6, 25, 26, 27])]
noncomputable def X_slices_Concat_impl_Cell_impl_Cell : List Value → Mem → Option VM
  | [t0], m =>
    (lenX t0) |> bo fun t10 =>
    cutK m.length m [t0] [t0, (.int .i64 0), t0, t10, (.int .i64 0)] (L_slices_Concat_impl_Cell_impl_Cell m.length QQ 0)
  | _, _ => none
noncomputable def C_slices_Concat_impl_Cell_impl_Cell : List Value → Mem → Option VM := fcall X_slices_Concat_impl_Cell_impl_Cell
@[simp] theorem c_slices_Concat_impl_Cell_impl_Cell : C_slices_Concat_impl_Cell_impl_Cell = fcall X_slices_Concat_impl_Cell_impl_Cell := (rfl)
theorem cok_slices_Concat_impl_Cell_impl_Cell : codeOk CT Try.f122 (Try.f122.body.get rfl) = true := by kernel_rfl
theorem xe_slices_Concat_impl_Cell_impl_Cell (t0 : Value) (m : Mem) : ex CT cf_slices_Concat_impl_Cell_impl_Cell Try.f122 1 m.length LL_slices_Concat_impl_Cell_impl_Cell (J_slices_Concat_impl_Cell_impl_Cell m.length QQ) 400 [.code (Try.f122.body.get rfl)] (argsT 0 [t0]) m = X_slices_Concat_impl_Cell_impl_Cell [t0] m := by kernel_rfl
theorem okc_slices_Concat_impl_Cell_impl_Cell : CallOK CT cf_slices_Concat_impl_Cell_impl_Cell := cfc_ok ok_C_slices_Grow_impl_Cell_impl_Cell cfn_ok
theorem le_slices_Concat_impl_Cell_impl_Cell_0 (k q : Nat) (t0 t3 t9 t10 t11 : Value) (m : Mem) : ex CT cf_slices_Concat_impl_Cell_impl_Cell Try.f122 1 k LL_slices_Concat_impl_Cell_impl_Cell (J_slices_Concat_impl_Cell_impl_Cell k q) 400 (atLoop Try.f122 0) [(0, t0), (3, t3), (9, t9), (10, t10), (11, t11)] m = J_slices_Concat_impl_Cell_impl_Cell k (q + 1) 3 [t0, t3, t9, t10, t11] m := by kernel_rfl
theorem le_slices_Concat_impl_Cell_impl_Cell_1 (k q : Nat) (t6 t25 t26 t27 : Value) (m : Mem) : ex CT cf_slices_Concat_impl_Cell_impl_Cell Try.f122 1 k LL_slices_Concat_impl_Cell_impl_Cell (J_slices_Concat_impl_Cell_impl_Cell k q) 400 (atLoop Try.f122 1) [(6, t6), (25, t25), (26, t26), (27, t27)] m = J_slices_Concat_impl_Cell_impl_Cell k (q + 1) 11 [t6, t25, t26, t27] m := by kernel_rfl
theorem gl_slices_Concat_impl_Cell_impl_Cell (k : Nat) : ∀ q i, i < 2 → GoodL CT k Try.f122 LL_slices_Concat_impl_Cell_impl_Cell (J_slices_Concat_impl_Cell_impl_Cell k q) (atLoop Try.f122 i)
  | 0, 0, _ => goodL_zero (l := 3) (by kernel_rfl) (fun vs m => by kernel_rfl)
  | 0, 1, _ => goodL_zero (l := 11) (by kernel_rfl) (fun vs m => by kernel_rfl)
  | 0, _ + 2, h => absurd h (by omega)
  | q + 1, 0, _ => goodL_succ (np := 1) (l := 3) (live := [0, 3, 9, 10, 11]) (n := 2) CT_ok rfl okc_slices_Concat_impl_Cell_impl_Cell (c := (Try.f122.body.get rfl)) rfl cok_slices_Concat_impl_Cell_impl_Cell (by kernel_rfl) (gl_slices_Concat_impl_Cell_impl_Cell k q) (by kernel_rfl) rfl (fun vs m r hl h => match vs, hl with
    | [t0, t3, t9, t10, t11], _ => (le_slices_Concat_impl_Cell_impl_Cell_0 k q t0 t3 t9 t10 t11 m).trans h)
  | q + 1, 1, _ => goodL_succ (np := 1) (l := 11) (live := [6, 25, 26, 27]) (n := 2) CT_ok rfl okc_slices_Concat_impl_Cell_impl_Cell (c := (Try.f122.body.get rfl)) rfl cok_slices_Concat_impl_Cell_impl_Cell (by kernel_rfl) (gl_slices_Concat_impl_Cell_impl_Cell k q) (by kernel_rfl) rfl (fun vs m r hl h => match vs, hl with
    | [t6, t25, t26, t27], _ => (le_slices_Concat_impl_Cell_impl_Cell_1 k q t6 t25 t26 t27 m).trans h)
  | _ + 1, _ + 2, h => absurd h (by omega)
theorem ok_X_slices_Concat_impl_Cell_impl_Cell : OkX CT 122 X_slices_Concat_impl_Cell_impl_Cell := OkX.of_ex (cf := cf_slices_Concat_impl_Cell_impl_Cell) (np := 1) (LL := LL_slices_Concat_impl_Cell_impl_Cell) (J := (fun k => J_slices_Concat_impl_Cell_impl_Cell k QQ)) CT_ok rfl Try.func122 rfl (Nat.le_of_ble_eq_true rfl) (by decide) cok_slices_Concat_impl_Cell_impl_Cell okc_slices_Concat_impl_Cell_impl_Cell (fun k => allLoops rfl (by kernel_rfl) (gl_slices_Concat_impl_Cell_impl_Cell k QQ)) (fun args m r h => match args, h with
    | [t0], h => ⟨rfl, (xe_slices_Concat_impl_Cell_impl_Cell t0 m).trans h⟩)
theorem ok_C_slices_Concat_impl_Cell_impl_Cell : OkC CT 122 C_slices_Concat_impl_Cell_impl_Cell := fcall_ok rfl ok_X_slices_Concat_impl_Cell_impl_Cell

/-! ### impl.moved -/
noncomputable def cf_impl_moved : CallF := cfc 120 C_impl_blanks (cfc 122 C_slices_Concat_impl_Cell_impl_Cell cfn)
noncomputable def X_impl_moved : List Value → Mem → Option VM
  | [t0, t1, t2], m =>
    (lenX t0) |> bo fun t9 =>
    (uop .neg t1) |> bo fun t12 =>
    (minMax true t1 [t12]) |> bo fun t13 =>
    (minMax false t13 [t9]) |> bo fun t15 =>
    (C_impl_blanks [t15, t2] m) |> bo fun r5 =>
    (binX .gtr .no t1 (.int .i64 0)) |> bo fun t19 =>
    brX t19
      (
        (bslX r5.2 2 1 [.slice none 0 0] [(0, 1, r5.1), (1, 1, t0)]) |> bo fun r7 =>
        (C_slices_Concat_impl_Cell_impl_Cell [r7.1] r7.2) |> bo fun r8 =>
        (slX r8.2 2 r8.1 none (some t9)) |> bo fun t26 =>
        (cpL r8.2 2 t0 t26) |> bo fun r10 =>
        retK m.length r10.2 [t0, t1, t2] (.tuple #[]))
      (
        (bslX r5.2 2 1 [.slice none 0 0] [(0, 1, t0), (1, 1, r5.1)]) |> bo fun r11 =>
        (C_slices_Concat_impl_Cell_impl_Cell [r11.1] r11.2) |> bo fun r12 =>
        (lenX r5.1) |> bo fun t34 =>
        (slX r12.2 2 r12.1 (some t34) none) |> bo fun t35 =>
        (cpL r12.2 2 t0 t35) |> bo fun r15 =>
        retK m.length r15.2 [t0, t1, t2] (.tuple #[]))
  | _, _ => none
noncomputable def C_impl_moved : List Value → Mem → Option VM := rcall X_impl_moved
@[simp] theorem c_impl_moved : C_impl_moved = rcall X_impl_moved := (rfl)
theorem cok_impl_moved : codeOk CT Try.f123 (Try.f123.body.get rfl) = true := by kernel_rfl
theorem xe_impl_moved (t0 t1 t2 : Value) (m : Mem) : ex CT cf_impl_moved Try.f123 3 m.length [] (fun _ _ _ => none) 400 [.code (Try.f123.body.get rfl)] (argsT 0 [t0, t1, t2]) m = X_impl_moved [t0, t1, t2] m := by kernel_rfl
theorem okc_impl_moved : CallOK CT cf_impl_moved := cfc_ok ok_C_impl_blanks (cfc_ok ok_C_slices_Concat_impl_Cell_impl_Cell cfn_ok)
theorem ok_X_impl_moved : OkX CT 123 X_impl_moved := OkX.of_ex (cf := cf_impl_moved) (np := 3) (LL := []) (J := (fun _ _ _ _ => none)) CT_ok rfl Try.func123 rfl (Nat.le_of_ble_eq_true rfl) (by decide) cok_impl_moved okc_impl_moved (fun k => noLoops rfl) (fun args m r h => match args, h with
    | [t0, t1, t2], h => ⟨rfl, (xe_impl_moved t0 t1 t2 m).trans h⟩)
theorem ok_C_impl_moved : OkC CT 123 C_impl_moved := rcall_ok rfl ok_X_impl_moved

/-! ### (*impl.Grid).scroll -/
noncomputable def cf_impl_Grid_scroll : CallF := cfc 122 C_slices_Concat_impl_Cell_impl_Cell (cfc 123 C_impl_moved cfn)
noncomputable def X_impl_Grid_scroll : List Value → Mem → Option VM
  | [t0, t1, t2, t3, t4], m =>
    (nilX t0) |> bo fun t13 =>
    (fadX 2 t13) |> bo fun t14 =>
    (ld1 m t14) |> bo fun t15 =>
    (nilX t0) |> bo fun t18 =>
    (fadX 1 t18) |> bo fun t19 =>
    (ld1 m t19) |> bo fun t20 =>
    (binX .mul .no t1 t20) |> bo fun t21 =>
    (binX .add .no t2 (.int .i64 1)) |> bo fun t23 =>
    (nilX t0) |> bo fun t25 =>
    (fadX 1 t25) |> bo fun t26 =>
    (ld1 m t26) |> bo fun t27 =>
    (binX .mul .no t23 t27) |> bo fun t28 =>
    (slX m 2 t15 (some t21) (some t28)) |> bo fun t29 =>
    (binX .add .no t2 (.int .i64 1)) |> bo fun t32 =>
    (binX .sub .no t32 t1) |> bo fun t34 =>
    (minMax false t3 [t34]) |> bo fun t35 =>
    (binX .eql .no t1 (.int .i64 0)) |> bo fun t37 =>
    (gd t37 true (some (t35, m)) m) |> bo fun r18 =>
    (gd t37 true ((binX .gtr .no r18.1 (.int .i64 0)) |> bo fun v => some (v, r18.2)) r18.2) |> bo fun r19 =>
    (pickX t37 r19.1 (.bool false)) |> bo fun t41 =>
    brX t41
      (
        (nilX t0) |> bo fun t44 =>
        (fadX 3 t44) |> bo fun t45 =>
        (ld1 r19.2 t45) |> bo fun t46 =>
        (nilX t0) |> bo fun t50 =>
        (fadX 1 t50) |> bo fun t51 =>
        (ld1 r19.2 t51) |> bo fun t52 =>
        (binX .mul .no t35 t52) |> bo fun t53 =>
        (slX r19.2 2 t29 none (some t53)) |> bo fun t54 =>
        (bslX r19.2 2 1 [.slice none 0 0] [(0, 1, t46), (1, 1, t54)]) |> bo fun r29 =>
        (C_slices_Concat_impl_Cell_impl_Cell [r29.1] r29.2) |> bo fun r30 =>
        (nilX t0) |> bo fun t57 =>
        (fadX 3 t57) |> bo fun t58 =>
        (stX r30.2 1 t58 r30.1) |> bo fun m33 =>
        (nilX t0) |> bo fun t61 =>
        (fadX 3 t61) |> bo fun t62 =>
        (ld1 m33 t62) |> bo fun t63 =>
        (nilX t0) |> bo fun t65 =>
        (fadX 3 t65) |> bo fun t66 =>
        (ld1 m33 t66) |> bo fun t67 =>
        (lenX t67) |> bo fun t68 =>
        (nilX t0) |> bo fun t70 =>
        (fadX 1 t70) |> bo fun t71 =>
        (ld1 m33 t71) |> bo fun t72 =>
        (binX .mul .no (.int .i64 5) t72) |> bo fun t73 =>
        (binX .sub .no t68 t73) |> bo fun t74 =>
        (minMax true (.int .i64 0) [t74]) |> bo fun t75 =>
        (slX m33 2 t63 (some t75) none) |> bo fun t76 =>
        (nilX t0) |> bo fun t77 =>
        (fadX 3 t77) |> bo fun t78 =>
        (stX m33 1 t78 t76) |> bo fun m50 =>
        (uop .neg t3) |> bo fun t81 =>
        (nilX t0) |> bo fun t83 =>
        (fadX 1 t83) |> bo fun t84 =>
        (ld1 m50 t84) |> bo fun t85 =>
        (binX .mul .no t81 t85) |> bo fun t86 =>
        (C_impl_moved [t29, t86, t4] m50) |> bo fun r56 =>
        retK m.length r56.2 [t0, t1, t2, t3, t4] (.tuple #[]))
      (
        (uop .neg t3) |> bo fun t81 =>
        (nilX t0) |> bo fun t83 =>
        (fadX 1 t83) |> bo fun t84 =>
        (ld1 r19.2 t84) |> bo fun t85 =>
        (binX .mul .no t81 t85) |> bo fun t86 =>
        (C_impl_moved [t29, t86, t4] r19.2) |> bo fun r62 =>
        retK m.length r62.2 [t0, t1, t2, t3, t4] (.tuple #[]))
  | _, _ => none
noncomputable def C_impl_Grid_scroll : List Value → Mem → Option VM := rcall X_impl_Grid_scroll
@[simp] theorem c_impl_Grid_scroll : C_impl_Grid_scroll = rcall X_impl_Grid_scroll := (rfl)
theorem cok_impl_Grid_scroll : codeOk CT Try.f86 (Try.f86.body.get rfl) = true := by kernel_rfl
theorem xe_impl_Grid_scroll (t0 t1 t2 t3 t4 : Value) (m : Mem) : ex CT cf_impl_Grid_scroll Try.f86 5 m.length [] (fun _ _ _ => none) 400 [.code (Try.f86.body.get rfl)] (argsT 0 [t0, t1, t2, t3, t4]) m = X_impl_Grid_scroll [t0, t1, t2, t3, t4] m := by kernel_rfl
theorem okc_impl_Grid_scroll : CallOK CT cf_impl_Grid_scroll := cfc_ok ok_C_slices_Concat_impl_Cell_impl_Cell (cfc_ok ok_C_impl_moved cfn_ok)
theorem ok_X_impl_Grid_scroll : OkX CT 86 X_impl_Grid_scroll := OkX.of_ex (cf := cf_impl_Grid_scroll) (np := 5) (LL := []) (J := (fun _ _ _ _ => none)) CT_ok rfl Try.func86 rfl (Nat.le_of_ble_eq_true rfl) (by decide) cok_impl_Grid_scroll okc_impl_Grid_scroll (fun k => noLoops rfl) (fun args m r h => match args, h with
    | [t0, t1, t2, t3, t4], h => ⟨rfl, (xe_impl_Grid_scroll t0 t1 t2 t3 t4 m).trans h⟩)
theorem ok_C_impl_Grid_scroll : OkC CT 86 C_impl_Grid_scroll := rcall_ok rfl ok_X_impl_Grid_scroll

/-! ### impl.ScrollGrid$2 -/
noncomputable def cf_impl_ScrollGrid_2 : CallF := cfc 86 C_impl_Grid_scroll cfn
noncomputable def X_impl_ScrollGrid_2 : List Value → Mem → Option VM
  | [t0, t1, t2, t3, t4], m =>
    (ld1 m t1) |> bo fun t7 =>
    (ld1 m t2) |> bo fun t8 =>
    (ld1 m t3) |> bo fun t9 =>
    (ld1 m t4) |> bo fun t10 =>
    (C_impl_Grid_scroll [t0, t7, t8, t9, t10] m) |> bo fun r5 =>
    retK m.length r5.2 [t0, t1, t2, t3, t4] (.tuple #[])
  | _, _ => none
noncomputable def C_impl_ScrollGrid_2 : List Value → Mem → Option VM := rcall X_impl_ScrollGrid_2
@[simp] theorem c_impl_ScrollGrid_2 : C_impl_ScrollGrid_2 = rcall X_impl_ScrollGrid_2 := (rfl)
theorem cok_impl_ScrollGrid_2 : codeOk CT Try.f85 (Try.f85.body.get rfl) = true := by kernel_rfl
theorem xe_impl_ScrollGrid_2 (t0 t1 t2 t3 t4 : Value) (m : Mem) : ex CT cf_impl_ScrollGrid_2 Try.f85 5 m.length [] (fun _ _ _ => none) 400 [.code (Try.f85.body.get rfl)] (argsT 0 [t0, t1, t2, t3, t4]) m = X_impl_ScrollGrid_2 [t0, t1, t2, t3, t4] m := by kernel_rfl
theorem okc_impl_ScrollGrid_2 : CallOK CT cf_impl_ScrollGrid_2 := cfc_ok ok_C_impl_Grid_scroll cfn_ok
theorem ok_X_impl_ScrollGrid_2 : OkX CT 85 X_impl_ScrollGrid_2 := OkX.of_ex (cf := cf_impl_ScrollGrid_2) (np := 5) (LL := []) (J := (fun _ _ _ _ => none)) CT_ok rfl Try.func85 rfl (Nat.le_of_ble_eq_true rfl) (by decide) cok_impl_ScrollGrid_2 okc_impl_ScrollGrid_2 (fun k => noLoops rfl) (fun args m r h => match args, h with
    | [t0, t1, t2, t3, t4], h => ⟨rfl, (xe_impl_ScrollGrid_2 t0 t1 t2 t3 t4 m).trans h⟩)
theorem ok_C_impl_ScrollGrid_2 : OkC CT 85 C_impl_ScrollGrid_2 := rcall_ok rfl ok_X_impl_ScrollGrid_2

/-! ### impl.ShiftCells$1 -/
noncomputable def cf_impl_ShiftCells_1 : CallF := cfc 60 C_impl_Grid_isPlace (cfc 73 C_impl_in (cfc 74 C_impl_isAttr cfn))
noncomputable def X_impl_ShiftCells_1 : List Value → Mem → Option VM
  | [t0, t1, t2, t3, t4], m =>
    (ldS m 4 t0) |> bo fun t6 =>
    (ld1 m t1) |> bo fun t7 =>
    (ld1 m t2) |> bo fun t8 =>
    (C_impl_Grid_isPlace [t6, t7, t8] m) |> bo fun r4 =>
    (gd r4.1 true ((ld1 r4.2 t3) |> bo fun v => some (v, r4.2)) r4.2) |> bo fun r5 =>
    (gd r4.1 true ((C_impl_in [r5.1, (.int .i64 (-12)), (.int .i64 12)] r5.2) |> bo fun r => some (r.1, r.2)) r5.2) |> bo fun r6 =>
    (pickX r4.1 r6.1 (.bool false)) |> bo fun t13 =>
    (gd t13 true ((ld1 r6.2 t4) |> bo fun v => some (v, r6.2)) r6.2) |> bo fun r8 =>
    (gd t13 true ((C_impl_isAttr [r8.1] r8.2) |> bo fun r => some (r.1, r.2)) r8.2) |> bo fun r9 =>
    (pickX t13 r9.1 (.bool false)) |> bo fun t17 =>
    retK m.length r9.2 [t0, t1, t2, t3, t4] t17
  | _, _ => none
noncomputable def C_impl_ShiftCells_1 : List Value → Mem → Option VM := fcall X_impl_ShiftCells_1
@[simp] theorem c_impl_ShiftCells_1 : C_impl_ShiftCells_1 = fcall X_impl_ShiftCells_1 := (rfl)
theorem cok_impl_ShiftCells_1 : codeOk CT Try.f90 (Try.f90.body.get rfl) = true := by kernel_rfl
theorem xe_impl_ShiftCells_1 (t0 t1 t2 t3 t4 : Value) (m : Mem) : ex CT cf_impl_ShiftCells_1 Try.f90 5 m.length [] (fun _ _ _ => none) 400 [.code (Try.f90.body.get rfl)] (argsT 0 [t0, t1, t2, t3, t4]) m = X_impl_ShiftCells_1 [t0, t1, t2, t3, t4] m := by kernel_rfl
theorem okc_impl_ShiftCells_1 : CallOK CT cf_impl_ShiftCells_1 := cfc_ok ok_C_impl_Grid_isPlace (cfc_ok ok_C_impl_in (cfc_ok ok_C_impl_isAttr cfn_ok))
theorem ok_X_impl_ShiftCells_1 : OkX CT 90 X_impl_ShiftCells_1 := OkX.of_ex (cf := cf_impl_ShiftCells_1) (np := 5) (LL := []) (J := (fun _ _ _ _ => none)) CT_ok rfl Try.func90 rfl (Nat.le_of_ble_eq_true rfl) (by decide) cok_impl_ShiftCells_1 okc_impl_ShiftCells_1 (fun k => noLoops rfl) (fun args m r h => match args, h with
    | [t0, t1, t2, t3, t4], h => ⟨rfl, (xe_impl_ShiftCells_1 t0 t1 t2 t3 t4 m).trans h⟩)
theorem ok_C_impl_ShiftCells_1 : OkC CT 90 C_impl_ShiftCells_1 := fcall_ok rfl ok_X_impl_ShiftCells_1

/-! ### (*impl.Grid).shift -/
noncomputable def cf_impl_Grid_shift : CallF := cfc 123 C_impl_moved cfn
noncomputable def X_impl_Grid_shift : List Value → Mem → Option VM
  | [t0, t1, t2, t3, t4], m =>
    (nilX t0) |> bo fun t11 =>
    (fadX 2 t11) |> bo fun t12 =>
    (ld1 m t12) |> bo fun t13 =>
    (nilX t0) |> bo fun t16 =>
    (fadX 1 t16) |> bo fun t17 =>
    (ld1 m t17) |> bo fun t18 =>
    (binX .mul .no t1 t18) |> bo fun t19 =>
    (binX .add .no t19 t2) |> bo fun t21 =>
    (binX .add .no t1 (.int .i64 1)) |> bo fun t23 =>
    (nilX t0) |> bo fun t25 =>
    (fadX 1 t25) |> bo fun t26 =>
    (ld1 m t26) |> bo fun t27 =>
    (binX .mul .no t23 t27) |> bo fun t28 =>
    (slX m 2 t13 (some t21) (some t28)) |> bo fun t29 =>
    (C_impl_moved [t29, t3, t4] m) |> bo fun r15 =>
    retK m.length r15.2 [t0, t1, t2, t3, t4] (.tuple #[])
  | _, _ => none
noncomputable def C_impl_Grid_shift : List Value → Mem → Option VM := rcall X_impl_Grid_shift
@[simp] theorem c_impl_Grid_shift : C_impl_Grid_shift = rcall X_impl_Grid_shift := (rfl)
theorem cok_impl_Grid_shift : codeOk CT Try.f92 (Try.f92.body.get rfl) = true := by kernel_rfl
theorem xe_impl_Grid_shift (t0 t1 t2 t3 t4 : Value) (m : Mem) : ex CT cf_impl_Grid_shift Try.f92 5 m.length [] (fun _ _ _ => none) 400 [.code (Try.f92.body.get rfl)] (argsT 0 [t0, t1, t2, t3, t4]) m = X_impl_Grid_shift [t0, t1, t2, t3, t4] m := by kernel_rfl
theorem okc_impl_Grid_shift : CallOK CT cf_impl_Grid_shift := cfc_ok ok_C_impl_moved cfn_ok
theorem ok_X_impl_Grid_shift : OkX CT 92 X_impl_Grid_shift := OkX.of_ex (cf := cf_impl_Grid_shift) (np := 5) (LL := []) (J := (fun _ _ _ _ => none)) CT_ok rfl Try.func92 rfl (Nat.le_of_ble_eq_true rfl) (by decide) cok_impl_Grid_shift okc_impl_Grid_shift (fun k => noLoops rfl) (fun args m r h => match args, h with
    | [t0, t1, t2, t3, t4], h => ⟨rfl, (xe_impl_Grid_shift t0 t1 t2 t3 t4 m).trans h⟩)
theorem ok_C_impl_Grid_shift : OkC CT 92 C_impl_Grid_shift := rcall_ok rfl ok_X_impl_Grid_shift

/-! ### impl.ShiftCells$2 -/
noncomputable def cf_impl_ShiftCells_2 : CallF := cfc 92 C_impl_Grid_shift cfn
noncomputable def X_impl_ShiftCells_2 : List Value → Mem → Option VM
  | [t0, t1, t2, t3, t4], m =>
    (ld1 m t1) |> bo fun t7 =>
    (ld1 m t2) |> bo fun t8 =>
    (ld1 m t3) |> bo fun t9 =>
    (ld1 m t4) |> bo fun t10 =>
    (C_impl_Grid_shift [t0, t7, t8, t9, t10] m) |> bo fun r5 =>
    retK m.length r5.2 [t0, t1, t2, t3, t4] (.tuple #[])
  | _, _ => none
noncomputable def C_impl_ShiftCells_2 : List Value → Mem → Option VM := rcall X_impl_ShiftCells_2
@[simp] theorem c_impl_ShiftCells_2 : C_impl_ShiftCells_2 = rcall X_impl_ShiftCells_2 := (rfl)
theorem cok_impl_ShiftCells_2 : codeOk CT Try.f91 (Try.f91.body.get rfl) = true := by kernel_rfl
theorem xe_impl_ShiftCells_2 (t0 t1 t2 t3 t4 : Value) (m : Mem) : ex CT cf_impl_ShiftCells_2 Try.f91 5 m.length [] (fun _ _ _ => none) 400 [.code (Try.f91.body.get rfl)] (argsT 0 [t0, t1, t2, t3, t4]) m = X_impl_ShiftCells_2 [t0, t1, t2, t3, t4] m := by kernel_rfl
theorem okc_impl_ShiftCells_2 : CallOK CT cf_impl_ShiftCells_2 := cfc_ok ok_C_impl_Grid_shift cfn_ok
theorem ok_X_impl_ShiftCells_2 : OkX CT 91 X_impl_ShiftCells_2 := OkX.of_ex (cf := cf_impl_ShiftCells_2) (np := 5) (LL := []) (J := (fun _ _ _ _ => none)) CT_ok rfl Try.func91 rfl (Nat.le_of_ble_eq_true rfl) (by decide) cok_impl_ShiftCells_2 okc_impl_ShiftCells_2 (fun k => noLoops rfl) (fun args m r h => match args, h with
    | [t0, t1, t2, t3, t4], h => ⟨rfl, (xe_impl_ShiftCells_2 t0 t1 t2 t3 t4 m).trans h⟩)
theorem ok_C_impl_ShiftCells_2 : OkC CT 91 C_impl_ShiftCells_2 := rcall_ok rfl ok_X_impl_ShiftCells_2

/-! ### impl.ResizeGrid$1 -/
noncomputable def cf_impl_ResizeGrid_1 : CallF := cfc 80 C_impl_sizeOk cfn
noncomputable def X_impl_ResizeGrid_1 : List Value → Mem → Option VM
  | [t0, t1], m =>
    (ld1 m t0) |> bo fun t3 =>
    (ld1 m t1) |> bo fun t4 =>
    (C_impl_sizeOk [t3, t4] m) |> bo fun r3 =>
    retK m.length r3.2 [t0, t1] r3.1
  | _, _ => none
noncomputable def C_impl_ResizeGrid_1 : List Value → Mem → Option VM := fcall X_impl_ResizeGrid_1
@[simp] theorem c_impl_ResizeGrid_1 : C_impl_ResizeGrid_1 = fcall X_impl_ResizeGrid_1 := (rfl)
theorem cok_impl_ResizeGrid_1 : codeOk CT Try.f95 (Try.f95.body.get rfl) = true := by kernel_rfl
theorem xe_impl_ResizeGrid_1 (t0 t1 : Value) (m : Mem) : ex CT cf_impl_ResizeGrid_1 Try.f95 2 m.length [] (fun _ _ _ => none) 400 [.code (Try.f95.body.get rfl)] (argsT 0 [t0, t1]) m = X_impl_ResizeGrid_1 [t0, t1] m := by kernel_rfl
theorem okc_impl_ResizeGrid_1 : CallOK CT cf_impl_ResizeGrid_1 := cfc_ok ok_C_impl_sizeOk cfn_ok
theorem ok_X_impl_ResizeGrid_1 : OkX CT 95 X_impl_ResizeGrid_1 := OkX.of_ex (cf := cf_impl_ResizeGrid_1) (np := 2) (LL := []) (J := (fun _ _ _ _ => none)) CT_ok rfl Try.func95 rfl (Nat.le_of_ble_eq_true rfl) (by decide) cok_impl_ResizeGrid_1 okc_impl_ResizeGrid_1 (fun k => noLoops rfl) (fun args m r h => match args, h with
    | [t0, t1], h => ⟨rfl, (xe_impl_ResizeGrid_1 t0 t1 m).trans h⟩)
theorem ok_C_impl_ResizeGrid_1 : OkC CT 95 C_impl_ResizeGrid_1 := fcall_ok rfl ok_X_impl_ResizeGrid_1

/-! ### impl.widened -/
noncomputable def cf_impl_widened : CallF := cfc 120 C_impl_blanks (cfc 122 C_slices_Concat_impl_Cell_impl_Cell cfn)
noncomputable def L_impl_widened (k : Nat) : Nat → Nat → List Value → Mem → Option VM
  | q + 1, 0, [t0, t1, t2, t7], m =>
    (lenX t0) |> bo fun t11 =>
    (binX .gtr .no t11 (.int .i64 0)) |> bo fun t12 =>
    brX t12
      (
        (slX m 2 t0 none (some t1)) |> bo fun t18 =>
        (binX .sub .no t2 t1) |> bo fun t21 =>
        (minMax true t21 [(.int .i64 0)]) |> bo fun t22 =>
        (C_impl_blanks [t22, (.int .i64 0)] m) |> bo fun r6 =>
        (bslX r6.2 2 1 [.slice none 0 0] [(0, 1, t18), (1, 1, r6.1)]) |> bo fun r7 =>
        (C_slices_Concat_impl_Cell_impl_Cell [r7.1] r7.2) |> bo fun r8 =>
        (slX r8.2 2 r8.1 none (some t2)) |> bo fun t29 =>
        (apL r8.2 2 16 t7 t29) |> bo fun r10 =>
        (slX r10.2 2 t0 (some t1) none) |> bo fun t15 =>
        cutK k r10.2 [t15, t1, t2] [t15, t1, t2, r10.1] (L_impl_widened k q 0))
      (
        retK k m [t0, t1, t2] t7)
  | _, _, _, _ => none
noncomputable def J_impl_widened (k q l : Nat) : List Value → Mem → Option VM := cond (Nat.beq l 2) (L_impl_widened k q 0) (fun _ _ => none)
def LL_impl_widened : List (Nat × List Tmp) := [(2, [0, 1, 2, 7])]
noncomputable def X_impl_widened : List Value → Mem → Option VM
  | [t0, t1, t2], m =>
    (bslX m 0 2 [.int .i64 0, .int .i64 0] []) |> bo fun r1 =>
    cutK m.length r1.2 [t0, t1, t2] [t0, t1, t2, r1.1] (L_impl_widened m.length QQ 0)
  | _, _ => none
noncomputable def C_impl_widened : List Value → Mem → Option VM := fcall X_impl_widened
@[simp] theorem c_impl_widened : C_impl_widened = fcall X_impl_widened := (rfl)
theorem cok_impl_widened : codeOk CT Try.f129 (Try.f129.body.get rfl) = true := by kernel_rfl
theorem xe_impl_widened (t0 t1 t2 : Value) (m : Mem) : ex CT cf_impl_widened Try.f129 3 m.length LL_impl_widened (J_impl_widened m.length QQ) 400 [.code (Try.f129.body.get rfl)] (argsT 0 [t0, t1, t2]) m = X_impl_widened [t0, t1, t2] m := by kernel_rfl
theorem okc_impl_widened : CallOK CT cf_impl_widened := cfc_ok ok_C_impl_blanks (cfc_ok ok_C_slices_Concat_impl_Cell_impl_Cell cfn_ok)
theorem le_impl_widened_0 (k q : Nat) (t0 t1 t2 t7 : Value) (m : Mem) : ex CT cf_impl_widened Try.f129 3 k LL_impl_widened (J_impl_widened k q) 400 (atLoop Try.f129 0) [(0, t0), (1, t1), (2, t2), (7, t7)] m = J_impl_widened k (q + 1) 2 [t0, t1, t2, t7] m := by kernel_rfl
theorem gl_impl_widened (k : Nat) : ∀ q i, i < 1 → GoodL CT k Try.f129 LL_impl_widened (J_impl_widened k q) (atLoop Try.f129 i)
  | 0, 0, _ => goodL_zero (l := 2) (by kernel_rfl) (fun vs m => by kernel_rfl)
  | 0, _ + 1, h => absurd h (by omega)
  | q + 1, 0, _ => goodL_succ (np := 3) (l := 2) (live := [0, 1, 2, 7]) (n := 1) CT_ok rfl okc_impl_widened (c := (Try.f129.body.get rfl)) rfl cok_impl_widened (by kernel_rfl) (gl_impl_widened k q) (by kernel_rfl) rfl (fun vs m r hl h => match vs, hl with
    | [t0, t1, t2, t7], _ => (le_impl_widened_0 k q t0 t1 t2 t7 m).trans h)
  | _ + 1, _ + 1, h => absurd h (by omega)
theorem ok_X_impl_widened : OkX CT 129 X_impl_widened := OkX.of_ex (cf := cf_impl_widened) (np := 3) (LL := LL_impl_widened) (J := (fun k => J_impl_widened k QQ)) CT_ok rfl Try.func129 rfl (Nat.le_of_ble_eq_true rfl) (by decide) cok_impl_widened okc_impl_widened (fun k => allLoops rfl (by kernel_rfl) (gl_impl_widened k QQ)) (fun args m r h => match args, h with
    | [t0, t1, t2], h => ⟨rfl, (xe_impl_widened t0 t1 t2 m).trans h⟩)
theorem ok_C_impl_widened : OkC CT 129 C_impl_widened := fcall_ok rfl ok_X_impl_widened

/-! ### (impl.Grid).resized -/
noncomputable def cf_impl_Grid_resized : CallF := cfc 120 C_impl_blanks (cfc 122 C_slices_Concat_impl_Cell_impl_Cell (cfc 129 C_impl_widened cfn))
noncomputable def X_impl_Grid_resized : List Value → Mem → Option VM
  | [t0, t1, t2], m =>
    (boxX m t0) |> bo fun r1 =>
    (alX r1.2 [.int .i64 0, .int .i64 0, .slice none 0 0, .slice none 0 0]) |> bo fun r2 =>
    (fadX 2 r1.1) |> bo fun t8 =>
    (ld1 r2.2 t8) |> bo fun t9 =>
    (fadX 1 r1.1) |> bo fun t10 =>
    (ld1 r2.2 t10) |> bo fun t11 =>
    (C_impl_widened [t9, t11, t2] r2.2) |> bo fun r7 =>
    (fadX 0 r1.1) |> bo fun t15 =>
    (ld1 r7.2 t15) |> bo fun t16 =>
    (binX .sub .no t1 t16) |> bo fun t17 =>
    (minMax true t17 [(.int .i64 0)]) |> bo fun t18 =>
    (binX .mul .no t18 t2) |> bo fun t20 =>
    (C_impl_blanks [t20, (.int .i64 0)] r7.2) |> bo fun r13 =>
    (bslX r13.2 2 1 [.slice none 0 0] [(0, 1, r7.1), (1, 1, r13.1)]) |> bo fun r14 =>
    (C_slices_Concat_impl_Cell_impl_Cell [r14.1] r14.2) |> bo fun r15 =>
    gP (stbL [((rdN t15), r2.2, r7.2)])
      (
        (binX .mul .no t1 t2) |> bo fun t29 =>
        (slX r15.2 2 r15.1 none (some t29)) |> bo fun t30 =>
        (fadX 3 r1.1) |> bo fun t31 =>
        (ld1 r15.2 t31) |> bo fun t32 =>
        (fadX 1 r1.1) |> bo fun t33 =>
        (ld1 r15.2 t33) |> bo fun t34 =>
        (C_impl_widened [t32, t34, t2] r15.2) |> bo fun r22 =>
        (bldX [.int .i64 0, .int .i64 0, .slice none 0 0, .slice none 0 0] [(0, 1, t1), (1, 1, t2), (2, 1, t30), (3, 1, r22.1)]) |> bo fun t37 =>
        (stX r22.2 4 r2.1 t37) |> bo fun m24 =>
        (resP (some 4) m24 r2.1) |> bo fun c25 =>
        retK m.length m24 [t0, t1, t2] c25)
  | _, _ => none
noncomputable def C_impl_Grid_resized : List Value → Mem → Option VM := fcall X_impl_Grid_resized
@[simp] theorem c_impl_Grid_resized : C_impl_Grid_resized = fcall X_impl_Grid_resized := (rfl)
theorem cok_impl_Grid_resized : codeOk CT Try.f97 (Try.f97.body.get rfl) = true := by kernel_rfl
theorem xe_impl_Grid_resized (t0 t1 t2 : Value) (m : Mem) : ex CT cf_impl_Grid_resized Try.f97 3 m.length [] (fun _ _ _ => none) 400 [.code (Try.f97.body.get rfl)] (argsT 0 [t0, t1, t2]) m = X_impl_Grid_resized [t0, t1, t2] m := by kernel_rfl
theorem okc_impl_Grid_resized : CallOK CT cf_impl_Grid_resized := cfc_ok ok_C_impl_blanks (cfc_ok ok_C_slices_Concat_impl_Cell_impl_Cell (cfc_ok ok_C_impl_widened cfn_ok))
theorem ok_X_impl_Grid_resized : OkX CT 97 X_impl_Grid_resized := OkX.of_ex (cf := cf_impl_Grid_resized) (np := 3) (LL := []) (J := (fun _ _ _ _ => none)) CT_ok rfl Try.func97 rfl (Nat.le_of_ble_eq_true rfl) (by decide) cok_impl_Grid_resized okc_impl_Grid_resized (fun k => noLoops rfl) (fun args m r h => match args, h with
    | [t0, t1, t2], h => ⟨rfl, (xe_impl_Grid_resized t0 t1 t2 m).trans h⟩)
theorem ok_C_impl_Grid_resized : OkC CT 97 C_impl_Grid_resized := fcall_ok rfl ok_X_impl_Grid_resized

/-! ### impl.ResizeGrid$2 -/
noncomputable def cf_impl_ResizeGrid_2 : CallF := cfc 97 C_impl_Grid_resized cfn
noncomputable def X_impl_ResizeGrid_2 : List Value → Mem → Option VM
  | [t0, t1, t2], m =>
    (nilX t0) |> bo fun t6 =>
    (ldS m 4 t6) |> bo fun t7 =>
    (ld1 m t1) |> bo fun t8 =>
    (ld1 m t2) |> bo fun t9 =>
    (C_impl_Grid_resized [t7, t8, t9] m) |> bo fun r5 =>
    (nilX t0) |> bo fun t11 =>
    (stX r5.2 4 t11 r5.1) |> bo fun m7 =>
    retK m.length m7 [t0, t1, t2] (.tuple #[])
  | _, _ => none
noncomputable def C_impl_ResizeGrid_2 : List Value → Mem → Option VM := rcall X_impl_ResizeGrid_2
@[simp] theorem c_impl_ResizeGrid_2 : C_impl_ResizeGrid_2 = rcall X_impl_ResizeGrid_2 := (rfl)
theorem cok_impl_ResizeGrid_2 : codeOk CT Try.f96 (Try.f96.body.get rfl) = true := by kernel_rfl
theorem xe_impl_ResizeGrid_2 (t0 t1 t2 : Value) (m : Mem) : ex CT cf_impl_ResizeGrid_2 Try.f96 3 m.length [] (fun _ _ _ => none) 400 [.code (Try.f96.body.get rfl)] (argsT 0 [t0, t1, t2]) m = X_impl_ResizeGrid_2 [t0, t1, t2] m := by kernel_rfl
theorem okc_impl_ResizeGrid_2 : CallOK CT cf_impl_ResizeGrid_2 := cfc_ok ok_C_impl_Grid_resized cfn_ok
theorem ok_X_impl_ResizeGrid_2 : OkX CT 96 X_impl_ResizeGrid_2 := OkX.of_ex (cf := cf_impl_ResizeGrid_2) (np := 3) (LL := []) (J := (fun _ _ _ _ => none)) CT_ok rfl Try.func96 rfl (Nat.le_of_ble_eq_true rfl) (by decide) cok_impl_ResizeGrid_2 okc_impl_ResizeGrid_2 (fun k => noLoops rfl) (fun args m r h => match args, h with
    | [t0, t1, t2], h => ⟨rfl, (xe_impl_ResizeGrid_2 t0 t1 t2 m).trans h⟩)
theorem ok_C_impl_ResizeGrid_2 : OkC CT 96 C_impl_ResizeGrid_2 := rcall_ok rfl ok_X_impl_ResizeGrid_2

/-! ### slices.Clone[[]impl.Cell,impl.Cell] -/
noncomputable def cf_slices_Clone_impl_Cell_impl_Cell : CallF := cfn
noncomputable def X_slices_Clone_impl_Cell_impl_Cell : List Value → Mem → Option VM
  | [t0], m =>
    (nlX .eql t0) |> bo fun t4 =>
    brX t4
      (
        retK m.length m [t0] (.slice none 0 0))
      (
        (bslX m 0 2 [.int .i64 0, .int .i64 0] []) |> bo fun r2 =>
        (apL r2.2 2 16 r2.1 t0) |> bo fun r3 =>
        retK m.length r3.2 [t0] r3.1)
  | _, _ => none
theorem cok_slices_Clone_impl_Cell_impl_Cell : codeOk CT Try.f139 (Try.f139.body.get rfl) = true := by kernel_rfl
theorem xe_slices_Clone_impl_Cell_impl_Cell (t0 : Value) (m : Mem) : ex CT cf_slices_Clone_impl_Cell_impl_Cell Try.f139 1 m.length [] (fun _ _ _ => none) 400 [.code (Try.f139.body.get rfl)] (argsT 0 [t0]) m = X_slices_Clone_impl_Cell_impl_Cell [t0] m := by kernel_rfl
theorem okc_slices_Clone_impl_Cell_impl_Cell : CallOK CT cf_slices_Clone_impl_Cell_impl_Cell := cfn_ok
theorem ok_X_slices_Clone_impl_Cell_impl_Cell : OkX CT 139 X_slices_Clone_impl_Cell_impl_Cell := OkX.of_ex (cf := cf_slices_Clone_impl_Cell_impl_Cell) (np := 1) (LL := []) (J := (fun _ _ _ _ => none)) CT_ok rfl Try.func139 rfl (Nat.le_of_ble_eq_true rfl) (by decide) cok_slices_Clone_impl_Cell_impl_Cell okc_slices_Clone_impl_Cell_impl_Cell (fun k => noLoops rfl) (fun args m r h => match args, h with
    | [t0], h => ⟨rfl, (xe_slices_Clone_impl_Cell_impl_Cell t0 m).trans h⟩)
noncomputable def C_slices_Clone_impl_Cell_impl_Cell : List Value → Mem → Option VM := cloneC 2
@[simp] theorem c_slices_Clone_impl_Cell_impl_Cell : C_slices_Clone_impl_Cell_impl_Cell = cloneC 2 := (rfl)
theorem cl0_slices_Clone_impl_Cell_impl_Cell : X_slices_Clone_impl_Cell_impl_Cell [.float .f64 0] [] = some (.slice none 0 0, []) := by simp -implicitDefEqProofs [X_slices_Clone_impl_Cell_impl_Cell, retK_eq]
theorem cl1_slices_Clone_impl_Cell_impl_Cell : X_slices_Clone_impl_Cell_impl_Cell [.float .f64 1] [] = some (.slice (some ⟨0, 0, none⟩) 0 0, [⟨[], 2, true, true⟩]) := by simp -implicitDefEqProofs [X_slices_Clone_impl_Cell_impl_Cell, retK_eq, apL_f1]
theorem cl2_slices_Clone_impl_Cell_impl_Cell (len : Nat) (cs : Array Value) (hl : len ≠ 0) (hs : cs.size = len * 2) (hk : len < 1000000000) (hh : cs.toList.all hard = true) : X_slices_Clone_impl_Cell_impl_Cell [.iface len (.agg cs)] [] = some (.slice (some ⟨0, 0, none⟩) len len, [⟨cs.toList, 2, true, true⟩]) := by
  have ha := fun m n o c => apL_agg (m := m) (sz := 2) (bytes := 16) (n := n) (o := o) (len := 0) (c := c) hs (by omega) (by omega)
  simp -implicitDefEqProofs [X_slices_Clone_impl_Cell_impl_Cell, retK_eq, ha, hl, hard_all hh]
theorem ok_C_slices_Clone_impl_Cell_impl_Cell : OkC CT 139 C_slices_Clone_impl_Cell_impl_Cell := cloneC_ok rfl ok_X_slices_Clone_impl_Cell_impl_Cell cl0_slices_Clone_impl_Cell_impl_Cell cl1_slices_Clone_impl_Cell_impl_Cell cl2_slices_Clone_impl_Cell_impl_Cell

/-! ### (impl.Grid).clone -/
noncomputable def cf_impl_Grid_clone : CallF := cfc 139 C_slices_Clone_impl_Cell_impl_Cell cfn
noncomputable def X_impl_Grid_clone : List Value → Mem → Option VM
  | [t0], m =>
    (boxX m t0) |> bo fun r1 =>
    (alX r1.2 [.int .i64 0, .int .i64 0, .slice none 0 0, .slice none 0 0]) |> bo fun r2 =>
    (fadX 2 r1.1) |> bo fun t3 =>
    (ld1 r2.2 t3) |> bo fun t4 =>
    (C_slices_Clone_impl_Cell_impl_Cell [t4] r2.2) |> bo fun r5 =>
    (fadX 3 r1.1) |> bo fun t6 =>
    (ld1 r5.2 t6) |> bo fun t7 =>
    (C_slices_Clone_impl_Cell_impl_Cell [t7] r5.2) |> bo fun r8 =>
    (fadX 2 r1.1) |> bo fun t9 =>
    (stX r8.2 1 t9 r5.1) |> bo fun m10 =>
    (fadX 3 r1.1) |> bo fun t10 =>
    (stX m10 1 t10 r8.1) |> bo fun m12 =>
    gP (stbL [((rdN t6), r2.2, r5.2)])
      (
        (ldS m12 4 r1.1) |> bo fun t11 =>
        (stX m12 4 r2.1 t11) |> bo fun m14 =>
        (resP (some 4) m14 r2.1) |> bo fun c15 =>
        retK m.length m14 [t0] c15)
  | _, _ => none
noncomputable def C_impl_Grid_clone : List Value → Mem → Option VM := fcall X_impl_Grid_clone
@[simp] theorem c_impl_Grid_clone : C_impl_Grid_clone = fcall X_impl_Grid_clone := (rfl)
theorem cok_impl_Grid_clone : codeOk CT Try.f114 (Try.f114.body.get rfl) = true := by kernel_rfl
theorem xe_impl_Grid_clone (t0 : Value) (m : Mem) : ex CT cf_impl_Grid_clone Try.f114 1 m.length [] (fun _ _ _ => none) 400 [.code (Try.f114.body.get rfl)] (argsT 0 [t0]) m = X_impl_Grid_clone [t0] m := by kernel_rfl
theorem okc_impl_Grid_clone : CallOK CT cf_impl_Grid_clone := cfc_ok ok_C_slices_Clone_impl_Cell_impl_Cell cfn_ok
theorem ok_X_impl_Grid_clone : OkX CT 114 X_impl_Grid_clone := OkX.of_ex (cf := cf_impl_Grid_clone) (np := 1) (LL := []) (J := (fun _ _ _ _ => none)) CT_ok rfl Try.func114 rfl (Nat.le_of_ble_eq_true rfl) (by decide) cok_impl_Grid_clone okc_impl_Grid_clone (fun k => noLoops rfl) (fun args m r h => match args, h with
    | [t0], h => ⟨rfl, (xe_impl_Grid_clone t0 m).trans h⟩)
theorem ok_C_impl_Grid_clone : OkC CT 114 C_impl_Grid_clone := fcall_ok rfl ok_X_impl_Grid_clone

/-! ### impl.changed -/
noncomputable def cf_impl_changed : CallF := cfc 29 C_impl_GridFault (cfc 59 C_impl_PutCell_1 (cfc 62 C_impl_PutCell_2 (cfc 72 C_impl_EraseCells_1 (cfc 75 C_impl_EraseCells_2 (cfc 84 C_impl_ScrollGrid_1 (cfc 85 C_impl_ScrollGrid_2 (cfc 90 C_impl_ShiftCells_1 (cfc 91 C_impl_ShiftCells_2 (cfc 95 C_impl_ResizeGrid_1 (cfc 96 C_impl_ResizeGrid_2 (cfc 114 C_impl_Grid_clone cfn)))))))))))
noncomputable def X_impl_changed : List Value → Mem → Option VM
  | [t0, t1, t2], m =>
    (boxX m t0) |> bo fun r1 =>
    (alX r1.2 [.int .i64 0, .int .i64 0, .int .i64 0, .slice none 0 0, .slice none 0 0]) |> bo fun r2 =>
    (ldS r2.2 4 r1.1) |> bo fun t9 =>
    (C_impl_GridFault [t9] r2.2) |> bo fun r4 =>
    (binX .neq .no r4.1 (.int .i64 0)) |> bo fun t12 =>
    brX t12
      (
        (bldX [.int .i64 0, .int .i64 0, .int .i64 0, .slice none 0 0, .slice none 0 0] [(0, 1, r4.1)]) |> bo fun t14 =>
        (stX r4.2 5 r2.1 t14) |> bo fun m7 =>
        (resP (some 5) m7 r2.1) |> bo fun c8 =>
        retK m.length m7 [t0, t1, t2] c8)
      (
        (callV cf_impl_changed t1 [] r4.2) |> bo fun r9 =>
        (uop .not r9.1) |> bo fun t17 =>
        brX t17
          (
            (bldX [.int .i64 0, .int .i64 0, .int .i64 0, .slice none 0 0, .slice none 0 0] [(0, 1, (.int .i64 3))]) |> bo fun t18 =>
            (stX r9.2 5 r2.1 t18) |> bo fun m12 =>
            (resP (some 5) m12 r2.1) |> bo fun c13 =>
            retK m.length m12 [t0, t1, t2] c13)
          (
            (ldS r9.2 4 r1.1) |> bo fun t19 =>
            (C_impl_Grid_clone [t19] r9.2) |> bo fun r15 =>
            (alX r15.2 [.int .i64 0, .int .i64 0, .slice none 0 0, .slice none 0 0]) |> bo fun r16 =>
            (stX r16.2 4 r16.1 r15.1) |> bo fun m17 =>
            (callV cf_impl_changed t2 [r16.1] m17) |> bo fun r18 =>
            (ldS r18.2 4 r16.1) |> bo fun t23 =>
            (bldX [.int .i64 0, .int .i64 0, .int .i64 0, .slice none 0 0, .slice none 0 0] [(0, 1, (.int .i64 0)), (1, 4, t23)]) |> bo fun t24 =>
            (stX r18.2 5 r2.1 t24) |> bo fun m21 =>
            (resP (some 5) m21 r2.1) |> bo fun c22 =>
            retK m.length m21 [t0, t1, t2] c22))
  | _, _ => none
noncomputable def C_impl_changed : List Value → Mem → Option VM := rcall X_impl_changed
@[simp] theorem c_impl_changed : C_impl_changed = rcall X_impl_changed := (rfl)
theorem cok_impl_changed : codeOk CT Try.f58 (Try.f58.body.get rfl) = true := by kernel_rfl
theorem xe_impl_changed (t0 t1 t2 : Value) (m : Mem) : ex CT cf_impl_changed Try.f58 3 m.length [] (fun _ _ _ => none) 400 [.code (Try.f58.body.get rfl)] (argsT 0 [t0, t1, t2]) m = X_impl_changed [t0, t1, t2] m := by kernel_rfl
theorem okc_impl_changed : CallOK CT cf_impl_changed := cfc_ok ok_C_impl_GridFault (cfc_ok ok_C_impl_PutCell_1 (cfc_ok ok_C_impl_PutCell_2 (cfc_ok ok_C_impl_EraseCells_1 (cfc_ok ok_C_impl_EraseCells_2 (cfc_ok ok_C_impl_ScrollGrid_1 (cfc_ok ok_C_impl_ScrollGrid_2 (cfc_ok ok_C_impl_ShiftCells_1 (cfc_ok ok_C_impl_ShiftCells_2 (cfc_ok ok_C_impl_ResizeGrid_1 (cfc_ok ok_C_impl_ResizeGrid_2 (cfc_ok ok_C_impl_Grid_clone cfn_ok)))))))))))
theorem ok_X_impl_changed : OkX CT 58 X_impl_changed := OkX.of_ex (cf := cf_impl_changed) (np := 3) (LL := []) (J := (fun _ _ _ _ => none)) CT_ok rfl Try.func58 rfl (Nat.le_of_ble_eq_true rfl) (by decide) cok_impl_changed okc_impl_changed (fun k => noLoops rfl) (fun args m r h => match args, h with
    | [t0, t1, t2], h => ⟨rfl, (xe_impl_changed t0 t1 t2 m).trans h⟩)
theorem ok_C_impl_changed : OkC CT 58 C_impl_changed := rcall_ok rfl ok_X_impl_changed

/-! ### impl.ShiftCells -/
noncomputable def cf_impl_ShiftCells : CallF := cfc 58 C_impl_changed cfn
noncomputable def X_impl_ShiftCells : List Value → Mem → Option VM
  | [t0, t1, t2, t3, t4], m =>
    (boxX m t0) |> bo fun r1 =>
    (boxX r1.2 t1) |> bo fun r2 =>
    (boxX r2.2 t2) |> bo fun r3 =>
    (boxX r3.2 t3) |> bo fun r4 =>
    (boxX r4.2 t4) |> bo fun r5 =>
    (alX r5.2 [.int .i64 0, .int .i64 0, .int .i64 0, .slice none 0 0, .slice none 0 0]) |> bo fun r6 =>
    (ldS r6.2 4 r1.1) |> bo fun t13 =>
    (C_impl_changed [t13, (.func (.func 90) #[] #[r1.1, r2.1, r3.1, r4.1, r5.1]), (.func (.func 91) #[] #[r2.1, r3.1, r4.1, r5.1])] r6.2) |> bo fun r8 =>
    (stX r8.2 5 r6.1 r8.1) |> bo fun m9 =>
    (resP (some 5) m9 r6.1) |> bo fun c10 =>
    retK m.length m9 [t0, t1, t2, t3, t4] c10
  | _, _ => none
noncomputable def C_impl_ShiftCells : List Value → Mem → Option VM := icall X_impl_ShiftCells
@[simp] theorem c_impl_ShiftCells : C_impl_ShiftCells = icall X_impl_ShiftCells := (rfl)
theorem cok_impl_ShiftCells : codeOk CT Try.f35 (Try.f35.body.get rfl) = true := by kernel_rfl
theorem xe_impl_ShiftCells (t0 t1 t2 t3 t4 : Value) (m : Mem) : ex CT cf_impl_ShiftCells Try.f35 5 m.length [] (fun _ _ _ => none) 400 [.code (Try.f35.body.get rfl)] (argsT 0 [t0, t1, t2, t3, t4]) m = X_impl_ShiftCells [t0, t1, t2, t3, t4] m := by kernel_rfl
theorem okc_impl_ShiftCells : CallOK CT cf_impl_ShiftCells := cfc_ok ok_C_impl_changed cfn_ok
theorem ok_X_impl_ShiftCells : OkX CT 35 X_impl_ShiftCells := OkX.of_ex (cf := cf_impl_ShiftCells) (np := 5) (LL := []) (J := (fun _ _ _ _ => none)) CT_ok rfl Try.func35 rfl (Nat.le_of_ble_eq_true rfl) (by decide) cok_impl_ShiftCells okc_impl_ShiftCells (fun k => noLoops rfl) (fun args m r h => match args, h with
    | [t0, t1, t2, t3, t4], h => ⟨rfl, (xe_impl_ShiftCells t0 t1 t2 t3 t4 m).trans h⟩)
theorem ok_C_impl_ShiftCells : OkC CT 35 C_impl_ShiftCells := icall_ok rfl ok_X_impl_ShiftCells

/-! ### spec.l3Blanks -/
noncomputable def cf_spec_l3Blanks : CallF := cfn
noncomputable def L_spec_l3Blanks (k : Nat) : Nat → Nat → List Value → Mem → Option VM
  | q + 1, 0, [t0, t1, t5], m =>
    (binX .gtr .no t0 (.int .i64 0)) |> bo fun t8 =>
    brX t8
      (
        (bldX [.int .i64 0, .int .i64 0] [(0, 1, (.int .i64 32)), (1, 1, t1)]) |> bo fun t13 =>
        (bslX m 1 2 [.int .i64 0, .int .i64 0] [(0, 2, t13)]) |> bo fun r3 =>
        (apL r3.2 2 16 t5 r3.1) |> bo fun r4 =>
        (binX .sub .no t0 (.int .i64 1)) |> bo fun t10 =>
        cutK k r4.2 [t10, t1] [t10, t1, r4.1] (L_spec_l3Blanks k q 0))
      (
        retK k m [t0, t1] t5)
  | _, _, _, _ => none
noncomputable def J_spec_l3Blanks (k q l : Nat) : List Value → Mem → Option VM := cond (Nat.beq l 2) (L_spec_l3Blanks k q 0) (fun _ _ => none)
def LL_spec_l3Blanks : List (Nat × List Tmp) := [(2, [0, 1, 5])]
noncomputable def X_spec_l3Blanks : List Value → Mem → Option VM
  | [t0, t1], m =>
    (bslX m 0 2 [.int .i64 0, .int .i64 0] []) |> bo fun r1 =>
    cutK m.length r1.2 [t0, t1] [t0, t1, r1.1] (L_spec_l3Blanks m.length QQ 0)
  | _, _ => none
noncomputable def C_spec_l3Blanks : List Value → Mem → Option VM := fcall X_spec_l3Blanks
@[simp] theorem c_spec_l3Blanks : C_spec_l3Blanks = fcall X_spec_l3Blanks := (rfl)
theorem cok_spec_l3Blanks : codeOk CT Try.f119 (Try.f119.body.get rfl) = true := by kernel_rfl
theorem xe_spec_l3Blanks (t0 t1 : Value) (m : Mem) : ex CT cf_spec_l3Blanks Try.f119 2 m.length LL_spec_l3Blanks (J_spec_l3Blanks m.length QQ) 400 [.code (Try.f119.body.get rfl)] (argsT 0 [t0, t1]) m = X_spec_l3Blanks [t0, t1] m := by kernel_rfl
theorem okc_spec_l3Blanks : CallOK CT cf_spec_l3Blanks := cfn_ok
theorem le_spec_l3Blanks_0 (k q : Nat) (t0 t1 t5 : Value) (m : Mem) : ex CT cf_spec_l3Blanks Try.f119 2 k LL_spec_l3Blanks (J_spec_l3Blanks k q) 400 (atLoop Try.f119 0) [(0, t0), (1, t1), (5, t5)] m = J_spec_l3Blanks k (q + 1) 2 [t0, t1, t5] m := by kernel_rfl
theorem gl_spec_l3Blanks (k : Nat) : ∀ q i, i < 1 → GoodL CT k Try.f119 LL_spec_l3Blanks (J_spec_l3Blanks k q) (atLoop Try.f119 i)
  | 0, 0, _ => goodL_zero (l := 2) (by kernel_rfl) (fun vs m => by kernel_rfl)
  | 0, _ + 1, h => absurd h (by omega)
  | q + 1, 0, _ => goodL_succ (np := 2) (l := 2) (live := [0, 1, 5]) (n := 1) CT_ok rfl okc_spec_l3Blanks (c := (Try.f119.body.get rfl)) rfl cok_spec_l3Blanks (by kernel_rfl) (gl_spec_l3Blanks k q) (by kernel_rfl) rfl (fun vs m r hl h => match vs, hl with
    | [t0, t1, t5], _ => (le_spec_l3Blanks_0 k q t0 t1 t5 m).trans h)
  | _ + 1, _ + 1, h => absurd h (by omega)
theorem ok_X_spec_l3Blanks : OkX CT 119 X_spec_l3Blanks := OkX.of_ex (cf := cf_spec_l3Blanks) (np := 2) (LL := LL_spec_l3Blanks) (J := (fun k => J_spec_l3Blanks k QQ)) CT_ok rfl Try.func119 rfl (Nat.le_of_ble_eq_true rfl) (by decide) cok_spec_l3Blanks okc_spec_l3Blanks (fun k => allLoops rfl (by kernel_rfl) (gl_spec_l3Blanks k QQ)) (fun args m r h => match args, h with
    | [t0, t1], h => ⟨rfl, (xe_spec_l3Blanks t0 t1 m).trans h⟩)
theorem ok_C_spec_l3Blanks : OkC CT 119 C_spec_l3Blanks := fcall_ok rfl ok_X_spec_l3Blanks

/-! ### spec.l3New -/
noncomputable def cf_spec_l3New : CallF := cfc 119 C_spec_l3Blanks cfn
noncomputable def X_spec_l3New : List Value → Mem → Option VM
  | [t0, t1], m =>
    (alX m [.int .i64 0, .int .i64 0, .slice none 0 0, .slice none 0 0]) |> bo fun r1 =>
    (binX .mul .no t0 t1) |> bo fun t9 =>
    (C_spec_l3Blanks [t9, (.int .i64 0)] r1.2) |> bo fun r3 =>
    (bldX [.int .i64 0, .int .i64 0, .slice none 0 0, .slice none 0 0] [(0, 1, t0), (1, 1, t1), (2, 1, r3.1)]) |> bo fun t11 =>
    (stX r3.2 4 r1.1 t11) |> bo fun m5 =>
    (resP (some 4) m5 r1.1) |> bo fun c6 =>
    retK m.length m5 [t0, t1] c6
  | _, _ => none
noncomputable def C_spec_l3New : List Value → Mem → Option VM := fcall X_spec_l3New
@[simp] theorem c_spec_l3New : C_spec_l3New = fcall X_spec_l3New := (rfl)
theorem cok_spec_l3New : codeOk CT Try.f99 (Try.f99.body.get rfl) = true := by kernel_rfl
theorem xe_spec_l3New (t0 t1 : Value) (m : Mem) : ex CT cf_spec_l3New Try.f99 2 m.length [] (fun _ _ _ => none) 400 [.code (Try.f99.body.get rfl)] (argsT 0 [t0, t1]) m = X_spec_l3New [t0, t1] m := by kernel_rfl
theorem okc_spec_l3New : CallOK CT cf_spec_l3New := cfc_ok ok_C_spec_l3Blanks cfn_ok
theorem ok_X_spec_l3New : OkX CT 99 X_spec_l3New := OkX.of_ex (cf := cf_spec_l3New) (np := 2) (LL := []) (J := (fun _ _ _ _ => none)) CT_ok rfl Try.func99 rfl (Nat.le_of_ble_eq_true rfl) (by decide) cok_spec_l3New okc_spec_l3New (fun k => noLoops rfl) (fun args m r h => match args, h with
    | [t0, t1], h => ⟨rfl, (xe_spec_l3New t0 t1 m).trans h⟩)
theorem ok_C_spec_l3New : OkC CT 99 C_spec_l3New := fcall_ok rfl ok_X_spec_l3New

/-! ### spec.l1Min -/
noncomputable def cf_spec_l1Min : CallF := cfn
noncomputable def X_spec_l1Min : List Value → Mem → Option VM
  | [t0, t1], m =>
    (binX .lss .no t0 t1) |> bo fun t7 =>
    brX t7
      (
        retK m.length m [t0, t1] t0)
      (
        retK m.length m [t0, t1] t1)
  | _, _ => none
noncomputable def C_spec_l1Min : List Value → Mem → Option VM := fcall X_spec_l1Min
@[simp] theorem c_spec_l1Min : C_spec_l1Min = fcall X_spec_l1Min := (rfl)
theorem cok_spec_l1Min : codeOk CT Try.f124 (Try.f124.body.get rfl) = true := by kernel_rfl
theorem xe_spec_l1Min (t0 t1 : Value) (m : Mem) : ex CT cf_spec_l1Min Try.f124 2 m.length [] (fun _ _ _ => none) 400 [.code (Try.f124.body.get rfl)] (argsT 0 [t0, t1]) m = X_spec_l1Min [t0, t1] m := by kernel_rfl
theorem okc_spec_l1Min : CallOK CT cf_spec_l1Min := cfn_ok
theorem ok_X_spec_l1Min : OkX CT 124 X_spec_l1Min := OkX.of_ex (cf := cf_spec_l1Min) (np := 2) (LL := []) (J := (fun _ _ _ _ => none)) CT_ok rfl Try.func124 rfl (Nat.le_of_ble_eq_true rfl) (by decide) cok_spec_l1Min okc_spec_l1Min (fun k => noLoops rfl) (fun args m r h => match args, h with
    | [t0, t1], h => ⟨rfl, (xe_spec_l1Min t0 t1 m).trans h⟩)
theorem ok_C_spec_l1Min : OkC CT 124 C_spec_l1Min := fcall_ok rfl ok_X_spec_l1Min

/-! ### spec.l3Fit -/
noncomputable def cf_spec_l3Fit : CallF := cfc 119 C_spec_l3Blanks cfn
noncomputable def X_spec_l3Fit : List Value → Mem → Option VM
  | [t0, t1], m =>
    (C_spec_l3Blanks [t1, (.int .i64 0)] m) |> bo fun r1 =>
    (cpL r1.2 2 r1.1 t0) |> bo fun r2 =>
    retK m.length r2.2 [t0, t1] r1.1
  | _, _ => none
noncomputable def C_spec_l3Fit : List Value → Mem → Option VM := fcall X_spec_l3Fit
@[simp] theorem c_spec_l3Fit : C_spec_l3Fit = fcall X_spec_l3Fit := (rfl)
theorem cok_spec_l3Fit : codeOk CT Try.f128 (Try.f128.body.get rfl) = true := by kernel_rfl
theorem xe_spec_l3Fit (t0 t1 : Value) (m : Mem) : ex CT cf_spec_l3Fit Try.f128 2 m.length [] (fun _ _ _ => none) 400 [.code (Try.f128.body.get rfl)] (argsT 0 [t0, t1]) m = X_spec_l3Fit [t0, t1] m := by kernel_rfl
theorem okc_spec_l3Fit : CallOK CT cf_spec_l3Fit := cfc_ok ok_C_spec_l3Blanks cfn_ok
theorem ok_X_spec_l3Fit : OkX CT 128 X_spec_l3Fit := OkX.of_ex (cf := cf_spec_l3Fit) (np := 2) (LL := []) (J := (fun _ _ _ _ => none)) CT_ok rfl Try.func128 rfl (Nat.le_of_ble_eq_true rfl) (by decide) cok_spec_l3Fit okc_spec_l3Fit (fun k => noLoops rfl) (fun args m r h => match args, h with
    | [t0, t1], h => ⟨rfl, (xe_spec_l3Fit t0 t1 m).trans h⟩)
theorem ok_C_spec_l3Fit : OkC CT 128 C_spec_l3Fit := fcall_ok rfl ok_X_spec_l3Fit

/-! ### spec.l3Resize -/
noncomputable def cf_spec_l3Resize : CallF := cfc 99 C_spec_l3New (cfc 124 C_spec_l1Min (cfc 126 C_spec_l3RowOf (cfc 127 C_spec_l3Row (cfc 128 C_spec_l3Fit cfn))))
noncomputable def L_spec_l3Resize (k : Nat) : Nat → Nat → List Value → Mem → Option VM
  | q + 1, 0, [t1, t2, t3, t6, t7, t8], m =>
    (fadX 0 t3) |> bo fun t15 =>
    (ld1 m t15) |> bo fun t16 =>
    (C_spec_l1Min [t1, t16] m) |> bo fun r3 =>
    (binX .lss .no t8 r3.1) |> bo fun t18 =>
    brX t18
      (
        (C_spec_l3RowOf [t3, t8] r3.2) |> bo fun r5 =>
        (C_spec_l3Fit [r5.1, t2] r5.2) |> bo fun r6 =>
        (C_spec_l3Row [t7, t8, r6.1] r6.2) |> bo fun r7 =>
        (binX .add .no t8 (.int .i64 1)) |> bo fun t20 =>
        cutK k r7.2 [t1, t2] [t1, t2, t3, t6, t7, t20] (L_spec_l3Resize k q 0))
      (
        cutK k r3.2 [t1, t2] [t2, t3, t6, t7, (.int .i64 0)] (L_spec_l3Resize k q 1))
  | q + 1, 1, [t2, t3, t6, t7, t9], m =>
    (fadX 3 t3) |> bo fun t28 =>
    (ld1 m t28) |> bo fun t29 =>
    (lenX t29) |> bo fun t30 =>
    (binX .lss .no t9 t30) |> bo fun t31 =>
    brX t31
      (
        (fadX 3 t7) |> bo fun t36 =>
        (ld1 m t36) |> bo fun t37 =>
        (fadX 3 t3) |> bo fun t38 =>
        (ld1 m t38) |> bo fun t39 =>
        (fadX 1 t3) |> bo fun t42 =>
        (ld1 m t42) |> bo fun t43 =>
        (binX .add .no t9 t43) |> bo fun t44 =>
        (slX m 2 t39 (some t9) (some t44)) |> bo fun t45 =>
        (C_spec_l3Fit [t45, t2] m) |> bo fun r13 =>
        (apL r13.2 2 16 t37 r13.1) |> bo fun r14 =>
        (fadX 3 t7) |> bo fun t49 =>
        (stX r14.2 1 t49 r14.1) |> bo fun m16 =>
        gP (stbL [((rdN t36), m, r13.2)])
          (
            (fadX 1 t3) |> bo fun t33 =>
            (ld1 m16 t33) |> bo fun t34 =>
            (binX .add .no t9 t34) |> bo fun t35 =>
            cutK k m16 [t2] [t2, t3, t6, t7, t35] (L_spec_l3Resize k q 1)))
      (
        (ldS m 4 t7) |> bo fun t50 =>
        (stX m 4 t6 t50) |> bo fun m21 =>
        (resP (some 4) m21 t6) |> bo fun c22 =>
        retK k m21 [t2] c22)
  | _, _, _, _ => none
noncomputable def J_spec_l3Resize (k q l : Nat) : List Value → Mem → Option VM := cond (Nat.beq l 3) (L_spec_l3Resize k q 0) (cond (Nat.beq l 7) (L_spec_l3Resize k q 1) (fun _ _ => none))
def LL_spec_l3Resize : List (Nat × List Tmp) := [(3, [1, 2, 3, 6, 7, 8]), (7, [2, 3, 6, 7, 9])]
noncomputable def X_spec_l3Resize : List Value → Mem → Option VM
  | [t0, t1, t2], m =>
    (boxX m t0) |> bo fun r1 =>
    (alX r1.2 [.int .i64 0, .int .i64 0, .slice none 0 0, .slice none 0 0]) |> bo fun r2 =>
    (C_spec_l3New [t1, t2] r2.2) |> bo fun r3 =>
    (alX r3.2 [.int .i64 0, .int .i64 0, .slice none 0 0, .slice none 0 0]) |> bo fun r4 =>
    (stX r4.2 4 r4.1 r3.1) |> bo fun m5 =>
    cutK m.length m5 [t0, t1, t2] [t1, t2, r1.1, r2.1, r4.1, (.int .i64 0)] (L_spec_l3Resize m.length QQ 0)
  | _, _ => none
noncomputable def C_spec_l3Resize : List Value → Mem → Option VM := fcall X_spec_l3Resize
@[simp] theorem c_spec_l3Resize : C_spec_l3Resize = fcall X_spec_l3Resize := (rfl)
theorem cok_spec_l3Resize : codeOk CT Try.f94 (Try.f94.body.get rfl) = true := by kernel_rfl
theorem xe_spec_l3Resize (t0 t1 t2 : Value) (m : Mem) : ex CT cf_spec_l3Resize Try.f94 3 m.length LL_spec_l3Resize (J_spec_l3Resize m.length QQ) 400 [.code (Try.f94.body.get rfl)] (argsT 0 [t0, t1, t2]) m = X_spec_l3Resize [t0, t1, t2] m := by kernel_rfl
theorem okc_spec_l3Resize : CallOK CT cf_spec_l3Resize := cfc_ok ok_C_spec_l3New (cfc_ok ok_C_spec_l1Min (cfc_ok ok_C_spec_l3RowOf (cfc_ok ok_C_spec_l3Row (cfc_ok ok_C_spec_l3Fit cfn_ok))))
theorem le_spec_l3Resize_0 (k q : Nat) (t1 t2 t3 t6 t7 t8 : Value) (m : Mem) : ex CT cf_spec_l3Resize Try.f94 3 k LL_spec_l3Resize (J_spec_l3Resize k q) 400 (atLoop Try.f94 0) [(1, t1), (2, t2), (3, t3), (6, t6), (7, t7), (8, t8)] m = J_spec_l3Resize k (q + 1) 3 [t1, t2, t3, t6, t7, t8] m := by kernel_rfl
theorem le_spec_l3Resize_1 (k q : Nat) (t2 t3 t6 t7 t9 : Value) (m : Mem) : ex CT cf_spec_l3Resize Try.f94 3 k LL_spec_l3Resize (J_spec_l3Resize k q) 400 (atLoop Try.f94 1) [(2, t2), (3, t3), (6, t6), (7, t7), (9, t9)] m = J_spec_l3Resize k (q + 1) 7 [t2, t3, t6, t7, t9] m := by kernel_rfl
theorem gl_spec_l3Resize (k : Nat) : ∀ q i, i < 2 → GoodL CT k Try.f94 LL_spec_l3Resize (J_spec_l3Resize k q) (atLoop Try.f94 i)
  | 0, 0, _ => goodL_zero (l := 3) (by kernel_rfl) (fun vs m => by kernel_rfl)
  | 0, 1, _ => goodL_zero (l := 7) (by kernel_rfl) (fun vs m => by kernel_rfl)
  | 0, _ + 2, h => absurd h (by omega)
  | q + 1, 0, _ => goodL_succ (np := 3) (l := 3) (live := [1, 2, 3, 6, 7, 8]) (n := 2) CT_ok rfl okc_spec_l3Resize (c := (Try.f94.body.get rfl)) rfl cok_spec_l3Resize (by kernel_rfl) (gl_spec_l3Resize k q) (by kernel_rfl) rfl (fun vs m r hl h => match vs, hl with
    | [t1, t2, t3, t6, t7, t8], _ => (le_spec_l3Resize_0 k q t1 t2 t3 t6 t7 t8 m).trans h)
  | q + 1, 1, _ => goodL_succ (np := 3) (l := 7) (live := [2, 3, 6, 7, 9]) (n := 2) CT_ok rfl okc_spec_l3Resize (c := (Try.f94.body.get rfl)) rfl cok_spec_l3Resize (by kernel_rfl) (gl_spec_l3Resize k q) (by kernel_rfl) rfl (fun vs m r hl h => match vs, hl with
    | [t2, t3, t6, t7, t9], _ => (le_spec_l3Resize_1 k q t2 t3 t6 t7 t9 m).trans h)
  | _ + 1, _ + 2, h => absurd h (by omega)
theorem ok_X_spec_l3Resize : OkX CT 94 X_spec_l3Resize := OkX.of_ex (cf := cf_spec_l3Resize) (np := 3) (LL := LL_spec_l3Resize) (J := (fun k => J_spec_l3Resize k QQ)) CT_ok rfl Try.func94 rfl (Nat.le_of_ble_eq_true rfl) (by decide) cok_spec_l3Resize okc_spec_l3Resize (fun k => allLoops rfl (by kernel_rfl) (gl_spec_l3Resize k QQ)) (fun args m r h => match args, h with
    | [t0, t1, t2], h => ⟨rfl, (xe_spec_l3Resize t0 t1 t2 m).trans h⟩)
theorem ok_C_spec_l3Resize : OkC CT 94 C_spec_l3Resize := fcall_ok rfl ok_X_spec_l3Resize

/-! ### spec.ResizeGrid -/
noncomputable def cf_spec_ResizeGrid : CallF := cfc 52 C_spec_l3Fault (cfc 53 C_spec_l3Bad (cfc 93 C_spec_l3Size (cfc 94 C_spec_l3Resize cfn)))
noncomputable def X_spec_ResizeGrid : List Value → Mem → Option VM
  | [t0, t1, t2], m =>
    (boxX m t0) |> bo fun r1 =>
    (alX r1.2 [.int .i64 0, .int .i64 0, .int .i64 0, .slice none 0 0, .slice none 0 0]) |> bo fun r2 =>
    (C_spec_l3Fault [r1.1] r2.2) |> bo fun r3 =>
    (binX .neq .no r3.1 (.int .i64 0)) |> bo fun t10 =>
    brX t10
      (
        (C_spec_l3Bad [r3.1] r3.2) |> bo fun r5 =>
        (stX r5.2 5 r2.1 r5.1) |> bo fun m6 =>
        (resP (some 5) m6 r2.1) |> bo fun c7 =>
        retK m.length m6 [t0, t1, t2] c7)
      (
        (C_spec_l3Size [t1, t2] r3.2) |> bo fun r8 =>
        (uop .not r8.1) |> bo fun t16 =>
        brX t16
          (
            (C_spec_l3Bad [(.int .i64 3)] r8.2) |> bo fun r10 =>
            (stX r10.2 5 r2.1 r10.1) |> bo fun m11 =>
            (resP (some 5) m11 r2.1) |> bo fun c12 =>
            retK m.length m11 [t0, t1, t2] c12)
          (
            (ldS r8.2 4 r1.1) |> bo fun t18 =>
            (C_spec_l3Resize [t18, t1, t2] r8.2) |> bo fun r14 =>
            (bldX [.int .i64 0, .int .i64 0, .int .i64 0, .slice none 0 0, .slice none 0 0] [(1, 4, r14.1)]) |> bo fun t22 =>
            (stX r14.2 5 r2.1 t22) |> bo fun m16 =>
            (resP (some 5) m16 r2.1) |> bo fun c17 =>
            retK m.length m16 [t0, t1, t2] c17))
  | _, _ => none
noncomputable def C_spec_ResizeGrid : List Value → Mem → Option VM := icall X_spec_ResizeGrid
@[simp] theorem c_spec_ResizeGrid : C_spec_ResizeGrid = icall X_spec_ResizeGrid := (rfl)
theorem cok_spec_ResizeGrid : codeOk CT Try.f36 (Try.f36.body.get rfl) = true := by kernel_rfl
theorem xe_spec_ResizeGrid (t0 t1 t2 : Value) (m : Mem) : ex CT cf_spec_ResizeGrid Try.f36 3 m.length [] (fun _ _ _ => none) 400 [.code (Try.f36.body.get rfl)] (argsT 0 [t0, t1, t2]) m = X_spec_ResizeGrid [t0, t1, t2] m := by kernel_rfl
theorem okc_spec_ResizeGrid : CallOK CT cf_spec_ResizeGrid := cfc_ok ok_C_spec_l3Fault (cfc_ok ok_C_spec_l3Bad (cfc_ok ok_C_spec_l3Size (cfc_ok ok_C_spec_l3Resize cfn_ok)))
theorem ok_X_spec_ResizeGrid : OkX CT 36 X_spec_ResizeGrid := OkX.of_ex (cf := cf_spec_ResizeGrid) (np := 3) (LL := []) (J := (fun _ _ _ _ => none)) CT_ok rfl Try.func36 rfl (Nat.le_of_ble_eq_true rfl) (by decide) cok_spec_ResizeGrid okc_spec_ResizeGrid (fun k => noLoops rfl) (fun args m r h => match args, h with
    | [t0, t1, t2], h => ⟨rfl, (xe_spec_ResizeGrid t0 t1 t2 m).trans h⟩)
theorem ok_C_spec_ResizeGrid : OkC CT 36 C_spec_ResizeGrid := icall_ok rfl ok_X_spec_ResizeGrid

/-! ### impl.ResizeGrid -/
noncomputable def cf_impl_ResizeGrid : CallF := cfc 58 C_impl_changed cfn
noncomputable def X_impl_ResizeGrid : List Value → Mem → Option VM
  | [t0, t1, t2], m =>
    (boxX m t0) |> bo fun r1 =>
    (boxX r1.2 t1) |> bo fun r2 =>
    (boxX r2.2 t2) |> bo fun r3 =>
    (alX r3.2 [.int .i64 0, .int .i64 0, .int .i64 0, .slice none 0 0, .slice none 0 0]) |> bo fun r4 =>
    (ldS r4.2 4 r1.1) |> bo fun t7 =>
    (C_impl_changed [t7, (.func (.func 95) #[] #[r2.1, r3.1]), (.func (.func 96) #[] #[r2.1, r3.1])] r4.2) |> bo fun r6 =>
    (stX r6.2 5 r4.1 r6.1) |> bo fun m7 =>
    (resP (some 5) m7 r4.1) |> bo fun c8 =>
    retK m.length m7 [t0, t1, t2] c8
  | _, _ => none
noncomputable def C_impl_ResizeGrid : List Value → Mem → Option VM := icall X_impl_ResizeGrid
@[simp] theorem c_impl_ResizeGrid : C_impl_ResizeGrid = icall X_impl_ResizeGrid := (rfl)
theorem cok_impl_ResizeGrid : codeOk CT Try.f37 (Try.f37.body.get rfl) = true := by kernel_rfl
theorem xe_impl_ResizeGrid (t0 t1 t2 : Value) (m : Mem) : ex CT cf_impl_ResizeGrid Try.f37 3 m.length [] (fun _ _ _ => none) 400 [.code (Try.f37.body.get rfl)] (argsT 0 [t0, t1, t2]) m = X_impl_ResizeGrid [t0, t1, t2] m := by kernel_rfl
theorem okc_impl_ResizeGrid : CallOK CT cf_impl_ResizeGrid := cfc_ok ok_C_impl_changed cfn_ok
theorem ok_X_impl_ResizeGrid : OkX CT 37 X_impl_ResizeGrid := OkX.of_ex (cf := cf_impl_ResizeGrid) (np := 3) (LL := []) (J := (fun _ _ _ _ => none)) CT_ok rfl Try.func37 rfl (Nat.le_of_ble_eq_true rfl) (by decide) cok_impl_ResizeGrid okc_impl_ResizeGrid (fun k => noLoops rfl) (fun args m r h => match args, h with
    | [t0, t1, t2], h => ⟨rfl, (xe_impl_ResizeGrid t0 t1 t2 m).trans h⟩)
theorem ok_C_impl_ResizeGrid : OkC CT 37 C_impl_ResizeGrid := icall_ok rfl ok_X_impl_ResizeGrid

/-! ### spec.l1Source -/
noncomputable def cf_spec_l1Source : CallF := cfn
noncomputable def X_spec_l1Source : List Value → Mem → Option VM
  | [t0], m =>
    (bldX [.slice none 0 0, .int .i64 0] [(0, 1, t0)]) |> bo fun t4 =>
    (boxX m t4) |> bo fun r2 =>
    retK m.length r2.2 [t0] r2.1
  | _, _ => none
noncomputable def C_spec_l1Source : List Value → Mem → Option VM := rcall X_spec_l1Source
@[simp] theorem c_spec_l1Source : C_spec_l1Source = rcall X_spec_l1Source := (rfl)
theorem cok_spec_l1Source : codeOk CT Try.f67 (Try.f67.body.get rfl) = true := by kernel_rfl
theorem xe_spec_l1Source (t0 : Value) (m : Mem) : ex CT cf_spec_l1Source Try.f67 1 m.length [] (fun _ _ _ => none) 400 [.code (Try.f67.body.get rfl)] (argsT 0 [t0]) m = X_spec_l1Source [t0] m := by kernel_rfl
theorem okc_spec_l1Source : CallOK CT cf_spec_l1Source := cfn_ok
theorem ok_X_spec_l1Source : OkX CT 67 X_spec_l1Source := OkX.of_ex (cf := cf_spec_l1Source) (np := 1) (LL := []) (J := (fun _ _ _ _ => none)) CT_ok rfl Try.func67 rfl (Nat.le_of_ble_eq_true rfl) (by decide) cok_spec_l1Source okc_spec_l1Source (fun k => noLoops rfl) (fun args m r h => match args, h with
    | [t0], h => ⟨rfl, (xe_spec_l1Source t0 m).trans h⟩)
theorem ok_C_spec_l1Source : OkC CT 67 C_spec_l1Source := rcall_ok rfl ok_X_spec_l1Source

/-! ### spec.l1Next -/
noncomputable def cf_spec_l1Next : CallF := cfn
noncomputable def X_spec_l1Next : List Value → Mem → Option VM
  | [t0, t1], m =>
    (nilX t0) |> bo fun t10 =>
    (fadX 1 t10) |> bo fun t11 =>
    (ld1 m t11) |> bo fun t12 =>
    (binX .add .no t12 (.int .i64 1)) |> bo fun t13 =>
    (nilX t0) |> bo fun t14 =>
    (fadX 1 t14) |> bo fun t15 =>
    (stX m 1 t15 t13) |> bo fun m7 =>
    (binX .lss .no t1 (.int .i64 1)) |> bo fun t17 =>
    brX t17
      (
        retK m.length m7 [t0, t1] (.int .i64 0))
      (
        (nilX t0) |> bo fun t19 =>
        (fadX 1 t19) |> bo fun t20 =>
        (ld1 m7 t20) |> bo fun t21 =>
        (binX .sub .no t21 (.int .i64 1)) |> bo fun t22 =>
        (nilX t0) |> bo fun t24 =>
        (fadX 0 t24) |> bo fun t25 =>
        (ld1 m7 t25) |> bo fun t26 =>
        (lenX t26) |> bo fun t27 =>
        (binX .eql .no t27 (.int .i64 0)) |> bo fun t29 =>
        brX t29
          (
            (binX .mul .no t22 (.int .i64 7)) |> bo fun t31 =>
            (binX .rem .no t31 t1) |> bo fun t33 =>
            retK m.length m7 [t0, t1] t33)
          (
            (nilX t0) |> bo fun t35 =>
            (fadX 0 t35) |> bo fun t36 =>
            (ld1 m7 t36) |> bo fun t37 =>
            (binX .rem .no t22 t27) |> bo fun t40 =>
            (ixaX 1 t37 t40) |> bo fun t41 =>
            (ld1 m7 t41) |> bo fun t42 =>
            (cvI .i64 t42) |> bo fun t43 =>
            (binX .quo .no t22 t27) |> bo fun t46 =>
            (binX .mul .no t46 (.int .i64 37)) |> bo fun t47 =>
            (binX .add .no t43 t47) |> bo fun t48 =>
            (binX .gtr .no t1 (.int .i64 200)) |> bo fun t50 =>
            brX t50
              (
                (binX .mul .no t48 (.int .i64 251)) |> bo fun t52 =>
                (nilX t0) |> bo fun t54 =>
                (fadX 0 t54) |> bo fun t55 =>
                (ld1 m7 t55) |> bo fun t56 =>
                (binX .add .no t22 (.int .i64 1)) |> bo fun t58 =>
                (binX .rem .no t58 t27) |> bo fun t60 =>
                (ixaX 1 t56 t60) |> bo fun t61 =>
                (ld1 m7 t61) |> bo fun t62 =>
                (cvI .i64 t62) |> bo fun t63 =>
                (binX .mul .no t63 (.int .i64 13)) |> bo fun t64 =>
                (binX .add .no t52 t64) |> bo fun t65 =>
                (binX .add .no t65 t22) |> bo fun t67 =>
                (binX .rem .no t67 t1) |> bo fun t70 =>
                retK m.length m7 [t0, t1] t70)
              (
                (binX .rem .no t48 t1) |> bo fun t70 =>
                retK m.length m7 [t0, t1] t70)))
  | _, _ => none
noncomputable def C_spec_l1Next : List Value → Mem → Option VM := rcall X_spec_l1Next
@[simp] theorem c_spec_l1Next : C_spec_l1Next = rcall X_spec_l1Next := (rfl)
theorem cok_spec_l1Next : codeOk CT Try.f69 (Try.f69.body.get rfl) = true := by kernel_rfl
theorem xe_spec_l1Next (t0 t1 : Value) (m : Mem) : ex CT cf_spec_l1Next Try.f69 2 m.length [] (fun _ _ _ => none) 400 [.code (Try.f69.body.get rfl)] (argsT 0 [t0, t1]) m = X_spec_l1Next [t0, t1] m := by kernel_rfl
theorem okc_spec_l1Next : CallOK CT cf_spec_l1Next := cfn_ok
theorem ok_X_spec_l1Next : OkX CT 69 X_spec_l1Next := OkX.of_ex (cf := cf_spec_l1Next) (np := 2) (LL := []) (J := (fun _ _ _ _ => none)) CT_ok rfl Try.func69 rfl (Nat.le_of_ble_eq_true rfl) (by decide) cok_spec_l1Next okc_spec_l1Next (fun k => noLoops rfl) (fun args m r h => match args, h with
    | [t0, t1], h => ⟨rfl, (xe_spec_l1Next t0 t1 m).trans h⟩)
theorem ok_C_spec_l1Next : OkC CT 69 C_spec_l1Next := rcall_ok rfl ok_X_spec_l1Next

/-! ### spec.l1Pick -/
noncomputable def cf_spec_l1Pick : CallF := cfc 69 C_spec_l1Next cfn
noncomputable def X_spec_l1Pick : List Value → Mem → Option VM
  | [t0, t1], m =>
    (lenX t1) |> bo fun t8 =>
    (C_spec_l1Next [t0, t8] m) |> bo fun r2 =>
    (ixaX 1 t1 r2.1) |> bo fun t10 =>
    (ld1 r2.2 t10) |> bo fun t11 =>
    retK m.length r2.2 [t0, t1] t11
  | _, _ => none
noncomputable def C_spec_l1Pick : List Value → Mem → Option VM := rcall X_spec_l1Pick
@[simp] theorem c_spec_l1Pick : C_spec_l1Pick = rcall X_spec_l1Pick := (rfl)
theorem cok_spec_l1Pick : codeOk CT Try.f71 (Try.f71.body.get rfl) = true := by kernel_rfl
theorem xe_spec_l1Pick (t0 t1 : Value) (m : Mem) : ex CT cf_spec_l1Pick Try.f71 2 m.length [] (fun _ _ _ => none) 400 [.code (Try.f71.body.get rfl)] (argsT 0 [t0, t1]) m = X_spec_l1Pick [t0, t1] m := by kernel_rfl
theorem okc_spec_l1Pick : CallOK CT cf_spec_l1Pick := cfc_ok ok_C_spec_l1Next cfn_ok
theorem ok_X_spec_l1Pick : OkX CT 71 X_spec_l1Pick := OkX.of_ex (cf := cf_spec_l1Pick) (np := 2) (LL := []) (J := (fun _ _ _ _ => none)) CT_ok rfl Try.func71 rfl (Nat.le_of_ble_eq_true rfl) (by decide) cok_spec_l1Pick okc_spec_l1Pick (fun k => noLoops rfl) (fun args m r h => match args, h with
    | [t0, t1], h => ⟨rfl, (xe_spec_l1Pick t0 t1 m).trans h⟩)
theorem ok_C_spec_l1Pick : OkC CT 71 C_spec_l1Pick := rcall_ok rfl ok_X_spec_l1Pick

/-! ### spec.l3DrawCell -/
noncomputable def cf_spec_l3DrawCell : CallF := cfc 71 C_spec_l1Pick cfn
noncomputable def X_spec_l3DrawCell : List Value → Mem → Option VM
  | [t0], m =>
    (alX m [.int .i64 0, .int .i64 0]) |> bo fun r1 =>
    (bslX r1.2 4 1 [.int .i64 0] [(0, 1, (.int .i64 97)), (1, 1, (.int .i64 98)), (2, 1, (.int .i64 32)), (3, 1, (.int .i64 228))]) |> bo fun r2 =>
    (C_spec_l1Pick [t0, r2.1] r2.2) |> bo fun r3 =>
    (bslX r3.2 4 1 [.int .i64 0] [(0, 1, (.int .i64 0)), (1, 1, (.int .i64 7)), (2, 1, (.int .i64 12)), (3, 1, (.int .i64 31))]) |> bo fun r4 =>
    (C_spec_l1Pick [t0, r4.1] r4.2) |> bo fun r5 =>
    (bldX [.int .i64 0, .int .i64 0] [(0, 1, r3.1), (1, 1, r5.1)]) |> bo fun t9 =>
    (stX r5.2 2 r1.1 t9) |> bo fun m7 =>
    (resP (some 2) m7 r1.1) |> bo fun c8 =>
    retK m.length m7 [t0] c8
  | _, _ => none
noncomputable def C_spec_l3DrawCell : List Value → Mem → Option VM := rcall X_spec_l3DrawCell
@[simp] theorem c_spec_l3DrawCell : C_spec_l3DrawCell = rcall X_spec_l3DrawCell := (rfl)
theorem cok_spec_l3DrawCell : codeOk CT Try.f70 (Try.f70.body.get rfl) = true := by kernel_rfl
theorem xe_spec_l3DrawCell (t0 : Value) (m : Mem) : ex CT cf_spec_l3DrawCell Try.f70 1 m.length [] (fun _ _ _ => none) 400 [.code (Try.f70.body.get rfl)] (argsT 0 [t0]) m = X_spec_l3DrawCell [t0] m := by kernel_rfl
theorem okc_spec_l3DrawCell : CallOK CT cf_spec_l3DrawCell := cfc_ok ok_C_spec_l1Pick cfn_ok
theorem ok_X_spec_l3DrawCell : OkX CT 70 X_spec_l3DrawCell := OkX.of_ex (cf := cf_spec_l3DrawCell) (np := 1) (LL := []) (J := (fun _ _ _ _ => none)) CT_ok rfl Try.func70 rfl (Nat.le_of_ble_eq_true rfl) (by decide) cok_spec_l3DrawCell okc_spec_l3DrawCell (fun k => noLoops rfl) (fun args m r h => match args, h with
    | [t0], h => ⟨rfl, (xe_spec_l3DrawCell t0 m).trans h⟩)
theorem ok_C_spec_l3DrawCell : OkC CT 70 C_spec_l3DrawCell := rcall_ok rfl ok_X_spec_l3DrawCell

/-! ### spec.l1Chance -/
noncomputable def cf_spec_l1Chance : CallF := cfc 69 C_spec_l1Next cfn
noncomputable def X_spec_l1Chance : List Value → Mem → Option VM
  | [t0, t1], m =>
    (C_spec_l1Next [t0, t1] m) |> bo fun r1 =>
    (binX .eql .no r1.1 (.int .i64 0)) |> bo fun t8 =>
    retK m.length r1.2 [t0, t1] t8
  | _, _ => none
noncomputable def C_spec_l1Chance : List Value → Mem → Option VM := rcall X_spec_l1Chance
@[simp] theorem c_spec_l1Chance : C_spec_l1Chance = rcall X_spec_l1Chance := (rfl)
theorem cok_spec_l1Chance : codeOk CT Try.f141 (Try.f141.body.get rfl) = true := by kernel_rfl
theorem xe_spec_l1Chance (t0 t1 : Value) (m : Mem) : ex CT cf_spec_l1Chance Try.f141 2 m.length [] (fun _ _ _ => none) 400 [.code (Try.f141.body.get rfl)] (argsT 0 [t0, t1]) m = X_spec_l1Chance [t0, t1] m := by kernel_rfl
theorem okc_spec_l1Chance : CallOK CT cf_spec_l1Chance := cfc_ok ok_C_spec_l1Next cfn_ok
theorem ok_X_spec_l1Chance : OkX CT 141 X_spec_l1Chance := OkX.of_ex (cf := cf_spec_l1Chance) (np := 2) (LL := []) (J := (fun _ _ _ _ => none)) CT_ok rfl Try.func141 rfl (Nat.le_of_ble_eq_true rfl) (by decide) cok_spec_l1Chance okc_spec_l1Chance (fun k => noLoops rfl) (fun args m r h => match args, h with
    | [t0, t1], h => ⟨rfl, (xe_spec_l1Chance t0 t1 m).trans h⟩)
theorem ok_C_spec_l1Chance : OkC CT 141 C_spec_l1Chance := rcall_ok rfl ok_X_spec_l1Chance

/-! ### spec.l3Draw -/
noncomputable def cf_spec_l3Draw : CallF := cfc 69 C_spec_l1Next (cfc 70 C_spec_l3DrawCell (cfc 71 C_spec_l1Pick (cfc 99 C_spec_l3New (cfc 141 C_spec_l1Chance cfn))))
noncomputable def L_spec_l3Draw (k : Nat) : Nat → Nat → List Value → Mem → Option VM
  | q + 1, 0, [t0, t2, t3, t4], m =>
    (fadX 2 t3) |> bo fun t14 =>
    (ld1 m t14) |> bo fun t15 =>
    (lenX t15) |> bo fun t16 =>
    (binX .lss .no t4 t16) |> bo fun t17 =>
    brX t17
      (
        (C_spec_l1Chance [t0, (.int .i64 2)] m) |> bo fun r5 =>
        brX r5.1
          (
            (fadX 2 t3) |> bo fun t22 =>
            (ld1 r5.2 t22) |> bo fun t23 =>
            (C_spec_l3DrawCell [t0] r5.2) |> bo fun r8 =>
            (ixaX 2 t23 t4) |> bo fun t27 =>
            (stX r8.2 2 t27 r8.1) |> bo fun m10 =>
            gP (stbL [((rdN t22), r5.2, r8.2)])
              (
                (binX .add .no t4 (.int .i64 1)) |> bo fun t19 =>
                cutK k m10 [t0] [t0, t2, t3, t19] (L_spec_l3Draw k q 0)))
          (
            (binX .add .no t4 (.int .i64 1)) |> bo fun t19 =>
            cutK k r5.2 [t0] [t0, t2, t3, t19] (L_spec_l3Draw k q 0)))
      (
        (C_spec_l1Next [t0, (.int .i64 4)] m) |> bo fun r13 =>
        (fadX 1 t3) |> bo fun t30 =>
        (ld1 r13.2 t30) |> bo fun t31 =>
        (binX .mul .no r13.1 t31) |> bo fun t32 =>
        gP (stbL [((rdN t30), m, r13.2)])
          (
            cutK k r13.2 [t0] [t0, t2, t3, t32] (L_spec_l3Draw k q 1)))
  | q + 1, 1, [t0, t2, t3, t5], m =>
    (binX .gtr .no t5 (.int .i64 0)) |> bo fun t34 =>
    brX t34
      (
        (fadX 3 t3) |> bo fun t37 =>
        (ld1 m t37) |> bo fun t38 =>
        (C_spec_l3DrawCell [t0] m) |> bo fun r4 =>
        (bslX r4.2 1 2 [.int .i64 0, .int .i64 0] [(0, 2, r4.1)]) |> bo fun r5 =>
        (apL r5.2 2 16 t38 r5.1) |> bo fun r6 =>
        (fadX 3 t3) |> bo fun t43 =>
        (stX r6.2 1 t43 r6.1) |> bo fun m8 =>
        gP (stbL [((rdN t37), m, r4.2)])
          (
            (binX .sub .no t5 (.int .i64 1)) |> bo fun t36 =>
            cutK k m8 [t0] [t0, t2, t3, t36] (L_spec_l3Draw k q 1)))
      (
        (ldS m 4 t3) |> bo fun t44 =>
        (stX m 4 t2 t44) |> bo fun m11 =>
        (resP (some 4) m11 t2) |> bo fun c12 =>
        retK k m11 [t0] c12)
  | _, _, _, _ => none
noncomputable def J_spec_l3Draw (k q l : Nat) : List Value → Mem → Option VM := cond (Nat.beq l 3) (L_spec_l3Draw k q 0) (cond (Nat.beq l 8) (L_spec_l3Draw k q 1) (fun _ _ => none))
def LL_spec_l3Draw : List (Nat × List Tmp) := [(3, [0, 2, 3, 4]), (8, [0, 2, 3, 5])]
noncomputable def X_spec_l3Draw : List Value → Mem → Option VM
  | [t0], m =>
    (alX m [.int .i64 0, .int .i64 0, .slice none 0 0, .slice none 0 0]) |> bo fun r1 =>
    (C_spec_l1Next [t0, (.int .i64 4)] r1.2) |> bo fun r2 =>
    (binX .add .no (.int .i64 1) r2.1) |> bo fun t8 =>
    (bslX r2.2 4 1 [.int .i64 0] [(0, 1, (.int .i64 2)), (1, 1, (.int .i64 3)), (2, 1, (.int .i64 4)), (3, 1, (.int .i64 6))]) |> bo fun r4 =>
    (C_spec_l1Pick [t0, r4.1] r4.2) |> bo fun r5 =>
    (C_spec_l3New [t8, r5.1] r5.2) |> bo fun r6 =>
    (alX r6.2 [.int .i64 0, .int .i64 0, .slice none 0 0, .slice none 0 0]) |> bo fun r7 =>
    (stX r7.2 4 r7.1 r6.1) |> bo fun m8 =>
    cutK m.length m8 [t0] [t0, r1.1, r7.1, (.int .i64 0)] (L_spec_l3Draw m.length QQ 0)
  | _, _ => none
noncomputable def C_spec_l3Draw : List Value → Mem → Option VM := rcall X_spec_l3Draw
@[simp] theorem c_spec_l3Draw : C_spec_l3Draw = rcall X_spec_l3Draw := (rfl)
theorem cok_spec_l3Draw : codeOk CT Try.f118 (Try.f118.body.get rfl) = true := by kernel_rfl
theorem xe_spec_l3Draw (t0 : Value) (m : Mem) : ex CT cf_spec_l3Draw Try.f118 1 m.length LL_spec_l3Draw (J_spec_l3Draw m.length QQ) 400 [.code (Try.f118.body.get rfl)] (argsT 0 [t0]) m = X_spec_l3Draw [t0] m := by kernel_rfl
theorem okc_spec_l3Draw : CallOK CT cf_spec_l3Draw := cfc_ok ok_C_spec_l1Next (cfc_ok ok_C_spec_l3DrawCell (cfc_ok ok_C_spec_l1Pick (cfc_ok ok_C_spec_l3New (cfc_ok ok_C_spec_l1Chance cfn_ok))))
theorem le_spec_l3Draw_0 (k q : Nat) (t0 t2 t3 t4 : Value) (m : Mem) : ex CT cf_spec_l3Draw Try.f118 1 k LL_spec_l3Draw (J_spec_l3Draw k q) 400 (atLoop Try.f118 0) [(0, t0), (2, t2), (3, t3), (4, t4)] m = J_spec_l3Draw k (q + 1) 3 [t0, t2, t3, t4] m := by kernel_rfl
theorem le_spec_l3Draw_1 (k q : Nat) (t0 t2 t3 t5 : Value) (m : Mem) : ex CT cf_spec_l3Draw Try.f118 1 k LL_spec_l3Draw (J_spec_l3Draw k q) 400 (atLoop Try.f118 1) [(0, t0), (2, t2), (3, t3), (5, t5)] m = J_spec_l3Draw k (q + 1) 8 [t0, t2, t3, t5] m := by kernel_rfl
theorem gl_spec_l3Draw (k : Nat) : ∀ q i, i < 2 → GoodL CT k Try.f118 LL_spec_l3Draw (J_spec_l3Draw k q) (atLoop Try.f118 i)
  | 0, 0, _ => goodL_zero (l := 3) (by kernel_rfl) (fun vs m => by kernel_rfl)
  | 0, 1, _ => goodL_zero (l := 8) (by kernel_rfl) (fun vs m => by kernel_rfl)
  | 0, _ + 2, h => absurd h (by omega)
  | q + 1, 0, _ => goodL_succ (np := 1) (l := 3) (live := [0, 2, 3, 4]) (n := 2) CT_ok rfl okc_spec_l3Draw (c := (Try.f118.body.get rfl)) rfl cok_spec_l3Draw (by kernel_rfl) (gl_spec_l3Draw k q) (by kernel_rfl) rfl (fun vs m r hl h => match vs, hl with
    | [t0, t2, t3, t4], _ => (le_spec_l3Draw_0 k q t0 t2 t3 t4 m).trans h)
  | q + 1, 1, _ => goodL_succ (np := 1) (l := 8) (live := [0, 2, 3, 5]) (n := 2) CT_ok rfl okc_spec_l3Draw (c := (Try.f118.body.get rfl)) rfl cok_spec_l3Draw (by kernel_rfl) (gl_spec_l3Draw k q) (by kernel_rfl) rfl (fun vs m r hl h => match vs, hl with
    | [t0, t2, t3, t5], _ => (le_spec_l3Draw_1 k q t0 t2 t3 t5 m).trans h)
  | _ + 1, _ + 2, h => absurd h (by omega)
theorem ok_X_spec_l3Draw : OkX CT 118 X_spec_l3Draw := OkX.of_ex (cf := cf_spec_l3Draw) (np := 1) (LL := LL_spec_l3Draw) (J := (fun k => J_spec_l3Draw k QQ)) CT_ok rfl Try.func118 rfl (Nat.le_of_ble_eq_true rfl) (by decide) cok_spec_l3Draw okc_spec_l3Draw (fun k => allLoops rfl (by kernel_rfl) (gl_spec_l3Draw k QQ)) (fun args m r h => match args, h with
    | [t0], h => ⟨rfl, (xe_spec_l3Draw t0 m).trans h⟩)
theorem ok_C_spec_l3Draw : OkC CT 118 C_spec_l3Draw := rcall_ok rfl ok_X_spec_l3Draw

/-! ### spec.l3Bent -/
noncomputable def cf_spec_l3Bent : CallF := cfc 69 C_spec_l1Next (cfc 70 C_spec_l3DrawCell (cfc 71 C_spec_l1Pick (cfc 118 C_spec_l3Draw (cfc 119 C_spec_l3Blanks cfn))))
noncomputable def X_spec_l3Bent : List Value → Mem → Option VM
  | [t0], m =>
    (alX m [.int .i64 0, .int .i64 0, .slice none 0 0, .slice none 0 0]) |> bo fun r1 =>
    (C_spec_l3Draw [t0] r1.2) |> bo fun r2 =>
    (alX r2.2 [.int .i64 0, .int .i64 0, .slice none 0 0, .slice none 0 0]) |> bo fun r3 =>
    (stX r3.2 4 r3.1 r2.1) |> bo fun m4 =>
    (C_spec_l1Next [t0, (.int .i64 14)] m4) |> bo fun r5 =>
    (binX .eql .no r5.1 (.int .i64 0)) |> bo fun t9 =>
    brX t9
      (
        (bslX r5.2 3 1 [.int .i64 0] [(0, 1, (.int .i64 0)), (1, 1, (.int .i64 7)), (2, 1, (.int .i64 2))]) |> bo fun r7 =>
        (C_spec_l1Pick [t0, r7.1] r7.2) |> bo fun r8 =>
        (fadX 0 r3.1) |> bo fun t13 =>
        (stX r8.2 1 t13 r8.1) |> bo fun m10 =>
        (ldS m10 4 r3.1) |> bo fun t42 =>
        (stX m10 4 r1.1 t42) |> bo fun m12 =>
        (resP (some 4) m12 r1.1) |> bo fun c13 =>
        retK m.length m12 [t0] c13)
      (
        (binX .eql .no r5.1 (.int .i64 1)) |> bo fun t15 =>
        brX t15
          (
            (fadX 2 r3.1) |> bo fun t16 =>
            (ld1 r5.2 t16) |> bo fun t17 =>
            (bslX r5.2 3 1 [.int .i64 0] [(0, 1, (.int .i64 31)), (1, 1, (.int .i64 127)), (2, 1, (.int .i64 97))]) |> bo fun r17 =>
            (C_spec_l1Pick [t0, r17.1] r17.2) |> bo fun r18 =>
            (bslX r18.2 3 1 [.int .i64 0] [(0, 1, (.int .i64 32)), (1, 1, (.int .i64 (-1))), (2, 1, (.int .i64 0))]) |> bo fun r19 =>
            (C_spec_l1Pick [t0, r19.1] r19.2) |> bo fun r20 =>
            (bldX [.int .i64 0, .int .i64 0] [(0, 1, r18.1), (1, 1, r20.1)]) |> bo fun t24 =>
            (ixaX 2 t17 (.int .i64 0)) |> bo fun t25 =>
            (stX r20.2 2 t25 t24) |> bo fun m23 =>
            gP (stbL [((rdN t16), r17.2, r18.2), ((rdN t16), r19.2, r20.2)])
              (
                (ldS m23 4 r3.1) |> bo fun t42 =>
                (stX m23 4 r1.1 t42) |> bo fun m25 =>
                (resP (some 4) m25 r1.1) |> bo fun c26 =>
                retK m.length m25 [t0] c26))
          (
            (binX .eql .no r5.1 (.int .i64 2)) |> bo fun t27 =>
            brX t27
              (
                (fadX 3 r3.1) |> bo fun t28 =>
                (ld1 r5.2 t28) |> bo fun t29 =>
                (C_spec_l3DrawCell [t0] r5.2) |> bo fun r30 =>
                (bslX r30.2 1 2 [.int .i64 0, .int .i64 0] [(0, 2, r30.1)]) |> bo fun r31 =>
                (apL r31.2 2 16 t29 r31.1) |> bo fun r32 =>
                (fadX 3 r3.1) |> bo fun t34 =>
                (stX r32.2 1 t34 r32.1) |> bo fun m34 =>
                gP (stbL [((rdN t28), r5.2, r30.2)])
                  (
                    (ldS m34 4 r3.1) |> bo fun t42 =>
                    (stX m34 4 r1.1 t42) |> bo fun m36 =>
                    (resP (some 4) m36 r1.1) |> bo fun c37 =>
                    retK m.length m36 [t0] c37))
              (
                (binX .eql .no r5.1 (.int .i64 3)) |> bo fun t36 =>
                brX t36
                  (
                    (fadX 1 r3.1) |> bo fun t37 =>
                    (ld1 r5.2 t37) |> bo fun t38 =>
                    (binX .mul .no (.int .i64 6) t38) |> bo fun t39 =>
                    (C_spec_l3Blanks [t39, (.int .i64 0)] r5.2) |> bo fun r42 =>
                    (fadX 3 r3.1) |> bo fun t41 =>
                    (stX r42.2 1 t41 r42.1) |> bo fun m44 =>
                    (ldS m44 4 r3.1) |> bo fun t42 =>
                    (stX m44 4 r1.1 t42) |> bo fun m46 =>
                    (resP (some 4) m46 r1.1) |> bo fun c47 =>
                    retK m.length m46 [t0] c47)
                  (
                    (ldS r5.2 4 r3.1) |> bo fun t42 =>
                    (stX r5.2 4 r1.1 t42) |> bo fun m49 =>
                    (resP (some 4) m49 r1.1) |> bo fun c50 =>
                    retK m.length m49 [t0] c50))))
  | _, _ => none
noncomputable def C_spec_l3Bent : List Value → Mem → Option VM := rcall X_spec_l3Bent
@[simp] theorem c_spec_l3Bent : C_spec_l3Bent = rcall X_spec_l3Bent := (rfl)
theorem cok_spec_l3Bent : codeOk CT Try.f68 (Try.f68.body.get rfl) = true := by kernel_rfl
theorem xe_spec_l3Bent (t0 : Value) (m : Mem) : ex CT cf_spec_l3Bent Try.f68 1 m.length [] (fun _ _ _ => none) 400 [.code (Try.f68.body.get rfl)] (argsT 0 [t0]) m = X_spec_l3Bent [t0] m := by kernel_rfl
theorem okc_spec_l3Bent : CallOK CT cf_spec_l3Bent := cfc_ok ok_C_spec_l1Next (cfc_ok ok_C_spec_l3DrawCell (cfc_ok ok_C_spec_l1Pick (cfc_ok ok_C_spec_l3Draw (cfc_ok ok_C_spec_l3Blanks cfn_ok))))
theorem ok_X_spec_l3Bent : OkX CT 68 X_spec_l3Bent := OkX.of_ex (cf := cf_spec_l3Bent) (np := 1) (LL := []) (J := (fun _ _ _ _ => none)) CT_ok rfl Try.func68 rfl (Nat.le_of_ble_eq_true rfl) (by decide) cok_spec_l3Bent okc_spec_l3Bent (fun k => noLoops rfl) (fun args m r h => match args, h with
    | [t0], h => ⟨rfl, (xe_spec_l3Bent t0 m).trans h⟩)
theorem ok_C_spec_l3Bent : OkC CT 68 C_spec_l3Bent := rcall_ok rfl ok_X_spec_l3Bent

/-! ### spec.DrawShiftCells -/
noncomputable def cf_spec_DrawShiftCells : CallF := cfc 67 C_spec_l1Source (cfc 68 C_spec_l3Bent (cfc 71 C_spec_l1Pick cfn))
noncomputable def X_spec_DrawShiftCells : List Value → Mem → Option VM
  | [t0], m =>
    (alX m [.int .i64 0, .int .i64 0, .slice none 0 0, .slice none 0 0]) |> bo fun r1 =>
    (C_spec_l1Source [t0] r1.2) |> bo fun r2 =>
    (C_spec_l3Bent [r2.1] r2.2) |> bo fun r3 =>
    (bslX r3.2 4 1 [.int .i64 0] [(0, 1, (.int .i64 0)), (1, 1, (.int .i64 0)), (2, 1, (.int .i64 1)), (3, 1, (.int .i64 4))]) |> bo fun r4 =>
    (C_spec_l1Pick [r2.1, r4.1] r4.2) |> bo fun r5 =>
    (bslX r5.2 4 1 [.int .i64 0] [(0, 1, (.int .i64 0)), (1, 1, (.int .i64 1)), (2, 1, (.int .i64 2)), (3, 1, (.int .i64 6))]) |> bo fun r6 =>
    (C_spec_l1Pick [r2.1, r6.1] r6.2) |> bo fun r7 =>
    (bslX r7.2 7 1 [.int .i64 0] [(0, 1, (.int .i64 1)), (1, 1, (.int .i64 2)), (2, 1, (.int .i64 (-1))), (3, 1, (.int .i64 (-2))), (4, 1, (.int .i64 12)), (5, 1, (.int .i64 (-12))), (6, 1, (.int .i64 13))]) |> bo fun r8 =>
    (C_spec_l1Pick [r2.1, r8.1] r8.2) |> bo fun r9 =>
    (bslX r9.2 3 1 [.int .i64 0] [(0, 1, (.int .i64 0)), (1, 1, (.int .i64 3)), (2, 1, (.int .i64 32))]) |> bo fun r10 =>
    (C_spec_l1Pick [r2.1, r10.1] r10.2) |> bo fun r11 =>
    (stX r11.2 4 r1.1 r3.1) |> bo fun m12 =>
    (resP (some 4) m12 r1.1) |> bo fun c13 =>
    retK m.length m12 [t0] (.tuple #[c13, r5.1, r7.1, r9.1, r11.1])
  | _, _ => none
noncomputable def C_spec_DrawShiftCells : List Value → Mem → Option VM := icall X_spec_DrawShiftCells
@[simp] theorem c_spec_DrawShiftCells : C_spec_DrawShiftCells = icall X_spec_DrawShiftCells := (rfl)
theorem cok_spec_DrawShiftCells : codeOk CT Try.f38 (Try.f38.body.get rfl) = true := by kernel_rfl
theorem xe_spec_DrawShiftCells (t0 : Value) (m : Mem) : ex CT cf_spec_DrawShiftCells Try.f38 1 m.length [] (fun _ _ _ => none) 400 [.code (Try.f38.body.get rfl)] (argsT 0 [t0]) m = X_spec_DrawShiftCells [t0] m := by kernel_rfl
theorem okc_spec_DrawShiftCells : CallOK CT cf_spec_DrawShiftCells := cfc_ok ok_C_spec_l1Source (cfc_ok ok_C_spec_l3Bent (cfc_ok ok_C_spec_l1Pick cfn_ok))
theorem ok_X_spec_DrawShiftCells : OkX CT 38 X_spec_DrawShiftCells := OkX.of_ex (cf := cf_spec_DrawShiftCells) (np := 1) (LL := []) (J := (fun _ _ _ _ => none)) CT_ok rfl Try.func38 rfl (Nat.le_of_ble_eq_true rfl) (by decide) cok_spec_DrawShiftCells okc_spec_DrawShiftCells (fun k => noLoops rfl) (fun args m r h => match args, h with
    | [t0], h => ⟨rfl, (xe_spec_DrawShiftCells t0 m).trans h⟩)
theorem ok_C_spec_DrawShiftCells : OkC CT 38 C_spec_DrawShiftCells := icall_ok rfl ok_X_spec_DrawShiftCells

/-! ### spec.DrawResizeGrid -/
noncomputable def cf_spec_DrawResizeGrid : CallF := cfc 67 C_spec_l1Source (cfc 68 C_spec_l3Bent (cfc 71 C_spec_l1Pick cfn))
noncomputable def X_spec_DrawResizeGrid : List Value → Mem → Option VM
  | [t0], m =>
    (alX m [.int .i64 0, .int .i64 0, .slice none 0 0, .slice none 0 0]) |> bo fun r1 =>
    (C_spec_l1Source [t0] r1.2) |> bo fun r2 =>
    (C_spec_l3Bent [r2.1] r2.2) |> bo fun r3 =>
    (bslX r3.2 5 1 [.int .i64 0] [(0, 1, (.int .i64 1)), (1, 1, (.int .i64 2)), (2, 1, (.int .i64 4)), (3, 1, (.int .i64 6)), (4, 1, (.int .i64 7))]) |> bo fun r4 =>
    (C_spec_l1Pick [r2.1, r4.1] r4.2) |> bo fun r5 =>
    (bslX r5.2 5 1 [.int .i64 0] [(0, 1, (.int .i64 2)), (1, 1, (.int .i64 3)), (2, 1, (.int .i64 5)), (3, 1, (.int .i64 12)), (4, 1, (.int .i64 1))]) |> bo fun r6 =>
    (C_spec_l1Pick [r2.1, r6.1] r6.2) |> bo fun r7 =>
    (stX r7.2 4 r1.1 r3.1) |> bo fun m8 =>
    (resP (some 4) m8 r1.1) |> bo fun c9 =>
    retK m.length m8 [t0] (.tuple #[c9, r5.1, r7.1])
  | _, _ => none
noncomputable def C_spec_DrawResizeGrid : List Value → Mem → Option VM := icall X_spec_DrawResizeGrid
@[simp] theorem c_spec_DrawResizeGrid : C_spec_DrawResizeGrid = icall X_spec_DrawResizeGrid := (rfl)
theorem cok_spec_DrawResizeGrid : codeOk CT Try.f39 (Try.f39.body.get rfl) = true := by kernel_rfl
theorem xe_spec_DrawResizeGrid (t0 : Value) (m : Mem) : ex CT cf_spec_DrawResizeGrid Try.f39 1 m.length [] (fun _ _ _ => none) 400 [.code (Try.f39.body.get rfl)] (argsT 0 [t0]) m = X_spec_DrawResizeGrid [t0] m := by kernel_rfl
theorem okc_spec_DrawResizeGrid : CallOK CT cf_spec_DrawResizeGrid := cfc_ok ok_C_spec_l1Source (cfc_ok ok_C_spec_l3Bent (cfc_ok ok_C_spec_l1Pick cfn_ok))
theorem ok_X_spec_DrawResizeGrid : OkX CT 39 X_spec_DrawResizeGrid := OkX.of_ex (cf := cf_spec_DrawResizeGrid) (np := 1) (LL := []) (J := (fun _ _ _ _ => none)) CT_ok rfl Try.func39 rfl (Nat.le_of_ble_eq_true rfl) (by decide) cok_spec_DrawResizeGrid okc_spec_DrawResizeGrid (fun k => noLoops rfl) (fun args m r h => match args, h with
    | [t0], h => ⟨rfl, (xe_spec_DrawResizeGrid t0 m).trans h⟩)
theorem ok_C_spec_DrawResizeGrid : OkC CT 39 C_spec_DrawResizeGrid := icall_ok rfl ok_X_spec_DrawResizeGrid

/-! ### spec.DrawNewGrid -/
noncomputable def cf_spec_DrawNewGrid : CallF := cfc 67 C_spec_l1Source (cfc 71 C_spec_l1Pick cfn)
noncomputable def X_spec_DrawNewGrid : List Value → Mem → Option VM
  | [t0], m =>
    (C_spec_l1Source [t0] m) |> bo fun r1 =>
    (bslX r1.2 4 1 [.int .i64 0] [(0, 1, (.int .i64 1)), (1, 1, (.int .i64 6)), (2, 1, (.int .i64 7)), (3, 1, (.int .i64 0))]) |> bo fun r2 =>
    (C_spec_l1Pick [r1.1, r2.1] r2.2) |> bo fun r3 =>
    (bslX r3.2 4 1 [.int .i64 0] [(0, 1, (.int .i64 2)), (1, 1, (.int .i64 12)), (2, 1, (.int .i64 13)), (3, 1, (.int .i64 1))]) |> bo fun r4 =>
    (C_spec_l1Pick [r1.1, r4.1] r4.2) |> bo fun r5 =>
    retK m.length r5.2 [t0] (.tuple #[r3.1, r5.1])
  | _, _ => none
noncomputable def C_spec_DrawNewGrid : List Value → Mem → Option VM := icall X_spec_DrawNewGrid
@[simp] theorem c_spec_DrawNewGrid : C_spec_DrawNewGrid = icall X_spec_DrawNewGrid := (rfl)
theorem cok_spec_DrawNewGrid : codeOk CT Try.f40 (Try.f40.body.get rfl) = true := by kernel_rfl
theorem xe_spec_DrawNewGrid (t0 : Value) (m : Mem) : ex CT cf_spec_DrawNewGrid Try.f40 1 m.length [] (fun _ _ _ => none) 400 [.code (Try.f40.body.get rfl)] (argsT 0 [t0]) m = X_spec_DrawNewGrid [t0] m := by kernel_rfl
theorem okc_spec_DrawNewGrid : CallOK CT cf_spec_DrawNewGrid := cfc_ok ok_C_spec_l1Source (cfc_ok ok_C_spec_l1Pick cfn_ok)
theorem ok_X_spec_DrawNewGrid : OkX CT 40 X_spec_DrawNewGrid := OkX.of_ex (cf := cf_spec_DrawNewGrid) (np := 1) (LL := []) (J := (fun _ _ _ _ => none)) CT_ok rfl Try.func40 rfl (Nat.le_of_ble_eq_true rfl) (by decide) cok_spec_DrawNewGrid okc_spec_DrawNewGrid (fun k => noLoops rfl) (fun args m r h => match args, h with
    | [t0], h => ⟨rfl, (xe_spec_DrawNewGrid t0 m).trans h⟩)
theorem ok_C_spec_DrawNewGrid : OkC CT 40 C_spec_DrawNewGrid := icall_ok rfl ok_X_spec_DrawNewGrid

/-! ### impl.newGrid -/
noncomputable def cf_impl_newGrid : CallF := cfc 120 C_impl_blanks cfn
noncomputable def X_impl_newGrid : List Value → Mem → Option VM
  | [t0, t1], m =>
    (alX m [.int .i64 0, .int .i64 0, .slice none 0 0, .slice none 0 0]) |> bo fun r1 =>
    (binX .mul .no t0 t1) |> bo fun t9 =>
    (C_impl_blanks [t9, (.int .i64 0)] r1.2) |> bo fun r3 =>
    (bldX [.int .i64 0, .int .i64 0, .slice none 0 0, .slice none 0 0] [(0, 1, t0), (1, 1, t1), (2, 1, r3.1)]) |> bo fun t11 =>
    (stX r3.2 4 r1.1 t11) |> bo fun m5 =>
    (resP (some 4) m5 r1.1) |> bo fun c6 =>
    retK m.length m5 [t0, t1] c6
  | _, _ => none
noncomputable def C_impl_newGrid : List Value → Mem → Option VM := fcall X_impl_newGrid
@[simp] theorem c_impl_newGrid : C_impl_newGrid = fcall X_impl_newGrid := (rfl)
theorem cok_impl_newGrid : codeOk CT Try.f98 (Try.f98.body.get rfl) = true := by kernel_rfl
theorem xe_impl_newGrid (t0 t1 : Value) (m : Mem) : ex CT cf_impl_newGrid Try.f98 2 m.length [] (fun _ _ _ => none) 400 [.code (Try.f98.body.get rfl)] (argsT 0 [t0, t1]) m = X_impl_newGrid [t0, t1] m := by kernel_rfl
theorem okc_impl_newGrid : CallOK CT cf_impl_newGrid := cfc_ok ok_C_impl_blanks cfn_ok
theorem ok_X_impl_newGrid : OkX CT 98 X_impl_newGrid := OkX.of_ex (cf := cf_impl_newGrid) (np := 2) (LL := []) (J := (fun _ _ _ _ => none)) CT_ok rfl Try.func98 rfl (Nat.le_of_ble_eq_true rfl) (by decide) cok_impl_newGrid okc_impl_newGrid (fun k => noLoops rfl) (fun args m r h => match args, h with
    | [t0, t1], h => ⟨rfl, (xe_impl_newGrid t0 t1 m).trans h⟩)
theorem ok_C_impl_newGrid : OkC CT 98 C_impl_newGrid := fcall_ok rfl ok_X_impl_newGrid

/-! ### impl.NewGrid -/
noncomputable def cf_impl_NewGrid : CallF := cfc 80 C_impl_sizeOk (cfc 98 C_impl_newGrid cfn)
noncomputable def X_impl_NewGrid : List Value → Mem → Option VM
  | [t0, t1], m =>
    (alX m [.int .i64 0, .int .i64 0, .int .i64 0, .slice none 0 0, .slice none 0 0]) |> bo fun r1 =>
    (C_impl_sizeOk [t0, t1] r1.2) |> bo fun r2 =>
    (uop .not r2.1) |> bo fun t8 =>
    brX t8
      (
        (bldX [.int .i64 0, .int .i64 0, .int .i64 0, .slice none 0 0, .slice none 0 0] [(0, 1, (.int .i64 3))]) |> bo fun t9 =>
        (stX r2.2 5 r1.1 t9) |> bo fun m5 =>
        (resP (some 5) m5 r1.1) |> bo fun c6 =>
        retK m.length m5 [t0, t1] c6)
      (
        (C_impl_newGrid [t0, t1] r2.2) |> bo fun r7 =>
        (bldX [.int .i64 0, .int .i64 0, .int .i64 0, .slice none 0 0, .slice none 0 0] [(0, 1, (.int .i64 0)), (1, 4, r7.1)]) |> bo fun t13 =>
        (stX r7.2 5 r1.1 t13) |> bo fun m9 =>
        (resP (some 5) m9 r1.1) |> bo fun c10 =>
        retK m.length m9 [t0, t1] c10)
  | _, _ => none
noncomputable def C_impl_NewGrid : List Value → Mem → Option VM := icall X_impl_NewGrid
@[simp] theorem c_impl_NewGrid : C_impl_NewGrid = icall X_impl_NewGrid := (rfl)
theorem cok_impl_NewGrid : codeOk CT Try.f41 (Try.f41.body.get rfl) = true := by kernel_rfl
theorem xe_impl_NewGrid (t0 t1 : Value) (m : Mem) : ex CT cf_impl_NewGrid Try.f41 2 m.length [] (fun _ _ _ => none) 400 [.code (Try.f41.body.get rfl)] (argsT 0 [t0, t1]) m = X_impl_NewGrid [t0, t1] m := by kernel_rfl
theorem okc_impl_NewGrid : CallOK CT cf_impl_NewGrid := cfc_ok ok_C_impl_sizeOk (cfc_ok ok_C_impl_newGrid cfn_ok)
theorem ok_X_impl_NewGrid : OkX CT 41 X_impl_NewGrid := OkX.of_ex (cf := cf_impl_NewGrid) (np := 2) (LL := []) (J := (fun _ _ _ _ => none)) CT_ok rfl Try.func41 rfl (Nat.le_of_ble_eq_true rfl) (by decide) cok_impl_NewGrid okc_impl_NewGrid (fun k => noLoops rfl) (fun args m r h => match args, h with
    | [t0, t1], h => ⟨rfl, (xe_impl_NewGrid t0 t1 m).trans h⟩)
theorem ok_C_impl_NewGrid : OkC CT 41 C_impl_NewGrid := icall_ok rfl ok_X_impl_NewGrid

/-! ### spec.NewGrid -/
noncomputable def cf_spec_NewGrid : CallF := cfc 93 C_spec_l3Size (cfc 99 C_spec_l3New cfn)
noncomputable def X_spec_NewGrid : List Value → Mem → Option VM
  | [t0, t1], m =>
    (alX m [.int .i64 0, .int .i64 0, .int .i64 0, .slice none 0 0, .slice none 0 0]) |> bo fun r1 =>
    (C_spec_l3Size [t0, t1] r1.2) |> bo fun r2 =>
    (uop .not r2.1) |> bo fun t8 =>
    brX t8
      (
        (bldX [.int .i64 0, .int .i64 0, .int .i64 0, .slice none 0 0, .slice none 0 0] [(0, 1, (.int .i64 3))]) |> bo fun t9 =>
        (stX r2.2 5 r1.1 t9) |> bo fun m5 =>
        (resP (some 5) m5 r1.1) |> bo fun c6 =>
        retK m.length m5 [t0, t1] c6)
      (
        (C_spec_l3New [t0, t1] r2.2) |> bo fun r7 =>
        (bldX [.int .i64 0, .int .i64 0, .int .i64 0, .slice none 0 0, .slice none 0 0] [(1, 4, r7.1)]) |> bo fun t13 =>
        (stX r7.2 5 r1.1 t13) |> bo fun m9 =>
        (resP (some 5) m9 r1.1) |> bo fun c10 =>
        retK m.length m9 [t0, t1] c10)
  | _, _ => none
noncomputable def C_spec_NewGrid : List Value → Mem → Option VM := icall X_spec_NewGrid
@[simp] theorem c_spec_NewGrid : C_spec_NewGrid = icall X_spec_NewGrid := (rfl)
theorem cok_spec_NewGrid : codeOk CT Try.f42 (Try.f42.body.get rfl) = true := by kernel_rfl
theorem xe_spec_NewGrid (t0 t1 : Value) (m : Mem) : ex CT cf_spec_NewGrid Try.f42 2 m.length [] (fun _ _ _ => none) 400 [.code (Try.f42.body.get rfl)] (argsT 0 [t0, t1]) m = X_spec_NewGrid [t0, t1] m := by kernel_rfl
theorem okc_spec_NewGrid : CallOK CT cf_spec_NewGrid := cfc_ok ok_C_spec_l3Size (cfc_ok ok_C_spec_l3New cfn_ok)
theorem ok_X_spec_NewGrid : OkX CT 42 X_spec_NewGrid := OkX.of_ex (cf := cf_spec_NewGrid) (np := 2) (LL := []) (J := (fun _ _ _ _ => none)) CT_ok rfl Try.func42 rfl (Nat.le_of_ble_eq_true rfl) (by decide) cok_spec_NewGrid okc_spec_NewGrid (fun k => noLoops rfl) (fun args m r h => match args, h with
    | [t0, t1], h => ⟨rfl, (xe_spec_NewGrid t0 t1 m).trans h⟩)
theorem ok_C_spec_NewGrid : OkC CT 42 C_spec_NewGrid := icall_ok rfl ok_X_spec_NewGrid

/-! ### laws.FnShifts -/
noncomputable def cf_laws_FnShifts : CallF := cfc 23 C_laws_lwBig (cfc 28 C_laws_lwCell (cfc 29 C_impl_GridFault (cfc 33 C_impl_SameGrids (cfc 34 C_spec_ShiftCells (cfc 35 C_impl_ShiftCells (cfc 36 C_spec_ResizeGrid (cfc 37 C_impl_ResizeGrid (cfc 38 C_spec_DrawShiftCells (cfc 39 C_spec_DrawResizeGrid (cfc 40 C_spec_DrawNewGrid (cfc 41 C_impl_NewGrid (cfc 42 C_spec_NewGrid cfn))))))))))))
noncomputable def L_laws_FnShifts (k : Nat) : Nat → Nat → List Value → Mem → Option VM
  | q + 1, 0, [t0, t3, t4, t5, t6, t7, t8, t13], m =>
    (fadX 0 t3) |> bo fun t100 =>
    (ld1 m t100) |> bo fun t101 =>
    (binX .lss .no t13 t101) |> bo fun t102 =>
    brX t102
      (
        cutK k m [t0] [t0, t3, t4, t5, t6, t7, t8, t13, (.int .i64 0)] (L_laws_FnShifts k q 1))
      (
        (C_spec_DrawNewGrid [t0] m) |> bo fun r4 =>
        (extX 0 r4.1) |> bo fun t154 =>
        (extX 1 r4.1) |> bo fun t155 =>
        (fadX 1 t8) |> bo fun t156 =>
        (ldS r4.2 4 t156) |> bo fun t157 =>
        (C_impl_GridFault [t157] r4.2) |> bo fun r9 =>
        (binX .eql .no r9.1 (.int .i64 0)) |> bo fun t159 =>
        (gd t159 true (some (t154, r9.2)) r9.2) |> bo fun r11 =>
        (gd t159 true (some (t155, r11.2)) r11.2) |> bo fun r12 =>
        (gd t159 true ((C_impl_NewGrid [r11.1, r12.1] r12.2) |> bo fun r => some (r.1, r.2)) r12.2) |> bo fun r13 =>
        (gd t159 true ((fld1 0 r13.1) |> bo fun v => some (v, r13.2)) r13.2) |> bo fun r14 =>
        (gd t159 true (some (t154, r14.2)) r14.2) |> bo fun r15 =>
        (gd t159 true (some (t155, r15.2)) r15.2) |> bo fun r16 =>
        (gd t159 true ((C_spec_NewGrid [r15.1, r16.1] r16.2) |> bo fun r => some (r.1, r.2)) r16.2) |> bo fun r17 =>
        (gd t159 true ((fld1 0 r17.1) |> bo fun v => some (v, r17.2)) r17.2) |> bo fun r18 =>
        (gd t159 true ((binX .eql .no r14.1 r18.1) |> bo fun v => some (v, r18.2)) r18.2) |> bo fun r19 =>
        (pickX t159 r19.1 (.bool false)) |> bo fun t170 =>
        (gd t170 true ((fadX 1 t8) |> bo fun v => some (v, r19.2)) r19.2) |> bo fun r21 =>
        (gd t170 true ((fadX 2 r21.1) |> bo fun v => some (v, r21.2)) r21.2) |> bo fun r22 =>
        (gd t170 true ((ld1 r22.2 r22.1) |> bo fun v => some (v, r22.2)) r22.2) |> bo fun r23 =>
        (gd t170 true ((lenX r23.1) |> bo fun v => some (v, r23.2)) r23.2) |> bo fun r24 =>
        (gd t170 true ((binX .gtr .no r24.1 (.int .i64 0)) |> bo fun v => some (v, r24.2)) r24.2) |> bo fun r25 =>
        (pickX t170 r25.1 (.bool false)) |> bo fun t177 =>
        retK k r25.2 [t0] t177)
  | q + 1, 1, [t0, t3, t4, t5, t6, t7, t8, t13, t14], m =>
    (fadX 1 t3) |> bo fun t106 =>
    (ld1 m t106) |> bo fun t107 =>
    (binX .lss .no t14 t107) |> bo fun t108 =>
    brX t108
      (
        (ldS m 4 t3) |> bo fun t111 =>
        (C_laws_lwCell [t111, t13, t14] m) |> bo fun r5 =>
        (alX r5.2 [.int .i64 0, .int .i64 0]) |> bo fun r6 =>
        (stX r6.2 2 r6.1 r5.1) |> bo fun m7 =>
        (binX .eql .no t13 t4) |> bo fun t117 =>
        (gd t117 true (some (t14, m7)) m7) |> bo fun r9 =>
        (gd t117 true (some (t5, r9.2)) r9.2) |> bo fun r10 =>
        (gd t117 true ((binX .geq .no r9.1 r10.1) |> bo fun v => some (v, r10.2)) r10.2) |> bo fun r11 =>
        (pickX t117 r11.1 (.bool false)) |> bo fun t122 =>
        brX t122
          (
            (bldX [.int .i64 0, .int .i64 0] [(0, 1, (.int .i64 32)), (1, 1, t7)]) |> bo fun t124 =>
            (stX r11.2 2 r6.1 t124) |> bo fun m14 =>
            (binX .sub .no t14 t6) |> bo fun t127 =>
            (binX .geq .no t127 t5) |> bo fun t129 =>
            (gd t129 true (some (t14, m14)) m14) |> bo fun r17 =>
            (gd t129 true (some (t6, r17.2)) r17.2) |> bo fun r18 =>
            (gd t129 true ((binX .sub .no r17.1 r18.1) |> bo fun v => some (v, r18.2)) r18.2) |> bo fun r19 =>
            (gd t129 true ((fadX 1 t3) |> bo fun v => some (v, r19.2)) r19.2) |> bo fun r20 =>
            (gd t129 true ((ld1 r20.2 r20.1) |> bo fun v => some (v, r20.2)) r20.2) |> bo fun r21 =>
            (gd t129 true ((binX .lss .no r19.1 r21.1) |> bo fun v => some (v, r21.2)) r21.2) |> bo fun r22 =>
            (pickX t129 r22.1 (.bool false)) |> bo fun t137 =>
            brX t137
              (
                (ldS r22.2 4 t3) |> bo fun t138 =>
                (binX .sub .no t14 t6) |> bo fun t142 =>
                (C_laws_lwCell [t138, t13, t142] r22.2) |> bo fun r26 =>
                (stX r26.2 2 r6.1 r26.1) |> bo fun m27 =>
                (fadX 1 t8) |> bo fun t144 =>
                (ldS m27 4 t144) |> bo fun t145 =>
                (C_laws_lwCell [t145, t13, t14] m27) |> bo fun r30 =>
                (ldS r30.2 2 r6.1) |> bo fun t149 =>
                (binX .neq (.st [0, 1]) r30.1 t149) |> bo fun t150 =>
                gP (stbL [((rdN r6.1), m27, r30.2)])
                  (
                    brX t150
                      (
                        retK k r30.2 [t0] (.bool false))
                      (
                        (binX .add .no t14 (.int .i64 1)) |> bo fun t110 =>
                        cutK k r30.2 [t0] [t0, t3, t4, t5, t6, t7, t8, t13, t110] (L_laws_FnShifts k q 1))))
              (
                (fadX 1 t8) |> bo fun t144 =>
                (ldS r22.2 4 t144) |> bo fun t145 =>
                (C_laws_lwCell [t145, t13, t14] r22.2) |> bo fun r36 =>
                (ldS r36.2 2 r6.1) |> bo fun t149 =>
                (binX .neq (.st [0, 1]) r36.1 t149) |> bo fun t150 =>
                gP (stbL [((rdN r6.1), r22.2, r36.2)])
                  (
                    brX t150
                      (
                        retK k r36.2 [t0] (.bool false))
                      (
                        (binX .add .no t14 (.int .i64 1)) |> bo fun t110 =>
                        cutK k r36.2 [t0] [t0, t3, t4, t5, t6, t7, t8, t13, t110] (L_laws_FnShifts k q 1)))))
          (
            (fadX 1 t8) |> bo fun t144 =>
            (ldS r11.2 4 t144) |> bo fun t145 =>
            (C_laws_lwCell [t145, t13, t14] r11.2) |> bo fun r42 =>
            (ldS r42.2 2 r6.1) |> bo fun t149 =>
            (binX .neq (.st [0, 1]) r42.1 t149) |> bo fun t150 =>
            gP (stbL [((rdN r6.1), r11.2, r42.2)])
              (
                brX t150
                  (
                    retK k r42.2 [t0] (.bool false))
                  (
                    (binX .add .no t14 (.int .i64 1)) |> bo fun t110 =>
                    cutK k r42.2 [t0] [t0, t3, t4, t5, t6, t7, t8, t13, t110] (L_laws_FnShifts k q 1)))))
      (
        (binX .add .no t13 (.int .i64 1)) |> bo fun t104 =>
        cutK k m [t0] [t0, t3, t4, t5, t6, t7, t8, t104] (L_laws_FnShifts k q 0))
  | _, _, _, _ => none
noncomputable def J_laws_FnShifts (k q l : Nat) : List Value → Mem → Option VM := cond (Nat.beq l 12) (L_laws_FnShifts k q 0) (cond (Nat.beq l 15) (L_laws_FnShifts k q 1) (fun _ _ => none))
def LL_laws_FnShifts : List (Nat × List Tmp) := [(12, [0, 3, 4, 5, 6, 7, 8, 13]), (15, [0, 3, 4, 5, 6, 7, 8, 13, 14])]
noncomputable def X_laws_FnShifts : List Value → Mem → Option VM
  | [t0], m =>
    (C_laws_lwBig [t0] m) |> bo fun r1 =>
    brX r1.1
      (
        retK m.length r1.2 [t0] (.bool true))
      (
        (C_spec_DrawShiftCells [t0] r1.2) |> bo fun r2 =>
        (extX 0 r2.1) |> bo fun t23 =>
        (extX 1 r2.1) |> bo fun t24 =>
        (extX 2 r2.1) |> bo fun t25 =>
        (extX 3 r2.1) |> bo fun t26 =>
        (extX 4 r2.1) |> bo fun t27 =>
        (alX r2.2 [.int .i64 0, .int .i64 0, .slice none 0 0, .slice none 0 0]) |> bo fun r8 =>
        (stX r8.2 4 r8.1 t23) |> bo fun m9 =>
        (ldS m9 4 r8.1) |> bo fun t28 =>
        (C_impl_ShiftCells [t28, t24, t25, t26, t27] m9) |> bo fun r11 =>
        (alX r11.2 [.int .i64 0, .int .i64 0, .int .i64 0, .slice none 0 0, .slice none 0 0]) |> bo fun r12 =>
        (stX r12.2 5 r12.1 r11.1) |> bo fun m13 =>
        (C_spec_DrawResizeGrid [t0] m13) |> bo fun r14 =>
        (extX 0 r14.1) |> bo fun t37 =>
        (extX 1 r14.1) |> bo fun t38 =>
        (extX 2 r14.1) |> bo fun t39 =>
        (alX r14.2 [.int .i64 0, .int .i64 0, .slice none 0 0, .slice none 0 0]) |> bo fun r18 =>
        (stX r18.2 4 r18.1 t37) |> bo fun m19 =>
        (ldS m19 4 r18.1) |> bo fun t40 =>
        (C_impl_ResizeGrid [t40, t38, t39] m19) |> bo fun r21 =>
        (alX r21.2 [.int .i64 0, .int .i64 0, .int .i64 0, .slice none 0 0, .slice none 0 0]) |> bo fun r22 =>
        (stX r22.2 5 r22.1 r21.1) |> bo fun m23 =>
        (fadX 0 r22.1) |> bo fun t44 =>
        (ld1 m23 t44) |> bo fun t45 =>
        (ldS m23 4 r18.1) |> bo fun t46 =>
        (C_spec_ResizeGrid [t46, t38, t39] m23) |> bo fun r27 =>
        (fld1 0 r27.1) |> bo fun t50 =>
        (binX .neq .no t45 t50) |> bo fun t51 =>
        (gd t51 false ((fadX 0 r22.1) |> bo fun v => some (v, r27.2)) r27.2) |> bo fun r30 =>
        (gd t51 false ((ld1 r30.2 r30.1) |> bo fun v => some (v, r30.2)) r30.2) |> bo fun r31 =>
        (gd t51 false ((binX .eql .no r31.1 (.int .i64 0)) |> bo fun v => some (v, r31.2)) r31.2) |> bo fun r32 =>
        (gd t51 false (some (r32.1, r32.2)) r32.2) |> bo fun r33 =>
        (gd r33.1 true ((fadX 1 r22.1) |> bo fun v => some (v, r33.2)) r33.2) |> bo fun r34 =>
        (gd r33.1 true ((ldS r34.2 4 r34.1) |> bo fun v => some (v, r34.2)) r34.2) |> bo fun r35 =>
        (gd r33.1 true ((C_impl_GridFault [r35.1] r35.2) |> bo fun r => some (r.1, r.2)) r35.2) |> bo fun r36 =>
        (gd r33.1 true ((binX .neq .no r36.1 (.int .i64 0)) |> bo fun v => some (v, r36.2)) r36.2) |> bo fun r37 =>
        (gd r33.1 true (some (r37.1, r37.2)) r37.2) |> bo fun r38 =>
        (gd r38.1 false ((ldS r38.2 4 r18.1) |> bo fun v => some (v, r38.2)) r38.2) |> bo fun r39 =>
        (gd r38.1 false ((fadX 0 r18.1) |> bo fun v => some (v, r39.2)) r39.2) |> bo fun r40 =>
        (gd r38.1 false ((ld1 r40.2 r40.1) |> bo fun v => some (v, r40.2)) r40.2) |> bo fun r41 =>
        (gd r38.1 false ((fadX 1 r18.1) |> bo fun v => some (v, r41.2)) r41.2) |> bo fun r42 =>
        (gd r38.1 false ((ld1 r42.2 r42.1) |> bo fun v => some (v, r42.2)) r42.2) |> bo fun r43 =>
        (gd r38.1 false ((C_impl_ResizeGrid [r39.1, r41.1, r43.1] r43.2) |> bo fun r => some (r.1, r.2)) r43.2) |> bo fun r44 =>
        (gd r38.1 false ((fldS 1 4 r44.1) |> bo fun v => some (v, r44.2)) r44.2) |> bo fun r45 =>
        (gd r38.1 false ((ldS r45.2 4 r18.1) |> bo fun v => some (v, r45.2)) r45.2) |> bo fun r46 =>
        (gd r38.1 false ((C_impl_SameGrids [r45.1, r46.1] r46.2) |> bo fun r => some (r.1, r.2)) r46.2) |> bo fun r47 =>
        (gd r38.1 false ((uop .not r47.1) |> bo fun v => some (v, r47.2)) r47.2) |> bo fun r48 =>
        (gd r33.1 true ((pickX r38.1 (.bool true) r48.1) |> bo fun v => some (v, r48.2)) r48.2) |> bo fun r49 =>
        (gd r33.1 true (some (r49.1, r49.2)) r49.2) |> bo fun r50 =>
        (gd r50.1 false ((fadX 1 r22.1) |> bo fun v => some (v, r50.2)) r50.2) |> bo fun r51 =>
        (gd r50.1 false ((ldS r51.2 4 r51.1) |> bo fun v => some (v, r51.2)) r51.2) |> bo fun r52 =>
        (gd r50.1 false ((ldS r52.2 4 r18.1) |> bo fun v => some (v, r52.2)) r52.2) |> bo fun r53 =>
        (gd r50.1 false (some (t38, r53.2)) r53.2) |> bo fun r54 =>
        (gd r50.1 false (some (t39, r54.2)) r54.2) |> bo fun r55 =>
        (gd r50.1 false ((C_spec_ResizeGrid [r53.1, r54.1, r55.1] r55.2) |> bo fun r => some (r.1, r.2)) r55.2) |> bo fun r56 =>
        (gd r50.1 false ((fldS 1 4 r56.1) |> bo fun v => some (v, r56.2)) r56.2) |> bo fun r57 =>
        (gd r50.1 false ((C_impl_SameGrids [r52.1, r57.1] r57.2) |> bo fun r => some (r.1, r.2)) r57.2) |> bo fun r58 =>
        (gd r50.1 false ((uop .not r58.1) |> bo fun v => some (v, r58.2)) r58.2) |> bo fun r59 =>
        (gd r33.1 true ((pickX r50.1 (.bool true) r59.1) |> bo fun v => some (v, r59.2)) r59.2) |> bo fun r60 =>
        (gd t51 false ((pickX r33.1 r60.1 (.bool false)) |> bo fun v => some (v, r60.2)) r60.2) |> bo fun r61 =>
        (pickX t51 (.bool true) r61.1) |> bo fun t85 =>
        gP (stbL [((rdN t44), m23, r27.2), ((gdN r38.1 false (rdN r18.1)), r43.2, r44.2), ((gdN r50.1 false (rdN r51.1)), r55.2, r56.2)])
          (
            brX t85
              (
                retK m.length r61.2 [t0] (.bool false))
              (
                (fadX 0 r12.1) |> bo fun t86 =>
                (ld1 r61.2 t86) |> bo fun t87 =>
                (binX .neq .no t87 (.int .i64 0)) |> bo fun t88 =>
                brX t88
                  (
                    (ldS r61.2 4 r8.1) |> bo fun t89 =>
                    (C_spec_ShiftCells [t89, t24, t25, t26, t27] r61.2) |> bo fun r67 =>
                    (fld1 0 r67.1) |> bo fun t95 =>
                    (fadX 0 r12.1) |> bo fun t96 =>
                    (ld1 r67.2 t96) |> bo fun t97 =>
                    (binX .eql .no t95 t97) |> bo fun t98 =>
                    gP (stbL [((rdN t96), r61.2, r67.2)])
                      (
                        retK m.length r67.2 [t0] t98))
                  (
                    cutK m.length r61.2 [t0] [t0, r8.1, t24, t25, t26, t27, r12.1, (.int .i64 0)] (L_laws_FnShifts m.length QQ 0)))))
  | _, _ => none
noncomputable def C_laws_FnShifts : List Value → Mem → Option VM := fcall X_laws_FnShifts
@[simp] theorem c_laws_FnShifts : C_laws_FnShifts = fcall X_laws_FnShifts := (rfl)
theorem cok_laws_FnShifts : codeOk CT Try.f9 (Try.f9.body.get rfl) = true := by kernel_rfl
theorem xe_laws_FnShifts (t0 : Value) (m : Mem) : ex CT cf_laws_FnShifts Try.f9 1 m.length LL_laws_FnShifts (J_laws_FnShifts m.length QQ) 400 [.code (Try.f9.body.get rfl)] (argsT 0 [t0]) m = X_laws_FnShifts [t0] m := by kernel_rfl
theorem okc_laws_FnShifts : CallOK CT cf_laws_FnShifts := cfc_ok ok_C_laws_lwBig (cfc_ok ok_C_laws_lwCell (cfc_ok ok_C_impl_GridFault (cfc_ok ok_C_impl_SameGrids (cfc_ok ok_C_spec_ShiftCells (cfc_ok ok_C_impl_ShiftCells (cfc_ok ok_C_spec_ResizeGrid (cfc_ok ok_C_impl_ResizeGrid (cfc_ok ok_C_spec_DrawShiftCells (cfc_ok ok_C_spec_DrawResizeGrid (cfc_ok ok_C_spec_DrawNewGrid (cfc_ok ok_C_impl_NewGrid (cfc_ok ok_C_spec_NewGrid cfn_ok))))))))))))
theorem le_laws_FnShifts_0 (k q : Nat) (t0 t3 t4 t5 t6 t7 t8 t13 : Value) (m : Mem) : ex CT cf_laws_FnShifts Try.f9 1 k LL_laws_FnShifts (J_laws_FnShifts k q) 400 (atLoop Try.f9 0) [(0, t0), (3, t3), (4, t4), (5, t5), (6, t6), (7, t7), (8, t8), (13, t13)] m = J_laws_FnShifts k (q + 1) 12 [t0, t3, t4, t5, t6, t7, t8, t13] m := by kernel_rfl
theorem le_laws_FnShifts_1 (k q : Nat) (t0 t3 t4 t5 t6 t7 t8 t13 t14 : Value) (m : Mem) : ex CT cf_laws_FnShifts Try.f9 1 k LL_laws_FnShifts (J_laws_FnShifts k q) 400 (atLoop Try.f9 1) [(0, t0), (3, t3), (4, t4), (5, t5), (6, t6), (7, t7), (8, t8), (13, t13), (14, t14)] m = J_laws_FnShifts k (q + 1) 15 [t0, t3, t4, t5, t6, t7, t8, t13, t14] m := by kernel_rfl
theorem gl_laws_FnShifts (k : Nat) : ∀ q i, i < 2 → GoodL CT k Try.f9 LL_laws_FnShifts (J_laws_FnShifts k q) (atLoop Try.f9 i)
  | 0, 0, _ => goodL_zero (l := 12) (by kernel_rfl) (fun vs m => by kernel_rfl)
  | 0, 1, _ => goodL_zero (l := 15) (by kernel_rfl) (fun vs m => by kernel_rfl)
  | 0, _ + 2, h => absurd h (by omega)
  | q + 1, 0, _ => goodL_succ (np := 1) (l := 12) (live := [0, 3, 4, 5, 6, 7, 8, 13]) (n := 2) CT_ok rfl okc_laws_FnShifts (c := (Try.f9.body.get rfl)) rfl cok_laws_FnShifts (by kernel_rfl) (gl_laws_FnShifts k q) (by kernel_rfl) rfl (fun vs m r hl h => match vs, hl with
    | [t0, t3, t4, t5, t6, t7, t8, t13], _ => (le_laws_FnShifts_0 k q t0 t3 t4 t5 t6 t7 t8 t13 m).trans h)
  | q + 1, 1, _ => goodL_succ (np := 1) (l := 15) (live := [0, 3, 4, 5, 6, 7, 8, 13, 14]) (n := 2) CT_ok rfl okc_laws_FnShifts (c := (Try.f9.body.get rfl)) rfl cok_laws_FnShifts (by kernel_rfl) (gl_laws_FnShifts k q) (by kernel_rfl) rfl (fun vs m r hl h => match vs, hl with
    | [t0, t3, t4, t5, t6, t7, t8, t13, t14], _ => (le_laws_FnShifts_1 k q t0 t3 t4 t5 t6 t7 t8 t13 t14 m).trans h)
  | _ + 1, _ + 2, h => absurd h (by omega)
theorem ok_X_laws_FnShifts : OkX CT 9 X_laws_FnShifts := OkX.of_ex (cf := cf_laws_FnShifts) (np := 1) (LL := LL_laws_FnShifts) (J := (fun k => J_laws_FnShifts k QQ)) CT_ok rfl Try.func9 rfl (Nat.le_of_ble_eq_true rfl) (by decide) cok_laws_FnShifts okc_laws_FnShifts (fun k => allLoops rfl (by kernel_rfl) (gl_laws_FnShifts k QQ)) (fun args m r h => match args, h with
    | [t0], h => ⟨rfl, (xe_laws_FnShifts t0 m).trans h⟩)
theorem ok_C_laws_FnShifts : OkC CT 9 C_laws_FnShifts := fcall_ok rfl ok_X_laws_FnShifts

end Go.Ab
