/- What the functions of the program answer, for all arguments that the theorems name as conditions. -/
import Derived.Test.YtelkckbbelillaaXFnExactNewMux
import Derived.Test.YtelkckbbelillaaFC
namespace Go.Ab
set_option linter.unusedSimpArgs false
set_option linter.unusedVariables false
set_option maxHeartbeats 400000
set_option maxRecDepth 1000000

/-! ## A new screen, without the question whether a box stayed -/
theorem isTab_int (n : Int) : X_impl_isTab [.int .i64 n] [] = some (.bool (decide (0 < n) && (n.tmod 8 == 0)), []) := by
  by_cases h : 0 < n <;> simp -implicitDefEqProofs [X_impl_isTab, retK_eq, h]
theorem gt_none {v : Value} (h : ∀ n, v ≠ .int .i64 n) : binX .gtr .no v (.int .i64 0) = none := by
  cases v with
  | int k n =>
    cases k with
    | i64 => exact absurd rfl (h n)
    | _ => simp [binX, isShift]
  | _ => rfl
theorem fz_int_inv {k : Nat} {m : Mem} {t : Value} {q : IntKind} {n : Int} (h : fz (k + 1) m t = some (.int q n)) : t = .int q n := by
  unfold fz at h
  split at h
  · obtain ⟨_, _, e⟩ := ob_eq h; cases e
  · obtain ⟨_, _, e⟩ := ob_eq h; cases e
  · cases h
  · split at h
    · cases h
    · split at h
      · split at h
        · obtain ⟨_, _, e⟩ := ob_eq h
          obtain ⟨_, _, e⟩ := ob_eq e
          cases e
        · cases h
      · cases h
  · split at h
    · split at h
      · obtain ⟨_, _, e⟩ := ob_eq h; cases e
      · cases h
    · cases h
  · cases h
  · split at h <;> cases h
  · cases h
  · cases h; rfl
  · cases h
  · cases h
  · cases h
  · cases h
theorem isTab_mem {t : Value} {m : Mem} {r : VM} (h : C_impl_isTab [t] m = some r) : r.2 = m := by
  by_cases ht : ∃ n, t = .int .i64 n
  · obtain ⟨n, rfl⟩ := ht
    simp -implicitDefEqProofs [isTab_int] at h
    rw [← h]
  · exfalso
    rw [c_impl_isTab, fcall_eq] at h
    cases hf : mapO (fz 64 m) [t] with
    | none => rw [hf] at h; cases h
    | some l =>
      rw [hf, bo_some] at h
      obtain ⟨y, e1, e2⟩ := ob_eq hf
      obtain ⟨zs, e3, e4⟩ := ob_eq e2
      cases e3
      cases e4
      have hy : ∀ n, y ≠ .int .i64 n := fun n e => ht ⟨n, fz_int_inv (e ▸ e1)⟩
      have : X_impl_isTab [y] [] = none := by
        show bo _ (binX .gtr .no y (.int .i64 0)) = none
        rw [gt_none hy]
        rfl
      rw [this] at h
      cases h
noncomputable def LY (k : Nat) : Nat → Nat → List Value → Mem → Option VM
  | q + 1, 0, [t4, t5, t14, t15], m =>
    (binX .lss .no t15 t14) |> bo fun t16 =>
    brX t16
      (
        (fadX 13 t5) |> bo fun t18 =>
        (ld1 m t18) |> bo fun t19 =>
        (C_impl_isTab [t15] m) |> bo fun r4 =>
        (bslX r4.2 1 1 [.bool false] [(0, 1, r4.1)]) |> bo fun r5 =>
        (apL r5.2 1 1 t19 r5.1) |> bo fun r6 =>
        (fadX 13 t5) |> bo fun t24 =>
        (stX r6.2 1 t24 r6.1) |> bo fun m8 =>
            (binX .add .no t15 (.int .i64 1)) |> bo fun t25 =>
            cutK k m8 [] [t4, t5, t14, t25] (LY k q 0))
      (
        (ldS m 20 t5) |> bo fun t26 =>
        (stX m 20 t4 t26) |> bo fun m11 =>
        (resP (some 20) m11 t4) |> bo fun c12 =>
        retK k m11 [] c12)
  | _, _, _, _ => none
theorem LY_eq (k : Nat) : ∀ q i vs m, L_impl_newScreen k q i vs m = LY k q i vs m := by
  intro q
  induction q with
  | zero => intro i vs m; rfl
  | succ q ih =>
    intro i vs m
    have hf : L_impl_newScreen k q 0 = LY k q 0 := funext fun vs => funext fun m => ih 0 vs m
    match i, vs with
    | 0, [t4, t5, t14, t15] =>
      simp only [L_impl_newScreen, LY, hf]
      congr 1
      funext t16
      congr 1
      congr 1
      funext t18
      congr 1
      funext t19
      cases h : C_impl_isTab [t15] m with
      | none => rfl
      | some r4 =>
        have hm := isTab_mem h
        have hp : ∀ n, stbL [(n, m, r4.2)] := fun n => by
          rw [hm]
          exact ⟨by unfold stb; split <;> simp, trivial⟩
        simp only [bo_some, gP_pos (hp _)]
    | 0, [] => rfl
    | 0, [_] => rfl
    | 0, [_, _] => rfl
    | 0, [_, _, _] => rfl
    | 0, _ :: _ :: _ :: _ :: _ :: _ => rfl
    | _ + 1, _ => rfl
noncomputable def Y_impl_newScreen : List Value → Mem → Option VM
  | [t0, t1], m =>
    (alX m [.int .i64 0, .int .i64 0, .slice none 0 0, .slice none 0 0, .int .i64 0, .int .i64 0, .bool false, .int .i64 0, .int .i64 0, .int .i64 0, .bool false, .bool false, .bool false, .slice none 0 0, .int .i64 0, .int .i64 0, .int .i64 0, .slice none 0 0, .int .i64 0, .int .i64 0]) |> bo fun r1 =>
    (C_impl_newGrid [t0, t1] r1.2) |> bo fun r2 =>
    (binX .sub .no t0 (.int .i64 1)) |> bo fun t11 =>
    (bslX r2.2 2 1 [.int .i64 0] [(0, 1, (.int .i64 1)), (1, 1, (.int .i64 1))]) |> bo fun r4 =>
    (bldX [.int .i64 0, .int .i64 0, .slice none 0 0, .slice none 0 0, .int .i64 0, .int .i64 0, .bool false, .int .i64 0, .int .i64 0, .int .i64 0, .bool false, .bool false, .bool false, .slice none 0 0, .int .i64 0, .int .i64 0, .int .i64 0, .slice none 0 0, .int .i64 0, .int .i64 0] [(0, 4, r2.1), (9, 1, t11), (11, 1, (.bool true)), (17, 1, r4.1)]) |> bo fun t13 =>
    (alX r4.2 [.int .i64 0, .int .i64 0, .slice none 0 0, .slice none 0 0, .int .i64 0, .int .i64 0, .bool false, .int .i64 0, .int .i64 0, .int .i64 0, .bool false, .bool false, .bool false, .slice none 0 0, .int .i64 0, .int .i64 0, .int .i64 0, .slice none 0 0, .int .i64 0, .int .i64 0]) |> bo fun r6 =>
    (stX r6.2 20 r6.1 t13) |> bo fun m7 =>
    cutK m.length m7 [t0, t1] [r1.1, r6.1, t1, (.int .i64 0)] (LY m.length QQ 0)
  | _, _ => none
theorem y_impl_newScreen : C_impl_newScreen = fcall Y_impl_newScreen := by
  rw [c_impl_newScreen]
  refine congrArg fcall (funext fun vs => funext fun m => ?_)
  have hf : L_impl_newScreen m.length QQ 0 = LY m.length QQ 0 := funext fun vs => funext fun m' => LY_eq m.length QQ 0 vs m'
  match vs with
  | [t0, t1] => simp only [X_impl_newScreen, Y_impl_newScreen, hf]
  | [] => rfl
  | [_] => rfl
  | _ :: _ :: _ :: _ => rfl
def isT : Option VM → Bool
  | some (.bool true, []) => true
  | _ => false
theorem isT_eq {x : Option VM} (h : isT x = true) : x = some (.bool true, []) := by
  unfold isT at h
  split at h
  · rfl
  · cases h
end Go.Ab
