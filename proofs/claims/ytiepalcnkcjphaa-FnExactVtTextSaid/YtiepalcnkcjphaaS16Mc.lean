/- What the functions of the program answer, for all arguments that the theorems name as conditions. -/
import Derived.Test.YtiepalcnkcjphaaS16Mb
import Derived.Test.YtiepalcnkcjphaaS16Ma
import Derived.Test.YtiepalcnkcjphaaFC
set_option linter.unusedVariables false
set_option linter.unusedSimpArgs false
namespace Go.Ab
open Go.Proofs
set_option maxHeartbeats 4000000
set_option maxRecDepth 100000
noncomputable def cf_laws_FnExactVtText : CallF := cfc 4 C_laws_szVt (cfc 5 C_spec_VtText (cfc 6 C_laws_toVt (cfc 7 C_impl_VtText (cfc 8 C_laws_eqTextResult (cfc 9 C_laws_eqVt cfn)))))
noncomputable def X_laws_FnExactVtText : List Value → Mem → Option VM
  | [t0], m =>
    (boxX m t0) |> bo fun r1 =>
    (ldS r1.2 27 r1.1) |> bo fun t7 =>
    (C_laws_szVt [t7, (.int .i64 1048576)] r1.2) |> bo fun r3 =>
    (binX .lss .no r3.1 (.int .i64 0)) |> bo fun t11 =>
    brX t11
      (
        retK m.length r3.2 [t0] (.bool true))
      (
        (ldS r3.2 27 r1.1) |> bo fun t12 =>
        (C_laws_toVt [t12] r3.2) |> bo fun r6 =>
        (C_spec_VtText [r6.1] r6.2) |> bo fun r7 =>
        (alX r7.2 [.int .i64 0, .string .empty]) |> bo fun r8 =>
        (stX r8.2 2 r8.1 r7.1) |> bo fun m9 =>
        (ldS m9 27 r1.1) |> bo fun t15 =>
        (C_laws_toVt [t15] m9) |> bo fun r11 =>
        (alX r11.2 [.int .i64 0, .int .i64 0, .int .i64 0, .int .i64 0, .int .i64 0, .bool false, .slice none 0 0, .int .i64 0, .int .i64 0, .slice none 0 0, .slice none 0 0, .int .i64 0, .int .i64 0, .bool false, .int .i64 0, .int .i64 0, .int .i64 0, .bool false, .bool false, .bool false, .slice none 0 0, .int .i64 0, .int .i64 0, .int .i64 0, .slice none 0 0, .int .i64 0, .int .i64 0]) |> bo fun r12 =>
        (stX r12.2 27 r12.1 r11.1) |> bo fun m13 =>
        (ldS m13 27 r12.1) |> bo fun t17 =>
        (C_impl_VtText [t17] m13) |> bo fun r15 =>
        (alX r15.2 [.int .i64 0, .string .empty]) |> bo fun r16 =>
        (stX r16.2 2 r16.1 r15.1) |> bo fun m17 =>
        (ldS m17 2 r16.1) |> bo fun t19 =>
        (ldS m17 2 r8.1) |> bo fun t20 =>
        (C_laws_eqTextResult [t19, t20] m17) |> bo fun r20 =>
        (uop .not r20.1) |> bo fun t22 =>
        brX t22
          (
            retK m.length r20.2 [t0] (.bool false))
          (
            (ldS r20.2 27 r12.1) |> bo fun t23 =>
            (ldS r20.2 27 r1.1) |> bo fun t24 =>
            (C_laws_toVt [t24] r20.2) |> bo fun r24 =>
            (C_laws_eqVt [t23, r24.1] r24.2) |> bo fun r25 =>
            (uop .not r25.1) |> bo fun t27 =>
            gP (stbL [((rdN r12.1), r20.2, r24.2)])
              (
                brX t27
                  (
                    retK m.length r25.2 [t0] (.bool false))
                  (
                    retK m.length r25.2 [t0] (.bool true)))))
  | _, _ => none
noncomputable def C_laws_FnExactVtText : List Value → Mem → Option VM := fcall X_laws_FnExactVtText
@[simp] theorem c_laws_FnExactVtText : C_laws_FnExactVtText = fcall X_laws_FnExactVtText := (rfl)
theorem cok_laws_FnExactVtText : codeOk CT Try.f3 (Try.f3.body.get rfl) = true := by kernel_rfl
theorem xe_laws_FnExactVtText (t0 : Value) (m : Mem) : ex CT cf_laws_FnExactVtText Try.f3 1 m.length [] (fun _ _ _ => none) 400 [.code (Try.f3.body.get rfl)] (argsT 0 [t0]) m = X_laws_FnExactVtText [t0] m := by kernel_rfl
theorem okc_laws_FnExactVtText : CallOK CT cf_laws_FnExactVtText := cfc_ok ok_C_laws_szVt (cfc_ok ok_C_spec_VtText (cfc_ok ok_C_laws_toVt (cfc_ok ok_C_impl_VtText (cfc_ok ok_C_laws_eqTextResult (cfc_ok ok_C_laws_eqVt cfn_ok)))))
theorem ok_X_laws_FnExactVtText : OkX CT 3 X_laws_FnExactVtText := OkX.of_ex (cf := cf_laws_FnExactVtText) (np := 1) (LL := []) (J := (fun _ _ _ _ => none)) CT_ok rfl Try.func3 rfl (Nat.le_of_ble_eq_true rfl) (by decide) cok_laws_FnExactVtText okc_laws_FnExactVtText (fun k => noLoops rfl) (fun args m r h => match args, h with
    | [t0], h => ⟨rfl, (xe_laws_FnExactVtText t0 m).trans h⟩)
end Go.Ab
namespace Go.Ab
open Go.Proofs
set_option maxHeartbeats 4000000
theorem typed_i64 {i : Nat} {a : Value} (h : Typed CT i [a]) (hi : (CT.ty i).d = .int .i64) : ∃ n : Int, a = .int .i64 n ∧ wfI .i64 n := typed_int h hi
theorem typed_cell {c i : Nat} {x : List Value} (h : Typed CT c x) (hl : x.length = (CT.ty c).size) (hc : (CT.ty c).d = .struct [(0, i), (1, i)]) (hi : (CT.ty i).d = .int .i64) (hs : (CT.ty c).size = 2) (hz : (CT.ty i).size = 1) : ∃ y : CellT, x = eC.f y ∧ wfI .i64 y.c ∧ wfI .i64 y.a := by
  obtain ⟨h1, h2⟩ := typed_struct h hc
  rw [hs] at hl
  match x, hl, h2 with
  | [a, b], _, h2 =>
    have q1 := h2 (0, i) (by simp)
    have q2 := h2 (1, i) (by simp)
    rw [hz] at q1 q2
    obtain ⟨n, rfl, n1⟩ := typed_i64 q1 hi
    obtain ⟨m, rfl, m1⟩ := typed_i64 q2 hi
    exact ⟨⟨n, m⟩, rfl, n1, m1⟩
theorem typed_cells {s c i : Nat} {a : Value} (h : Typed CT s [a]) (hs : (CT.ty s).d = .slice c) (hc : (CT.ty c).d = .struct [(0, i), (1, i)]) (hi : (CT.ty i).d = .int .i64) (hz : (CT.ty c).size = 2) (hz' : (CT.ty i).size = 1) : ∃ l : List CellT, a = frS eC l ∧ l.length ≤ 9223372036854775807 ∧ ∀ y ∈ l, wfI .i64 y.c ∧ wfI .i64 y.a :=
  typed_enc eC h hs fun x h1 h2 => typed_cell h1 h2 hc hi hz hz'
def GridT.wf (g : GridT) : Prop := wfI .i64 g.r ∧ wfI .i64 g.w ∧ (∀ y ∈ g.cs, wfI .i64 y.c ∧ wfI .i64 y.a) ∧ (∀ y ∈ g.bk, wfI .i64 y.c ∧ wfI .i64 y.a)
theorem typed_gridL {a b c d : Value} (h : Typed CT 29 [a, b, c, d]) : ∃ g : GridT, a = .int .i64 g.r ∧ b = .int .i64 g.w ∧ c = frS eC g.cs ∧ d = frS eC g.bk ∧ g.fit ∧ g.wf := by
  obtain ⟨h1, h2⟩ := typed_struct h rfl
  obtain ⟨r, rfl, r1⟩ := typed_i64 (h2 (0, 2) (by simp)) rfl
  obtain ⟨w, rfl, w1⟩ := typed_i64 (h2 (1, 2) (by simp)) rfl
  obtain ⟨l, rfl, l1, l2⟩ := typed_cells (h2 (2, 27) (by simp)) rfl rfl rfl rfl rfl
  obtain ⟨k, rfl, k1, k2⟩ := typed_cells (h2 (3, 27) (by simp)) rfl rfl rfl rfl rfl
  exact ⟨⟨r, w, l, k⟩, rfl, rfl, rfl, rfl, ⟨l1, k1⟩, r1, w1, l2, k2⟩
end Go.Ab
namespace Go.Ab
open Go.Proofs
set_option maxHeartbeats 4000000
theorem typed_i64s {s i : Nat} {a : Value} (h : Typed CT s [a]) (hs : (CT.ty s).d = .slice i) (hi : (CT.ty i).d = .int .i64) (hz : (CT.ty i).size = 1) : ∃ l : List Int, a = frS eI6 l ∧ l.length ≤ 9223372036854775807 ∧ ∀ y ∈ l, wfI .i64 y :=
  typed_enc eI6 h hs fun x h1 h2 => by
    rw [hz] at h2
    match x, h2 with
    | [a], _ =>
      obtain ⟨n, rfl, hn⟩ := typed_i64 h1 hi
      exact ⟨n, rfl, hn⟩
theorem typed_bools {s i : Nat} {a : Value} (h : Typed CT s [a]) (hs : (CT.ty s).d = .slice i) (hi : (CT.ty i).d = .bool) (hz : (CT.ty i).size = 1) : ∃ l : List Bool, a = frS eB l ∧ l.length ≤ 9223372036854775807 ∧ ∀ y ∈ l, True :=
  typed_enc eB h hs fun x h1 h2 => by
    rw [hz] at h2
    match x, h2 with
    | [a], _ =>
      obtain ⟨n, rfl⟩ := typed_bool h1 hi
      exact ⟨n, rfl, trivial⟩
theorem typed_screenL {cs : List Value} (h : Typed CT 32 cs) : ∃ s : ScrT, cs = scrL s (frS eC s.g.cs) (frS eC s.g.bk) (frS eB s.tabs) (frS eI6 s.sets) ∧ s.fit ∧ s.g.wf := by
  obtain ⟨h1, h2⟩ := typed_struct h rfl
  match cs, h1, h2 with
  | [a0, a1, a2, a3, a4, a5, a6, a7, a8, a9, a10, a11, a12, a13, a14, a15, a16, a17, a18, a19], _, h2 =>
    obtain ⟨g, rfl, rfl, rfl, rfl, gf, gw⟩ := typed_gridL (h2 (0, 29) (by simp))
    obtain ⟨x4, rfl, _⟩ := typed_i64 (h2 (4, 2) (by simp)) rfl
    obtain ⟨x5, rfl, _⟩ := typed_i64 (h2 (5, 2) (by simp)) rfl
    obtain ⟨x6, rfl⟩ := typed_bool (h2 (6, 4) (by simp)) rfl
    obtain ⟨x7, rfl, _⟩ := typed_i64 (h2 (7, 2) (by simp)) rfl
    obtain ⟨x8, rfl, _⟩ := typed_i64 (h2 (8, 2) (by simp)) rfl
    obtain ⟨x9, rfl, _⟩ := typed_i64 (h2 (9, 2) (by simp)) rfl
    obtain ⟨x10, rfl⟩ := typed_bool (h2 (10, 4) (by simp)) rfl
    obtain ⟨x11, rfl⟩ := typed_bool (h2 (11, 4) (by simp)) rfl
    obtain ⟨x12, rfl⟩ := typed_bool (h2 (12, 4) (by simp)) rfl
    obtain ⟨x13, rfl, f13, _⟩ := typed_bools (h2 (13, 30) (by simp)) rfl rfl rfl
    obtain ⟨x14, rfl, _⟩ := typed_i64 (h2 (14, 2) (by simp)) rfl
    obtain ⟨x15, rfl, _⟩ := typed_i64 (h2 (15, 2) (by simp)) rfl
    obtain ⟨x16, rfl, _⟩ := typed_i64 (h2 (16, 2) (by simp)) rfl
    obtain ⟨x17, rfl, f17, _⟩ := typed_i64s (h2 (17, 24) (by simp)) rfl rfl rfl
    obtain ⟨x18, rfl, _⟩ := typed_i64 (h2 (18, 2) (by simp)) rfl
    obtain ⟨x19, rfl, _⟩ := typed_i64 (h2 (19, 2) (by simp)) rfl
    exact ⟨⟨g, x4, x5, x6, x7, x8, x9, x10, x11, x12, x13, x14, x15, x16, x17, x18, x19⟩, rfl, ⟨gf, f13, f17⟩, gw⟩
def good : List Nat := [2, 4, 5, 23, 24, 26, 27, 29, 30, 32, 34, 118]
theorem good_ok : goodB CT good = true := by kernel_rfl
end Go.Ab
namespace Go.Ab
open Go.Proofs
set_option maxHeartbeats 4000000
theorem typed_decL {cs : List Value} (h : Typed CT 23 cs) : ∃ d : DecT, cs = [.int .i64 d.l, .int .i64 d.o, .int .i64 d.v] := by
  obtain ⟨h1, h2⟩ := typed_struct h rfl
  match cs, h1, h2 with
  | [a0, a1, a2], _, h2 =>
    obtain ⟨x0, rfl, _⟩ := typed_i64 (h2 (0, 2) (by simp)) rfl
    obtain ⟨x1, rfl, _⟩ := typed_i64 (h2 (1, 2) (by simp)) rfl
    obtain ⟨x2, rfl, _⟩ := typed_i64 (h2 (2, 2) (by simp)) rfl
    exact ⟨⟨x0, x1, x2⟩, rfl⟩
theorem typed_parL {cs : List Value} (h : Typed CT 26 cs) : ∃ p : ParT, cs = [.int .i64 p.k, .int .i64 p.s, .bool p.lead, frS eI6 p.ns] ∧ p.ns.length ≤ 9223372036854775807 := by
  obtain ⟨h1, h2⟩ := typed_struct h rfl
  match cs, h1, h2 with
  | [a0, a1, a2, a3], _, h2 =>
    obtain ⟨x0, rfl, _⟩ := typed_i64 (h2 (0, 2) (by simp)) rfl
    obtain ⟨x1, rfl, _⟩ := typed_i64 (h2 (1, 2) (by simp)) rfl
    obtain ⟨x2, rfl⟩ := typed_bool (h2 (2, 4) (by simp)) rfl
    obtain ⟨x3, rfl, f3, _⟩ := typed_i64s (h2 (3, 24) (by simp)) rfl rfl rfl
    exact ⟨⟨x0, x1, x2, x3⟩, rfl, f3⟩
theorem typed_vtL {cs : List Value} (h : Typed CT 34 cs) : ∃ v : VtT, cs = vtL v (frS eI6 v.p.ns) (frS eC v.s.g.cs) (frS eC v.s.g.bk) (frS eB v.s.tabs) (frS eI6 v.s.sets) ∧ v.fit := by
  obtain ⟨h1, h2⟩ := typed_struct h rfl
  obtain ⟨d, e1⟩ := typed_decL (h2 (0, 23) (by simp))
  obtain ⟨p, e2, f2⟩ := typed_parL (h2 (3, 26) (by simp))
  obtain ⟨s, e3, f3, _⟩ := typed_screenL (h2 (7, 32) (by simp))
  refine ⟨⟨d, p, s⟩, ?_, f2, f3⟩
  match cs, h1 with
  | [a0, a1, a2, a3, a4, a5, a6, a7, a8, a9, a10, a11, a12, a13, a14, a15, a16, a17, a18, a19, a20, a21, a22, a23, a24, a25, a26], _ =>
    have q1 : [a0, a1, a2] = _ := e1
    have q2 : [a3, a4, a5, a6] = _ := e2
    have q3 : [a7, a8, a9, a10, a11, a12, a13, a14, a15, a16, a17, a18, a19, a20, a21, a22, a23, a24, a25, a26] = _ := e3
    show [a0, a1, a2] ++ ([a3, a4, a5, a6] ++ [a7, a8, a9, a10, a11, a12, a13, a14, a15, a16, a17, a18, a19, a20, a21, a22, a23, a24, a25, a26]) = _
    rw [q1, q2, q3]
    rfl
theorem typed_vt {a : Value} (h : TypedV CT 34 a) : ∃ v : VtT, a = vtV v ∧ v.fit := by
  obtain ⟨cs, rfl, h⟩ : ∃ cs : Array Value, a = .agg cs ∧ Typed CT 34 cs.toList := h
  obtain ⟨v, e, h1⟩ := typed_vtL h
  obtain ⟨cs⟩ := cs
  exact ⟨v, by rw [show cs = _ from e], h1⟩
end Go.Ab
namespace Go.Ab
set_option maxHeartbeats 4000000
theorem s_FnExactVtText (s : VtT) (hs : s.fit) : X_laws_FnExactVtText [vtV s] [] = some (.bool true, []) := by
  have c0 := s_szVt s 1048576 hs (by omega) (by omega)
  by_cases h0 : s.szl 1048576 < 0
  · simp (maxSteps := 2000000) +contextual -implicitDefEqProofs [X_laws_FnExactVtText, retK_eq, c0, h0]
  · have h := szv_small (by omega) h0
    have c1 := s_toVt s h
    have c2 := s_spec_VtText s h
    have c3 := s_impl_VtText s h
    have c4 := s_eqVt s h
    obtain ⟨a, t, hr⟩ : ∃ (a : Int) (t : ByteArray), resV s = .agg #[.int .i64 a, .string t] := by
      unfold resV
      split
      · exact ⟨_, _, rfl⟩
      · exact ⟨_, _, rfl⟩
    have c5 := s_eqTextResult a t
    rw [hr] at c2 c3
    simp (maxSteps := 2000000) +contextual -implicitDefEqProofs [X_laws_FnExactVtText, retK_eq, c0, h0, c1, c2, c3, c4, c5]
theorem all_FnExactVtText : ∀ xs, TypedAll CT [34] xs → Fz CT 3 xs (.bool true)
  | [a], h => by
    obtain ⟨s, rfl, hs⟩ := typed_vt h.1
    exact fz_law ok_X_laws_FnExactVtText (s_FnExactVtText s hs) (by simp)
  | [], h => h.elim
  | _ :: _ :: _, h => h.2.elim
end Go.Ab
