/- What the functions of the program answer, for all arguments that the theorems name as conditions. -/
import Derived.Test.YtkfbpdbopkdnjaaS3R3
namespace Go.Ab
set_option linter.unusedSimpArgs false
set_option linter.unusedVariables false
set_option maxHeartbeats 8000000

structure EvT where
  k : Int
  w : Int
  n : Int
  b : Bool
  d : List Int
  m : Int
  w0 : Int
  w1 : Int
  w2 : Int
  w3 : Int
  w4 : Int
  w5 : Int
  w6 : Int
abbrev EvT.pre (e : EvT) : List Value := [.int .i64 e.k, .int .i64 e.w, .int .i64 e.n, .bool e.b]
abbrev EvT.post (e : EvT) : List Value := [.int .i64 e.m, .int .i64 e.w0, .int .i64 e.w1, .int .i64 e.w2, .int .i64 e.w3, .int .i64 e.w4, .int .i64 e.w5, .int .i64 e.w6]
def eEv : Enc EvT := ⟨13, fun e => e.pre ++ (frS eU8 e.d :: e.post), by decide, fun _ => rfl, fun _ => rfl⟩
abbrev evW (e : EvT) (v : Value) : Value := .agg #[.int .i64 e.k, .int .i64 e.w, .int .i64 e.n, .bool e.b, v, .int .i64 e.m, .int .i64 e.w0, .int .i64 e.w1, .int .i64 e.w2, .int .i64 e.w3, .int .i64 e.w4, .int .i64 e.w5, .int .i64 e.w6]
abbrev evV (e : EvT) : Value := evW e (frS eU8 e.d)
@[simp] theorem eEv_f (e : EvT) : eEv.f e = [.int .i64 e.k, .int .i64 e.w, .int .i64 e.n, .bool e.b, frS eU8 e.d, .int .i64 e.m, .int .i64 e.w0, .int .i64 e.w1, .int .i64 e.w2, .int .i64 e.w3, .int .i64 e.w4, .int .i64 e.w5, .int .i64 e.w6] := (rfl)
@[simp] theorem eEv_sz : eEv.sz = 13 := (rfl)
instance : Inhabited EvT := ⟨⟨0, 0, 0, false, [], 0, 0, 0, 0, 0, 0, 0, 0⟩⟩
theorem s_toWay (a b c d e f g : Int) : X_laws_toWay [.agg #[.int .i64 a, .int .i64 b, .int .i64 c, .int .i64 d, .int .i64 e, .int .i64 f, .int .i64 g]] [] = some (.agg #[.int .i64 a, .int .i64 b, .int .i64 c, .int .i64 d, .int .i64 e, .int .i64 f, .int .i64 g], []) := by
  simp (maxSteps := 400000) -implicitDefEqProofs [X_laws_toWay, retK_eq]
theorem s_toEvent (e : EvT) (h : e.d.length < 1000000000) : X_laws_toEvent [evV e] [] = some (evW e (slO 0 e.d.length), [ownB eU8 e.d]) := by
  have h1 := s_toByteS e.d h
  have h2 := s_toWay
  simp (maxSteps := 1000000) -implicitDefEqProofs [X_laws_toEvent, retK_eq, h1, h2]
def elE (e : EvT) : El Int := ⟨e.pre, .ow [] e.d [] 0 e.d.length, e.post⟩
def elZE : El Int := ⟨[.int .i64 0, .int .i64 0, .int .i64 0, .bool false], .no (.slice none 0 0), [.int .i64 0, .int .i64 0, .int .i64 0, .int .i64 0, .int .i64 0, .int .i64 0, .int .i64 0, .int .i64 0]⟩
theorem elE_ok (e : EvT) : (elE e).ok eU8 := ⟨rfl, rfl, fun _ => rfl⟩
theorem elZE_ok : elZE.ok eU8 := ⟨rfl, rfl, .inl rfl⟩
end Go.Ab
