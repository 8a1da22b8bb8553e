/- What the functions of the program answer, for all arguments that the theorems name as conditions. -/
import Derived.Test.YtelkckbbelillaaS5U2
namespace Go.Ab
set_option linter.unusedSimpArgs false
set_option linter.unusedVariables false
set_option maxHeartbeats 4000000

abbrev rsA (s : ScrT) (rows v : Int) : List Value := [scrV s, .int .i64 rows, .int .i64 v]
abbrev srB (c : Int) : Value := .agg (.int .i64 c :: zS).toArray
abbrev srO (s : ScrT) (a b c d : Value) : Value := .agg (.int .i64 0 :: scrL s a b c d).toArray
theorem s_impl_ResizeScreen_bad (s : ScrT) (rows v : Int) (hs : s.small) (hf : ¬ faultS s = 0) : X_impl_ResizeScreen (rsA s rows v) [] = some (srB (faultS s), []) := by
  have c1 := s_impl_ScreenFault s hs
  have c2 : ∀ a b : Int, X_impl_first [roS 2 [.int .i64 a, .int .i64 b]] [] = some (.int .i64 (if a = 0 then b else a), []) := fun a b => s_impl_first a b
  simp (maxSteps := 1000000) -implicitDefEqProofs [X_impl_ResizeScreen, retK_eq, c1, s_impl_sizeOk, s_impl_unless, c2, hf]
theorem s_impl_ResizeScreen_3 (s : ScrT) (rows v : Int) (hs : s.small) (hf : faultS s = 0) (ho : szB rows v = false) : X_impl_ResizeScreen (rsA s rows v) [] = some (srB 3, []) := by
  have c1 := s_impl_ScreenFault s hs
  have c2 : ∀ a b : Int, X_impl_first [roS 2 [.int .i64 a, .int .i64 b]] [] = some (.int .i64 (if a = 0 then b else a), []) := fun a b => s_impl_first a b
  simp (maxSteps := 1000000) -implicitDefEqProofs [X_impl_ResizeScreen, retK_eq, c1, s_impl_sizeOk, s_impl_unless, c2, hf, ho, unl]
theorem s_impl_ResizeScreen (s : ScrT) (rows v : Int) (hs : s.small) (hf : faultS s = 0) (ho : szB rows v = true) : X_impl_ResizeScreen (rsA s rows v) [] = some (srO (rsS s rows v) (slQ 0 0 (reG s.g rows v).cs.length (reC s.g rows v).length) (slO 1 (reB s.g v).length) (slQ 2 0 v.toNat (s.tabs.length + (v.toNat - s.tabs.length))) (slO 3 s.sets.length), [ownB eC (reC s.g rows v), ownB eC (reB s.g v), ownB eB (s.tabs ++ tabL s.tabs.length (v.toNat - s.tabs.length)), ownB eI6 s.sets]) := by
  have c1 := s_impl_ScreenFault s hs
  have c2 : ∀ a b : Int, X_impl_first [roS 2 [.int .i64 a, .int .i64 b]] [] = some (.int .i64 (if a = 0 then b else a), []) := fun a b => s_impl_first a b
  have c3 := s_impl_Screen_resized s rows v hs hf ho
  generalize rsS s rows v = S at *
  generalize (reG s.g rows v).cs.length = nC at *
  generalize reC s.g rows v = RC at *
  generalize reB s.g v = RB at *
  generalize s.tabs ++ tabL s.tabs.length (v.toNat - s.tabs.length) = TB at *
  generalize s.tabs.length + (v.toNat - s.tabs.length) = cT at *
  simp (maxSteps := 1000000) -implicitDefEqProofs [X_impl_ResizeScreen, retK_eq, c1, s_impl_sizeOk, s_impl_unless, c2, hf, ho, unl, c3]
end Go.Ab
