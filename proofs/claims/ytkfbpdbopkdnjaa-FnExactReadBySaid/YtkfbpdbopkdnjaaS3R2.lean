/- What the functions of the program answer, for all arguments that the theorems name as conditions. -/
import Derived.Test.YtkfbpdbopkdnjaaS3R1
namespace Go.Ab
set_option linter.unusedSimpArgs false
set_option linter.unusedVariables false
set_option maxHeartbeats 8000000

theorem flat_nil (n : Nat) : (List.replicate n [Value.slice none 0 0]).flatten = List.replicate n (.slice none 0 0) := by
  induction n with
  | zero => rfl
  | succ n ih => rw [List.replicate_succ, List.flatten_cons, ih, List.replicate_succ]; rfl
abbrev memA (k : Nat) (l : List (List Int)) : Mem := famB k 1 (l.map elS) :: famM eU8 (l.map elS)
theorem memS_0 (l : List (List Int)) : memS l 0 = memA 1 l := by
  unfold memS
  rw [List.replicate_zero, List.append_nil]
theorem s_toByteSS (l : List (List Int)) (hl : l.length < 1100000) (hb : ∀ x ∈ l, x.length < 1000000000) : X_laws_toByteSS [frS eBS l] [] = some (slO 0 l.length, memS l 0) := by
  have h := l_toByteSS l [] QQ l.length (by unfold QQ; omega) rfl hl hb
  have hcut := fun pv J => cut0_fam eU8 (s := 1) (n := l.length) (c := l.length) (es := [].map elS ++ List.replicate l.length elZ) (xs := [frS eBS l]) (ys := [.int .i64 0]) (pv := pv) (J := J) rfl rfl (ok_S [] l.length) (by rw [N_S]; simp)
  simp only [memS, famB, List.map_nil, List.nil_append, famX_zero_rep, famM_Z, List.singleton_append, List.length_nil, Int.natCast_zero] at h hcut
  have hf := flat_nil l.length
  simp at h
  rw [memS_0]
  simp (maxSteps := 400000) -implicitDefEqProofs [X_laws_toByteSS, hf, hcut, hl, show l.length < 1000000000 by omega]
  exact h
theorem ok_A (l : List (List Int)) : ∀ e ∈ l.map elS, e.ok eU8 := by
  have := ok_S l 0
  rwa [List.replicate_zero, List.append_nil] at this
theorem okH_A (l : List (List Int)) : ∀ e ∈ l.map elS, e.okH := by
  intro e he
  obtain ⟨x, _, rfl⟩ := List.mem_map.1 he
  exact ⟨rfl, rfl⟩
theorem fro_A (l : List (List Int)) : roS (l.map elS).length ((l.map elS).flatMap (El.fro eU8)) = frS eBS l := by
  rw [List.length_map]
  unfold frS
  congr 1
  induction l with
  | nil => rfl
  | cons x r ih => rw [List.map_cons, List.flatMap_cons, ih]; rfl
theorem fz_A (k c : Nat) (A B : Mem) (l : List (List Int)) : fz (k + 3) (A ++ (famB (A.length + 1) 1 (l.map elS) :: (famM eU8 (l.map elS) ++ B))) (.slice (some ⟨A.length, 0, none⟩) l.length c) = some (frS eBS l) := by
  have := fz_all eU8 (k := k) (s := 1) (c := c) A B (l.map elS) (ok_A l) (fun e he => by
    obtain ⟨x, _, rfl⟩ := List.mem_map.1 he
    rfl)
  rw [fro_A, List.length_map] at this
  exact this
theorem f_toByteSS (l : List (List Int)) (hl : l.length < 1100000) (hb : ∀ x ∈ l, x.length < 1000000000) (m : Mem) : fcall X_laws_toByteSS [frS eBS l] m = some (slO m.length l.length, m ++ memA (m.length + 1) l) := by
  have h := s_toByteSS l hl hb
  rw [memS_0] at h
  exact fcall_fam eU8 eU8_hard (by rfl) h (ok_A l) (okH_A l)
end Go.Ab
