/- What the functions of the program answer, for all arguments that the theorems name as conditions. -/
import Derived.Test.YtkfbpdbopkdnjaaS3RC
import Derived.Test.YtkfbpdbopkdnjaaFD
namespace Go.Ab
set_option linter.unusedSimpArgs false
set_option linter.unusedVariables false
set_option maxHeartbeats 40000000

/-! ## FnExactReadBy: the copies as things -/
theorem can_A (l : List (List Int)) (hl : l.length < 4000000) : Can (slO 0 l.length) (memA 1 l) := can_fam eU8 (ok_A l) (by rw [elS_N]; omega)
theorem hd_A (l : List (List Int)) : HdM (memA 1 l) := hd_fam eU8 eU8_hard (ok_A l) (okH_A l)
theorem fzc_A (l : List (List Int)) : fz 64 (memA 1 l) (slO 0 l.length) = some (frS eBS l) := by
  have := fz_A 61 l.length [] [] l
  simpa using this
theorem can_AE (l : List EvT) (hl : l.length < 4000000) : Can (slO 0 l.length) (memAE 1 l) := can_fam eU8 (ok_AE l) (by rw [elE_N]; omega)
theorem hd_AE (l : List EvT) : HdM (memAE 1 l) := hd_fam eU8 eU8_hard (ok_AE l) (okH_AE l)
theorem fzc_AE (l : List EvT) : fz 64 (memAE 1 l) (slO 0 l.length) = some (frS eEv l) := by
  have := fz_AE 61 l.length [] [] l
  simpa using this
theorem rnh_slO (N K n : Nat) (h : 0 < K) : rnV 8 hard (sft N K) (slO 0 n) = some (slO N n) := by
  simp [h]
/-- Copies of events, of slices of bytes, at any memory. -/
theorem n_toEventS (l : List EvT) (hl : l.length < 1100000) (hb : ∀ x ∈ l, x.d.length < 1000000000) (m : Mem) : ∃ k m', k = m.length ∧ fcall X_laws_toEventS [frS eEv l] m = some (slO k l.length, m') ∧ m'.length = m.length + (memAE 1 l).length ∧ (∀ n, n < m.length → m'[n]? = m[n]?) ∧ Has m' (slO k l.length) (List.range' k (memAE 1 l).length) (slO 0 l.length) (memAE 1 l) :=
  Has.new (fr := [frS eEv l]) (F := fun k => slO k l.length) rfl (s_toEventS l hl hb) (can_AE l (by omega)) (hd_AE l) (fun N => rnh_slO N _ _ (by simp))
theorem n_toByteSS (l : List (List Int)) (hl : l.length < 1100000) (hb : ∀ x ∈ l, x.length < 1000000000) (m : Mem) : ∃ k m', k = m.length ∧ fcall X_laws_toByteSS [frS eBS l] m = some (slO k l.length, m') ∧ m'.length = m.length + (memA 1 l).length ∧ (∀ n, n < m.length → m'[n]? = m[n]?) ∧ Has m' (slO k l.length) (List.range' k (memA 1 l).length) (slO 0 l.length) (memA 1 l) :=
  Has.new (fr := [frS eBS l]) (F := fun k => slO k l.length) rfl (by rw [s_toByteSS l hl hb, memS_0]) (can_A l (by omega)) (hd_A l) (fun N => rnh_slO N _ _ (by simp))
theorem f_szEventS (l : List EvT) (left : Int) (hl : l.length ≤ 9223372036854775807) (hb : ∀ x ∈ l, x.d.length ≤ 9223372036854775807) (h0 : 0 ≤ left) (h1 : left ≤ 1048576) (m : Mem) : fcall X_laws_szEventS [frS eEv l, .int .i64 left] m = some (.int .i64 (szES l left), m) :=
  f_ask (mapO2 rfl rfl) (s_szEventS l left hl hb h0 h1) rfl
theorem f_szByteSS (l : List (List Int)) (left : Int) (hl : l.length ≤ 9223372036854775807) (hb : ∀ x ∈ l, x.length ≤ 9223372036854775807) (h0 : 0 ≤ left) (h1 : left ≤ 1048576) (m : Mem) : fcall X_laws_szByteSS [frS eBS l, .int .i64 left] m = some (.int .i64 (szSS l left), m) :=
  f_ask (mapO2 rfl rfl) (s_szByteSS l left hl hb h0 h1) rfl
theorem szN_val {n : Nat} {x : Int} (h : ¬ szN n x < 0) : szN n x = x - n := by
  unfold szN at *
  split at h
  · omega
  · rename_i h1; rw [if_neg h1]
theorem szES_small {l : List EvT} {x : Int} (hx : x ≤ 1048576) (h : 0 ≤ szES l x) : szES l x ≤ x ∧ l.length ≤ 1048576 ∧ (∀ e ∈ l, e.d.length < 1000000000) ∧ upES 1 l ≤ 100000000 := by
  unfold szES at *
  have h0 : ¬ szN l.length x < 0 := fun c => by rw [if_pos c] at h; omega
  rw [if_neg h0] at h ⊢
  have h1 := szL_le _ _ h
  have h2 := szL_upE l _ 1 h
  have h3 := szN_val h0
  refine ⟨by omega, by omega, fun e he => ?_, by omega⟩
  have := h1.2 e.d.length (List.mem_map.2 ⟨e, he, rfl⟩)
  omega
theorem sumL_up (l : List (List Int)) : ∀ t : Int, upSS t l = t + sumL l := by
  induction l with
  | nil => intro t; simp [upSS, sumL]
  | cons x r ih => intro t; rw [upSS, ih, sumL]; push_cast; omega
theorem szSS_small {l : List (List Int)} {x : Int} (hx : x ≤ 1048576) (h : 0 ≤ szSS l x) : szSS l x ≤ x ∧ l.length ≤ 1048576 ∧ (∀ e ∈ l, e.length < 1000000000) ∧ sumL l < 100000000 := by
  unfold szSS at *
  have h0 : ¬ szN l.length x < 0 := fun c => by rw [if_pos c] at h; omega
  rw [if_neg h0] at h ⊢
  have h1 := szL_le _ _ h
  have h2 := szL_up l _ 1 h
  have h3 := szN_val h0
  rw [sumL_up] at h2
  refine ⟨by omega, by omega, fun e he => ?_, by omega⟩
  have := h1.2 e.length (List.mem_map.2 ⟨e, he, rfl⟩)
  omega
theorem readL_len (who : Int) : ∀ (l : List EvT) (rd : List (List Int)), (readL who l rd).length ≤ sumL rd
  | [], rd => by simp [readL]
  | e :: l, [] => by simp [readL]
  | e :: l, b :: rd => by
    have := readL_len who l rd
    rw [readL, sumL, List.length_append]
    split <;> simp <;> omega
/-! ### Results with bytes -/
abbrev brO (c : Int) (k n : Nat) : Value := .agg #[.int .i64 c, slO k n]
theorem can_br (c : Int) (l : List Int) : Can (brO c 0 l.length) [ownB eU8 l] := ⟨by simp, by simp, by simp⟩
theorem fzc_br (c : Int) (l : List Int) : fz 64 [ownB eU8 l] (brO c 0 l.length) = some (brV c l) := by simp
theorem rnh_br (c : Int) (N n : Nat) : rnV 8 hard (sft N 1) (brO c 0 n) = some (brO c N n) := by simp
theorem s_markBytesResult (c : Int) (l : List Int) (hl : l.length < 1000000000) : X_laws_markBytesResult [brO c 0 l.length, .int .i64 1] [ownB eU8 l] = some (.int .i64 (1 + l.length), [ownB eU8 (markB 1 l.length)]) := by
  have h := s_markByteS l 1 hl (by omega) (by omega)
  simp -implicitDefEqProofs [X_laws_markBytesResult, retK_eq, h]
theorem rnh_br0 (c : Int) (N : Nat) : rnV 8 hard (sft N 0) (.agg #[.int .i64 c, nilR]) = some (.agg #[.int .i64 c, nilR]) := by simp
theorem can_br0 (c : Int) : Can (.agg #[.int .i64 c, nilR]) [] := ⟨by simp, by simp, by simp⟩
theorem fzc_br0 (c : Int) : fz 64 [] (.agg #[.int .i64 c, nilR]) = some (brV c []) := by simp [frS_nil]
theorem L_markByteS0 : X_laws_markByteS [nilR, .int .i64 1] [] = some (.int .i64 1, []) := by
  obtain ⟨q, hq⟩ : ∃ q, QQ = q + 1 := ⟨QQ - 1, by unfold QQ; omega⟩
  simp -implicitDefEqProofs [X_laws_markByteS, L_laws_markByteS, retK_eq, cutK_eq, hq]
theorem s_markBytesResult0 (c : Int) : X_laws_markBytesResult [.agg #[.int .i64 c, nilR], .int .i64 1] [] = some (.int .i64 1, []) := by
  have h := L_markByteS0
  simp -implicitDefEqProofs [X_laws_markBytesResult, retK_eq, h]
theorem s_heldBytesResult0 (c : Int) : X_laws_heldBytesResult [brV c [], .int .i64 1] [] = some (.int .i64 1, []) := by
  have := s_heldBytesResult c 0 (by omega)
  simpa [markB] using this
end Go.Ab
