/- What the functions of the program answer, for all arguments that the theorems name as conditions. -/
import Derived.Test.YtkfbpdbopkdnjaaS3RBe
import Derived.Test.YtkfbpdbopkdnjaaS3R9
import Derived.Test.YtkfbpdbopkdnjaaS3RDn
namespace Go.Ab
set_option linter.unusedSimpArgs false
set_option linter.unusedVariables false
set_option maxHeartbeats 40000000

theorem can_AE (l : List EvT) (hl : l.length < 4000000) : Can (slO 0 l.length) (memAE 1 l) := can_fam eU8 (ok_AE l) (by rw [elE_N]; omega)
theorem hd_AE (l : List EvT) : HdM (memAE 1 l) := hd_fam eU8 eU8_hard (ok_AE l) (okH_AE l)
theorem fzc_AE (l : List EvT) : fz 64 (memAE 1 l) (slO 0 l.length) = some (frS eEv l) := by
  have := fz_AE 61 l.length [] [] l
  simpa using this
/-- Copies of events, of slices of bytes, at any memory. -/
theorem n_toEventS (l : List EvT) (hl : l.length < 1100000) (hb : ∀ x ∈ l, x.d.length < 1000000000) (m : Mem) : ∃ k m', k = m.length ∧ fcall X_laws_toEventS [frS eEv l] m = some (slO k l.length, m') ∧ m'.length = m.length + (memAE 1 l).length ∧ (∀ n, n < m.length → m'[n]? = m[n]?) ∧ Has m' (slO k l.length) (List.range' k (memAE 1 l).length) (slO 0 l.length) (memAE 1 l) :=
  Has.new (fr := [frS eEv l]) (F := fun k => slO k l.length) rfl (s_toEventS l hl hb) (can_AE l (by omega)) (hd_AE l) (fun N => rnh_slO N _ _ (by simp))
theorem f_szEventS (l : List EvT) (left : Int) (hl : l.length ≤ 9223372036854775807) (hb : ∀ x ∈ l, x.d.length ≤ 9223372036854775807) (h0 : 0 ≤ left) (h1 : left ≤ 1048576) (m : Mem) : fcall X_laws_szEventS [frS eEv l, .int .i64 left] m = some (.int .i64 (szES l left), m) :=
  f_ask (mapO2 rfl rfl) (s_szEventS l left hl hb h0 h1) rfl
theorem szES_small {l : List EvT} {x : Int} (hx : x ≤ 1048576) (h : 0 ≤ szES l x) : szES l x ≤ x ∧ l.length ≤ 1048576 ∧ (∀ e ∈ l, e.d.length < 1000000000) ∧ upES 1 l ≤ 100000000 := by
  unfold szES at *
  have h0 : ¬ szN l.length x < 0 := fun c => by rw [if_pos c] at h; omega
  rw [if_neg h0] at h ⊢
  have h1 := szL_le _ _ h
  have h2 := szL_upE l _ 1 h
  have h3 := szN_val h0
  refine ⟨by omega, by omega, fun e he => ?_, by omega⟩
  have := h1.2 e.d.length (List.mem_map.2 ⟨e, he, rfl⟩)
  omega
end Go.Ab
