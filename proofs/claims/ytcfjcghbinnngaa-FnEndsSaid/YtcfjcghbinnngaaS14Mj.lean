/- What the functions of the program answer, for all arguments that the theorems name as conditions. -/
import Derived.Test.YtcfjcghbinnngaaS14Mg
import Derived.Test.YtcfjcghbinnngaaS14Mi
import Derived.Test.YtcfjcghbinnngaaFD
import Derived.Test.YtcfjcghbinnngaaS14Mh
import Derived.Test.YtcfjcghbinnngaaFC
set_option linter.unusedVariables false
set_option linter.unusedSimpArgs false
namespace Go.Ab
set_option maxHeartbeats 8000000
end Go.Ab
namespace Go.Ab
set_option maxHeartbeats 8000000
end Go.Ab
namespace Go.Ab
set_option maxHeartbeats 8000000
theorem fz_lo (H E : EdT) (ps : List EdT) (c : Nat) (t : Bool) (n : Int) : fz 64 (loM H E ps) (loV H E ps c t n) = some (lrF 0 false [] (oE H) ⟨ps.map oE, oE E, t, n⟩) := by
  have f1 : fz 63 (loM H E ps) (eV 0 H) = some (frS eU8 (oE H)) := fz_eE 60 _ 0 H fun cc q nn h => by subst h; rfl
  have hj : (loM H E ps)[(eB' H).length]? = some (famB ((eB' H).length + 1 + (eB' E).length) 1 ([] ++ ps.map elP)) := by
    unfold loM
    rw [List.getElem?_append_right (Nat.le_refl _), Nat.sub_self]
    rfl
  have hm : loM H E ps = (eB' H ++ (famB ((eB' H).length + 1 + (eB' E).length) 1 (ps.map elP) :: eB' E)) ++ (famM eU8 (ps.map elP) ++ []) := by
    rw [List.append_nil, List.append_assoc]
    rfl
  have hP : (eB' H ++ (famB ((eB' H).length + 1 + (eB' E).length) 1 (ps.map elP) :: eB' E)).length = (eB' H).length + 1 + (eB' E).length + famN ([] : List (El Int)) := by
    rw [List.length_append, List.length_cons, famN]
    omega
  have f2 : fz 63 (loM H E ps) (slQ (eB' H).length 0 ps.length c) = some (frS eBS (ps.map oE)) := by
    have := fz_partF (k := 60) (c := c) (L := []) (R := ps.map elP) hj hm hP (ok_P ps) (by simp) (fun e he => by obtain ⟨x, _, rfl⟩ := List.mem_map.1 he; exact elP_sz x)
    rw [List.length_map, fro_P] at this
    refine this.trans ?_
    unfold frS
    rw [List.length_map]
  have f3 : fz 63 (loM H E ps) (eV ((eB' H).length + 1) E) = some (frS eU8 (oE E)) := fz_eE 60 _ _ E fun cc q nn h => by
    subst h
    unfold loM
    rw [List.getElem?_append_right (by omega), Nat.add_sub_cancel_left]
    rfl
  rw [fz_agg]
  simp only [mapO, f1, f2, f3]
  rfl
end Go.Ab
namespace Go.Ab
set_option maxHeartbeats 4000000
theorem wf_u8 {n : Int} (h : wfI .u8 n) : 0 ≤ n ∧ n < 256 := by
  have := wfI_u8 h
  omega
theorem typed_code {s e : Nat} {a : Value} (h : Typed CT s [a]) (hs : (CT.ty s).d = .slice e) (he : (CT.ty e).d = .int .u8) (hz : (CT.ty e).size = 1) : ∃ l : List Int, a = frS eU8 l ∧ l.length ≤ maxLen ∧ ∀ n ∈ l, 0 ≤ n ∧ n < 256 := by
  obtain ⟨l, h1, h2, h3⟩ := typed_ints h hs he hz
  exact ⟨l, by rw [h1, frS_ints], h2, fun n hn => wf_u8 (h3 n hn)⟩
end Go.Ab
