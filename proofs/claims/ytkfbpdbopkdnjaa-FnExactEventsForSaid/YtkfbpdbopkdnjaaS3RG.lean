/- What the functions of the program answer, for all arguments that the theorems name as conditions. -/
import Derived.Test.YtkfbpdbopkdnjaaS3R9
import Derived.Test.YtkfbpdbopkdnjaaS3B1s
import Derived.Test.YtkfbpdbopkdnjaaFD
namespace Go.Ab
set_option linter.unusedSimpArgs false
set_option linter.unusedVariables false
set_option maxHeartbeats 4000000

/-! ## EventsFor of the reference -/
def addr (k : Int) : Bool := decide (2 ≤ k) && decide (k ≤ 4)
def keepE (who : Int) (e : EvT) : Bool := !addr e.k || (e.w == who)
theorem s_spec_l15Addressed (k : Int) : X_spec_l15Addressed [.int .i64 k] [] = some (.bool (addr k), []) := by
  have h := s_spec_l1In k 2 4
  simp -implicitDefEqProofs [X_spec_l15Addressed, retK_eq, h, addr, inB]
theorem s_spec_l1Copy (l : List Int) (h : l.length < 1000000000) : X_spec_l1Copy [frS eU8 l] [] = some (slO 0 l.length, [ownB eU8 l]) := by
  have p1 := fun m n o c => apL_frS (E := eU8) (m := m) (sz := 1) (bytes := 1) (n := n) (o := o) (len := 0) (c := c) (l := l) rfl (by omega) (by omega)
  simp -implicitDefEqProofs [X_spec_l1Copy, retK_eq, p1]
theorem l_spec_l15For (who : Int) (r : List EvT) : ∀ (p o : List EvT) (q : Nat), r.length < q → (p ++ r).length < 1100000 → o.length ≤ p.length → (∀ x ∈ r, x.d.length < 1000000000) → L_spec_l15For 0 q 0 [frS eEv (p ++ r), .int .i64 who, slO 0 o.length, .int .i64 p.length] (memAE 1 o) = some (slO 0 (o ++ r.filter (keepE who)).length, memAE 1 (o ++ r.filter (keepE who))) := by
  induction r with
  | nil =>
    intro p o q hq hl ho hb
    obtain ⟨q, rfl⟩ : ∃ n, q = n + 1 := ⟨q - 1, by omega⟩
    have hret := fun pv => ret0_fam eU8 (s := 13) (n := o.length) (c := o.length) (es := o.map elE) (pv := pv) (ok_AE o) (by rw [elE_N]; simp at hl; omega)
    rw [List.append_nil, List.filter_nil, List.append_nil]
    generalize hM : memAE 1 o = M
    have hret : ∀ pv, retK 0 M pv (slO 0 o.length) = some (slO 0 o.length, M) := by rw [← hM]; exact hret
    simp -implicitDefEqProofs [L_spec_l15For, hret]
  | cons x r ih =>
    intro p o q hq hl ho hb
    obtain ⟨q, rfl⟩ : ∃ n, q = n + 1 := ⟨q - 1, by omega⟩
    have hx := ixa_mid eEv (sz := 13) rfl .i64 p x r
    have hw := wrap_next (n := p.length) (by simp at hl; omega)
    have hA := s_spec_l15Addressed x.k
    have e1 : p ++ [x] ++ r = p ++ x :: r := by simp
    have e2 : ((p ++ [x]).length : Int) = p.length + 1 := by simp
    by_cases hk : keepE who x = true
    · have h := ih (p ++ [x]) (o ++ [x]) q (by simp at hq; omega) (by simpa using hl) (by simp; omega) (fun y hy => hb y (by simp [hy]))
      have hc := s_spec_l1Copy x.d (hb x (by simp))
      have ef : (x :: r).filter (keepE who) = x :: r.filter (keepE who) := by rw [List.filter_cons, if_pos hk]
      rw [e1, e2] at h
      rw [ef]
      have e3 : o ++ x :: r.filter (keepE who) = o ++ [x] ++ r.filter (keepE who) := by simp
      rw [e3]
      have hF : (famM eU8 (o.map elE)).length = o.length := by rw [famM_len, elE_N]
      have hC : (famX 1 (o.map elE)).length = o.length * 13 := famX_Elen 1 o
      have p1 := fun m n o c n2 o2 len c2 => apL_sl (m := m) (sz := 13) (bytes := 120) (n := n) (o := o) (len := len) (c := c) (n2 := n2) (o2 := o2) (len2 := 1) (c2 := c2)
      generalize hR : some (slO 0 (o ++ [x] ++ r.filter (keepE who)).length, memAE 1 (o ++ [x] ++ r.filter (keepE who))) = RES at h ⊢
      simp only [memAE, famB] at h ⊢
      generalize hFF : famM eU8 (o.map elE) = F at *
      generalize hCC : famX 1 (o.map elE) = C at *
      have hrd := fun o => rdB_all (C := C) (s := 13) (o := o) hC
      have hrm : ∀ k : Nat, rdM (some ⟨evC k x, 13, true, true⟩) 0 13 = some (evC k x) := fun k => rfl
      simp only [evC, EvT.pre, EvT.post, List.cons_append, List.nil_append] at hrm
      have hk' : (!addr x.k || x.w == who) = true := hk
      have ho2 : o.length < 1100000 := by simp at hl; omega
      have ho' : o.length + 1 < 1000000000 := by omega
      have hfin : ∀ pv, cutK 0 (⟨C, 13, true, false⟩ :: (F ++ [⟨evC (o.length + 1 + 1) x, 0, true, true⟩, ownB eU8 x.d, ⟨evC (o.length + 1 + 1) x, 13, true, true⟩, ⟨C ++ evC (o.length + 1 + 1) x, 13, true, true⟩])) pv [frS eEv (p ++ x :: r), .int .i64 who, slO (o.length + 3 + 1) (o.length + 1), .int .i64 (p.length + 1)] (L_spec_l15For 0 q 0) = RES := by
        intro pv
        have H : Fam eU8 (⟨C, 13, true, false⟩ :: (F ++ [⟨evC (o.length + 1 + 1) x, 0, true, true⟩, ownB eU8 x.d, ⟨evC (o.length + 1 + 1) x, 13, true, true⟩, ⟨C ++ evC (o.length + 1 + 1) x, 13, true, true⟩])) (o.length + 3 + 1) 13 (List.range' 1 o.length ++ [o.length + 1 + 1]) (o.map elE ++ [elE x]) := by
          refine Fam.snoc eU8 (j := 0) (m := []) (by rw [elE_N]; simp) (ok_AE o) (elE_ok x) (fun i n b h1 h2 => in_row [_] F _ rfl h1 (by rwa [hFF] at h2)) (fun i n b h1 h2 => ?_) rfl (nod_row1 (by omega) (by omega) (by omega)) (cs := C ++ evC (o.length + 1 + 1) x) ?_ (at_row [_] F _ (j := 3) (by simp; omega) rfl)
          · have hi := (List.getElem?_eq_some_iff.1 h1).1
            have : i = 0 := by simpa using hi
            subst this
            simp at h1
            subst h1
            have h2 : some (ownB eU8 ([] ++ (x.d ++ []))) = some b := h2
            rw [← h2, List.nil_append, List.append_nil]
            exact at_row [_] F _ (j := 1) (by simp; omega) rfl
          · have := famI_range (o.map elE) 1
            rw [elE_N, hCC] at this
            rw [this]
            rfl
        rw [H.cut1 eU8 (by simp; omega) (by simp) (vs0 := [frS eEv (p ++ x :: r), .int .i64 who, slO 0 (o.length + 1), .int .i64 (p.length + 1)]) (by simp)]
        have e4 : o.map elE ++ [elE x] = (o ++ [x]).map elE := by simp
        rw [e4, ← h]
        simp [famB]
      simp only [evC, EvT.pre, EvT.post, List.cons_append, List.nil_append] at hfin
      cases ha : addr x.k with
      | false =>
        rw [ha] at hA
        simp (maxSteps := 400000) -implicitDefEqProofs [L_spec_l15For, hx, hw, hA, hc, p1, ho', hF, hC, hrd, hrm, hfin]
      | true =>
        rw [ha] at hA hk'
        have hkw : who = x.w := by simpa using Eq.symm (by simpa using hk')
        subst hkw
        simp (maxSteps := 400000) -implicitDefEqProofs [L_spec_l15For, hx, hw, hA, hc, p1, ho', hF, hC, hrd, hrm, hfin]
    · have h := ih (p ++ [x]) o q (by simp at hq; omega) (by simpa using hl) (by simp; omega) (fun y hy => hb y (by simp [hy]))
      have ef : (x :: r).filter (keepE who) = r.filter (keepE who) := by rw [List.filter_cons, if_neg hk]
      rw [e1, e2] at h
      rw [ef]
      have hk' : ¬ (!addr x.k || x.w == who) = true := hk
      have ha : addr x.k = true := by simp at hk'; exact hk'.1
      have hkw : ¬ x.w = who := by simp at hk'; exact hk'.2
      rw [ha] at hA
      have hcut := fun pv J => cut0_fam eU8 (s := 13) (n := o.length) (c := o.length) (es := o.map elE) (xs := [frS eEv (p ++ x :: r), .int .i64 who]) (ys := [.int .i64 ((p.length : Int) + 1)]) (pv := pv) (J := J) rfl rfl (ok_AE o) (by rw [elE_N]; simp at hl; omega)
      simp only [List.cons_append, List.nil_append] at hcut
      generalize hM : memAE 1 o = M
      have hcut : ∀ pv J, cutK 0 M pv [frS eEv (p ++ x :: r), .int .i64 who, slO 0 o.length, .int .i64 ((p.length : Int) + 1)] J = J [frS eEv (p ++ x :: r), .int .i64 who, slO 0 o.length, .int .i64 ((p.length : Int) + 1)] M := by rw [← hM]; exact hcut
      rw [hM] at h
      simp (maxSteps := 400000) -implicitDefEqProofs [L_spec_l15For, hx, hw, hA, hkw, hcut, h]
end Go.Ab
