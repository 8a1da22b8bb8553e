/- What the functions of the program answer, for all arguments that the theorems name as conditions. -/
import Derived.Test.YtkfbpdbopkdnjaaS3RH
namespace Go.Ab
set_option linter.unusedSimpArgs false
set_option linter.unusedVariables false
set_option maxHeartbeats 4000000

/-! ## EventsFor of the program: its loop -/
abbrev nilW : Value := .slice none 0 0
abbrev memC (k : Nat) (l : List EvT) : Mem := famB k 13 (l.map elC) :: famM eU8 (l.map elC)
theorem own_addr (k : Int) : (k == 2 || k == 3 || k == 4) = addr k := by
  unfold addr
  rw [Bool.eq_iff_iff]
  simp
  omega
theorem l_impl_EventsFor (who : Int) (r : List EvT) : ∀ (p o : List EvT) (q : Nat), r.length < q → (p ++ r).length < 1100000 → o.length ≤ p.length → (∀ x ∈ r, x.d.length < 1000000000) → L_impl_EventsFor 0 q 0 [.int .i64 who, ptr 0, slO 1 o.length, frS eEv (p ++ r), .int .i64 (p ++ r).length, .int .i64 p.length] (blk [.int .i64 0, nilW] :: memC 2 o) = some (.agg #[.int .i64 0, slO 0 (o ++ r.filter (keepE who)).length], memC 1 (o ++ r.filter (keepE who))) := by
  induction r with
  | nil =>
    intro p o q hq hl ho hb
    obtain ⟨q, rfl⟩ : ∃ n, q = n + 1 := ⟨q - 1, by omega⟩
    have hN := famN_C o
    have ho2 : o.length < 1100000 := by simp at hl; omega
    have hret : ∀ pv, retK 0 (blk [.int .i64 0, slO 1 o.length] :: memC 2 o) pv (.agg #[.int .i64 0, slO 1 o.length]) = some (.agg #[.int .i64 0, slO 0 o.length], memC 1 o) := fun pv => by
      have H : Fam eU8 (blk [.int .i64 0, slO 1 o.length] :: memC 2 o) 1 13 (List.range' 2 (famN (o.map elC))) (o.map elC) := Fam.of_row eU8 rfl (fun i x h => by rw [Nat.add_comm]; exact h) (by omega) (ok_C o)
      exact H.ret1 eU8 (by simp; omega) (by simp) (by simp)
    rw [List.append_nil, List.filter_nil, List.append_nil]
    simp only [memC, famB] at hret ⊢
    simp -implicitDefEqProofs [L_impl_EventsFor, hret]
  | cons x r ih =>
    intro p o q hq hl ho hb
    obtain ⟨q, rfl⟩ : ∃ n, q = n + 1 := ⟨q - 1, by omega⟩
    have hx := ixa_mid eEv (sz := 13) rfl .i64 p x r
    have hw := wrap_next (n := p.length) (by simp at hl; omega)
    have hA := own_addr x.k
    have hN := famN_C o
    have ho2 : o.length < 1100000 := by simp at hl; omega
    have ho' : o.length + 1 < 1000000000 := by omega
    have e1 : p ++ [x] ++ r = p ++ x :: r := by simp
    have e2 : ((p ++ [x]).length : Int) = p.length + 1 := by simp
    have e5 : (p.length : Int) < ((p ++ x :: r).length : Int) := by simp
    have hF : (famM eU8 (o.map elC)).length = famN (o.map elC) := famM_len eU8 _
    have hC : (famX 2 (o.map elC)).length = o.length * 13 := famX_Clen 2 o
    have hc := s_clone x (hb x (by simp))
    by_cases hk : keepE who x = true
    · have h := ih (p ++ [x]) (o ++ [x]) q (by simp at hq; omega) (by simpa using hl) (by simp; omega) (fun y hy => hb y (by simp [hy]))
      have ef : (x :: r).filter (keepE who) = x :: r.filter (keepE who) := by rw [List.filter_cons, if_pos hk]
      rw [e1, e2] at h
      rw [ef]
      have e3 : o ++ x :: r.filter (keepE who) = o ++ [x] ++ r.filter (keepE who) := by simp
      rw [e3]
      have hK : (x.k = 2 ∧ who = x.w) ∨ (¬ x.k = 2 ∧ x.k = 3 ∧ who = x.w) ∨ (¬ x.k = 2 ∧ ¬ x.k = 3 ∧ x.k = 4 ∧ who = x.w) ∨ (¬ x.k = 2 ∧ ¬ x.k = 3 ∧ ¬ x.k = 4) := by
        have hk' : (!addr x.k || x.w == who) = true := hk
        rw [← hA] at hk'
        simp at hk'
        omega
      have p1 := fun m n o c n2 o2 len c2 => apL_sl (m := m) (sz := 13) (bytes := 120) (n := n) (o := o) (len := len) (c := c) (n2 := n2) (o2 := o2) (len2 := 1) (c2 := c2)
      generalize hR : some (Value.agg #[.int .i64 0, slO 0 (o ++ [x] ++ r.filter (keepE who)).length], memC 1 (o ++ [x] ++ r.filter (keepE who))) = RES at h ⊢
      simp only [memC, famB] at h ⊢
      generalize hFF : famM eU8 (o.map elC) = F at *
      generalize hCC : famX 2 (o.map elC) = C at *
      generalize hNN : famN (o.map elC) = N at *
      generalize hLL : ((p ++ x :: r).length : Int) = LL at *
      have hrd := fun o => rdB_all (C := C) (s := 13) (o := o) hC
      have e4 : o.map elC ++ [elC x] = (o ++ [x]).map elC := by simp
      have hIX : famI (List.range' 2 N) (o.map elC) = C := by rw [← hNN, famI_range, hCC]
      by_cases hd : x.d = []
      · have hrm : rdM (some ⟨x.pre ++ (roS 0 [] :: x.post), 13, true, true⟩) 0 13 = some (x.pre ++ (roS 0 [] :: x.post)) := rfl
        have hel : elC x = ⟨x.pre, .no (roS 0 []), x.post⟩ := by unfold elC; rw [if_pos hd]
        simp only [hd, clV, if_true] at hc
        have hfin : ∀ pv v, v.length = 13 → cutK 0 (blk [.int .i64 0, nilW] :: ⟨C, 13, true, false⟩ :: (F ++ [⟨v, 0, true, true⟩, ⟨x.pre ++ (roS 0 [] :: x.post), 13, true, true⟩, ⟨C ++ (x.pre ++ (roS 0 [] :: x.post)), 13, true, true⟩])) pv [.int .i64 who, ptr 0, slO (N + 3 + 1) (o.length + 1), frS eEv (p ++ x :: r), .int .i64 LL, .int .i64 (p.length + 1)] (L_impl_EventsFor 0 q 0) = RES := by
          intro pv v hv
          have H : Fam eU8 (blk [.int .i64 0, nilW] :: ⟨C, 13, true, false⟩ :: (F ++ [⟨v, 0, true, true⟩, ⟨x.pre ++ (roS 0 [] :: x.post), 13, true, true⟩, ⟨C ++ (x.pre ++ (roS 0 [] :: x.post)), 13, true, true⟩])) (N + 3 + 1) 13 (List.range' 2 N ++ []) (o.map elC ++ [elC x]) := by
            refine Fam.snoc eU8 (j := 0) (m := []) (by rw [hNN]; simp) (ok_C o) (elC_ok x) (fun i n b h1 h2 => in_row [_, _] F _ rfl h1 (by rwa [hFF] at h2)) (fun i n b h1 h2 => by simp at h1) (by rw [hel]; rfl) (nod_row0 (by omega)) (cs := C ++ (x.pre ++ (roS 0 [] :: x.post))) ?_ (at_row [_, _] F _ (j := 2) (by simp; omega) rfl)
            rw [hIX, hel]
            rfl
          rw [H.cut2 eU8 (p := 0) (rb := blk [.int .i64 0, nilW]) rfl rfl (by simp) (by simp; omega) (by simp) (vs0 := [.int .i64 who, ptr 0, slO 1 (o.length + 1), frS eEv (p ++ x :: r), .int .i64 LL, .int .i64 (p.length + 1)]) (by simp)]
          rw [e4, ← h]
          simp [famB]
        simp only [EvT.pre, EvT.post, List.cons_append, List.nil_append] at hfin hrm
        rcases hK with ⟨k2, rfl⟩ | ⟨k2, k3, rfl⟩ | ⟨k2, k3, k4, rfl⟩ | ⟨k2, k3, k4⟩
        · simp (maxSteps := 400000) -implicitDefEqProofs [L_impl_EventsFor, hx, hw, hc, p1, ho', hF, hC, hrd, hrm, hfin, e5, eq_true k2]
        · simp (maxSteps := 400000) -implicitDefEqProofs [L_impl_EventsFor, hx, hw, hc, p1, ho', hF, hC, hrd, hrm, hfin, e5, eq_false k2, eq_true k3]
        · simp (maxSteps := 400000) -implicitDefEqProofs [L_impl_EventsFor, hx, hw, hc, p1, ho', hF, hC, hrd, hrm, hfin, e5, eq_false k2, eq_false k3, eq_true k4]
        · simp (maxSteps := 400000) -implicitDefEqProofs [L_impl_EventsFor, hx, hw, hc, p1, ho', hF, hC, hrd, hrm, hfin, e5, eq_false k2, eq_false k3, eq_false k4]
      · have hrm : ∀ k : Nat, rdM (some ⟨evC k x, 13, true, true⟩) 0 13 = some (evC k x) := fun k => rfl
        have hel : elC x = elE x := by unfold elC; rw [if_neg hd]
        simp only [hd, clV, if_false] at hc
        have hfin : ∀ pv v, v.length = 13 → cutK 0 (blk [.int .i64 0, nilW] :: ⟨C, 13, true, false⟩ :: (F ++ [⟨v, 0, true, true⟩, ownB eU8 x.d, ⟨evC (N + 2 + 1) x, 13, true, true⟩, ⟨C ++ evC (N + 2 + 1) x, 13, true, true⟩])) pv [.int .i64 who, ptr 0, slO (N + 4 + 1) (o.length + 1), frS eEv (p ++ x :: r), .int .i64 LL, .int .i64 (p.length + 1)] (L_impl_EventsFor 0 q 0) = RES := by
          intro pv v hv
          have H : Fam eU8 (blk [.int .i64 0, nilW] :: ⟨C, 13, true, false⟩ :: (F ++ [⟨v, 0, true, true⟩, ownB eU8 x.d, ⟨evC (N + 2 + 1) x, 13, true, true⟩, ⟨C ++ evC (N + 2 + 1) x, 13, true, true⟩])) (N + 4 + 1) 13 (List.range' 2 N ++ [N + 2 + 1]) (o.map elC ++ [elC x]) := by
            refine Fam.snoc eU8 (j := 0) (m := []) (by rw [hNN]; simp) (ok_C o) (elC_ok x) (fun i n b h1 h2 => in_row [_, _] F _ rfl h1 (by rwa [hFF] at h2)) (fun i n b h1 h2 => ?_) (by rw [hel]; rfl) (nod_row1 (by omega) (by omega) (by omega)) (cs := C ++ evC (N + 2 + 1) x) ?_ (at_row [_, _] F _ (j := 3) (by simp; omega) rfl)
            · have hi := (List.getElem?_eq_some_iff.1 h1).1
              have : i = 0 := by simpa using hi
              subst this
              simp at h1
              subst h1
              rw [hel] at h2
              have h2 : some (ownB eU8 ([] ++ (x.d ++ []))) = some b := h2
              rw [← h2, List.nil_append, List.append_nil]
              exact at_row [_, _] F _ (j := 1) (by simp; omega) rfl
            · rw [hIX, hel]
              rfl
          rw [H.cut2 eU8 (p := 0) (rb := blk [.int .i64 0, nilW]) rfl rfl (by simp) (by simp; omega) (by simp) (vs0 := [.int .i64 who, ptr 0, slO 1 (o.length + 1), frS eEv (p ++ x :: r), .int .i64 LL, .int .i64 (p.length + 1)]) (by simp)]
          rw [e4, ← h]
          simp [famB]
        simp only [evC, EvT.pre, EvT.post, List.cons_append, List.nil_append] at hfin hrm
        rcases hK with ⟨k2, rfl⟩ | ⟨k2, k3, rfl⟩ | ⟨k2, k3, k4, rfl⟩ | ⟨k2, k3, k4⟩
        · simp (maxSteps := 400000) -implicitDefEqProofs [L_impl_EventsFor, hx, hw, hc, p1, ho', hF, hC, hrd, hrm, hfin, e5, eq_true k2]
        · simp (maxSteps := 400000) -implicitDefEqProofs [L_impl_EventsFor, hx, hw, hc, p1, ho', hF, hC, hrd, hrm, hfin, e5, eq_false k2, eq_true k3]
        · simp (maxSteps := 400000) -implicitDefEqProofs [L_impl_EventsFor, hx, hw, hc, p1, ho', hF, hC, hrd, hrm, hfin, e5, eq_false k2, eq_false k3, eq_true k4]
        · simp (maxSteps := 400000) -implicitDefEqProofs [L_impl_EventsFor, hx, hw, hc, p1, ho', hF, hC, hrd, hrm, hfin, e5, eq_false k2, eq_false k3, eq_false k4]
    · have h := ih (p ++ [x]) o q (by simp at hq; omega) (by simpa using hl) (by simp; omega) (fun y hy => hb y (by simp [hy]))
      have ef : (x :: r).filter (keepE who) = r.filter (keepE who) := by rw [List.filter_cons, if_neg hk]
      rw [e1, e2] at h
      rw [ef]
      have hk' : ¬ (!addr x.k || x.w == who) = true := hk
      have ha : addr x.k = true := by simp at hk'; exact hk'.1
      have hkw : ¬ x.w = who := by simp at hk'; exact hk'.2
      rw [ha] at hA
      generalize hR : some (Value.agg #[.int .i64 0, slO 0 (o ++ r.filter (keepE who)).length], memC 1 (o ++ r.filter (keepE who))) = RES at h ⊢
      simp only [memC, famB] at h ⊢
      generalize hFF : famM eU8 (o.map elC) = F at *
      generalize hCC : famX 2 (o.map elC) = C at *
      generalize hNN : famN (o.map elC) = N at *
      generalize hLL : ((p ++ x :: r).length : Int) = LL at *
      have hIX : famI (List.range' 2 N) (o.map elC) = C := by rw [← hNN, famI_range, hCC]
      have hfin : ∀ pv v, cutK 0 (blk [.int .i64 0, nilW] :: ⟨C, 13, true, true⟩ :: (F ++ [⟨v, 0, true, true⟩])) pv [.int .i64 who, ptr 0, slO 1 o.length, frS eEv (p ++ x :: r), .int .i64 LL, .int .i64 (p.length + 1)] (L_impl_EventsFor 0 q 0) = RES := by
        intro pv v
        have H : Fam eU8 (blk [.int .i64 0, nilW] :: ⟨C, 13, true, true⟩ :: (F ++ [⟨v, 0, true, true⟩])) 1 13 (List.range' 2 N) (o.map elC) := by
          rw [← hNN]
          refine Fam.of_row eU8 (by rw [← hCC]; rfl) (fun i x h => ?_) (by omega) (ok_C o)
          rw [hFF] at h
          exact in_row [_, _] F _ (b := 2) (k := i + 1) (i := i) rfl (by rw [List.getElem?_range' (by omega)]; simp) h
        rw [H.cut2 eU8 (p := 0) (rb := blk [.int .i64 0, nilW]) rfl rfl (by simp) (by simp; omega) (by simp) (vs0 := [.int .i64 who, ptr 0, slO 1 o.length, frS eEv (p ++ x :: r), .int .i64 LL, .int .i64 (p.length + 1)]) (by simp), hFF, famB, hCC]
        exact h
      have hKN : x.k = 2 ∨ (¬ x.k = 2 ∧ x.k = 3) ∨ (¬ x.k = 2 ∧ ¬ x.k = 3 ∧ x.k = 4) := by simp at hA; omega
      rcases hKN with k2 | ⟨k2, k3⟩ | ⟨k2, k3, k4⟩
      · simp (maxSteps := 400000) -implicitDefEqProofs [L_impl_EventsFor, hx, hw, hfin, e5, hkw, eq_true k2]
      · simp (maxSteps := 400000) -implicitDefEqProofs [L_impl_EventsFor, hx, hw, hfin, e5, hkw, eq_false k2, eq_true k3]
      · simp (maxSteps := 400000) -implicitDefEqProofs [L_impl_EventsFor, hx, hw, hfin, e5, hkw, eq_false k2, eq_false k3, eq_true k4]
end Go.Ab
