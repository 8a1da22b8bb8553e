/- What the functions of the program answer, for all arguments that the theorems name as conditions. -/
import Derived.Test.YtkfbpdbopkdnjaaS3RM
import Derived.Test.YtkfbpdbopkdnjaaS3B3
import Derived.Test.YtkfbpdbopkdnjaaS3P6
import Derived.Test.YtkfbpdbopkdnjaaFD
namespace Go.Ab
set_option linter.unusedSimpArgs false
set_option linter.unusedVariables false
set_option maxHeartbeats 40000000

/-! ## Marks in actions -/
theorem rcall_oneE {α : Type} (E : Enc α) {X : List Value → Mem → Option VM} {m : Mem} {a n c : Nat} {rest : List Value} {l l' : List α} {v : Value} (hm : m[a]? = some (ownB E l)) (hrest : rest.all scal = true) (hv : scal v = true) (hX : X (.slice (some ⟨0, 0, none⟩) n c :: rest) [ownB E l] = some (v, [ownB E l'])) : rcall X (.slice (some ⟨a, 0, none⟩) n c :: rest) m = some (v, m.set a (ownB E l')) := by
  have hnm : (Value.slice (some ⟨a, 0, none⟩) n c :: rest).flatMap (nmV 8) = [a] := by
    rw [List.flatMap_cons, nm_scal hrest]
    rfl
  have hrn : mapO (rnV 8 inert (ixOf [a])) (.slice (some ⟨a, 0, none⟩) n c :: rest) = some (.slice (some ⟨0, 0, none⟩) n c :: rest) := by
    have hr := rn_scal (j := 7) (π := ixOf [a]) (l := rest) (r := []) hrest
    rw [List.append_nil] at hr
    rw [mapO_cons, rn_inert_sl, ixOf_cons, if_pos rfl, bo_some, bo_some, hr]
    simp [mapO]
  have hre : reachF 4194304 m [a] [] = some [a] := by
    rw [reach_cons, if_neg (by simp), hm]
    simp only [nmB_own, List.append_nil, List.nil_append]
    rfl
  have hlo : locM m [a] [a] = some [ownB E l] := by
    rw [locM_cons, hm]
    simp only [locB_own, bo_some]
    rfl
  rw [rcall_eq, hnm, hre, bo_some, hrn, bo_some, hlo, bo_some, hX, bo_some]
  simp only [List.length_singleton, Nat.le_refl, if_true]
  rw [rnV_scal hv, bo_some, mapB_cons, bkB_own, bo_some]
  simp
theorem rcall_inert {X : List Value → Mem → Option VM} {m : Mem} {args : List Value} {v : Value} (ha : ∀ x ∈ args, inert x = true) (hv : scal v = true) (hX : X args [] = some (v, [])) : rcall X args m = some (v, m) := by
  have h1 : args.flatMap (nmV 8) = [] := by
    rw [List.flatMap_eq_nil_iff]
    exact fun x hx => inert_nm (ha x hx)
  have h3 : mapO (rnV 8 inert (ixOf [])) args = some args := by
    clear h1 hX
    induction args with
    | nil => rfl
    | cons x r ih =>
      rw [mapO_cons, rnV_p (ha x (by simp)), bo_some, ih (fun y hy => ha y (by simp [hy]))]
      rfl
  rw [rcall_eq, h1]
  simp only [reach_nil, bo_some, h3, locM_nil, hX, List.length_nil, Nat.le_refl, if_true, rnV_scal hv]
  simp [mapB]
def markA (t : Int) (a : ActT) : ActT := ⟨t, t + 1, t + 1 + 1, (t + 1 + 1 + 1).tmod 3 == 0, markI (t + 1 + 1 + 1 + 1) a.ns.length⟩
def upA (t : Int) (a : ActT) : Int := t + 1 + 1 + 1 + 1 + a.ns.length
def markAS (t : Int) : List (ActT × Bool) → List (ActT × Bool)
  | [] => []
  | x :: r => (markA t x.1, x.2) :: markAS (upA t x.1) r
def upAS (t : Int) : List (ActT × Bool) → Int
  | [] => t
  | x :: r => upAS (upA t x.1) r
theorem markAS_len (t : Int) (l : List (ActT × Bool)) : (markAS t l).length = l.length := by
  induction l generalizing t with
  | nil => rfl
  | cons x r ih => rw [markAS, List.length_cons, List.length_cons, ih]
theorem upAS_le (t : Int) (l : List (ActT × Bool)) : t ≤ upAS t l := by
  induction l generalizing t with
  | nil => exact Int.le_refl _
  | cons x r ih =>
    have := ih (upA t x.1)
    rw [upAS]
    unfold upA at *
    omega
abbrev memAc (k : Nat) (l : List (ActT × Bool)) : Mem := famB k 5 (l.map elA) :: famM eI6 (l.map elA)
def acV (x : ActT × Bool) (k : Nat) : Value := if x.2 = true then slO k x.1.ns.length else nil0
theorem famX_A (k : Nat) (x : ActT × Bool) (r : List (ActT × Bool)) : famX k ((x :: r).map elA) = (actPre x.1 ++ [acV x k]) ++ famX (k + (if x.2 = true then 1 else 0)) (r.map elA) := by
  have e : (elA x).p.val k = acV x k := by
    unfold elA acV
    simp only
    split <;> rfl
  rw [List.map_cons, famX, elA_n, e]
  show actPre x.1 ++ (acV x k :: ([] ++ _)) = _
  simp
theorem famM_A1 (x : ActT × Bool) (r : List (ActT × Bool)) : famM eI6 ((x :: r).map elA) = (if x.2 = true then [ownB eI6 x.1.ns] else []) ++ famM eI6 (r.map elA) := by
  rw [List.map_cons, famM]
  congr 1
  unfold elA
  simp only
  split
  · show [ownB eI6 ([] ++ (x.1.ns ++ []))] = _
    simp
  · rfl
theorem famN_Acons (x : ActT × Bool) (r : List (ActT × Bool)) : famN ((x :: r).map elA) = (if x.2 = true then 1 else 0) + famN (r.map elA) := by
  rw [List.map_cons, famN, elA_n]
theorem cells_Ac (p : List (ActT × Bool)) (x : ActT × Bool) (r : List (ActT × Bool)) : famX 1 ((p ++ x :: r).map elA) = famX 1 (p.map elA) ++ ((actPre x.1 ++ [acV x (famN (p.map elA) + 1)]) ++ famX (famN (p.map elA) + 1 + (if x.2 = true then 1 else 0)) (r.map elA)) := by
  rw [List.map_append, famX_app, famX_A, Nat.add_comm 1]
theorem mem_Ac (p : List (ActT × Bool)) (x : ActT × Bool) (r : List (ActT × Bool)) : famM eI6 ((p ++ x :: r).map elA) = famM eI6 (p.map elA) ++ ((if x.2 = true then [ownB eI6 x.1.ns] else []) ++ famM eI6 (r.map elA)) := by
  rw [List.map_append, famM_app, famM_A1]
theorem famN_markA (p : List (ActT × Bool)) (x : ActT × Bool) (t : Int) (r : List (ActT × Bool)) : famN ((p ++ (markA t x.1, x.2) :: r).map elA) = famN ((p ++ x :: r).map elA) := by
  rw [List.map_append, famN_app, famN_Acons, List.map_append, famN_app, famN_Acons]
theorem famN_markAS (t : Int) (l : List (ActT × Bool)) : famN ((markAS t l).map elA) = famN (l.map elA) := by
  induction l generalizing t with
  | nil => rfl
  | cons x r ih => rw [markAS, famN_Acons, famN_Acons, ih]
theorem markA_ok {x : ActT × Bool} (t : Int) (h : okA x) : okA (markA t x.1, x.2) := fun e => by
  have := h e
  show markI _ x.1.ns.length = []
  rw [this]
  rfl
theorem markAS_ok {l : List (ActT × Bool)} (t : Int) (h : ∀ x ∈ l, okA x) : ∀ x ∈ markAS t l, okA x := by
  induction l generalizing t with
  | nil => intro x hx; cases hx
  | cons y r ih =>
    intro x hx
    rw [markAS, List.mem_cons] at hx
    rcases hx with rfl | hx
    · exact markA_ok t (h y (by simp))
    · exact ih (upA t y.1) (fun z hz => h z (by simp [hz])) x hx
theorem l_markActionS (r : List (ActT × Bool)) : ∀ (p : List (ActT × Bool)) (t : Int) (q n N : Nat), r.length < q → n = (p ++ r).length → N = famN ((p ++ r).map elA) → n < 1100000 → (∀ x ∈ r, x.1.ns.length < 1000000000) → (∀ x ∈ r, okA x) → 0 ≤ t → upAS t r ≤ 100000000000 → L_laws_markActionS (N + 1) q 0 [slO 0 n, .int .i64 t, .int .i64 p.length] (memAc 1 (p ++ r)) = some (.int .i64 (upAS t r), memAc 1 (p ++ markAS t r)) := by
  induction r with
  | nil =>
    intro p t q n N hq hn hN hl hb hg h0 h1
    obtain ⟨q, rfl⟩ : ∃ n, q = n + 1 := ⟨q - 1, by omega⟩
    have hn' : n = p.length := by simpa using hn
    subst hn'
    rw [List.append_nil] at hN
    have hle := famN_A p
    have hret := fun pv => retN_fam eI6 (k := N + 1) (s := 5) (es := p.map elA) (pv := pv) (v := .int .i64 t) rfl (by rw [hN]) (ok_Al p) (by omega)
    rw [List.append_nil, markAS, List.append_nil, upAS]
    generalize hM : memAc 1 p = M
    have hret : ∀ pv, retK (N + 1) M pv (.int .i64 t) = some (.int .i64 t, M) := by rw [← hM]; exact hret
    simp -implicitDefEqProofs [L_laws_markActionS, hret]
  | cons x r ih =>
    intro p t q n N hq hn hN hl hb hg h0 h1
    obtain ⟨q, rfl⟩ : ∃ n, q = n + 1 := ⟨q - 1, by omega⟩
    have hn' : n = p.length + (r.length + 1) := by simpa using hn
    have hup := upAS_le (upA t x.1) r
    rw [upAS] at h1
    have hxb := hb x (by simp)
    have hub : t + 1 + 1 + 1 + 1 + x.1.ns.length ≤ 100000000000 := by unfold upA at *; omega
    have hle := famN_A (p ++ x :: r)
    have hNm := famN_markA p x t r
    have h := ih (p ++ [(markA t x.1, x.2)]) (upA t x.1) q n N (by simp at hq; omega) (by simpa using hn) (by rw [hN, ← hNm]; simp) hl (fun y hy => hb y (by simp [hy])) (fun y hy => hg y (by simp [hy])) (by unfold upA; omega) h1
    have hw := wrap_next (n := p.length) (by omega)
    have hz := fun n' o cc => ixa_sl (sz := 5) .i64 (n := n') (o := o) (len := n) (c := cc) (j := (p.length : Int)) (by omega) (by omega)
    simp only [Int.toNat_natCast] at hz
    have hc := s_markInt64S x.1.ns (t + 1 + 1 + 1 + 1) hxb (by omega) (by omega)
    have hFl : (famM eI6 (p.map elA)).length = famN (p.map elA) := famM_len eI6 _
    have hLl := famX_Alen 1 p
    have hcut := fun pv J => cutN_fam eI6 (k := N + 1) (s := 5) (n := n) (c := n) (es := (p ++ (markA t x.1, x.2) :: r).map elA) (xs := []) (ys := [.int .i64 (upA t x.1), .int .i64 ((p.length : Int) + 1)]) (pv := pv) (J := J) (by rw [hNm, hN]) rfl rfl (ok_Al _) (by rw [hNm]; have := hle; rw [← hn] at this; omega)
    simp only [List.nil_append] at hcut
    have e1 : p ++ [(markA t x.1, x.2)] ++ r = p ++ (markA t x.1, x.2) :: r := by simp
    have e2 : ((p ++ [(markA t x.1, x.2)]).length : Int) = p.length + 1 := by simp
    have e3 : p ++ [(markA t x.1, x.2)] ++ markAS (upA t x.1) r = p ++ (markA t x.1, x.2) :: markAS (upA t x.1) r := by simp
    rw [e1, e2, e3] at h
    rw [upAS, markAS]
    have hL1 := cells_Ac p x r
    have hL2 := cells_Ac p (markA t x.1, x.2) r
    have hM1 := mem_Ac p x r
    have hM2 := mem_Ac p (markA t x.1, x.2) r
    have hcut : ∀ pv J, cutK (N + 1) (memAc 1 (p ++ (markA t x.1, x.2) :: r)) pv [slO 0 n, .int .i64 (upA t x.1), .int .i64 ((p.length : Int) + 1)] J = J [slO 0 n, .int .i64 (upA t x.1), .int .i64 ((p.length : Int) + 1)] (memAc 1 (p ++ (markA t x.1, x.2) :: r)) := hcut
    generalize hRES : some (Value.int .i64 (upAS (upA t x.1) r), memAc 1 (p ++ (markA t x.1, x.2) :: markAS (upA t x.1) r)) = RES at h ⊢
    simp only [memAc, famB] at h hcut ⊢
    rw [hL2, hM2] at h hcut
    rw [hL1, hM1]
    have hRR : (famX 1 (p.map elA) ++ ((actPre x.1 ++ [acV x (famN (p.map elA) + 1)]) ++ famX (famN (p.map elA) + 1 + (if x.2 = true then 1 else 0)) (r.map elA))).length = (p.length + (r.length + 1)) * 5 := by
      rw [← hL1, famX_Alen]; simp
    generalize famM eI6 (p.map elA) = F1 at *
    generalize famM eI6 (r.map elA) = F2 at *
    generalize famX 1 (p.map elA) = L at *
    generalize famN (p.map elA) = NP at *
    have u1 : IntKind.i64.wrap (t + 1) = t + 1 := wrap_i64 (by omega) (by omega)
    have u2 : IntKind.i64.wrap (t + 1 + 1) = t + 1 + 1 := wrap_i64 (by omega) (by omega)
    have u3 : IntKind.i64.wrap (t + 1 + 1 + 1) = t + 1 + 1 + 1 := wrap_i64 (by omega) (by omega)
    have u4 : IntKind.i64.wrap (t + 1 + 1 + 1 + 1) = t + 1 + 1 + 1 + 1 := wrap_i64 (by omega) (by omega)
    have g1 : (p.length : Int) < n := by omega
    unfold upA at *
    have lx := fun R j v => lay_ix' L R (p.length * 5) j v hLl
    have lx0 := fun R v => lay_ix' L R (p.length * 5) 0 v hLl
    have gx := fun R j => get_ix' L R (p.length * 5) j hLl
    have gx0 := fun R => get_ix' L R (p.length * 5) 0 hLl
    simp only [Nat.add_zero] at lx0 gx0
    cases hd : x.2 with
    | false =>
      have hns : x.1.ns = [] := hg x (by simp) hd
      simp only [acV, hd, Bool.false_eq_true, if_false] at h hcut hRR ⊢
      have hr : ∀ m, rcall X_laws_markInt64S [nil0, .int .i64 (t + 1 + 1 + 1 + 1)] m = some (.int .i64 (t + 1 + 1 + 1 + 1), m) := fun m => rcall_inert (by simp) rfl (s_markInt64S_nil _)
      simp only [hns, List.length_nil, Int.natCast_zero, Int.add_zero] at h hcut hub
      generalize famX (NP + 1 + 0) (r.map elA) = R at *
      simp only [actPre, List.cons_append, List.nil_append, List.append_assoc, markA, markI_len] at h hcut hRR ⊢
      have a0 : ∀ j, j < 5 → p.length * 5 + j + 1 ≤ L.length + (R.length + 5) := by intro j hj; omega
      have b0 := a0 0 (by omega)
      have b1 := a0 1 (by omega)
      have b2 := a0 2 (by omega)
      have b3 := a0 3 (by omega)
      have b4 := a0 4 (by omega)
      simp only [Nat.add_zero, Nat.add_assoc, Nat.reduceAdd] at b0 b1 b2 b3 b4
      simp (maxSteps := 4000000) -implicitDefEqProofs [-rcall_eq, L_laws_markActionS, hw, hz, g1, lx, lx0, gx, gx0, u1, u2, u3, u4, b0, b1, b2, b3, b4, hr, hcut, h]
    | true =>
      simp only [acV, hd, if_true] at h hcut hRR ⊢
      have hr : ∀ C', rcall X_laws_markInt64S [slO (NP + 1) x.1.ns.length, .int .i64 (t + 1 + 1 + 1 + 1)] (⟨C', 5, true, true⟩ :: (F1 ++ (ownB eI6 x.1.ns :: F2))) = some (.int .i64 (t + 1 + 1 + 1 + 1 + x.1.ns.length), ⟨C', 5, true, true⟩ :: (F1 ++ (ownB eI6 (markI (t + 1 + 1 + 1 + 1) x.1.ns.length) :: F2))) := fun C' => by
        have := rcall_oneE eI6 (m := ⟨C', 5, true, true⟩ :: (F1 ++ (ownB eI6 x.1.ns :: F2))) (a := NP + 1) (l := x.1.ns) (by rw [List.getElem?_cons_succ, List.getElem?_append_right (by omega), hFl, Nat.sub_self]; rfl) (rest := [.int .i64 (t + 1 + 1 + 1 + 1)]) rfl (v := .int .i64 (t + 1 + 1 + 1 + 1 + x.1.ns.length)) rfl hc
        rw [this]
        rw [List.set_cons_succ, List.set_append_right _ _ (by omega), hFl, Nat.sub_self]
        rfl
      generalize famX (NP + 1 + 1) (r.map elA) = R at *
      simp only [actPre, List.cons_append, List.nil_append, List.append_assoc, markA, markI_len] at h hcut hRR ⊢
      have a0 : ∀ j, j < 5 → p.length * 5 + j + 1 ≤ L.length + (R.length + 5) := by intro j hj; omega
      have b0 := a0 0 (by omega)
      have b1 := a0 1 (by omega)
      have b2 := a0 2 (by omega)
      have b3 := a0 3 (by omega)
      have b4 := a0 4 (by omega)
      simp only [Nat.add_zero, Nat.add_assoc, Nat.reduceAdd] at b0 b1 b2 b3 b4
      simp (maxSteps := 4000000) -implicitDefEqProofs [-rcall_eq, L_laws_markActionS, hw, hz, g1, lx, lx0, gx, gx0, u1, u2, u3, u4, b0, b1, b2, b3, b4, hr, hcut, h]
end Go.Ab
