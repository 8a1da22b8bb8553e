/- What the functions of the program answer, for all arguments that the theorems name as conditions. -/
import Derived.Test.YtnmjgjedkdmefaaS12Mh
import Derived.Test.YtnmjgjedkdmefaaS12Mg
import Derived.Test.YtnmjgjedkdmefaaFD
set_option linter.unusedVariables false
set_option linter.unusedSimpArgs false
namespace Go.Ab
set_option maxHeartbeats 8000000
theorem markS_nilW (t : Int) : X_laws_markByteS [nilW, .int .i64 t] [] = some (.int .i64 t, []) := by
  obtain ⟨q, hq⟩ : ∃ q, QQ = q + 1 := ⟨QQ - 1, by unfold QQ; omega⟩
  simp -implicitDefEqProofs [X_laws_markByteS, L_laws_markByteS, retK_eq, cutK_eq, hq]
theorem rc_nilW (m : Mem) (t : Int) : rcall X_laws_markByteS [nilW, .int .i64 t] m = some (.int .i64 t, m) := by
  have e := markS_nilW t
  simp [e]
theorem s_markLineResult_b (c : Int) : X_laws_markLineResult [lrB c, .int .i64 1] [] = some (.int .i64 1, []) := by
  have e := markS_nilW 1
  have c3 : X_laws_markByteSS [nilW, .int .i64 1] [] = some (.int .i64 1, []) := by
    obtain ⟨q, hq⟩ : ∃ q, QQ = q + 1 := ⟨QQ - 1, by unfold QQ; omega⟩
    simp -implicitDefEqProofs [X_laws_markByteSS, L_laws_markByteSS, retK_eq, cutK_eq, hq]
  have c4 : X_laws_markLine [.agg #[nilW, nilW, .bool false, .int .i64 0], .int .i64 1] [] = some (.int .i64 1, []) := by
    simp -implicitDefEqProofs [X_laws_markLine, retK_eq, e, c3]
  simp -implicitDefEqProofs [X_laws_markLineResult, retK_eq, e, c4]
theorem l_heldByteSS (l : List (List Int)) : ∀ (p : List (List Int)) (t : Int) (q : Nat), l.length < q → (p ++ l).length < 1100000 → (∀ x ∈ l, x.length < 1000000000) → 0 ≤ t → upSS t l ≤ 100000000000 → L_laws_heldByteSS 0 q 0 [frS eBS (p ++ markSS t l), .int .i64 t, .int .i64 p.length] [] = some (.int .i64 (upSS t l), []) := by
  induction l with
  | nil =>
    intro p t q hq hn hb h0 h1
    obtain ⟨q, rfl⟩ : ∃ n, q = n + 1 := ⟨q - 1, by omega⟩
    simp -implicitDefEqProofs [L_laws_heldByteSS, retK_eq, markSS, upSS]
  | cons x r ih =>
    intro p t q hq hn hb h0 h1
    obtain ⟨q, rfl⟩ : ∃ n, q = n + 1 := ⟨q - 1, by omega⟩
    have hup := upSS_le (t + x.length) r
    rw [upSS] at h1
    have h := ih (p ++ [markB t x.length]) (t + x.length) q (by simp at hq; omega) (by simpa using hn) (fun y hy => hb y (by simp [hy])) (by omega) h1
    have e1 : p ++ [markB t x.length] ++ markSS (t + x.length) r = p ++ markB t x.length :: markSS (t + x.length) r := by simp
    have e2 : ((p ++ [markB t x.length]).length : Int) = p.length + 1 := by simp
    rw [e1, e2] at h
    rw [upSS, markSS]
    have hx := ixa_mid eBS (sz := 1) rfl .i64 p (markB t x.length) (markSS (t + x.length) r)
    have hw := wrap_next (n := p.length) (by simp at hn; omega)
    have hc := s_heldByteS x.length t (hb x (by simp)) (by omega) (by omega)
    have g1 : (p.length : Int) < ((p ++ markB t x.length :: markSS (t + x.length) r).length : Int) := by simp
    have v0 : ¬ t + (x.length : Int) < 0 := by omega
    simp (maxSteps := 400000) -implicitDefEqProofs [L_laws_heldByteSS, retK_eq, cutK_eq, hx, hw, hc, g1, v0, h]
theorem s_heldByteSS (l : List (List Int)) (t : Int) (hn : l.length < 1100000) (hb : ∀ x ∈ l, x.length < 1000000000) (h0 : 0 ≤ t) (h1 : upSS t l ≤ 100000000000) : X_laws_heldByteSS [frS eBS (markSS t l), .int .i64 t] [] = some (.int .i64 (upSS t l), []) := by
  have h := l_heldByteSS l [] t QQ (by unfold QQ; omega) hn hb h0 h1
  simp at h
  simp -implicitDefEqProofs [X_laws_heldByteSS, retK_eq, cutK_eq, h]
abbrev mkL (t : Int) (l : LnT) : LnT := ⟨markSS t l.rows, markB (upSS t l.rows) l.cur.length, l.t, l.n⟩
theorem s_heldLine (l : LnT) (t : Int) (hl : l.rows.length < 1100000) (hb : ∀ x ∈ l.rows, x.length < 1000000000) (hc : l.cur.length < 1000000000) (h0 : 0 ≤ t) (h1 : upSS t l.rows ≤ 10000000000) : X_laws_heldLine [lnV (mkL t l), .int .i64 t] [] = some (.int .i64 (upSS t l.rows + l.cur.length), []) := by
  have hup := upSS_le t l.rows
  have c1 := s_heldByteSS l.rows t (by omega) hb h0 (by omega)
  have c2 := s_heldByteS l.cur.length (upSS t l.rows) hc (by omega) (by omega)
  have g1 : ¬ upSS t l.rows < 0 := by omega
  have g2 : ¬ upSS t l.rows + (l.cur.length : Int) < 0 := by omega
  simp -implicitDefEqProofs [X_laws_heldLine, retK_eq, c1, c2, g1, g2]
theorem s_markLineS (l : LnT) (hl : l.rows.length < 1100000) (hb : ∀ x ∈ l.rows, x.length < 1000000000) (hc : l.cur.length < 1000000000) (h1 : upSS 1 l.rows ≤ 10000000000) : X_laws_markLine [tlW 0 l, .int .i64 1] (tlM l) = some (.int .i64 (upSS 1 l.rows + l.cur.length), tlM (mkL 1 l)) := by
  obtain ⟨rows, cur, tt, n⟩ := l
  simp only at hl hb hc h1 ⊢
  have hup := upSS_le 1 rows
  have hN : ∀ r : List (List Int), famN (r.map elS) = r.length := elS_N
  have ea : ∀ l Q, tlM l ++ Q = famB 2 1 (l.rows.map elS) :: ownB eU8 l.cur :: (famM eU8 (l.rows.map elS) ++ Q) := fun l Q => by simp [tlM]
  have c1 : ∀ Q, rcall X_laws_markByteSS [slO 0 rows.length, .int .i64 1] (tlM ⟨rows, cur, tt, n⟩ ++ Q) = some (.int .i64 (upSS 1 rows), tlM ⟨markSS 1 rows, cur, tt, n⟩ ++ Q) := fun Q => by
    have h := rcall_famG eU8 [] [ownB eU8 cur] Q 1 rows.length rows.length (rows.map elS) ((markSS 1 rows).map elS) [.int .i64 1] (.int .i64 (upSS 1 rows)) rfl rfl (ok_S1 rows) (ok_S1 _) (by rw [hN, hN, markSS_len]) (by rw [hN]; omega) (s_markByteSS rows 1 (by omega) hb (by omega) (by omega))
    simp only [List.nil_append, List.length_nil] at h
    rw [ea, ea]
    exact h
  have c2 : ∀ Q, rcall X_laws_markByteS [slO 1 cur.length, .int .i64 (upSS 1 rows)] (tlM ⟨markSS 1 rows, cur, tt, n⟩ ++ Q) = some (.int .i64 (upSS 1 rows + cur.length), tlM (mkL 1 ⟨rows, cur, tt, n⟩) ++ Q) := fun Q => by
    rw [ea, ea, rcall_one (a := 1) (l := cur) rfl (rest := [.int .i64 (upSS 1 rows)]) rfl (v := .int .i64 (upSS 1 rows + cur.length)) rfl (s_markByteS cur (upSS 1 rows) hc (by omega) (by omega))]
    rfl
  have ll : ∀ l, (tlM l).length = l.rows.length + 2 := fun l => by simp [hN]
  have l0 := ll ⟨rows, cur, tt, n⟩
  have l1 := ll ⟨markSS 1 rows, cur, tt, n⟩
  have l2 := ll (mkL 1 ⟨rows, cur, tt, n⟩)
  rw [markSS_len] at l1 l2
  have ok : OkM (tlM (mkL 1 ⟨rows, cur, tt, n⟩)) := by
    intro b hb
    rw [l2]
    rcases List.mem_cons.1 hb with rfl | hb
    · exact famB_ok eU8 (ok_S1 _) (by rw [hN, markSS_len]; simp only; omega)
    · rcases List.mem_cons.1 hb with rfl | hb
      · exact own_ok eU8 _
      · exact famM_ok eU8 _ b hb
  have hn : nms (tlM (mkL 1 ⟨rows, cur, tt, n⟩)) = rows.length := by
    have h1 : (nmB (famB 2 1 ((markSS 1 rows).map elS))).length = rows.length := by
      rw [famB, nmB_fam eU8 _ _ 1 true (ok_S1 _)]
      simp [hN, markSS_len]
    rw [tlM, nms_cons, nms_cons, nms_fam, h1]
    simp
  have hret := fun pv Q => ok.retA Q (by rw [l2, hn]; simp only; omega) (v := .int .i64 (upSS 1 rows + cur.length)) rfl pv
  rw [l2, ← l0] at hret
  have hbx0 : ∀ b : Blk, (tlM ⟨rows, cur, tt, n⟩ ++ [b])[(tlM ⟨rows, cur, tt, n⟩).length]? = some b := fun b => by simp
  have hbx1 : ∀ b : Blk, (tlM ⟨markSS 1 rows, cur, tt, n⟩ ++ [b])[(tlM ⟨rows, cur, tt, n⟩).length]? = some b := fun b => by rw [l0, ← l1]; simp
  clear ea ll l0 l1 l2 ok hn
  generalize tlM (mkL 1 ⟨rows, cur, tt, n⟩) = M2 at *
  generalize tlM ⟨markSS 1 rows, cur, tt, n⟩ = M1 at *
  generalize tlM ⟨rows, cur, tt, n⟩ = M0 at *
  simp (maxSteps := 400000) -implicitDefEqProofs [-rcall_eq, X_laws_markLine, c1, c2, hbx0, hbx1, hret]
theorem can_rb (c : Int) : Can (lrB c) [] := ⟨by simp, by simp, by simp⟩
theorem rn_rb (c : Int) (N : Nat) : rnV 8 hard (sft N 0) (lrB c) = some (lrB c) := by simp
theorem fz_rb (c : Int) : fz 64 [] (lrB c) = some (lrF c false [] [] ⟨[], [], false, 0⟩) := by simp [frS_nil]
end Go.Ab
namespace Go.Ab
set_option maxHeartbeats 8000000
theorem l_markByteST (j : List Int) (c : Nat) (r : List Int) : ∀ (p : List Int) (t : Int) (q n : Nat), r.length < q → n = (p ++ r).length → n < 1000000000 → 0 ≤ t → t + r.length ≤ 1000000000000 → L_laws_markByteS 1 q 0 [slQ 0 0 n c, .int .i64 t, .int .i64 p.length] [ownB eU8 (p ++ (r ++ j))] = some (.int .i64 (t + r.length), [ownB eU8 (p ++ (markB t r.length ++ j))]) := by
  induction r with
  | nil =>
    intro p t q n hq hn hl h0 h1
    obtain ⟨q, rfl⟩ : ∃ n, q = n + 1 := ⟨q - 1, by omega⟩
    subst hn
    simp -implicitDefEqProofs [L_laws_markByteS, retK_eq, markB]
  | cons x r ih =>
    intro p t q n hq hn hl h0 h1
    obtain ⟨q, rfl⟩ : ∃ n, q = n + 1 := ⟨q - 1, by omega⟩
    simp only [List.length_cons] at h1
    have h := ih (p ++ [IntKind.u8.wrap t]) (t + 1) q n (by simp at hq; omega) (by simpa using hn) hl (by omega) (by push_cast at h1; omega)
    simp at h
    have hw := wrap_next (n := p.length) (by simp at hn; omega)
    have hw2 := wrap_one h0 (by omega)
    have hn' : n = p.length + (r.length + 1) := by simpa using hn
    subst hn'
    have hy := lay_mid eU8 p x (r ++ j) (IntKind.u8.wrap t)
    simp at hy
    have e : t + ((r.length : Int) + 1) = t + 1 + r.length := by omega
    simp +contextual -implicitDefEqProofs [L_laws_markByteS, retK_eq, cutK_eq, hw, hw2.1, hy, h, markB, e]
theorem s_markByteST (l j : List Int) (c : Nat) (t : Int) (hl : l.length < 1000000000) (h0 : 0 ≤ t) (h1 : t ≤ 100000000000) : X_laws_markByteS [slQ 0 0 l.length c, .int .i64 t] [ownB eU8 (l ++ j)] = some (.int .i64 (t + l.length), [ownB eU8 (markB t l.length ++ j)]) := by
  have h := l_markByteST j c l [] t QQ l.length (by unfold QQ; omega) rfl hl h0 (by omega)
  simp at h
  simp +contextual -implicitDefEqProofs [X_laws_markByteS, retK_eq, cutK_eq, h]
def mkE (t : Int) : EdT → EdT
  | none => none
  | some (l, j, c) => some (markB t l.length, j, c)
def mkP (t : Int) : List EdT → List EdT
  | [] => []
  | E :: r => mkE t E :: mkP (t + (oE E).length) r
theorem oE_mk (t : Int) (E : EdT) : oE (mkE t E) = markB t (oE E).length := by rcases E with _ | ⟨l, j, c⟩ <;> rfl
theorem oE_mkP (t : Int) (ps : List EdT) : (mkP t ps).map oE = markSS t (ps.map oE) := by
  induction ps generalizing t with
  | nil => rfl
  | cons E r ih => rw [mkP, List.map_cons, List.map_cons, markSS, ih, oE_mk]
theorem mkP_len (t : Int) (ps : List EdT) : (mkP t ps).length = ps.length := by
  induction ps generalizing t with
  | nil => rfl
  | cons E r ih => rw [mkP, List.length_cons, List.length_cons, ih]
theorem eB_mk (t : Int) (E : EdT) : (eB' (mkE t E)).length = (eB' E).length := by rcases E with _ | ⟨l, j, c⟩ <;> rfl
theorem eV_mk (k : Nat) (t : Int) (E : EdT) : eV k (mkE t E) = eV k E := by
  rcases E with _ | ⟨l, j, c⟩
  · rfl
  · show slQ k 0 (markB t l.length).length c = _
    rw [markB_len]
    rfl
theorem elP_nb (E : EdT) : (elP E).p.n = (eB' E).length := by rcases E with _ | ⟨l, j, c⟩ <;> rfl
theorem eB_le (E : EdT) : (eB' E).length ≤ 1 := by rcases E with _ | ⟨l, j, c⟩ <;> simp
theorem famX_P (k : Nat) (E : EdT) (r : List EdT) : famX k ((E :: r).map elP) = eV k E :: famX (k + (eB' E).length) (r.map elP) := by
  rw [List.map_cons, famX, elP_nb]
  rcases E with _ | ⟨l, j, c⟩ <;> rfl
theorem famM_P (E : EdT) (r : List EdT) : famM eU8 ((E :: r).map elP) = eB' E ++ famM eU8 (r.map elP) := by
  rw [List.map_cons, famM]
  congr 1
  rcases E with _ | ⟨l, j, c⟩ <;> rfl
theorem famN_Pc (E : EdT) (r : List EdT) : famN ((E :: r).map elP) = (eB' E).length + famN (r.map elP) := by
  rw [List.map_cons, famN, elP_nb]
theorem famN_mkP (t : Int) (ps : List EdT) : famN ((mkP t ps).map elP) = famN (ps.map elP) := by
  induction ps generalizing t with
  | nil => rfl
  | cons E r ih => rw [mkP, famN_Pc, famN_Pc, ih, eB_mk]
theorem famN_midP (p : List EdT) (E : EdT) (t : Int) (r : List EdT) : famN ((p ++ mkE t E :: r).map elP) = famN ((p ++ E :: r).map elP) := by
  rw [List.map_append, famN_app, famN_Pc, List.map_append, famN_app, famN_Pc, eB_mk]
theorem famX_Plen (k : Nat) (l : List EdT) : (famX k (l.map elP)).length = l.length := by
  induction l generalizing k with
  | nil => rfl
  | cons x r ih => rw [famX_P, List.length_cons, ih, List.length_cons]
theorem cell_P (k : Nat) (p : List EdT) (E : EdT) (r : List EdT) : (famX k ((p ++ E :: r).map elP))[p.length]? = some (eV (k + famN (p.map elP)) E) := by
  rw [List.map_append, famX_app, famX_P]
  have hl := famX_Plen k p
  rw [List.getElem?_append_right (by omega), hl, Nat.sub_self]
  rfl
abbrev memP (k : Nat) (l : List EdT) : Mem := famB k 1 (l.map elP) :: famM eU8 (l.map elP)
theorem memP_app (p : List EdT) (E : EdT) (r : List EdT) : famM eU8 ((p ++ E :: r).map elP) = famM eU8 (p.map elP) ++ (eB' E ++ famM eU8 (r.map elP)) := by
  rw [List.map_append, famM_app, famM_P]
theorem blk_P (k : Nat) (p : List EdT) (l j : List Int) (c : Nat) (r : List EdT) : (memP k (p ++ some (l, j, c) :: r))[1 + famN (p.map elP)]? = some (ownB eU8 (l ++ j)) := by
  rw [memP, memP_app p _ r, Nat.add_comm 1, List.getElem?_cons_succ]
  have hl : (famM eU8 (p.map elP)).length = famN (p.map elP) := famM_len eU8 _
  rw [List.getElem?_append_right (by omega), hl, Nat.sub_self]
  rfl
theorem set_P (k : Nat) (p : List EdT) (l j : List Int) (c : Nat) (t : Int) (r : List EdT) : (memP k (p ++ some (l, j, c) :: r)).set (1 + famN (p.map elP)) (ownB eU8 (markB t l.length ++ j)) = memP k (p ++ mkE t (some (l, j, c)) :: r) := by
  have hl : (famM eU8 (p.map elP)).length = famN (p.map elP) := famM_len eU8 _
  have h1 : famX k ((p ++ mkE t (some (l, j, c)) :: r).map elP) = famX k ((p ++ some (l, j, c) :: r).map elP) := by
    rw [List.map_append, famX_app, famX_P, List.map_append, famX_app, famX_P, eV_mk, eB_mk]
  unfold memP famB
  rw [h1, memP_app p _ r, memP_app p _ r, Nat.add_comm 1, List.set_cons_succ, List.set_append_right _ _ (by omega), hl, Nat.sub_self]
  rfl
theorem l_markByteSSP (r : List EdT) : ∀ (p : List EdT) (t : Int) (q n N : Nat), r.length < q → n = (p ++ r).length → N = famN ((p ++ r).map elP) → n < 1100000 → (∀ x ∈ r, (oE x).length < 1000000000) → 0 ≤ t → upSS t (r.map oE) ≤ 100000000000 → ∀ c, L_laws_markByteSS (N + 1) q 0 [slQ 0 0 n c, .int .i64 t, .int .i64 p.length] (memP 1 (p ++ r)) = some (.int .i64 (upSS t (r.map oE)), memP 1 (p ++ mkP t r)) := by
  induction r with
  | nil =>
    intro p t q n N hq hn hN hl hb h0 h1 c
    obtain ⟨q, rfl⟩ : ∃ n, q = n + 1 := ⟨q - 1, by omega⟩
    have hn' : n = p.length := by simpa using hn
    subst hn'
    rw [List.append_nil] at hN
    have hle := famN_P p
    have hret := fun pv => retN_fam eU8 (k := N + 1) (s := 1) (es := p.map elP) (pv := pv) (v := .int .i64 t) rfl (by rw [hN]) (ok_P p) (by omega)
    rw [List.append_nil, mkP, List.append_nil, List.map_nil, upSS]
    generalize hM : memP 1 p = M
    have hret : ∀ pv, retK (N + 1) M pv (.int .i64 t) = some (.int .i64 t, M) := by rw [← hM]; exact hret
    simp -implicitDefEqProofs [L_laws_markByteSS, hret]
  | cons E r ih =>
    intro p t q n N hq hn hN hl hb h0 h1 c
    obtain ⟨q, rfl⟩ : ∃ n, q = n + 1 := ⟨q - 1, by omega⟩
    have hn' : n = p.length + (r.length + 1) := by simpa using hn
    have hup := upSS_le (t + (oE E).length) (r.map oE)
    rw [List.map_cons, upSS] at h1
    have hNm := famN_midP p E t r
    have h := ih (p ++ [mkE t E]) (t + (oE E).length) q n N (by simp at hq; omega) (by simpa using hn) (by rw [hN, ← hNm]; simp) hl (fun y hy => hb y (by simp [hy])) (by omega) h1 c
    have hw := wrap_next (n := p.length) (by omega)
    have hz := fun n' o cc => ixa_sl (sz := 1) .i64 (n := n') (o := o) (len := n) (c := cc) (j := (p.length : Int)) (by omega) (by omega)
    simp only [Int.toNat_natCast] at hz
    have hle := famN_P (p ++ E :: r)
    have hcell := cell_P 1 p E r
    have hcut := fun pv J => cutN_fam eU8 (k := N + 1) (s := 1) (n := n) (c := c) (es := (p ++ mkE t E :: r).map elP) (xs := []) (ys := [.int .i64 (t + (oE E).length), .int .i64 ((p.length : Int) + 1)]) (pv := pv) (J := J) (by rw [hNm, hN]) rfl rfl (ok_P _) (by rw [hNm]; rw [← hn] at hle; omega)
    simp only [List.nil_append] at hcut
    have e1 : p ++ [mkE t E] ++ r = p ++ mkE t E :: r := by simp
    have e2 : ((p ++ [mkE t E]).length : Int) = p.length + 1 := by simp
    have e3 : p ++ [mkE t E] ++ mkP (t + (oE E).length) r = p ++ mkE t E :: mkP (t + (oE E).length) r := by simp
    rw [e1, e2, e3] at h
    rw [List.map_cons, upSS, mkP]
    have hM0 : (memP 1 (p ++ E :: r))[0]? = some ⟨famX 1 ((p ++ E :: r).map elP), 1, true, true⟩ := rfl
    have hC : (famX 1 ((p ++ E :: r).map elP)).length = p.length + (r.length + 1) := by rw [famX_Plen]; simp
    have hcut : ∀ pv J, cutK (N + 1) (memP 1 (p ++ mkE t E :: r)) pv [slQ 0 0 n c, .int .i64 (t + (oE E).length), .int .i64 ((p.length : Int) + 1)] J = J [slQ 0 0 n c, .int .i64 (t + (oE E).length), .int .i64 ((p.length : Int) + 1)] (memP 1 (p ++ mkE t E :: r)) := hcut
    have hr : rcall X_laws_markByteS [eV (1 + famN (p.map elP)) E, .int .i64 t] (memP 1 (p ++ E :: r)) = some (.int .i64 (t + (oE E).length), memP 1 (p ++ mkE t E :: r)) := by
      rcases E with _ | ⟨l, j, cc⟩
      · have hr := rc_nilW (memP 1 (p ++ none :: r)) t
        have e : t + ((oE none).length : Int) = t := Int.add_zero t
        rw [e]
        exact hr
      · have hb' : l.length < 1000000000 := hb (some (l, j, cc)) (by simp)
        have := rcall_one (n := l.length) (c := cc) (blk_P 1 p l j cc r) (rest := [.int .i64 t]) rfl (v := .int .i64 (t + l.length)) rfl (s_markByteST l j cc t hb' h0 (by have : ((oE (some (l, j, cc))).length : Int) = l.length := rfl; omega))
        rw [set_P] at this
        exact this
    generalize eV (1 + famN (p.map elP)) E = XV at *
    generalize memP 1 (p ++ mkE t E :: r) = M2 at *
    generalize memP 1 (p ++ E :: r) = M at *
    generalize famX 1 ((p ++ E :: r).map elP) = C at *
    generalize t + ((oE E).length : Int) = T at *
    have g1 : (p.length : Int) < n := by omega
    have g2 : p.length + 1 ≤ C.length := by omega
    simp (maxSteps := 400000) -implicitDefEqProofs [-rcall_eq, L_laws_markByteSS, hw, hz, g1, g2, hM0, hcell, hr, hcut, h]
theorem s_markByteSSP (l : List EdT) (c : Nat) (t : Int) (hl : l.length < 1100000) (hb : ∀ x ∈ l, (oE x).length < 1000000000) (h0 : 0 ≤ t) (h1 : upSS t (l.map oE) ≤ 100000000000) : X_laws_markByteSS [slQ 0 0 l.length c, .int .i64 t] (memP 1 l) = some (.int .i64 (upSS t (l.map oE)), memP 1 (mkP t l)) := by
  have h := l_markByteSSP l [] t QQ l.length (famN (l.map elP)) (by unfold QQ; omega) rfl rfl hl hb h0 h1 c
  have hle := famN_P l
  have hcut := fun pv J => cutN_fam eU8 (k := famN (l.map elP) + 1) (s := 1) (n := l.length) (c := c) (es := l.map elP) (xs := []) (ys := [.int .i64 t, .int .i64 0]) (pv := pv) (J := J) rfl rfl rfl (ok_P _) (by omega)
  simp only [List.nil_append, List.length_nil, Int.natCast_zero] at h hcut
  have hcut : ∀ pv J, cutK (famN (l.map elP) + 1) (memP 1 l) pv [slQ 0 0 l.length c, .int .i64 t, .int .i64 0] J = J [slQ 0 0 l.length c, .int .i64 t, .int .i64 0] (memP 1 l) := hcut
  have hM : (memP 1 l).length = famN (l.map elP) + 1 := by simp
  generalize memP 1 l = M at *
  simp (maxSteps := 400000) -implicitDefEqProofs [X_laws_markByteSS, hM, hcut, h]
end Go.Ab
namespace Go.Ab
set_option maxHeartbeats 8000000
abbrev liP (o : Nat) (E : EdT) (es : List (El Int)) : Mem := famB (o + 1 + (eB' E).length) 1 es :: (eB' E ++ famM eU8 es)
theorem liP_len (o : Nat) (E : EdT) (es : List (El Int)) : (liP o E es).length = 1 + (eB' E).length + famN es := by simp; omega
theorem liP_app (o : Nat) (E : EdT) (es : List (El Int)) (Q : Mem) : liP o E es ++ Q = famB (o + 1 + (eB' E).length) 1 es :: (eB' E ++ (famM eU8 es ++ Q)) := by
  unfold liP
  simp
theorem eB_own (E : EdT) : ∀ b ∈ eB' E, ∃ l, b = ownB eU8 l := by
  rcases E with _ | ⟨l, j, c⟩
  · intro b hb; cases hb
  · intro b hb
    simp at hb
    exact ⟨_, hb⟩
theorem own_allP (E : EdT) (es : List (El Int)) (i : Nat) (hi : i < (eB' E ++ famM eU8 es).length) : ∃ l, (eB' E ++ famM eU8 es)[i]? = some (ownB eU8 l) := by
  have hm : (eB' E ++ famM eU8 es)[i] ∈ eB' E ++ famM eU8 es := List.getElem_mem hi
  rw [List.getElem?_eq_getElem hi]
  rcases List.mem_append.1 hm with h | h
  · obtain ⟨l, hl⟩ := eB_own E _ h
    exact ⟨l, by rw [hl]⟩
  · obtain ⟨k, hk⟩ := List.mem_iff_getElem?.1 h
    obtain ⟨l, hl⟩ := fam_own eU8 es k _ hk
    exact ⟨l, by rw [hl]⟩
def SlE (m : Mem) (v : Value) (E : EdT) (ns : List Nat) : Prop := (E = none ∧ v = nilW ∧ ns = []) ∨ ∃ l j c e, E = some (l, j, c) ∧ v = slQ e 0 l.length c ∧ ns = [e] ∧ m[e]? = some (ownB eU8 (l ++ j))
theorem has_ln {m : Mem} {r n c : Nat} {ix ne : List Nat} {E : EdT} {es : List (El Int)} {ev : Value} {t : Bool} {k : Int} (hF : Fam eU8 m r 1 ix es) (he : SlE m ev E ne) (hn : (r :: (ne ++ ix)).Nodup) (hl : famN es < 4000000) : Has m (.agg #[slQ r 0 n c, ev, .bool t, .int .i64 k]) (r :: (ne ++ ix)) (.agg #[slQ 0 0 n c, eV 1 E, .bool t, .int .i64 k]) (liP 0 E es) := by
  have hx := hF.len
  have nmr : nmB ⟨famI ix es, 1, true, true⟩ = ix := hF.nmB
  rcases he with ⟨rfl, rfl, rfl⟩ | ⟨l, j, ce, e, rfl, rfl, rfl, he⟩
  · have hn : ([r] ++ ix).Nodup := by simpa using hn
    have h1 : reachF 4194304 m [r] [] = some (r :: ix) := by
      rw [reach_one hF.out (by simp) nmr, List.nil_append]
      exact hF.tail eU8 [r] (fun n hn' h => by simp at h; subst h; exact (List.nodup_cons.1 hn).1 hn') (by omega)
    have lo : locB (r :: ix) ⟨famI ix es, 1, true, true⟩ = some (famB 1 1 es) := hF.locO eU8 (pre := [r]) hn
    have h2' : locM m (r :: ix) (r :: ix) = some (famB 1 1 es :: famM eU8 es) := by
      rw [loc_one hF.out lo, hF.locI]
      rfl
    exact has_of h1 h2' (by simp)
  · have hn : ([r, e] ++ ix).Nodup := by simpa using hn
    have h1 : reachF 4194304 m [r, e] [] = some (r :: e :: ix) := by
      rw [reach_one hF.out (by simp) nmr, List.cons_append, List.nil_append, reach_one he (by intro q; simp at q; subst q; simp at hn) (nmB_own eU8 _), List.append_nil]
      exact hF.tail eU8 [r, e] (fun n hn' q => by
        rw [List.nodup_append] at hn
        exact hn.2.2 n q n hn' rfl) (by omega)
    have lo : locB (r :: e :: ix) ⟨famI ix es, 1, true, true⟩ = some (famB 2 1 es) := hF.locO eU8 (pre := [r, e]) hn
    have h2' : locM m (r :: e :: ix) (r :: e :: ix) = some (famB 2 1 es :: ownB eU8 (l ++ j) :: famM eU8 es) := by
      rw [loc_one hF.out lo, loc_one he (locB_own eU8 _ _), hF.locI]
      rfl
    have hne : ¬ r = e := by intro q; subst q; simp at hn
    exact has_of h1 h2' (by simp [hne])
theorem row_ln (A B : Mem) (E : EdT) (es : List (El Int)) (hok : ∀ e ∈ es, e.ok eU8) : Fam eU8 (A ++ (liP A.length E es ++ B)) A.length 1 (List.range' (A.length + 1 + (eB' E).length) (famN es)) es ∧ SlE (A ++ (liP A.length E es ++ B)) (eV (A.length + 1) E) E (List.range' (A.length + 1) (eB' E).length) := by
  have g : ∀ i x, (liP A.length E es)[i]? = some x → (A ++ (liP A.length E es ++ B))[A.length + i]? = some x := fun i x h => by
    have hi := (List.getElem?_eq_some_iff.1 h).1
    rw [List.getElem?_append_right (by omega), Nat.add_sub_cancel_left, List.getElem?_append_left hi]
    exact h
  refine ⟨Fam.of_row eU8 ?_ (fun i x h => ?_) (by omega) hok, ?_⟩
  · simp
  · have := g (1 + (eB' E).length + i) x (by
      rw [show 1 + (eB' E).length + i = (eB' E).length + i + 1 by omega, List.getElem?_cons_succ, List.getElem?_append_right (by omega), Nat.add_sub_cancel_left]
      exact h)
    rw [← Nat.add_assoc, ← Nat.add_assoc] at this
    exact this
  · rcases E with _ | ⟨l, j, c⟩
    · exact .inl ⟨rfl, rfl, rfl⟩
    · exact .inr ⟨l, j, c, A.length + 1, rfl, rfl, rfl, g 1 _ rfl⟩
theorem rng_ln (o e N : Nat) : o :: (List.range' (o + 1) e ++ List.range' (o + 1 + e) N) = List.range' o (1 + e + N) := by
  rw [List.range'_append_1, show 1 + e + N = (e + N) + 1 by omega, List.range'_succ]
theorem rcall_liP {X : List Value → Mem → Option VM} (A B : Mem) (E E' : EdT) (n c : Nat) (t : Bool) (m : Int) (es es' : List (El Int)) (rest : List Value) (v : Value) (hrest : rest.all scal = true) (hv : scal v = true) (hok : ∀ e ∈ es, e.ok eU8) (hok' : ∀ e ∈ es', e.ok eU8) (hN : famN es' = famN es) (hc : (eB' E').length = (eB' E).length) (hn : famN es < 4000000) (hX : X (.agg #[slQ 0 0 n c, eV 1 E, .bool t, .int .i64 m] :: rest) (liP 0 E es) = some (v, liP 0 E' es')) : rcall X (.agg #[slQ A.length 0 n c, eV (A.length + 1) E, .bool t, .int .i64 m] :: rest) (A ++ (liP A.length E es ++ B)) = some (v, A ++ (liP A.length E' es' ++ B)) := by
  obtain ⟨hF, hS⟩ := row_ln A B E es hok
  have H := has_ln (n := n) (c := c) (t := t) (k := m) hF hS (by rw [rng_ln]; exact List.nodup_range') hn
  rw [rng_ln] at H
  have h1 := H.reach
  have h2 := H.mem
  have hE := eB_le E
  have hrv := H.val
  have hnm : (Value.agg #[slQ A.length 0 n c, eV (A.length + 1) E, .bool t, .int .i64 m] :: rest).flatMap (nmV 8) = nmV 8 (.agg #[slQ A.length 0 n c, eV (A.length + 1) E, .bool t, .int .i64 m]) := by
    rw [List.flatMap_cons, nm_scal hrest, List.append_nil]
  have hrn : mapO (rnV 8 inert (ixOf (List.range' A.length (1 + (eB' E).length + famN es)))) (.agg #[slQ A.length 0 n c, eV (A.length + 1) E, .bool t, .int .i64 m] :: rest) = some (.agg #[slQ 0 0 n c, eV 1 E, .bool t, .int .i64 m] :: rest) := by
    have hr := rn_scal (j := 7) (π := ixOf (List.range' A.length (1 + (eB' E).length + famN es))) (l := rest) (r := []) hrest
    rw [List.append_nil] at hr
    rw [mapO_cons, hrv, hr]
    simp [mapO]
  have hlen : (List.range' A.length (1 + (eB' E).length + famN es)).length = 1 + (eB' E).length + famN es := by simp
  have hlen2 : (liP 0 E' es').length = 1 + (eB' E).length + famN es := by rw [liP_len, hc, hN]
  rw [rcall_eq, hnm, h1, bo_some, hrn, bo_some, h2, bo_some]
  rw [hX, bo_some]
  simp only
  rw [if_pos (by rw [hlen, hlen2]; exact Nat.le_refl _), rnV_scal hv, bo_some, hlen2]
  generalize hLL : (A ++ (liP A.length E es ++ B)).length = LL
  generalize hπ : bk (List.range' A.length (1 + (eB' E).length + famN es)) LL (1 + (eB' E).length + famN es) = π
  have hbk : ∀ i, i < 1 + (eB' E).length + famN es → π i = some (A.length + i) := by
    intro i hi
    rw [← hπ]
    unfold bk
    rw [hlen, if_pos (by omega), List.getElem?_range' (by omega)]
    simp
  have hm1 := bkB_fam eU8 (π := π) es' (0 + 1 + (eB' E').length) (A.length + 1 + (eB' E').length) 1 true hok' (fun i hi => by rw [hbk _ (by omega), show A.length + (0 + 1 + (eB' E').length + i) = A.length + 1 + (eB' E').length + i by omega])
  have hm2 := mapB_fam eU8 (π := π) (eB' E' ++ famM eU8 es') (own_allP E' es')
  rw [show (⟨famX (0 + 1 + (eB' E').length) es', 1, true, true⟩ : Blk) = famB (0 + 1 + (eB' E').length) 1 es' from rfl, show (⟨famX (A.length + 1 + (eB' E').length) es', 1, true, true⟩ : Blk) = famB (A.length + 1 + (eB' E').length) 1 es' from rfl] at hm1
  rw [mapB_cons, hm1, bo_some, hm2, bo_some, bo_some]
  have hbs : (liP A.length E' es').length = 1 + (eB' E).length + famN es := by rw [liP_len, hc, hN]
  have hs := setAll_seg A (liP A.length E es) B (liP A.length E' es') (by rw [hbs, liP_len])
  rw [liP_len] at hs
  rw [hlen, List.take_of_length_le (Nat.le_of_eq hbs), List.drop_of_length_le (Nat.le_of_eq hbs), List.append_nil, hs]
theorem liP_ok (o N : Nat) (E : EdT) (es : List (El Int)) (hok : ∀ e ∈ es, e.ok eU8) (hN : o + 1 + (eB' E).length + famN es ≤ N) : ∀ b ∈ liP o E es, b.live = true ∧ locB (List.range N) b = some b ∧ ∀ n ∈ b.cells.flatMap (nmV 8), n < N := by
  intro b hb
  rcases List.mem_cons.1 hb with rfl | hb
  · exact famB_ok eU8 hok hN
  · rcases List.mem_append.1 hb with hb | hb
    · obtain ⟨l, rfl⟩ := eB_own E b hb
      exact own_ok eU8 l
    · exact famM_ok eU8 _ b hb
theorem nms_eB (E : EdT) : nms (eB' E) = 0 := by
  rcases E with _ | ⟨l, j, c⟩
  · rfl
  · simp [nms]
theorem liP_nms (o : Nat) (E : EdT) (es : List (El Int)) (hok : ∀ e ∈ es, e.ok eU8) : nms (liP o E es) = famN es := by
  have h1 : (nmB (famB (o + 1 + (eB' E).length) 1 es)).length = famN es := by
    rw [famB, nmB_fam eU8 es _ 1 true hok]
    simp
  rw [nms_cons, nms_app, nms_fam, h1, nms_eB]
  omega
theorem rc_rowsP (E : EdT) (ps : List EdT) (c : Nat) (t : Int) (Q : Mem) (hl : ps.length < 1000000) (hb : ∀ x ∈ ps, (oE x).length < 1000000000) (h0 : 0 ≤ t) (h1 : upSS t (ps.map oE) ≤ 100000000000) : rcall X_laws_markByteSS [slQ 0 0 ps.length c, .int .i64 t] (liP 0 E (ps.map elP) ++ Q) = some (.int .i64 (upSS t (ps.map oE)), liP 0 E ((mkP t ps).map elP) ++ Q) := by
  have hN := famN_P ps
  have h := rcall_famG eU8 [] (eB' E) Q 1 ps.length c (ps.map elP) ((mkP t ps).map elP) [.int .i64 t] (.int .i64 (upSS t (ps.map oE))) rfl rfl (ok_P ps) (ok_P _) (famN_mkP t ps) (by omega) (s_markByteSSP ps c t (by omega) hb h0 h1)
  simp only [List.nil_append, List.length_nil] at h
  rw [liP_app, liP_app]
  exact h
theorem rc_editP (E : EdT) (es : List (El Int)) (t : Int) (Q : Mem) (hc : (oE E).length < 1000000000) (h0 : 0 ≤ t) (h1 : t ≤ 100000000000) : rcall X_laws_markByteS [eV 1 E, .int .i64 t] (liP 0 E es ++ Q) = some (.int .i64 (t + (oE E).length), liP 0 (mkE t E) es ++ Q) := by
  rcases E with _ | ⟨l, j, c⟩
  · have hr := rc_nilW (liP 0 none es ++ Q) t
    have e : t + ((oE none).length : Int) = t := Int.add_zero t
    rw [e]
    exact hr
  · rw [liP_app, liP_app]
    have hc' : l.length < 1000000000 := hc
    have := rcall_one (m := famB (0 + 1 + (eB' (some (l, j, c))).length) 1 es :: (eB' (some (l, j, c)) ++ (famM eU8 es ++ Q))) (a := 1) (n := l.length) (c := c) (l := l ++ j) rfl (rest := [.int .i64 t]) rfl (v := .int .i64 (t + l.length)) rfl (s_markByteST l j c t hc' h0 h1)
    exact this
theorem s_markLineP (E : EdT) (ps : List EdT) (c : Nat) (tt : Bool) (n t : Int) (hl : ps.length < 1000000) (hb : ∀ x ∈ ps, (oE x).length < 1000000000) (hc : (oE E).length < 1000000000) (h0 : 0 ≤ t) (h1 : upSS t (ps.map oE) ≤ 10000000000) : X_laws_markLine [.agg #[slQ 0 0 ps.length c, eV 1 E, .bool tt, .int .i64 n], .int .i64 t] (liP 0 E (ps.map elP)) = some (.int .i64 (upSS t (ps.map oE) + (oE E).length), liP 0 (mkE (upSS t (ps.map oE)) E) ((mkP t ps).map elP)) := by
  have hup := upSS_le t (ps.map oE)
  have hN := famN_P ps
  have c1 := fun Q => rc_rowsP E ps c t Q hl hb h0 (by omega)
  have c2 := fun Q => rc_editP E ((mkP t ps).map elP) (upSS t (ps.map oE)) Q hc (by omega) (by omega)
  generalize upSS t (ps.map oE) = U at *
  have l0 := liP_len 0 E (ps.map elP)
  have l1 := liP_len 0 E ((mkP t ps).map elP)
  have l2 := liP_len 0 (mkE U E) ((mkP t ps).map elP)
  rw [famN_mkP] at l1 l2
  rw [eB_mk] at l2
  have hE := eB_le E
  have ok : OkM (liP 0 (mkE U E) ((mkP t ps).map elP)) := liP_ok 0 _ _ _ (ok_P _) (by rw [liP_len]; omega)
  have hn := liP_nms 0 (mkE U E) ((mkP t ps).map elP) (ok_P _)
  rw [famN_mkP] at hn
  have hret := fun pv Q => ok.retA Q (by omega) (v := .int .i64 (U + (oE E).length)) rfl pv
  rw [l2, ← l0] at hret
  have g1 : (liP 0 E ((mkP t ps).map elP)).length = (liP 0 E (ps.map elP)).length := by rw [l0, l1]
  have hbx : ∀ b : Blk, (liP 0 E ((mkP t ps).map elP) ++ [b])[(liP 0 E (ps.map elP)).length]? = some b := fun b => by rw [← g1]; simp
  have hbx0 : ∀ b : Blk, (liP 0 E (ps.map elP) ++ [b])[(liP 0 E (ps.map elP)).length]? = some b := fun b => by simp
  have hf : flat (eV 1 E) = true := by rcases E with _ | ⟨l, j, c⟩ <;> rfl
  clear l0 l1 l2 ok hn g1
  generalize liP 0 E ((mkP t ps).map elP) = M1 at *
  generalize liP 0 (mkE U E) ((mkP t ps).map elP) = M2 at *
  generalize liP 0 E (ps.map elP) = M0 at *
  generalize eV 1 E = EV at *
  generalize (oE E).length = OL at *
  simp (maxSteps := 400000) -implicitDefEqProofs [-rcall_eq, X_laws_markLine, c1, c2, hbx, hbx0, hret, hf]
end Go.Ab
