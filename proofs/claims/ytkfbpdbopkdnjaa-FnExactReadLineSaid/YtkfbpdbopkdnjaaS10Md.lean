/- What the functions of the program answer, for all arguments that the theorems name as conditions. -/
import Derived.Test.YtkfbpdbopkdnjaaS10Mb
import Derived.Test.YtkfbpdbopkdnjaaS10Mc
import Derived.Test.YtkfbpdbopkdnjaaFD
namespace Go.Ab
set_option linter.unusedSimpArgs false
set_option linter.unusedVariables false
set_option maxHeartbeats 4000000

/-! ## ReadLine of the reference: the loop -/
theorem s_spec_l1Min (a b : Int) : X_spec_l1Min [.int .i64 a, .int .i64 b] [] = some (.int .i64 (min a b), []) := by
  by_cases h : a < b <;> simp -implicitDefEqProofs [X_spec_l1Min, retK_eq, h] <;> omega
/-- What is read, and what stays. -/
def rdS (c : Bool) (n : Nat) : List Int → List (List Int) → List Int × List (List Int)
  | out, [] => (out, [])
  | out, x :: r => if out.length < n then (if n - out.length < x.length then (out ++ x.take (n - out.length), x.drop (n - out.length) :: r) else if c then (out ++ x, r) else rdS c n (out ++ x) r) else (out, x :: r)
abbrev rsB (w : Value) (cur : List Int) (t : Bool) (m : Int) : Blk := blk [.int .i64 0, .bool true, nilW, nilW, w, frS eU8 cur, .bool t, .int .i64 m]
def rdyV (k : Nat) (p : List (List Int)) : List (List Int) → Value
  | [] => slQ k (p.length - 1) 0 0
  | x :: r => slQ k p.length (r.length + 1) (r.length + 1)
theorem rdyV_nil (k : Nat) (p : List (List Int)) : rdyV k p [] = slQ k (p.length - 1) 0 0 := rfl
theorem rdyV_cons (k : Nat) (p : List (List Int)) (x : List Int) (r : List (List Int)) : rdyV k p (x :: r) = slQ k p.length (r.length + 1) (r.length + 1) := rfl
@[simp] theorem cellB (p r : List (List Int)) (x : List Int) : (cellsE eBS (p ++ x :: r))[p.length]? = some (frS eU8 x) := by
  have := cell_at eBS (l := p ++ x :: r) (i := p.length) (o := 0) (by simp) (by simp)
  rw [gt_mid, eBS_sz, Nat.mul_one, Nat.add_zero] at this
  exact this
@[simp] theorem cellB' (p r : List (List Int)) (x : List Int) (h : p.length < (cellsE eBS (p ++ x :: r)).length) : (cellsE eBS (p ++ x :: r))[p.length]'h = frS eU8 x := by
  have := cellB p r x
  rw [List.getElem?_eq_getElem h] at this
  exact Option.some.inj this
theorem l_spec_l11Read (w : WayT) (cur : List Int) (t : Bool) (m : Int) (n : Nat) (hn : n ≤ 99) (r : List (List Int)) : ∀ (p : List (List Int)) (out : List Int) (q : Nat), r.length < q → (p ++ r).length < 1000000 → (r = [] → p ≠ []) → (∀ x ∈ r, x.length < 1000000000) → out.length ≤ 99 → ∃ p' : List (List Int), p'.length + (rdS (cnB w) n out r).2.length = (p ++ r).length ∧ ((rdS (cnB w) n out r).2 = [] → p' ≠ []) ∧ L_spec_l11Read 3 q 0 [ptr 0, .pointer (some ⟨1, 4, none⟩), .int .i64 n, slO 3 out.length] [blk (wayT w []), rsB (rdyV 2 p r) cur t m, ownB eBS (p ++ r), ownB eU8 out] = some (slO 3 (rdS (cnB w) n out r).1.length, [blk (wayT w []), rsB (rdyV 2 p' (rdS (cnB w) n out r).2) cur t m, ownB eBS (p' ++ (rdS (cnB w) n out r).2), ownB eU8 (rdS (cnB w) n out r).1]) := by
  induction r with
  | nil =>
    intro p out q hq hl hp hb ho
    obtain ⟨q, rfl⟩ : ∃ n, q = n + 1 := ⟨q - 1, by omega⟩
    refine ⟨p, by simp [rdS], fun _ => hp rfl, ?_⟩
    simp -implicitDefEqProofs [L_spec_l11Read, retK_eq, rdyV_nil, rdyV_cons, rdS]
  | cons x r ih =>
    intro p out q hq hl hp hb ho
    obtain ⟨q, rfl⟩ : ∃ n, q = n + 1 := ⟨q - 1, by omega⟩
    have hx := cell_at eBS (l := p ++ x :: r) (i := p.length) (o := 0) (by simp) (by simp)
    have ix0 : ixaX 1 (slQ 2 p.length (r.length + 1) (r.length + 1)) (.int .i64 0) = some (.pointer (some ⟨2, p.length, none⟩)) := by
      have := ixa_sl (sz := 1) .i64 (n := 2) (o := p.length) (len := r.length + 1) (c := r.length + 1) (j := 0) (by omega) (by omega)
      simpa using this
    by_cases h1 : out.length < n
    · obtain ⟨K, hK⟩ : ∃ K, K = min x.length (n - out.length) := ⟨_, rfl⟩
      have h1' : (out.length : Int) < n := by omega
      have hsub : IntKind.i64.wrap ((n : Int) - out.length) = (n : Int) - out.length := wrap_i64 (by omega) (by omega)
      have hmin : min (x.length : Int) ((n : Int) - out.length) = (K : Int) := by omega
      have hxl := hb x (by simp)
      have s1 := fun m => sl_frS eU8 (m := m) (sz := 1) rfl (l := x) (lo := none) (hi := some (.int .i64 (K : Int))) (a := 0) (b := K) rfl (bnd_nat .i64 K _) (by omega) (by omega)
      simp only [List.drop_zero, Nat.sub_zero] at s1
      have eK : (x.take K).length = K := by simp; omega
      have p1 := fun m n c => apL_frS (E := eU8) (m := m) (sz := 1) (bytes := 1) (n := n) (o := 0) (len := out.length) (c := c) (l := x.take K) rfl (by omega) (by omega)
      have p2 := fun m n cs k => apB_own (E := eU8) (m := m) (l := out) (n := n) (sz := 1) (cs := cs) (k := k) rfl
      have k2 : (⟨cellsE eU8 out ++ cellsE eU8 (x.take K), 1, true, true⟩ : Blk) = ownB eU8 (out ++ x.take K) := by rw [← cellsE_append]; rfl
      rw [eK] at p1
      by_cases h2 : n - out.length < x.length
      · have hKx : (K : Int) < x.length := by omega
        have hKe : n - out.length = K := by omega
        have s2 := fun m => sl_frS eU8 (m := m) (sz := 1) rfl (l := x) (lo := some (.int .i64 (K : Int))) (hi := none) (a := K) (b := x.length) (bnd_nat .i64 K _) rfl (by omega) (by omega)
        rw [List.take_of_length_le (by simp)] at s2
        have hc := s_spec_l1Copy (x.drop K) (by simp; omega)
        have ed : (x.drop K).length = x.length - K := by simp
        have hfz := fun k m => fzO_own eU8 k m (x.drop K)
        rw [ed] at hfz
        have hy := lay_mid eBS p x r (x.drop K)
        simp at hy
        refine ⟨p, by simp [rdS, h1, h2], fun h => by simp [rdS, h1, h2] at h, ?_⟩
        rw [hKe] at h2
        simp only [rdS, if_pos h1, hKe, if_pos h2]
        simp -implicitDefEqProofs [L_spec_l11Read, retK_eq, rdyV_nil, rdyV_cons, h1', hx, hsub, s_spec_l1Min, hmin, s1, p1, p2, k2, hKx, s2, hc, hy, eK, ix0, hfz]
      · have hKe : K = x.length := by omega
        have hKx : ¬ (K : Int) < x.length := by omega
        have et : x.take K = x := List.take_of_length_le (by omega)
        rw [et] at k2 s1 p1
        subst hKe
        have e1 : p ++ [x] ++ r = p ++ x :: r := by simp
        have hcn := s_spec_l10Has w []
        have p1' := fun m n c => p1 m n c
        cases r with
        | nil =>
          have s3 := fun b0 b1 b3 b4 => sl_own_end [b0, b1, ownB eBS (p ++ [x]), b3, b4] (sz := 1) (n := 2) (o := p.length) (len := 1) (c := 1) (b := 1) (lo := some (.int .i64 1)) (hi := none) rfl (bnd_nat .i64 1 _) rfl (by omega) (by omega)
          simp at s3
          simp only [List.length_nil, Nat.zero_add] at ix0
          by_cases hc : cnB w = true
          · refine ⟨p ++ [x], by simp [rdS, h1, h2, hc], fun _ => by simp, ?_⟩
            simp only [rdS, if_pos h1, if_neg h2, if_pos hc]
            simp -implicitDefEqProofs [L_spec_l11Read, retK_eq, rdyV_nil, rdyV_cons, h1', hx, hsub, s_spec_l1Min, hmin, s1, p1, p2, k2, hKx, ix0, s3, hcn, hc]
          · have h := ih (p ++ [x]) (out ++ x) q (by simp at hq; omega) (by simpa using hl) (fun _ => by simp) (fun y hy => hb y (by simp [hy])) (by simp; omega)
            obtain ⟨p', g1, g2, g3⟩ := h
            rw [e1] at g3
            refine ⟨p', ?_, ?_, ?_⟩
            · rw [rdS, if_pos h1, if_neg h2, if_neg hc]; rw [g1]; simp
            · rw [rdS, if_pos h1, if_neg h2, if_neg hc]; exact g2
            · rw [rdS, if_pos h1, if_neg h2, if_neg hc]
              rw [← g3]
              simp -implicitDefEqProofs [L_spec_l11Read, cutK_eq, rdyV_nil, rdyV_cons, h1', hx, hsub, s_spec_l1Min, hmin, s1, p1, p2, k2, hKx, ix0, s3, hcn, hc]
        | cons y r =>
          have s3 := fun b0 b1 b3 b4 => sl_own (m := [b0, b1, ownB eBS (p ++ x :: y :: r), b3, b4]) (sz := 1) (n := 2) (o := p.length) (len := r.length + 1 + 1) (c := r.length + 1 + 1) (a := 1) (b := r.length + 1 + 1) (lo := some (.int .i64 1)) (hi := none) rfl (bnd_nat .i64 1 _) rfl (by omega) (by omega) (by omega)
          simp at s3
          simp only [List.length_cons] at ix0
          have hpos : (0 : Int) < (r.length : Int) + 1 + 1 := by omega
          by_cases hc : cnB w = true
          · refine ⟨p ++ [x], by simp [rdS, h1, h2, hc]; omega, fun _ => by simp, ?_⟩
            simp only [rdS, if_pos h1, if_neg h2, if_pos hc]
            simp -implicitDefEqProofs [L_spec_l11Read, retK_eq, rdyV_nil, rdyV_cons, h1', hx, hsub, s_spec_l1Min, hmin, s1, p1, p2, k2, hKx, ix0, s3, hcn, hc, hpos]
          · have h := ih (p ++ [x]) (out ++ x) q (by simp at hq ⊢; omega) (by simpa using hl) (fun _ => by simp) (fun y hy => hb y (List.mem_cons_of_mem _ hy)) (by simp; omega)
            obtain ⟨p', g1, g2, g3⟩ := h
            rw [e1] at g3
            refine ⟨p', ?_, ?_, ?_⟩
            · rw [rdS, if_pos h1, if_neg h2, if_neg hc]; rw [g1]; simp
            · rw [rdS, if_pos h1, if_neg h2, if_neg hc]; exact g2
            · rw [rdS, if_pos h1, if_neg h2, if_neg hc]
              rw [← g3]
              simp -implicitDefEqProofs [L_spec_l11Read, cutK_eq, rdyV_nil, rdyV_cons, h1', hx, hsub, s_spec_l1Min, hmin, s1, p1, p2, k2, hKx, ix0, s3, hcn, hc, hpos]
    · have h1' : ¬ (out.length : Int) < n := by omega
      refine ⟨p, by simp [rdS, h1], fun h => by simp [rdS, h1] at h, ?_⟩
      simp -implicitDefEqProofs [L_spec_l11Read, retK_eq, rdyV_nil, rdyV_cons, rdS, h1, h1']
end Go.Ab
namespace Go.Ab
set_option linter.unusedSimpArgs false
set_option linter.unusedVariables false
set_option maxHeartbeats 4000000

/-! ## ReadLine of the reference -/
abbrev lrC (c : Int) (b : Bool) (v1 v2 v3 v4 : Value) (t : Bool) (m : Int) : List Value := [.int .i64 c, .bool b, v1, v2, v3, v4, .bool t, .int .i64 m]
abbrev lrV (c : Int) (b : Bool) (v1 v2 v3 v4 : Value) (t : Bool) (m : Int) : Value := .agg (lrC c b v1 v2 v3 v4 t m).toArray
abbrev lrB (c : Int) : Value := lrV c false nilW nilW nilW nilW false 0
def askF (w : WayT) (l : LnT) : Int := if wayF w = 0 then lineF l else wayF w
abbrev rlA (w : WayT) (l : LnT) (n : Int) : List Value := [wayV w, lnV l, .int .i64 n]
theorem s_spec_RL_bad (w : WayT) (l : LnT) (n : Int) (hl : l.small) (hf : askF w l ≠ 0) : X_spec_ReadLine (rlA w l n) [] = some (lrB (askF w l), []) := by
  have c1 := s_spec_l11Asked w l hl [] []
  have e : (if wayF w = 0 then lineF l else wayF w) = askF w l := rfl
  rw [e] at c1
  simp (maxSteps := 400000) -implicitDefEqProofs [X_spec_ReadLine, retK_eq, c1, hf]
theorem s_spec_RL_3 (w : WayT) (l : LnT) (n : Int) (hl : l.small) (hf : askF w l = 0) (hn : inB n 1 99 = false) : X_spec_ReadLine (rlA w l n) [] = some (lrB 3, []) := by
  have c1 := s_spec_l11Asked w l hl [] []
  have e : (if wayF w = 0 then lineF l else wayF w) = askF w l := rfl
  rw [e] at c1
  simp (maxSteps := 400000) -implicitDefEqProofs [X_spec_ReadLine, retK_eq, c1, hf, s_spec_l1In, hn]
theorem line_small40 {w : WayT} {l : LnT} (hf : askF w l = 0) : l.rows.length ≤ 40 ∧ l.size ≤ 40 := by
  unfold askF at hf
  split at hf
  · unfold lineF at hf
    split at hf
    · rename_i h; exact h
    · cases hf
  · rename_i h; exact absurd hf h
theorem s_spec_RL_0 (w : WayT) (l : LnT) (n : Int) (hl : l.small) (hf : askF w l = 0) (hn : inB n 1 99 = true) (hr : l.rows = []) : X_spec_ReadLine (rlA w l n) [] = some (lrV 0 false (slO 0 0) nilW nilW (frS eU8 l.cur) l.t l.n, [ownB eU8 []]) := by
  have c1 := s_spec_l11Asked w l hl [] []
  have e : (if wayF w = 0 then lineF l else wayF w) = askF w l := rfl
  rw [e] at c1
  have c2 := s_spec_l11Copy l (by rw [hr]; simp) hl.2.1 hl.2.2
  simp only [hr, if_true] at c2
  have c3 : X_spec_l11Read [ptr 0, .pointer (some ⟨1, 4, none⟩), .int .i64 n] [blk (wayT w []), blk [.int .i64 0, .bool false, nilW, nilW, nilW, frS eU8 l.cur, .bool l.t, .int .i64 l.n]] = some (slO 2 0, [blk (wayT w []), blk [.int .i64 0, .bool false, nilW, nilW, nilW, frS eU8 l.cur, .bool l.t, .int .i64 l.n], ownB eU8 []]) := by
    obtain ⟨q, hq⟩ : ∃ q, QQ = q + 1 := ⟨QQ - 1, by unfold QQ; omega⟩
    simp -implicitDefEqProofs [X_spec_l11Read, L_spec_l11Read, retK_eq, cutK_eq, hq]
    rfl
  obtain ⟨rows, cur, t, m⟩ := l
  simp only at hr
  subst hr
  simp only at c1 c2 c3
  have e0 : lenX (frS eBS []) = some (.int .i64 0) := rfl
  simp (maxSteps := 400000) -implicitDefEqProofs [X_spec_ReadLine, retK_eq, c1, hf, s_spec_l1In, hn, c2, c3, e0]
theorem s_spec_RL (w : WayT) (l : LnT) (n : Nat) (hl : l.small) (hf : askF w l = 0) (hn : inB n 1 99 = true) (hr : l.rows ≠ []) : ∃ p : List (List Int), ((rdS (cnB w) n [] l.rows).2 = [] → p ≠ []) ∧ p.length + (rdS (cnB w) n [] l.rows).2.length = l.rows.length ∧ X_spec_ReadLine (rlA w l n) [] = some (lrV 0 true (slO 0 (rdS (cnB w) n [] l.rows).1.length) nilW (rdyV 1 p (rdS (cnB w) n [] l.rows).2) (frS eU8 l.cur) l.t l.n, [ownB eU8 (rdS (cnB w) n [] l.rows).1, ownB eBS (p ++ (rdS (cnB w) n [] l.rows).2)]) := by
  have c1 := s_spec_l11Asked w l hl [] []
  have e : (if wayF w = 0 then lineF l else wayF w) = askF w l := rfl
  rw [e] at c1
  obtain ⟨h40, _⟩ := line_small40 hf
  have c2 := s_spec_l11Copy l (by omega) hl.2.1 hl.2.2
  simp only [hr, if_false] at c2
  have hn99 : n ≤ 99 := by simp [inB] at hn; omega
  obtain ⟨p, g1, g2, g3⟩ := l_spec_l11Read w l.cur l.t l.n n hn99 l.rows [] [] QQ (by unfold QQ; omega) (by simp; omega) (fun h => absurd h hr) hl.2.1 (by simp)
  refine ⟨p, g2, by simpa using g1, ?_⟩
  obtain ⟨rows, cur, t, m⟩ := l
  cases rows with
  | nil => exact absurd rfl hr
  | cons x r =>
    simp only at *
    generalize hRR : rdS (cnB w) n [] (x :: r) = RR at *
    obtain ⟨O, R'⟩ := RR
    simp only [List.nil_append, List.length_nil, rdyV_cons] at g3
    have c3 : X_spec_l11Read [ptr 0, .pointer (some ⟨1, 4, none⟩), .int .i64 n] [blk (wayT w []), rsB (slO 2 (r.length + 1)) cur t m, ownB eBS (x :: r)] = some (slO 3 O.length, [blk (wayT w []), rsB (rdyV 2 p R') cur t m, ownB eBS (p ++ R'), ownB eU8 O]) := by
      simp -implicitDefEqProofs [X_spec_l11Read, cutK_eq]
      exact g3
    have hpos : (0 : Int) < (r.length : Int) + 1 := by omega
    cases R' with
    | nil =>
      simp only [rdyV_nil] at c3 ⊢
      simp (maxSteps := 400000) -implicitDefEqProofs [X_spec_ReadLine, retK_eq, c1, hf, s_spec_l1In, hn, c2, c3, hpos]
    | cons y R' =>
      simp only [rdyV_cons] at c3 ⊢
      simp (maxSteps := 400000) -implicitDefEqProofs [X_spec_ReadLine, retK_eq, c1, hf, s_spec_l1In, hn, c2, c3, hpos]
end Go.Ab
namespace Go.Ab
set_option linter.unusedSimpArgs false
set_option linter.unusedVariables false
set_option maxHeartbeats 4000000

/-! ## ReadLine of the program: its answers' memory, its loop -/
theorem nm_edV (o : Nat) (cur : List Int) : o :: nmV 7 (edV (o + 1) cur) = List.range' o (1 + (edM cur).length) := by
  unfold edV edM
  by_cases hd : cur = [] <;> simp [hd, List.range'_succ]
theorem ret_line {mm : Mem} {y o k n : Nat} {cur out : List Int} {t : Bool} {m : Int} {es : List (El Int)} (H : LineSeg mm o cur es) (hy : mm[y]? = some (ownB eU8 out)) (hyo : y < o ∨ o + (1 + (edM cur).length + famN es) ≤ y) (hn : famN es < 4000000) (pv : List Value) : retK 0 mm pv (lrV 0 true (slO y n) nilW (slO o k) (edV (o + 1) cur) t m) = some (lrV 0 true (slO 0 n) nilW (slO 1 k) (edV 2 cur) t m, ownB eU8 out :: famB (2 + (edM cur).length) 1 es :: (edM cur ++ famM eU8 es)) := by
  have hE := edM_le cur
  have hnd : ([y] ++ List.range' o (1 + (edM cur).length + famN es)).Nodup := List.nodup_cons.2 ⟨fun h => by have h : y ∈ List.range' o (1 + (edM cur).length + famN es) := h; rw [mem_range'] at h; omega, List.nodup_range'⟩
  have l2 := H.loc2 [y] hnd
  have hix := ix_line hnd
  have h1 : reachF 4194304 mm (y :: List.range' o (1 + (edM cur).length)) [] = some ([y] ++ List.range' o (1 + (edM cur).length + famN es)) := by
    obtain ⟨K, hK⟩ : ∃ K, (4194304 : Nat) = K + 1 := ⟨4194303, rfl⟩
    rw [hK, reach_one hy (by simp) (nmB_own eU8 out), List.append_nil]
    exact H.reach [y] _ (fun x hx => by simp at hx; omega) (by omega)
  have h2 : locM mm ([y] ++ List.range' o (1 + (edM cur).length + famN es)) ([y] ++ List.range' o (1 + (edM cur).length + famN es)) = some (ownB eU8 out :: famB (2 + (edM cur).length) 1 es :: (edM cur ++ famM eU8 es)) := by
    have e : [y].length + 1 + (edM cur).length = 2 + (edM cur).length := rfl
    rw [e] at l2
    show locM mm _ (y :: List.range' o (1 + (edM cur).length + famN es)) = _
    rw [loc_one hy (locB_own eU8 _ out), l2]
    rfl
  have i0 := hix 0 (by omega)
  have iy : ixOf ([y] ++ List.range' o (1 + (edM cur).length + famN es)) y = some 0 := by simp
  refine ret_of h1 h2 ?_ ?_
  · rw [← nm_edV]
    simp
  · generalize [y] ++ List.range' o (1 + (edM cur).length + famN es) = RR at *
    unfold edV
    by_cases hd : cur = []
    · simp at i0
      simp [hd, i0, iy]
    · have i1 := hix 1 (by unfold edM; rw [if_neg hd]; simp; omega)
      simp at i0
      simp [hd, i0, i1, iy]
end Go.Ab
namespace Go.Ab
set_option linter.unusedSimpArgs false
set_option linter.unusedVariables false
set_option maxHeartbeats 4000000

/-! ## A line in a box, frozen -/
theorem fz_partF {k c j b : Nat} {mm P Q : Mem} {L R : List (El Int)} (hb : mm[j]? = some (famB b 1 (L ++ R))) (hm : mm = P ++ (famM eU8 R ++ Q)) (hP : P.length = b + famN L) (hok : ∀ e ∈ R, e.ok eU8) (hL : ∀ e ∈ L, e.a.length + 1 + e.b.length = 1) (hR : ∀ e ∈ R, e.a.length + 1 + e.b.length = 1) : fz (k + 3) mm (slQ j L.length R.length c) = some (roS R.length (R.flatMap (El.fro eU8))) := by
  have hf := fz_fam eU8 (k := k) R P Q hok
  rw [← hm, hP] at hf
  rw [fz_slO, hb]
  unfold fzO
  split
  · rename_i h0
    obtain rfl : R = [] := List.eq_nil_of_length_eq_zero h0
    rfl
  · rename_i h0
    have l1 : (famX b L).length = L.length := by have := famX_len L b hL; omega
    have l2 : (famX (b + famN L) R).length = R.length := by have := famX_len R (b + famN L) hR; omega
    have hr : fzO.rdB (famB b 1 (L ++ R)) L.length (R.length * (famB b 1 (L ++ R)).es) = some (famX (b + famN L) R) := by
      show fzO.rdB ⟨famX b (L ++ R), 1, true, true⟩ L.length (R.length * 1) = _
      rw [famX_app]
      unfold fzO.rdB
      split
      · omega
      · rw [if_pos ⟨rfl, by rw [List.length_append, l1, l2]; omega⟩, ← l1, List.drop_left, List.take_of_length_le (by rw [l2]; omega)]
    simp only [hr, ob_some, hf]
    rfl
theorem elK_sz (x : List Int) : (elK x).a.length + 1 + (elK x).b.length = 1 := rfl
theorem elU_sz (x : List Int) : (elU x).a.length + 1 + (elU x).b.length = 1 := rfl
theorem fro_K (r : List (List Int)) : (r.map elK).flatMap (El.fro eU8) = cellsE eBS r := by
  induction r with
  | nil => rfl
  | cons x r ih =>
    have e : El.fro eU8 (elK x) = [frS eU8 x] := by
      unfold El.fro elK
      by_cases hx : x = []
      · simp [hx, Pc.con]
      · simp [hx, Pc.con]
    rw [List.map_cons, List.flatMap_cons, e, ih, cellsE_cons]
    rfl
theorem fro_H (x : List Int) (k : Nat) : El.fro eU8 (elH x k) = [frS eU8 (x.drop k)] := rfl
end Go.Ab
namespace Go.Ab
set_option linter.unusedSimpArgs false
set_option linter.unusedVariables false
set_option maxHeartbeats 4000000

/-! ## ReadLine of the program: how its loop ends -/
abbrev rzB : Blk := blk (lrC 0 false nilW nilW nilW nilW false 0)
theorem rl_exit {mm : Mem} {w : WayT} {a len c n q : Nat} {cur out : List Int} {t : Bool} {m : Int} {R : List (List Int)} (g0 : mm[0]? = some (blk (wayT w []))) (g1 : mm[1]? = some rzB) (g2 : mm[2]? = some (lbB 4 a len c cur t m)) (g3 : mm[3]? = some (ownB eU8 out)) (hz : fz 64 mm (.agg #[slQ 4 a len c, edV 5 cur, .bool t, .int .i64 m]) = some (lnV ⟨R, cur, t, m⟩)) (hR : R.length < 1000000) (hb : ∀ x ∈ R, x.length < 1000000000) (hcu : cur.length < 1000000000) (hc : cnB w = true ∨ len = 0 ∨ ¬ out.length < n) : L_impl_ReadLine 0 (q + 1) 0 [.int .i64 n, ptr 0, ptr 1, ptr 2, slO 3 out.length] mm = some (lrV 0 true (slO 0 out.length) nilW (slO 1 R.length) (edV 2 cur) t m, ownB eU8 out :: famB (2 + (edM cur).length) 1 (R.map elK) :: (edM cur ++ famM eU8 (R.map elK))) := by
  have hW : fcall X_impl_Way_has [wayV w, .int .i64 1] mm = some (.bool (cnB w), mm) := f_ask (mapO2 (by simp) (by simp)) (s_impl_Way_has w) rfl
  have hcl := f_clone mm _ ⟨R, cur, t, m⟩ hz hR hb hcu
  have hlen : 3 < mm.length := (List.getElem?_eq_some_iff.1 g3).1
  have hok := ok_K R
  have hN := famN_K R
  simp only at hcl
  have hret : ∀ pv, retK 0 ((mm ++ (famB (mm.length + 1 + (edM cur).length) 1 (R.map elK) :: (edM cur ++ famM eU8 (R.map elK)))).set 1 (blk (lrC 0 true (slO 3 out.length) nilW (slO mm.length R.length) (edV (mm.length + 1) cur) t m))) pv (lrV 0 true (slO 3 out.length) nilW (slO mm.length R.length) (edV (mm.length + 1) cur) t m) = some (lrV 0 true (slO 0 out.length) nilW (slO 1 R.length) (edV 2 cur) t m, ownB eU8 out :: famB (2 + (edM cur).length) 1 (R.map elK) :: (edM cur ++ famM eU8 (R.map elK))) := by
    intro pv
    refine ret_line (y := 3) (o := mm.length) (out := out) ⟨fun i x h => ?_, hok⟩ ?_ (by omega) (by omega) pv
    · rw [List.getElem?_set_ne (by omega), List.getElem?_append_right (by omega), Nat.add_sub_cancel_left]
      exact h
    · rw [List.getElem?_set_ne (by omega), List.getElem?_append_left hlen]
      exact g3
  have s1 : (mm ++ (famB (mm.length + 1 + (edM cur).length) 1 (R.map elK) :: (edM cur ++ famM eU8 (R.map elK))))[1]? = some rzB := by
    rw [List.getElem?_append_left (by omega)]
    exact g1
  have s2 : ((mm ++ (famB (mm.length + 1 + (edM cur).length) 1 (R.map elK) :: (edM cur ++ famM eU8 (R.map elK)))).set 1 (blk (lrC 0 true (slO 3 out.length) nilW (slO mm.length R.length) (edV (mm.length + 1) cur) t m)))[1]? = some (blk (lrC 0 true (slO 3 out.length) nilW (slO mm.length R.length) (edV (mm.length + 1) cur) t m)) := by
    rw [List.getElem?_set_self (by simp; omega)]
  generalize mm ++ (famB (mm.length + 1 + (edM cur).length) 1 (R.map elK) :: (edM cur ++ famM eU8 (R.map elK))) = MM at *
  have fe : ∀ k, flat (edV k cur) = true := fun k => by unfold edV; split <;> rfl
  generalize ownB eU8 out :: famB (2 + (edM cur).length) 1 (R.map elK) :: (edM cur ++ famM eU8 (R.map elK)) = RES at *
  by_cases h1 : cnB w = true
  · simp (maxSteps := 400000) -implicitDefEqProofs [-fcall_eq, -rcall_eq, L_impl_ReadLine, g0, g2, hW, hcl, h1, s1, s2, fe, hret]
  · have h1' : cnB w = false := by simpa using h1
    rcases Nat.eq_zero_or_pos len with h2 | h2
    · subst h2
      simp (maxSteps := 400000) -implicitDefEqProofs [-fcall_eq, -rcall_eq, L_impl_ReadLine, g0, g2, hW, hcl, h1', s1, s2, fe, hret]
    · have h3 : ¬ (out.length : Int) < n := by
        rcases hc with h | h | h
        · exact absurd h h1
        · omega
        · omega
      simp (maxSteps := 400000) -implicitDefEqProofs [-fcall_eq, -rcall_eq, L_impl_ReadLine, g0, g2, hW, hcl, h1', h2, h3, s1, s2, fe, hret]
end Go.Ab
namespace Go.Ab
set_option linter.unusedSimpArgs false
set_option linter.unusedVariables false
set_option maxHeartbeats 4000000

/-! ## ReadLine of the program: a round of its loop -/
abbrev rlM (w : WayT) (cur out : List Int) (t : Bool) (m : Int) (a len c : Nat) (es : List (El Int)) : Mem := blk (wayT w []) :: rzB :: lbB 4 a len c cur t m :: ownB eU8 out :: famB (5 + (edM cur).length) 1 es :: (edM cur ++ famM eU8 es)
theorem rlM_at (w : WayT) (cur out : List Int) (t : Bool) (m : Int) (a len c : Nat) (es : List (El Int)) (hok : ∀ e ∈ es, e.ok eU8) : LineAt (rlM w cur out t m a len c es) 2 4 a len c cur t m es := ⟨⟨fun i x h => by
  rw [show 4 + i = i + 1 + 1 + 1 + 1 by omega]
  exact h, hok⟩, rfl⟩
theorem rl_step (w : WayT) (cur out y : List Int) (t : Bool) (m : Int) (a len c a' len' c' n q : Nat) (es es' : List (El Int)) (v' : Value) (hok' : ∀ e ∈ es', e.ok eU8) (hn : famN es' < 4000000) (hcn : cnB w = false) (hlen : 0 < len) (hon : out.length < n) (hn9 : n ≤ 99) (hfl : flat v' = true)
    (hcall : rcall X_impl_Line_next [ptr 2, .int .i64 ((n - out.length : Nat) : Int)] (rlM w cur out t m a len c es) = some (v', rlM w cur out t m a' len' c' es'))
    (hap : apL (rlM w cur out t m a' len' c' es') 1 1 (slO 3 out.length) v' = some (slO (rlM w cur out t m a' len' c' es').length (out ++ y).length, (rlM w cur out t m a' len' c' es').set 3 ⟨cellsE eU8 out, 1, true, false⟩ ++ [ownB eU8 (out ++ y)])) :
    L_impl_ReadLine 0 (q + 1) 0 [.int .i64 n, ptr 0, ptr 1, ptr 2, slO 3 out.length] (rlM w cur out t m a len c es) = L_impl_ReadLine 0 q 0 [.int .i64 n, ptr 0, ptr 1, ptr 2, slO 3 (out ++ y).length] (rlM w cur (out ++ y) t m a' len' c' es') := by
  have hE := edM_le cur
  have hl : (rlM w cur out t m a' len' c' es').length = 5 + (edM cur).length + famN es' := by simp; omega
  have hW : fcall X_impl_Way_has [wayV w, .int .i64 1] (rlM w cur out t m a len c es) = some (.bool (cnB w), rlM w cur out t m a len c es) := f_ask (mapO2 (by simp) (by simp)) (s_impl_Way_has w) rfl
  rw [hcn] at hW
  have g0 : (rlM w cur out t m a len c es)[0]? = some (blk (wayT w [])) := rfl
  have g2 : (rlM w cur out t m a len c es)[2]? = some (lbB 4 a len c cur t m) := rfl
  have hcut : ∀ pv, cutK 0 ((rlM w cur out t m a' len' c' es').set 3 ⟨cellsE eU8 out, 1, true, false⟩ ++ [ownB eU8 (out ++ y)]) pv [.int .i64 n, ptr 0, ptr 1, ptr 2, slO (rlM w cur out t m a' len' c' es').length (out ++ y).length] (L_impl_ReadLine 0 q 0) = L_impl_ReadLine 0 q 0 [.int .i64 n, ptr 0, ptr 1, ptr 2, slO 3 (out ++ y).length] (rlM w cur (out ++ y) t m a' len' c' es') := by
    intro pv
    have hb := rlM_at w cur out t m a' len' c' es' hok'
    have get : ∀ i, i ≠ 3 → i < (rlM w cur out t m a' len' c' es').length → ((rlM w cur out t m a' len' c' es').set 3 ⟨cellsE eU8 out, 1, true, false⟩ ++ [ownB eU8 (out ++ y)])[i]? = (rlM w cur out t m a' len' c' es')[i]? := fun i h1 h2 => by
      rw [List.getElem?_append_left (by rw [List.length_set]; exact h2), List.getElem?_set_ne (by omega)]
    refine cut_line (wb := blk (wayT w [])) (rb := rzB) (b := 2) (y := (rlM w cur out t m a' len' c' es').length) (o := 4) (out := out ++ y) ⟨⟨fun i x h => ?_, hok'⟩, ?_⟩ ?_ rfl ?_ rfl ?_ hn ?_
    · have := hb.seg i x h
      rw [get (4 + i) (by omega) (List.getElem?_eq_some_iff.1 this).1]
      exact this
    · rw [get 2 (by omega) (by omega)]; rfl
    · rw [get 0 (by omega) (by omega)]; rfl
    · rw [get 1 (by omega) (by omega)]; rfl
    · rw [List.getElem?_append_right (by rw [List.length_set]; omega), List.length_set, Nat.sub_self]; rfl
    · rw [hl]
      refine List.nodup_cons.2 ⟨fun h => ?_, List.nodup_cons.2 ⟨fun h => ?_, List.nodup_cons.2 ⟨fun h => ?_, List.nodup_cons.2 ⟨fun h => ?_, List.nodup_range'⟩⟩⟩⟩
      · simp only [List.mem_cons, mem_range'] at h; omega
      · simp only [List.mem_cons, mem_range'] at h; omega
      · simp only [List.mem_cons, mem_range'] at h; omega
      · rw [mem_range'] at h; omega
  generalize (rlM w cur out t m a' len' c' es').length = LL at *
  generalize rlM w cur out t m a' len' c' es' = M1 at *
  generalize rlM w cur out t m a len c es = M0 at *
  have h3 : (out.length : Int) < n := by omega
  have hw : IntKind.i64.wrap ((n : Int) - out.length) = ((n - out.length : Nat) : Int) := by
    rw [wrap_i64 (by omega) (by omega)]
    omega
  simp (maxSteps := 400000) -implicitDefEqProofs [-fcall_eq, -rcall_eq, L_impl_ReadLine, g0, g2, hW, hlen, h3, hw, hcall, hap]
  have := hcut [.int .i64 n]
  rw [List.length_append] at this
  exact this
end Go.Ab
namespace Go.Ab
set_option linter.unusedSimpArgs false
set_option linter.unusedVariables false
set_option maxHeartbeats 4000000

/-! ## ReadLine of the program: what a piece gives -/
theorem okU (P : List (List Int)) : ∀ e ∈ P.map elU, e.ok eU8 := by
  intro e he
  obtain ⟨x, _, rfl⟩ := List.mem_map.1 he
  exact elU_ok x
theorem famX_Ulen (k : Nat) (l : List (List Int)) : (famX k (l.map elU)).length = l.length := by
  induction l generalizing k with
  | nil => rfl
  | cons x r ih => simp [famX, elU, ih]
theorem famN_U (l : List (List Int)) : famN (l.map elU) ≤ l.length := by
  induction l with
  | nil => exact Nat.le_refl _
  | cons x r ih =>
    have : (elU x).p.n ≤ 1 := by unfold elU; split <;> simp [Pc.n]
    simp only [List.map_cons, famN, List.length_cons]
    omega
/-- Where the first piece lies. -/
theorem rlM_get (w : WayT) (cur out : List Int) (t : Bool) (m : Int) (a len c : Nat) (L R : List (El Int)) (e : El Int) (x : List Int) (he : e.p.mem eU8 = [ownB eU8 x]) : (rlM w cur out t m a len c (L ++ e :: R))[5 + (edM cur).length + famN L]? = some (ownB eU8 x) := by
  rw [show 5 + (edM cur).length + famN L = (edM cur).length + famN L + 1 + 1 + 1 + 1 + 1 by omega]
  simp only [rlM, List.getElem?_cons_succ]
  rw [famM_app, famM, he, ← List.append_assoc, List.getElem?_append_right (by simp), List.length_append, famM_len, Nat.sub_self]
  rfl
theorem ap_part (w : WayT) (cur out : List Int) (t : Bool) (m : Int) (a len c : Nat) (es : List (El Int)) (z k cc : Nat) (x : List Int) (hz : (rlM w cur out t m a len c es)[z]? = some (ownB eU8 x)) (hk : k ≤ x.length) (hb : out.length + x.length < 1000000000) : apL (rlM w cur out t m a len c es) 1 1 (slO 3 out.length) (slQ z 0 k cc) = some (slO (rlM w cur out t m a len c es).length (out ++ x.take k).length, (rlM w cur out t m a len c es).set 3 ⟨cellsE eU8 out, 1, true, false⟩ ++ [ownB eU8 (out ++ x.take k)]) := by
  have hr : rdM (some (ownB eU8 x)) 0 (k * 1) = some (cellsE eU8 (x.take k)) := by
    have ek : (cellsE eU8 (x.take k)).length = k := by rw [cellsE_len]; simp; omega
    have ex : cellsE eU8 x = cellsE eU8 (x.take k) ++ cellsE eU8 (x.drop k) := by rw [← cellsE_append, List.take_append_drop]
    have exl : k ≤ (cellsE eU8 x).length := by rw [ex, List.length_append]; omega
    unfold rdM fzO.rdB
    by_cases h0 : k = 0
    · subst h0
      rw [if_pos rfl]
      rfl
    · rw [if_neg (by omega)]
      simp only
      rw [if_neg (by omega), if_pos ⟨rfl, by show 0 + k * 1 ≤ (cellsE eU8 x).length; omega⟩]
      show some (((cellsE eU8 x).drop 0).take (k * 1)) = _
      rw [List.drop_zero, Nat.mul_one, ex, List.take_left' ek]
  have h3 : (rlM w cur out t m a len c es)[3]? = some (ownB eU8 out) := rfl
  have ek : (x.take k).length = k := by simp; omega
  have p2 := apB_own (E := eU8) (m := rlM w cur out t m a len c es) (l := out) (n := 3) (sz := 1) (cs := cellsE eU8 (x.take k)) (k := k) rfl
  rw [apL_sl (by omega) (by omega), hz, hr, bo_some, h3, p2, List.length_append, ek]
  have : (⟨cellsE eU8 out ++ cellsE eU8 (x.take k), 1, true, true⟩ : Blk) = ownB eU8 (out ++ x.take k) := by rw [← cellsE_append]; rfl
  rw [this]
  rfl
theorem ap_none (w : WayT) (cur out : List Int) (t : Bool) (m : Int) (a len c : Nat) (es : List (El Int)) (hb : out.length < 1000000000) : apL (rlM w cur out t m a len c es) 1 1 (slO 3 out.length) (roS 0 []) = some (slO (rlM w cur out t m a len c es).length (out ++ []).length, (rlM w cur out t m a len c es).set 3 ⟨cellsE eU8 out, 1, true, false⟩ ++ [ownB eU8 (out ++ [])]) := by
  have h3 : (rlM w cur out t m a len c es)[3]? = some (ownB eU8 out) := rfl
  have p1 := apL_frS (E := eU8) (m := rlM w cur out t m a len c es) (sz := 1) (bytes := 1) (n := 3) (o := 0) (len := out.length) (c := out.length) (l := []) rfl (by simpa using hb) (by omega)
  have p2 := apB_own (E := eU8) (m := rlM w cur out t m a len c es) (l := out) (n := 3) (sz := 1) (cs := cellsE eU8 []) (k := 0) rfl
  have p1' : apL (rlM w cur out t m a len c es) 1 1 (slO 3 out.length) (roS 0 []) = _ := p1
  rw [p1', h3]
  refine Eq.trans p2 ?_
  rw [List.append_nil]
  have : (⟨cellsE eU8 out ++ cellsE eU8 [], 1, true, true⟩ : Blk) = ownB eU8 out := by rw [← cellsE_append, List.append_nil]; rfl
  rw [this]
  rfl
end Go.Ab
namespace Go.Ab
set_option linter.unusedSimpArgs false
set_option linter.unusedVariables false
set_option maxHeartbeats 4000000

/-! ## ReadLine of the program: its loop, frozen lines -/
theorem fz_edV (mm : Mem) (k : Nat) (cur : List Int) (h : cur ≠ [] → mm[k]? = some (ownB eU8 cur)) : fz 63 mm (edV k cur) = some (frS eU8 cur) := by
  unfold edV
  by_cases hd : cur = []
  · rw [if_pos hd, hd]; rfl
  · rw [if_neg hd]
    have := h hd
    simp [this]
theorem rlM_ed (w : WayT) (cur out : List Int) (t : Bool) (m : Int) (a len c : Nat) (es : List (El Int)) (hd : cur ≠ []) : (rlM w cur out t m a len c es)[5]? = some (ownB eU8 cur) := by
  have e1 : edM cur = [ownB eU8 cur] := by unfold edM; rw [if_neg hd]
  simp only [rlM, List.getElem?_cons_succ]
  rw [e1]
  rfl
theorem fz_rl (w : WayT) (cur out : List Int) (t : Bool) (m : Int) (c : Nat) (L R : List (El Int)) (rows : List (List Int)) (hR : ∀ e ∈ R, e.ok eU8) (hL1 : ∀ e ∈ L, e.a.length + 1 + e.b.length = 1) (hR1 : ∀ e ∈ R, e.a.length + 1 + e.b.length = 1) (hlen : R.length = rows.length) (hfro : R.flatMap (El.fro eU8) = cellsE eBS rows) (a : Nat) (ha : R = [] ∨ a = L.length) : fz 64 (rlM w cur out t m a rows.length c (L ++ R)) (.agg #[slQ 4 a rows.length c, edV 5 cur, .bool t, .int .i64 m]) = some (lnV ⟨rows, cur, t, m⟩) := by
  have f2 := fz_edV (rlM w cur out t m a rows.length c (L ++ R)) 5 cur (rlM_ed w cur out t m a rows.length c (L ++ R))
  have f1 : fz 63 (rlM w cur out t m a rows.length c (L ++ R)) (slQ 4 a rows.length c) = some (frS eBS rows) := by
    rcases ha with h | h
    · subst h
      have h0 : rows = [] := List.eq_nil_of_length_eq_zero hlen.symm
      subst h0
      rfl
    · subst h
      have := fz_partF (k := 60) (c := c) (j := 4) (b := 5 + (edM cur).length) (mm := rlM w cur out t m L.length rows.length c (L ++ R)) (P := blk (wayT w []) :: rzB :: lbB 4 L.length rows.length c cur t m :: ownB eU8 out :: famB (5 + (edM cur).length) 1 (L ++ R) :: (edM cur ++ famM eU8 L)) (Q := []) (L := L) (R := R) rfl (by simp [famM_app]) (by simp [famM_len]; omega) hR hL1 hR1
      rw [hlen, hfro] at this
      exact this
  rw [fz_agg]
  simp only [mapO, f1, f2]
  rfl
theorem tlS_eq (k : Nat) (P r : List (List Int)) (x : List Int) : tlS k P.length r.length = slQ k (if r = [] then P.length else P.length + 1) r.length r.length := by
  cases r <;> simp [tlS]
abbrev RES (cur : List Int) (t : Bool) (m : Int) (o : List Int × List (List Int)) : Option VM := some (lrV 0 true (slO 0 o.1.length) nilW (slO 1 o.2.length) (edV 2 cur) t m, ownB eU8 o.1 :: famB (2 + (edM cur).length) 1 (o.2.map elK) :: (edM cur ++ famM eU8 (o.2.map elK)))
theorem sz_U (P : List (List Int)) : ∀ e ∈ P.map elU, e.a.length + 1 + e.b.length = 1 := by
  intro e he
  obtain ⟨x, _, rfl⟩ := List.mem_map.1 he
  rfl
theorem sz_K (P : List (List Int)) : ∀ e ∈ P.map elK, e.a.length + 1 + e.b.length = 1 := by
  intro e he
  obtain ⟨x, _, rfl⟩ := List.mem_map.1 he
  rfl
theorem okUK (P r : List (List Int)) : ∀ e ∈ P.map elU ++ r.map elK, e.ok eU8 := by
  intro e he
  rcases List.mem_append.1 he with h | h
  · exact okU P e h
  · exact ok_K r e h
theorem l_RL (w : WayT) (cur : List Int) (t : Bool) (m : Int) (n : Nat) (hn : n ≤ 99) (hcn : cnB w = false) (hcu : cur.length < 1000000000) (r : List (List Int)) : ∀ (P : List (List Int)) (out : List Int) (q : Nat), r.length < q → P.length + r.length < 1000 → (∀ x ∈ r, x.length < 1000000) → out.length ≤ n → L_impl_ReadLine 0 q 0 [.int .i64 n, ptr 0, ptr 1, ptr 2, slO 3 out.length] (rlM w cur out t m (if r = [] then P.length - 1 else P.length) r.length r.length (P.map elU ++ r.map elK)) = RES cur t m (rdS false n out r) := by
  induction r with
  | nil =>
    intro P out q hq hl hb ho
    obtain ⟨q, rfl⟩ : ∃ j, q = j + 1 := ⟨q - 1, by omega⟩
    have hz := fz_rl w cur out t m 0 (P.map elU) [] [] (by simp) (sz_U P) (by simp) rfl rfl (P.length - 1) (.inl rfl)
    rw [rdS, if_pos rfl]
    exact rl_exit (R := []) rfl rfl rfl rfl hz (by simp) (by simp) hcu (.inr (.inl rfl))
  | cons x r ih =>
    intro P out q hq hl hb ho
    obtain ⟨q, rfl⟩ : ∃ j, q = j + 1 := ⟨q - 1, by omega⟩
    have hbx := hb x (by simp)
    rw [if_neg (by simp)]
    by_cases h1 : out.length < n
    · have ok0 := okUK P (x :: r)
      have hl' : P.length + (r.length + 1) < 1000 := hl
      have hN1 := famN_U P
      have hN2 := famN_K r
      have hLa : ∀ k, (famX k (P.map elU)).length = P.length := fun k => famX_Ulen k P
      have hAt := rlM_at w cur out t m P.length (r.length + 1) (r.length + 1) (P.map elU ++ elK x :: r.map elK) ok0
      have hE := edM_le cur
      have ok1 : ∀ e ∈ P.map elU ++ elU x :: r.map elK, e.ok eU8 := by
        have := okUK (P ++ [x]) r
        rw [List.map_append, List.append_assoc] at this
        exact this
      have eP : P.map elU ++ elU x :: r.map elK = (P ++ [x]).map elU ++ r.map elK := by simp
      have eA : (if r = [] then (P ++ [x]).length - 1 else (P ++ [x]).length) = (if r = [] then P.length else P.length + 1) := by split <;> simp
      by_cases hx : x = []
      · subst hx
        have s0 := s_next0 P.length r.length (n - out.length) cur t m (P.map elU) (r.map elK) (okU P) (ok_K r) hLa (by omega) (by omega) (by omega)
        have e0 : (elU [] : El Int) = elK [] := rfl
        unfold lbV at s0
        rw [tlS_eq 1 P r []] at s0
        have hc := rcall_lineG hAt (.inl (by omega)) (if r = [] then P.length else P.length + 1) r.length r.length (n - out.length) (P.map elU ++ elU [] :: r.map elK) ok1 (by rw [e0]) (by rw [e0]) (by rw [famN_app]; simp [famN, elK, Pc.n]; omega) (roS 0 []) (roS 0 []) (.inl ⟨rfl, rfl⟩) s0
        have hstep := rl_step w cur out [] t m P.length (r.length + 1) (r.length + 1) (if r = [] then P.length else P.length + 1) r.length r.length n q (P.map elU ++ elK [] :: r.map elK) (P.map elU ++ elU [] :: r.map elK) (roS 0 []) ok1 (by rw [famN_app]; simp [famN, elU, Pc.n]; omega) hcn (by omega) h1 hn rfl hc (ap_none w cur out t m _ _ _ _ (by omega))
        have h := ih (P ++ [[]]) (out ++ []) q (by simp at hq; omega) (by simp at hl ⊢; omega) (fun y hy => hb y (by simp [hy])) (by simpa using ho)
        rw [rdS, if_pos h1, if_neg (by simp), if_neg (by simp)]
        rw [← h, eA, ← eP]
        exact hstep
      · obtain ⟨m1, m2, m3⟩ := famM_UH x (n - out.length) hx
        have nU : (elU x).p.n = 1 := by unfold elU; simp [hx, Pc.n]
        have nK : (elK x).p.n = 1 := by unfold elK; simp [hx, Pc.n]
        have nH : (elH x (n - out.length)).p.n = 1 := rfl
        have eNU : famN (P.map elU ++ elU x :: r.map elK) = famN (P.map elU) + (1 + famN (r.map elK)) := by rw [famN_app, famN, nU]
        have eNK : famN (P.map elU ++ elK x :: r.map elK) = famN (P.map elU) + (1 + famN (r.map elK)) := by rw [famN_app, famN, nK]
        have eNH : famN (P.map elU ++ elH x (n - out.length) :: r.map elK) = famN (P.map elU) + (1 + famN (r.map elK)) := by rw [famN_app, famN, nH]
        have eMU : famM eU8 (P.map elU ++ elU x :: r.map elK) = famM eU8 (P.map elU ++ elK x :: r.map elK) := by rw [famM_app, famM_app, famM, famM, m1, m3]
        have eMH : famM eU8 (P.map elU ++ elH x (n - out.length) :: r.map elK) = famM eU8 (P.map elU ++ elK x :: r.map elK) := by rw [famM_app, famM_app, famM, famM, m2, m3]
        by_cases h2 : n - out.length < x.length
        · have s2 := s_next2 P.length r.length (n - out.length) cur t m x hx hbx h2 (by omega) (P.map elU) (r.map elK) (okU P) (ok_K r) hLa (by omega) (by omega) (by omega)
          have okH : ∀ e ∈ P.map elU ++ elH x (n - out.length) :: r.map elK, e.ok eU8 := by
            intro e he
            rcases List.mem_append.1 he with h | h
            · exact okU P e h
            · rcases List.mem_cons.1 h with rfl | h
              · exact elH_ok x _ h2
              · exact ok_K r e h
          have hc := rcall_lineG hAt (.inl (by omega)) P.length (r.length + 1) (r.length + 1) (n - out.length) (P.map elU ++ elH x (n - out.length) :: r.map elK) okH (by rw [eNH, eNK]) eMH (by omega) _ (slQ (5 + (edM cur).length + famN (P.map elU)) 0 (n - out.length) x.length) (.inr ⟨famN (P.map elU), n - out.length, x.length, by omega, rfl, rfl⟩) s2
          have hc' : rcall X_impl_Line_next [ptr 2, .int .i64 ((n - out.length : Nat) : Int)] (rlM w cur out t m P.length (r.length + 1) (r.length + 1) (P.map elU ++ elK x :: r.map elK)) = some (slQ (5 + (edM cur).length + famN (P.map elU)) 0 (n - out.length) x.length, rlM w cur out t m P.length (r.length + 1) (r.length + 1) (P.map elU ++ elH x (n - out.length) :: r.map elK)) := by
            rw [hc, rlM, rlM, eMH]
            rfl
          have hg := rlM_get w cur out t m P.length (r.length + 1) (r.length + 1) (P.map elU) (r.map elK) (elH x (n - out.length)) x m2
          have hstep := rl_step w cur out (x.take (n - out.length)) t m P.length (r.length + 1) (r.length + 1) P.length (r.length + 1) (r.length + 1) n q (P.map elU ++ elK x :: r.map elK) (P.map elU ++ elH x (n - out.length) :: r.map elK) _ okH (by omega) hcn (by omega) h1 hn rfl hc' (ap_part w cur out t m _ _ _ _ _ _ _ x hg (by omega) (by omega))
          obtain ⟨q, rfl⟩ : ∃ j, q = j + 1 := ⟨q - 1, by simp at hq; omega⟩
          have hz := fz_rl w cur (out ++ x.take (n - out.length)) t m (r.length + 1) (P.map elU) (elH x (n - out.length) :: r.map elK) (x.drop (n - out.length) :: r) (fun e he => okH e (List.mem_append_right _ he)) (sz_U P) (fun e he => by
            rcases List.mem_cons.1 he with rfl | he
            · rfl
            · exact sz_K r e he) (by simp) (by rw [List.flatMap_cons, fro_H, fro_K]; rfl) P.length (.inr (by simp))
          rw [rdS, if_pos h1, if_pos h2]
          refine Eq.trans hstep ?_
          exact rl_exit rfl rfl rfl rfl hz (by simp; omega) (fun y hy => by
            rcases List.mem_cons.1 hy with rfl | hy
            · simp; omega
            · have := hb y (by simp [hy]); omega) hcu (.inr (.inr (by simp; omega)))
        · have s1 := s_next1 P.length r.length (n - out.length) cur t m x hx hbx (by omega) (P.map elU) (r.map elK) (okU P) (ok_K r) hLa (by omega) (by omega) (by omega)
          unfold lbV at s1
          rw [tlS_eq 1 P r x] at s1
          have hc := rcall_lineG hAt (.inl (by omega)) (if r = [] then P.length else P.length + 1) r.length r.length (n - out.length) (P.map elU ++ elU x :: r.map elK) ok1 (by rw [eNU, eNK]) eMU (by omega) _ (slQ (5 + (edM cur).length + famN (P.map elU)) 0 x.length x.length) (.inr ⟨famN (P.map elU), x.length, x.length, by omega, rfl, rfl⟩) s1
          have hc' : rcall X_impl_Line_next [ptr 2, .int .i64 ((n - out.length : Nat) : Int)] (rlM w cur out t m P.length (r.length + 1) (r.length + 1) (P.map elU ++ elK x :: r.map elK)) = some (slQ (5 + (edM cur).length + famN (P.map elU)) 0 x.length x.length, rlM w cur out t m (if r = [] then P.length else P.length + 1) r.length r.length (P.map elU ++ elU x :: r.map elK)) := by
            rw [hc, rlM, rlM, eMU]
            rfl
          have hg := rlM_get w cur out t m (if r = [] then P.length else P.length + 1) r.length r.length (P.map elU) (r.map elK) (elU x) x m1
          have hap := ap_part w cur out t m (if r = [] then P.length else P.length + 1) r.length r.length (P.map elU ++ elU x :: r.map elK) _ x.length x.length x hg (Nat.le_refl _) (by omega)
          rw [List.take_of_length_le (Nat.le_refl _)] at hap
          have hstep := rl_step w cur out x t m P.length (r.length + 1) (r.length + 1) (if r = [] then P.length else P.length + 1) r.length r.length n q (P.map elU ++ elK x :: r.map elK) (P.map elU ++ elU x :: r.map elK) _ ok1 (by omega) hcn (by omega) h1 hn rfl hc' hap
          have h := ih (P ++ [x]) (out ++ x) q (by simp at hq; omega) (by simp at hl ⊢; omega) (fun y hy => hb y (by simp [hy])) (by simp; omega)
          rw [rdS, if_pos h1, if_neg h2, if_neg (by simp)]
          rw [← h, eA, ← eP]
          exact hstep
    · have hz := fz_rl w cur out t m (x :: r).length (P.map elU) ((x :: r).map elK) (x :: r) (ok_K _) (sz_U P) (sz_K _) (by simp) (fro_K _) P.length (.inr (by simp))
      rw [rdS, if_neg h1]
      exact rl_exit rfl rfl rfl rfl hz (by simp at hl ⊢; omega) (fun y hy => by have := hb y hy; omega) hcu (.inr (.inr h1))
end Go.Ab
namespace Go.Ab
set_option linter.unusedSimpArgs false
set_option linter.unusedVariables false
set_option maxHeartbeats 4000000

/-! ## ReadLine of the program: faults -/
theorem s_impl_RL_bad (w : WayT) (l : LnT) (n : Int) (hl : l.small) (hf : askF w l ≠ 0) : X_impl_ReadLine (rlA w l n) [] = some (lrB (askF w l), []) := by
  have c1 := s_impl_WayFault w
  have c2 := s_impl_LineFault l hl
  have c3 := s_impl_first3
  have e : (if wayF w = 0 then lineF l else wayF w) = askF w l := rfl
  by_cases h1 : wayF w = 0
  · rw [if_pos h1] at e
    rw [← e] at hf ⊢
    simp (maxSteps := 400000) -implicitDefEqProofs [X_impl_ReadLine, retK_eq, c1, c2, c3, s_impl_in, s_impl_unless, h1, hf]
  · rw [if_neg h1] at e
    rw [← e] at hf ⊢
    simp (maxSteps := 400000) -implicitDefEqProofs [X_impl_ReadLine, retK_eq, c1, c2, c3, s_impl_in, s_impl_unless, h1, hf]
theorem s_impl_RL_3 (w : WayT) (l : LnT) (n : Int) (hl : l.small) (hf : askF w l = 0) (hn : inB n 1 99 = false) : X_impl_ReadLine (rlA w l n) [] = some (lrB 3, []) := by
  have c1 := s_impl_WayFault w
  have c2 := s_impl_LineFault l hl
  have c3 := s_impl_first3
  have h1 : wayF w = 0 := by
    by_cases h : wayF w = 0
    · exact h
    · unfold askF at hf; rw [if_neg h] at hf; exact absurd hf h
  have h2 : lineF l = 0 := by unfold askF at hf; rwa [if_pos h1] at hf
  simp (maxSteps := 400000) -implicitDefEqProofs [X_impl_ReadLine, retK_eq, c1, c2, c3, s_impl_in, s_impl_unless, h1, h2, hn, unl]
end Go.Ab
